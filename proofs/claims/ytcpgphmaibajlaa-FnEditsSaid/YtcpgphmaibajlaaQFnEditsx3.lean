/- Contracts of functions of the statement FnEdits: the printed text, turned by a program of ours where it fell. -/
import Derived.Test.YtcpgphmaibajlaaPFnEditsx0
import Derived.Test.YtcpgphmaibajlaaQFnEditsx1
import Derived.Test.YtcpgphmaibajlaaQFnEditsx2
namespace Go.Proofs.Ytcpgphmaibajlaa.PFnEdits
open Go.RowKit Go.Proofs.YtcpgphmaibajlaaW.PrintWords Go.Proofs.YtcpgphmaibajlaaW.PrintLast Go.Proofs.YtcpgphmaibajlaaW.PrintMore
attribute [local go_sem] max2_int min2_int max_two min_two max_three min_three max_four min_four   -- for this text's walks alone
set_option linter.unusedVariables false
set_option linter.unusedSimpArgs false

/-! ### laws_FnEdits: function 6 -/
def laws_FnEdits.j0 : Nat → ByteArray → ByteArray → Int → Bool → Option (Bool)
  | 0, _, _, _, _ => none
  | k + 1, x3, x4, x5, x26 => if x26 = true then (some (decide (x5 ≥ 0))) else (if x3.size + 1 ≤ 9223372036854775807 then ((impl_Edits.f k (x3 ++ (⟨#[113]⟩ : ByteArray)) x4).bind fun t177 => ((impl_Edits.f k x4 x3).bind fun t178 => (if x5 = t178 then (if ((x5 == 0) == (x3.toList == x4.toList)) = true then (if t177 ≤ (wrap64 (x5 + 1)) then (if x5 ≤ (wrap64 (t177 + 1)) then (if x4.size + 1 ≤ 9223372036854775807 then ((impl_Edits.f k (x3 ++ (⟨#[113]⟩ : ByteArray)) (x4 ++ (⟨#[113]⟩ : ByteArray))).bind fun t179 => (some (decide (t179 ≤ x5)))) else (none)) else (some false)) else (some false)) else (some false)) else (some false)))) else (none))
def laws_FnEdits.f (k : Nat) (l0 : List Int) : Option (Bool) := (laws_big.f l0).bind fun t172 => (if t172 = true then (some true) else ((spec_DrawEdits.f k l0).bind fun bt173 => ((impl_Edits.f k bt173.1 bt173.2).bind fun t175 => ((impl_Edits.f k (⟨#[109, 105, 108, 108]⟩ : ByteArray) (⟨#[109, 105, 108]⟩ : ByteArray)).bind fun t176 => (if t176 = 1 then (if (bt173.1.size : Int) ≥ 40 then (laws_FnEdits.j0 k bt173.1 bt173.2 t175 true) else (laws_FnEdits.j0 k bt173.1 bt173.2 t175 (decide ((bt173.2.size : Int) ≥ 40)))) else (some false))))))
theorem laws_FnEdits.mono_l : ∀ k, (∀ y0 y1 y2 y3, LeO (laws_FnEdits.j0 k y0 y1 y2 y3) (laws_FnEdits.j0 (k + 1) y0 y1 y2 y3))
  | 0 => fun _ _ _ _ r h => by simp [laws_FnEdits.j0] at h
  | k + 1 => by
    have ih0 := laws_FnEdits.mono_l k
    · intro y0 y1 y2 y3
      unfold laws_FnEdits.j0
      repeat' first
      | (with_reducible exact ih0 _ _ _ _)
      | (with_reducible exact impl_Edits.mono _ _ _)
      | (with_reducible exact spec_DrawEdits.mono _ _)
      | (with_reducible exact LeO.refl _)
      | (with_reducible exact LeO.none _)
      | (with_reducible refine LeO.ite ?_ ?_)
      | (with_reducible refine LeO.bind ?_ (fun _ => ?_))
      | exact ih0 _ _ _ _
      | exact impl_Edits.mono _ _ _
      | exact spec_DrawEdits.mono _ _
      | exact LeO.none _
      | refine LeO.ite ?_ ?_
      | refine LeO.bind ?_ (fun _ => ?_)
theorem laws_FnEdits.mono : ∀ a0 k, LeO (laws_FnEdits.f k a0) (laws_FnEdits.f (k + 1) a0) := by
  intro a0 k
  have ih0 := laws_FnEdits.mono_l k
  unfold laws_FnEdits.f
  repeat' first
      | (with_reducible exact ih0 _ _ _ _)
      | (with_reducible exact impl_Edits.mono _ _ _)
      | (with_reducible exact spec_DrawEdits.mono _ _)
      | (with_reducible exact LeO.refl _)
      | (with_reducible exact LeO.none _)
      | (with_reducible refine LeO.ite ?_ ?_)
      | (with_reducible refine LeO.bind ?_ (fun _ => ?_))
      | exact ih0 _ _ _ _
      | exact impl_Edits.mono _ _ _
      | exact spec_DrawEdits.mono _ _
      | exact LeO.none _
      | refine LeO.ite ?_ ?_
      | refine LeO.bind ?_ (fun _ => ?_)
set_option maxHeartbeats 8000000 in
set_option maxRecDepth 100000 in
theorem laws_FnEdits.calls (k : Nat) (A0 : Option Addr) (c0 : Nat) (l0 : List Int) (r : Bool) (w : World) (hr0 : Kd.C (Kd.int .u8) w A0 l0.length l0) (hc0 : l0.length ≤ c0) (h : laws_FnEdits.f k l0 = some r) :
    Calls Try.prog 6 #[.slice A0 l0.length c0] w fun e w' => e = .returned (.bool r) ∧ Below w.heap.size w w' := by
  have HR0 := Aside0.mk hr0
  have HC0 := Aside0.mk hc0
  clear hr0 hc0
  have HB := Aside0.mk (Below.refl w.heap.size w)
  have H : ((laws_big.f l0).bind fun t172 => (if t172 = true then (some true) else ((spec_DrawEdits.f k l0).bind fun bt173 => ((impl_Edits.f k bt173.1 bt173.2).bind fun t175 => ((impl_Edits.f k (⟨#[109, 105, 108, 108]⟩ : ByteArray) (⟨#[109, 105, 108]⟩ : ByteArray)).bind fun t176 => (if t176 = 1 then (if (bt173.1.size : Int) ≥ 40 then (laws_FnEdits.j0 k bt173.1 bt173.2 t175 true) else (laws_FnEdits.j0 k bt173.1 bt173.2 t175 (decide ((bt173.2.size : Int) ≥ 40)))) else (some false))))))) = some r := h
  clear h
  replace H := Option.bind_eq_some_iff.mp H
  obtain ⟨t172, A20, H⟩ := H
  replace H : (if t172 = true then (some true) else ((spec_DrawEdits.f k l0).bind fun bt173 => ((impl_Edits.f k bt173.1 bt173.2).bind fun t175 => ((impl_Edits.f k (⟨#[109, 105, 108, 108]⟩ : ByteArray) (⟨#[109, 105, 108]⟩ : ByteArray)).bind fun t176 => (if t176 = 1 then (if (bt173.1.size : Int) ≥ 40 then (laws_FnEdits.j0 k bt173.1 bt173.2 t175 true) else (laws_FnEdits.j0 k bt173.1 bt173.2 t175 (decide ((bt173.2.size : Int) ≥ 40)))) else (some false)))))) = some r := H
  have A2 := Aside0.mk A20
  clear A20
  by_cases c3 : t172 = true
  · subst c3
    have H1 : (some true) = some r := by rw [if_pos rfl] at H; exact H
    clear H
    have H := H1
    clear H1
    obtain rfl := Option.some.inj H
    go_enter Try.func6, Try.ntmps6
    go_wp2_with (first | ((with_reducible refine gate_callee (f := 25) rfl ?_); refine goesL_ (some 8) rfl rfl Try.func25 (by kernel_rfl) rfl #[.slice A0 l0.length c0] rfl (by (try simp only [List.map_toArray, List.map_cons, List.map_nil]); first | done | rfl | (simp only [List.length_drop, List.length_take]; rfl)) ?_; (with_reducible refine (laws_big.calls _ _ l0 true _ ?side1 ?side2 A2.out).mono ?_); (case side1 => repeat (first | exact HR0.out | (with_reducible refine Kd.C_alloc ?_ _) | (with_reducible refine Kd.C_drewN ?_ _) | (with_reducible refine Kd.C_drew ?_))); (case side2 => exact HC0.out); rintro e w' ⟨rfl, ⟨nd, rfl⟩⟩; refine ⟨_, rfl, ?_⟩))
    go_ret
    exact ⟨by first | rfl | (simp [errW_none, errW_some] <;> rfl) | (simp [*, errW_none, errW_some] <;> rfl), by repeat (first | (with_reducible first | exact HB.out | apply below_alloc | apply pw_below_drewN | apply below_drew1) | exact HB.out)⟩
  · replace c3 := Bool.eq_false_iff.mpr c3
    subst c3
    have H1 : ((spec_DrawEdits.f k l0).bind fun bt173 => ((impl_Edits.f k bt173.1 bt173.2).bind fun t175 => ((impl_Edits.f k (⟨#[109, 105, 108, 108]⟩ : ByteArray) (⟨#[109, 105, 108]⟩ : ByteArray)).bind fun t176 => (if t176 = 1 then (if (bt173.1.size : Int) ≥ 40 then (laws_FnEdits.j0 k bt173.1 bt173.2 t175 true) else (laws_FnEdits.j0 k bt173.1 bt173.2 t175 (decide ((bt173.2.size : Int) ≥ 40)))) else (some false))))) = some r := by rw [if_neg (show ¬ (false = true) by decide)] at H; exact H
    clear H
    have H := H1
    clear H1
    replace H := Option.bind_eq_some_iff.mp H
    obtain ⟨⟨t173, t174⟩, A40, H⟩ := H
    replace H : ((impl_Edits.f k t173 t174).bind fun t175 => ((impl_Edits.f k (⟨#[109, 105, 108, 108]⟩ : ByteArray) (⟨#[109, 105, 108]⟩ : ByteArray)).bind fun t176 => (if t176 = 1 then (if (t173.size : Int) ≥ 40 then (laws_FnEdits.j0 k t173 t174 t175 true) else (laws_FnEdits.j0 k t173 t174 t175 (decide ((t174.size : Int) ≥ 40)))) else (some false)))) = some r := H
    have A4 := Aside0.mk A40
    clear A40
    replace H := Option.bind_eq_some_iff.mp H
    obtain ⟨t175, A50, H⟩ := H
    replace H : ((impl_Edits.f k (⟨#[109, 105, 108, 108]⟩ : ByteArray) (⟨#[109, 105, 108]⟩ : ByteArray)).bind fun t176 => (if t176 = 1 then (if (t173.size : Int) ≥ 40 then (laws_FnEdits.j0 k t173 t174 t175 true) else (laws_FnEdits.j0 k t173 t174 t175 (decide ((t174.size : Int) ≥ 40)))) else (some false))) = some r := H
    have A5 := Aside0.mk A50
    clear A50
    replace H := Option.bind_eq_some_iff.mp H
    obtain ⟨t176, A60, H⟩ := H
    replace H : (if t176 = 1 then (if (t173.size : Int) ≥ 40 then (laws_FnEdits.j0 k t173 t174 t175 true) else (laws_FnEdits.j0 k t173 t174 t175 (decide ((t174.size : Int) ≥ 40)))) else (some false)) = some r := H
    have A6 := Aside0.mk A60
    clear A60
    by_cases c7 : t176 = 1
    · rw [if_pos c7] at H
      have c7b0 : (t176 == 1) = true := beq_iff_eq.mpr c7
      have c7b1 : (t176 != 1) = false := bne_eq_false_iff_eq.mpr c7
      clear c7
      have HC8 := Aside0.mk H
      clear H
      go_enter Try.func6, Try.ntmps6
      go_upto_region 7 with (first | ((with_reducible refine gate_callee (f := 25) rfl ?_); refine goesL_ (some 8) rfl rfl Try.func25 (by kernel_rfl) rfl #[.slice A0 l0.length c0] rfl (by (try simp only [List.map_toArray, List.map_cons, List.map_nil]); first | done | rfl | (simp only [List.length_drop, List.length_take]; rfl)) ?_; (with_reducible refine (laws_big.calls _ _ l0 false _ ?side1 ?side2 A2.out).mono ?_); (case side1 => repeat (first | exact HR0.out | (with_reducible refine Kd.C_alloc ?_ _) | (with_reducible refine Kd.C_drewN ?_ _) | (with_reducible refine Kd.C_drew ?_))); (case side2 => exact HC0.out); rintro e w' ⟨rfl, ⟨nd, rfl⟩⟩; refine ⟨_, rfl, ?_⟩) | ((with_reducible refine gate_callee (f := 26) rfl ?_); refine goesL_ (some 11) rfl rfl Try.func26 (by kernel_rfl) rfl #[.slice A0 l0.length c0] rfl (by (try simp only [List.map_toArray, List.map_cons, List.map_nil]); first | done | rfl | (simp only [List.length_drop, List.length_take]; rfl)) ?_; (with_reducible refine (spec_DrawEdits.calls k _ _ l0 t173 t174 _ ?side1 ?side2 A4.out).mono ?_); (case side1 => repeat (first | exact HR0.out | (with_reducible refine Kd.C_alloc ?_ _) | (with_reducible refine Kd.C_drewN ?_ _) | (with_reducible refine Kd.C_drew ?_))); (case side2 => exact HC0.out); rintro e w9 ⟨rfl, hb⟩; refine ⟨_, rfl, ?_⟩; have n0_ := Aside0.mk (below_step (by repeat (first | (with_reducible first | exact HB.out | apply below_alloc | apply pw_below_drewN | apply below_drew1) | exact HB.out)) hb); clear HB; have HB := n0_; clear n0_; (try clear hb); (try clear hb2); (try clear hk); (try clear hi)) | ((with_reducible refine gate_callee (f := 27) rfl ?_); refine goesL_ (some 16) rfl rfl Try.func27 (by kernel_rfl) rfl #[.string t173, .string t174] rfl (by (try simp only [List.map_toArray, List.map_cons, List.map_nil]); first | done | rfl | (simp only [List.length_drop, List.length_take]; rfl)) ?_; (with_reducible refine (impl_Edits.calls k t173 t174 t175 _ A5.out).mono ?_); rintro e w10 ⟨rfl, hb⟩; refine ⟨_, rfl, ?_⟩; have n0_ := Aside0.mk (below_step (by repeat (first | (with_reducible first | exact HB.out | apply below_alloc | apply pw_below_drewN | apply below_drew1) | exact HB.out)) hb); clear HB; have HB := n0_; clear n0_; (try clear hb); (try clear hb2); (try clear hk); (try clear hi)) | ((with_reducible refine gate_callee (f := 27) rfl ?_); refine goesL_ (some 17) rfl rfl Try.func27 (by kernel_rfl) rfl #[.string (⟨#[109, 105, 108, 108]⟩ : ByteArray), .string (⟨#[109, 105, 108]⟩ : ByteArray)] rfl (by (try simp only [List.map_toArray, List.map_cons, List.map_nil]); first | done | rfl | (simp only [List.length_drop, List.length_take]; rfl)) ?_; (with_reducible refine (impl_Edits.calls k (⟨#[109, 105, 108, 108]⟩ : ByteArray) (⟨#[109, 105, 108]⟩ : ByteArray) t176 _ A6.out).mono ?_); rintro e w11 ⟨rfl, hb⟩; refine ⟨_, rfl, ?_⟩; have n0_ := Aside0.mk (below_step (by repeat (first | (with_reducible first | exact HB.out | apply below_alloc | apply pw_below_drewN | apply below_drew1) | exact HB.out)) hb); clear HB; have HB := n0_; clear n0_; (try clear hb); (try clear hb2); (try clear hk); (try clear hi)))
      (try simp only [Act.put, List.setIfInBounds_toArray, List.set_cons_zero, List.set_cons_succ])
      go_cut [26] (fun v26 wc => ∃ (kq : Nat) (x26_7 : Bool), v26 = .bool x26_7 ∧ Aside0 (laws_FnEdits.j0 kq t173 t174 t175 x26_7 = some r) ∧ Aside0 (kq ≤ k) ∧ Aside0 (Below w.heap.size w wc))
      case first =>
        have H := HC8.out
        clear HC8
        by_cases c12 : (t173.size : Int) ≥ 40
        · rw [if_pos c12] at H
          have c12b0 : decide (40 ≤ (t173.size : Int)) = true := decide_eq_true c12
          have c12b1 : decide (40 ≤ t173.size) = true := decide_eq_true (by omega)
          clear c12
          (first | rw [c12b0] | (simp only [i64_w, i32_w]; rw [c12b0]) | skip)
          have H' := Aside0.mk H
          clear H
          go_wp2
          go_meet
          case rel => exact ⟨_, (true), (by first | rfl | (simp; done) | (simp [*]; done)), H', ⟨by first | omega | exact Nat.le_refl _⟩, ⟨by repeat (first | (with_reducible first | exact HB.out | apply below_alloc | apply pw_below_drewN | apply below_drew1) | exact HB.out)⟩⟩
        · rw [if_neg c12] at H
          have c12b0 : decide (40 ≤ (t173.size : Int)) = false := decide_eq_false c12
          have c12b1 : decide (40 ≤ t173.size) = false := decide_eq_false (by omega)
          clear c12
          (first | rw [c12b0] | (simp only [i64_w, i32_w]; rw [c12b0]) | skip)
          have H' := Aside0.mk H
          clear H
          go_wp2
          go_meet
          case rel => exact ⟨_, (decide ((t174.size : Int) ≥ 40)), (by first | rfl | (simp; done) | (simp [*]; done)), H', ⟨by first | omega | exact Nat.le_refl _⟩, ⟨by repeat (first | (with_reducible first | exact HB.out | apply below_alloc | apply pw_below_drewN | apply below_drew1) | exact HB.out)⟩⟩
      case rest =>
        clear HC8
        try clear c1
        try clear c2
        try clear p2
        try clear c3
        try clear c6
        try clear c7
        try clear c7b0
        try clear c7b1
        try clear c12
        try clear c12b0
        try clear c12b1
        obtain ⟨kq, x26_7, rfl, HA, HJ7, HB⟩ := hcut
        cases kq with
        | zero => exact absurd HA.out (by simp [laws_FnEdits.j0])
        | succ kj7 =>
          have H := HA.out
          clear HA
          simp only [laws_FnEdits.j0] at H
          by_cases c13 : x26_7 = true
          · subst c13
            have H1 : (some (decide (t175 ≥ 0))) = some r := by rw [if_pos rfl] at H; exact H
            clear H
            have H := H1
            clear H1
            obtain rfl := Option.some.inj H
            go_wp2
            go_ret
            exact ⟨by first | rfl | (simp [errW_none, errW_some] <;> rfl) | (simp [*, errW_none, errW_some] <;> rfl), by repeat (first | (with_reducible first | exact HB.out | apply below_alloc | apply pw_below_drewN | apply below_drew1) | exact HB.out)⟩
          · replace c13 := Bool.eq_false_iff.mpr c13
            subst c13
            have H1 : (if t173.size + 1 ≤ 9223372036854775807 then ((impl_Edits.f kj7 (t173 ++ (⟨#[113]⟩ : ByteArray)) t174).bind fun t177 => ((impl_Edits.f kj7 t174 t173).bind fun t178 => (if t175 = t178 then (if ((t175 == 0) == (t173.toList == t174.toList)) = true then (if t177 ≤ (wrap64 (t175 + 1)) then (if t175 ≤ (wrap64 (t177 + 1)) then (if t174.size + 1 ≤ 9223372036854775807 then ((impl_Edits.f kj7 (t173 ++ (⟨#[113]⟩ : ByteArray)) (t174 ++ (⟨#[113]⟩ : ByteArray))).bind fun t179 => (some (decide (t179 ≤ t175)))) else (none)) else (some false)) else (some false)) else (some false)) else (some false)))) else (none)) = some r := by rw [if_neg (show ¬ (false = true) by decide)] at H; exact H
            clear H
            have H := H1
            clear H1
            by_cases c14 : t173.size + 1 ≤ 9223372036854775807
            · rw [if_pos c14] at H
              have c14b0 := eq_true c14
              have c14b1 : decide (t173.size + 1 ≤ 9223372036854775807) = true := decide_eq_true c14
              try have c14b2 : (9223372036854775807 < t173.size + 1) = False := eq_false (Nat.not_lt.2 c14)
              replace H := Option.bind_eq_some_iff.mp H
              obtain ⟨t177, A150, H⟩ := H
              replace H : ((impl_Edits.f kj7 t174 t173).bind fun t178 => (if t175 = t178 then (if ((t175 == 0) == (t173.toList == t174.toList)) = true then (if t177 ≤ (wrap64 (t175 + 1)) then (if t175 ≤ (wrap64 (t177 + 1)) then (if t174.size + 1 ≤ 9223372036854775807 then ((impl_Edits.f kj7 (t173 ++ (⟨#[113]⟩ : ByteArray)) (t174 ++ (⟨#[113]⟩ : ByteArray))).bind fun t179 => (some (decide (t179 ≤ t175)))) else (none)) else (some false)) else (some false)) else (some false)) else (some false))) = some r := H
              have A15 := Aside0.mk A150
              clear A150
              replace H := Option.bind_eq_some_iff.mp H
              obtain ⟨t178, A160, H⟩ := H
              replace H : (if t175 = t178 then (if ((t175 == 0) == (t173.toList == t174.toList)) = true then (if t177 ≤ (wrap64 (t175 + 1)) then (if t175 ≤ (wrap64 (t177 + 1)) then (if t174.size + 1 ≤ 9223372036854775807 then ((impl_Edits.f kj7 (t173 ++ (⟨#[113]⟩ : ByteArray)) (t174 ++ (⟨#[113]⟩ : ByteArray))).bind fun t179 => (some (decide (t179 ≤ t175)))) else (none)) else (some false)) else (some false)) else (some false)) else (some false)) = some r := H
              have A16 := Aside0.mk A160
              clear A160
              by_cases c17 : t175 = t178
              · rw [if_pos c17] at H
                have c17b0 : (t175 == t178) = true := beq_iff_eq.mpr c17
                have c17b1 : (t175 != t178) = false := bne_eq_false_iff_eq.mpr c17
                clear c17
                by_cases c18 : ((t175 == 0) == (t173.toList == t174.toList)) = true
                · rw [if_pos c18] at H
                  have c18b0 : ((t175 == 0) == (t173.toList == t174.toList)) = true := c18
                  (try (have c18b1 : decide ((t175 == 0) = (t173.toList == t174.toList)) = true := by simpa using c18))
                  (try (have c18b2 : ((t175 == 0) == (t173.toList == t174.toList)) = true := by simpa using c18))
                  clear c18
                  by_cases c19 : t177 ≤ (wrap64 (t175 + 1))
                  · rw [if_pos c19] at H
                    have c19b0 : decide (t177 ≤ (wrap64 (t175 + 1))) = true := decide_eq_true c19
                    clear c19
                    by_cases c20 : t175 ≤ (wrap64 (t177 + 1))
                    · rw [if_pos c20] at H
                      have c20b0 : decide (t175 ≤ (wrap64 (t177 + 1))) = true := decide_eq_true c20
                      clear c20
                      by_cases c21 : t174.size + 1 ≤ 9223372036854775807
                      · rw [if_pos c21] at H
                        have c21b0 := eq_true c21
                        have c21b1 : decide (t174.size + 1 ≤ 9223372036854775807) = true := decide_eq_true c21
                        try have c21b2 : (9223372036854775807 < t174.size + 1) = False := eq_false (Nat.not_lt.2 c21)
                        replace H := Option.bind_eq_some_iff.mp H
                        obtain ⟨t179, A220, H⟩ := H
                        replace H : (some (decide (t179 ≤ t175))) = some r := H
                        have A22 := Aside0.mk A220
                        clear A220
                        obtain rfl := Option.some.inj H
                        go_wp2_with (first | ((with_reducible refine gate_callee (f := 27) rfl ?_); refine goesL_ (some 32) rfl rfl Try.func27 (by kernel_rfl) rfl #[.string (t173 ++ (⟨#[113]⟩ : ByteArray)), .string t174] rfl (by (try simp only [List.map_toArray, List.map_cons, List.map_nil]); first | done | rfl | (simp only [List.length_drop, List.length_take]; rfl)) ?_; (with_reducible refine (impl_Edits.calls kj7 (t173 ++ (⟨#[113]⟩ : ByteArray)) t174 t177 _ A15.out).mono ?_); rintro e w23 ⟨rfl, hb⟩; refine ⟨_, rfl, ?_⟩; have n0_ := Aside0.mk (below_step (by repeat (first | (with_reducible first | exact HB.out | apply below_alloc | apply pw_below_drewN | apply below_drew1) | exact HB.out)) hb); clear HB; have HB := n0_; clear n0_; (try clear hb); (try clear hb2); (try clear hk); (try clear hi)) | ((with_reducible refine gate_callee (f := 27) rfl ?_); refine goesL_ (some 36) rfl rfl Try.func27 (by kernel_rfl) rfl #[.string t174, .string t173] rfl (by (try simp only [List.map_toArray, List.map_cons, List.map_nil]); first | done | rfl | (simp only [List.length_drop, List.length_take]; rfl)) ?_; (with_reducible refine (impl_Edits.calls kj7 t174 t173 t178 _ A16.out).mono ?_); rintro e w24 ⟨rfl, hb⟩; refine ⟨_, rfl, ?_⟩; have n0_ := Aside0.mk (below_step (by repeat (first | (with_reducible first | exact HB.out | apply below_alloc | apply pw_below_drewN | apply below_drew1) | exact HB.out)) hb); clear HB; have HB := n0_; clear n0_; (try clear hb); (try clear hb2); (try clear hk); (try clear hi)) | (go_at_call 27; (with_reducible refine (impl_Edits.calls kj7 (t173 ++ (⟨#[113]⟩ : ByteArray)) (t174 ++ (⟨#[113]⟩ : ByteArray)) t179 _ A22.out).mono ?_); rintro e w25 ⟨rfl, hb⟩; have n0_ := Aside0.mk (below_step (by repeat (first | (with_reducible first | exact HB.out | apply below_alloc | apply pw_below_drewN | apply below_drew1) | exact HB.out)) hb); clear HB; have HB := n0_; clear n0_; (try clear hb); (try clear hb2); (try clear hk); (try clear hi)))
                        go_ret
                        exact ⟨by first | rfl | (simp [errW_none, errW_some] <;> rfl) | (simp [*, errW_none, errW_some] <;> rfl), by repeat (first | (with_reducible first | exact HB.out | apply below_alloc | apply pw_below_drewN | apply below_drew1) | exact HB.out)⟩
                      · rw [if_neg c21] at H
                        exact absurd H (by simp)
                    · rw [if_neg c20] at H
                      have c20b0 : decide (t175 ≤ (wrap64 (t177 + 1))) = false := decide_eq_false c20
                      clear c20
                      obtain rfl := Option.some.inj H
                      go_wp2_with (first | ((with_reducible refine gate_callee (f := 27) rfl ?_); refine goesL_ (some 32) rfl rfl Try.func27 (by kernel_rfl) rfl #[.string (t173 ++ (⟨#[113]⟩ : ByteArray)), .string t174] rfl (by (try simp only [List.map_toArray, List.map_cons, List.map_nil]); first | done | rfl | (simp only [List.length_drop, List.length_take]; rfl)) ?_; (with_reducible refine (impl_Edits.calls kj7 (t173 ++ (⟨#[113]⟩ : ByteArray)) t174 t177 _ A15.out).mono ?_); rintro e w26 ⟨rfl, hb⟩; refine ⟨_, rfl, ?_⟩; have n0_ := Aside0.mk (below_step (by repeat (first | (with_reducible first | exact HB.out | apply below_alloc | apply pw_below_drewN | apply below_drew1) | exact HB.out)) hb); clear HB; have HB := n0_; clear n0_; (try clear hb); (try clear hb2); (try clear hk); (try clear hi)) | ((with_reducible refine gate_callee (f := 27) rfl ?_); refine goesL_ (some 36) rfl rfl Try.func27 (by kernel_rfl) rfl #[.string t174, .string t173] rfl (by (try simp only [List.map_toArray, List.map_cons, List.map_nil]); first | done | rfl | (simp only [List.length_drop, List.length_take]; rfl)) ?_; (with_reducible refine (impl_Edits.calls kj7 t174 t173 t178 _ A16.out).mono ?_); rintro e w27 ⟨rfl, hb⟩; refine ⟨_, rfl, ?_⟩; have n0_ := Aside0.mk (below_step (by repeat (first | (with_reducible first | exact HB.out | apply below_alloc | apply pw_below_drewN | apply below_drew1) | exact HB.out)) hb); clear HB; have HB := n0_; clear n0_; (try clear hb); (try clear hb2); (try clear hk); (try clear hi)))
                      go_ret
                      exact ⟨by first | rfl | (simp [errW_none, errW_some] <;> rfl) | (simp [*, errW_none, errW_some] <;> rfl), by repeat (first | (with_reducible first | exact HB.out | apply below_alloc | apply pw_below_drewN | apply below_drew1) | exact HB.out)⟩
                  · rw [if_neg c19] at H
                    have c19b0 : decide (t177 ≤ (wrap64 (t175 + 1))) = false := decide_eq_false c19
                    clear c19
                    obtain rfl := Option.some.inj H
                    go_wp2_with (first | ((with_reducible refine gate_callee (f := 27) rfl ?_); refine goesL_ (some 32) rfl rfl Try.func27 (by kernel_rfl) rfl #[.string (t173 ++ (⟨#[113]⟩ : ByteArray)), .string t174] rfl (by (try simp only [List.map_toArray, List.map_cons, List.map_nil]); first | done | rfl | (simp only [List.length_drop, List.length_take]; rfl)) ?_; (with_reducible refine (impl_Edits.calls kj7 (t173 ++ (⟨#[113]⟩ : ByteArray)) t174 t177 _ A15.out).mono ?_); rintro e w28 ⟨rfl, hb⟩; refine ⟨_, rfl, ?_⟩; have n0_ := Aside0.mk (below_step (by repeat (first | (with_reducible first | exact HB.out | apply below_alloc | apply pw_below_drewN | apply below_drew1) | exact HB.out)) hb); clear HB; have HB := n0_; clear n0_; (try clear hb); (try clear hb2); (try clear hk); (try clear hi)) | ((with_reducible refine gate_callee (f := 27) rfl ?_); refine goesL_ (some 36) rfl rfl Try.func27 (by kernel_rfl) rfl #[.string t174, .string t173] rfl (by (try simp only [List.map_toArray, List.map_cons, List.map_nil]); first | done | rfl | (simp only [List.length_drop, List.length_take]; rfl)) ?_; (with_reducible refine (impl_Edits.calls kj7 t174 t173 t178 _ A16.out).mono ?_); rintro e w29 ⟨rfl, hb⟩; refine ⟨_, rfl, ?_⟩; have n0_ := Aside0.mk (below_step (by repeat (first | (with_reducible first | exact HB.out | apply below_alloc | apply pw_below_drewN | apply below_drew1) | exact HB.out)) hb); clear HB; have HB := n0_; clear n0_; (try clear hb); (try clear hb2); (try clear hk); (try clear hi)))
                    go_ret
                    exact ⟨by first | rfl | (simp [errW_none, errW_some] <;> rfl) | (simp [*, errW_none, errW_some] <;> rfl), by repeat (first | (with_reducible first | exact HB.out | apply below_alloc | apply pw_below_drewN | apply below_drew1) | exact HB.out)⟩
                · rw [if_neg c18] at H
                  have c18b0 : ((t175 == 0) == (t173.toList == t174.toList)) = false := by simpa using c18
                  (try (have c18b1 : decide ((t175 == 0) = (t173.toList == t174.toList)) = false := by simpa using c18))
                  (try (have c18b2 : ((t175 == 0) == (t173.toList == t174.toList)) = false := by simpa using c18))
                  (try (have c18b3 : ¬ ((t175 == 0) = (t173.toList == t174.toList)) := by simpa using c18))
                  clear c18
                  obtain rfl := Option.some.inj H
                  go_wp2_with (first | ((with_reducible refine gate_callee (f := 27) rfl ?_); refine goesL_ (some 32) rfl rfl Try.func27 (by kernel_rfl) rfl #[.string (t173 ++ (⟨#[113]⟩ : ByteArray)), .string t174] rfl (by (try simp only [List.map_toArray, List.map_cons, List.map_nil]); first | done | rfl | (simp only [List.length_drop, List.length_take]; rfl)) ?_; (with_reducible refine (impl_Edits.calls kj7 (t173 ++ (⟨#[113]⟩ : ByteArray)) t174 t177 _ A15.out).mono ?_); rintro e w30 ⟨rfl, hb⟩; refine ⟨_, rfl, ?_⟩; have n0_ := Aside0.mk (below_step (by repeat (first | (with_reducible first | exact HB.out | apply below_alloc | apply pw_below_drewN | apply below_drew1) | exact HB.out)) hb); clear HB; have HB := n0_; clear n0_; (try clear hb); (try clear hb2); (try clear hk); (try clear hi)) | ((with_reducible refine gate_callee (f := 27) rfl ?_); refine goesL_ (some 36) rfl rfl Try.func27 (by kernel_rfl) rfl #[.string t174, .string t173] rfl (by (try simp only [List.map_toArray, List.map_cons, List.map_nil]); first | done | rfl | (simp only [List.length_drop, List.length_take]; rfl)) ?_; (with_reducible refine (impl_Edits.calls kj7 t174 t173 t178 _ A16.out).mono ?_); rintro e w31 ⟨rfl, hb⟩; refine ⟨_, rfl, ?_⟩; have n0_ := Aside0.mk (below_step (by repeat (first | (with_reducible first | exact HB.out | apply below_alloc | apply pw_below_drewN | apply below_drew1) | exact HB.out)) hb); clear HB; have HB := n0_; clear n0_; (try clear hb); (try clear hb2); (try clear hk); (try clear hi)))
                  go_ret
                  exact ⟨by first | rfl | (simp [errW_none, errW_some] <;> rfl) | (simp [*, errW_none, errW_some] <;> rfl), by repeat (first | (with_reducible first | exact HB.out | apply below_alloc | apply pw_below_drewN | apply below_drew1) | exact HB.out)⟩
              · rw [if_neg c17] at H
                have c17b0 : (t175 == t178) = false := beq_eq_false_iff_ne.mpr c17
                have c17b1 : (t175 != t178) = true := bne_iff_ne.mpr c17
                obtain rfl := Option.some.inj H
                go_wp2_with (first | ((with_reducible refine gate_callee (f := 27) rfl ?_); refine goesL_ (some 32) rfl rfl Try.func27 (by kernel_rfl) rfl #[.string (t173 ++ (⟨#[113]⟩ : ByteArray)), .string t174] rfl (by (try simp only [List.map_toArray, List.map_cons, List.map_nil]); first | done | rfl | (simp only [List.length_drop, List.length_take]; rfl)) ?_; (with_reducible refine (impl_Edits.calls kj7 (t173 ++ (⟨#[113]⟩ : ByteArray)) t174 t177 _ A15.out).mono ?_); rintro e w32 ⟨rfl, hb⟩; refine ⟨_, rfl, ?_⟩; have n0_ := Aside0.mk (below_step (by repeat (first | (with_reducible first | exact HB.out | apply below_alloc | apply pw_below_drewN | apply below_drew1) | exact HB.out)) hb); clear HB; have HB := n0_; clear n0_; (try clear hb); (try clear hb2); (try clear hk); (try clear hi)) | ((with_reducible refine gate_callee (f := 27) rfl ?_); refine goesL_ (some 36) rfl rfl Try.func27 (by kernel_rfl) rfl #[.string t174, .string t173] rfl (by (try simp only [List.map_toArray, List.map_cons, List.map_nil]); first | done | rfl | (simp only [List.length_drop, List.length_take]; rfl)) ?_; (with_reducible refine (impl_Edits.calls kj7 t174 t173 t178 _ A16.out).mono ?_); rintro e w33 ⟨rfl, hb⟩; refine ⟨_, rfl, ?_⟩; have n0_ := Aside0.mk (below_step (by repeat (first | (with_reducible first | exact HB.out | apply below_alloc | apply pw_below_drewN | apply below_drew1) | exact HB.out)) hb); clear HB; have HB := n0_; clear n0_; (try clear hb); (try clear hb2); (try clear hk); (try clear hi)))
                go_ret
                exact ⟨by first | rfl | (simp [errW_none, errW_some] <;> rfl) | (simp [*, errW_none, errW_some] <;> rfl), by repeat (first | (with_reducible first | exact HB.out | apply below_alloc | apply pw_below_drewN | apply below_drew1) | exact HB.out)⟩
            · rw [if_neg c14] at H
              exact absurd H (by simp)
    · rw [if_neg c7] at H
      have c7b0 : (t176 == 1) = false := beq_eq_false_iff_ne.mpr c7
      have c7b1 : (t176 != 1) = true := bne_iff_ne.mpr c7
      obtain rfl := Option.some.inj H
      go_enter Try.func6, Try.ntmps6
      go_wp2_with (first | ((with_reducible refine gate_callee (f := 25) rfl ?_); refine goesL_ (some 8) rfl rfl Try.func25 (by kernel_rfl) rfl #[.slice A0 l0.length c0] rfl (by (try simp only [List.map_toArray, List.map_cons, List.map_nil]); first | done | rfl | (simp only [List.length_drop, List.length_take]; rfl)) ?_; (with_reducible refine (laws_big.calls _ _ l0 false _ ?side1 ?side2 A2.out).mono ?_); (case side1 => repeat (first | exact HR0.out | (with_reducible refine Kd.C_alloc ?_ _) | (with_reducible refine Kd.C_drewN ?_ _) | (with_reducible refine Kd.C_drew ?_))); (case side2 => exact HC0.out); rintro e w' ⟨rfl, ⟨nd, rfl⟩⟩; refine ⟨_, rfl, ?_⟩) | ((with_reducible refine gate_callee (f := 26) rfl ?_); refine goesL_ (some 11) rfl rfl Try.func26 (by kernel_rfl) rfl #[.slice A0 l0.length c0] rfl (by (try simp only [List.map_toArray, List.map_cons, List.map_nil]); first | done | rfl | (simp only [List.length_drop, List.length_take]; rfl)) ?_; (with_reducible refine (spec_DrawEdits.calls k _ _ l0 t173 t174 _ ?side1 ?side2 A4.out).mono ?_); (case side1 => repeat (first | exact HR0.out | (with_reducible refine Kd.C_alloc ?_ _) | (with_reducible refine Kd.C_drewN ?_ _) | (with_reducible refine Kd.C_drew ?_))); (case side2 => exact HC0.out); rintro e w34 ⟨rfl, hb⟩; refine ⟨_, rfl, ?_⟩; have n0_ := Aside0.mk (below_step (by repeat (first | (with_reducible first | exact HB.out | apply below_alloc | apply pw_below_drewN | apply below_drew1) | exact HB.out)) hb); clear HB; have HB := n0_; clear n0_; (try clear hb); (try clear hb2); (try clear hk); (try clear hi)) | ((with_reducible refine gate_callee (f := 27) rfl ?_); refine goesL_ (some 16) rfl rfl Try.func27 (by kernel_rfl) rfl #[.string t173, .string t174] rfl (by (try simp only [List.map_toArray, List.map_cons, List.map_nil]); first | done | rfl | (simp only [List.length_drop, List.length_take]; rfl)) ?_; (with_reducible refine (impl_Edits.calls k t173 t174 t175 _ A5.out).mono ?_); rintro e w35 ⟨rfl, hb⟩; refine ⟨_, rfl, ?_⟩; have n0_ := Aside0.mk (below_step (by repeat (first | (with_reducible first | exact HB.out | apply below_alloc | apply pw_below_drewN | apply below_drew1) | exact HB.out)) hb); clear HB; have HB := n0_; clear n0_; (try clear hb); (try clear hb2); (try clear hk); (try clear hi)) | ((with_reducible refine gate_callee (f := 27) rfl ?_); refine goesL_ (some 17) rfl rfl Try.func27 (by kernel_rfl) rfl #[.string (⟨#[109, 105, 108, 108]⟩ : ByteArray), .string (⟨#[109, 105, 108]⟩ : ByteArray)] rfl (by (try simp only [List.map_toArray, List.map_cons, List.map_nil]); first | done | rfl | (simp only [List.length_drop, List.length_take]; rfl)) ?_; (with_reducible refine (impl_Edits.calls k (⟨#[109, 105, 108, 108]⟩ : ByteArray) (⟨#[109, 105, 108]⟩ : ByteArray) t176 _ A6.out).mono ?_); rintro e w36 ⟨rfl, hb⟩; refine ⟨_, rfl, ?_⟩; have n0_ := Aside0.mk (below_step (by repeat (first | (with_reducible first | exact HB.out | apply below_alloc | apply pw_below_drewN | apply below_drew1) | exact HB.out)) hb); clear HB; have HB := n0_; clear n0_; (try clear hb); (try clear hb2); (try clear hk); (try clear hi)))
      go_ret
      exact ⟨by first | rfl | (simp [errW_none, errW_some] <;> rfl) | (simp [*, errW_none, errW_some] <;> rfl), by repeat (first | (with_reducible first | exact HB.out | apply below_alloc | apply pw_below_drewN | apply below_drew1) | exact HB.out)⟩

/-- THE ONE PURE STATEMENT of laws_FnEdits: yours. -/
def laws_FnEdits.Pure : Prop := ∀ (l0 : List Int), l0.length ≤ maxLen → l0.length * 1 ≤ 140737488351232 → (∀ x ∈ l0, (Lit.int .u8 x).wf = true) → ∃ k, laws_FnEdits.f k l0 = some true
theorem laws_FnEdits.walk (P : laws_FnEdits.Pure) (a0 : Option Addr) (len0 cap0 : Nat) (z0 : List Int) (w : World) (w0 : (a0 = none ∧ len0 = 0 ∧ cap0 = 0 ∧ z0 = []) ∨ ∃ x, a0 = some x ∧ len0 ≤ cap0 ∧ cap0 ≤ maxLen ∧ z0.length = cap0 ∧ (∀ i, i < z0.length → w.cell? (x.add i) = some (.int .u8 (z0.getD i 0))) ∧ ∀ n ∈ z0, (Lit.int .u8 n).wf = true) (y0 : len0 * 1 ≤ 140737488351232) :
    Calls Try.prog 6 #[.slice a0 len0 cap0] w fun e w' => e = .returned (.bool true) ∧ Below w.heap.size w w' := by
  obtain ⟨l0, rfl, hr0, hm0, hw0, hc0⟩ := ReadsInt.ofRowC w0
  obtain ⟨k, h⟩ := P l0 hm0 y0 hw0
  refine (laws_FnEdits.calls k _ _ l0 true w (Kd.C_of_reads (d := (0 : Int)) (h1 := fun _ => rfl) hr0) hc0 h).mono ?_
  rintro e w' ⟨rfl, hd⟩
  exact ⟨rfl, hd⟩

end Go.Proofs.Ytcpgphmaibajlaa.PFnEdits
