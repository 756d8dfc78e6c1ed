/- Contracts of functions of the statement FnEdits: the printed text, turned by a program of ours where it fell. -/
import Derived.Test.YtcpgphmaibajlaaPFnEditsx0
namespace Go.Proofs.Ytcpgphmaibajlaa.PFnEdits
open Go.RowKit Go.Proofs.YtcpgphmaibajlaaW.PrintWords Go.Proofs.YtcpgphmaibajlaaW.PrintLast Go.Proofs.YtcpgphmaibajlaaW.PrintMore
attribute [local go_sem] max2_int min2_int max_two min_two max_three min_three max_four min_four   -- for this text's walks alone
set_option linter.unusedVariables false
set_option linter.unusedSimpArgs false

/-! ### impl_Edits: function 27 -/
mutual
def impl_Edits.j0 : Nat → ByteArray → ByteArray → Bool → Option (Int)
  | 0, _, _, _ => none
  | k + 1, x0, x1, x18 => if x18 = true then (some 3) else (if 0 ≤ (wrap64 ((x1.size : Int) + 1)) then (if (wrap64 ((x1.size : Int) + 1) : Int).toNat ≤ 35184372088832 then ((some (List.replicate (wrap64 ((x1.size : Int) + 1) : Int).toNat 0 : List Int)).bind fun y151 => (impl_Edits.l0 k x0 x1 y151 (y151.length : Int) 0)) else (none)) else (none))
def impl_Edits.l0 : Nat → ByteArray → ByteArray → List Int → Int → Int → Option (Int)
  | 0, _, _, _, _, _ => none
  | k + 1, x0, x1, x5, x24, x25 => if x25 < x24 then (if 0 ≤ x25 then (if x25 < (x5.length : Int) then (impl_Edits.l0 k x0 x1 (x5.set (x25 : Int).toNat x25) x24 (wrap64 (x25 + 1))) else (none)) else (none)) else (impl_Edits.l1 k x0 x1 x5 1)
def impl_Edits.l1 : Nat → ByteArray → ByteArray → List Int → Int → Option (Int)
  | 0, _, _, _, _ => none
  | k + 1, x0, x1, x5, x7 => if x7 ≤ (x0.size : Int) then (if 0 ≤ (wrap64 ((x1.size : Int) + 1)) then (if (wrap64 ((x1.size : Int) + 1) : Int).toNat ≤ 35184372088832 then ((some (List.replicate (wrap64 ((x1.size : Int) + 1) : Int).toNat 0 : List Int)).bind fun y157 => (if 0 < (y157.length : Int) then (impl_Edits.l2 k x0 x1 x5 x7 (y157.set (0 : Int).toNat x7) 1) else (none))) else (none)) else (none)) else (if 0 ≤ (x1.size : Int) then (if (x1.size : Int) < (x5.length : Int) then (if (rd x5 (x1.size : Int)) > 3 then (some 3) else (some (rd x5 (x1.size : Int)))) else (none)) else (none))
def impl_Edits.l2 : Nat → ByteArray → ByteArray → List Int → Int → List Int → Int → Option (Int)
  | 0, _, _, _, _, _, _ => none
  | k + 1, x0, x1, x5, x7, x8, x9 => if x9 ≤ (x1.size : Int) then (if 0 ≤ (wrap64 (x9 - 1)) then (if (wrap64 (x9 - 1)) < (x5.length : Int) then (if 0 ≤ (wrap64 (x7 - 1)) then (if (wrap64 (x7 - 1)) < (x0.size : Int) then (if (wrap64 (x9 - 1)) < (x1.size : Int) then (if (bt x0 (wrap64 (x7 - 1))) = (bt x1 (wrap64 (x9 - 1))) then (impl_Edits.j4 k x0 x1 x5 x7 x8 x9 (rd x5 (wrap64 (x9 - 1)))) else (impl_Edits.j4 k x0 x1 x5 x7 x8 x9 (wrap64 ((rd x5 (wrap64 (x9 - 1))) + 1)))) else (none)) else (none)) else (none)) else (none)) else (none)) else (impl_Edits.l1 k x0 x1 x8 (wrap64 (x7 + 1)))
def impl_Edits.j4 : Nat → ByteArray → ByteArray → List Int → Int → List Int → Int → Int → Option (Int)
  | 0, _, _, _, _, _, _, _ => none
  | k + 1, x0, x1, x5, x7, x8, x9, x10 => if 0 ≤ x9 then (if x9 < (x5.length : Int) then (if (wrap64 ((rd x5 x9) + 1)) < x10 then (if 0 ≤ (wrap64 (x9 - 1)) then (if (wrap64 (x9 - 1)) < (x8.length : Int) then (if (wrap64 ((rd x8 (wrap64 (x9 - 1))) + 1)) < (wrap64 ((rd x5 x9) + 1)) then (if x9 < (x8.length : Int) then (impl_Edits.l2 k x0 x1 x5 x7 (x8.set (x9 : Int).toNat (wrap64 ((rd x8 (wrap64 (x9 - 1))) + 1))) (wrap64 (x9 + 1))) else (none)) else (if x9 < (x8.length : Int) then (impl_Edits.l2 k x0 x1 x5 x7 (x8.set (x9 : Int).toNat (wrap64 ((rd x5 x9) + 1))) (wrap64 (x9 + 1))) else (none))) else (none)) else (none)) else (if 0 ≤ (wrap64 (x9 - 1)) then (if (wrap64 (x9 - 1)) < (x8.length : Int) then (if (wrap64 ((rd x8 (wrap64 (x9 - 1))) + 1)) < x10 then (if x9 < (x8.length : Int) then (impl_Edits.l2 k x0 x1 x5 x7 (x8.set (x9 : Int).toNat (wrap64 ((rd x8 (wrap64 (x9 - 1))) + 1))) (wrap64 (x9 + 1))) else (none)) else (if x9 < (x8.length : Int) then (impl_Edits.l2 k x0 x1 x5 x7 (x8.set (x9 : Int).toNat x10) (wrap64 (x9 + 1))) else (none))) else (none)) else (none))) else (none)) else (none)
end
def impl_Edits.f (k : Nat) (a0 : ByteArray) (a1 : ByteArray) : Option (Int) := if (a0.size : Int) > 40 then (impl_Edits.j0 k a0 a1 true) else (impl_Edits.j0 k a0 a1 (decide ((a1.size : Int) > 40)))
theorem impl_Edits.mono_l : ∀ k, (∀ y0 y1 y2, LeO (impl_Edits.j0 k y0 y1 y2) (impl_Edits.j0 (k + 1) y0 y1 y2)) ∧ (∀ y0 y1 y2 y3 y4, LeO (impl_Edits.l0 k y0 y1 y2 y3 y4) (impl_Edits.l0 (k + 1) y0 y1 y2 y3 y4)) ∧ (∀ y0 y1 y2 y3, LeO (impl_Edits.l1 k y0 y1 y2 y3) (impl_Edits.l1 (k + 1) y0 y1 y2 y3)) ∧ (∀ y0 y1 y2 y3 y4 y5, LeO (impl_Edits.l2 k y0 y1 y2 y3 y4 y5) (impl_Edits.l2 (k + 1) y0 y1 y2 y3 y4 y5)) ∧ (∀ y0 y1 y2 y3 y4 y5 y6, LeO (impl_Edits.j4 k y0 y1 y2 y3 y4 y5 y6) (impl_Edits.j4 (k + 1) y0 y1 y2 y3 y4 y5 y6))
  | 0 => ⟨fun _ _ _ r h => by simp [impl_Edits.j0] at h, fun _ _ _ _ _ r h => by simp [impl_Edits.l0] at h, fun _ _ _ _ r h => by simp [impl_Edits.l1] at h, fun _ _ _ _ _ _ r h => by simp [impl_Edits.l2] at h, fun _ _ _ _ _ _ _ r h => by simp [impl_Edits.j4] at h⟩
  | k + 1 => by
    obtain ⟨ih0, ih1, ih2, ih3, ih4⟩ := impl_Edits.mono_l k
    refine ⟨?_, ?_, ?_, ?_, ?_⟩
    · intro y0 y1 y2
      unfold impl_Edits.j0
      repeat' first
      | (with_reducible exact ih0 _ _ _)
      | (with_reducible exact ih1 _ _ _ _ _)
      | (with_reducible exact ih2 _ _ _ _)
      | (with_reducible exact ih3 _ _ _ _ _ _)
      | (with_reducible exact ih4 _ _ _ _ _ _ _)
      | (with_reducible exact LeO.refl _)
      | (with_reducible exact LeO.none _)
      | (with_reducible refine LeO.ite ?_ ?_)
      | (with_reducible refine LeO.bind ?_ (fun _ => ?_))
      | exact ih0 _ _ _
      | exact ih1 _ _ _ _ _
      | exact ih2 _ _ _ _
      | exact ih3 _ _ _ _ _ _
      | exact ih4 _ _ _ _ _ _ _
      | exact LeO.none _
      | refine LeO.ite ?_ ?_
      | refine LeO.bind ?_ (fun _ => ?_)
    · intro y0 y1 y2 y3 y4
      unfold impl_Edits.l0
      repeat' first
      | (with_reducible exact ih0 _ _ _)
      | (with_reducible exact ih1 _ _ _ _ _)
      | (with_reducible exact ih2 _ _ _ _)
      | (with_reducible exact ih3 _ _ _ _ _ _)
      | (with_reducible exact ih4 _ _ _ _ _ _ _)
      | (with_reducible exact LeO.refl _)
      | (with_reducible exact LeO.none _)
      | (with_reducible refine LeO.ite ?_ ?_)
      | (with_reducible refine LeO.bind ?_ (fun _ => ?_))
      | exact ih0 _ _ _
      | exact ih1 _ _ _ _ _
      | exact ih2 _ _ _ _
      | exact ih3 _ _ _ _ _ _
      | exact ih4 _ _ _ _ _ _ _
      | exact LeO.none _
      | refine LeO.ite ?_ ?_
      | refine LeO.bind ?_ (fun _ => ?_)
    · intro y0 y1 y2 y3
      unfold impl_Edits.l1
      repeat' first
      | (with_reducible exact ih0 _ _ _)
      | (with_reducible exact ih1 _ _ _ _ _)
      | (with_reducible exact ih2 _ _ _ _)
      | (with_reducible exact ih3 _ _ _ _ _ _)
      | (with_reducible exact ih4 _ _ _ _ _ _ _)
      | (with_reducible exact LeO.refl _)
      | (with_reducible exact LeO.none _)
      | (with_reducible refine LeO.ite ?_ ?_)
      | (with_reducible refine LeO.bind ?_ (fun _ => ?_))
      | exact ih0 _ _ _
      | exact ih1 _ _ _ _ _
      | exact ih2 _ _ _ _
      | exact ih3 _ _ _ _ _ _
      | exact ih4 _ _ _ _ _ _ _
      | exact LeO.none _
      | refine LeO.ite ?_ ?_
      | refine LeO.bind ?_ (fun _ => ?_)
    · intro y0 y1 y2 y3 y4 y5
      unfold impl_Edits.l2
      repeat' first
      | (with_reducible exact ih0 _ _ _)
      | (with_reducible exact ih1 _ _ _ _ _)
      | (with_reducible exact ih2 _ _ _ _)
      | (with_reducible exact ih3 _ _ _ _ _ _)
      | (with_reducible exact ih4 _ _ _ _ _ _ _)
      | (with_reducible exact LeO.refl _)
      | (with_reducible exact LeO.none _)
      | (with_reducible refine LeO.ite ?_ ?_)
      | (with_reducible refine LeO.bind ?_ (fun _ => ?_))
      | exact ih0 _ _ _
      | exact ih1 _ _ _ _ _
      | exact ih2 _ _ _ _
      | exact ih3 _ _ _ _ _ _
      | exact ih4 _ _ _ _ _ _ _
      | exact LeO.none _
      | refine LeO.ite ?_ ?_
      | refine LeO.bind ?_ (fun _ => ?_)
    · intro y0 y1 y2 y3 y4 y5 y6
      unfold impl_Edits.j4
      repeat' first
      | (with_reducible exact ih0 _ _ _)
      | (with_reducible exact ih1 _ _ _ _ _)
      | (with_reducible exact ih2 _ _ _ _)
      | (with_reducible exact ih3 _ _ _ _ _ _)
      | (with_reducible exact ih4 _ _ _ _ _ _ _)
      | (with_reducible exact LeO.refl _)
      | (with_reducible exact LeO.none _)
      | (with_reducible refine LeO.ite ?_ ?_)
      | (with_reducible refine LeO.bind ?_ (fun _ => ?_))
      | exact ih0 _ _ _
      | exact ih1 _ _ _ _ _
      | exact ih2 _ _ _ _
      | exact ih3 _ _ _ _ _ _
      | exact ih4 _ _ _ _ _ _ _
      | exact LeO.none _
      | refine LeO.ite ?_ ?_
      | refine LeO.bind ?_ (fun _ => ?_)
theorem impl_Edits.mono : ∀ a0 a1 k, LeO (impl_Edits.f k a0 a1) (impl_Edits.f (k + 1) a0 a1) := by
  intro a0 a1 k
  obtain ⟨ih0, ih1, ih2, ih3, ih4⟩ := impl_Edits.mono_l k
  unfold impl_Edits.f
  repeat' first
      | (with_reducible exact ih0 _ _ _)
      | (with_reducible exact ih1 _ _ _ _ _)
      | (with_reducible exact ih2 _ _ _ _)
      | (with_reducible exact ih3 _ _ _ _ _ _)
      | (with_reducible exact ih4 _ _ _ _ _ _ _)
      | (with_reducible exact LeO.refl _)
      | (with_reducible exact LeO.none _)
      | (with_reducible refine LeO.ite ?_ ?_)
      | (with_reducible refine LeO.bind ?_ (fun _ => ?_))
      | exact ih0 _ _ _
      | exact ih1 _ _ _ _ _
      | exact ih2 _ _ _ _
      | exact ih3 _ _ _ _ _ _
      | exact ih4 _ _ _ _ _ _ _
      | exact LeO.none _
      | refine LeO.ite ?_ ?_
      | refine LeO.bind ?_ (fun _ => ?_)
set_option maxHeartbeats 8000000 in
set_option maxRecDepth 100000 in
theorem impl_Edits.calls (k : Nat) (a0 : ByteArray) (a1 : ByteArray) (r : Int) (w : World) (h : impl_Edits.f k a0 a1 = some r) :
    Calls Try.prog 27 #[.string a0, .string a1] w fun e w' => e = .returned (.int .i64 r) ∧ Below w.heap.size w w' := by
  have HB := Aside0.mk (Below.refl w.heap.size w)
  have H : (if (a0.size : Int) > 40 then (impl_Edits.j0 k a0 a1 true) else (impl_Edits.j0 k a0 a1 (decide ((a1.size : Int) > 40)))) = some r := h
  clear h
  have HC3 := Aside0.mk H
  clear H
  go_enter Try.func27, Try.ntmps27
  go_upto_region 1 with (fail)
  repeat (go_quiet (fail); go_upto_region 1 with (fail))
  go_cut [18] (fun v18 wc => ∃ (kq : Nat) (x18_2 : Bool), v18 = .bool x18_2 ∧ Aside0 (impl_Edits.j0 kq a0 a1 x18_2 = some r) ∧ Aside0 (kq ≤ k) ∧ Aside0 (Below w.heap.size w wc))
  case first =>
    have H := HC3.out
    clear HC3
    by_cases c4 : (a0.size : Int) > 40
    · rw [if_pos c4] at H
      have c4b0 : decide (40 < (a0.size : Int)) = true := decide_eq_true c4
      have c4b1 : decide (40 < a0.size) = true := decide_eq_true (by omega)
      clear c4
      (first | rw [c4b0] | (simp only [i64_w, i32_w]; rw [c4b0]) | skip)
      have H' := Aside0.mk H
      clear H
      go_wp2
      repeat (go_quiet (fail); try go_wp2)
      go_meet
      case rel => exact ⟨_, (true), (by first | rfl | (simp; done) | (simp [*]; done)), H', ⟨by first | omega | exact Nat.le_refl _⟩, ⟨by repeat (first | (with_reducible first | exact HB.out | apply below_alloc | apply pw_below_drewN | apply below_drew1) | exact HB.out)⟩⟩
    · rw [if_neg c4] at H
      have c4b0 : decide (40 < (a0.size : Int)) = false := decide_eq_false c4
      have c4b1 : decide (40 < a0.size) = false := decide_eq_false (by omega)
      clear c4
      (first | rw [c4b0] | (simp only [i64_w, i32_w]; rw [c4b0]) | skip)
      have H' := Aside0.mk H
      clear H
      go_wp2
      repeat (go_quiet (fail); try go_wp2)
      go_meet
      case rel => exact ⟨_, (decide ((a1.size : Int) > 40)), (by first | rfl | (simp; done) | (simp [*]; done)), H', ⟨by first | omega | exact Nat.le_refl _⟩, ⟨by repeat (first | (with_reducible first | exact HB.out | apply below_alloc | apply pw_below_drewN | apply below_drew1) | exact HB.out)⟩⟩
  case rest =>
    clear HC3
    try clear c2
    try clear p2
    try clear c4
    try clear c4b0
    try clear c4b1
    obtain ⟨kq, x18_2, rfl, HA, HJ2, HB⟩ := hcut
    cases kq with
    | zero => exact absurd HA.out (by simp [impl_Edits.j0])
    | succ kj2 =>
      have H := HA.out
      clear HA
      simp only [impl_Edits.j0] at H
      by_cases c5 : x18_2 = true
      · subst c5
        have H1 : (some 3) = some r := by rw [if_pos rfl] at H; exact H
        clear H
        have H := H1
        clear H1
        obtain rfl := Option.some.inj H
        go_wp2
        repeat (go_quiet (fail); try go_wp2)
        go_ret
        exact ⟨by first | rfl | (simp [errW_none, errW_some] <;> rfl) | (simp [*, errW_none, errW_some] <;> rfl), by repeat (first | (with_reducible first | exact HB.out | apply below_alloc | apply pw_below_drewN | apply below_drew1) | exact HB.out)⟩
      · replace c5 := Bool.eq_false_iff.mpr c5
        subst c5
        have H1 : (if 0 ≤ (wrap64 ((a1.size : Int) + 1)) then (if (wrap64 ((a1.size : Int) + 1) : Int).toNat ≤ 35184372088832 then ((some (List.replicate (wrap64 ((a1.size : Int) + 1) : Int).toNat 0 : List Int)).bind fun y151 => (impl_Edits.l0 kj2 a0 a1 y151 (y151.length : Int) 0)) else (none)) else (none)) = some r := by rw [if_neg (show ¬ (false = true) by decide)] at H; exact H
        clear H
        have H := H1
        clear H1
        obtain ⟨ji6, hji6⟩ : ∃ j_ : Int, (wrap64 ((a1.size : Int) + 1)) = j_ := ⟨_, rfl⟩
        replace H : (if 0 ≤ (ji6) then (if (ji6 : Int).toNat ≤ 35184372088832 then ((some (List.replicate (ji6 : Int).toNat 0 : List Int)).bind fun y151 => (impl_Edits.l0 kj2 a0 a1 y151 (y151.length : Int) 0)) else (none)) else (none)) = some r := by first | (rw [hji6] at H; exact H) | (simp only [hji6] at H ⊢; exact H)
        have hji6w : (IntKind.i64.wrap ((a1.size : Int) + 1)) = ji6 := (i64_w _).trans hji6
        by_cases c7 : 0 ≤ (ji6)
        · rw [if_pos c7] at H
          have c7b0 := eq_true c7
          have c7b1 : decide (0 ≤ (ji6)) = true := decide_eq_true c7
          clear c7
          by_cases c8 : (ji6 : Int).toNat ≤ 35184372088832
          · rw [if_pos c8] at H
            have c8b0 := eq_true c8
            have c8b1 : decide ((ji6 : Int).toNat ≤ 35184372088832) = true := decide_eq_true c8
            clear c8
            obtain ⟨y151, hy151⟩ : ∃ y_ : List Int, y_ = (List.replicate (ji6 : Int).toNat 0) := ⟨_, rfl⟩
            replace H : (impl_Edits.l0 kj2 a0 a1 y151 (y151.length : Int) 0) = some r := by first | (rw [hy151]; with_reducible exact H) | (have H2_ := (Option.bind_some _ _).symm.trans H; rw [hy151]; with_reducible exact H2_) | (have H2_ := (Option.bind_some _ _).symm.trans H; with_reducible exact H2_) | with_reducible exact H | (rw [hy151]; exact H) | exact H
            have Ny151 := Aside0.mk hy151
            clear hy151
            have H' := Aside0.mk H
            clear H
            go_wp2_with (first | ((with_reducible refine gate_dst (N := 22) rfl ?_); (try (refine gate_guard (by rfl) ?_; dsimp only)); refine Kd.R_make (Kd.int .i64) _ 2 rfl (N := 22) rfl 90 _ _ rfl ji6 rfl rfl Try.underlying90 (.int .i64 0) 8 info2 rfl (by decide) (by omega) 0 (ok := fun _ => True) (okp := fun _ => True) rfl (fun _ hk => hk) trivial (of_decide_eq_true (by first | (with_reducible assumption) | assumption)) (Nat.le_trans (Nat.mul_le_mul_right _ (of_decide_eq_true (by first | (with_reducible assumption) | assumption) : ji6.toNat ≤ 35184372088832)) (by omega)) (Below.refl _ _) (Nat.le_refl _) ?_; intro v152 w9 ho10 hb hg_ hnew_; clear hg_ hnew_; (first | rw [← Ny151.out] at ho10 | (simp only [Int.reduceToNat] at ho10; rw [← Ny151.out] at ho10)); have n0_ := Aside0.mk (Kd.R_lower ho10 (below_size (by repeat (first | (with_reducible first | exact HB.out | apply below_alloc | apply pw_below_drewN | apply below_drew1) | exact HB.out)))); have n1_ := Aside0.mk (below_step (by repeat (first | (with_reducible first | exact HB.out | apply below_alloc | apply pw_below_drewN | apply below_drew1) | exact HB.out)) hb); clear HB; have HO153 := n0_; have HB := n1_; clear n0_ n1_; clear hb ho10; obtain ⟨Ao11, co11, eo11⟩ := Kd.R_slice HO153.out; subst eo11))
            repeat (go_quiet (first | ((with_reducible refine gate_dst (N := 22) rfl ?_); (try (refine gate_guard (by rfl) ?_; dsimp only)); refine Kd.R_make (Kd.int .i64) _ 2 rfl (N := 22) rfl 90 _ _ rfl ji6 rfl rfl Try.underlying90 (.int .i64 0) 8 info2 rfl (by decide) (by omega) 0 (ok := fun _ => True) (okp := fun _ => True) rfl (fun _ hk => hk) trivial (of_decide_eq_true (by first | (with_reducible assumption) | assumption)) (Nat.le_trans (Nat.mul_le_mul_right _ (of_decide_eq_true (by first | (with_reducible assumption) | assumption) : ji6.toNat ≤ 35184372088832)) (by omega)) (Below.refl _ _) (Nat.le_refl _) ?_; intro v152 w9 ho10 hb hg_ hnew_; clear hg_ hnew_; (first | rw [← Ny151.out] at ho10 | (simp only [Int.reduceToNat] at ho10; rw [← Ny151.out] at ho10)); have n0_ := Aside0.mk (Kd.R_lower ho10 (below_size (by repeat (first | (with_reducible first | exact HB.out | apply below_alloc | apply pw_below_drewN | apply below_drew1) | exact HB.out)))); have n1_ := Aside0.mk (below_step (by repeat (first | (with_reducible first | exact HB.out | apply below_alloc | apply pw_below_drewN | apply below_drew1) | exact HB.out)) hb); clear HB; have HO153 := n0_; have HB := n1_; clear n0_ n1_; clear hb ho10; obtain ⟨Ao11, co11, eo11⟩ := Kd.R_slice HO153.out; subst eo11)); try go_wp2_with (first | ((with_reducible refine gate_dst (N := 22) rfl ?_); (try (refine gate_guard (by rfl) ?_; dsimp only)); refine Kd.R_make (Kd.int .i64) _ 2 rfl (N := 22) rfl 90 _ _ rfl ji6 rfl rfl Try.underlying90 (.int .i64 0) 8 info2 rfl (by decide) (by omega) 0 (ok := fun _ => True) (okp := fun _ => True) rfl (fun _ hk => hk) trivial (of_decide_eq_true (by first | (with_reducible assumption) | assumption)) (Nat.le_trans (Nat.mul_le_mul_right _ (of_decide_eq_true (by first | (with_reducible assumption) | assumption) : ji6.toNat ≤ 35184372088832)) (by omega)) (Below.refl _ _) (Nat.le_refl _) ?_; intro v152 w9 ho10 hb hg_ hnew_; clear hg_ hnew_; (first | rw [← Ny151.out] at ho10 | (simp only [Int.reduceToNat] at ho10; rw [← Ny151.out] at ho10)); have n0_ := Aside0.mk (Kd.R_lower ho10 (below_size (by repeat (first | (with_reducible first | exact HB.out | apply below_alloc | apply pw_below_drewN | apply below_drew1) | exact HB.out)))); have n1_ := Aside0.mk (below_step (by repeat (first | (with_reducible first | exact HB.out | apply below_alloc | apply pw_below_drewN | apply below_drew1) | exact HB.out)) hb); clear HB; have HO153 := n0_; have HB := n1_; clear n0_ n1_; clear hb ho10; obtain ⟨Ao11, co11, eo11⟩ := Kd.R_slice HO153.out; subst eo11)))
            go_loopg [25] kj2 (fun kq v25 w' => ∃ (x5_2 : List Int) (x25_2 : Int), v25 = .int .i64 x25_2 ∧ Aside0 (impl_Edits.l0 kq a0 a1 x5_2 (y151.length : Int) x25_2 = some r) ∧ Aside0 (kq ≤ kj2) ∧ Aside0 (Kd.R (Kd.int .i64) 2 w' w.heap.size (fun _ => True) (.slice Ao11 y151.length co11) x5_2) ∧ Aside0 (Below w.heap.size w w'))
            case atStart => exact ⟨(y151), (0), (by first | rfl | (simp; done) | (simp [*]; done)), H', ⟨Nat.le_refl _⟩, ⟨by (with_reducible repeat (first | apply Kd.R_alloc | apply Kd.R_drewN | apply Kd.R_drew)); exact HO153.out⟩, ⟨by repeat (first | (with_reducible first | exact HB.out | apply below_alloc | apply pw_below_drewN | apply below_drew1) | exact HB.out)⟩⟩
            case round =>
              clear H'
              try clear c2
              try clear p2
              try clear c4
              try clear c4b0
              try clear c4b1
              try clear c5
              try clear p6
              try clear c7
              try clear c7b0
              try clear c7b1
              try clear c8
              try clear c8b0
              try clear c8b1
              try clear p2
              obtain ⟨x5_2, x25_2, rfl, HA, HK2, HO_5, HB⟩ := hrel
              have hl5_2 := (Kd.R_reads' HO_5.out).1
              rw [hl5_2] at HO_5
              (try simp only [hl5_2])
              cases gk with
              | zero => exact absurd HA.out (by simp [impl_Edits.l0])
              | succ k2 =>
                have H := HA.out
                clear HA
                simp only [impl_Edits.l0] at H
                by_cases c12 : x25_2 < (y151.length : Int)
                · rw [if_pos c12] at H
                  have c12b0 : decide (x25_2 < (y151.length : Int)) = true := decide_eq_true c12
                  (try simp only [hl5_2] at c12b0)
                  clear c12
                  by_cases c13 : 0 ≤ x25_2
                  · rw [if_pos c13] at H
                    have c13b0 : decide (0 ≤ x25_2) = true := decide_eq_true c13
                    clear c13
                    by_cases c14 : x25_2 < (x5_2.length : Int)
                    · rw [if_pos c14] at H
                      have c14b0 : decide (x25_2 < (x5_2.length : Int)) = true := decide_eq_true c14
                      clear c14
                      obtain ⟨y154, hy154⟩ : ∃ y_ : List Int, y_ = (x5_2.set (x25_2 : Int).toNat x25_2) := ⟨_, rfl⟩
                      replace H : (impl_Edits.l0 k2 a0 a1 y154 (y151.length : Int) (wrap64 (x25_2 + 1))) = some r := by first | (rw [hy154]; with_reducible exact H) | (have H2_ := (Option.bind_some _ _).symm.trans H; rw [hy154]; with_reducible exact H2_) | (have H2_ := (Option.bind_some _ _).symm.trans H; with_reducible exact H2_) | with_reducible exact H | (rw [hy154]; exact H) | exact H
                      have Ny154 := Aside0.mk hy154
                      clear hy154
                      have H' := Aside0.mk H
                      clear H
                      have p15 : 0 ≤ (x25_2 : Int) := of_decide_eq_true (by first | (with_reducible assumption) | assumption)
                      have q15 : (x25_2 : Int) < ((x5_2.length : Int) : Int) := of_decide_eq_true (by first | (with_reducible assumption) | assumption)
                      obtain ⟨go15, co15, eo15, gb15, gl15, cl15, HG15⟩ := Kd.R_form HO_5.out (by omega)
                      (first | cases eo15 | (injection eo15 with ea_ en_ ec_; (first | subst ea_ | (injection ea_ with ea_; subst ea_)); subst ec_; clear en_))
                      have GB15 := Aside0.mk gb15
                      have GG15 := Aside0.mk HG15
                      clear gb15 gl15 HG15
                      obtain ⟨hx15_0, hf15_0⟩ := Kd.R_celln 0 HO_5.out (x25_2 : Int) p15 q15
                      replace p15 := eq_true p15
                      replace q15 := eq_true q15
                      have HP16 := Kd.R_putg HO_5.out (x25_2 : Int) x25_2
                      go_wp2_with (first | ((with_reducible refine gate_store (t := 2) (p := 31) rfl ?_); (try (rw [drewN_self wr]; generalize hq_ : World.drewN wr _ = wr; have n0_ := Aside0.mk (Kd.R_at hq_ HO_5.out); have n1_ := Aside0.mk (below_at hq_ HB.out); clear hq_ HO_5 HB; have HO_5 := n0_; have HB := n1_; clear n0_ n1_; (try (have HP16 := Kd.R_putg HO_5.out (x25_2 : Int) x25_2)))); refine store_event (t := 2) (p := 31) (v := ?vo_w17) (w1 := (wr.setCell ⟨go15, (x25_2 : Int).toNat, none⟩ (.int .i64 x25_2))) ?hg ?ho ?hn ?hr ?_; (case ho => rfl); (case hg => rfl); (case hn => rfl); (case hr => first | (go_simp; done) | (go_simp; rfl)); intro w17 hw; have hg : wr.grownBy w17 (some go15) := (by rw [hw]; exact HP16.2); have hp_ : Kd.R (Kd.int .i64) 2 w17 w.heap.size (fun _ => True) (.slice (some ⟨go15, 0, none⟩) x5_2.length co11) y154 := (by rw [hw, Ny154.out]; exact HP16.1); clear HP16; have n0_ := Aside0.mk (hp_); have n1_ := Aside0.mk ((by rw [hw]; exact below_set (HB.out) GB15.out : Below w.heap.size w w17)); clear HO_5; clear HB; have HO_5 := n0_; have HB := n1_; clear n0_ n1_; clear hg hw hp_))
                      repeat (go_quiet (first | ((with_reducible refine gate_store (t := 2) (p := 31) rfl ?_); (try (rw [drewN_self wr]; generalize hq_ : World.drewN wr _ = wr; have n0_ := Aside0.mk (Kd.R_at hq_ HO_5.out); have n1_ := Aside0.mk (below_at hq_ HB.out); clear hq_ HO_5 HB; have HO_5 := n0_; have HB := n1_; clear n0_ n1_; (try (have HP16 := Kd.R_putg HO_5.out (x25_2 : Int) x25_2)))); refine store_event (t := 2) (p := 31) (v := ?vo_w17) (w1 := (wr.setCell ⟨go15, (x25_2 : Int).toNat, none⟩ (.int .i64 x25_2))) ?hg ?ho ?hn ?hr ?_; (case ho => rfl); (case hg => rfl); (case hn => rfl); (case hr => first | (go_simp; done) | (go_simp; rfl)); intro w17 hw; have hg : wr.grownBy w17 (some go15) := (by rw [hw]; exact HP16.2); have hp_ : Kd.R (Kd.int .i64) 2 w17 w.heap.size (fun _ => True) (.slice (some ⟨go15, 0, none⟩) x5_2.length co11) y154 := (by rw [hw, Ny154.out]; exact HP16.1); clear HP16; have n0_ := Aside0.mk (hp_); have n1_ := Aside0.mk ((by rw [hw]; exact below_set (HB.out) GB15.out : Below w.heap.size w w17)); clear HO_5; clear HB; have HO_5 := n0_; have HB := n1_; clear n0_ n1_; clear hg hw hp_)); try go_wp2_with (first | ((with_reducible refine gate_store (t := 2) (p := 31) rfl ?_); (try (rw [drewN_self wr]; generalize hq_ : World.drewN wr _ = wr; have n0_ := Aside0.mk (Kd.R_at hq_ HO_5.out); have n1_ := Aside0.mk (below_at hq_ HB.out); clear hq_ HO_5 HB; have HO_5 := n0_; have HB := n1_; clear n0_ n1_; (try (have HP16 := Kd.R_putg HO_5.out (x25_2 : Int) x25_2)))); refine store_event (t := 2) (p := 31) (v := ?vo_w17) (w1 := (wr.setCell ⟨go15, (x25_2 : Int).toNat, none⟩ (.int .i64 x25_2))) ?hg ?ho ?hn ?hr ?_; (case ho => rfl); (case hg => rfl); (case hn => rfl); (case hr => first | (go_simp; done) | (go_simp; rfl)); intro w17 hw; have hg : wr.grownBy w17 (some go15) := (by rw [hw]; exact HP16.2); have hp_ : Kd.R (Kd.int .i64) 2 w17 w.heap.size (fun _ => True) (.slice (some ⟨go15, 0, none⟩) x5_2.length co11) y154 := (by rw [hw, Ny154.out]; exact HP16.1); clear HP16; have n0_ := Aside0.mk (hp_); have n1_ := Aside0.mk ((by rw [hw]; exact below_set (HB.out) GB15.out : Below w.heap.size w w17)); clear HO_5; clear HB; have HO_5 := n0_; have HB := n1_; clear n0_ n1_; clear hg hw hp_)))
                      (try simp only [← hl5_2])
                      go_roundg k2
                      case measure => have := HJ2.out; have := HK2.out; omega
                      case rel => exact ⟨(y154), (wrap64 (x25_2 + 1)), (by first | rfl | (simp; done) | (simp [*]; done)), H', ⟨by have := HJ2.out; have := HK2.out; omega⟩, ⟨by (try simp only [hl5_2]); (with_reducible repeat (first | apply Kd.R_alloc | apply Kd.R_drewN | apply Kd.R_drew)); exact HO_5.out⟩, ⟨by repeat (first | (with_reducible first | exact HB.out | apply below_alloc | apply pw_below_drewN | apply below_drew1) | exact HB.out)⟩⟩
                    · rw [if_neg c14] at H
                      exact absurd H (by simp)
                  · rw [if_neg c13] at H
                    exact absurd H (by simp)
                · rw [if_neg c12] at H
                  have c12b0 : decide (x25_2 < (y151.length : Int)) = false := decide_eq_false c12
                  (try simp only [hl5_2] at c12b0)
                  clear c12
                  have H' := Aside0.mk H
                  clear H
                  go_wp2
                  repeat (go_quiet (fail); try go_wp2)
                  go_loopg [5, 7] k2 (fun kq v5 v7 w' => ∃ (x5_3 : List Int) (x7_3 : Int), v7 = .int .i64 x7_3 ∧ Aside0 (impl_Edits.l1 kq a0 a1 x5_3 x7_3 = some r) ∧ Aside0 (kq ≤ k2) ∧ Aside0 (Kd.R (Kd.int .i64) 2 w' w.heap.size (fun _ => True) v5 x5_3) ∧ Aside0 (Below w.heap.size w w'))
                  case atStart => exact ⟨(x5_2), (1), (by first | rfl | (simp; done) | (simp [*]; done)), H', ⟨Nat.le_refl _⟩, ⟨by (try simp only [hl5_2]); (with_reducible repeat (first | apply Kd.R_alloc | apply Kd.R_drewN | apply Kd.R_drew)); exact HO_5.out⟩, ⟨by repeat (first | (with_reducible first | exact HB.out | apply below_alloc | apply pw_below_drewN | apply below_drew1) | exact HB.out)⟩⟩
                  case round =>
                    clear H'
                    try clear c1
                    try clear p1
                    try clear q1
                    try clear hx1
                    try clear c2
                    try clear p2
                    try clear c4
                    try clear c4b0
                    try clear c4b1
                    try clear c5
                    try clear p6
                    try clear c7
                    try clear c7b0
                    try clear c7b1
                    try clear c8
                    try clear c8b0
                    try clear c8b1
                    try clear c12
                    try clear c12b0
                    try clear c13
                    try clear c13b0
                    try clear c14
                    try clear c14b0
                    try clear p15
                    try clear q15
                    try clear hx15
                    try clear hf15
                    try clear hx15_0
                    try clear p15
                    try clear p2
                    try clear p6
                    try clear q15
                    obtain ⟨x5_3, x7_3, rfl, HA, HK3, HO_5, HB⟩ := hrel
                    cases gk with
                    | zero => exact absurd HA.out (by simp [impl_Edits.l1])
                    | succ k3 =>
                      have H := HA.out
                      clear HA
                      simp only [impl_Edits.l1] at H
                      by_cases c18 : x7_3 ≤ (a0.size : Int)
                      · rw [if_pos c18] at H
                        have c18b0 : decide (x7_3 ≤ (a0.size : Int)) = true := decide_eq_true c18
                        clear c18
                        obtain ⟨ji19, hji19⟩ : ∃ j_ : Int, (wrap64 ((a1.size : Int) + 1)) = j_ := ⟨_, rfl⟩
                        (try (have hjq_ := hji19.symm.trans hji6; subst hjq_))
                        replace H : (if 0 ≤ (ji19) then (if (ji19 : Int).toNat ≤ 35184372088832 then ((some (List.replicate (ji19 : Int).toNat 0 : List Int)).bind fun y157 => (if 0 < (y157.length : Int) then (impl_Edits.l2 k3 a0 a1 x5_3 x7_3 (y157.set (0 : Int).toNat x7_3) 1) else (none))) else (none)) else (none)) = some r := by first | (rw [hji19] at H; exact H) | (simp only [hji19] at H ⊢; exact H)
                        have hji19w : (IntKind.i64.wrap ((a1.size : Int) + 1)) = ji19 := (i64_w _).trans hji19
                        by_cases c20 : 0 ≤ (ji19)
                        · rw [if_pos c20] at H
                          have c20b0 := eq_true c20
                          have c20b1 : decide (0 ≤ (ji19)) = true := decide_eq_true c20
                          clear c20
                          by_cases c21 : (ji19 : Int).toNat ≤ 35184372088832
                          · rw [if_pos c21] at H
                            have c21b0 := eq_true c21
                            have c21b1 : decide ((ji19 : Int).toNat ≤ 35184372088832) = true := decide_eq_true c21
                            clear c21
                            obtain ⟨y157, hy157⟩ : ∃ y_ : List Int, y_ = (List.replicate (ji19 : Int).toNat 0) := ⟨_, rfl⟩
                            replace H : (if 0 < (y157.length : Int) then (impl_Edits.l2 k3 a0 a1 x5_3 x7_3 (y157.set (0 : Int).toNat x7_3) 1) else (none)) = some r := by first | (rw [hy157]; with_reducible exact H) | (have H2_ := (Option.bind_some _ _).symm.trans H; rw [hy157]; with_reducible exact H2_) | (have H2_ := (Option.bind_some _ _).symm.trans H; with_reducible exact H2_) | with_reducible exact H | (rw [hy157]; exact H) | exact H
                            have Ny157 := Aside0.mk hy157
                            clear hy157
                            by_cases c22 : 0 < (y157.length : Int)
                            · rw [if_pos c22] at H
                              have c22b0 : decide (0 < (y157.length : Int)) = true := decide_eq_true c22
                              (try simp only [hl5_2] at c22b0)
                              have c22b1 : decide (0 < y157.length) = true := decide_eq_true (by omega)
                              (try simp only [hl5_2] at c22b1)
                              clear c22
                              obtain ⟨y160, hy160⟩ : ∃ y_ : List Int, y_ = (y157.set (0 : Int).toNat x7_3) := ⟨_, rfl⟩
                              replace H : (impl_Edits.l2 k3 a0 a1 x5_3 x7_3 y160 1) = some r := by first | (rw [hy160]; with_reducible exact H) | (have H2_ := (Option.bind_some _ _).symm.trans H; rw [hy160]; with_reducible exact H2_) | (have H2_ := (Option.bind_some _ _).symm.trans H; with_reducible exact H2_) | with_reducible exact H | (rw [hy160]; exact H) | exact H
                              have Ny160 := Aside0.mk hy160
                              clear hy160
                              have H' := Aside0.mk H
                              clear H
                              go_wp2_with (first | ((with_reducible refine gate_dst (N := 42) rfl ?_); (try (refine gate_guard (by rfl) ?_; dsimp only)); refine Kd.R_make (Kd.int .i64) _ 2 rfl (N := 42) rfl 90 _ _ rfl ji19 rfl rfl Try.underlying90 (.int .i64 0) 8 info2 rfl (by decide) (by omega) 0 (ok := fun _ => True) (okp := fun _ => True) rfl (fun _ hk => hk) trivial (of_decide_eq_true (by first | (with_reducible assumption) | assumption)) (Nat.le_trans (Nat.mul_le_mul_right _ (of_decide_eq_true (by first | (with_reducible assumption) | assumption) : ji19.toNat ≤ 35184372088832)) (by omega)) (Below.refl _ _) (Nat.le_refl _) ?_; intro v158 w24 ho25 hb hg_ hnew_; clear hg_ hnew_; (first | rw [← Ny157.out] at ho25 | (simp only [Int.reduceToNat] at ho25; rw [← Ny157.out] at ho25)); have n0_ := Aside0.mk (Kd.R_elder' (by (with_reducible repeat (first | apply Kd.R_alloc | apply Kd.R_drewN | apply Kd.R_drew)); exact HO_5.out) (Kd.R_base ho25) hb); have n1_ := Aside0.mk (Kd.R_lower (Kd.R_new' ho25 (Kd.R_lt (by (with_reducible repeat (first | apply Kd.R_alloc | apply Kd.R_drewN | apply Kd.R_drew)); exact HO_5.out))) (below_size (by repeat (first | (with_reducible first | exact HB.out | apply below_alloc | apply pw_below_drewN | apply below_drew1) | exact HB.out)))); have n2_ := Aside0.mk (below_step (by repeat (first | (with_reducible first | exact HB.out | apply below_alloc | apply pw_below_drewN | apply below_drew1) | exact HB.out)) hb); clear HO_5; clear HB; have HO_5 := n0_; have HO159 := n1_; have HB := n2_; clear n0_ n1_ n2_; clear hb ho25; have p23 : 0 ≤ (0 : Int) := (by omega); have q23 : (0 : Int) < ((y157.length : Int) : Int) := of_decide_eq_true (by first | (with_reducible assumption) | assumption); have qi23 : (0 < y157.length) = True := eq_true (by omega); obtain ⟨go23, co23, eo23, gb23, gl23, cl23, HG23⟩ := Kd.R_form HO159.out (by omega); (first | cases eo23 | (injection eo23 with ea_ en_ ec_; (first | subst ea_ | (injection ea_ with ea_; subst ea_)); subst ec_; clear en_)); have GB23 := Aside0.mk gb23; have GG23 := Aside0.mk HG23; clear gb23 gl23 HG23; obtain ⟨hx23_0, hf23_0⟩ := Kd.R_celln 0 HO159.out (0 : Int) p23 q23; (try rw [show ((0 : Int)).toNat = 0 from rfl] at hx23_0); (try simp only [Nat.reduceMul, Nat.zero_mul, Nat.zero_add, Nat.reduceAdd] at hx23_0); (try rw [show ((0 : Int)).toNat = 0 from rfl] at hf23_0); (try simp only [Nat.reduceMul, Nat.zero_mul, Nat.zero_add, Nat.reduceAdd] at hf23_0); replace p23 := eq_true p23; replace q23 := eq_true q23; have n_ := Aside0.mk (Kd.R_mono (ok' := (fun k_ => some k_ ≠ (u5 : Value).ownBlock)) HO159.out (fun k_ hk => hk.2)); clear HO159; have HO159 := n_; clear n_; obtain ⟨hy26_, hz26_⟩ := Kd.R_celln 0 HO159.out (0 : Int) (by omega) (of_decide_eq_true (by first | (with_reducible assumption) | assumption)); (try simp only [Int.reduceToNat, Int.toNat_zero, Int.toNat_ofNat, Nat.reduceMul, Nat.zero_mul, Nat.zero_add] at hy26_ hz26_); (try rw [show ((0 : Int)).toNat = 0 from rfl] at hy26_); (try rw [show ((0 : Int)).toNat = 0 from rfl] at hz26_); have HP26 := Kd.R_putg HO159.out (0 : Int) x7_3) | ((with_reducible refine gate_store (t := 2) (p := 45) rfl ?_); (try (rw [drewN_self w24]; generalize hq_ : World.drewN w24 _ = w24; have n0_ := Aside0.mk (Kd.R_at hq_ HO_5.out); have n1_ := Aside0.mk (Kd.R_at hq_ HO159.out); have n2_ := Aside0.mk (below_at hq_ HB.out); clear hq_ HO_5 HO159 HB; have HO_5 := n0_; have HO159 := n1_; have HB := n2_; clear n0_ n1_ n2_; (try (have n_ := Aside0.mk (Kd.R_mono (ok' := (fun k_ => some k_ ≠ (u5 : Value).ownBlock)) HO159.out (fun k_ hk => hk.2)); clear HO159; have HO159 := n_; clear n_)); (try (obtain ⟨hy26_, hz26_⟩ := Kd.R_celln 0 HO159.out (0 : Int) (by omega) (of_decide_eq_true (by first | (with_reducible assumption) | assumption)))); (try (try simp only [Int.reduceToNat, Int.toNat_zero, Int.toNat_ofNat, Nat.reduceMul, Nat.zero_mul, Nat.zero_add] at hy26_ hz26_)); (try (try rw [show ((0 : Int)).toNat = 0 from rfl] at hy26_)); (try (try rw [show ((0 : Int)).toNat = 0 from rfl] at hz26_)); (try (have HP26 := Kd.R_putg HO159.out (0 : Int) x7_3)))); refine store_event (t := 2) (p := 45) (v := ?vo_w27) (w1 := (w24.setCell ⟨go23, (0 : Int).toNat, none⟩ (.int .i64 x7_3))) ?hg ?ho ?hn ?hr ?_; (case ho => rfl); (case hg => rfl); (case hn => rfl); (case hr => first | (go_simp; done) | (go_simp; rfl)); intro w27 hw; have hg : w24.grownBy w27 (some go23) := (by rw [hw]; exact HP26.2); have hp_ : Kd.R (Kd.int .i64) 2 w27 w.heap.size (fun k_ => some k_ ≠ (u5 : Value).ownBlock) (.slice (some ⟨go23, 0, none⟩) y157.length co23) y160 := (by rw [hw, Ny160.out]; exact HP26.1); clear HP26; have n0_ := Aside0.mk (Kd.R_after (v := (.slice (some ⟨go23, 0, none⟩) y157.length co23)) (v1 := (.slice (some ⟨go23, 0, none⟩) y157.length co23)) (ok := (fun _ => True)) (by (with_reducible repeat (first | apply Kd.R_alloc | apply Kd.R_drewN | apply Kd.R_drew)); exact HO_5.out) hg (.inl rfl)); have n1_ := Aside0.mk (hp_); have n2_ := Aside0.mk ((by rw [hw]; exact below_set (HB.out) GB23.out : Below w.heap.size w w27)); clear HO_5; clear HO159; clear HB; have HO_5 := n0_; have HO159 := n1_; have HB := n2_; clear n0_ n1_ n2_; clear hg hw hp_))
                              repeat (go_quiet (first | ((with_reducible refine gate_dst (N := 42) rfl ?_); (try (refine gate_guard (by rfl) ?_; dsimp only)); refine Kd.R_make (Kd.int .i64) _ 2 rfl (N := 42) rfl 90 _ _ rfl ji19 rfl rfl Try.underlying90 (.int .i64 0) 8 info2 rfl (by decide) (by omega) 0 (ok := fun _ => True) (okp := fun _ => True) rfl (fun _ hk => hk) trivial (of_decide_eq_true (by first | (with_reducible assumption) | assumption)) (Nat.le_trans (Nat.mul_le_mul_right _ (of_decide_eq_true (by first | (with_reducible assumption) | assumption) : ji19.toNat ≤ 35184372088832)) (by omega)) (Below.refl _ _) (Nat.le_refl _) ?_; intro v158 w24 ho25 hb hg_ hnew_; clear hg_ hnew_; (first | rw [← Ny157.out] at ho25 | (simp only [Int.reduceToNat] at ho25; rw [← Ny157.out] at ho25)); have n0_ := Aside0.mk (Kd.R_elder' (by (with_reducible repeat (first | apply Kd.R_alloc | apply Kd.R_drewN | apply Kd.R_drew)); exact HO_5.out) (Kd.R_base ho25) hb); have n1_ := Aside0.mk (Kd.R_lower (Kd.R_new' ho25 (Kd.R_lt (by (with_reducible repeat (first | apply Kd.R_alloc | apply Kd.R_drewN | apply Kd.R_drew)); exact HO_5.out))) (below_size (by repeat (first | (with_reducible first | exact HB.out | apply below_alloc | apply pw_below_drewN | apply below_drew1) | exact HB.out)))); have n2_ := Aside0.mk (below_step (by repeat (first | (with_reducible first | exact HB.out | apply below_alloc | apply pw_below_drewN | apply below_drew1) | exact HB.out)) hb); clear HO_5; clear HB; have HO_5 := n0_; have HO159 := n1_; have HB := n2_; clear n0_ n1_ n2_; clear hb ho25; have p23 : 0 ≤ (0 : Int) := (by omega); have q23 : (0 : Int) < ((y157.length : Int) : Int) := of_decide_eq_true (by first | (with_reducible assumption) | assumption); have qi23 : (0 < y157.length) = True := eq_true (by omega); obtain ⟨go23, co23, eo23, gb23, gl23, cl23, HG23⟩ := Kd.R_form HO159.out (by omega); (first | cases eo23 | (injection eo23 with ea_ en_ ec_; (first | subst ea_ | (injection ea_ with ea_; subst ea_)); subst ec_; clear en_)); have GB23 := Aside0.mk gb23; have GG23 := Aside0.mk HG23; clear gb23 gl23 HG23; obtain ⟨hx23_0, hf23_0⟩ := Kd.R_celln 0 HO159.out (0 : Int) p23 q23; (try rw [show ((0 : Int)).toNat = 0 from rfl] at hx23_0); (try simp only [Nat.reduceMul, Nat.zero_mul, Nat.zero_add, Nat.reduceAdd] at hx23_0); (try rw [show ((0 : Int)).toNat = 0 from rfl] at hf23_0); (try simp only [Nat.reduceMul, Nat.zero_mul, Nat.zero_add, Nat.reduceAdd] at hf23_0); replace p23 := eq_true p23; replace q23 := eq_true q23; have n_ := Aside0.mk (Kd.R_mono (ok' := (fun k_ => some k_ ≠ (u5 : Value).ownBlock)) HO159.out (fun k_ hk => hk.2)); clear HO159; have HO159 := n_; clear n_; obtain ⟨hy26_, hz26_⟩ := Kd.R_celln 0 HO159.out (0 : Int) (by omega) (of_decide_eq_true (by first | (with_reducible assumption) | assumption)); (try simp only [Int.reduceToNat, Int.toNat_zero, Int.toNat_ofNat, Nat.reduceMul, Nat.zero_mul, Nat.zero_add] at hy26_ hz26_); (try rw [show ((0 : Int)).toNat = 0 from rfl] at hy26_); (try rw [show ((0 : Int)).toNat = 0 from rfl] at hz26_); have HP26 := Kd.R_putg HO159.out (0 : Int) x7_3) | ((with_reducible refine gate_store (t := 2) (p := 45) rfl ?_); (try (rw [drewN_self w24]; generalize hq_ : World.drewN w24 _ = w24; have n0_ := Aside0.mk (Kd.R_at hq_ HO_5.out); have n1_ := Aside0.mk (Kd.R_at hq_ HO159.out); have n2_ := Aside0.mk (below_at hq_ HB.out); clear hq_ HO_5 HO159 HB; have HO_5 := n0_; have HO159 := n1_; have HB := n2_; clear n0_ n1_ n2_; (try (have n_ := Aside0.mk (Kd.R_mono (ok' := (fun k_ => some k_ ≠ (u5 : Value).ownBlock)) HO159.out (fun k_ hk => hk.2)); clear HO159; have HO159 := n_; clear n_)); (try (obtain ⟨hy26_, hz26_⟩ := Kd.R_celln 0 HO159.out (0 : Int) (by omega) (of_decide_eq_true (by first | (with_reducible assumption) | assumption)))); (try (try simp only [Int.reduceToNat, Int.toNat_zero, Int.toNat_ofNat, Nat.reduceMul, Nat.zero_mul, Nat.zero_add] at hy26_ hz26_)); (try (try rw [show ((0 : Int)).toNat = 0 from rfl] at hy26_)); (try (try rw [show ((0 : Int)).toNat = 0 from rfl] at hz26_)); (try (have HP26 := Kd.R_putg HO159.out (0 : Int) x7_3)))); refine store_event (t := 2) (p := 45) (v := ?vo_w27) (w1 := (w24.setCell ⟨go23, (0 : Int).toNat, none⟩ (.int .i64 x7_3))) ?hg ?ho ?hn ?hr ?_; (case ho => rfl); (case hg => rfl); (case hn => rfl); (case hr => first | (go_simp; done) | (go_simp; rfl)); intro w27 hw; have hg : w24.grownBy w27 (some go23) := (by rw [hw]; exact HP26.2); have hp_ : Kd.R (Kd.int .i64) 2 w27 w.heap.size (fun k_ => some k_ ≠ (u5 : Value).ownBlock) (.slice (some ⟨go23, 0, none⟩) y157.length co23) y160 := (by rw [hw, Ny160.out]; exact HP26.1); clear HP26; have n0_ := Aside0.mk (Kd.R_after (v := (.slice (some ⟨go23, 0, none⟩) y157.length co23)) (v1 := (.slice (some ⟨go23, 0, none⟩) y157.length co23)) (ok := (fun _ => True)) (by (with_reducible repeat (first | apply Kd.R_alloc | apply Kd.R_drewN | apply Kd.R_drew)); exact HO_5.out) hg (.inl rfl)); have n1_ := Aside0.mk (hp_); have n2_ := Aside0.mk ((by rw [hw]; exact below_set (HB.out) GB23.out : Below w.heap.size w w27)); clear HO_5; clear HO159; clear HB; have HO_5 := n0_; have HO159 := n1_; have HB := n2_; clear n0_ n1_ n2_; clear hg hw hp_)); try go_wp2_with (first | ((with_reducible refine gate_dst (N := 42) rfl ?_); (try (refine gate_guard (by rfl) ?_; dsimp only)); refine Kd.R_make (Kd.int .i64) _ 2 rfl (N := 42) rfl 90 _ _ rfl ji19 rfl rfl Try.underlying90 (.int .i64 0) 8 info2 rfl (by decide) (by omega) 0 (ok := fun _ => True) (okp := fun _ => True) rfl (fun _ hk => hk) trivial (of_decide_eq_true (by first | (with_reducible assumption) | assumption)) (Nat.le_trans (Nat.mul_le_mul_right _ (of_decide_eq_true (by first | (with_reducible assumption) | assumption) : ji19.toNat ≤ 35184372088832)) (by omega)) (Below.refl _ _) (Nat.le_refl _) ?_; intro v158 w24 ho25 hb hg_ hnew_; clear hg_ hnew_; (first | rw [← Ny157.out] at ho25 | (simp only [Int.reduceToNat] at ho25; rw [← Ny157.out] at ho25)); have n0_ := Aside0.mk (Kd.R_elder' (by (with_reducible repeat (first | apply Kd.R_alloc | apply Kd.R_drewN | apply Kd.R_drew)); exact HO_5.out) (Kd.R_base ho25) hb); have n1_ := Aside0.mk (Kd.R_lower (Kd.R_new' ho25 (Kd.R_lt (by (with_reducible repeat (first | apply Kd.R_alloc | apply Kd.R_drewN | apply Kd.R_drew)); exact HO_5.out))) (below_size (by repeat (first | (with_reducible first | exact HB.out | apply below_alloc | apply pw_below_drewN | apply below_drew1) | exact HB.out)))); have n2_ := Aside0.mk (below_step (by repeat (first | (with_reducible first | exact HB.out | apply below_alloc | apply pw_below_drewN | apply below_drew1) | exact HB.out)) hb); clear HO_5; clear HB; have HO_5 := n0_; have HO159 := n1_; have HB := n2_; clear n0_ n1_ n2_; clear hb ho25; have p23 : 0 ≤ (0 : Int) := (by omega); have q23 : (0 : Int) < ((y157.length : Int) : Int) := of_decide_eq_true (by first | (with_reducible assumption) | assumption); have qi23 : (0 < y157.length) = True := eq_true (by omega); obtain ⟨go23, co23, eo23, gb23, gl23, cl23, HG23⟩ := Kd.R_form HO159.out (by omega); (first | cases eo23 | (injection eo23 with ea_ en_ ec_; (first | subst ea_ | (injection ea_ with ea_; subst ea_)); subst ec_; clear en_)); have GB23 := Aside0.mk gb23; have GG23 := Aside0.mk HG23; clear gb23 gl23 HG23; obtain ⟨hx23_0, hf23_0⟩ := Kd.R_celln 0 HO159.out (0 : Int) p23 q23; (try rw [show ((0 : Int)).toNat = 0 from rfl] at hx23_0); (try simp only [Nat.reduceMul, Nat.zero_mul, Nat.zero_add, Nat.reduceAdd] at hx23_0); (try rw [show ((0 : Int)).toNat = 0 from rfl] at hf23_0); (try simp only [Nat.reduceMul, Nat.zero_mul, Nat.zero_add, Nat.reduceAdd] at hf23_0); replace p23 := eq_true p23; replace q23 := eq_true q23; have n_ := Aside0.mk (Kd.R_mono (ok' := (fun k_ => some k_ ≠ (u5 : Value).ownBlock)) HO159.out (fun k_ hk => hk.2)); clear HO159; have HO159 := n_; clear n_; obtain ⟨hy26_, hz26_⟩ := Kd.R_celln 0 HO159.out (0 : Int) (by omega) (of_decide_eq_true (by first | (with_reducible assumption) | assumption)); (try simp only [Int.reduceToNat, Int.toNat_zero, Int.toNat_ofNat, Nat.reduceMul, Nat.zero_mul, Nat.zero_add] at hy26_ hz26_); (try rw [show ((0 : Int)).toNat = 0 from rfl] at hy26_); (try rw [show ((0 : Int)).toNat = 0 from rfl] at hz26_); have HP26 := Kd.R_putg HO159.out (0 : Int) x7_3) | ((with_reducible refine gate_store (t := 2) (p := 45) rfl ?_); (try (rw [drewN_self w24]; generalize hq_ : World.drewN w24 _ = w24; have n0_ := Aside0.mk (Kd.R_at hq_ HO_5.out); have n1_ := Aside0.mk (Kd.R_at hq_ HO159.out); have n2_ := Aside0.mk (below_at hq_ HB.out); clear hq_ HO_5 HO159 HB; have HO_5 := n0_; have HO159 := n1_; have HB := n2_; clear n0_ n1_ n2_; (try (have n_ := Aside0.mk (Kd.R_mono (ok' := (fun k_ => some k_ ≠ (u5 : Value).ownBlock)) HO159.out (fun k_ hk => hk.2)); clear HO159; have HO159 := n_; clear n_)); (try (obtain ⟨hy26_, hz26_⟩ := Kd.R_celln 0 HO159.out (0 : Int) (by omega) (of_decide_eq_true (by first | (with_reducible assumption) | assumption)))); (try (try simp only [Int.reduceToNat, Int.toNat_zero, Int.toNat_ofNat, Nat.reduceMul, Nat.zero_mul, Nat.zero_add] at hy26_ hz26_)); (try (try rw [show ((0 : Int)).toNat = 0 from rfl] at hy26_)); (try (try rw [show ((0 : Int)).toNat = 0 from rfl] at hz26_)); (try (have HP26 := Kd.R_putg HO159.out (0 : Int) x7_3)))); refine store_event (t := 2) (p := 45) (v := ?vo_w27) (w1 := (w24.setCell ⟨go23, (0 : Int).toNat, none⟩ (.int .i64 x7_3))) ?hg ?ho ?hn ?hr ?_; (case ho => rfl); (case hg => rfl); (case hn => rfl); (case hr => first | (go_simp; done) | (go_simp; rfl)); intro w27 hw; have hg : w24.grownBy w27 (some go23) := (by rw [hw]; exact HP26.2); have hp_ : Kd.R (Kd.int .i64) 2 w27 w.heap.size (fun k_ => some k_ ≠ (u5 : Value).ownBlock) (.slice (some ⟨go23, 0, none⟩) y157.length co23) y160 := (by rw [hw, Ny160.out]; exact HP26.1); clear HP26; have n0_ := Aside0.mk (Kd.R_after (v := (.slice (some ⟨go23, 0, none⟩) y157.length co23)) (v1 := (.slice (some ⟨go23, 0, none⟩) y157.length co23)) (ok := (fun _ => True)) (by (with_reducible repeat (first | apply Kd.R_alloc | apply Kd.R_drewN | apply Kd.R_drew)); exact HO_5.out) hg (.inl rfl)); have n1_ := Aside0.mk (hp_); have n2_ := Aside0.mk ((by rw [hw]; exact below_set (HB.out) GB23.out : Below w.heap.size w w27)); clear HO_5; clear HO159; clear HB; have HO_5 := n0_; have HO159 := n1_; have HB := n2_; clear n0_ n1_ n2_; clear hg hw hp_)))
                              go_loopg [9] k3 (fun kq v9 w' => ∃ (x8_4 : List Int) (x9_4 : Int), v9 = .int .i64 x9_4 ∧ Aside0 (impl_Edits.l2 kq a0 a1 x5_3 x7_3 x8_4 x9_4 = some r) ∧ Aside0 (kq ≤ k3) ∧ Aside0 (Kd.R (Kd.int .i64) 2 w' w.heap.size (fun k_ => some k_ ≠ ((.slice (some ⟨go23, 0, none⟩) y157.length co23) : Value).ownBlock) u5 x5_3) ∧ Aside0 (Kd.R (Kd.int .i64) 2 w' w.heap.size (fun k_ => some k_ ≠ (u5 : Value).ownBlock) (.slice (some ⟨go23, 0, none⟩) y157.length co23) x8_4) ∧ Aside0 (Below w.heap.size w w'))
                              case atStart => exact ⟨(y160), (1), (by first | rfl | (simp; done) | (simp [*]; done)), H', ⟨Nat.le_refl _⟩, ⟨by (try simp only [hl5_2]); (with_reducible repeat (first | apply Kd.R_alloc | apply Kd.R_drewN | apply Kd.R_drew)); exact Kd.R_mono HO_5.out (fun _ hk => hk.2)⟩, ⟨by (try simp only [hl5_2]); (with_reducible repeat (first | apply Kd.R_alloc | apply Kd.R_drewN | apply Kd.R_drew)); exact HO159.out⟩, ⟨by repeat (first | (with_reducible first | exact HB.out | apply below_alloc | apply pw_below_drewN | apply below_drew1) | exact HB.out)⟩⟩
                              case round =>
                                clear H'
                                try clear c1
                                try clear p1
                                try clear q1
                                try clear hx1
                                try clear c2
                                try clear p2
                                try clear q2
                                try clear hx2
                                try clear qi2
                                try clear hf2
                                try clear c4
                                try clear c4b0
                                try clear c4b1
                                try clear c5
                                try clear p6
                                try clear c7
                                try clear c7b0
                                try clear c7b1
                                try clear c8
                                try clear c8b0
                                try clear c8b1
                                try clear c12
                                try clear c12b0
                                try clear c13
                                try clear c13b0
                                try clear c14
                                try clear c14b0
                                try clear p15
                                try clear q15
                                try clear hx15
                                try clear hf15
                                try clear c18
                                try clear c18b0
                                try clear c20
                                try clear c20b0
                                try clear c20b1
                                try clear c21
                                try clear c21b0
                                try clear c21b1
                                try clear c22
                                try clear c22b0
                                try clear c22b1
                                try clear p23
                                try clear q23
                                try clear hx23
                                try clear qi23
                                try clear hf23
                                try clear c27
                                try clear hx15_0
                                try clear hx23_0
                                try clear p1
                                try clear p15
                                try clear p2
                                try clear p23
                                try clear p6
                                try clear q1
                                try clear q15
                                try clear q23
                                obtain ⟨x8_4, x9_4, rfl, HA, HK4, HO_5, HO_8, HB⟩ := hrel
                                have hl8_4 := (Kd.R_reads' HO_8.out).1
                                rw [hl8_4] at HO_8
                                (try simp only [hl8_4])
                                (try simp only [hl8_4] at HO_5)
                                cases gk with
                                | zero => exact absurd HA.out (by simp [impl_Edits.l2])
                                | succ k4 =>
                                  have H := HA.out
                                  clear HA
                                  simp only [impl_Edits.l2] at H
                                  by_cases c28 : x9_4 ≤ (a1.size : Int)
                                  · rw [if_pos c28] at H
                                    have c28b0 : decide (x9_4 ≤ (a1.size : Int)) = true := decide_eq_true c28
                                    clear c28
                                    obtain ⟨ji29, hji29⟩ : ∃ j_ : Int, (wrap64 (x9_4 - 1)) = j_ := ⟨_, rfl⟩
                                    replace H : (if 0 ≤ (ji29) then (if (ji29) < (x5_3.length : Int) then (if 0 ≤ (wrap64 (x7_3 - 1)) then (if (wrap64 (x7_3 - 1)) < (a0.size : Int) then (if (ji29) < (a1.size : Int) then (if (bt a0 (wrap64 (x7_3 - 1))) = (bt a1 (ji29)) then (impl_Edits.j4 k4 a0 a1 x5_3 x7_3 x8_4 x9_4 (rd x5_3 (ji29))) else (impl_Edits.j4 k4 a0 a1 x5_3 x7_3 x8_4 x9_4 (wrap64 ((rd x5_3 (ji29)) + 1)))) else (none)) else (none)) else (none)) else (none)) else (none)) = some r := by first | (rw [hji29] at H; exact H) | (simp only [hji29] at H ⊢; exact H)
                                    have hji29w : (IntKind.i64.wrap (x9_4 - 1)) = ji29 := (i64_w _).trans hji29
                                    by_cases c30 : 0 ≤ (ji29)
                                    · rw [if_pos c30] at H
                                      have c30b0 : decide (0 ≤ (ji29)) = true := decide_eq_true c30
                                      clear c30
                                      by_cases c31 : (ji29) < (x5_3.length : Int)
                                      · rw [if_pos c31] at H
                                        have c31b0 : decide ((ji29) < (x5_3.length : Int)) = true := decide_eq_true c31
                                        clear c31
                                        obtain ⟨ji32, hji32⟩ : ∃ j_ : Int, (wrap64 (x7_3 - 1)) = j_ := ⟨_, rfl⟩
                                        replace H : (if 0 ≤ (ji32) then (if (ji32) < (a0.size : Int) then (if (ji29) < (a1.size : Int) then (if (bt a0 (ji32)) = (bt a1 (ji29)) then (impl_Edits.j4 k4 a0 a1 x5_3 x7_3 x8_4 x9_4 (rd x5_3 (ji29))) else (impl_Edits.j4 k4 a0 a1 x5_3 x7_3 x8_4 x9_4 (wrap64 ((rd x5_3 (ji29)) + 1)))) else (none)) else (none)) else (none)) = some r := by first | (rw [hji32] at H; exact H) | (simp only [hji32] at H ⊢; exact H)
                                        have hji32w : (IntKind.i64.wrap (x7_3 - 1)) = ji32 := (i64_w _).trans hji32
                                        by_cases c33 : 0 ≤ (ji32)
                                        · rw [if_pos c33] at H
                                          have c33b0 : decide (0 ≤ (ji32)) = true := decide_eq_true c33
                                          clear c33
                                          by_cases c34 : (ji32) < (a0.size : Int)
                                          · rw [if_pos c34] at H
                                            have c34b0 : decide ((ji32) < (a0.size : Int)) = true := decide_eq_true c34
                                            clear c34
                                            by_cases c36 : (ji29) < (a1.size : Int)
                                            · rw [if_pos c36] at H
                                              have c36b0 : decide ((ji29) < (a1.size : Int)) = true := decide_eq_true c36
                                              clear c36
                                              have HC38 := Aside0.mk H
                                              clear H
                                              obtain ⟨Ao39, co39, eo39⟩ := Kd.R_slice HO_5.out
                                              subst eo39
                                              have p161 : 0 ≤ ((ji29) : Int) := of_decide_eq_true (by first | (with_reducible assumption) | assumption)
                                              have q161 : (ji29) < (x5_3.length : Int) := of_decide_eq_true (by first | (with_reducible assumption) | assumption)
                                              obtain ⟨ad161, e161, hx161_0⟩ := Kd.at_int (Kd.R_reads' HO_5.out).2.2 (ji29) p161 q161
                                              cases e161
                                              replace p161 := eq_true p161
                                              replace q161 := eq_true q161
                                              have p35 : 0 ≤ ((ji32) : Int) := of_decide_eq_true (by first | (with_reducible assumption) | assumption)
                                              have q35 : (ji32) < (a0.size : Int) := of_decide_eq_true (by first | (with_reducible assumption) | assumption)
                                              have hx35 := bt_at a0 (ji32)
                                              replace p35 := eq_true p35
                                              replace q35 := eq_true q35
                                              have p37 : 0 ≤ ((ji29) : Int) := of_decide_eq_true (by first | (with_reducible assumption) | assumption)
                                              have q37 : (ji29) < (a1.size : Int) := of_decide_eq_true (by first | (with_reducible assumption) | assumption)
                                              have hx37 := bt_at a1 (ji29)
                                              replace p37 := eq_true p37
                                              replace q37 := eq_true q37
                                              go_upto_if 65 with (fail)
                                              repeat (go_quiet (fail); go_upto_if 65 with (fail))
                                              go_cut [10] (fun v10 wc => ∃ (kq : Nat) (x10_37 : Int), v10 = .int .i64 x10_37 ∧ Aside0 (impl_Edits.j4 kq a0 a1 x5_3 x7_3 x8_4 x9_4 x10_37 = some r) ∧ Aside0 (kq ≤ k4) ∧ Aside0 (Kd.R (Kd.int .i64) 2 wc w.heap.size (fun k_ => some k_ ≠ ((.slice (some ⟨go23, 0, none⟩) x8_4.length co23) : Value).ownBlock) (.slice (some ad161) x5_3.length co39) x5_3) ∧ Aside0 (Kd.R (Kd.int .i64) 2 wc w.heap.size (fun k_ => some k_ ≠ ((.slice (some ad161) x5_3.length co39) : Value).ownBlock) (.slice (some ⟨go23, 0, none⟩) x8_4.length co23) x8_4) ∧ Aside0 (Below w.heap.size w wc))
                                              case first =>
                                                have H := HC38.out
                                                clear HC38
                                                by_cases c40 : (bt a0 (ji32)) = (bt a1 (ji29))
                                                · rw [if_pos c40] at H
                                                  have c40b0 : ((bt a0 (ji32)) == (bt a1 (ji29))) = true := beq_iff_eq.mpr c40
                                                  have c40b1 : ((bt a0 (ji32)) != (bt a1 (ji29))) = false := bne_eq_false_iff_eq.mpr c40
                                                  clear c40
                                                  (first | rw [c40b0] | (simp only [i64_w, i32_w]; rw [c40b0]) | skip)
                                                  have H' := Aside0.mk H
                                                  clear H
                                                  go_wp2
                                                  repeat (go_quiet (fail); try go_wp2)
                                                  go_meet
                                                  case rel => exact ⟨_, (rd x5_3 (ji29)), (by first | rfl | (simp; done) | (simp only [← hji29] <;> (first | rfl | simp)) | (simp [*]; done)), H', ⟨by have := HJ2.out; have := HK2.out; have := HK3.out; have := HK4.out; first | omega | exact Nat.le_refl _⟩, ⟨by (try simp only [hl5_2]); (try simp only [hl8_4]); (with_reducible repeat (first | apply Kd.R_alloc | apply Kd.R_drewN | apply Kd.R_drew)); exact HO_5.out⟩, ⟨by (try simp only [hl5_2]); (try simp only [hl8_4]); (with_reducible repeat (first | apply Kd.R_alloc | apply Kd.R_drewN | apply Kd.R_drew)); exact HO_8.out⟩, ⟨by repeat (first | (with_reducible first | exact HB.out | apply below_alloc | apply pw_below_drewN | apply below_drew1) | exact HB.out)⟩⟩
                                                · rw [if_neg c40] at H
                                                  have c40b0 : ((bt a0 (ji32)) == (bt a1 (ji29))) = false := beq_eq_false_iff_ne.mpr c40
                                                  have c40b1 : ((bt a0 (ji32)) != (bt a1 (ji29))) = true := bne_iff_ne.mpr c40
                                                  (first | rw [c40b0] | (simp only [i64_w, i32_w]; rw [c40b0]) | skip)
                                                  have H' := Aside0.mk H
                                                  clear H
                                                  go_wp2
                                                  repeat (go_quiet (fail); try go_wp2)
                                                  go_meet
                                                  case rel => exact ⟨_, (wrap64 ((rd x5_3 (ji29)) + 1)), (by first | rfl | (simp; done) | (simp only [← hji29] <;> (first | rfl | simp)) | (simp [*]; done)), H', ⟨by have := HJ2.out; have := HK2.out; have := HK3.out; have := HK4.out; first | omega | exact Nat.le_refl _⟩, ⟨by (try simp only [hl5_2]); (try simp only [hl8_4]); (with_reducible repeat (first | apply Kd.R_alloc | apply Kd.R_drewN | apply Kd.R_drew)); exact HO_5.out⟩, ⟨by (try simp only [hl5_2]); (try simp only [hl8_4]); (with_reducible repeat (first | apply Kd.R_alloc | apply Kd.R_drewN | apply Kd.R_drew)); exact HO_8.out⟩, ⟨by repeat (first | (with_reducible first | exact HB.out | apply below_alloc | apply pw_below_drewN | apply below_drew1) | exact HB.out)⟩⟩
                                              case rest =>
                                                clear HC38
                                                try clear c1
                                                try clear p1
                                                try clear q1
                                                try clear hx1
                                                try clear c2
                                                try clear p2
                                                try clear q2
                                                try clear hx2
                                                try clear qi2
                                                try clear hf2
                                                try clear c3
                                                try clear p3
                                                try clear q3
                                                try clear hx3
                                                try clear c4
                                                try clear c4b0
                                                try clear c4b1
                                                try clear c5
                                                try clear p6
                                                try clear c7
                                                try clear c7b0
                                                try clear c7b1
                                                try clear c8
                                                try clear c8b0
                                                try clear c8b1
                                                try clear c12
                                                try clear c12b0
                                                try clear c13
                                                try clear c13b0
                                                try clear c14
                                                try clear c14b0
                                                try clear p15
                                                try clear q15
                                                try clear hx15
                                                try clear hf15
                                                try clear p16
                                                try clear q16
                                                try clear hx16
                                                try clear c18
                                                try clear c18b0
                                                try clear c20
                                                try clear c20b0
                                                try clear c20b1
                                                try clear c21
                                                try clear c21b0
                                                try clear c21b1
                                                try clear c22
                                                try clear c22b0
                                                try clear c22b1
                                                try clear p23
                                                try clear q23
                                                try clear hx23
                                                try clear qi23
                                                try clear hf23
                                                try clear c27
                                                try clear c28
                                                try clear c28b0
                                                try clear c30
                                                try clear c30b0
                                                try clear c31
                                                try clear c31b0
                                                try clear c33
                                                try clear c33b0
                                                try clear c34
                                                try clear c34b0
                                                try clear p35
                                                try clear q35
                                                try clear hx35
                                                try clear c36
                                                try clear c36b0
                                                try clear p37
                                                try clear q37
                                                try clear hx37
                                                try clear c40
                                                try clear c40b0
                                                try clear c40b1
                                                try clear hx15_0
                                                try clear hx161_0
                                                try clear hx23_0
                                                try clear p1
                                                try clear p15
                                                try clear p161
                                                try clear p2
                                                try clear p23
                                                try clear p35
                                                try clear p37
                                                try clear p6
                                                try clear q1
                                                try clear q15
                                                try clear q161
                                                try clear q2
                                                try clear q23
                                                try clear q35
                                                try clear q37
                                                obtain ⟨kq, x10_37, rfl, HA, HJ37, HO_5, HO_8, HB⟩ := hcut
                                                cases kq with
                                                | zero => exact absurd HA.out (by simp [impl_Edits.j4])
                                                | succ kj37 =>
                                                  have H := HA.out
                                                  clear HA
                                                  simp only [impl_Edits.j4] at H
                                                  by_cases c41 : 0 ≤ x9_4
                                                  · rw [if_pos c41] at H
                                                    have c41b0 : decide (0 ≤ x9_4) = true := decide_eq_true c41
                                                    clear c41
                                                    by_cases c42 : x9_4 < (x5_3.length : Int)
                                                    · rw [if_pos c42] at H
                                                      have c42b0 : decide (x9_4 < (x5_3.length : Int)) = true := decide_eq_true c42
                                                      clear c42
                                                      by_cases c43 : (wrap64 ((rd x5_3 x9_4) + 1)) < x10_37
                                                      · rw [if_pos c43] at H
                                                        have c43b0 : decide ((wrap64 ((rd x5_3 x9_4) + 1)) < x10_37) = true := decide_eq_true c43
                                                        clear c43
                                                        obtain ⟨ji44, hji44⟩ : ∃ j_ : Int, (wrap64 (x9_4 - 1)) = j_ := ⟨_, rfl⟩
                                                        (try (have hjq_ := hji44.symm.trans hji29; subst hjq_))
                                                        replace H : (if 0 ≤ (ji44) then (if (ji44) < (x8_4.length : Int) then (if (wrap64 ((rd x8_4 (ji44)) + 1)) < (wrap64 ((rd x5_3 x9_4) + 1)) then (if x9_4 < (x8_4.length : Int) then (impl_Edits.l2 kj37 a0 a1 x5_3 x7_3 (x8_4.set (x9_4 : Int).toNat (wrap64 ((rd x8_4 (ji44)) + 1))) (wrap64 (x9_4 + 1))) else (none)) else (if x9_4 < (x8_4.length : Int) then (impl_Edits.l2 kj37 a0 a1 x5_3 x7_3 (x8_4.set (x9_4 : Int).toNat (wrap64 ((rd x5_3 x9_4) + 1))) (wrap64 (x9_4 + 1))) else (none))) else (none)) else (none)) = some r := by first | (rw [hji44] at H; exact H) | (simp only [hji44] at H ⊢; exact H)
                                                        have hji44w : (IntKind.i64.wrap (x9_4 - 1)) = ji44 := (i64_w _).trans hji44
                                                        by_cases c45 : 0 ≤ (ji44)
                                                        · rw [if_pos c45] at H
                                                          have c45b0 : decide (0 ≤ (ji44)) = true := decide_eq_true c45
                                                          clear c45
                                                          by_cases c46 : (ji44) < (x8_4.length : Int)
                                                          · rw [if_pos c46] at H
                                                            have c46b0 : decide ((ji44) < (x8_4.length : Int)) = true := decide_eq_true c46
                                                            clear c46
                                                            by_cases c47 : (wrap64 ((rd x8_4 (ji44)) + 1)) < (wrap64 ((rd x5_3 x9_4) + 1))
                                                            · rw [if_pos c47] at H
                                                              have c47b0 : decide ((wrap64 ((rd x8_4 (ji44)) + 1)) < (wrap64 ((rd x5_3 x9_4) + 1))) = true := decide_eq_true c47
                                                              clear c47
                                                              by_cases c48 : x9_4 < (x8_4.length : Int)
                                                              · rw [if_pos c48] at H
                                                                have c48b0 : decide (x9_4 < (x8_4.length : Int)) = true := decide_eq_true c48
                                                                clear c48
                                                                obtain ⟨y166, hy166⟩ : ∃ y_ : List Int, y_ = (x8_4.set (x9_4 : Int).toNat (wrap64 ((rd x8_4 (ji44)) + 1))) := ⟨_, rfl⟩
                                                                replace H : (impl_Edits.l2 kj37 a0 a1 x5_3 x7_3 y166 (wrap64 (x9_4 + 1))) = some r := by first | (rw [hy166]; with_reducible exact H) | (have H2_ := (Option.bind_some _ _).symm.trans H; rw [hy166]; with_reducible exact H2_) | (have H2_ := (Option.bind_some _ _).symm.trans H; with_reducible exact H2_) | with_reducible exact H | (rw [hy166]; exact H) | exact H
                                                                have Ny166 := Aside0.mk hy166
                                                                clear hy166
                                                                have H' := Aside0.mk H
                                                                clear H
                                                                have p162 : 0 ≤ (x9_4 : Int) := of_decide_eq_true (by first | (with_reducible assumption) | assumption)
                                                                have q162 : x9_4 < (x5_3.length : Int) := of_decide_eq_true (by first | (with_reducible assumption) | assumption)
                                                                obtain ⟨ad162, e162, hx162_0⟩ := Kd.at_int (Kd.R_reads' HO_5.out).2.2 x9_4 p162 q162
                                                                obtain rfl : ad161 = ad162 := (by injection e162)
                                                                replace p162 := eq_true p162
                                                                replace q162 := eq_true q162
                                                                have p163 : 0 ≤ (x9_4 : Int) := of_decide_eq_true (by first | (with_reducible assumption) | assumption)
                                                                have q163 : x9_4 < (x5_3.length : Int) := of_decide_eq_true (by first | (with_reducible assumption) | assumption)
                                                                obtain ⟨ad163, e163, hx163_0⟩ := Kd.at_int (Kd.R_reads' HO_5.out).2.2 x9_4 p163 q163
                                                                obtain rfl : ad161 = ad163 := (by injection e163)
                                                                replace p163 := eq_true p163
                                                                replace q163 := eq_true q163
                                                                have p164 : 0 ≤ ((ji44) : Int) := of_decide_eq_true (by first | (with_reducible assumption) | assumption)
                                                                have q164 : (ji44) < (x8_4.length : Int) := of_decide_eq_true (by first | (with_reducible assumption) | assumption)
                                                                obtain ⟨ad164, e164, hx164_0⟩ := Kd.at_int (Kd.R_reads' HO_8.out).2.2 (ji44) p164 q164
                                                                obtain rfl : (⟨go23, 0, none⟩ : Addr) = ad164 := (by injection e164)
                                                                (first | simp only [add_plain] at hx164_0 | simp only [add_at] at hx164_0 | simp only [Addr.add, Nat.zero_add] at hx164_0 | skip)
                                                                replace p164 := eq_true p164
                                                                replace q164 := eq_true q164
                                                                have p165 : 0 ≤ ((ji44) : Int) := of_decide_eq_true (by first | (with_reducible assumption) | assumption)
                                                                have q165 : (ji44) < (x8_4.length : Int) := of_decide_eq_true (by first | (with_reducible assumption) | assumption)
                                                                obtain ⟨ad165, e165, hx165_0⟩ := Kd.at_int (Kd.R_reads' HO_8.out).2.2 (ji44) p165 q165
                                                                obtain rfl : (⟨go23, 0, none⟩ : Addr) = ad165 := (by injection e165)
                                                                (first | simp only [add_plain] at hx165_0 | simp only [add_at] at hx165_0 | simp only [Addr.add, Nat.zero_add] at hx165_0 | skip)
                                                                replace p165 := eq_true p165
                                                                replace q165 := eq_true q165
                                                                have p49 : 0 ≤ (x9_4 : Int) := of_decide_eq_true (by first | (with_reducible assumption) | assumption)
                                                                have q49 : (x9_4 : Int) < ((x8_4.length : Int) : Int) := of_decide_eq_true (by first | (with_reducible assumption) | assumption)
                                                                obtain ⟨hx49_0, hf49_0⟩ := Kd.R_celln 0 HO_8.out (x9_4 : Int) p49 q49
                                                                replace p49 := eq_true p49
                                                                replace q49 := eq_true q49
                                                                have HP50 := Kd.R_putg HO_8.out (x9_4 : Int) (wrap64 ((rd x8_4 (ji44)) + 1))
                                                                go_wp2_with (first | ((with_reducible refine gate_store (t := 2) (p := 97) rfl ?_); (try (rw [drewN_self wc]; generalize hq_ : World.drewN wc _ = wc; have n0_ := Aside0.mk (Kd.R_at hq_ HO_5.out); have n1_ := Aside0.mk (Kd.R_at hq_ HO_8.out); have n2_ := Aside0.mk (below_at hq_ HB.out); clear hq_ HO_5 HO_8 HB; have HO_5 := n0_; have HO_8 := n1_; have HB := n2_; clear n0_ n1_ n2_; (try (have HP50 := Kd.R_putg HO_8.out (x9_4 : Int) (wrap64 ((rd x8_4 (ji44)) + 1)))))); refine store_event (t := 2) (p := 97) (v := ?vo_w51) (w1 := (wc.setCell ⟨go23, (x9_4 : Int).toNat, none⟩ (.int .i64 (wrap64 ((rd x8_4 (ji44)) + 1))))) ?hg ?ho ?hn ?hr ?_; (case ho => rfl); (case hg => rfl); (case hn => rfl); (case hr => first | (go_simp; done) | (go_simp; rfl)); intro w51 hw; have hg : wc.grownBy w51 (some go23) := (by rw [hw]; exact HP50.2); have hp_ : Kd.R (Kd.int .i64) 2 w51 w.heap.size (fun k_ => some k_ ≠ (.slice (some ad161) x5_3.length co39 : Value).ownBlock) (.slice (some ⟨go23, 0, none⟩) x8_4.length co23) y166 := (by rw [hw, Ny166.out]; exact HP50.1); clear HP50; have n0_ := Aside0.mk (Kd.R_after (v := (.slice (some ⟨go23, 0, none⟩) x8_4.length co23)) (v1 := (.slice (some ⟨go23, 0, none⟩) x8_4.length co23)) (ok := (fun _ => True)) (by (with_reducible repeat (first | apply Kd.R_alloc | apply Kd.R_drewN | apply Kd.R_drew)); exact Kd.R_mono HO_5.out (fun _ hk => ⟨trivial, hk⟩)) hg (.inl rfl)); have n1_ := Aside0.mk (hp_); have n2_ := Aside0.mk ((by rw [hw]; exact below_set (HB.out) GB23.out : Below w.heap.size w w51)); clear HO_5; clear HO_8; clear HB; have HO_5 := n0_; have HO_8 := n1_; have HB := n2_; clear n0_ n1_ n2_; clear hg hw hp_))
                                                                repeat (go_quiet (first | ((with_reducible refine gate_store (t := 2) (p := 97) rfl ?_); (try (rw [drewN_self wc]; generalize hq_ : World.drewN wc _ = wc; have n0_ := Aside0.mk (Kd.R_at hq_ HO_5.out); have n1_ := Aside0.mk (Kd.R_at hq_ HO_8.out); have n2_ := Aside0.mk (below_at hq_ HB.out); clear hq_ HO_5 HO_8 HB; have HO_5 := n0_; have HO_8 := n1_; have HB := n2_; clear n0_ n1_ n2_; (try (have HP50 := Kd.R_putg HO_8.out (x9_4 : Int) (wrap64 ((rd x8_4 (ji44)) + 1)))))); refine store_event (t := 2) (p := 97) (v := ?vo_w51) (w1 := (wc.setCell ⟨go23, (x9_4 : Int).toNat, none⟩ (.int .i64 (wrap64 ((rd x8_4 (ji44)) + 1))))) ?hg ?ho ?hn ?hr ?_; (case ho => rfl); (case hg => rfl); (case hn => rfl); (case hr => first | (go_simp; done) | (go_simp; rfl)); intro w51 hw; have hg : wc.grownBy w51 (some go23) := (by rw [hw]; exact HP50.2); have hp_ : Kd.R (Kd.int .i64) 2 w51 w.heap.size (fun k_ => some k_ ≠ (.slice (some ad161) x5_3.length co39 : Value).ownBlock) (.slice (some ⟨go23, 0, none⟩) x8_4.length co23) y166 := (by rw [hw, Ny166.out]; exact HP50.1); clear HP50; have n0_ := Aside0.mk (Kd.R_after (v := (.slice (some ⟨go23, 0, none⟩) x8_4.length co23)) (v1 := (.slice (some ⟨go23, 0, none⟩) x8_4.length co23)) (ok := (fun _ => True)) (by (with_reducible repeat (first | apply Kd.R_alloc | apply Kd.R_drewN | apply Kd.R_drew)); exact Kd.R_mono HO_5.out (fun _ hk => ⟨trivial, hk⟩)) hg (.inl rfl)); have n1_ := Aside0.mk (hp_); have n2_ := Aside0.mk ((by rw [hw]; exact below_set (HB.out) GB23.out : Below w.heap.size w w51)); clear HO_5; clear HO_8; clear HB; have HO_5 := n0_; have HO_8 := n1_; have HB := n2_; clear n0_ n1_ n2_; clear hg hw hp_)); try go_wp2_with (first | ((with_reducible refine gate_store (t := 2) (p := 97) rfl ?_); (try (rw [drewN_self wc]; generalize hq_ : World.drewN wc _ = wc; have n0_ := Aside0.mk (Kd.R_at hq_ HO_5.out); have n1_ := Aside0.mk (Kd.R_at hq_ HO_8.out); have n2_ := Aside0.mk (below_at hq_ HB.out); clear hq_ HO_5 HO_8 HB; have HO_5 := n0_; have HO_8 := n1_; have HB := n2_; clear n0_ n1_ n2_; (try (have HP50 := Kd.R_putg HO_8.out (x9_4 : Int) (wrap64 ((rd x8_4 (ji44)) + 1)))))); refine store_event (t := 2) (p := 97) (v := ?vo_w51) (w1 := (wc.setCell ⟨go23, (x9_4 : Int).toNat, none⟩ (.int .i64 (wrap64 ((rd x8_4 (ji44)) + 1))))) ?hg ?ho ?hn ?hr ?_; (case ho => rfl); (case hg => rfl); (case hn => rfl); (case hr => first | (go_simp; done) | (go_simp; rfl)); intro w51 hw; have hg : wc.grownBy w51 (some go23) := (by rw [hw]; exact HP50.2); have hp_ : Kd.R (Kd.int .i64) 2 w51 w.heap.size (fun k_ => some k_ ≠ (.slice (some ad161) x5_3.length co39 : Value).ownBlock) (.slice (some ⟨go23, 0, none⟩) x8_4.length co23) y166 := (by rw [hw, Ny166.out]; exact HP50.1); clear HP50; have n0_ := Aside0.mk (Kd.R_after (v := (.slice (some ⟨go23, 0, none⟩) x8_4.length co23)) (v1 := (.slice (some ⟨go23, 0, none⟩) x8_4.length co23)) (ok := (fun _ => True)) (by (with_reducible repeat (first | apply Kd.R_alloc | apply Kd.R_drewN | apply Kd.R_drew)); exact Kd.R_mono HO_5.out (fun _ hk => ⟨trivial, hk⟩)) hg (.inl rfl)); have n1_ := Aside0.mk (hp_); have n2_ := Aside0.mk ((by rw [hw]; exact below_set (HB.out) GB23.out : Below w.heap.size w w51)); clear HO_5; clear HO_8; clear HB; have HO_5 := n0_; have HO_8 := n1_; have HB := n2_; clear n0_ n1_ n2_; clear hg hw hp_)))
                                                                (try simp only [← hl8_4])
                                                                go_roundg kj37
                                                                case measure => have := HJ2.out; have := HK2.out; have := HK3.out; have := HK4.out; have := HJ37.out; omega
                                                                case rel => exact ⟨(y166), (wrap64 (x9_4 + 1)), (by first | rfl | (simp; done) | (simp [*]; done)), H', ⟨by have := HJ2.out; have := HK2.out; have := HK3.out; have := HK4.out; have := HJ37.out; omega⟩, ⟨by (try simp only [hl5_2]); (try simp only [hl8_4]); (with_reducible repeat (first | apply Kd.R_alloc | apply Kd.R_drewN | apply Kd.R_drew)); exact Kd.R_mono HO_5.out (fun _ hk => hk.2)⟩, ⟨by (try simp only [hl5_2]); (try simp only [hl8_4]); (with_reducible repeat (first | apply Kd.R_alloc | apply Kd.R_drewN | apply Kd.R_drew)); exact HO_8.out⟩, ⟨by repeat (first | (with_reducible first | exact HB.out | apply below_alloc | apply pw_below_drewN | apply below_drew1) | exact HB.out)⟩⟩
                                                              · rw [if_neg c48] at H
                                                                exact absurd H (by simp)
                                                            · rw [if_neg c47] at H
                                                              have c47b0 : decide ((wrap64 ((rd x8_4 (ji44)) + 1)) < (wrap64 ((rd x5_3 x9_4) + 1))) = false := decide_eq_false c47
                                                              clear c47
                                                              by_cases c52 : x9_4 < (x8_4.length : Int)
                                                              · rw [if_pos c52] at H
                                                                have c52b0 : decide (x9_4 < (x8_4.length : Int)) = true := decide_eq_true c52
                                                                clear c52
                                                                obtain ⟨y167, hy167⟩ : ∃ y_ : List Int, y_ = (x8_4.set (x9_4 : Int).toNat (wrap64 ((rd x5_3 x9_4) + 1))) := ⟨_, rfl⟩
                                                                replace H : (impl_Edits.l2 kj37 a0 a1 x5_3 x7_3 y167 (wrap64 (x9_4 + 1))) = some r := by first | (rw [hy167]; with_reducible exact H) | (have H2_ := (Option.bind_some _ _).symm.trans H; rw [hy167]; with_reducible exact H2_) | (have H2_ := (Option.bind_some _ _).symm.trans H; with_reducible exact H2_) | with_reducible exact H | (rw [hy167]; exact H) | exact H
                                                                have Ny167 := Aside0.mk hy167
                                                                clear hy167
                                                                have H' := Aside0.mk H
                                                                clear H
                                                                have p162 : 0 ≤ (x9_4 : Int) := of_decide_eq_true (by first | (with_reducible assumption) | assumption)
                                                                have q162 : x9_4 < (x5_3.length : Int) := of_decide_eq_true (by first | (with_reducible assumption) | assumption)
                                                                obtain ⟨ad162, e162, hx162_0⟩ := Kd.at_int (Kd.R_reads' HO_5.out).2.2 x9_4 p162 q162
                                                                obtain rfl : ad161 = ad162 := (by injection e162)
                                                                replace p162 := eq_true p162
                                                                replace q162 := eq_true q162
                                                                have p163 : 0 ≤ (x9_4 : Int) := of_decide_eq_true (by first | (with_reducible assumption) | assumption)
                                                                have q163 : x9_4 < (x5_3.length : Int) := of_decide_eq_true (by first | (with_reducible assumption) | assumption)
                                                                obtain ⟨ad163, e163, hx163_0⟩ := Kd.at_int (Kd.R_reads' HO_5.out).2.2 x9_4 p163 q163
                                                                obtain rfl : ad161 = ad163 := (by injection e163)
                                                                replace p163 := eq_true p163
                                                                replace q163 := eq_true q163
                                                                have p164 : 0 ≤ ((ji44) : Int) := of_decide_eq_true (by first | (with_reducible assumption) | assumption)
                                                                have q164 : (ji44) < (x8_4.length : Int) := of_decide_eq_true (by first | (with_reducible assumption) | assumption)
                                                                obtain ⟨ad164, e164, hx164_0⟩ := Kd.at_int (Kd.R_reads' HO_8.out).2.2 (ji44) p164 q164
                                                                obtain rfl : (⟨go23, 0, none⟩ : Addr) = ad164 := (by injection e164)
                                                                (first | simp only [add_plain] at hx164_0 | simp only [add_at] at hx164_0 | simp only [Addr.add, Nat.zero_add] at hx164_0 | skip)
                                                                replace p164 := eq_true p164
                                                                replace q164 := eq_true q164
                                                                have p53 : 0 ≤ (x9_4 : Int) := of_decide_eq_true (by first | (with_reducible assumption) | assumption)
                                                                have q53 : (x9_4 : Int) < ((x8_4.length : Int) : Int) := of_decide_eq_true (by first | (with_reducible assumption) | assumption)
                                                                obtain ⟨hx53_0, hf53_0⟩ := Kd.R_celln 0 HO_8.out (x9_4 : Int) p53 q53
                                                                replace p53 := eq_true p53
                                                                replace q53 := eq_true q53
                                                                have HP54 := Kd.R_putg HO_8.out (x9_4 : Int) (wrap64 ((rd x5_3 x9_4) + 1))
                                                                go_wp2_with (first | ((with_reducible refine gate_store (t := 2) (p := 97) rfl ?_); (try (rw [drewN_self wc]; generalize hq_ : World.drewN wc _ = wc; have n0_ := Aside0.mk (Kd.R_at hq_ HO_5.out); have n1_ := Aside0.mk (Kd.R_at hq_ HO_8.out); have n2_ := Aside0.mk (below_at hq_ HB.out); clear hq_ HO_5 HO_8 HB; have HO_5 := n0_; have HO_8 := n1_; have HB := n2_; clear n0_ n1_ n2_; (try (have HP54 := Kd.R_putg HO_8.out (x9_4 : Int) (wrap64 ((rd x5_3 x9_4) + 1)))))); refine store_event (t := 2) (p := 97) (v := ?vo_w55) (w1 := (wc.setCell ⟨go23, (x9_4 : Int).toNat, none⟩ (.int .i64 (wrap64 ((rd x5_3 x9_4) + 1))))) ?hg ?ho ?hn ?hr ?_; (case ho => rfl); (case hg => rfl); (case hn => rfl); (case hr => first | (go_simp; done) | (go_simp; rfl)); intro w55 hw; have hg : wc.grownBy w55 (some go23) := (by rw [hw]; exact HP54.2); have hp_ : Kd.R (Kd.int .i64) 2 w55 w.heap.size (fun k_ => some k_ ≠ (.slice (some ad161) x5_3.length co39 : Value).ownBlock) (.slice (some ⟨go23, 0, none⟩) x8_4.length co23) y167 := (by rw [hw, Ny167.out]; exact HP54.1); clear HP54; have n0_ := Aside0.mk (Kd.R_after (v := (.slice (some ⟨go23, 0, none⟩) x8_4.length co23)) (v1 := (.slice (some ⟨go23, 0, none⟩) x8_4.length co23)) (ok := (fun _ => True)) (by (with_reducible repeat (first | apply Kd.R_alloc | apply Kd.R_drewN | apply Kd.R_drew)); exact Kd.R_mono HO_5.out (fun _ hk => ⟨trivial, hk⟩)) hg (.inl rfl)); have n1_ := Aside0.mk (hp_); have n2_ := Aside0.mk ((by rw [hw]; exact below_set (HB.out) GB23.out : Below w.heap.size w w55)); clear HO_5; clear HO_8; clear HB; have HO_5 := n0_; have HO_8 := n1_; have HB := n2_; clear n0_ n1_ n2_; clear hg hw hp_))
                                                                repeat (go_quiet (first | ((with_reducible refine gate_store (t := 2) (p := 97) rfl ?_); (try (rw [drewN_self wc]; generalize hq_ : World.drewN wc _ = wc; have n0_ := Aside0.mk (Kd.R_at hq_ HO_5.out); have n1_ := Aside0.mk (Kd.R_at hq_ HO_8.out); have n2_ := Aside0.mk (below_at hq_ HB.out); clear hq_ HO_5 HO_8 HB; have HO_5 := n0_; have HO_8 := n1_; have HB := n2_; clear n0_ n1_ n2_; (try (have HP54 := Kd.R_putg HO_8.out (x9_4 : Int) (wrap64 ((rd x5_3 x9_4) + 1)))))); refine store_event (t := 2) (p := 97) (v := ?vo_w55) (w1 := (wc.setCell ⟨go23, (x9_4 : Int).toNat, none⟩ (.int .i64 (wrap64 ((rd x5_3 x9_4) + 1))))) ?hg ?ho ?hn ?hr ?_; (case ho => rfl); (case hg => rfl); (case hn => rfl); (case hr => first | (go_simp; done) | (go_simp; rfl)); intro w55 hw; have hg : wc.grownBy w55 (some go23) := (by rw [hw]; exact HP54.2); have hp_ : Kd.R (Kd.int .i64) 2 w55 w.heap.size (fun k_ => some k_ ≠ (.slice (some ad161) x5_3.length co39 : Value).ownBlock) (.slice (some ⟨go23, 0, none⟩) x8_4.length co23) y167 := (by rw [hw, Ny167.out]; exact HP54.1); clear HP54; have n0_ := Aside0.mk (Kd.R_after (v := (.slice (some ⟨go23, 0, none⟩) x8_4.length co23)) (v1 := (.slice (some ⟨go23, 0, none⟩) x8_4.length co23)) (ok := (fun _ => True)) (by (with_reducible repeat (first | apply Kd.R_alloc | apply Kd.R_drewN | apply Kd.R_drew)); exact Kd.R_mono HO_5.out (fun _ hk => ⟨trivial, hk⟩)) hg (.inl rfl)); have n1_ := Aside0.mk (hp_); have n2_ := Aside0.mk ((by rw [hw]; exact below_set (HB.out) GB23.out : Below w.heap.size w w55)); clear HO_5; clear HO_8; clear HB; have HO_5 := n0_; have HO_8 := n1_; have HB := n2_; clear n0_ n1_ n2_; clear hg hw hp_)); try go_wp2_with (first | ((with_reducible refine gate_store (t := 2) (p := 97) rfl ?_); (try (rw [drewN_self wc]; generalize hq_ : World.drewN wc _ = wc; have n0_ := Aside0.mk (Kd.R_at hq_ HO_5.out); have n1_ := Aside0.mk (Kd.R_at hq_ HO_8.out); have n2_ := Aside0.mk (below_at hq_ HB.out); clear hq_ HO_5 HO_8 HB; have HO_5 := n0_; have HO_8 := n1_; have HB := n2_; clear n0_ n1_ n2_; (try (have HP54 := Kd.R_putg HO_8.out (x9_4 : Int) (wrap64 ((rd x5_3 x9_4) + 1)))))); refine store_event (t := 2) (p := 97) (v := ?vo_w55) (w1 := (wc.setCell ⟨go23, (x9_4 : Int).toNat, none⟩ (.int .i64 (wrap64 ((rd x5_3 x9_4) + 1))))) ?hg ?ho ?hn ?hr ?_; (case ho => rfl); (case hg => rfl); (case hn => rfl); (case hr => first | (go_simp; done) | (go_simp; rfl)); intro w55 hw; have hg : wc.grownBy w55 (some go23) := (by rw [hw]; exact HP54.2); have hp_ : Kd.R (Kd.int .i64) 2 w55 w.heap.size (fun k_ => some k_ ≠ (.slice (some ad161) x5_3.length co39 : Value).ownBlock) (.slice (some ⟨go23, 0, none⟩) x8_4.length co23) y167 := (by rw [hw, Ny167.out]; exact HP54.1); clear HP54; have n0_ := Aside0.mk (Kd.R_after (v := (.slice (some ⟨go23, 0, none⟩) x8_4.length co23)) (v1 := (.slice (some ⟨go23, 0, none⟩) x8_4.length co23)) (ok := (fun _ => True)) (by (with_reducible repeat (first | apply Kd.R_alloc | apply Kd.R_drewN | apply Kd.R_drew)); exact Kd.R_mono HO_5.out (fun _ hk => ⟨trivial, hk⟩)) hg (.inl rfl)); have n1_ := Aside0.mk (hp_); have n2_ := Aside0.mk ((by rw [hw]; exact below_set (HB.out) GB23.out : Below w.heap.size w w55)); clear HO_5; clear HO_8; clear HB; have HO_5 := n0_; have HO_8 := n1_; have HB := n2_; clear n0_ n1_ n2_; clear hg hw hp_)))
                                                                (try simp only [← hl8_4])
                                                                go_roundg kj37
                                                                case measure => have := HJ2.out; have := HK2.out; have := HK3.out; have := HK4.out; have := HJ37.out; omega
                                                                case rel => exact ⟨(y167), (wrap64 (x9_4 + 1)), (by first | rfl | (simp; done) | (simp [*]; done)), H', ⟨by have := HJ2.out; have := HK2.out; have := HK3.out; have := HK4.out; have := HJ37.out; omega⟩, ⟨by (try simp only [hl5_2]); (try simp only [hl8_4]); (with_reducible repeat (first | apply Kd.R_alloc | apply Kd.R_drewN | apply Kd.R_drew)); exact Kd.R_mono HO_5.out (fun _ hk => hk.2)⟩, ⟨by (try simp only [hl5_2]); (try simp only [hl8_4]); (with_reducible repeat (first | apply Kd.R_alloc | apply Kd.R_drewN | apply Kd.R_drew)); exact HO_8.out⟩, ⟨by repeat (first | (with_reducible first | exact HB.out | apply below_alloc | apply pw_below_drewN | apply below_drew1) | exact HB.out)⟩⟩
                                                              · rw [if_neg c52] at H
                                                                exact absurd H (by simp)
                                                          · rw [if_neg c46] at H
                                                            exact absurd H (by simp)
                                                        · rw [if_neg c45] at H
                                                          exact absurd H (by simp)
                                                      · rw [if_neg c43] at H
                                                        have c43b0 : decide ((wrap64 ((rd x5_3 x9_4) + 1)) < x10_37) = false := decide_eq_false c43
                                                        clear c43
                                                        obtain ⟨ji56, hji56⟩ : ∃ j_ : Int, (wrap64 (x9_4 - 1)) = j_ := ⟨_, rfl⟩
                                                        (try (have hjq_ := hji56.symm.trans hji29; subst hjq_))
                                                        replace H : (if 0 ≤ (ji56) then (if (ji56) < (x8_4.length : Int) then (if (wrap64 ((rd x8_4 (ji56)) + 1)) < x10_37 then (if x9_4 < (x8_4.length : Int) then (impl_Edits.l2 kj37 a0 a1 x5_3 x7_3 (x8_4.set (x9_4 : Int).toNat (wrap64 ((rd x8_4 (ji56)) + 1))) (wrap64 (x9_4 + 1))) else (none)) else (if x9_4 < (x8_4.length : Int) then (impl_Edits.l2 kj37 a0 a1 x5_3 x7_3 (x8_4.set (x9_4 : Int).toNat x10_37) (wrap64 (x9_4 + 1))) else (none))) else (none)) else (none)) = some r := by first | (rw [hji56] at H; exact H) | (simp only [hji56] at H ⊢; exact H)
                                                        have hji56w : (IntKind.i64.wrap (x9_4 - 1)) = ji56 := (i64_w _).trans hji56
                                                        by_cases c57 : 0 ≤ (ji56)
                                                        · rw [if_pos c57] at H
                                                          have c57b0 : decide (0 ≤ (ji56)) = true := decide_eq_true c57
                                                          clear c57
                                                          by_cases c58 : (ji56) < (x8_4.length : Int)
                                                          · rw [if_pos c58] at H
                                                            have c58b0 : decide ((ji56) < (x8_4.length : Int)) = true := decide_eq_true c58
                                                            clear c58
                                                            by_cases c59 : (wrap64 ((rd x8_4 (ji56)) + 1)) < x10_37
                                                            · rw [if_pos c59] at H
                                                              have c59b0 : decide ((wrap64 ((rd x8_4 (ji56)) + 1)) < x10_37) = true := decide_eq_true c59
                                                              clear c59
                                                              by_cases c60 : x9_4 < (x8_4.length : Int)
                                                              · rw [if_pos c60] at H
                                                                have c60b0 : decide (x9_4 < (x8_4.length : Int)) = true := decide_eq_true c60
                                                                clear c60
                                                                obtain ⟨y170, hy170⟩ : ∃ y_ : List Int, y_ = (x8_4.set (x9_4 : Int).toNat (wrap64 ((rd x8_4 (ji56)) + 1))) := ⟨_, rfl⟩
                                                                replace H : (impl_Edits.l2 kj37 a0 a1 x5_3 x7_3 y170 (wrap64 (x9_4 + 1))) = some r := by first | (rw [hy170]; with_reducible exact H) | (have H2_ := (Option.bind_some _ _).symm.trans H; rw [hy170]; with_reducible exact H2_) | (have H2_ := (Option.bind_some _ _).symm.trans H; with_reducible exact H2_) | with_reducible exact H | (rw [hy170]; exact H) | exact H
                                                                have Ny170 := Aside0.mk hy170
                                                                clear hy170
                                                                have H' := Aside0.mk H
                                                                clear H
                                                                have p162 : 0 ≤ (x9_4 : Int) := of_decide_eq_true (by first | (with_reducible assumption) | assumption)
                                                                have q162 : x9_4 < (x5_3.length : Int) := of_decide_eq_true (by first | (with_reducible assumption) | assumption)
                                                                obtain ⟨ad162, e162, hx162_0⟩ := Kd.at_int (Kd.R_reads' HO_5.out).2.2 x9_4 p162 q162
                                                                obtain rfl : ad161 = ad162 := (by injection e162)
                                                                replace p162 := eq_true p162
                                                                replace q162 := eq_true q162
                                                                have p168 : 0 ≤ ((ji56) : Int) := of_decide_eq_true (by first | (with_reducible assumption) | assumption)
                                                                have q168 : (ji56) < (x8_4.length : Int) := of_decide_eq_true (by first | (with_reducible assumption) | assumption)
                                                                obtain ⟨ad168, e168, hx168_0⟩ := Kd.at_int (Kd.R_reads' HO_8.out).2.2 (ji56) p168 q168
                                                                obtain rfl : (⟨go23, 0, none⟩ : Addr) = ad168 := (by injection e168)
                                                                (first | simp only [add_plain] at hx168_0 | simp only [add_at] at hx168_0 | simp only [Addr.add, Nat.zero_add] at hx168_0 | skip)
                                                                replace p168 := eq_true p168
                                                                replace q168 := eq_true q168
                                                                have p169 : 0 ≤ ((ji56) : Int) := of_decide_eq_true (by first | (with_reducible assumption) | assumption)
                                                                have q169 : (ji56) < (x8_4.length : Int) := of_decide_eq_true (by first | (with_reducible assumption) | assumption)
                                                                obtain ⟨ad169, e169, hx169_0⟩ := Kd.at_int (Kd.R_reads' HO_8.out).2.2 (ji56) p169 q169
                                                                obtain rfl : (⟨go23, 0, none⟩ : Addr) = ad169 := (by injection e169)
                                                                (first | simp only [add_plain] at hx169_0 | simp only [add_at] at hx169_0 | simp only [Addr.add, Nat.zero_add] at hx169_0 | skip)
                                                                replace p169 := eq_true p169
                                                                replace q169 := eq_true q169
                                                                have p61 : 0 ≤ (x9_4 : Int) := of_decide_eq_true (by first | (with_reducible assumption) | assumption)
                                                                have q61 : (x9_4 : Int) < ((x8_4.length : Int) : Int) := of_decide_eq_true (by first | (with_reducible assumption) | assumption)
                                                                obtain ⟨hx61_0, hf61_0⟩ := Kd.R_celln 0 HO_8.out (x9_4 : Int) p61 q61
                                                                replace p61 := eq_true p61
                                                                replace q61 := eq_true q61
                                                                have HP62 := Kd.R_putg HO_8.out (x9_4 : Int) (wrap64 ((rd x8_4 (ji56)) + 1))
                                                                go_wp2_with (first | ((with_reducible refine gate_store (t := 2) (p := 97) rfl ?_); (try (rw [drewN_self wc]; generalize hq_ : World.drewN wc _ = wc; have n0_ := Aside0.mk (Kd.R_at hq_ HO_5.out); have n1_ := Aside0.mk (Kd.R_at hq_ HO_8.out); have n2_ := Aside0.mk (below_at hq_ HB.out); clear hq_ HO_5 HO_8 HB; have HO_5 := n0_; have HO_8 := n1_; have HB := n2_; clear n0_ n1_ n2_; (try (have HP62 := Kd.R_putg HO_8.out (x9_4 : Int) (wrap64 ((rd x8_4 (ji56)) + 1)))))); refine store_event (t := 2) (p := 97) (v := ?vo_w63) (w1 := (wc.setCell ⟨go23, (x9_4 : Int).toNat, none⟩ (.int .i64 (wrap64 ((rd x8_4 (ji56)) + 1))))) ?hg ?ho ?hn ?hr ?_; (case ho => rfl); (case hg => rfl); (case hn => rfl); (case hr => first | (go_simp; done) | (go_simp; rfl)); intro w63 hw; have hg : wc.grownBy w63 (some go23) := (by rw [hw]; exact HP62.2); have hp_ : Kd.R (Kd.int .i64) 2 w63 w.heap.size (fun k_ => some k_ ≠ (.slice (some ad161) x5_3.length co39 : Value).ownBlock) (.slice (some ⟨go23, 0, none⟩) x8_4.length co23) y170 := (by rw [hw, Ny170.out]; exact HP62.1); clear HP62; have n0_ := Aside0.mk (Kd.R_after (v := (.slice (some ⟨go23, 0, none⟩) x8_4.length co23)) (v1 := (.slice (some ⟨go23, 0, none⟩) x8_4.length co23)) (ok := (fun _ => True)) (by (with_reducible repeat (first | apply Kd.R_alloc | apply Kd.R_drewN | apply Kd.R_drew)); exact Kd.R_mono HO_5.out (fun _ hk => ⟨trivial, hk⟩)) hg (.inl rfl)); have n1_ := Aside0.mk (hp_); have n2_ := Aside0.mk ((by rw [hw]; exact below_set (HB.out) GB23.out : Below w.heap.size w w63)); clear HO_5; clear HO_8; clear HB; have HO_5 := n0_; have HO_8 := n1_; have HB := n2_; clear n0_ n1_ n2_; clear hg hw hp_))
                                                                repeat (go_quiet (first | ((with_reducible refine gate_store (t := 2) (p := 97) rfl ?_); (try (rw [drewN_self wc]; generalize hq_ : World.drewN wc _ = wc; have n0_ := Aside0.mk (Kd.R_at hq_ HO_5.out); have n1_ := Aside0.mk (Kd.R_at hq_ HO_8.out); have n2_ := Aside0.mk (below_at hq_ HB.out); clear hq_ HO_5 HO_8 HB; have HO_5 := n0_; have HO_8 := n1_; have HB := n2_; clear n0_ n1_ n2_; (try (have HP62 := Kd.R_putg HO_8.out (x9_4 : Int) (wrap64 ((rd x8_4 (ji56)) + 1)))))); refine store_event (t := 2) (p := 97) (v := ?vo_w63) (w1 := (wc.setCell ⟨go23, (x9_4 : Int).toNat, none⟩ (.int .i64 (wrap64 ((rd x8_4 (ji56)) + 1))))) ?hg ?ho ?hn ?hr ?_; (case ho => rfl); (case hg => rfl); (case hn => rfl); (case hr => first | (go_simp; done) | (go_simp; rfl)); intro w63 hw; have hg : wc.grownBy w63 (some go23) := (by rw [hw]; exact HP62.2); have hp_ : Kd.R (Kd.int .i64) 2 w63 w.heap.size (fun k_ => some k_ ≠ (.slice (some ad161) x5_3.length co39 : Value).ownBlock) (.slice (some ⟨go23, 0, none⟩) x8_4.length co23) y170 := (by rw [hw, Ny170.out]; exact HP62.1); clear HP62; have n0_ := Aside0.mk (Kd.R_after (v := (.slice (some ⟨go23, 0, none⟩) x8_4.length co23)) (v1 := (.slice (some ⟨go23, 0, none⟩) x8_4.length co23)) (ok := (fun _ => True)) (by (with_reducible repeat (first | apply Kd.R_alloc | apply Kd.R_drewN | apply Kd.R_drew)); exact Kd.R_mono HO_5.out (fun _ hk => ⟨trivial, hk⟩)) hg (.inl rfl)); have n1_ := Aside0.mk (hp_); have n2_ := Aside0.mk ((by rw [hw]; exact below_set (HB.out) GB23.out : Below w.heap.size w w63)); clear HO_5; clear HO_8; clear HB; have HO_5 := n0_; have HO_8 := n1_; have HB := n2_; clear n0_ n1_ n2_; clear hg hw hp_)); try go_wp2_with (first | ((with_reducible refine gate_store (t := 2) (p := 97) rfl ?_); (try (rw [drewN_self wc]; generalize hq_ : World.drewN wc _ = wc; have n0_ := Aside0.mk (Kd.R_at hq_ HO_5.out); have n1_ := Aside0.mk (Kd.R_at hq_ HO_8.out); have n2_ := Aside0.mk (below_at hq_ HB.out); clear hq_ HO_5 HO_8 HB; have HO_5 := n0_; have HO_8 := n1_; have HB := n2_; clear n0_ n1_ n2_; (try (have HP62 := Kd.R_putg HO_8.out (x9_4 : Int) (wrap64 ((rd x8_4 (ji56)) + 1)))))); refine store_event (t := 2) (p := 97) (v := ?vo_w63) (w1 := (wc.setCell ⟨go23, (x9_4 : Int).toNat, none⟩ (.int .i64 (wrap64 ((rd x8_4 (ji56)) + 1))))) ?hg ?ho ?hn ?hr ?_; (case ho => rfl); (case hg => rfl); (case hn => rfl); (case hr => first | (go_simp; done) | (go_simp; rfl)); intro w63 hw; have hg : wc.grownBy w63 (some go23) := (by rw [hw]; exact HP62.2); have hp_ : Kd.R (Kd.int .i64) 2 w63 w.heap.size (fun k_ => some k_ ≠ (.slice (some ad161) x5_3.length co39 : Value).ownBlock) (.slice (some ⟨go23, 0, none⟩) x8_4.length co23) y170 := (by rw [hw, Ny170.out]; exact HP62.1); clear HP62; have n0_ := Aside0.mk (Kd.R_after (v := (.slice (some ⟨go23, 0, none⟩) x8_4.length co23)) (v1 := (.slice (some ⟨go23, 0, none⟩) x8_4.length co23)) (ok := (fun _ => True)) (by (with_reducible repeat (first | apply Kd.R_alloc | apply Kd.R_drewN | apply Kd.R_drew)); exact Kd.R_mono HO_5.out (fun _ hk => ⟨trivial, hk⟩)) hg (.inl rfl)); have n1_ := Aside0.mk (hp_); have n2_ := Aside0.mk ((by rw [hw]; exact below_set (HB.out) GB23.out : Below w.heap.size w w63)); clear HO_5; clear HO_8; clear HB; have HO_5 := n0_; have HO_8 := n1_; have HB := n2_; clear n0_ n1_ n2_; clear hg hw hp_)))
                                                                (try simp only [← hl8_4])
                                                                go_roundg kj37
                                                                case measure => have := HJ2.out; have := HK2.out; have := HK3.out; have := HK4.out; have := HJ37.out; omega
                                                                case rel => exact ⟨(y170), (wrap64 (x9_4 + 1)), (by first | rfl | (simp; done) | (simp [*]; done)), H', ⟨by have := HJ2.out; have := HK2.out; have := HK3.out; have := HK4.out; have := HJ37.out; omega⟩, ⟨by (try simp only [hl5_2]); (try simp only [hl8_4]); (with_reducible repeat (first | apply Kd.R_alloc | apply Kd.R_drewN | apply Kd.R_drew)); exact Kd.R_mono HO_5.out (fun _ hk => hk.2)⟩, ⟨by (try simp only [hl5_2]); (try simp only [hl8_4]); (with_reducible repeat (first | apply Kd.R_alloc | apply Kd.R_drewN | apply Kd.R_drew)); exact HO_8.out⟩, ⟨by repeat (first | (with_reducible first | exact HB.out | apply below_alloc | apply pw_below_drewN | apply below_drew1) | exact HB.out)⟩⟩
                                                              · rw [if_neg c60] at H
                                                                exact absurd H (by simp)
                                                            · rw [if_neg c59] at H
                                                              have c59b0 : decide ((wrap64 ((rd x8_4 (ji56)) + 1)) < x10_37) = false := decide_eq_false c59
                                                              clear c59
                                                              by_cases c64 : x9_4 < (x8_4.length : Int)
                                                              · rw [if_pos c64] at H
                                                                have c64b0 : decide (x9_4 < (x8_4.length : Int)) = true := decide_eq_true c64
                                                                clear c64
                                                                obtain ⟨y171, hy171⟩ : ∃ y_ : List Int, y_ = (x8_4.set (x9_4 : Int).toNat x10_37) := ⟨_, rfl⟩
                                                                replace H : (impl_Edits.l2 kj37 a0 a1 x5_3 x7_3 y171 (wrap64 (x9_4 + 1))) = some r := by first | (rw [hy171]; with_reducible exact H) | (have H2_ := (Option.bind_some _ _).symm.trans H; rw [hy171]; with_reducible exact H2_) | (have H2_ := (Option.bind_some _ _).symm.trans H; with_reducible exact H2_) | with_reducible exact H | (rw [hy171]; exact H) | exact H
                                                                have Ny171 := Aside0.mk hy171
                                                                clear hy171
                                                                have H' := Aside0.mk H
                                                                clear H
                                                                have p162 : 0 ≤ (x9_4 : Int) := of_decide_eq_true (by first | (with_reducible assumption) | assumption)
                                                                have q162 : x9_4 < (x5_3.length : Int) := of_decide_eq_true (by first | (with_reducible assumption) | assumption)
                                                                obtain ⟨ad162, e162, hx162_0⟩ := Kd.at_int (Kd.R_reads' HO_5.out).2.2 x9_4 p162 q162
                                                                obtain rfl : ad161 = ad162 := (by injection e162)
                                                                replace p162 := eq_true p162
                                                                replace q162 := eq_true q162
                                                                have p168 : 0 ≤ ((ji56) : Int) := of_decide_eq_true (by first | (with_reducible assumption) | assumption)
                                                                have q168 : (ji56) < (x8_4.length : Int) := of_decide_eq_true (by first | (with_reducible assumption) | assumption)
                                                                obtain ⟨ad168, e168, hx168_0⟩ := Kd.at_int (Kd.R_reads' HO_8.out).2.2 (ji56) p168 q168
                                                                obtain rfl : (⟨go23, 0, none⟩ : Addr) = ad168 := (by injection e168)
                                                                (first | simp only [add_plain] at hx168_0 | simp only [add_at] at hx168_0 | simp only [Addr.add, Nat.zero_add] at hx168_0 | skip)
                                                                replace p168 := eq_true p168
                                                                replace q168 := eq_true q168
                                                                have p65 : 0 ≤ (x9_4 : Int) := of_decide_eq_true (by first | (with_reducible assumption) | assumption)
                                                                have q65 : (x9_4 : Int) < ((x8_4.length : Int) : Int) := of_decide_eq_true (by first | (with_reducible assumption) | assumption)
                                                                obtain ⟨hx65_0, hf65_0⟩ := Kd.R_celln 0 HO_8.out (x9_4 : Int) p65 q65
                                                                replace p65 := eq_true p65
                                                                replace q65 := eq_true q65
                                                                have HP66 := Kd.R_putg HO_8.out (x9_4 : Int) x10_37
                                                                go_wp2_with (first | ((with_reducible refine gate_store (t := 2) (p := 97) rfl ?_); (try (rw [drewN_self wc]; generalize hq_ : World.drewN wc _ = wc; have n0_ := Aside0.mk (Kd.R_at hq_ HO_5.out); have n1_ := Aside0.mk (Kd.R_at hq_ HO_8.out); have n2_ := Aside0.mk (below_at hq_ HB.out); clear hq_ HO_5 HO_8 HB; have HO_5 := n0_; have HO_8 := n1_; have HB := n2_; clear n0_ n1_ n2_; (try (have HP66 := Kd.R_putg HO_8.out (x9_4 : Int) x10_37)))); refine store_event (t := 2) (p := 97) (v := ?vo_w67) (w1 := (wc.setCell ⟨go23, (x9_4 : Int).toNat, none⟩ (.int .i64 x10_37))) ?hg ?ho ?hn ?hr ?_; (case ho => rfl); (case hg => rfl); (case hn => rfl); (case hr => first | (go_simp; done) | (go_simp; rfl)); intro w67 hw; have hg : wc.grownBy w67 (some go23) := (by rw [hw]; exact HP66.2); have hp_ : Kd.R (Kd.int .i64) 2 w67 w.heap.size (fun k_ => some k_ ≠ (.slice (some ad161) x5_3.length co39 : Value).ownBlock) (.slice (some ⟨go23, 0, none⟩) x8_4.length co23) y171 := (by rw [hw, Ny171.out]; exact HP66.1); clear HP66; have n0_ := Aside0.mk (Kd.R_after (v := (.slice (some ⟨go23, 0, none⟩) x8_4.length co23)) (v1 := (.slice (some ⟨go23, 0, none⟩) x8_4.length co23)) (ok := (fun _ => True)) (by (with_reducible repeat (first | apply Kd.R_alloc | apply Kd.R_drewN | apply Kd.R_drew)); exact Kd.R_mono HO_5.out (fun _ hk => ⟨trivial, hk⟩)) hg (.inl rfl)); have n1_ := Aside0.mk (hp_); have n2_ := Aside0.mk ((by rw [hw]; exact below_set (HB.out) GB23.out : Below w.heap.size w w67)); clear HO_5; clear HO_8; clear HB; have HO_5 := n0_; have HO_8 := n1_; have HB := n2_; clear n0_ n1_ n2_; clear hg hw hp_))
                                                                repeat (go_quiet (first | ((with_reducible refine gate_store (t := 2) (p := 97) rfl ?_); (try (rw [drewN_self wc]; generalize hq_ : World.drewN wc _ = wc; have n0_ := Aside0.mk (Kd.R_at hq_ HO_5.out); have n1_ := Aside0.mk (Kd.R_at hq_ HO_8.out); have n2_ := Aside0.mk (below_at hq_ HB.out); clear hq_ HO_5 HO_8 HB; have HO_5 := n0_; have HO_8 := n1_; have HB := n2_; clear n0_ n1_ n2_; (try (have HP66 := Kd.R_putg HO_8.out (x9_4 : Int) x10_37)))); refine store_event (t := 2) (p := 97) (v := ?vo_w67) (w1 := (wc.setCell ⟨go23, (x9_4 : Int).toNat, none⟩ (.int .i64 x10_37))) ?hg ?ho ?hn ?hr ?_; (case ho => rfl); (case hg => rfl); (case hn => rfl); (case hr => first | (go_simp; done) | (go_simp; rfl)); intro w67 hw; have hg : wc.grownBy w67 (some go23) := (by rw [hw]; exact HP66.2); have hp_ : Kd.R (Kd.int .i64) 2 w67 w.heap.size (fun k_ => some k_ ≠ (.slice (some ad161) x5_3.length co39 : Value).ownBlock) (.slice (some ⟨go23, 0, none⟩) x8_4.length co23) y171 := (by rw [hw, Ny171.out]; exact HP66.1); clear HP66; have n0_ := Aside0.mk (Kd.R_after (v := (.slice (some ⟨go23, 0, none⟩) x8_4.length co23)) (v1 := (.slice (some ⟨go23, 0, none⟩) x8_4.length co23)) (ok := (fun _ => True)) (by (with_reducible repeat (first | apply Kd.R_alloc | apply Kd.R_drewN | apply Kd.R_drew)); exact Kd.R_mono HO_5.out (fun _ hk => ⟨trivial, hk⟩)) hg (.inl rfl)); have n1_ := Aside0.mk (hp_); have n2_ := Aside0.mk ((by rw [hw]; exact below_set (HB.out) GB23.out : Below w.heap.size w w67)); clear HO_5; clear HO_8; clear HB; have HO_5 := n0_; have HO_8 := n1_; have HB := n2_; clear n0_ n1_ n2_; clear hg hw hp_)); try go_wp2_with (first | ((with_reducible refine gate_store (t := 2) (p := 97) rfl ?_); (try (rw [drewN_self wc]; generalize hq_ : World.drewN wc _ = wc; have n0_ := Aside0.mk (Kd.R_at hq_ HO_5.out); have n1_ := Aside0.mk (Kd.R_at hq_ HO_8.out); have n2_ := Aside0.mk (below_at hq_ HB.out); clear hq_ HO_5 HO_8 HB; have HO_5 := n0_; have HO_8 := n1_; have HB := n2_; clear n0_ n1_ n2_; (try (have HP66 := Kd.R_putg HO_8.out (x9_4 : Int) x10_37)))); refine store_event (t := 2) (p := 97) (v := ?vo_w67) (w1 := (wc.setCell ⟨go23, (x9_4 : Int).toNat, none⟩ (.int .i64 x10_37))) ?hg ?ho ?hn ?hr ?_; (case ho => rfl); (case hg => rfl); (case hn => rfl); (case hr => first | (go_simp; done) | (go_simp; rfl)); intro w67 hw; have hg : wc.grownBy w67 (some go23) := (by rw [hw]; exact HP66.2); have hp_ : Kd.R (Kd.int .i64) 2 w67 w.heap.size (fun k_ => some k_ ≠ (.slice (some ad161) x5_3.length co39 : Value).ownBlock) (.slice (some ⟨go23, 0, none⟩) x8_4.length co23) y171 := (by rw [hw, Ny171.out]; exact HP66.1); clear HP66; have n0_ := Aside0.mk (Kd.R_after (v := (.slice (some ⟨go23, 0, none⟩) x8_4.length co23)) (v1 := (.slice (some ⟨go23, 0, none⟩) x8_4.length co23)) (ok := (fun _ => True)) (by (with_reducible repeat (first | apply Kd.R_alloc | apply Kd.R_drewN | apply Kd.R_drew)); exact Kd.R_mono HO_5.out (fun _ hk => ⟨trivial, hk⟩)) hg (.inl rfl)); have n1_ := Aside0.mk (hp_); have n2_ := Aside0.mk ((by rw [hw]; exact below_set (HB.out) GB23.out : Below w.heap.size w w67)); clear HO_5; clear HO_8; clear HB; have HO_5 := n0_; have HO_8 := n1_; have HB := n2_; clear n0_ n1_ n2_; clear hg hw hp_)))
                                                                (try simp only [← hl8_4])
                                                                go_roundg kj37
                                                                case measure => have := HJ2.out; have := HK2.out; have := HK3.out; have := HK4.out; have := HJ37.out; omega
                                                                case rel => exact ⟨(y171), (wrap64 (x9_4 + 1)), (by first | rfl | (simp; done) | (simp [*]; done)), H', ⟨by have := HJ2.out; have := HK2.out; have := HK3.out; have := HK4.out; have := HJ37.out; omega⟩, ⟨by (try simp only [hl5_2]); (try simp only [hl8_4]); (with_reducible repeat (first | apply Kd.R_alloc | apply Kd.R_drewN | apply Kd.R_drew)); exact Kd.R_mono HO_5.out (fun _ hk => hk.2)⟩, ⟨by (try simp only [hl5_2]); (try simp only [hl8_4]); (with_reducible repeat (first | apply Kd.R_alloc | apply Kd.R_drewN | apply Kd.R_drew)); exact HO_8.out⟩, ⟨by repeat (first | (with_reducible first | exact HB.out | apply below_alloc | apply pw_below_drewN | apply below_drew1) | exact HB.out)⟩⟩
                                                              · rw [if_neg c64] at H
                                                                exact absurd H (by simp)
                                                          · rw [if_neg c58] at H
                                                            exact absurd H (by simp)
                                                        · rw [if_neg c57] at H
                                                          exact absurd H (by simp)
                                                    · rw [if_neg c42] at H
                                                      exact absurd H (by simp)
                                                  · rw [if_neg c41] at H
                                                    exact absurd H (by simp)
                                            · rw [if_neg c36] at H
                                              exact absurd H (by simp)
                                          · rw [if_neg c34] at H
                                            exact absurd H (by simp)
                                        · rw [if_neg c33] at H
                                          exact absurd H (by simp)
                                      · rw [if_neg c31] at H
                                        exact absurd H (by simp)
                                    · rw [if_neg c30] at H
                                      exact absurd H (by simp)
                                  · rw [if_neg c28] at H
                                    have c28b0 : decide (x9_4 ≤ (a1.size : Int)) = false := decide_eq_false c28
                                    clear c28
                                    have H' := Aside0.mk H
                                    clear H
                                    go_wp2
                                    repeat (go_quiet (fail); try go_wp2)
                                    (try simp only [← hl8_4])
                                    go_roundg k4
                                    case measure => have := HJ2.out; have := HK2.out; have := HK3.out; have := HK4.out; omega
                                    case rel => exact ⟨(x8_4), (wrap64 (x7_3 + 1)), (by first | rfl | (simp; done) | (simp [*]; done)), H', ⟨by have := HJ2.out; have := HK2.out; have := HK3.out; have := HK4.out; omega⟩, ⟨by (try simp only [hl5_2]); (try simp only [hl8_4]); (with_reducible repeat (first | apply Kd.R_alloc | apply Kd.R_drewN | apply Kd.R_drew)); exact Kd.R_mono HO_8.out (fun _ hk => trivial)⟩, ⟨by repeat (first | (with_reducible first | exact HB.out | apply below_alloc | apply pw_below_drewN | apply below_drew1) | exact HB.out)⟩⟩
                            · rw [if_neg c22] at H
                              exact absurd H (by simp)
                          · rw [if_neg c21] at H
                            exact absurd H (by simp)
                        · rw [if_neg c20] at H
                          exact absurd H (by simp)
                      · rw [if_neg c18] at H
                        have c18b0 : decide (x7_3 ≤ (a0.size : Int)) = false := decide_eq_false c18
                        clear c18
                        by_cases c68 : 0 ≤ (a1.size : Int)
                        · rw [if_pos c68] at H
                          have c68b0 : decide (0 ≤ (a1.size : Int)) = true := decide_eq_true c68
                          have c68b1 : decide (0 ≤ a1.size) = true := decide_eq_true (by omega)
                          clear c68
                          by_cases c69 : (a1.size : Int) < (x5_3.length : Int)
                          · rw [if_pos c69] at H
                            have c69b0 : decide ((a1.size : Int) < (x5_3.length : Int)) = true := decide_eq_true c69
                            have c69b1 : decide (a1.size < x5_3.length) = true := decide_eq_true (Int.ofNat_lt.mp c69)
                            clear c69
                            by_cases c70 : (rd x5_3 (a1.size : Int)) > 3
                            · rw [if_pos c70] at H
                              have c70b0 : decide (3 < (rd x5_3 (a1.size : Int))) = true := decide_eq_true c70
                              clear c70
                              obtain rfl := Option.some.inj H
                              obtain ⟨Ao71, co71, eo71⟩ := Kd.R_slice HO_5.out
                              subst eo71
                              have p155 : 0 ≤ ((a1.size : Int) : Int) := of_decide_eq_true (by first | (with_reducible assumption) | assumption)
                              have q155 : (a1.size : Int) < (x5_3.length : Int) := of_decide_eq_true (by first | (with_reducible assumption) | assumption)
                              obtain ⟨ad155, e155, hx155_0⟩ := Kd.at_int (Kd.R_reads' HO_5.out).2.2 (a1.size : Int) p155 q155
                              (try simp only [Int.toNat_natCast] at hx155_0)
                              cases e155
                              replace p155 := eq_true p155
                              replace q155 := eq_true q155
                              go_wp2
                              repeat (go_quiet (fail); try go_wp2)
                              go_ret
                              exact ⟨by first | rfl | (simp [errW_none, errW_some] <;> rfl) | (simp only [← hji6]; first | rfl | (simp [errW_none, errW_some] <;> rfl)) | (simp [*, errW_none, errW_some] <;> rfl), by repeat (first | (with_reducible first | exact HB.out | apply below_alloc | apply pw_below_drewN | apply below_drew1) | exact HB.out)⟩
                            · rw [if_neg c70] at H
                              have c70b0 : decide (3 < (rd x5_3 (a1.size : Int))) = false := decide_eq_false c70
                              clear c70
                              obtain rfl := Option.some.inj H
                              obtain ⟨Ao72, co72, eo72⟩ := Kd.R_slice HO_5.out
                              subst eo72
                              have p155 : 0 ≤ ((a1.size : Int) : Int) := of_decide_eq_true (by first | (with_reducible assumption) | assumption)
                              have q155 : (a1.size : Int) < (x5_3.length : Int) := of_decide_eq_true (by first | (with_reducible assumption) | assumption)
                              obtain ⟨ad155, e155, hx155_0⟩ := Kd.at_int (Kd.R_reads' HO_5.out).2.2 (a1.size : Int) p155 q155
                              (try simp only [Int.toNat_natCast] at hx155_0)
                              cases e155
                              replace p155 := eq_true p155
                              replace q155 := eq_true q155
                              have p156 : 0 ≤ ((a1.size : Int) : Int) := of_decide_eq_true (by first | (with_reducible assumption) | assumption)
                              have q156 : (a1.size : Int) < (x5_3.length : Int) := of_decide_eq_true (by first | (with_reducible assumption) | assumption)
                              obtain ⟨ad156, e156, hx156_0⟩ := Kd.at_int (Kd.R_reads' HO_5.out).2.2 (a1.size : Int) p156 q156
                              (try simp only [Int.toNat_natCast] at hx156_0)
                              obtain rfl : ad155 = ad156 := (by injection e156)
                              replace p156 := eq_true p156
                              replace q156 := eq_true q156
                              go_wp2
                              repeat (go_quiet (fail); try go_wp2)
                              go_ret
                              exact ⟨by first | rfl | (simp [errW_none, errW_some] <;> rfl) | (simp only [← hji6]; first | rfl | (simp [errW_none, errW_some] <;> rfl)) | (simp [*, errW_none, errW_some] <;> rfl), by repeat (first | (with_reducible first | exact HB.out | apply below_alloc | apply pw_below_drewN | apply below_drew1) | exact HB.out)⟩
                          · rw [if_neg c69] at H
                            exact absurd H (by simp)
                        · rw [if_neg c68] at H
                          exact absurd H (by simp)
          · rw [if_neg c8] at H
            exact absurd H (by simp)
        · rw [if_neg c7] at H
          exact absurd H (by simp)

end Go.Proofs.Ytcpgphmaibajlaa.PFnEdits
