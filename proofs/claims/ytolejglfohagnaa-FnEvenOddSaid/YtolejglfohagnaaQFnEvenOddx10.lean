/- Contracts of functions of the statement FnEvenOdd: the printed text, turned by a program of ours where it fell. -/
import Derived.Test.YtolejglfohagnaaQFnEvenOddx0
import Derived.Test.YtolejglfohagnaaQFnEvenOddx2
import Derived.Test.YtolejglfohagnaaQFnEvenOddx6
import Derived.Test.YtolejglfohagnaaQFnEvenOddx8
import Derived.Test.YtolejglfohagnaaQFnEvenOddx9
namespace Go.Proofs.Ytolejglfohagnaa.PFnEvenOdd
open Go.RowKit Go.Proofs.YtolejglfohagnaaW.PrintWords Go.Proofs.YtolejglfohagnaaW.PrintLast Go.Proofs.YtolejglfohagnaaW.PrintMore
attribute [local go_sem] max2_int min2_int max_two min_two max_three min_three max_four min_four   -- for this text's walks alone
set_option linter.unusedVariables false
set_option linter.unusedSimpArgs false

/-! ### laws_FnEvenOdd: function 7 -/
mutual
def laws_FnEvenOdd.j0 : Nat → List (S65) → Int → Bool → Int → Int → Option (Bool)
 | 0, _, _, _, _, _ => none
 | k + 1, x3, x5, x37, x339000, x339001 => if x37 = true then (some (x5 == (-1))) else (laws_FnEvenOdd.l0 k x3 x5 (-1) false 0 x339000 x339001)
def laws_FnEvenOdd.l0 : Nat → List (S65) → Int → Int → Bool → Int → Int → Int → Option (Bool)
 | 0, _, _, _, _, _, _, _ => none
 | k + 1, x3, x5, x6, x7, x8, x339000, x339001 => if x8 < (x3.length : Int) then (if 0 ≤ x8 then ((laws_allOk.f k ((rd_T65 x3 x8).f0)).bind fun t349 => (if t349 = true then (laws_FnEvenOdd.j2 k x3 x5 x6 x7 x8 (decide ((((rd_T65 x3 x8).f0).length : Int) > 2000)) x339000 x339001) else (laws_FnEvenOdd.j2 k x3 x5 x6 x7 x8 true x339000 x339001))) else (none)) else (if x7 = true then (some (x5 == 0)) else (some (x5 == x6)))
def laws_FnEvenOdd.j2 : Nat → List (S65) → Int → Int → Bool → Int → Bool → Int → Int → Option (Bool)
 | 0, _, _, _, _, _, _, _, _ => none
 | k + 1, x3, x5, x6, x7, x8, x61, x339000, x339001 => if x61 = true then (some (x5 == (-1))) else (if 0 ≤ x8 then (if x8 ≤ (wrap64 (x8 + 1)) then (if (wrap64 (x8 + 1)) ≤ (x3.length : Int) then ((impl_Inside.f k ((x3.take ((wrap64 (x8 + 1)) : Int).toNat).drop (x8 : Int).toNat) x339000 x339001).bind fun t356 => (if x7 = true then (laws_FnEvenOdd.j3 k x3 x5 x6 true x8 t356 x339000 x339001) else (laws_FnEvenOdd.j3 k x3 x5 x6 (t356 == 0) x8 t356 x339000 x339001))) else (none)) else (none)) else (none))
def laws_FnEvenOdd.j3 : Nat → List (S65) → Int → Int → Bool → Int → Int → Int → Int → Option (Bool)
 | 0, _, _, _, _, _, _, _, _ => none
 | k + 1, x3, x5, x6, x7, x8, x9, x339000, x339001 => if x9 = 1 then (if 0 ≤ x8 then (if x8 < (x3.length : Int) then ((laws_closed.f ((rd_T65 x3 x8).f0)).bind fun t358 => (laws_FnEvenOdd.j4 k x3 x5 x6 x7 x8 t358 x339000 x339001)) else (none)) else (none)) else (laws_FnEvenOdd.j4 k x3 x5 x6 x7 x8 false x339000 x339001)
def laws_FnEvenOdd.j4 : Nat → List (S65) → Int → Int → Bool → Int → Bool → Int → Int → Option (Bool)
 | 0, _, _, _, _, _, _, _, _ => none
 | k + 1, x3, x5, x6, x7, x8, x85, x339000, x339001 => if x85 = true then (if 0 ≤ x8 then (if x8 < (x3.length : Int) then ((laws_closed.f ((rd_T65 x3 x8).f0)).bind fun t360 => (if t360 = true then (laws_FnEvenOdd.l0 k x3 x5 (wrap64 (-x6)) x7 (wrap64 (x8 + 1)) x339000 x339001) else (some true))) else (none)) else (none)) else (if 0 ≤ x8 then (if x8 < (x3.length : Int) then ((laws_closed.f ((rd_T65 x3 x8).f0)).bind fun t362 => (if t362 = true then (laws_FnEvenOdd.l0 k x3 x5 x6 x7 (wrap64 (x8 + 1)) x339000 x339001) else (some true))) else (none)) else (none))
end
def laws_FnEvenOdd.f (k : Nat) (l0 : List Int) : Option (Bool) := (laws_big.f l0).bind fun t332 => (if t332 = true then (some true) else ((spec_DrawInside.f k l0).bind fun bt333 => ((impl_Inside.f k (([(⟨(([(⟨0, 0⟩ : S28), (⟨4, 0⟩ : S28), (⟨0, 4⟩ : S28), (⟨0, 0⟩ : S28)] : List (S28))), false⟩ : S65)] : List (S65))) 1 1).bind fun t345 => (if t345 = 1 then ((impl_Inside.f k bt333.1 bt333.2.1 bt333.2.2).bind fun t346 => (if (bt333.1.length : Int) > 40 then (laws_FnEvenOdd.j0 k bt333.1 t346 true bt333.2.1 bt333.2.2) else ((impl_PointOk.f bt333.2.1 bt333.2.2).bind fun t347 => (laws_FnEvenOdd.j0 k bt333.1 t346 (!t347) bt333.2.1 bt333.2.2)))) else (some false)))))
theorem laws_FnEvenOdd.mono_l : ∀ k, (∀ y0 y1 y2 y3 y4, LeO (laws_FnEvenOdd.j0 k y0 y1 y2 y3 y4) (laws_FnEvenOdd.j0 (k + 1) y0 y1 y2 y3 y4)) ∧ (∀ y0 y1 y2 y3 y4 y5 y6, LeO (laws_FnEvenOdd.l0 k y0 y1 y2 y3 y4 y5 y6) (laws_FnEvenOdd.l0 (k + 1) y0 y1 y2 y3 y4 y5 y6)) ∧ (∀ y0 y1 y2 y3 y4 y5 y6 y7, LeO (laws_FnEvenOdd.j2 k y0 y1 y2 y3 y4 y5 y6 y7) (laws_FnEvenOdd.j2 (k + 1) y0 y1 y2 y3 y4 y5 y6 y7)) ∧ (∀ y0 y1 y2 y3 y4 y5 y6 y7, LeO (laws_FnEvenOdd.j3 k y0 y1 y2 y3 y4 y5 y6 y7) (laws_FnEvenOdd.j3 (k + 1) y0 y1 y2 y3 y4 y5 y6 y7)) ∧ (∀ y0 y1 y2 y3 y4 y5 y6 y7, LeO (laws_FnEvenOdd.j4 k y0 y1 y2 y3 y4 y5 y6 y7) (laws_FnEvenOdd.j4 (k + 1) y0 y1 y2 y3 y4 y5 y6 y7))
 | 0 => ⟨fun _ _ _ _ _ r h => by simp [laws_FnEvenOdd.j0] at h, fun _ _ _ _ _ _ _ r h => by simp [laws_FnEvenOdd.l0] at h, fun _ _ _ _ _ _ _ _ r h => by simp [laws_FnEvenOdd.j2] at h, fun _ _ _ _ _ _ _ _ r h => by simp [laws_FnEvenOdd.j3] at h, fun _ _ _ _ _ _ _ _ r h => by simp [laws_FnEvenOdd.j4] at h⟩
 | k + 1 => by
  obtain ⟨ih0, ih1, ih2, ih3, ih4⟩ := laws_FnEvenOdd.mono_l k
  refine ⟨?_, ?_, ?_, ?_, ?_⟩
  ·intro y0 y1 y2 y3 y4
   unfold laws_FnEvenOdd.j0
   repeat' first
   | (with_reducible exact ih0 _ _ _ _ _)
   | (with_reducible exact ih1 _ _ _ _ _ _ _)
   | (with_reducible exact ih2 _ _ _ _ _ _ _ _)
   | (with_reducible exact ih3 _ _ _ _ _ _ _ _)
   | (with_reducible exact ih4 _ _ _ _ _ _ _ _)
   | (with_reducible exact impl_Inside.mono _ _ _ _)
   | (with_reducible exact laws_allOk.mono _ _)
   | (with_reducible exact spec_DrawInside.mono _ _)
   | (with_reducible exact LeO.refl _)
   | (with_reducible exact LeO.none _)
   | (with_reducible refine LeO.ite ?_ ?_)
   | (with_reducible refine LeO.bind ?_ (fun _ => ?_))
   | exact ih0 _ _ _ _ _
   | exact ih1 _ _ _ _ _ _ _
   | exact ih2 _ _ _ _ _ _ _ _
   | exact ih3 _ _ _ _ _ _ _ _
   | exact ih4 _ _ _ _ _ _ _ _
   | exact impl_Inside.mono _ _ _ _
   | exact laws_allOk.mono _ _
   | exact spec_DrawInside.mono _ _
   | exact LeO.none _
   | refine LeO.ite ?_ ?_
   | refine LeO.bind ?_ (fun _ => ?_)
  ·intro y0 y1 y2 y3 y4 y5 y6
   unfold laws_FnEvenOdd.l0
   repeat' first
   | (with_reducible exact ih0 _ _ _ _ _)
   | (with_reducible exact ih1 _ _ _ _ _ _ _)
   | (with_reducible exact ih2 _ _ _ _ _ _ _ _)
   | (with_reducible exact ih3 _ _ _ _ _ _ _ _)
   | (with_reducible exact ih4 _ _ _ _ _ _ _ _)
   | (with_reducible exact impl_Inside.mono _ _ _ _)
   | (with_reducible exact laws_allOk.mono _ _)
   | (with_reducible exact spec_DrawInside.mono _ _)
   | (with_reducible exact LeO.refl _)
   | (with_reducible exact LeO.none _)
   | (with_reducible refine LeO.ite ?_ ?_)
   | (with_reducible refine LeO.bind ?_ (fun _ => ?_))
   | exact ih0 _ _ _ _ _
   | exact ih1 _ _ _ _ _ _ _
   | exact ih2 _ _ _ _ _ _ _ _
   | exact ih3 _ _ _ _ _ _ _ _
   | exact ih4 _ _ _ _ _ _ _ _
   | exact impl_Inside.mono _ _ _ _
   | exact laws_allOk.mono _ _
   | exact spec_DrawInside.mono _ _
   | exact LeO.none _
   | refine LeO.ite ?_ ?_
   | refine LeO.bind ?_ (fun _ => ?_)
  ·intro y0 y1 y2 y3 y4 y5 y6 y7
   unfold laws_FnEvenOdd.j2
   repeat' first
   | (with_reducible exact ih0 _ _ _ _ _)
   | (with_reducible exact ih1 _ _ _ _ _ _ _)
   | (with_reducible exact ih2 _ _ _ _ _ _ _ _)
   | (with_reducible exact ih3 _ _ _ _ _ _ _ _)
   | (with_reducible exact ih4 _ _ _ _ _ _ _ _)
   | (with_reducible exact impl_Inside.mono _ _ _ _)
   | (with_reducible exact laws_allOk.mono _ _)
   | (with_reducible exact spec_DrawInside.mono _ _)
   | (with_reducible exact LeO.refl _)
   | (with_reducible exact LeO.none _)
   | (with_reducible refine LeO.ite ?_ ?_)
   | (with_reducible refine LeO.bind ?_ (fun _ => ?_))
   | exact ih0 _ _ _ _ _
   | exact ih1 _ _ _ _ _ _ _
   | exact ih2 _ _ _ _ _ _ _ _
   | exact ih3 _ _ _ _ _ _ _ _
   | exact ih4 _ _ _ _ _ _ _ _
   | exact impl_Inside.mono _ _ _ _
   | exact laws_allOk.mono _ _
   | exact spec_DrawInside.mono _ _
   | exact LeO.none _
   | refine LeO.ite ?_ ?_
   | refine LeO.bind ?_ (fun _ => ?_)
  ·intro y0 y1 y2 y3 y4 y5 y6 y7
   unfold laws_FnEvenOdd.j3
   repeat' first
   | (with_reducible exact ih0 _ _ _ _ _)
   | (with_reducible exact ih1 _ _ _ _ _ _ _)
   | (with_reducible exact ih2 _ _ _ _ _ _ _ _)
   | (with_reducible exact ih3 _ _ _ _ _ _ _ _)
   | (with_reducible exact ih4 _ _ _ _ _ _ _ _)
   | (with_reducible exact impl_Inside.mono _ _ _ _)
   | (with_reducible exact laws_allOk.mono _ _)
   | (with_reducible exact spec_DrawInside.mono _ _)
   | (with_reducible exact LeO.refl _)
   | (with_reducible exact LeO.none _)
   | (with_reducible refine LeO.ite ?_ ?_)
   | (with_reducible refine LeO.bind ?_ (fun _ => ?_))
   | exact ih0 _ _ _ _ _
   | exact ih1 _ _ _ _ _ _ _
   | exact ih2 _ _ _ _ _ _ _ _
   | exact ih3 _ _ _ _ _ _ _ _
   | exact ih4 _ _ _ _ _ _ _ _
   | exact impl_Inside.mono _ _ _ _
   | exact laws_allOk.mono _ _
   | exact spec_DrawInside.mono _ _
   | exact LeO.none _
   | refine LeO.ite ?_ ?_
   | refine LeO.bind ?_ (fun _ => ?_)
  ·intro y0 y1 y2 y3 y4 y5 y6 y7
   unfold laws_FnEvenOdd.j4
   repeat' first
   | (with_reducible exact ih0 _ _ _ _ _)
   | (with_reducible exact ih1 _ _ _ _ _ _ _)
   | (with_reducible exact ih2 _ _ _ _ _ _ _ _)
   | (with_reducible exact ih3 _ _ _ _ _ _ _ _)
   | (with_reducible exact ih4 _ _ _ _ _ _ _ _)
   | (with_reducible exact impl_Inside.mono _ _ _ _)
   | (with_reducible exact laws_allOk.mono _ _)
   | (with_reducible exact spec_DrawInside.mono _ _)
   | (with_reducible exact LeO.refl _)
   | (with_reducible exact LeO.none _)
   | (with_reducible refine LeO.ite ?_ ?_)
   | (with_reducible refine LeO.bind ?_ (fun _ => ?_))
   | exact ih0 _ _ _ _ _
   | exact ih1 _ _ _ _ _ _ _
   | exact ih2 _ _ _ _ _ _ _ _
   | exact ih3 _ _ _ _ _ _ _ _
   | exact ih4 _ _ _ _ _ _ _ _
   | exact impl_Inside.mono _ _ _ _
   | exact laws_allOk.mono _ _
   | exact spec_DrawInside.mono _ _
   | exact LeO.none _
   | refine LeO.ite ?_ ?_
   | refine LeO.bind ?_ (fun _ => ?_)
theorem laws_FnEvenOdd.mono : ∀ a0 k, LeO (laws_FnEvenOdd.f k a0) (laws_FnEvenOdd.f (k + 1) a0) := by
 intro a0 k
 obtain ⟨ih0, ih1, ih2, ih3, ih4⟩ := laws_FnEvenOdd.mono_l k
 unfold laws_FnEvenOdd.f
 repeat' first
   | (with_reducible exact ih0 _ _ _ _ _)
   | (with_reducible exact ih1 _ _ _ _ _ _ _)
   | (with_reducible exact ih2 _ _ _ _ _ _ _ _)
   | (with_reducible exact ih3 _ _ _ _ _ _ _ _)
   | (with_reducible exact ih4 _ _ _ _ _ _ _ _)
   | (with_reducible exact impl_Inside.mono _ _ _ _)
   | (with_reducible exact laws_allOk.mono _ _)
   | (with_reducible exact spec_DrawInside.mono _ _)
   | (with_reducible exact LeO.refl _)
   | (with_reducible exact LeO.none _)
   | (with_reducible refine LeO.ite ?_ ?_)
   | (with_reducible refine LeO.bind ?_ (fun _ => ?_))
   | exact ih0 _ _ _ _ _
   | exact ih1 _ _ _ _ _ _ _
   | exact ih2 _ _ _ _ _ _ _ _
   | exact ih3 _ _ _ _ _ _ _ _
   | exact ih4 _ _ _ _ _ _ _ _
   | exact impl_Inside.mono _ _ _ _
   | exact laws_allOk.mono _ _
   | exact spec_DrawInside.mono _ _
   | exact LeO.none _
   | refine LeO.ite ?_ ?_
   | refine LeO.bind ?_ (fun _ => ?_)
def laws_FnEvenOdd.T16 : Bool × List (List Nat × List Nat) := (true, [([], []), ([], []), ([], []), ([2], [2]), ([0, 1, 3], [0, 1, 3]), ([], []), ([4, 5], [4, 5]), ([6, 6, 0, 1, 2, 3, 4, 5, 6], [6])])
def laws_FnEvenOdd.B16 : List Nat := [0, 0, 0, 4, 15, 0, 63, 127]
theorem laws_FnEvenOdd.tab16 : rtab .any (opsOf Try.f7 16) = laws_FnEvenOdd.T16 := by kernel_rfl
theorem laws_FnEvenOdd.bits16 : waitsOk laws_FnEvenOdd.T16.2 laws_FnEvenOdd.B16 = true := by kernel_rfl
set_option maxHeartbeats 8000000 in
set_option maxRecDepth 100000 in
theorem laws_FnEvenOdd.calls (k : Nat) (A0 : Option Addr) (c0 : Nat) (l0 : List Int) (r : Bool) (w : World) (hr0 : Kd.C (Kd.int .u8) w A0 l0.length l0) (hc0 : l0.length ≤ c0) (h : laws_FnEvenOdd.f k l0 = some r) :
  Calls Try.prog 7 #[.slice A0 l0.length c0] w fun e w' => e = .returned (.bool r) ∧ Below w.heap.size w w' := by
 have hu28 := Try.underlying28
 have hu65 := Try.underlying65
 have HR0 := Aside0.mk hr0
 have HC0 := Aside0.mk hc0
 clear hr0 hc0
 have HB := Aside0.mk (Below.refl w.heap.size w)
 have H : ((laws_big.f l0).bind fun t332 => (if t332 = true then (some true) else ((spec_DrawInside.f k l0).bind fun bt333 => ((impl_Inside.f k (([(⟨(([(⟨0, 0⟩ : S28), (⟨4, 0⟩ : S28), (⟨0, 4⟩ : S28), (⟨0, 0⟩ : S28)] : List (S28))), false⟩ : S65)] : List (S65))) 1 1).bind fun t345 => (if t345 = 1 then ((impl_Inside.f k bt333.1 bt333.2.1 bt333.2.2).bind fun t346 => (if (bt333.1.length : Int) > 40 then (laws_FnEvenOdd.j0 k bt333.1 t346 true bt333.2.1 bt333.2.2) else ((impl_PointOk.f bt333.2.1 bt333.2.2).bind fun t347 => (laws_FnEvenOdd.j0 k bt333.1 t346 (!t347) bt333.2.1 bt333.2.2)))) else (some false)))))) = some r := h
 clear h
 replace H := Option.bind_eq_some_iff.mp H
 obtain ⟨t332, A20, H⟩ := H
 replace H : (if t332 = true then (some true) else ((spec_DrawInside.f k l0).bind fun bt333 => ((impl_Inside.f k (([(⟨(([(⟨0, 0⟩ : S28), (⟨4, 0⟩ : S28), (⟨0, 4⟩ : S28), (⟨0, 0⟩ : S28)] : List (S28))), false⟩ : S65)] : List (S65))) 1 1).bind fun t345 => (if t345 = 1 then ((impl_Inside.f k bt333.1 bt333.2.1 bt333.2.2).bind fun t346 => (if (bt333.1.length : Int) > 40 then (laws_FnEvenOdd.j0 k bt333.1 t346 true bt333.2.1 bt333.2.2) else ((impl_PointOk.f bt333.2.1 bt333.2.2).bind fun t347 => (laws_FnEvenOdd.j0 k bt333.1 t346 (!t347) bt333.2.1 bt333.2.2)))) else (some false))))) = some r := H
 have A2 := Aside0.mk A20
 clear A20
 by_cases c3 : t332 = true
 ·subst c3
  have H1 : (some true) = some r := by rw [if_pos rfl] at H; exact H
  clear H
  have H := H1
  clear H1
  obtain rfl := Option.some.inj H
  go_enter Try.func7, Try.ntmps7
  go_wp2_with (first | ((with_reducible refine gate_callee (f := 20) rfl ?_); refine goesL_ (some 11) rfl rfl Try.func20 (by kernel_rfl) rfl #[.slice A0 l0.length c0] rfl (by (try simp only [List.map_toArray, List.map_cons, List.map_nil]); first | done | rfl | (simp only [List.length_drop, List.length_take]; rfl)) ?_; (with_reducible refine (laws_big.calls _ _ l0 true _ ?side1 ?side2 A2.out).mono ?_); (case side1 => repeat (first | exact HR0.out | (with_reducible refine Kd.C_alloc ?_ _) | (with_reducible refine Kd.C_drewN ?_ _) | (with_reducible refine Kd.C_drew ?_))); (case side2 => exact HC0.out); rintro e w' ⟨rfl, ⟨nd, rfl⟩⟩; refine ⟨_, rfl, ?_⟩))
  go_ret
  exact ⟨by first | rfl | (simp [errW_none, errW_some] <;> rfl) | (simp [*, errW_none, errW_some] <;> rfl), by repeat (first | (with_reducible first | exact HB.out | apply below_alloc | apply pw_below_drewN | apply below_drew1) | exact HB.out)⟩
 replace c3 := Bool.eq_false_iff.mpr c3
 subst c3
 have H1 : ((spec_DrawInside.f k l0).bind fun bt333 => ((impl_Inside.f k (([(⟨(([(⟨0, 0⟩ : S28), (⟨4, 0⟩ : S28), (⟨0, 4⟩ : S28), (⟨0, 0⟩ : S28)] : List (S28))), false⟩ : S65)] : List (S65))) 1 1).bind fun t345 => (if t345 = 1 then ((impl_Inside.f k bt333.1 bt333.2.1 bt333.2.2).bind fun t346 => (if (bt333.1.length : Int) > 40 then (laws_FnEvenOdd.j0 k bt333.1 t346 true bt333.2.1 bt333.2.2) else ((impl_PointOk.f bt333.2.1 bt333.2.2).bind fun t347 => (laws_FnEvenOdd.j0 k bt333.1 t346 (!t347) bt333.2.1 bt333.2.2)))) else (some false)))) = some r := by rw [if_neg (show ¬ (false = true) by decide)] at H; exact H
 clear H
 have H := H1
 clear H1
 replace H := Option.bind_eq_some_iff.mp H
 obtain ⟨⟨t333, t336, t337⟩, A40, H⟩ := H
 replace H : ((impl_Inside.f k (([(⟨(([(⟨0, 0⟩ : S28), (⟨4, 0⟩ : S28), (⟨0, 4⟩ : S28), (⟨0, 0⟩ : S28)] : List (S28))), false⟩ : S65)] : List (S65))) 1 1).bind fun t345 => (if t345 = 1 then ((impl_Inside.f k t333 t336 t337).bind fun t346 => (if (t333.length : Int) > 40 then (laws_FnEvenOdd.j0 k t333 t346 true t336 t337) else ((impl_PointOk.f t336 t337).bind fun t347 => (laws_FnEvenOdd.j0 k t333 t346 (!t347) t336 t337)))) else (some false))) = some r := H
 have A4 := Aside0.mk A40
 clear A40
 obtain ⟨y339, hy339⟩ : ∃ y_ : List (S28), y_ = (([(⟨0, 0⟩ : S28), (⟨4, 0⟩ : S28), (⟨0, 4⟩ : S28), (⟨0, 0⟩ : S28)] : List (S28))) := ⟨_, rfl⟩
 replace H : ((impl_Inside.f k (([(⟨y339, false⟩ : S65)] : List (S65))) 1 1).bind fun t345 => (if t345 = 1 then ((impl_Inside.f k t333 t336 t337).bind fun t346 => (if (t333.length : Int) > 40 then (laws_FnEvenOdd.j0 k t333 t346 true t336 t337) else ((impl_PointOk.f t336 t337).bind fun t347 => (laws_FnEvenOdd.j0 k t333 t346 (!t347) t336 t337)))) else (some false))) = some r := by first | (rw [hy339]; with_reducible exact H) | (have H2_ := (Option.bind_some _ _).symm.trans H; rw [hy339]; with_reducible exact H2_) | (have H2_ := (Option.bind_some _ _).symm.trans H; with_reducible exact H2_) | with_reducible exact H | (rw [hy339]; exact H) | exact H
 have Ny339 := Aside0.mk hy339
 clear hy339
 obtain ⟨y342, hy342⟩ : ∃ y_ : List (S65), y_ = (([(⟨y339, false⟩ : S65)] : List (S65))) := ⟨_, rfl⟩
 replace H : ((impl_Inside.f k y342 1 1).bind fun t345 => (if t345 = 1 then ((impl_Inside.f k t333 t336 t337).bind fun t346 => (if (t333.length : Int) > 40 then (laws_FnEvenOdd.j0 k t333 t346 true t336 t337) else ((impl_PointOk.f t336 t337).bind fun t347 => (laws_FnEvenOdd.j0 k t333 t346 (!t347) t336 t337)))) else (some false))) = some r := by first | (rw [hy342]; with_reducible exact H) | (have H2_ := (Option.bind_some _ _).symm.trans H; rw [hy342]; with_reducible exact H2_) | (have H2_ := (Option.bind_some _ _).symm.trans H; with_reducible exact H2_) | with_reducible exact H | (rw [hy342]; exact H) | exact H
 have Ny342 := Aside0.mk hy342
 clear hy342
 replace H := Option.bind_eq_some_iff.mp H
 obtain ⟨t345, A50, H⟩ := H
 replace H : (if t345 = 1 then ((impl_Inside.f k t333 t336 t337).bind fun t346 => (if (t333.length : Int) > 40 then (laws_FnEvenOdd.j0 k t333 t346 true t336 t337) else ((impl_PointOk.f t336 t337).bind fun t347 => (laws_FnEvenOdd.j0 k t333 t346 (!t347) t336 t337)))) else (some false)) = some r := H
 have A5 := Aside0.mk A50
 clear A50
 by_cases c6 : t345 = 1
 rotate_left
 ·rw [if_neg c6] at H
  have c6b0 : (t345 == 1) = false := beq_eq_false_iff_ne.mpr c6
  have c6b1 : (t345 != 1) = true := bne_iff_ne.mpr c6
  obtain rfl := Option.some.inj H
  go_enter Try.func7, Try.ntmps7
  go_wp2_with (first | ((with_reducible refine gate_callee (f := 20) rfl ?_); refine goesL_ (some 11) rfl rfl Try.func20 (by kernel_rfl) rfl #[.slice A0 l0.length c0] rfl (by (try simp only [List.map_toArray, List.map_cons, List.map_nil]); first | done | rfl | (simp only [List.length_drop, List.length_take]; rfl)) ?_; (with_reducible refine (laws_big.calls _ _ l0 false _ ?side1 ?side2 A2.out).mono ?_); (case side1 => repeat (first | exact HR0.out | (with_reducible refine Kd.C_alloc ?_ _) | (with_reducible refine Kd.C_drewN ?_ _) | (with_reducible refine Kd.C_drew ?_))); (case side2 => exact HC0.out); rintro e w' ⟨rfl, ⟨nd, rfl⟩⟩; refine ⟨_, rfl, ?_⟩) | ((with_reducible refine gate_callee (f := 38) rfl ?_); refine goesL_ (some 14) rfl rfl Try.func38 (by kernel_rfl) rfl #[.slice A0 l0.length c0] rfl (by (try simp only [List.map_toArray, List.map_cons, List.map_nil]); first | done | rfl | (simp only [List.length_drop, List.length_take]; rfl)) ?_; (with_reducible refine (spec_DrawInside.calls k _ _ l0 t333 t336 t337 _ ?side1 ?side2 A4.out).mono ?_); (case side1 => repeat (first | exact HR0.out | (with_reducible refine Kd.C_alloc ?_ _) | (with_reducible refine Kd.C_drewN ?_ _) | (with_reducible refine Kd.C_drew ?_))); (case side2 => exact HC0.out); rintro e w59 ⟨v334, rfl, ho0, hb⟩; refine ⟨_, rfl, ?_⟩; (try (first | (have onev334_ := (Kd.R_val ho0).2; have stv334_ := fun (w_ : World) (a_ : Addr) => run_store Try.prog w_ a_ v334 .plain onev334_; clear onev334_) | (have onev334_ := (Kd.N_val ho0).2; have stv334_ := fun (w_ : World) (a_ : Addr) => run_store Try.prog w_ a_ v334 .plain onev334_; clear onev334_))); (try (first | (have hcv334_ := congrArg List.toArray (Kd.R_val ho0).1; simp only [Array.toArray_toList] at hcv334_; unfold Value.cells at hcv334_) | (have hcv334_ := congrArg List.toArray (Kd.N_val ho0).1; simp only [Array.toArray_toList] at hcv334_; unfold Value.cells at hcv334_))); have n0_ := Aside0.mk (Kd.N_lower (Kd.N_mono (ok' := fun k_ => True) (Kd.S_N (Kd.S_bound ho0)) (fun k_ hk_ => trivial)) (below_size (by repeat (first | (with_reducible first | exact HB.out | apply below_alloc | apply pw_below_drewN | apply below_drew1) | exact HB.out)))); have n1_ := Aside0.mk (below_step (by repeat (first | (with_reducible first | exact HB.out | apply below_alloc | apply pw_below_drewN | apply below_drew1) | exact HB.out)) hb); clear HB; have HO335 := n0_; have HB := n1_; clear n0_ n1_; (try clear hb); (try clear hb2); (try clear hk); (try clear hi); (try clear ho0)) | ((with_reducible refine gate_dst (N := 4) rfl ?_); (try (refine gate_guard (by rfl) ?_; dsimp only)); refine box_event ?hg (N := 4) ?hd (cs := #[.int .i64 0, .int .i64 0]) (t := 28) ?hr ?_; (case hd => rfl); (case hg => rfl); (case hr => first | (go_simp; done) | (go_simp; rfl)); intro gb338 hg w60 hbox hb; have n0_ := Aside0.mk (Kd.N_below (Kd.N_elderB (by (with_reducible repeat (first | apply Kd.N_alloc | apply Kd.N_drewN | apply Kd.N_drew)); exact HO335.out) gb338 (Nat.le_of_eq hg.symm)) hb); have n1_ := Aside0.mk (below_step (by repeat (first | (with_reducible first | exact HB.out | apply below_alloc | apply pw_below_drewN | apply below_drew1) | exact HB.out)) hb); have n2_ := Aside0.mk (hbox); have n3_ := Aside0.mk ((by rw [hg]; exact (below_size (by repeat (first | (with_reducible first | exact HB.out | apply below_alloc | apply pw_below_drewN | apply below_drew1) | exact HB.out))) : w.heap.size ≤ gb338)); have n4_ := Aside0.mk ((by rw [hg]; exact (below_size (by repeat (first | (with_reducible first | exact HB.out | apply below_alloc | apply pw_below_drewN | apply below_drew1) | exact HB.out))) : w.heap.size ≤ gb338)); clear HO335; clear HB; have HO335 := n0_; have HB := n1_; have BK338 := n2_; have GW338 := n3_; have GE338 := n4_; clear n0_ n1_ n2_ n3_ n4_; clear hb hbox hg; have hcz61_0 : w60.cell? ⟨gb338, 0, none⟩ = some (.int .i64 0) := (blk_cell BK338.out 0).trans rfl; have hcz61_1 : w60.cell? ⟨gb338, 1, none⟩ = some (.int .i64 0) := (blk_cell BK338.out 1).trans rfl; have hfz61_0 := blk_frozen BK338.out 0; have hfz61_1 := blk_frozen BK338.out 1) | ((with_reducible refine gate_dst (N := 21) rfl ?_); (try (refine gate_guard (by rfl) ?_; dsimp only)); refine Kd.R_lit k28 _ 28 ?hg (N := 21) ?hd (xs := ([(⟨0, 0⟩ : S28), (⟨4, 0⟩ : S28), (⟨0, 4⟩ : S28), (⟨0, 0⟩ : S28)] : List (S28))) (inner := [.int .i64 0, .int .i64 0, .int .i64 4, .int .i64 0, .int .i64 0, .int .i64 4, .int .i64 0, .int .i64 0]) (ok := fun _ => True) (okp := fun _ => True) ?hr ?hp (fun _ hk => hk) trivial (Below.refl _ _) (Nat.le_refl _) (by simp) ?_; (case hd => rfl); (case hg => rfl); (case hr => first | (go_simp; done) | (go_simp; rfl)); (case hp => exact (Reps.c2 (show Kd.M k28 _ _ _ (⟨0, 0⟩ : S28) [.int .i64 0, .int .i64 0] from (k28_mkM _ _ _ (⟨0, 0⟩ : S28) )) (Reps.c2 (show Kd.M k28 _ _ _ (⟨4, 0⟩ : S28) [.int .i64 4, .int .i64 0] from (k28_mkM _ _ _ (⟨4, 0⟩ : S28) )) (Reps.c2 (show Kd.M k28 _ _ _ (⟨0, 4⟩ : S28) [.int .i64 0, .int .i64 4] from (k28_mkM _ _ _ (⟨0, 4⟩ : S28) )) (Reps.c2 (show Kd.M k28 _ _ _ (⟨0, 0⟩ : S28) [.int .i64 0, .int .i64 0] from (k28_mkM _ _ _ (⟨0, 0⟩ : S28) )) (Reps.none _ _)))))); intro v340 w62 ho63 hb hg_ hnew_; clear hg_ hnew_; (first | rw [← Ny339.out] at ho63 | (simp only [Int.reduceToNat] at ho63; rw [← Ny339.out] at ho63)); have n0_ := Aside0.mk (Kd.N_elder' (by (with_reducible repeat (first | apply Kd.N_alloc | apply Kd.N_drewN | apply Kd.N_drew)); exact (Kd.N_mono (Kd.N_far (p := ⟨gb338, 1, none⟩) (Kd.N_far (p := ⟨gb338, 0, none⟩) (Kd.N_mono HO335.out (fun k_ hk => (⟨hk, hk.2⟩ : _ ∧ k_ ≠ gb338))) (fun _ hk => hk.2) (.int .i64 t336)) (fun _ hk => hk.2) (.int .i64 t337)) (fun _ h_ => h_.1))) (Kd.R_base ho63) hb); have n1_ := Aside0.mk (Kd.R_lower (Kd.R_newB ho63 (g := gb338) (o := .cells #[.int .i64 t336, .int .i64 t337] 28 (0, 0)) (by (with_reducible repeat (first | refine blk_drewN ?_ _ | refine blk_drew ?_ | refine blk_alloc ?_ _)); refine blk_put (cs := #[.int .i64 t336, .int .i64 0]) ?_ 1 _ rfl; (with_reducible repeat (first | refine blk_drewN ?_ _ | refine blk_drew ?_ | refine blk_alloc ?_ _)); refine blk_put (cs := #[.int .i64 0, .int .i64 0]) ?_ 0 _ rfl; (with_reducible repeat (first | refine blk_drewN ?_ _ | refine blk_drew ?_ | refine blk_alloc ?_ _)); exact BK338.out)) (below_size (by repeat (first | (with_reducible first | exact HB.out | apply below_alloc | apply pw_below_drewN | apply below_drew1 | refine below_set ?_ GE338.out) | exact HB.out)))); have n2_ := Aside0.mk (blk_below (g := gb338) (o := .cells #[.int .i64 t336, .int .i64 t337] 28 (0, 0)) (by (with_reducible repeat (first | refine blk_drewN ?_ _ | refine blk_drew ?_ | refine blk_alloc ?_ _)); refine blk_put (cs := #[.int .i64 t336, .int .i64 0]) ?_ 1 _ rfl; (with_reducible repeat (first | refine blk_drewN ?_ _ | refine blk_drew ?_ | refine blk_alloc ?_ _)); refine blk_put (cs := #[.int .i64 0, .int .i64 0]) ?_ 0 _ rfl; (with_reducible repeat (first | refine blk_drewN ?_ _ | refine blk_drew ?_ | refine blk_alloc ?_ _)); exact BK338.out) hb); have n3_ := Aside0.mk (below_step (by repeat (first | (with_reducible first | exact HB.out | apply below_alloc | apply pw_below_drewN | apply below_drew1 | refine below_set ?_ GE338.out) | exact HB.out)) hb); clear HO335; clear BK338; clear HB; have HO335 := n0_; have HO341 := n1_; have BK338 := n2_; have HB := n3_; clear n0_ n1_ n2_ n3_; clear hb ho63; obtain ⟨Ao64, co64, eo64⟩ := Kd.R_slice HO341.out; subst eo64) | ((with_reducible refine gate_dst (N := 23) rfl ?_); (try (refine gate_guard (by rfl) ?_; dsimp only)); refine Kd.N_lit k65 _ 65 ?hg (N' := 23) ?hd (xs := ([(⟨y339, false⟩ : S65)] : List (S65))) (inner := [.slice Ao64 y339.length co64, .bool false]) (ok := (fun k_ => some k_ ≠ (v334 : Value).ownBlock ∧ k_ ≠ gb338)) (okp := (fun k_ => some k_ ≠ (v334 : Value).ownBlock ∧ k_ ≠ gb338)) ?hr ?hp (fun _ hk => hk) ((show ∀ k_, w62.heap.size ≤ k_ → (fun k_ => some k_ ≠ (v334 : Value).ownBlock ∧ k_ ≠ gb338) k_ from fun k_ hk => ⟨Kd.fresh' (Kd.N_lt (by (with_reducible repeat (first | apply Kd.N_alloc | apply Kd.N_drewN | apply Kd.N_drew)); exact HO335.out)) k_ hk, Kd.freshB (g := gb338) (o := .cells #[.int .i64 t336, .int .i64 t337] 28 (0, 0)) (by (with_reducible repeat (first | refine blk_drewN ?_ _ | refine blk_drew ?_ | refine blk_alloc ?_ _)); exact BK338.out) k_ hk⟩) _ (Nat.le_refl _)) (Below.refl _ _) (Nat.le_refl _) (by simp) ?_; (case hd => rfl); (case hg => rfl); (case hr => first | (go_simp; done) | (go_simp; rfl)); (case hp => exact (Reps.c2 (show Kd.FK k65 _ _ (⟨y339, false⟩ : S65) [.slice Ao64 y339.length co64, .bool false] from (k65_mkF _ _ (⟨y339, false⟩ : S65) (Kd.R_reads' (Kd.R_mono (ok' := (fun k_ => some k_ ≠ (v334 : Value).ownBlock ∧ k_ ≠ gb338)) (Kd.R_apart' (HO341.out) (Kd.N_typed HO335.out) (by decide)) (fun k_ hk => ⟨hk.2, hk.1.2⟩))).2.1 (Kd.R_F (Kd.R_mono (ok' := (fun k_ => some k_ ≠ (v334 : Value).ownBlock ∧ k_ ≠ gb338)) (Kd.R_apart' (HO341.out) (Kd.N_typed HO335.out) (by decide)) (fun k_ hk => ⟨hk.2, hk.1.2⟩))))) (Reps.none _ _))); intro v343 w65 ho66 hb hg_ hnew_; clear hg_ hnew_; (first | rw [← Ny342.out] at ho66 | (simp only [Int.reduceToNat] at ho66; rw [← Ny342.out] at ho66)); have n0_ := Aside0.mk (Kd.N_elder' (by (with_reducible repeat (first | apply Kd.N_alloc | apply Kd.N_drewN | apply Kd.N_drew)); exact HO335.out) (Kd.N_base ho66) hb); have n1_ := Aside0.mk (Kd.N_lower ho66 (below_size (by repeat (first | (with_reducible first | exact HB.out | apply below_alloc | apply pw_below_drewN | apply below_drew1 | refine below_set ?_ GE338.out) | exact HB.out)))); have n2_ := Aside0.mk (blk_below (g := gb338) (o := .cells #[.int .i64 t336, .int .i64 t337] 28 (0, 0)) (by (with_reducible repeat (first | refine blk_drewN ?_ _ | refine blk_drew ?_ | refine blk_alloc ?_ _)); exact BK338.out) hb); have n3_ := Aside0.mk (below_step (by repeat (first | (with_reducible first | exact HB.out | apply below_alloc | apply pw_below_drewN | apply below_drew1 | refine below_set ?_ GE338.out) | exact HB.out)) hb); clear HO335; clear BK338; clear HB; clear HO341; have HO335 := n0_; have HO344 := n1_; have BK338 := n2_; have HB := n3_; clear n0_ n1_ n2_ n3_; clear hb ho66; obtain ⟨Ao67, co67, eo67⟩ := Kd.N_slice HO344.out; subst eo67) | ((with_reducible refine gate_callee (f := 39) rfl ?_); refine goesL_ (some 25) rfl rfl Try.func39 (by kernel_rfl) rfl #[.slice Ao67 y342.length co67, .agg #[.int .i64 1, .int .i64 1]] rfl (by (try simp only [List.map_toArray, List.map_cons, List.map_nil]); first | done | rfl | (simp only [List.length_drop, List.length_take]; rfl)) ?_; (with_reducible refine (impl_Inside.calls k _ _ y342 1 1 t345 _ ?side1 ?side2 A5.out).mono ?_); (case side1 => repeat (first | exact (Kd.N_reads' HO344.out).2.2 | (with_reducible refine Kd.C_alloc ?_ _) | (with_reducible refine Kd.C_drewN ?_ _) | (with_reducible refine Kd.C_drew ?_))); (case side2 => exact (Kd.N_reads' HO344.out).2.1); rintro e w68 ⟨rfl, hb⟩; refine ⟨_, rfl, ?_⟩; have n0_ := Aside0.mk (Kd.N_below (by (with_reducible repeat (first | apply Kd.N_alloc | apply Kd.N_drewN | apply Kd.N_drew)); exact HO335.out) hb); have n1_ := Aside0.mk (Kd.N_below (by (with_reducible repeat (first | apply Kd.N_alloc | apply Kd.N_drewN | apply Kd.N_drew)); exact HO344.out) hb); have n2_ := Aside0.mk (blk_below (g := gb338) (o := .cells #[.int .i64 t336, .int .i64 t337] 28 (0, 0)) (by (with_reducible repeat (first | refine blk_drewN ?_ _ | refine blk_drew ?_ | refine blk_alloc ?_ _)); exact BK338.out) hb); have n3_ := Aside0.mk (below_step (by repeat (first | (with_reducible first | exact HB.out | apply below_alloc | apply pw_below_drewN | apply below_drew1 | refine below_set ?_ GE338.out) | exact HB.out)) hb); clear HO335; clear HO344; clear BK338; clear HB; have HO335 := n0_; have HO344 := n1_; have BK338 := n2_; have HB := n3_; clear n0_ n1_ n2_ n3_; (try clear hb); (try clear hb2); (try clear hk); (try clear hi)))
  go_ret
  exact ⟨by first | rfl | (simp [errW_none, errW_some] <;> rfl) | (simp [*, errW_none, errW_some] <;> rfl), by repeat (first | (with_reducible first | exact HB.out | apply below_alloc | apply pw_below_drewN | apply below_drew1 | refine below_set ?_ GE338.out) | exact HB.out)⟩

 rw [if_pos c6] at H
 have c6b0 : (t345 == 1) = true := beq_iff_eq.mpr c6
 have c6b1 : (t345 != 1) = false := bne_eq_false_iff_eq.mpr c6
 clear c6
 replace H := Option.bind_eq_some_iff.mp H
 obtain ⟨t346, A70, H⟩ := H
 replace H : (if (t333.length : Int) > 40 then (laws_FnEvenOdd.j0 k t333 t346 true t336 t337) else ((impl_PointOk.f t336 t337).bind fun t347 => (laws_FnEvenOdd.j0 k t333 t346 (!t347) t336 t337))) = some r := H
 have A7 := Aside0.mk A70
 clear A70
 have HC8 := Aside0.mk H
 clear H
 go_enter Try.func7, Try.ntmps7
 go_upto_region 7 with (first | ((with_reducible refine gate_callee (f := 20) rfl ?_); refine goesL_ (some 11) rfl rfl Try.func20 (by kernel_rfl) rfl #[.slice A0 l0.length c0] rfl (by (try simp only [List.map_toArray, List.map_cons, List.map_nil]); first | done | rfl | (simp only [List.length_drop, List.length_take]; rfl)) ?_; (with_reducible refine (laws_big.calls _ _ l0 false _ ?side1 ?side2 A2.out).mono ?_); (case side1 => repeat (first | exact HR0.out | (with_reducible refine Kd.C_alloc ?_ _) | (with_reducible refine Kd.C_drewN ?_ _) | (with_reducible refine Kd.C_drew ?_))); (case side2 => exact HC0.out); rintro e w' ⟨rfl, ⟨nd, rfl⟩⟩; refine ⟨_, rfl, ?_⟩) | ((with_reducible refine gate_callee (f := 38) rfl ?_); refine goesL_ (some 14) rfl rfl Try.func38 (by kernel_rfl) rfl #[.slice A0 l0.length c0] rfl (by (try simp only [List.map_toArray, List.map_cons, List.map_nil]); first | done | rfl | (simp only [List.length_drop, List.length_take]; rfl)) ?_; (with_reducible refine (spec_DrawInside.calls k _ _ l0 t333 t336 t337 _ ?side1 ?side2 A4.out).mono ?_); (case side1 => repeat (first | exact HR0.out | (with_reducible refine Kd.C_alloc ?_ _) | (with_reducible refine Kd.C_drewN ?_ _) | (with_reducible refine Kd.C_drew ?_))); (case side2 => exact HC0.out); rintro e w9 ⟨v334, rfl, ho0, hb⟩; refine ⟨_, rfl, ?_⟩; (try (first | (have onev334_ := (Kd.R_val ho0).2; have stv334_ := fun (w_ : World) (a_ : Addr) => run_store Try.prog w_ a_ v334 .plain onev334_; clear onev334_) | (have onev334_ := (Kd.N_val ho0).2; have stv334_ := fun (w_ : World) (a_ : Addr) => run_store Try.prog w_ a_ v334 .plain onev334_; clear onev334_))); (try (first | (have hcv334_ := congrArg List.toArray (Kd.R_val ho0).1; simp only [Array.toArray_toList] at hcv334_; unfold Value.cells at hcv334_) | (have hcv334_ := congrArg List.toArray (Kd.N_val ho0).1; simp only [Array.toArray_toList] at hcv334_; unfold Value.cells at hcv334_))); have n0_ := Aside0.mk (Kd.N_lower (Kd.N_mono (ok' := fun k_ => True) (Kd.S_N (Kd.S_bound ho0)) (fun k_ hk_ => trivial)) (below_size (by repeat (first | (with_reducible first | exact HB.out | apply below_alloc | apply pw_below_drewN | apply below_drew1) | exact HB.out)))); have n1_ := Aside0.mk (below_step (by repeat (first | (with_reducible first | exact HB.out | apply below_alloc | apply pw_below_drewN | apply below_drew1) | exact HB.out)) hb); clear HB; have HO335 := n0_; have HB := n1_; clear n0_ n1_; (try clear hb); (try clear hb2); (try clear hk); (try clear hi); (try clear ho0)) | ((with_reducible refine gate_dst (N := 4) rfl ?_); (try (refine gate_guard (by rfl) ?_; dsimp only)); refine box_event ?hg (N := 4) ?hd (cs := #[.int .i64 0, .int .i64 0]) (t := 28) ?hr ?_; (case hd => rfl); (case hg => rfl); (case hr => first | (go_simp; done) | (go_simp; rfl)); intro gb338 hg w10 hbox hb; have n0_ := Aside0.mk (Kd.N_below (Kd.N_elderB (by (with_reducible repeat (first | apply Kd.N_alloc | apply Kd.N_drewN | apply Kd.N_drew)); exact HO335.out) gb338 (Nat.le_of_eq hg.symm)) hb); have n1_ := Aside0.mk (below_step (by repeat (first | (with_reducible first | exact HB.out | apply below_alloc | apply pw_below_drewN | apply below_drew1) | exact HB.out)) hb); have n2_ := Aside0.mk (hbox); have n3_ := Aside0.mk ((by rw [hg]; exact (below_size (by repeat (first | (with_reducible first | exact HB.out | apply below_alloc | apply pw_below_drewN | apply below_drew1) | exact HB.out))) : w.heap.size ≤ gb338)); have n4_ := Aside0.mk ((by rw [hg]; exact (below_size (by repeat (first | (with_reducible first | exact HB.out | apply below_alloc | apply pw_below_drewN | apply below_drew1) | exact HB.out))) : w.heap.size ≤ gb338)); clear HO335; clear HB; have HO335 := n0_; have HB := n1_; have BK338 := n2_; have GW338 := n3_; have GE338 := n4_; clear n0_ n1_ n2_ n3_ n4_; clear hb hbox hg; have hcz11_0 : w10.cell? ⟨gb338, 0, none⟩ = some (.int .i64 0) := (blk_cell BK338.out 0).trans rfl; have hcz11_1 : w10.cell? ⟨gb338, 1, none⟩ = some (.int .i64 0) := (blk_cell BK338.out 1).trans rfl; have hfz11_0 := blk_frozen BK338.out 0; have hfz11_1 := blk_frozen BK338.out 1) | ((with_reducible refine gate_dst (N := 21) rfl ?_); (try (refine gate_guard (by rfl) ?_; dsimp only)); refine Kd.R_lit k28 _ 28 ?hg (N := 21) ?hd (xs := ([(⟨0, 0⟩ : S28), (⟨4, 0⟩ : S28), (⟨0, 4⟩ : S28), (⟨0, 0⟩ : S28)] : List (S28))) (inner := [.int .i64 0, .int .i64 0, .int .i64 4, .int .i64 0, .int .i64 0, .int .i64 4, .int .i64 0, .int .i64 0]) (ok := fun _ => True) (okp := fun _ => True) ?hr ?hp (fun _ hk => hk) trivial (Below.refl _ _) (Nat.le_refl _) (by simp) ?_; (case hd => rfl); (case hg => rfl); (case hr => first | (go_simp; done) | (go_simp; rfl)); (case hp => exact (Reps.c2 (show Kd.M k28 _ _ _ (⟨0, 0⟩ : S28) [.int .i64 0, .int .i64 0] from (k28_mkM _ _ _ (⟨0, 0⟩ : S28) )) (Reps.c2 (show Kd.M k28 _ _ _ (⟨4, 0⟩ : S28) [.int .i64 4, .int .i64 0] from (k28_mkM _ _ _ (⟨4, 0⟩ : S28) )) (Reps.c2 (show Kd.M k28 _ _ _ (⟨0, 4⟩ : S28) [.int .i64 0, .int .i64 4] from (k28_mkM _ _ _ (⟨0, 4⟩ : S28) )) (Reps.c2 (show Kd.M k28 _ _ _ (⟨0, 0⟩ : S28) [.int .i64 0, .int .i64 0] from (k28_mkM _ _ _ (⟨0, 0⟩ : S28) )) (Reps.none _ _)))))); intro v340 w12 ho13 hb hg_ hnew_; clear hg_ hnew_; (first | rw [← Ny339.out] at ho13 | (simp only [Int.reduceToNat] at ho13; rw [← Ny339.out] at ho13)); have n0_ := Aside0.mk (Kd.N_elder' (by (with_reducible repeat (first | apply Kd.N_alloc | apply Kd.N_drewN | apply Kd.N_drew)); exact (Kd.N_mono (Kd.N_far (p := ⟨gb338, 1, none⟩) (Kd.N_far (p := ⟨gb338, 0, none⟩) (Kd.N_mono HO335.out (fun k_ hk => (⟨hk, hk.2⟩ : _ ∧ k_ ≠ gb338))) (fun _ hk => hk.2) (.int .i64 t336)) (fun _ hk => hk.2) (.int .i64 t337)) (fun _ h_ => h_.1))) (Kd.R_base ho13) hb); have n1_ := Aside0.mk (Kd.R_lower (Kd.R_newB ho13 (g := gb338) (o := .cells #[.int .i64 t336, .int .i64 t337] 28 (0, 0)) (by (with_reducible repeat (first | refine blk_drewN ?_ _ | refine blk_drew ?_ | refine blk_alloc ?_ _)); refine blk_put (cs := #[.int .i64 t336, .int .i64 0]) ?_ 1 _ rfl; (with_reducible repeat (first | refine blk_drewN ?_ _ | refine blk_drew ?_ | refine blk_alloc ?_ _)); refine blk_put (cs := #[.int .i64 0, .int .i64 0]) ?_ 0 _ rfl; (with_reducible repeat (first | refine blk_drewN ?_ _ | refine blk_drew ?_ | refine blk_alloc ?_ _)); exact BK338.out)) (below_size (by repeat (first | (with_reducible first | exact HB.out | apply below_alloc | apply pw_below_drewN | apply below_drew1 | refine below_set ?_ GE338.out) | exact HB.out)))); have n2_ := Aside0.mk (blk_below (g := gb338) (o := .cells #[.int .i64 t336, .int .i64 t337] 28 (0, 0)) (by (with_reducible repeat (first | refine blk_drewN ?_ _ | refine blk_drew ?_ | refine blk_alloc ?_ _)); refine blk_put (cs := #[.int .i64 t336, .int .i64 0]) ?_ 1 _ rfl; (with_reducible repeat (first | refine blk_drewN ?_ _ | refine blk_drew ?_ | refine blk_alloc ?_ _)); refine blk_put (cs := #[.int .i64 0, .int .i64 0]) ?_ 0 _ rfl; (with_reducible repeat (first | refine blk_drewN ?_ _ | refine blk_drew ?_ | refine blk_alloc ?_ _)); exact BK338.out) hb); have n3_ := Aside0.mk (below_step (by repeat (first | (with_reducible first | exact HB.out | apply below_alloc | apply pw_below_drewN | apply below_drew1 | refine below_set ?_ GE338.out) | exact HB.out)) hb); clear HO335; clear BK338; clear HB; have HO335 := n0_; have HO341 := n1_; have BK338 := n2_; have HB := n3_; clear n0_ n1_ n2_ n3_; clear hb ho13; obtain ⟨Ao14, co14, eo14⟩ := Kd.R_slice HO341.out; subst eo14) | ((with_reducible refine gate_dst (N := 23) rfl ?_); (try (refine gate_guard (by rfl) ?_; dsimp only)); refine Kd.N_lit k65 _ 65 ?hg (N' := 23) ?hd (xs := ([(⟨y339, false⟩ : S65)] : List (S65))) (inner := [.slice Ao14 y339.length co14, .bool false]) (ok := (fun k_ => some k_ ≠ (v334 : Value).ownBlock ∧ k_ ≠ gb338)) (okp := (fun k_ => some k_ ≠ (v334 : Value).ownBlock ∧ k_ ≠ gb338)) ?hr ?hp (fun _ hk => hk) ((show ∀ k_, w12.heap.size ≤ k_ → (fun k_ => some k_ ≠ (v334 : Value).ownBlock ∧ k_ ≠ gb338) k_ from fun k_ hk => ⟨Kd.fresh' (Kd.N_lt (by (with_reducible repeat (first | apply Kd.N_alloc | apply Kd.N_drewN | apply Kd.N_drew)); exact HO335.out)) k_ hk, Kd.freshB (g := gb338) (o := .cells #[.int .i64 t336, .int .i64 t337] 28 (0, 0)) (by (with_reducible repeat (first | refine blk_drewN ?_ _ | refine blk_drew ?_ | refine blk_alloc ?_ _)); exact BK338.out) k_ hk⟩) _ (Nat.le_refl _)) (Below.refl _ _) (Nat.le_refl _) (by simp) ?_; (case hd => rfl); (case hg => rfl); (case hr => first | (go_simp; done) | (go_simp; rfl)); (case hp => exact (Reps.c2 (show Kd.FK k65 _ _ (⟨y339, false⟩ : S65) [.slice Ao14 y339.length co14, .bool false] from (k65_mkF _ _ (⟨y339, false⟩ : S65) (Kd.R_reads' (Kd.R_mono (ok' := (fun k_ => some k_ ≠ (v334 : Value).ownBlock ∧ k_ ≠ gb338)) (Kd.R_apart' (HO341.out) (Kd.N_typed HO335.out) (by decide)) (fun k_ hk => ⟨hk.2, hk.1.2⟩))).2.1 (Kd.R_F (Kd.R_mono (ok' := (fun k_ => some k_ ≠ (v334 : Value).ownBlock ∧ k_ ≠ gb338)) (Kd.R_apart' (HO341.out) (Kd.N_typed HO335.out) (by decide)) (fun k_ hk => ⟨hk.2, hk.1.2⟩))))) (Reps.none _ _))); intro v343 w15 ho16 hb hg_ hnew_; clear hg_ hnew_; (first | rw [← Ny342.out] at ho16 | (simp only [Int.reduceToNat] at ho16; rw [← Ny342.out] at ho16)); have n0_ := Aside0.mk (Kd.N_elder' (by (with_reducible repeat (first | apply Kd.N_alloc | apply Kd.N_drewN | apply Kd.N_drew)); exact HO335.out) (Kd.N_base ho16) hb); have n1_ := Aside0.mk (Kd.N_lower ho16 (below_size (by repeat (first | (with_reducible first | exact HB.out | apply below_alloc | apply pw_below_drewN | apply below_drew1 | refine below_set ?_ GE338.out) | exact HB.out)))); have n2_ := Aside0.mk (blk_below (g := gb338) (o := .cells #[.int .i64 t336, .int .i64 t337] 28 (0, 0)) (by (with_reducible repeat (first | refine blk_drewN ?_ _ | refine blk_drew ?_ | refine blk_alloc ?_ _)); exact BK338.out) hb); have n3_ := Aside0.mk (below_step (by repeat (first | (with_reducible first | exact HB.out | apply below_alloc | apply pw_below_drewN | apply below_drew1 | refine below_set ?_ GE338.out) | exact HB.out)) hb); clear HO335; clear BK338; clear HB; clear HO341; have HO335 := n0_; have HO344 := n1_; have BK338 := n2_; have HB := n3_; clear n0_ n1_ n2_ n3_; clear hb ho16; obtain ⟨Ao17, co17, eo17⟩ := Kd.N_slice HO344.out; subst eo17) | ((with_reducible refine gate_callee (f := 39) rfl ?_); refine goesL_ (some 25) rfl rfl Try.func39 (by kernel_rfl) rfl #[.slice Ao17 y342.length co17, .agg #[.int .i64 1, .int .i64 1]] rfl (by (try simp only [List.map_toArray, List.map_cons, List.map_nil]); first | done | rfl | (simp only [List.length_drop, List.length_take]; rfl)) ?_; (with_reducible refine (impl_Inside.calls k _ _ y342 1 1 t345 _ ?side1 ?side2 A5.out).mono ?_); (case side1 => repeat (first | exact (Kd.N_reads' HO344.out).2.2 | (with_reducible refine Kd.C_alloc ?_ _) | (with_reducible refine Kd.C_drewN ?_ _) | (with_reducible refine Kd.C_drew ?_))); (case side2 => exact (Kd.N_reads' HO344.out).2.1); rintro e w18 ⟨rfl, hb⟩; refine ⟨_, rfl, ?_⟩; have n0_ := Aside0.mk (Kd.N_below (by (with_reducible repeat (first | apply Kd.N_alloc | apply Kd.N_drewN | apply Kd.N_drew)); exact HO335.out) hb); have n1_ := Aside0.mk (Kd.N_below (by (with_reducible repeat (first | apply Kd.N_alloc | apply Kd.N_drewN | apply Kd.N_drew)); exact HO344.out) hb); have n2_ := Aside0.mk (blk_below (g := gb338) (o := .cells #[.int .i64 t336, .int .i64 t337] 28 (0, 0)) (by (with_reducible repeat (first | refine blk_drewN ?_ _ | refine blk_drew ?_ | refine blk_alloc ?_ _)); exact BK338.out) hb); have n3_ := Aside0.mk (below_step (by repeat (first | (with_reducible first | exact HB.out | apply below_alloc | apply pw_below_drewN | apply below_drew1 | refine below_set ?_ GE338.out) | exact HB.out)) hb); clear HO335; clear HO344; clear BK338; clear HB; have HO335 := n0_; have HO344 := n1_; have BK338 := n2_; have HB := n3_; clear n0_ n1_ n2_ n3_; (try clear hb); (try clear hb2); (try clear hk); (try clear hi); have hcz19_0 : w18.cell? ⟨gb338, 0, none⟩ = some (.int .i64 t336) := (blk_cell BK338.out 0).trans rfl; have hcz19_1 : w18.cell? ⟨gb338, 1, none⟩ = some (.int .i64 t337) := (blk_cell BK338.out 1).trans rfl; have hfz19_0 := blk_frozen BK338.out 0; have hfz19_1 := blk_frozen BK338.out 1; obtain ⟨Ao20, co20, eo20⟩ := Kd.N_slice HO335.out; subst eo20) | ((with_reducible refine gate_callee (f := 39) rfl ?_); refine goesL_ (some 29) rfl rfl Try.func39 (by kernel_rfl) rfl #[.slice Ao20 t333.length co20, .agg #[.int .i64 t336, .int .i64 t337]] rfl (by (try simp only [List.map_toArray, List.map_cons, List.map_nil]); first | done | rfl | (simp only [List.length_drop, List.length_take]; rfl)) ?_; (with_reducible refine (impl_Inside.calls k _ _ t333 t336 t337 t346 _ ?side1 ?side2 A7.out).mono ?_); (case side1 => repeat (first | exact (Kd.N_reads' HO335.out).2.2 | (with_reducible refine Kd.C_alloc ?_ _) | (with_reducible refine Kd.C_drewN ?_ _) | (with_reducible refine Kd.C_drew ?_))); (case side2 => exact (Kd.N_reads' HO335.out).2.1); rintro e w21 ⟨rfl, hb⟩; refine ⟨_, rfl, ?_⟩; have n0_ := Aside0.mk (Kd.N_below (by (with_reducible repeat (first | apply Kd.N_alloc | apply Kd.N_drewN | apply Kd.N_drew)); exact HO335.out) hb); have n1_ := Aside0.mk (Kd.N_below (by (with_reducible repeat (first | apply Kd.N_alloc | apply Kd.N_drewN | apply Kd.N_drew)); exact HO344.out) hb); have n2_ := Aside0.mk (blk_below (g := gb338) (o := .cells #[.int .i64 t336, .int .i64 t337] 28 (0, 0)) (by (with_reducible repeat (first | refine blk_drewN ?_ _ | refine blk_drew ?_ | refine blk_alloc ?_ _)); exact BK338.out) hb); have n3_ := Aside0.mk (below_step (by repeat (first | (with_reducible first | exact HB.out | apply below_alloc | apply pw_below_drewN | apply below_drew1 | refine below_set ?_ GE338.out) | exact HB.out)) hb); clear HO335; clear HO344; clear BK338; clear HB; have HO335 := n0_; have HO344 := n1_; have BK338 := n2_; have HB := n3_; clear n0_ n1_ n2_ n3_; (try clear hb); (try clear hb2); (try clear hk); (try clear hi)))
 (try simp only [Act.put, List.setIfInBounds_toArray, List.set_cons_zero, List.set_cons_succ])
 go_cut [37] (fun v37 wc => ∃ (kq : Nat) (x37_7 : Bool), v37 = .bool x37_7 ∧ Aside0 (laws_FnEvenOdd.j0 kq t333 t346 x37_7 t336 t337 = some r) ∧ Aside0 (kq ≤ k) ∧ Aside0 (Kd.N k65 65 wc w.heap.size (fun k_ => k_ ≠ gb338) (.slice Ao20 t333.length co20) t333) ∧ Aside0 (wc.heap[gb338]? = some (.cells #[.int .i64 t336, .int .i64 t337] 28 (0, 0))) ∧ Aside0 (Below w.heap.size w wc))
 case first =>
  have H := HC8.out
  clear HC8
  by_cases c22 : (t333.length : Int) > 40
  ·rw [if_pos c22] at H
   have c22b0 : decide (40 < (t333.length : Int)) = true := decide_eq_true c22
   have c22b1 : decide (40 < t333.length) = true := decide_eq_true (by omega)
   clear c22
   (first | rw [c22b0] | (simp only [i64_w, i32_w]; rw [c22b0]) | rw [c22b1] | skip)
   have H' := Aside0.mk H
   clear H
   go_wp2
   go_meet
   case rel => exact ⟨_, (true), (by first | rfl | (simp; done) | (simp [*]; done)), H', ⟨by first | omega | exact Nat.le_refl _⟩, ⟨by (with_reducible repeat (first | apply Kd.N_alloc | apply Kd.N_drewN | apply Kd.N_drew)); exact Kd.N_mono HO335.out (fun _ hk => hk.1.1.2)⟩, ⟨by (with_reducible repeat (first | refine blk_drewN ?_ _ | refine blk_drew ?_ | refine blk_alloc ?_ _)); exact BK338.out⟩, ⟨by repeat (first | (with_reducible first | exact HB.out | apply below_alloc | apply pw_below_drewN | apply below_drew1 | refine below_set ?_ GE338.out) | exact HB.out)⟩⟩
  rw [if_neg c22] at H
  have c22b0 : decide (40 < (t333.length : Int)) = false := decide_eq_false c22
  have c22b1 : decide (40 < t333.length) = false := decide_eq_false (by omega)
  clear c22
  (first | rw [c22b0] | (simp only [i64_w, i32_w]; rw [c22b0]) | rw [c22b1] | skip)
  replace H := Option.bind_eq_some_iff.mp H
  obtain ⟨t347, A230, H⟩ := H
  replace H : (laws_FnEvenOdd.j0 k t333 t346 (!t347) t336 t337) = some r := H
  have A23 := Aside0.mk A230
  clear A230
  have H' := Aside0.mk H
  clear H
  have hcz24_0 : w21.cell? ⟨gb338, 0, none⟩ = some (.int .i64 t336) := (blk_cell BK338.out 0).trans rfl
  have hcz24_1 : w21.cell? ⟨gb338, 1, none⟩ = some (.int .i64 t337) := (blk_cell BK338.out 1).trans rfl
  have hfz24_0 := blk_frozen BK338.out 0
  have hfz24_1 := blk_frozen BK338.out 1
  go_wp2_with (first | (go_at_call 23; (with_reducible refine (impl_PointOk.calls t336 t337 t347 _ A23.out).mono ?_); rintro e w25 ⟨rfl, hb⟩; have n0_ := Aside0.mk (Kd.N_below (by (with_reducible repeat (first | apply Kd.N_alloc | apply Kd.N_drewN | apply Kd.N_drew)); exact HO335.out) hb); have n1_ := Aside0.mk (Kd.N_below (by (with_reducible repeat (first | apply Kd.N_alloc | apply Kd.N_drewN | apply Kd.N_drew)); exact HO344.out) hb); have n2_ := Aside0.mk (blk_below (g := gb338) (o := .cells #[.int .i64 t336, .int .i64 t337] 28 (0, 0)) (by (with_reducible repeat (first | refine blk_drewN ?_ _ | refine blk_drew ?_ | refine blk_alloc ?_ _)); exact BK338.out) hb); have n3_ := Aside0.mk (below_step (by repeat (first | (with_reducible first | exact HB.out | apply below_alloc | apply pw_below_drewN | apply below_drew1 | refine below_set ?_ GE338.out) | exact HB.out)) hb); clear HO335; clear HO344; clear BK338; clear HB; have HO335 := n0_; have HO344 := n1_; have BK338 := n2_; have HB := n3_; clear n0_ n1_ n2_ n3_; (try clear hb); (try clear hb2); (try clear hk); (try clear hi)))
  go_meet
  case rel => exact ⟨_, (!t347), (by first | rfl | (simp; done) | (simp [*]; done)), H', ⟨by first | omega | exact Nat.le_refl _⟩, ⟨by (with_reducible repeat (first | apply Kd.N_alloc | apply Kd.N_drewN | apply Kd.N_drew)); exact Kd.N_mono HO335.out (fun _ hk => hk.1.1.2)⟩, ⟨by (with_reducible repeat (first | refine blk_drewN ?_ _ | refine blk_drew ?_ | refine blk_alloc ?_ _)); exact BK338.out⟩, ⟨by repeat (first | (with_reducible first | exact HB.out | apply below_alloc | apply pw_below_drewN | apply below_drew1 | refine below_set ?_ GE338.out) | exact HB.out)⟩⟩
 case rest =>
  clear HC8
  try clear c2
  try clear p2
  try clear c3
  try clear c6
  try clear c6b0
  try clear c6b1
  try clear c7
  try clear c20
  try clear c22
  try clear c22b0
  try clear c22b1
  try clear hcz11_0
  try clear hcz11_1
  try clear hcz19_0
  try clear hcz19_1
  try clear hcz24_0
  try clear hcz24_1
  try clear hfz11_0
  try clear hfz11_1
  try clear hfz19_0
  try clear hfz19_1
  try clear hfz24_0
  try clear hfz24_1
  obtain ⟨kq, x37_7, rfl, HA, HJ7, HO_3, BK338, HB⟩ := hcut
  cases kq with
  | zero => exact absurd HA.out (by simp [laws_FnEvenOdd.j0])
  | succ kj7 =>
   have H := HA.out
   clear HA
   simp only [laws_FnEvenOdd.j0] at H
   by_cases c26 : x37_7 = true
   ·subst c26
    have H1 : (some (t346 == (-1))) = some r := by rw [if_pos rfl] at H; exact H
    clear H
    have H := H1
    clear H1
    obtain rfl := Option.some.inj H
    go_wp2
    go_ret
    exact ⟨by first | rfl | (simp [errW_none, errW_some] <;> rfl) | (simp [*, errW_none, errW_some] <;> rfl), by repeat (first | (with_reducible first | exact HB.out | apply below_alloc | apply pw_below_drewN | apply below_drew1 | refine below_set ?_ GE338.out) | exact HB.out)⟩
   replace c26 := Bool.eq_false_iff.mpr c26
   subst c26
   have H1 : (laws_FnEvenOdd.l0 kj7 t333 t346 (-1) false 0 t336 t337) = some r := by rw [if_neg (show ¬ (false = true) by decide)] at H; exact H
   clear H
   have H := H1
   clear H1
   have H' := Aside0.mk H
   clear H
   go_wp2
   go_loopg [6, 7, 8] kj7 (fun kq v6 v7 v8 w' => ∃ (x6_2 : Int) (x7_2 : Bool) (x8_2 : Int), v6 = .int .i64 x6_2 ∧ v7 = .bool x7_2 ∧ v8 = .int .i64 x8_2 ∧ Aside0 (laws_FnEvenOdd.l0 kq t333 t346 x6_2 x7_2 x8_2 t336 t337 = some r) ∧ Aside0 (kq ≤ kj7) ∧ Aside0 (Kd.N k65 65 w' w.heap.size (fun k_ => k_ ≠ gb338) (.slice Ao20 t333.length co20) t333) ∧ Aside0 (w'.heap[gb338]? = some (.cells #[.int .i64 t336, .int .i64 t337] 28 (0, 0))) ∧ Aside0 (Below w.heap.size w w'))
   case atStart => exact ⟨((-1)), (false), (0), (by first | rfl | (simp; done) | (simp [*]; done)), (by first | rfl | (simp; done) | (simp [*]; done)), (by first | rfl | (simp; done) | (simp [*]; done)), H', ⟨Nat.le_refl _⟩, ⟨by (with_reducible repeat (first | apply Kd.N_alloc | apply Kd.N_drewN | apply Kd.N_drew)); exact HO_3.out⟩, ⟨by (with_reducible repeat (first | refine blk_drewN ?_ _ | refine blk_drew ?_ | refine blk_alloc ?_ _)); exact BK338.out⟩, ⟨by repeat (first | (with_reducible first | exact HB.out | apply below_alloc | apply pw_below_drewN | apply below_drew1 | refine below_set ?_ GE338.out) | exact HB.out)⟩⟩
   case round =>
    clear H'
    try clear c2
    try clear p2
    try clear c3
    try clear c6
    try clear c6b0
    try clear c6b1
    try clear c7
    try clear c20
    try clear c22
    try clear c22b0
    try clear c22b1
    try clear c26
    try clear hcz11_0
    try clear hcz11_1
    try clear hcz19_0
    try clear hcz19_1
    try clear hcz24_0
    try clear hcz24_1
    try clear hfz11_0
    try clear hfz11_1
    try clear hfz19_0
    try clear hfz19_1
    try clear hfz24_0
    try clear hfz24_1
    try clear p2
    obtain ⟨x6_2, x7_2, x8_2, rfl, rfl, rfl, HA, HK2, HO_3, BK338, HB⟩ := hrel
    cases gk with
    | zero => exact absurd HA.out (by simp [laws_FnEvenOdd.l0])
    | succ k2 =>
     have H := HA.out
     clear HA
     simp only [laws_FnEvenOdd.l0] at H
     by_cases c27 : x8_2 < (t333.length : Int)
     rotate_left
     ·rw [if_neg c27] at H
      have c27b0 : decide (x8_2 < (t333.length : Int)) = false := decide_eq_false c27
      clear c27
      by_cases c58 : x7_2 = true
      ·subst c58
       have H1 : (some (t346 == 0)) = some r := by rw [if_pos rfl] at H; exact H
       clear H
       have H := H1
       clear H1
       obtain rfl := Option.some.inj H
       go_wp2
       go_ret
       exact ⟨by first | rfl | (simp [errW_none, errW_some] <;> rfl) | (simp [*, errW_none, errW_some] <;> rfl), by repeat (first | (with_reducible first | exact HB.out | apply below_alloc | apply pw_below_drewN | apply below_drew1 | refine below_set ?_ GE338.out) | exact HB.out)⟩
      replace c58 := Bool.eq_false_iff.mpr c58
      subst c58
      have H1 : (some (t346 == x6_2)) = some r := by rw [if_neg (show ¬ (false = true) by decide)] at H; exact H
      clear H
      have H := H1
      clear H1
      obtain rfl := Option.some.inj H
      go_wp2
      go_ret
      exact ⟨by first | rfl | (simp [errW_none, errW_some] <;> rfl) | (simp [*, errW_none, errW_some] <;> rfl), by repeat (first | (with_reducible first | exact HB.out | apply below_alloc | apply pw_below_drewN | apply below_drew1 | refine below_set ?_ GE338.out) | exact HB.out)⟩
     rw [if_pos c27] at H
     have c27b0 : decide (x8_2 < (t333.length : Int)) = true := decide_eq_true c27
     clear c27
     have HC28 := Aside0.mk H
     clear H
     go_upto_region 14 with (fail)
     go_cut [61] (fun v61 wc => ∃ (kq : Nat) (x61_27 : Bool), v61 = .bool x61_27 ∧ Aside0 (laws_FnEvenOdd.j2 kq t333 t346 x6_2 x7_2 x8_2 x61_27 t336 t337 = some r) ∧ Aside0 (kq ≤ k2) ∧ Aside0 (Kd.N k65 65 wc w.heap.size (fun k_ => k_ ≠ gb338) (.slice Ao20 t333.length co20) t333) ∧ Aside0 (wc.heap[gb338]? = some (.cells #[.int .i64 t336, .int .i64 t337] 28 (0, 0))) ∧ Aside0 (Below w.heap.size w wc))
     case first =>
      have H := HC28.out
      clear HC28
      by_cases c29 : 0 ≤ x8_2
      rotate_left
      ·rw [if_neg c29] at H
       exact absurd H (by simp)
      rw [if_pos c29] at H
      have c29b0 : decide (0 ≤ x8_2) = true := decide_eq_true c29
      clear c29
      (first | rw [c29b0] | (simp only [i64_w, i32_w]; rw [c29b0]) | rw [c29b1] | skip)
      replace H := Option.bind_eq_some_iff.mp H
      obtain ⟨t349, A300, H⟩ := H
      replace H : (if t349 = true then (laws_FnEvenOdd.j2 k2 t333 t346 x6_2 x7_2 x8_2 (decide ((((rd_T65 t333 x8_2).f0).length : Int) > 2000)) t336 t337) else (laws_FnEvenOdd.j2 k2 t333 t346 x6_2 x7_2 x8_2 true t336 t337)) = some r := H
      have A30 := Aside0.mk A300
      clear A300
      by_cases c31 : t349 = true
      rotate_left
      ·replace c31 := Bool.eq_false_iff.mpr c31
       subst c31
       have H1 : (laws_FnEvenOdd.j2 k2 t333 t346 x6_2 x7_2 x8_2 true t336 t337) = some r := by rw [if_neg (show ¬ (false = true) by decide)] at H; exact H
       clear H
       have H := H1
       clear H1
       have H' := Aside0.mk H
       clear H
       have p348 : 0 ≤ (x8_2 : Int) := of_decide_eq_true (by first | (with_reducible assumption) | assumption)
       have q348 : x8_2 < (t333.length : Int) := of_decide_eq_true (by first | (with_reducible assumption) | assumption)
       obtain ⟨ad348, A348_0, c348_0, e348, hx348_0, hx348_1, hl348_0, hi348_0⟩ := at_T65 (Kd.N_reads' HO_3.out).2.2 x8_2 p348 q348
       cases e348
       obtain ⟨ce348, hce348, hMe348, hcc348⟩ := Kd.N_get HO_3.out z65 x8_2 p348 (by first | exact q348 | exact of_decide_eq_true (by first | (with_reducible assumption) | assumption) | (have e_ := (Kd.N_reads' HO_3.out).1; omega))
       obtain ⟨ua348_0, uc348_0, rfl, ul348_0, ge348_0⟩ := k65_openF hMe348
       have hv348_0 := hcc348 0 _ rfl
       rw [Nat.add_zero] at hv348_0
       replace hv348_0 := Option.some.inj (hv348_0.symm.trans hx348_0)
       injection hv348_0 with hva_ hvn_ hvc_
       rw [hva_] at ge348_0
       rw [hvc_] at ul348_0
       have HL348_0 := Aside0.mk (show Kd.V k28 28 _ w.heap.size _ _ ((rd_T65 t333 x8_2).f0) from Kd.V_mk ul348_0 ge348_0)
       clear hva_ hvn_ hvc_ ge348_0 ul348_0
       clear hcc348 hce348
       have HR348_0 := Aside0.mk hi348_0
       have HC348_0 := Aside0.mk hl348_0
       clear hi348_0 hl348_0
       replace p348 := eq_true p348
       replace q348 := eq_true q348
       go_wp2_with (first | ((with_reducible refine gate_callee (f := 40) rfl ?_); refine goesL_ (some 51) rfl rfl Try.func40 (by kernel_rfl) rfl #[.slice A348_0 ((rd_T65 t333 x8_2).f0).length c348_0] rfl (by (try simp only [List.map_toArray, List.map_cons, List.map_nil]); first | done | rfl | (simp only [List.length_drop, List.length_take]; rfl)) ?_; (with_reducible refine (laws_allOk.calls k2 _ _ ((rd_T65 t333 x8_2).f0) false _ ?side1 ?side2 A30.out).mono ?_); (case side1 => repeat (first | exact (by repeat (first | (with_reducible exact HR348_0.out) | (with_reducible refine Kd.C_alloc ?_ _) | (with_reducible refine Kd.C_drewN ?_ _) | (with_reducible refine Kd.C_drew ?_) | exact HR348_0.out | exact (Kd.R_reads' HL348_0.out).2.2)) | (with_reducible refine Kd.C_alloc ?_ _) | (with_reducible refine Kd.C_drewN ?_ _) | (with_reducible refine Kd.C_drew ?_))); (case side2 => exact HC348_0.out); rintro e w33 ⟨rfl, hb⟩; refine ⟨_, rfl, ?_⟩; have n0_ := Aside0.mk (Kd.N_below (by (with_reducible repeat (first | apply Kd.N_alloc | apply Kd.N_drewN | apply Kd.N_drew)); exact HO_3.out) hb); have n1_ := Aside0.mk (Kd.V_below (by (with_reducible repeat (first | apply Kd.V_alloc | apply Kd.V_drewN | apply Kd.V_drew)); exact HL348_0.out) hb); have n2_ := Aside0.mk (blk_below (g := gb338) (o := .cells #[.int .i64 t336, .int .i64 t337] 28 (0, 0)) (by (with_reducible repeat (first | refine blk_drewN ?_ _ | refine blk_drew ?_ | refine blk_alloc ?_ _)); exact BK338.out) hb); have n3_ := Aside0.mk (Kd.C_below (by repeat (first | (with_reducible exact HR348_0.out) | (with_reducible refine Kd.C_alloc ?_ _) | (with_reducible refine Kd.C_drewN ?_ _) | (with_reducible refine Kd.C_drew ?_) | exact HR348_0.out | exact (Kd.R_reads' HL348_0.out).2.2)) hb); have n4_ := Aside0.mk (below_step (by repeat (first | (with_reducible first | exact HB.out | apply below_alloc | apply pw_below_drewN | apply below_drew1 | refine below_set ?_ GE338.out) | exact HB.out)) hb); clear HO_3; clear HL348_0; clear BK338; clear HR348_0; clear HB; have HO_3 := n0_; have HL348_0 := n1_; have BK338 := n2_; have HR348_0 := n3_; have HB := n4_; clear n0_ n1_ n2_ n3_ n4_; (try clear hb); (try clear hb2); (try clear hk); (try clear hi)))
       go_meet
       case rel => exact ⟨_, (true), (by first | rfl | (simp; done) | (simp [*]; done)), H', ⟨by have := HJ7.out; have := HK2.out; first | omega | exact Nat.le_refl _⟩, ⟨by (with_reducible repeat (first | apply Kd.N_alloc | apply Kd.N_drewN | apply Kd.N_drew)); exact HO_3.out⟩, ⟨by (with_reducible repeat (first | refine blk_drewN ?_ _ | refine blk_drew ?_ | refine blk_alloc ?_ _)); exact BK338.out⟩, ⟨by repeat (first | (with_reducible first | exact HB.out | apply below_alloc | apply pw_below_drewN | apply below_drew1 | refine below_set ?_ GE338.out) | exact HB.out)⟩⟩
      subst c31
      have H1 : (laws_FnEvenOdd.j2 k2 t333 t346 x6_2 x7_2 x8_2 (decide ((((rd_T65 t333 x8_2).f0).length : Int) > 2000)) t336 t337) = some r := by rw [if_pos rfl] at H; exact H
      clear H
      have H := H1
      clear H1
      have H' := Aside0.mk H
      clear H
      have p348 : 0 ≤ (x8_2 : Int) := of_decide_eq_true (by first | (with_reducible assumption) | assumption)
      have q348 : x8_2 < (t333.length : Int) := of_decide_eq_true (by first | (with_reducible assumption) | assumption)
      obtain ⟨ad348, A348_0, c348_0, e348, hx348_0, hx348_1, hl348_0, hi348_0⟩ := at_T65 (Kd.N_reads' HO_3.out).2.2 x8_2 p348 q348
      cases e348
      obtain ⟨ce348, hce348, hMe348, hcc348⟩ := Kd.N_get HO_3.out z65 x8_2 p348 (by first | exact q348 | exact of_decide_eq_true (by first | (with_reducible assumption) | assumption) | (have e_ := (Kd.N_reads' HO_3.out).1; omega))
      obtain ⟨ua348_0, uc348_0, rfl, ul348_0, ge348_0⟩ := k65_openF hMe348
      have hv348_0 := hcc348 0 _ rfl
      rw [Nat.add_zero] at hv348_0
      replace hv348_0 := Option.some.inj (hv348_0.symm.trans hx348_0)
      injection hv348_0 with hva_ hvn_ hvc_
      rw [hva_] at ge348_0
      rw [hvc_] at ul348_0
      have HL348_0 := Aside0.mk (show Kd.V k28 28 _ w.heap.size _ _ ((rd_T65 t333 x8_2).f0) from Kd.V_mk ul348_0 ge348_0)
      clear hva_ hvn_ hvc_ ge348_0 ul348_0
      clear hcc348 hce348
      have HR348_0 := Aside0.mk hi348_0
      have HC348_0 := Aside0.mk hl348_0
      clear hi348_0 hl348_0
      replace p348 := eq_true p348
      replace q348 := eq_true q348
      go_wp2_with (first | ((with_reducible refine gate_callee (f := 40) rfl ?_); refine goesL_ (some 51) rfl rfl Try.func40 (by kernel_rfl) rfl #[.slice A348_0 ((rd_T65 t333 x8_2).f0).length c348_0] rfl (by (try simp only [List.map_toArray, List.map_cons, List.map_nil]); first | done | rfl | (simp only [List.length_drop, List.length_take]; rfl)) ?_; (with_reducible refine (laws_allOk.calls k2 _ _ ((rd_T65 t333 x8_2).f0) true _ ?side1 ?side2 A30.out).mono ?_); (case side1 => repeat (first | exact (by repeat (first | (with_reducible exact HR348_0.out) | (with_reducible refine Kd.C_alloc ?_ _) | (with_reducible refine Kd.C_drewN ?_ _) | (with_reducible refine Kd.C_drew ?_) | exact HR348_0.out | exact (Kd.R_reads' HL348_0.out).2.2)) | (with_reducible refine Kd.C_alloc ?_ _) | (with_reducible refine Kd.C_drewN ?_ _) | (with_reducible refine Kd.C_drew ?_))); (case side2 => exact HC348_0.out); rintro e w32 ⟨rfl, hb⟩; refine ⟨_, rfl, ?_⟩; have n0_ := Aside0.mk (Kd.N_below (by (with_reducible repeat (first | apply Kd.N_alloc | apply Kd.N_drewN | apply Kd.N_drew)); exact HO_3.out) hb); have n1_ := Aside0.mk (Kd.V_below (by (with_reducible repeat (first | apply Kd.V_alloc | apply Kd.V_drewN | apply Kd.V_drew)); exact HL348_0.out) hb); have n2_ := Aside0.mk (blk_below (g := gb338) (o := .cells #[.int .i64 t336, .int .i64 t337] 28 (0, 0)) (by (with_reducible repeat (first | refine blk_drewN ?_ _ | refine blk_drew ?_ | refine blk_alloc ?_ _)); exact BK338.out) hb); have n3_ := Aside0.mk (Kd.C_below (by repeat (first | (with_reducible exact HR348_0.out) | (with_reducible refine Kd.C_alloc ?_ _) | (with_reducible refine Kd.C_drewN ?_ _) | (with_reducible refine Kd.C_drew ?_) | exact HR348_0.out | exact (Kd.R_reads' HL348_0.out).2.2)) hb); have n4_ := Aside0.mk (below_step (by repeat (first | (with_reducible first | exact HB.out | apply below_alloc | apply pw_below_drewN | apply below_drew1 | refine below_set ?_ GE338.out) | exact HB.out)) hb); clear HO_3; clear HL348_0; clear BK338; clear HR348_0; clear HB; have HO_3 := n0_; have HL348_0 := n1_; have BK338 := n2_; have HR348_0 := n3_; have HB := n4_; clear n0_ n1_ n2_ n3_ n4_; (try clear hb); (try clear hb2); (try clear hk); (try clear hi); have p350 : 0 ≤ (x8_2 : Int) := of_decide_eq_true (by first | (with_reducible assumption) | assumption); have q350 : x8_2 < (t333.length : Int) := of_decide_eq_true (by first | (with_reducible assumption) | assumption); obtain ⟨ad350, A350_0, c350_0, e350, hx350_0, hx350_1, hl350_0, hi350_0⟩ := at_T65 (Kd.N_reads' HO_3.out).2.2 x8_2 p350 q350; obtain rfl : ad348 = ad350 := (by injection e350); obtain ⟨ce350, hce350, hMe350, hcc350⟩ := Kd.N_get HO_3.out z65 x8_2 p350 (by first | exact q350 | exact of_decide_eq_true (by first | (with_reducible assumption) | assumption) | (have e_ := (Kd.N_reads' HO_3.out).1; omega)); obtain ⟨ua350_0, uc350_0, rfl, ul350_0, ge350_0⟩ := k65_openF hMe350; have hv350_0 := hcc350 0 _ rfl; rw [Nat.add_zero] at hv350_0; replace hv350_0 := Option.some.inj (hv350_0.symm.trans hx350_0); injection hv350_0 with hva_ hvn_ hvc_; rw [hva_] at ge350_0; rw [hvc_] at ul350_0; have HL350_0 := Aside0.mk (show Kd.V k28 28 _ w.heap.size _ _ ((rd_T65 t333 x8_2).f0) from Kd.V_mk ul350_0 ge350_0); clear hva_ hvn_ hvc_ ge350_0 ul350_0; clear hcc350 hce350; have HR350_0 := Aside0.mk hi350_0; have HC350_0 := Aside0.mk hl350_0; clear hi350_0 hl350_0; replace p350 := eq_true p350; replace q350 := eq_true q350))
      go_meet
      case rel => exact ⟨_, (decide ((((rd_T65 t333 x8_2).f0).length : Int) > 2000)), (by first | rfl | (simp; done) | (simp [*]; done)), H', ⟨by have := HJ7.out; have := HK2.out; first | omega | exact Nat.le_refl _⟩, ⟨by (with_reducible repeat (first | apply Kd.N_alloc | apply Kd.N_drewN | apply Kd.N_drew)); exact HO_3.out⟩, ⟨by (with_reducible repeat (first | refine blk_drewN ?_ _ | refine blk_drew ?_ | refine blk_alloc ?_ _)); exact BK338.out⟩, ⟨by repeat (first | (with_reducible first | exact HB.out | apply below_alloc | apply pw_below_drewN | apply below_drew1 | refine below_set ?_ GE338.out) | exact HB.out)⟩⟩
     case rest =>
      clear HC28
      try clear c2
      try clear p2
      try clear c3
      try clear p3
      try clear q3
      try clear hx3
      try clear c4
      try clear c6
      try clear c6b0
      try clear c6b1
      try clear c7
      try clear c20
      try clear c22
      try clear c22b0
      try clear c22b1
      try clear c26
      try clear c27
      try clear c27b0
      try clear c29
      try clear c29b0
      try clear c31
      try clear hcz11_0
      try clear hcz11_1
      try clear hcz19_0
      try clear hcz19_1
      try clear hcz24_0
      try clear hcz24_1
      try clear hfz11_0
      try clear hfz11_1
      try clear hfz19_0
      try clear hfz19_1
      try clear hfz24_0
      try clear hfz24_1
      try clear hx348_0
      try clear hx348_1
      try clear hx350_0
      try clear hx350_1
      try clear p2
      try clear p348
      try clear p350
      try clear q348
      try clear q350
      obtain ⟨kq, x61_27, rfl, HA, HJ27, HO_3, BK338, HB⟩ := hcut
      cases kq with
      | zero => exact absurd HA.out (by simp [laws_FnEvenOdd.j2])
      | succ kj27 =>
       have H := HA.out
       clear HA
       simp only [laws_FnEvenOdd.j2] at H
       by_cases c34 : x61_27 = true
       ·subst c34
        have H1 : (some (t346 == (-1))) = some r := by rw [if_pos rfl] at H; exact H
        clear H
        have H := H1
        clear H1
        obtain rfl := Option.some.inj H
        go_wp2
        go_ret
        exact ⟨by first | rfl | (simp [errW_none, errW_some] <;> rfl) | (simp [*, errW_none, errW_some] <;> rfl), by repeat (first | (with_reducible first | exact HB.out | apply below_alloc | apply pw_below_drewN | apply below_drew1 | refine below_set ?_ GE338.out) | exact HB.out)⟩
       replace c34 := Bool.eq_false_iff.mpr c34
       subst c34
       have H1 : (if 0 ≤ x8_2 then (if x8_2 ≤ (wrap64 (x8_2 + 1)) then (if (wrap64 (x8_2 + 1)) ≤ (t333.length : Int) then ((impl_Inside.f kj27 ((t333.take ((wrap64 (x8_2 + 1)) : Int).toNat).drop (x8_2 : Int).toNat) t336 t337).bind fun t356 => (if x7_2 = true then (laws_FnEvenOdd.j3 kj27 t333 t346 x6_2 true x8_2 t356 t336 t337) else (laws_FnEvenOdd.j3 kj27 t333 t346 x6_2 (t356 == 0) x8_2 t356 t336 t337))) else (none)) else (none)) else (none)) = some r := by rw [if_neg (show ¬ (false = true) by decide)] at H; exact H
       clear H
       have H := H1
       clear H1
       by_cases c35 : 0 ≤ x8_2
       rotate_left
       ·rw [if_neg c35] at H
        exact absurd H (by simp)
       rw [if_pos c35] at H
       have c35b0 := eq_true c35
       have c35b1 : decide (0 ≤ x8_2) = true := decide_eq_true c35
       clear c35
       by_cases c36 : x8_2 ≤ (wrap64 (x8_2 + 1))
       rotate_left
       ·rw [if_neg c36] at H
        exact absurd H (by simp)
       rw [if_pos c36] at H
       have c36b0 := eq_true c36
       have c36b1 : decide (x8_2 ≤ (wrap64 (x8_2 + 1))) = true := decide_eq_true c36
       by_cases c37 : (wrap64 (x8_2 + 1)) ≤ (t333.length : Int)
       rotate_left
       ·rw [if_neg c37] at H
        exact absurd H (by simp)
       rw [if_pos c37] at H
       have c37b0 := eq_true c37
       have c37b1 : decide ((wrap64 (x8_2 + 1)) ≤ (t333.length : Int)) = true := decide_eq_true c37
       obtain ⟨y351, hy351⟩ : ∃ y_ : List (S65), y_ = ((t333.take ((wrap64 (x8_2 + 1)) : Int).toNat).drop (x8_2 : Int).toNat) := ⟨_, rfl⟩
       replace H : ((impl_Inside.f kj27 y351 t336 t337).bind fun t356 => (if x7_2 = true then (laws_FnEvenOdd.j3 kj27 t333 t346 x6_2 true x8_2 t356 t336 t337) else (laws_FnEvenOdd.j3 kj27 t333 t346 x6_2 (t356 == 0) x8_2 t356 t336 t337))) = some r := by first | (rw [hy351]; with_reducible exact H) | (have H2_ := (Option.bind_some _ _).symm.trans H; rw [hy351]; with_reducible exact H2_) | (have H2_ := (Option.bind_some _ _).symm.trans H; with_reducible exact H2_) | with_reducible exact H | (rw [hy351]; exact H) | exact H
       have Ny351 := Aside0.mk hy351
       clear hy351
       replace H := Option.bind_eq_some_iff.mp H
       obtain ⟨t356, A380, H⟩ := H
       replace H : (if x7_2 = true then (laws_FnEvenOdd.j3 kj27 t333 t346 x6_2 true x8_2 t356 t336 t337) else (laws_FnEvenOdd.j3 kj27 t333 t346 x6_2 (t356 == 0) x8_2 t356 t336 t337)) = some r := H
       have A38 := Aside0.mk A380
       clear A380
       have HC39 := Aside0.mk H
       clear H
       try go_wp2
       have n0_ := Aside0.mk (Kd.N_drew HO_3.out)
       have n1_ := Aside0.mk (blk_drew BK338.out)
       have n2_ := Aside0.mk (below_drew1 HB.out)
       clear HO_3
       clear BK338
       clear HB
       have HO_3 := n0_
       have BK338 := n1_
       have HB := n2_
       clear n0_ n1_ n2_
       have q41 : ((wrap64 (x8_2 + 1)) : Int) ≤ ((t333.length : Int) : Int) := of_decide_eq_true (by first | (with_reducible assumption) | assumption)
       obtain ⟨i041, hi041, _, hsz41, _⟩ := info_parts info65
       have hroom41 : t333.length ≤ co20 := (Kd.N_reads' HO_3.out).2.1
       have hC41 : Kd.F k65 _ _ Ao20 t333.length t333 := (Kd.V_at (base := w.heap.size) (Kd.N_V HO_3.out)).2.2
       have ql41 : (x8_2 : Int) ≤ ((wrap64 (x8_2 + 1)) : Int) := of_decide_eq_true (by first | (with_reducible assumption) | assumption)
       have q041 : (0 : Int) ≤ (x8_2 : Int) := of_decide_eq_true (by first | (with_reducible assumption) | assumption)
       have hcut41 := cut_mid (P := Try.prog) 60 65 .i64 .i64 Try.underlying60 hi041 2 hsz41 Ao20 t333.length co20 x8_2 (wrap64 (x8_2 + 1)) q041 ql41 q41 hroom41
       have hr41 := Kd.F_mid (lo := (x8_2 : Int).toNat) (hi := ((wrap64 (x8_2 + 1)) : Int).toNat) (c := co20) hC41 (by omega) (by omega) hroom41
       obtain ⟨A41, hA41⟩ : ∃ A1, A1 = (if co20 = (x8_2 : Int).toNat then Ao20 else (Ao20 : Option Addr).map (·.add ((x8_2 : Int).toNat * 2))) := ⟨_, rfl⟩
       obtain ⟨c41, hc41⟩ : ∃ c1, c1 = co20 - (x8_2 : Int).toNat := ⟨_, rfl⟩
       have hy41 : y351.length = ((wrap64 (x8_2 + 1)) : Int).toNat - (x8_2 : Int).toNat := (by rw [Ny351.out, List.length_drop, List.length_take] <;> omega)
       rw [show ((t333).take ((wrap64 (x8_2 + 1)) : Int).toNat).drop (x8_2 : Int).toNat = y351 from Ny351.out.symm] at hr41
       replace hr41 : Kd.F k65 _ _ A41 y351.length y351 := (by rw [hA41]; exact hr41)
       rw [← hy41, ← hA41, ← hc41] at hcut41
       have HO355 := Aside0.mk (show Kd.V k65 65 _ w.heap.size _ (.slice A41 y351.length c41) y351 from Kd.V_mk (by rw [hy41, hc41]; exact Nat.sub_le_sub_right (Nat.le_trans (by omega) hroom41) _) hr41)
       have HC355 := Aside0.mk (show y351.length ≤ c41 from by rw [hy41, hc41]; exact Nat.sub_le_sub_right (Nat.le_trans (by omega) hroom41) _)
       clear hr41 hC41 hroom41 hi041 hsz41 hc41
       have KY41 := Aside0.mk hy41
       have KA41 := Aside0.mk hA41
       clear hy41 hA41
       replace q41 := eq_true q41
       refine start_ (n := 8) (S := fun w' => w'.cell? ⟨gb338, 0, none⟩ = some (.int .i64 t336) ∧ w'.cell? ⟨gb338, 1, none⟩ = some (.int .i64 t337)) (ds := []) #[false, false, false, false, false, false, false, false] (by kernel_rfl) rfl rfl ⟨(blk_cell BK338.out 0).trans rfl, (blk_cell BK338.out 1).trans rfl⟩ (fun hHeld => ?_); refine with_tabW laws_FnEvenOdd.tab16 laws_FnEvenOdd.bits16 (fun HT_ HW_ => ?_)
       generalize wc.drew = w40 at HO_3 BK338 HB HO355 hHeld ⊢
       refine pure_ (i := 0) (N := some 64) (v := ?_) (a' := ?_) #[true, false, false, false, false, false, false, false] rfl rfl (any_of HT_.out (by kernel_rfl)) (fun _ _ _ h => h) (Or.inl ⟨by rfl, ?_⟩) ?_ ?_
       rotate_left
       ·intro w'
        go_simp
        with_reducible rfl
       rotate_left
       ·simp only [Act.put, List.setIfInBounds_toArray, List.set_cons_zero, List.set_cons_succ, i64_w, i32_w]
        rfl
       refine pure_ (i := 1) (N := some 65) (v := ?_) (a' := ?_) #[true, true, false, false, false, false, false, false] rfl rfl (any_of HT_.out (by kernel_rfl)) (fun _ _ _ h => h) (Or.inl ⟨by rfl, ?_⟩) ?_ ?_
       rotate_left
       ·intro w'
        go_simp
        with_reducible rfl
       rotate_left
       ·simp only [Act.put, List.setIfInBounds_toArray, List.set_cons_zero, List.set_cons_succ, i64_w, i32_w]
        rfl
       refine pure_ (i := 2) (N := some 66) (v := ?_) (a' := ?_) #[true, true, true, false, false, false, false, false] rfl rfl (any_of HT_.out (by kernel_rfl)) (fun _ _ _ h => h) (Or.inl ⟨by rfl, ?_⟩) ?_ ?_
       rotate_left
       ·intro w'
        go_simp
        with_reducible rfl
       rotate_left
       ·simp only [Act.put, List.setIfInBounds_toArray, List.set_cons_zero, List.set_cons_succ, i64_w, i32_w]
        rfl
       refine pure_ (i := 3) (N := some 67) (v := ?_) (a' := ?_) #[true, true, true, true, false, false, false, false] rfl rfl (any_of HT_.out (by kernel_rfl)) (fun _ _ _ h => h) (Or.inl ⟨by rfl, ?_⟩) ?_ ?_
       rotate_left
       ·intro w'
        go_simp
        with_reducible rfl
       rotate_left
       ·simp only [Act.put, List.setIfInBounds_toArray, List.set_cons_zero, List.set_cons_succ, i64_w, i32_w]
        rfl
       refine pure_ (i := 4) (N := some 68) (v := ?_) (a' := ?_) #[true, true, true, true, true, false, false, false] rfl rfl (any_of HT_.out (by kernel_rfl)) (fun _ _ _ h => h) (Or.inl ⟨by rfl, ?_⟩) ?_ ?_
       rotate_left
       ·intro w'
        go_simp
        with_reducible rfl
       rotate_left
       ·simp only [Act.put, List.setIfInBounds_toArray, List.set_cons_zero, List.set_cons_succ, i64_w, i32_w]
        rfl
       refine take_ (i := 5) (N := some 69) (v := ?_) (a' := ?_) #[true, true, true, true, true, true, false, false] rfl rfl (take_ofW HT_.out HW_.out (by kernel_rfl)) (fun _ _ _ h => h) (Or.inl ⟨by rfl, ?_⟩) hHeld ?_ ?_
       rotate_left
       ·rintro w' ⟨s0, s1⟩
        go_simp
        with_reducible rfl
       rotate_left
       ·simp only [Act.put, List.setIfInBounds_toArray, List.set_cons_zero, List.set_cons_succ, i64_w, i32_w]
        rfl
       refine one_ (i := 6) (N := some 70) #[true, true, true, true, true, true, true, false] rfl rfl (one_of HT_.out (by kernel_rfl)) (by decide) (fun K hK => ?_)
       refine goes_ Try.func39 (by kernel_rfl) rfl #[.slice A41 y351.length c41, .agg #[.int .i64 t336, .int .i64 t337]] (by rfl) rfl rfl (by (try simp only [List.map_toArray, List.map_cons, List.map_nil]); first | done | rfl | (simp only [List.length_drop, List.length_take]; rfl)) ?_
       with_reducible refine (impl_Inside.calls kj27 _ _ y351 t336 t337 t356 _ ?side1 ?side2 A38.out).mono ?_
       (case side1 => repeat (first | exact (Kd.V_reads' HO355.out).2.2 | (with_reducible refine Kd.C_alloc ?_ _) | (with_reducible refine Kd.C_drewN ?_ _) | (with_reducible refine Kd.C_drew ?_)))
       (case side2 => exact (Kd.V_reads' HO355.out).2.1)
       rintro e w42 ⟨rfl, hb⟩
       refine ⟨_, rfl, ?_⟩
       have n0_ := Aside0.mk (Kd.N_below (by (with_reducible repeat (first | apply Kd.N_alloc | apply Kd.N_drewN | apply Kd.N_drew)); exact HO_3.out) hb)
       have n1_ := Aside0.mk (Kd.V_below (by (with_reducible repeat (first | apply Kd.V_alloc | apply Kd.V_drewN | apply Kd.V_drew)); exact HO355.out) hb)
       have n2_ := Aside0.mk (blk_below (g := gb338) (o := .cells #[.int .i64 t336, .int .i64 t337] 28 (0, 0)) (by (with_reducible repeat (first | refine blk_drewN ?_ _ | refine blk_drew ?_ | refine blk_alloc ?_ _)); exact BK338.out) hb)
       have n3_ := Aside0.mk (below_step (by repeat (first | (with_reducible first | exact HB.out | apply below_alloc | apply pw_below_drewN | apply below_drew1 | refine below_set ?_ GE338.out) | exact HB.out)) hb)
       clear HO_3
       clear HO355
       clear BK338
       clear HB
       have HO_3 := n0_
       have HO355 := n1_
       have BK338 := n2_
       have HB := n3_
       clear n0_ n1_ n2_ n3_
       (try clear hb)
       (try clear hb2)
       (try clear hk)
       (try clear hi)
       refine hK.out _ _ ⟨(blk_cell BK338.out 0).trans rfl, (blk_cell BK338.out 1).trans rfl⟩ (fun hHeld => ?_)
       clear hK K
       refine norm_ (a' := ?_) ?_ ?_
       rotate_left
       ·show Act.put _ (some 70) _ = _
        simp only [Act.put, List.setIfInBounds_toArray, List.set_cons_zero, List.set_cons_succ, i64_w, i32_w]
        rfl
       refine pure_ (i := 7) (N := some 9) (v := ?_) (a' := ?_) #[true, true, true, true, true, true, true, true] rfl rfl (any_of HT_.out (by kernel_rfl)) (fun _ _ _ h => h) (Or.inl ⟨by rfl, ?_⟩) ?_ ?_
       rotate_left
       ·intro w'
        go_simp
        with_reducible rfl
       rotate_left
       ·simp only [Act.put, List.setIfInBounds_toArray, List.set_cons_zero, List.set_cons_succ, i64_w, i32_w]
        rfl
       refine done_ (done_of HT_.out (by kernel_rfl)) ?_
       go_upto_region 17 with (fail)
       go_cut [7] (fun v7 wc => ∃ (kq : Nat) (x7_38 : Bool), v7 = .bool x7_38 ∧ Aside0 (laws_FnEvenOdd.j3 kq t333 t346 x6_2 x7_38 x8_2 t356 t336 t337 = some r) ∧ Aside0 (kq ≤ kj27) ∧ Aside0 (Kd.N k65 65 wc w.heap.size (fun k_ => k_ ≠ gb338) (.slice Ao20 t333.length co20) t333) ∧ Aside0 (wc.heap[gb338]? = some (.cells #[.int .i64 t336, .int .i64 t337] 28 (0, 0))) ∧ Aside0 (Below w.heap.size w wc))
       case first =>
        have H := HC39.out
        clear HC39
        by_cases c43 : x7_2 = true
        ·subst c43
         have H1 : (laws_FnEvenOdd.j3 kj27 t333 t346 x6_2 true x8_2 t356 t336 t337) = some r := by rw [if_pos rfl] at H; exact H
         clear H
         have H := H1
         clear H1
         have H' := Aside0.mk H
         clear H
         go_wp2
         go_meet
         case rel => exact ⟨_, (true), (by first | rfl | (simp; done) | (simp [*]; done)), H', ⟨by have := HJ7.out; have := HK2.out; have := HJ27.out; first | omega | exact Nat.le_refl _⟩, ⟨by (with_reducible repeat (first | apply Kd.N_alloc | apply Kd.N_drewN | apply Kd.N_drew)); exact HO_3.out⟩, ⟨by (with_reducible repeat (first | refine blk_drewN ?_ _ | refine blk_drew ?_ | refine blk_alloc ?_ _)); exact BK338.out⟩, ⟨by repeat (first | (with_reducible first | exact HB.out | apply below_alloc | apply pw_below_drewN | apply below_drew1 | refine below_set ?_ GE338.out) | exact HB.out)⟩⟩
        replace c43 := Bool.eq_false_iff.mpr c43
        subst c43
        have H1 : (laws_FnEvenOdd.j3 kj27 t333 t346 x6_2 (t356 == 0) x8_2 t356 t336 t337) = some r := by rw [if_neg (show ¬ (false = true) by decide)] at H; exact H
        clear H
        have H := H1
        clear H1
        have H' := Aside0.mk H
        clear H
        go_wp2
        go_meet
        case rel => exact ⟨_, ((t356 == 0)), (by first | rfl | (simp; done) | (simp [*]; done)), H', ⟨by have := HJ7.out; have := HK2.out; have := HJ27.out; first | omega | exact Nat.le_refl _⟩, ⟨by (with_reducible repeat (first | apply Kd.N_alloc | apply Kd.N_drewN | apply Kd.N_drew)); exact HO_3.out⟩, ⟨by (with_reducible repeat (first | refine blk_drewN ?_ _ | refine blk_drew ?_ | refine blk_alloc ?_ _)); exact BK338.out⟩, ⟨by repeat (first | (with_reducible first | exact HB.out | apply below_alloc | apply pw_below_drewN | apply below_drew1 | refine below_set ?_ GE338.out) | exact HB.out)⟩⟩
       case rest =>
        clear HC39
        try clear c1
        try clear c2
        try clear p2
        try clear c3
        try clear p3
        try clear q3
        try clear hx3
        try clear c4
        try clear q4
        try clear c6
        try clear c6b0
        try clear c6b1
        try clear p6
        try clear c7
        try clear c20
        try clear c22
        try clear c22b0
        try clear c22b1
        try clear c26
        try clear c27
        try clear c27b0
        try clear c29
        try clear c29b0
        try clear c31
        try clear c34
        try clear p34
        try clear q34
        try clear hx34
        try clear c35
        try clear c35b0
        try clear c35b1
        try clear p35
        try clear q35
        try clear hx35
        try clear c36
        try clear c36b0
        try clear c36b1
        try clear c37
        try clear c37b0
        try clear c37b1
        try clear c38
        try clear c39
        try clear c40
        try clear c41
        try clear q41
        try clear c43
        try clear hcz11_0
        try clear hcz11_1
        try clear hcz19_0
        try clear hcz19_1
        try clear hcz24_0
        try clear hcz24_1
        try clear hfz11_0
        try clear hfz11_1
        try clear hfz19_0
        try clear hfz19_1
        try clear hfz24_0
        try clear hfz24_1
        try clear hx348_0
        try clear hx348_1
        try clear hx350_0
        try clear hx350_1
        try clear p2
        try clear p3
        try clear p348
        try clear p350
        try clear q041
        try clear q3
        try clear q348
        try clear q350
        try clear q41
        obtain ⟨kq, x7_38, rfl, HA, HJ38, HO_3, BK338, HB⟩ := hcut
        cases kq with
        | zero => exact absurd HA.out (by simp [laws_FnEvenOdd.j3])
        | succ kj38 =>
         have H := HA.out
         clear HA
         simp only [laws_FnEvenOdd.j3] at H
         have HC44 := Aside0.mk H
         clear H
         go_upto_region 18 with (fail)
         go_cut [85] (fun v85 wc => ∃ (kq : Nat) (x85_43 : Bool), v85 = .bool x85_43 ∧ Aside0 (laws_FnEvenOdd.j4 kq t333 t346 x6_2 x7_38 x8_2 x85_43 t336 t337 = some r) ∧ Aside0 (kq ≤ kj38) ∧ Aside0 (Kd.N k65 65 wc w.heap.size (fun k_ => k_ ≠ gb338) (.slice Ao20 t333.length co20) t333) ∧ Aside0 (wc.heap[gb338]? = some (.cells #[.int .i64 t336, .int .i64 t337] 28 (0, 0))) ∧ Aside0 (Below w.heap.size w wc))
         case first =>
          have H := HC44.out
          clear HC44
          by_cases c45 : t356 = 1
          rotate_left
          ·rw [if_neg c45] at H
           have c45b0 : (t356 == 1) = false := beq_eq_false_iff_ne.mpr c45
           have c45b1 : (t356 != 1) = true := bne_iff_ne.mpr c45
           (first | rw [c45b0] | (simp only [i64_w, i32_w]; rw [c45b0]) | rw [c45b1] | skip)
           have H' := Aside0.mk H
           clear H
           go_wp2
           go_meet
           case rel => exact ⟨_, (false), (by first | rfl | (simp; done) | (simp [*]; done)), H', ⟨by have := HJ7.out; have := HK2.out; have := HJ27.out; have := HJ38.out; first | omega | exact Nat.le_refl _⟩, ⟨by (with_reducible repeat (first | apply Kd.N_alloc | apply Kd.N_drewN | apply Kd.N_drew)); exact HO_3.out⟩, ⟨by (with_reducible repeat (first | refine blk_drewN ?_ _ | refine blk_drew ?_ | refine blk_alloc ?_ _)); exact BK338.out⟩, ⟨by repeat (first | (with_reducible first | exact HB.out | apply below_alloc | apply pw_below_drewN | apply below_drew1 | refine below_set ?_ GE338.out) | exact HB.out)⟩⟩
          rw [if_pos c45] at H
          have c45b0 : (t356 == 1) = true := beq_iff_eq.mpr c45
          have c45b1 : (t356 != 1) = false := bne_eq_false_iff_eq.mpr c45
          clear c45
          (first | rw [c45b0] | (simp only [i64_w, i32_w]; rw [c45b0]) | rw [c45b1] | skip)
          by_cases c46 : 0 ≤ x8_2
          rotate_left
          ·rw [if_neg c46] at H
           exact absurd H (by simp)
          rw [if_pos c46] at H
          have c46b0 : decide (0 ≤ x8_2) = true := decide_eq_true c46
          clear c46
          by_cases c47 : x8_2 < (t333.length : Int)
          rotate_left
          ·rw [if_neg c47] at H
           exact absurd H (by simp)
          rw [if_pos c47] at H
          have c47b0 : decide (x8_2 < (t333.length : Int)) = true := decide_eq_true c47
          clear c47
          replace H := Option.bind_eq_some_iff.mp H
          obtain ⟨t358, A480, H⟩ := H
          replace H : (laws_FnEvenOdd.j4 kj38 t333 t346 x6_2 x7_38 x8_2 t358 t336 t337) = some r := H
          have A48 := Aside0.mk A480
          clear A480
          have H' := Aside0.mk H
          clear H
          have p357 : 0 ≤ (x8_2 : Int) := of_decide_eq_true (by first | (with_reducible assumption) | assumption)
          have q357 : x8_2 < (t333.length : Int) := of_decide_eq_true (by first | (with_reducible assumption) | assumption)
          obtain ⟨ad357, A357_0, c357_0, e357, hx357_0, hx357_1, hl357_0, hi357_0⟩ := at_T65 (Kd.N_reads' HO_3.out).2.2 x8_2 p357 q357
          cases e357
          obtain ⟨ce357, hce357, hMe357, hcc357⟩ := Kd.N_get HO_3.out z65 x8_2 p357 (by first | exact q357 | exact of_decide_eq_true (by first | (with_reducible assumption) | assumption) | (have e_ := (Kd.N_reads' HO_3.out).1; omega))
          obtain ⟨ua357_0, uc357_0, rfl, ul357_0, ge357_0⟩ := k65_openF hMe357
          have hv357_0 := hcc357 0 _ rfl
          rw [Nat.add_zero] at hv357_0
          replace hv357_0 := Option.some.inj (hv357_0.symm.trans hx357_0)
          injection hv357_0 with hva_ hvn_ hvc_
          rw [hva_] at ge357_0
          rw [hvc_] at ul357_0
          have HL357_0 := Aside0.mk (show Kd.V k28 28 _ w.heap.size _ _ ((rd_T65 t333 x8_2).f0) from Kd.V_mk ul357_0 ge357_0)
          clear hva_ hvn_ hvc_ ge357_0 ul357_0
          clear hcc357 hce357
          have HR357_0 := Aside0.mk hi357_0
          have HC357_0 := Aside0.mk hl357_0
          clear hi357_0 hl357_0
          replace p357 := eq_true p357
          replace q357 := eq_true q357
          go_wp2_with (first | (go_at_call 41; (with_reducible refine (laws_closed.calls _ _ ((rd_T65 t333 x8_2).f0) t358 _ ?side1 ?side2 A48.out).mono ?_); (case side1 => repeat (first | exact (by repeat (first | (with_reducible exact HR357_0.out) | (with_reducible refine Kd.C_alloc ?_ _) | (with_reducible refine Kd.C_drewN ?_ _) | (with_reducible refine Kd.C_drew ?_) | exact HR357_0.out | exact (Kd.R_reads' HL357_0.out).2.2)) | (with_reducible refine Kd.C_alloc ?_ _) | (with_reducible refine Kd.C_drewN ?_ _) | (with_reducible refine Kd.C_drew ?_))); (case side2 => exact HC357_0.out); rintro e w' ⟨rfl, ⟨nd, rfl⟩⟩))
          go_meet
          case rel => exact ⟨_, (t358), (by first | rfl | (simp; done) | (simp [*]; done)), H', ⟨by have := HJ7.out; have := HK2.out; have := HJ27.out; have := HJ38.out; first | omega | exact Nat.le_refl _⟩, ⟨by (with_reducible repeat (first | apply Kd.N_alloc | apply Kd.N_drewN | apply Kd.N_drew)); exact HO_3.out⟩, ⟨by (with_reducible repeat (first | refine blk_drewN ?_ _ | refine blk_drew ?_ | refine blk_alloc ?_ _)); exact BK338.out⟩, ⟨by repeat (first | (with_reducible first | exact HB.out | apply below_alloc | apply pw_below_drewN | apply below_drew1 | refine below_set ?_ GE338.out) | exact HB.out)⟩⟩
         case rest =>
          clear HC44
          try clear c1
          try clear c2
          try clear p2
          try clear c3
          try clear p3
          try clear q3
          try clear hx3
          try clear c4
          try clear q4
          try clear c6
          try clear c6b0
          try clear c6b1
          try clear p6
          try clear c7
          try clear c20
          try clear c22
          try clear c22b0
          try clear c22b1
          try clear c26
          try clear c27
          try clear c27b0
          try clear c29
          try clear c29b0
          try clear c31
          try clear c34
          try clear p34
          try clear q34
          try clear hx34
          try clear c35
          try clear c35b0
          try clear c35b1
          try clear p35
          try clear q35
          try clear hx35
          try clear c36
          try clear c36b0
          try clear c36b1
          try clear c37
          try clear c37b0
          try clear c37b1
          try clear c38
          try clear c39
          try clear c40
          try clear c41
          try clear q41
          try clear c43
          try clear c45
          try clear c45b0
          try clear c45b1
          try clear c46
          try clear c46b0
          try clear c47
          try clear c47b0
          try clear hcz11_0
          try clear hcz11_1
          try clear hcz19_0
          try clear hcz19_1
          try clear hcz24_0
          try clear hcz24_1
          try clear hfz11_0
          try clear hfz11_1
          try clear hfz19_0
          try clear hfz19_1
          try clear hfz24_0
          try clear hfz24_1
          try clear hx348_0
          try clear hx348_1
          try clear hx350_0
          try clear hx350_1
          try clear hx357_0
          try clear hx357_1
          try clear p2
          try clear p3
          try clear p34
          try clear p348
          try clear p35
          try clear p350
          try clear p357
          try clear p6
          try clear q041
          try clear q3
          try clear q34
          try clear q348
          try clear q35
          try clear q350
          try clear q357
          try clear q4
          try clear q41
          obtain ⟨kq, x85_43, rfl, HA, HJ43, HO_3, BK338, HB⟩ := hcut
          cases kq with
          | zero => exact absurd HA.out (by simp [laws_FnEvenOdd.j4])
          | succ kj43 =>
           have H := HA.out
           clear HA
           simp only [laws_FnEvenOdd.j4] at H
           by_cases c49 : x85_43 = true
           ·subst c49
            have H1 : (if 0 ≤ x8_2 then (if x8_2 < (t333.length : Int) then ((laws_closed.f ((rd_T65 t333 x8_2).f0)).bind fun t360 => (if t360 = true then (laws_FnEvenOdd.l0 kj43 t333 t346 (wrap64 (-x6_2)) x7_38 (wrap64 (x8_2 + 1)) t336 t337) else (some true))) else (none)) else (none)) = some r := by rw [if_pos rfl] at H; exact H
            clear H
            have H := H1
            clear H1
            by_cases c50 : 0 ≤ x8_2
            rotate_left
            ·rw [if_neg c50] at H
             exact absurd H (by simp)
            rw [if_pos c50] at H
            have c50b0 : decide (0 ≤ x8_2) = true := decide_eq_true c50
            clear c50
            by_cases c51 : x8_2 < (t333.length : Int)
            rotate_left
            ·rw [if_neg c51] at H
             exact absurd H (by simp)
            rw [if_pos c51] at H
            have c51b0 : decide (x8_2 < (t333.length : Int)) = true := decide_eq_true c51
            clear c51
            replace H := Option.bind_eq_some_iff.mp H
            obtain ⟨t360, A520, H⟩ := H
            replace H : (if t360 = true then (laws_FnEvenOdd.l0 kj43 t333 t346 (wrap64 (-x6_2)) x7_38 (wrap64 (x8_2 + 1)) t336 t337) else (some true)) = some r := H
            have A52 := Aside0.mk A520
            clear A520
            by_cases c53 : t360 = true
            rotate_left
            ·replace c53 := Bool.eq_false_iff.mpr c53
             subst c53
             have H1 : (some true) = some r := by rw [if_neg (show ¬ (false = true) by decide)] at H; exact H
             clear H
             have H := H1
             clear H1
             obtain rfl := Option.some.inj H
             have p359 : 0 ≤ (x8_2 : Int) := of_decide_eq_true (by first | (with_reducible assumption) | assumption)
             have q359 : x8_2 < (t333.length : Int) := of_decide_eq_true (by first | (with_reducible assumption) | assumption)
             obtain ⟨ad359, A359_0, c359_0, e359, hx359_0, hx359_1, hl359_0, hi359_0⟩ := at_T65 (Kd.N_reads' HO_3.out).2.2 x8_2 p359 q359
             cases e359
             obtain ⟨ce359, hce359, hMe359, hcc359⟩ := Kd.N_get HO_3.out z65 x8_2 p359 (by first | exact q359 | exact of_decide_eq_true (by first | (with_reducible assumption) | assumption) | (have e_ := (Kd.N_reads' HO_3.out).1; omega))
             obtain ⟨ua359_0, uc359_0, rfl, ul359_0, ge359_0⟩ := k65_openF hMe359
             have hv359_0 := hcc359 0 _ rfl
             rw [Nat.add_zero] at hv359_0
             replace hv359_0 := Option.some.inj (hv359_0.symm.trans hx359_0)
             injection hv359_0 with hva_ hvn_ hvc_
             rw [hva_] at ge359_0
             rw [hvc_] at ul359_0
             have HL359_0 := Aside0.mk (show Kd.V k28 28 _ w.heap.size _ _ ((rd_T65 t333 x8_2).f0) from Kd.V_mk ul359_0 ge359_0)
             clear hva_ hvn_ hvc_ ge359_0 ul359_0
             clear hcc359 hce359
             have HR359_0 := Aside0.mk hi359_0
             have HC359_0 := Aside0.mk hl359_0
             clear hi359_0 hl359_0
             replace p359 := eq_true p359
             replace q359 := eq_true q359
             go_wp2_with (first | ((with_reducible refine gate_callee (f := 41) rfl ?_); refine goesL_ (some 93) rfl rfl Try.func41 (by kernel_rfl) rfl #[.slice A359_0 ((rd_T65 t333 x8_2).f0).length c359_0] rfl (by (try simp only [List.map_toArray, List.map_cons, List.map_nil]); first | done | rfl | (simp only [List.length_drop, List.length_take]; rfl)) ?_; (with_reducible refine (laws_closed.calls _ _ ((rd_T65 t333 x8_2).f0) false _ ?side1 ?side2 A52.out).mono ?_); (case side1 => repeat (first | exact (by repeat (first | (with_reducible exact HR359_0.out) | (with_reducible refine Kd.C_alloc ?_ _) | (with_reducible refine Kd.C_drewN ?_ _) | (with_reducible refine Kd.C_drew ?_) | exact HR359_0.out | exact (Kd.R_reads' HL359_0.out).2.2)) | (with_reducible refine Kd.C_alloc ?_ _) | (with_reducible refine Kd.C_drewN ?_ _) | (with_reducible refine Kd.C_drew ?_))); (case side2 => exact HC359_0.out); rintro e w' ⟨rfl, ⟨nd, rfl⟩⟩; refine ⟨_, rfl, ?_⟩))
             go_ret
             exact ⟨by first | rfl | (simp [errW_none, errW_some] <;> rfl) | (simp [*, errW_none, errW_some] <;> rfl), by repeat (first | (with_reducible first | exact HB.out | apply below_alloc | apply pw_below_drewN | apply below_drew1 | refine below_set ?_ GE338.out) | exact HB.out)⟩
            subst c53
            have H1 : (laws_FnEvenOdd.l0 kj43 t333 t346 (wrap64 (-x6_2)) x7_38 (wrap64 (x8_2 + 1)) t336 t337) = some r := by rw [if_pos rfl] at H; exact H
            clear H
            have H := H1
            clear H1
            have H' := Aside0.mk H
            clear H
            have p359 : 0 ≤ (x8_2 : Int) := of_decide_eq_true (by first | (with_reducible assumption) | assumption)
            have q359 : x8_2 < (t333.length : Int) := of_decide_eq_true (by first | (with_reducible assumption) | assumption)
            obtain ⟨ad359, A359_0, c359_0, e359, hx359_0, hx359_1, hl359_0, hi359_0⟩ := at_T65 (Kd.N_reads' HO_3.out).2.2 x8_2 p359 q359
            cases e359
            obtain ⟨ce359, hce359, hMe359, hcc359⟩ := Kd.N_get HO_3.out z65 x8_2 p359 (by first | exact q359 | exact of_decide_eq_true (by first | (with_reducible assumption) | assumption) | (have e_ := (Kd.N_reads' HO_3.out).1; omega))
            obtain ⟨ua359_0, uc359_0, rfl, ul359_0, ge359_0⟩ := k65_openF hMe359
            have hv359_0 := hcc359 0 _ rfl
            rw [Nat.add_zero] at hv359_0
            replace hv359_0 := Option.some.inj (hv359_0.symm.trans hx359_0)
            injection hv359_0 with hva_ hvn_ hvc_
            rw [hva_] at ge359_0
            rw [hvc_] at ul359_0
            have HL359_0 := Aside0.mk (show Kd.V k28 28 _ w.heap.size _ _ ((rd_T65 t333 x8_2).f0) from Kd.V_mk ul359_0 ge359_0)
            clear hva_ hvn_ hvc_ ge359_0 ul359_0
            clear hcc359 hce359
            have HR359_0 := Aside0.mk hi359_0
            have HC359_0 := Aside0.mk hl359_0
            clear hi359_0 hl359_0
            replace p359 := eq_true p359
            replace q359 := eq_true q359
            go_wp2_with (first | ((with_reducible refine gate_callee (f := 41) rfl ?_); refine goesL_ (some 93) rfl rfl Try.func41 (by kernel_rfl) rfl #[.slice A359_0 ((rd_T65 t333 x8_2).f0).length c359_0] rfl (by (try simp only [List.map_toArray, List.map_cons, List.map_nil]); first | done | rfl | (simp only [List.length_drop, List.length_take]; rfl)) ?_; (with_reducible refine (laws_closed.calls _ _ ((rd_T65 t333 x8_2).f0) true _ ?side1 ?side2 A52.out).mono ?_); (case side1 => repeat (first | exact (by repeat (first | (with_reducible exact HR359_0.out) | (with_reducible refine Kd.C_alloc ?_ _) | (with_reducible refine Kd.C_drewN ?_ _) | (with_reducible refine Kd.C_drew ?_) | exact HR359_0.out | exact (Kd.R_reads' HL359_0.out).2.2)) | (with_reducible refine Kd.C_alloc ?_ _) | (with_reducible refine Kd.C_drewN ?_ _) | (with_reducible refine Kd.C_drew ?_))); (case side2 => exact HC359_0.out); rintro e w' ⟨rfl, ⟨nd, rfl⟩⟩; refine ⟨_, rfl, ?_⟩))
            go_roundg kj43
            case measure => have := HJ7.out; have := HK2.out; have := HJ27.out; have := HJ38.out; have := HJ43.out; omega
            case rel => exact ⟨(wrap64 (-x6_2)), (x7_38), (wrap64 (x8_2 + 1)), (by first | rfl | (simp; done) | (simp [*]; done)), (by first | rfl | (simp; done) | (simp [*]; done)), (by first | rfl | (simp; done) | (simp [*]; done)), H', ⟨by have := HJ7.out; have := HK2.out; have := HJ27.out; have := HJ38.out; have := HJ43.out; omega⟩, ⟨by (with_reducible repeat (first | apply Kd.N_alloc | apply Kd.N_drewN | apply Kd.N_drew)); exact HO_3.out⟩, ⟨by (with_reducible repeat (first | refine blk_drewN ?_ _ | refine blk_drew ?_ | refine blk_alloc ?_ _)); exact BK338.out⟩, ⟨by repeat (first | (with_reducible first | exact HB.out | apply below_alloc | apply pw_below_drewN | apply below_drew1 | refine below_set ?_ GE338.out) | exact HB.out)⟩⟩
           replace c49 := Bool.eq_false_iff.mpr c49
           subst c49
           have H1 : (if 0 ≤ x8_2 then (if x8_2 < (t333.length : Int) then ((laws_closed.f ((rd_T65 t333 x8_2).f0)).bind fun t362 => (if t362 = true then (laws_FnEvenOdd.l0 kj43 t333 t346 x6_2 x7_38 (wrap64 (x8_2 + 1)) t336 t337) else (some true))) else (none)) else (none)) = some r := by rw [if_neg (show ¬ (false = true) by decide)] at H; exact H
           clear H
           have H := H1
           clear H1
           by_cases c54 : 0 ≤ x8_2
           rotate_left
           ·rw [if_neg c54] at H
            exact absurd H (by simp)
           rw [if_pos c54] at H
           have c54b0 : decide (0 ≤ x8_2) = true := decide_eq_true c54
           clear c54
           by_cases c55 : x8_2 < (t333.length : Int)
           rotate_left
           ·rw [if_neg c55] at H
            exact absurd H (by simp)
           rw [if_pos c55] at H
           have c55b0 : decide (x8_2 < (t333.length : Int)) = true := decide_eq_true c55
           clear c55
           replace H := Option.bind_eq_some_iff.mp H
           obtain ⟨t362, A560, H⟩ := H
           replace H : (if t362 = true then (laws_FnEvenOdd.l0 kj43 t333 t346 x6_2 x7_38 (wrap64 (x8_2 + 1)) t336 t337) else (some true)) = some r := H
           have A56 := Aside0.mk A560
           clear A560
           by_cases c57 : t362 = true
           rotate_left
           ·replace c57 := Bool.eq_false_iff.mpr c57
            subst c57
            have H1 : (some true) = some r := by rw [if_neg (show ¬ (false = true) by decide)] at H; exact H
            clear H
            have H := H1
            clear H1
            obtain rfl := Option.some.inj H
            have p361 : 0 ≤ (x8_2 : Int) := of_decide_eq_true (by first | (with_reducible assumption) | assumption)
            have q361 : x8_2 < (t333.length : Int) := of_decide_eq_true (by first | (with_reducible assumption) | assumption)
            obtain ⟨ad361, A361_0, c361_0, e361, hx361_0, hx361_1, hl361_0, hi361_0⟩ := at_T65 (Kd.N_reads' HO_3.out).2.2 x8_2 p361 q361
            cases e361
            obtain ⟨ce361, hce361, hMe361, hcc361⟩ := Kd.N_get HO_3.out z65 x8_2 p361 (by first | exact q361 | exact of_decide_eq_true (by first | (with_reducible assumption) | assumption) | (have e_ := (Kd.N_reads' HO_3.out).1; omega))
            obtain ⟨ua361_0, uc361_0, rfl, ul361_0, ge361_0⟩ := k65_openF hMe361
            have hv361_0 := hcc361 0 _ rfl
            rw [Nat.add_zero] at hv361_0
            replace hv361_0 := Option.some.inj (hv361_0.symm.trans hx361_0)
            injection hv361_0 with hva_ hvn_ hvc_
            rw [hva_] at ge361_0
            rw [hvc_] at ul361_0
            have HL361_0 := Aside0.mk (show Kd.V k28 28 _ w.heap.size _ _ ((rd_T65 t333 x8_2).f0) from Kd.V_mk ul361_0 ge361_0)
            clear hva_ hvn_ hvc_ ge361_0 ul361_0
            clear hcc361 hce361
            have HR361_0 := Aside0.mk hi361_0
            have HC361_0 := Aside0.mk hl361_0
            clear hi361_0 hl361_0
            replace p361 := eq_true p361
            replace q361 := eq_true q361
            go_wp2_with (first | ((with_reducible refine gate_callee (f := 41) rfl ?_); refine goesL_ (some 93) rfl rfl Try.func41 (by kernel_rfl) rfl #[.slice A361_0 ((rd_T65 t333 x8_2).f0).length c361_0] rfl (by (try simp only [List.map_toArray, List.map_cons, List.map_nil]); first | done | rfl | (simp only [List.length_drop, List.length_take]; rfl)) ?_; (with_reducible refine (laws_closed.calls _ _ ((rd_T65 t333 x8_2).f0) false _ ?side1 ?side2 A56.out).mono ?_); (case side1 => repeat (first | exact (by repeat (first | (with_reducible exact HR361_0.out) | (with_reducible refine Kd.C_alloc ?_ _) | (with_reducible refine Kd.C_drewN ?_ _) | (with_reducible refine Kd.C_drew ?_) | exact HR361_0.out | exact (Kd.R_reads' HL361_0.out).2.2)) | (with_reducible refine Kd.C_alloc ?_ _) | (with_reducible refine Kd.C_drewN ?_ _) | (with_reducible refine Kd.C_drew ?_))); (case side2 => exact HC361_0.out); rintro e w' ⟨rfl, ⟨nd, rfl⟩⟩; refine ⟨_, rfl, ?_⟩))
            go_ret
            exact ⟨by first | rfl | (simp [errW_none, errW_some] <;> rfl) | (simp [*, errW_none, errW_some] <;> rfl), by repeat (first | (with_reducible first | exact HB.out | apply below_alloc | apply pw_below_drewN | apply below_drew1 | refine below_set ?_ GE338.out) | exact HB.out)⟩
           subst c57
           have H1 : (laws_FnEvenOdd.l0 kj43 t333 t346 x6_2 x7_38 (wrap64 (x8_2 + 1)) t336 t337) = some r := by rw [if_pos rfl] at H; exact H
           clear H
           have H := H1
           clear H1
           have H' := Aside0.mk H
           clear H
           have p361 : 0 ≤ (x8_2 : Int) := of_decide_eq_true (by first | (with_reducible assumption) | assumption)
           have q361 : x8_2 < (t333.length : Int) := of_decide_eq_true (by first | (with_reducible assumption) | assumption)
           obtain ⟨ad361, A361_0, c361_0, e361, hx361_0, hx361_1, hl361_0, hi361_0⟩ := at_T65 (Kd.N_reads' HO_3.out).2.2 x8_2 p361 q361
           cases e361
           obtain ⟨ce361, hce361, hMe361, hcc361⟩ := Kd.N_get HO_3.out z65 x8_2 p361 (by first | exact q361 | exact of_decide_eq_true (by first | (with_reducible assumption) | assumption) | (have e_ := (Kd.N_reads' HO_3.out).1; omega))
           obtain ⟨ua361_0, uc361_0, rfl, ul361_0, ge361_0⟩ := k65_openF hMe361
           have hv361_0 := hcc361 0 _ rfl
           rw [Nat.add_zero] at hv361_0
           replace hv361_0 := Option.some.inj (hv361_0.symm.trans hx361_0)
           injection hv361_0 with hva_ hvn_ hvc_
           rw [hva_] at ge361_0
           rw [hvc_] at ul361_0
           have HL361_0 := Aside0.mk (show Kd.V k28 28 _ w.heap.size _ _ ((rd_T65 t333 x8_2).f0) from Kd.V_mk ul361_0 ge361_0)
           clear hva_ hvn_ hvc_ ge361_0 ul361_0
           clear hcc361 hce361
           have HR361_0 := Aside0.mk hi361_0
           have HC361_0 := Aside0.mk hl361_0
           clear hi361_0 hl361_0
           replace p361 := eq_true p361
           replace q361 := eq_true q361
           go_wp2_with (first | ((with_reducible refine gate_callee (f := 41) rfl ?_); refine goesL_ (some 93) rfl rfl Try.func41 (by kernel_rfl) rfl #[.slice A361_0 ((rd_T65 t333 x8_2).f0).length c361_0] rfl (by (try simp only [List.map_toArray, List.map_cons, List.map_nil]); first | done | rfl | (simp only [List.length_drop, List.length_take]; rfl)) ?_; (with_reducible refine (laws_closed.calls _ _ ((rd_T65 t333 x8_2).f0) true _ ?side1 ?side2 A56.out).mono ?_); (case side1 => repeat (first | exact (by repeat (first | (with_reducible exact HR361_0.out) | (with_reducible refine Kd.C_alloc ?_ _) | (with_reducible refine Kd.C_drewN ?_ _) | (with_reducible refine Kd.C_drew ?_) | exact HR361_0.out | exact (Kd.R_reads' HL361_0.out).2.2)) | (with_reducible refine Kd.C_alloc ?_ _) | (with_reducible refine Kd.C_drewN ?_ _) | (with_reducible refine Kd.C_drew ?_))); (case side2 => exact HC361_0.out); rintro e w' ⟨rfl, ⟨nd, rfl⟩⟩; refine ⟨_, rfl, ?_⟩))
           go_roundg kj43
           case measure => have := HJ7.out; have := HK2.out; have := HJ27.out; have := HJ38.out; have := HJ43.out; omega
           case rel => exact ⟨(x6_2), (x7_38), (wrap64 (x8_2 + 1)), (by first | rfl | (simp; done) | (simp [*]; done)), (by first | rfl | (simp; done) | (simp [*]; done)), (by first | rfl | (simp; done) | (simp [*]; done)), H', ⟨by have := HJ7.out; have := HK2.out; have := HJ27.out; have := HJ38.out; have := HJ43.out; omega⟩, ⟨by (with_reducible repeat (first | apply Kd.N_alloc | apply Kd.N_drewN | apply Kd.N_drew)); exact HO_3.out⟩, ⟨by (with_reducible repeat (first | refine blk_drewN ?_ _ | refine blk_drew ?_ | refine blk_alloc ?_ _)); exact BK338.out⟩, ⟨by repeat (first | (with_reducible first | exact HB.out | apply below_alloc | apply pw_below_drewN | apply below_drew1 | refine below_set ?_ GE338.out) | exact HB.out)⟩⟩
/-- THE ONE PURE STATEMENT of laws_FnEvenOdd: yours. -/
def laws_FnEvenOdd.Pure : Prop := ∀ (l0 : List Int), l0.length ≤ maxLen → l0.length * 1 ≤ 140737488351232 → (∀ x ∈ l0, (Lit.int .u8 x).wf = true) → ∃ k, laws_FnEvenOdd.f k l0 = some true
theorem laws_FnEvenOdd.walk (P : laws_FnEvenOdd.Pure) (a0 : Option Addr) (len0 cap0 : Nat) (z0 : List Int) (w : World) (w0 : (a0 = none ∧ len0 = 0 ∧ cap0 = 0 ∧ z0 = []) ∨ ∃ x, a0 = some x ∧ len0 ≤ cap0 ∧ cap0 ≤ maxLen ∧ z0.length = cap0 ∧ (∀ i, i < z0.length → w.cell? (x.add i) = some (.int .u8 (z0.getD i 0))) ∧ ∀ n ∈ z0, (Lit.int .u8 n).wf = true) (y0 : len0 * 1 ≤ 140737488351232) :
  Calls Try.prog 7 #[.slice a0 len0 cap0] w fun e w' => e = .returned (.bool true) ∧ Below w.heap.size w w' := by
 obtain ⟨l0, rfl, hr0, hm0, hw0, hc0⟩ := ReadsInt.ofRowC w0
 obtain ⟨k, h⟩ := P l0 hm0 y0 hw0
 refine (laws_FnEvenOdd.calls k _ _ l0 true w (Kd.C_of_reads (d := (0 : Int)) (h1 := fun _ => rfl) hr0) hc0 h).mono ?_
 rintro e w' ⟨rfl, hd⟩
 exact ⟨rfl, hd⟩

end Go.Proofs.Ytolejglfohagnaa.PFnEvenOdd
