/- Turn of the program and of the reference give the same answer at every three points. No condition. -/
import Derived.Test.YtiennogfdnlfiaaPreFnExactTurn
import Derived.Test.YtiennogfdnlfiaaWMath
namespace Go.Proofs.Ytiennogfdnlfiaa.Pure
open Go.RowKit Go.Proofs.Ytiennogfdnlfiaa.PFnExactTurn Go.Proofs.Ytiennogfdnlfiaa.PreFnExactTurn Go.Proofs.YtiennogfdnlfiaaW.PrintWords Go.Proofs.YtiennogfdnlfiaaW.PrintLast Go.Proofs.YtiennogfdnlfiaaW.PrintMore Go.Proofs.YtiennogfdnlfiaaW.Math
set_option linter.unusedVariables false
set_option linter.unusedSimpArgs false

theorem spec_ok (x y : Int) : spec_PointOk.f x y = some (decide (OkP x y)) := by
  unfold spec_PointOk.f OkP
  grind

theorem impl_ok (x y : Int) : impl_PointOk.f x y = some (decide (OkP x y)) := by
  unfold impl_PointOk.f OkP
  grind

theorem spec_sg (n : Int) : spec_l1Sign.f n = some (sg n) := by unfold spec_l1Sign.f sg; repeat' split <;> simp_all
theorem spec_turn {ax ay bx by_ cx cy : Int} (ha : OkP ax ay) (hb : OkP bx by_) (hc : OkP cx cy) : spec_l1Turn.f ax ay bx by_ cx cy = some (sg (det ax ay bx by_ cx cy)) := by
  unfold OkP at *
  have h1 := mul_bd (p := bx - ax) (q := cy - ay) (B := 20000000) (C := 20000000) (by omega) (by omega) (by omega) (by omega)
  have h2 := mul_bd (p := by_ - ay) (q := cx - ax) (B := 20000000) (C := 20000000) (by omega) (by omega) (by omega) (by omega)
  unfold spec_l1Turn.f
  rw [w64 (n := bx - ax) (by omega) (by omega), w64 (n := cy - ay) (by omega) (by omega), w64 (n := by_ - ay) (by omega) (by omega), w64 (n := cx - ax) (by omega) (by omega),
    w64 (n := (bx - ax) * (cy - ay)) (by omega) (by omega), w64 (n := (by_ - ay) * (cx - ax)) (by omega) (by omega), w64 (by omega) (by omega), spec_sg]
  rfl

theorem impl_sg (n : Int) : impl_sgn.f n = some (sg n) := by unfold impl_sgn.f sg; repeat' split <;> simp_all
theorem impl_trn {ax ay bx by_ cx cy : Int} (ha : OkP ax ay) (hb : OkP bx by_) (hc : OkP cx cy) : impl_turn.f ax ay bx by_ cx cy = some (sg (det ax ay bx by_ cx cy)) := by
  unfold OkP at *
  have h1 := mul_bd (p := bx - ax) (q := cy - by_) (B := 20000000) (C := 20000000) (by omega) (by omega) (by omega) (by omega)
  have h2 := mul_bd (p := by_ - ay) (q := cx - bx) (B := 20000000) (C := 20000000) (by omega) (by omega) (by omega) (by omega)
  unfold impl_turn.f
  rw [w64 (n := bx - ax) (by omega) (by omega), w64 (n := cy - by_) (by omega) (by omega), w64 (n := by_ - ay) (by omega) (by omega), w64 (n := cx - bx) (by omega) (by omega),
    w64 (n := (bx - ax) * (cy - by_)) (by omega) (by omega), w64 (n := (by_ - ay) * (cx - bx)) (by omega) (by omega), w64 (by omega) (by omega), impl_sg, det_alt]
  rfl

theorem same (ax ay bx by_ cx cy : Int) : ∃ r, spec_Turn.f ax ay bx by_ cx cy = some r ∧ impl_Turn.f ax ay bx by_ cx cy = some r := by
  unfold spec_Turn.f impl_Turn.f
  simp only [spec_ok, impl_ok, Option.bind_some, decide_eq_true_eq]
  by_cases ha : OkP ax ay
  · by_cases hb : OkP bx by_
    · by_cases hc : OkP cx cy
      · simp [ha, hb, hc, spec_turn ha hb hc, impl_trn ha hb hc]
      · simp [ha, hb, hc]
    · simp [ha, hb]
  · simp [ha]
theorem FnExactTurn : PreFnExactTurn.Pure := by
  intro ax ay bx by_ cx cy _ _ _ _ _ _
  obtain ⟨r, h1, h2⟩ := same ax ay bx by_ cx cy
  simp [laws_FnExactTurn.f, laws_toPoint.f, h1, h2]

end Go.Proofs.Ytiennogfdnlfiaa.Pure
