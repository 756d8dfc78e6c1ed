/- Cross of the program and of the reference give the same answer at every two stretches. No condition. -/
import Derived.Test.YtiennogfdnlfiaaPreFnExactCross
import Derived.Test.YtiennogfdnlfiaaWMath
namespace Go.Proofs.Ytiennogfdnlfiaa.Pure
open Go.RowKit Go.Proofs.Ytiennogfdnlfiaa.PFnExactCross Go.Proofs.Ytiennogfdnlfiaa.PreFnExactCross Go.Proofs.YtiennogfdnlfiaaW.PrintWords Go.Proofs.YtiennogfdnlfiaaW.PrintLast Go.Proofs.YtiennogfdnlfiaaW.PrintMore Go.Proofs.YtiennogfdnlfiaaW.Math
set_option linter.unusedVariables false
set_option linter.unusedSimpArgs false

theorem spec_ok (x y : Int) : spec_PointOk.f x y = some (decide (OkP x y)) := by
  unfold spec_PointOk.f OkP
  grind

theorem spec_sg (n : Int) : spec_l1Sign.f n = some (sg n) := by unfold spec_l1Sign.f sg; repeat' split <;> simp_all
theorem spec_turn {ax ay bx by_ cx cy : Int} (ha : OkP ax ay) (hb : OkP bx by_) (hc : OkP cx cy) : spec_l1Turn.f ax ay bx by_ cx cy = some (sg (det ax ay bx by_ cx cy)) := by
  unfold OkP at *
  have h1 := mul_bd (p := bx - ax) (q := cy - ay) (B := 20000000) (C := 20000000) (by omega) (by omega) (by omega) (by omega)
  have h2 := mul_bd (p := by_ - ay) (q := cx - ax) (B := 20000000) (C := 20000000) (by omega) (by omega) (by omega) (by omega)
  unfold spec_l1Turn.f
  rw [w64 (n := bx - ax) (by omega) (by omega), w64 (n := cy - ay) (by omega) (by omega), w64 (n := by_ - ay) (by omega) (by omega), w64 (n := cx - ax) (by omega) (by omega),
    w64 (n := (bx - ax) * (cy - ay)) (by omega) (by omega), w64 (n := (by_ - ay) * (cx - ax)) (by omega) (by omega), w64 (by omega) (by omega), spec_sg]
  rfl

/-- p lies on the closed stretch from a to b. -/
def On (ax ay bx by_ px py : Int) : Prop := det ax ay bx by_ px py = 0 ∧ (ax ≤ px ∧ px ≤ bx ∨ bx ≤ px ∧ px ≤ ax) ∧ (ay ≤ py ∧ py ≤ by_ ∨ by_ ≤ py ∧ py ≤ ay)
instance (ax ay bx by_ px py : Int) : Decidable (On ax ay bx by_ px py) := by unfold On; infer_instance
theorem sg_zero (n : Int) : sg n = 0 ↔ n = 0 := by unfold sg; repeat' split <;> omega
/-- Two closed stretches have a place in common. -/
def Meet (ax ay bx by_ cx cy dx dy : Int) : Prop :=
  On ax ay bx by_ cx cy ∨ On ax ay bx by_ dx dy ∨ On cx cy dx dy ax ay ∨ On cx cy dx dy bx by_ ∨
    (sg (det ax ay bx by_ cx cy) * sg (det ax ay bx by_ dx dy) < 0 ∧ sg (det cx cy dx dy ax ay) * sg (det cx cy dx dy bx by_) < 0)
instance (ax ay bx by_ cx cy dx dy : Int) : Decidable (Meet ax ay bx by_ cx cy dx dy) := by unfold Meet; infer_instance
theorem sg_bd (n : Int) : -1 ≤ sg n ∧ sg n ≤ 1 := by unfold sg; repeat' split <;> omega
theorem sg_mul (m n : Int) : wrap64 (sg m * sg n) = sg m * sg n := by
  have h := mul_bd (sg_bd m).1 (sg_bd m).2 (sg_bd n).1 (sg_bd n).2
  exact w64 (by omega) (by omega)

theorem spec_between (x a b : Int) : spec_l1Between.f x a b = some (decide (a ≤ x ∧ x ≤ b ∨ b ≤ x ∧ x ≤ a)) := by
  unfold spec_l1Between.f
  grind
theorem spec_on {ax ay bx by_ px py : Int} (ha : OkP ax ay) (hb : OkP bx by_) (hp : OkP px py) : spec_l1On.f ax ay bx by_ px py = some (decide (On ax ay bx by_ px py)) := by
  unfold spec_l1On.f On
  rw [spec_turn ha hb hp]
  simp only [Option.bind_some, sg_zero, spec_between]
  by_cases h1 : det ax ay bx by_ px py = 0
  · simp only [h1, if_true, true_and]
    by_cases h2 : (ax ≤ px ∧ px ≤ bx ∨ bx ≤ px ∧ px ≤ ax)
    · simp [h2]
    · simp [h2]
  · simp [h1]
theorem spec_meet {ax ay bx by_ cx cy dx dy : Int} (ha : OkP ax ay) (hb : OkP bx by_) (hc : OkP cx cy) (hd : OkP dx dy) (k : Nat) : spec_l1Cross.f (k + 1) ax ay bx by_ cx cy dx dy = some (decide (Meet ax ay bx by_ cx cy dx dy)) := by
  unfold spec_l1Cross.f Meet
  rw [spec_on ha hb hc, spec_on ha hb hd, spec_on hc hd ha, spec_on hc hd hb]
  simp only [Option.bind_some, spec_l1Cross.j0, spec_turn ha hb hc, spec_turn ha hb hd, spec_turn hc hd ha, spec_turn hc hd hb, sg_mul, decide_eq_true_eq]
  by_cases h1 : On ax ay bx by_ cx cy
  · simp [h1]
  · by_cases h2 : On ax ay bx by_ dx dy
    · simp [h1, h2]
    · by_cases h3 : On cx cy dx dy ax ay
      · simp [h1, h2, h3]
      · by_cases h4 : On cx cy dx dy bx by_
        · simp [h1, h2, h3, h4]
        · by_cases h5 : sg (det ax ay bx by_ cx cy) * sg (det ax ay bx by_ dx dy) < 0
          · simp [h1, h2, h3, h4, h5]
          · simp [h1, h2, h3, h4, h5]

theorem impl_ok (x y : Int) : impl_PointOk.f x y = some (decide (OkP x y)) := by
  unfold impl_PointOk.f OkP
  grind

theorem impl_sg (n : Int) : impl_sgn.f n = some (sg n) := by unfold impl_sgn.f sg; repeat' split <;> simp_all
theorem impl_trn {ax ay bx by_ cx cy : Int} (ha : OkP ax ay) (hb : OkP bx by_) (hc : OkP cx cy) : impl_turn.f ax ay bx by_ cx cy = some (sg (det ax ay bx by_ cx cy)) := by
  unfold OkP at *
  have h1 := mul_bd (p := bx - ax) (q := cy - by_) (B := 20000000) (C := 20000000) (by omega) (by omega) (by omega) (by omega)
  have h2 := mul_bd (p := by_ - ay) (q := cx - bx) (B := 20000000) (C := 20000000) (by omega) (by omega) (by omega) (by omega)
  unfold impl_turn.f
  rw [w64 (n := bx - ax) (by omega) (by omega), w64 (n := cy - by_) (by omega) (by omega), w64 (n := by_ - ay) (by omega) (by omega), w64 (n := cx - bx) (by omega) (by omega),
    w64 (n := (bx - ax) * (cy - by_)) (by omega) (by omega), w64 (n := (by_ - ay) * (cx - bx)) (by omega) (by omega), w64 (by omega) (by omega), impl_sg, det_alt]
  rfl

theorem impl_on {ax ay bx by_ px py : Int} (ha : OkP ax ay) (hb : OkP bx by_) (hp : OkP px py) : impl_onStretch.f ax ay bx by_ px py = some (decide (On ax ay bx by_ px py)) := by
  unfold impl_onStretch.f On
  rw [impl_trn ha hb hp]
  simp only [Option.bind_some, sg_zero]
  by_cases h1 : det ax ay bx by_ px py = 0
  · simp only [h1, if_true, true_and]
    have a1 : (px ≥ mn ax bx) ↔ (ax ≤ px ∨ bx ≤ px) := by unfold mn; split <;> omega
    have a2 : (px ≤ mx ax bx) ↔ (px ≤ ax ∨ px ≤ bx) := by unfold mx; split <;> omega
    have a3 : (py ≥ mn ay by_) ↔ (ay ≤ py ∨ by_ ≤ py) := by unfold mn; split <;> omega
    have a4 : (py ≤ mx ay by_) ↔ (py ≤ ay ∨ py ≤ by_) := by unfold mx; split <;> omega
    by_cases c1 : px ≥ mn ax bx
    · by_cases c2 : px ≤ mx ax bx
      · by_cases c3 : py ≥ mn ay by_
        · rw [if_pos c1, if_pos c2, if_pos c3, Option.some.injEq, decide_eq_decide]
          rw [a1] at c1; rw [a2] at c2; rw [a3] at c3; rw [a4]
          omega
        · rw [if_pos c1, if_pos c2, if_neg c3, Option.some.injEq]
          rw [a3] at c3
          exact (decide_eq_false (by omega)).symm
      · rw [if_pos c1, if_neg c2, Option.some.injEq]
        rw [a2] at c2
        exact (decide_eq_false (by omega)).symm
    · rw [if_neg c1, Option.some.injEq]
      rw [a1] at c1
      exact (decide_eq_false (by omega)).symm
  · simp [h1]
theorem impl_meet_is {ax ay bx by_ cx cy dx dy : Int} (ha : OkP ax ay) (hb : OkP bx by_) (hc : OkP cx cy) (hd : OkP dx dy) (k : Nat) : impl_meet.f (k + 1) ax ay bx by_ cx cy dx dy = some (decide (Meet ax ay bx by_ cx cy dx dy)) := by
  unfold impl_meet.f Meet
  rw [impl_on ha hb hc, impl_on ha hb hd, impl_on hc hd ha, impl_on hc hd hb]
  simp only [Option.bind_some, impl_meet.j0, impl_trn ha hb hc, impl_trn ha hb hd, impl_trn hc hd ha, impl_trn hc hd hb, sg_mul, decide_eq_true_eq]
  by_cases h1 : On ax ay bx by_ cx cy
  · simp [h1]
  · by_cases h2 : On ax ay bx by_ dx dy
    · simp [h1, h2]
    · by_cases h3 : On cx cy dx dy ax ay
      · simp [h1, h2, h3]
      · by_cases h4 : On cx cy dx dy bx by_
        · simp [h1, h2, h3, h4]
        · by_cases h5 : sg (det ax ay bx by_ cx cy) * sg (det ax ay bx by_ dx dy) < 0
          · simp [h1, h2, h3, h4, h5]
          · simp [h1, h2, h3, h4, h5]

theorem FnExactCross : PreFnExactCross.Pure := by
  intro ax ay bx by_ cx cy dx dy _ _ _ _ _ _ _ _
  refine ⟨1, ?_⟩
  have he : ∃ r, spec_Cross.f 1 ax ay bx by_ cx cy dx dy = some r ∧ impl_Cross.f 1 ax ay bx by_ cx cy dx dy = some r := by
    unfold spec_Cross.f impl_Cross.f
    simp only [spec_ok, impl_ok, Option.bind_some, decide_eq_true_eq]
    by_cases ha : OkP ax ay
    · by_cases hb : OkP bx by_
      · by_cases hc : OkP cx cy
        · by_cases hd : OkP dx dy
          · simp [ha, hb, hc, hd, spec_meet ha hb hc hd 0, impl_meet_is ha hb hc hd 0]
          · simp [ha, hb, hc, hd]
        · simp [ha, hb, hc]
      · simp [ha, hb]
    · simp [ha]
  obtain ⟨r, h1, h2⟩ := he
  simp [laws_FnExactCross.f, laws_toPoint.f, h1, h2]

end Go.Proofs.Ytiennogfdnlfiaa.Pure
