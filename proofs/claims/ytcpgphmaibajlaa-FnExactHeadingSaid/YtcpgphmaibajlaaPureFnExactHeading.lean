/- Heading of the program and of the reference give the same wind at every two points. No condition. -/
import Derived.Test.YtcpgphmaibajlaaPreFnExactHeading
import Derived.Test.YtcpgphmaibajlaaWMath
namespace Go.Proofs.Ytcpgphmaibajlaa.Pure
open Go.RowKit Go.Proofs.Ytcpgphmaibajlaa.PFnExactHeading Go.Proofs.Ytcpgphmaibajlaa.PreFnExactHeading Go.Proofs.YtcpgphmaibajlaaW.PrintWords Go.Proofs.YtcpgphmaibajlaaW.PrintLast Go.Proofs.YtcpgphmaibajlaaW.PrintMore Go.Proofs.YtcpgphmaibajlaaW.Math
set_option linter.unusedVariables false
set_option linter.unusedSimpArgs false

theorem spec_ok (x y : Int) : spec_PointOk.f x y = some (decide (OkP x y)) := by
  unfold spec_PointOk.f OkP
  grind

/-- The size of a number. -/
def ab (n : Int) : Int := if n < 0 then -n else n
/-- The wind of a step: which of eight it is nearest to. -/
def wind (dx dy : Int) : Int :=
  if 5 * ab dy < 2 * ab dx then (if dx > 0 then 0 else 4) else if 5 * ab dx < 2 * ab dy then (if dy > 0 then 2 else 6)
  else if dx > 0 ∧ dy > 0 then 1 else if dx < 0 ∧ dy > 0 then 3 else if dx < 0 then 5 else 7
theorem ab_is (n : Int) : (n < 0 ∧ ab n = -n) ∨ (0 ≤ n ∧ ab n = n) := by unfold ab; split <;> omega

theorem spec_abs_is {n : Int} (h : -9223372036854775807 ≤ n) (h' : n ≤ 9223372036854775807) : spec_l1Abs.f n = some (ab n) := by
  unfold spec_l1Abs.f ab
  split
  · rw [w64 (by omega) (by omega)]
  · rfl
set_option maxHeartbeats 4000000 in
theorem spec_heading {ax ay bx by_ : Int} (ha : OkP ax ay) (hb : OkP bx by_) (hne : ¬ (ax = bx ∧ ay = by_)) (k : Nat) : spec_Heading.f (k + 5) ax ay bx by_ = some (wind (bx - ax) (by_ - ay)) := by
  unfold spec_Heading.f
  have hn : (ax == bx && (ay == by_)) = false := by
    cases h : (ax == bx && (ay == by_)) with
    | false => rfl
    | true => simp at h; exact absurd h hne
  rw [hn, spec_ok, spec_ok, decide_eq_true ha, decide_eq_true hb]
  simp only [Option.bind_some, if_true]
  unfold OkP at ha hb
  simp only [spec_Heading.j0, Option.bind_some, Bool.false_eq_true, if_false, w64 (n := bx - ax) (by omega) (by omega), w64 (n := by_ - ay) (by omega) (by omega)]
  generalize hdx : bx - ax = dx
  generalize hdy : by_ - ay = dy
  have h0 : ¬ (dx = 0 ∧ dy = 0) := fun h => hne ⟨by omega, by omega⟩
  have a1 := ab_is dx
  have a2 := ab_is dy
  simp only [spec_abs_is (n := dx) (by omega) (by omega), spec_abs_is (n := dy) (by omega) (by omega), Option.bind_some, spec_Heading.j1, spec_Heading.j2, spec_Heading.j3, spec_Heading.j4]
  rw [w64 (n := 5 * ab dy) (by omega) (by omega), w64 (n := 2 * ab dx) (by omega) (by omega), w64 (n := 5 * ab dx) (by omega) (by omega), w64 (n := 2 * ab dy) (by omega) (by omega)]
  unfold wind
  simp only [decide_eq_true_eq, Bool.false_eq_true, if_false]
  generalize ab dx = X at *
  generalize ab dy = Y at *
  repeat' split
  all_goals first | rfl | omega
theorem spec_heading_not {ax ay bx by_ : Int} (h : ¬ (OkP ax ay ∧ OkP bx by_ ∧ ¬ (ax = bx ∧ ay = by_))) (k : Nat) : spec_Heading.f (k + 1) ax ay bx by_ = some (-1) := by
  unfold spec_Heading.f
  rw [spec_ok, spec_ok]
  simp only [Option.bind_some]
  by_cases ha : OkP ax ay
  · by_cases hb : OkP bx by_
    · have he : ax = bx ∧ ay = by_ := Classical.byContradiction fun he => h ⟨ha, hb, he⟩
      obtain ⟨rfl, rfl⟩ := he
      simp [ha, spec_Heading.j0]
    · simp [ha, hb, spec_Heading.j0]
  · simp [ha, spec_Heading.j0]

theorem impl_ok (x y : Int) : impl_PointOk.f x y = some (decide (OkP x y)) := by
  unfold impl_PointOk.f OkP
  grind

theorem impl_abs_is {n : Int} (h : -9223372036854775807 ≤ n) (h' : n ≤ 9223372036854775807) : impl_abs.f n = some (ab n) := by
  unfold impl_abs.f ab
  split
  · rw [w64 (by omega) (by omega)]
  · rfl
set_option maxHeartbeats 4000000 in
theorem impl_heading {ax ay bx by_ : Int} (ha : OkP ax ay) (hb : OkP bx by_) (hne : ¬ (ax = bx ∧ ay = by_)) (k : Nat) : impl_Heading.f (k + 4) ax ay bx by_ = some (wind (bx - ax) (by_ - ay)) := by
  unfold impl_Heading.f
  have hn : (ax == bx && (ay == by_)) = false := by
    cases h : (ax == bx && (ay == by_)) with
    | false => rfl
    | true => simp at h; exact absurd h hne
  rw [hn, impl_ok, impl_ok, decide_eq_true ha, decide_eq_true hb]
  simp only [Option.bind_some, Bool.not_true, Bool.false_eq_true, if_false, if_true]
  unfold OkP at ha hb
  simp only [impl_Heading.j0, Option.bind_some, Bool.false_eq_true, if_false, w64 (n := bx - ax) (by omega) (by omega), w64 (n := by_ - ay) (by omega) (by omega)]
  generalize hdx : bx - ax = dx
  generalize hdy : by_ - ay = dy
  simp only [impl_abs_is (n := dx) (by omega) (by omega), impl_abs_is (n := dy) (by omega) (by omega), Option.bind_some, impl_Heading.j1, impl_Heading.j2, impl_Heading.j3]
  have h0 : ¬ (dx = 0 ∧ dy = 0) := fun h => hne ⟨by omega, by omega⟩
  have a1 := ab_is dx
  have a2 := ab_is dy
  have emn : 0 ≤ mn (ab dx) (ab dy) ∧ mn (ab dx) (ab dy) ≤ 20000000 := by unfold mn; split <;> omega
  have emx : 0 ≤ mx (ab dx) (ab dy) ∧ mx (ab dx) (ab dy) ≤ 20000000 := by unfold mx; split <;> omega
  rw [w64 (n := 5 * mn (ab dx) (ab dy)) (by omega) (by omega), w64 (n := 2 * mx (ab dx) (ab dy)) (by omega) (by omega)]
  unfold mn mx wind
  simp only [decide_eq_true_eq, Bool.false_eq_true, if_false]
  generalize ab dx = X at *
  generalize ab dy = Y at *
  repeat' split
  all_goals first | rfl | omega
theorem impl_heading_not {ax ay bx by_ : Int} (h : ¬ (OkP ax ay ∧ OkP bx by_ ∧ ¬ (ax = bx ∧ ay = by_))) (k : Nat) : impl_Heading.f (k + 1) ax ay bx by_ = some (-1) := by
  unfold impl_Heading.f
  by_cases he : ax = bx ∧ ay = by_
  · obtain ⟨rfl, rfl⟩ := he
    simp [impl_Heading.j0]
  · have hn : (ax == bx && (ay == by_)) = false := by
      cases h : (ax == bx && (ay == by_)) with
      | false => rfl
      | true => simp at h; exact absurd h he
    rw [hn, impl_ok, impl_ok]
    simp only [Option.bind_some, Bool.false_eq_true, if_false]
    by_cases ha : OkP ax ay
    · by_cases hb : OkP bx by_
      · exact absurd ⟨ha, hb, he⟩ h
      · simp [ha, hb, impl_Heading.j0]
    · simp [ha, impl_Heading.j0]

theorem FnExactHeading : PreFnExactHeading.Pure := by
  intro ax ay bx by_ _ _ _ _
  refine ⟨5, ?_⟩
  by_cases h : OkP ax ay ∧ OkP bx by_ ∧ ¬ (ax = bx ∧ ay = by_)
  · simp [laws_FnExactHeading.f, laws_toPoint.f, spec_heading h.1 h.2.1 h.2.2 0, impl_heading h.1 h.2.1 h.2.2 1]
  · simp [laws_FnExactHeading.f, laws_toPoint.f, spec_heading_not h 4, impl_heading_not h 4]

end Go.Proofs.Ytcpgphmaibajlaa.Pure
