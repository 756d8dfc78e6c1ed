/- Turning round the other way is the other way; a stretch crosses another one just where that crosses it, and itself: the law answers true at every draw. -/
import Derived.Test.YtcpgphmaibajlaaQFnTurnsx6
import Derived.Test.YtcpgphmaibajlaaWMath
namespace Go.Proofs.Ytcpgphmaibajlaa.Pure
open Go.RowKit Go.Proofs.Ytcpgphmaibajlaa.PFnTurns Go.Proofs.YtcpgphmaibajlaaW.PrintWords Go.Proofs.YtcpgphmaibajlaaW.PrintLast Go.Proofs.YtcpgphmaibajlaaW.PrintMore Go.Proofs.YtcpgphmaibajlaaW.Math
set_option linter.unusedVariables false
set_option linter.unusedSimpArgs false

theorem wrap64_id {n : Int} (h : -9223372036854775808 ≤ n ∧ n ≤ 9223372036854775807) : wrap64 n = n := w64 h.1 h.2
theorem wrap64_bd (n : Int) : -9223372036854775808 ≤ wrap64 n ∧ wrap64 n ≤ 9223372036854775807 := by unfold wrap64; omega
/-- A draw's bytes. -/
def Bytes (l : List Int) : Prop := l.length ≤ 9223372036854775807
theorem draw_byte {l : List Int} (hl : Bytes l) {i h : Int} (hi : 0 ≤ i) : ∃ x i' h', spec_l1Byte.f l i h = some (x, i', h') ∧ 0 ≤ x ∧ x ≤ 255 ∧ 0 ≤ i' := by
  unfold Bytes at hl
  unfold spec_l1Byte.f
  by_cases hlt : i < (l.length : Int)
  · rw [if_pos hlt, if_pos hi]
    refine ⟨_, _, _, rfl, ?_, ?_, ?_⟩
    · exact (and_mask _ 255 (by omega) (by omega)).1
    · exact (and_mask _ 255 (by omega) (by omega)).2
    · rw [w64 (by omega) (by omega)]; omega
  · rw [if_neg hlt]
    refine ⟨_, _, _, rfl, ?_, ?_, hi⟩
    · exact (and_mask _ 255 (by omega) (by omega)).1
    · exact (and_mask _ 255 (by omega) (by omega)).2
theorem draw_below {l : List Int} (hl : Bytes l) {i h n : Int} (hi : 0 ≤ i) (hn : 0 < n) : ∃ x i' h', spec_l1Below.f l i h n = some (x, i', h') ∧ 0 ≤ x ∧ x < n ∧ 0 ≤ i' := by
  unfold spec_l1Below.f
  rw [if_neg (by omega)]
  by_cases h256 : n ≤ 256
  · rw [if_pos h256]
    obtain ⟨x, i', h', e, x0, x1, i0⟩ := draw_byte hl (h := h) hi
    rw [e]
    simp only [Option.bind_some]
    rw [if_neg (by omega)]
    refine ⟨_, _, _, rfl, ?_, ?_, i0⟩
    · rw [Int.tmod_eq_emod_of_nonneg x0]; exact Int.emod_nonneg _ (by omega)
    · rw [Int.tmod_eq_emod_of_nonneg x0]; exact Int.emod_lt_of_pos _ hn
  · rw [if_neg h256]
    obtain ⟨x1, i1, h1, e1, a1, b1, c1⟩ := draw_byte hl (h := h) hi
    obtain ⟨x2, i2, h2, e2, a2, b2, c2⟩ := draw_byte hl (h := h1) c1
    obtain ⟨x3, i3, h3, e3, a3, b3, c3⟩ := draw_byte hl (h := h2) c2
    obtain ⟨x4, i4, h4, e4, a4, b4, c4⟩ := draw_byte hl (h := h3) c3
    rw [e1]
    simp only [Option.bind_some]
    rw [e2]
    simp only [Option.bind_some]
    rw [e3]
    simp only [Option.bind_some]
    rw [e4]
    simp only [Option.bind_some]
    rw [if_neg (by omega), w64 (n := x1 * 16777216) (by omega) (by omega), w64 (n := x2 * 65536) (by omega) (by omega), w64 (n := x3 * 256) (by omega) (by omega), w64 (n := x1 * 16777216 + x2 * 65536) (by omega) (by omega), w64 (n := x1 * 16777216 + x2 * 65536 + x3 * 256) (by omega) (by omega), w64 (by omega) (by omega)]
    have hx : 0 ≤ x1 * 16777216 + x2 * 65536 + x3 * 256 + x4 := by omega
    refine ⟨_, _, _, rfl, ?_, ?_, c4⟩
    · rw [Int.tmod_eq_emod_of_nonneg hx]; exact Int.emod_nonneg _ (by omega)
    · rw [Int.tmod_eq_emod_of_nonneg hx]; exact Int.emod_lt_of_pos _ hn
theorem draw_below0 (l : List Int) (i h : Int) {n : Int} (hn : n ≤ 0) : spec_l1Below.f l i h n = some (0, i, h) := by
  unfold spec_l1Below.f
  rw [if_pos hn]
theorem new_loop (l : List Int) (hl : Bytes l) (d : Nat) : ∀ (k : Nat) (h : Int) (j : Nat), j + d = l.length → d < k → ∃ h', spec_l1New.l0 k l h j = some (l, 0, h') := by
  unfold Bytes at hl
  induction d with
  | zero =>
    intro k h j hj hk
    obtain ⟨k, rfl⟩ : ∃ m, k = m + 1 := ⟨k - 1, by omega⟩
    exact ⟨h, by simp only [spec_l1New.l0]; rw [if_neg (by omega)]⟩
  | succ d ih =>
    intro k h j hj hk
    obtain ⟨k, rfl⟩ : ∃ m, k = m + 1 := ⟨k - 1, by omega⟩
    obtain ⟨h', e⟩ := ih k (Go.bits .and .i64 (wrap64 ((wrap64 ((wrap64 (h * 149)) + (wrap64 (rd l j)))) + 3)) 1073741823) (j + 1) (by omega) (by omega)
    refine ⟨h', ?_⟩
    simp only [spec_l1New.l0]
    rw [if_pos (by omega), if_pos (by omega), w64 (n := (j : Int) + 1) (by omega) (by omega)]
    exact e
theorem draw_new {l : List Int} (hl : Bytes l) {k : Nat} (hk : l.length < k) : ∃ h, spec_l1New.f k l = some (l, 0, h) := by
  unfold spec_l1New.f
  exact new_loop l hl l.length k _ 0 (by omega) hk

theorem draw_once {l : List Int} (hl : Bytes l) {i h n : Int} (hi : 0 ≤ i) (hn : 0 < n) : ∃ b i' h', spec_l1Once.f l i h n = some (b, i', h') ∧ 0 ≤ i' := by
  obtain ⟨x, i', h', e, _, _, i0⟩ := draw_below hl (h := h) hi hn
  unfold spec_l1Once.f
  rw [e]
  exact ⟨_, _, _, rfl, i0⟩

/-- What a draw gives for a coordinate. -/
def Near62 (x : Int) : Prop := -4611686018427387904 ≤ x ∧ x ≤ 10000001
theorem draw_point {l : List Int} (hl : Bytes l) {k : Nat} {i h : Int} (hi : 0 ≤ i) : ∃ x y i' h', spec_l1DrawPoint.f (k + 1) l i h = some (x, y, i', h') ∧ Near62 x ∧ (-10000000 ≤ y ∧ y ≤ 10000000) ∧ 0 ≤ i' := by
  unfold spec_l1DrawPoint.f
  obtain ⟨x, i1, h1, e1, x0, x1, c1⟩ := draw_below hl (h := h) (n := 41) hi (by omega)
  obtain ⟨y, i2, h2, e2, y0, y1, c2⟩ := draw_below hl (h := h1) (n := 41) c1 (by omega)
  obtain ⟨z, i3, h3, e3, z0, z1, c3⟩ := draw_below hl (h := h2) (n := 12) c2 (by omega)
  rw [e1]; simp only [Option.bind_some]
  rw [e2]; simp only [Option.bind_some]
  rw [e3]; simp only [Option.bind_some]
  have key : ∀ x y : Int, Near62 x → (-10000000 ≤ y ∧ y ≤ 10000000) → ∃ x' y' i' h', spec_l1DrawPoint.j0 (k + 1) x y l i3 h3 = some (x', y', i', h') ∧ Near62 x' ∧ (-10000000 ≤ y' ∧ y' ≤ 10000000) ∧ 0 ≤ i' := by
    intro x y hx hy
    simp only [spec_l1DrawPoint.j0]
    obtain ⟨b, i4, h4, e4, c4⟩ := draw_once hl (h := h3) (n := 60) c3 (by omega)
    rw [e4]; simp only [Option.bind_some]
    cases b with
    | false => exact ⟨_, _, _, _, rfl, hx, hy, c4⟩
    | true =>
      obtain ⟨w, i5, h5, e5, w0, w1, c5⟩ := draw_below hl (h := h4) (n := 4) c4 (by omega)
      rw [if_pos rfl, e5]; simp only [Option.bind_some]
      rw [if_pos w0, if_pos (by simpa using w1)]
      refine ⟨_, _, _, _, rfl, ?_, hy, c5⟩
      rcases (show w = 0 ∨ w = 1 ∨ w = 2 ∨ w = 3 by omega) with rfl | rfl | rfl | rfl <;> (unfold Near62 rd; simp)
  have e20 : wrap64 (x - 20) = x - 20 := w64 (by omega) (by omega)
  have f20 : wrap64 (y - 20) = y - 20 := w64 (by omega) (by omega)
  rw [e20, f20, w64 (n := (x - 20) * 500000) (by omega) (by omega), w64 (n := (y - 20) * 500000) (by omega) (by omega), w64 (n := (x - 20) * 321) (by omega) (by omega), w64 (n := (y - 20) * 777) (by omega) (by omega)]
  unfold Near62 at key ⊢
  split
  · exact key _ _ (by omega) (by omega)
  · split
    · exact key _ _ (by omega) (by omega)
    · split
      · exact key _ _ (by omega) (by omega)
      · exact key _ _ (by omega) (by omega)

theorem impl_ok (x y : Int) : impl_PointOk.f x y = some (decide (OkP x y)) := by
  unfold impl_PointOk.f OkP
  grind

theorem impl_sg (n : Int) : impl_sgn.f n = some (sg n) := by unfold impl_sgn.f sg; repeat' split <;> simp_all
theorem impl_trn {ax ay bx by_ cx cy : Int} (ha : OkP ax ay) (hb : OkP bx by_) (hc : OkP cx cy) : impl_turn.f ax ay bx by_ cx cy = some (sg (det ax ay bx by_ cx cy)) := by
  unfold OkP at *
  have h1 := mul_bd (p := bx - ax) (q := cy - by_) (B := 20000000) (C := 20000000) (by omega) (by omega) (by omega) (by omega)
  have h2 := mul_bd (p := by_ - ay) (q := cx - bx) (B := 20000000) (C := 20000000) (by omega) (by omega) (by omega) (by omega)
  unfold impl_turn.f
  rw [w64 (n := bx - ax) (by omega) (by omega), w64 (n := cy - by_) (by omega) (by omega), w64 (n := by_ - ay) (by omega) (by omega), w64 (n := cx - bx) (by omega) (by omega),
    w64 (n := (bx - ax) * (cy - by_)) (by omega) (by omega), w64 (n := (by_ - ay) * (cx - bx)) (by omega) (by omega), w64 (by omega) (by omega), impl_sg, det_alt]
  rfl

/-- p lies on the closed stretch from a to b. -/
def On (ax ay bx by_ px py : Int) : Prop := det ax ay bx by_ px py = 0 ∧ (ax ≤ px ∧ px ≤ bx ∨ bx ≤ px ∧ px ≤ ax) ∧ (ay ≤ py ∧ py ≤ by_ ∨ by_ ≤ py ∧ py ≤ ay)
instance (ax ay bx by_ px py : Int) : Decidable (On ax ay bx by_ px py) := by unfold On; infer_instance
theorem sg_zero (n : Int) : sg n = 0 ↔ n = 0 := by unfold sg; repeat' split <;> omega
/-- Two closed stretches have a place in common. -/
def Meet (ax ay bx by_ cx cy dx dy : Int) : Prop :=
  On ax ay bx by_ cx cy ∨ On ax ay bx by_ dx dy ∨ On cx cy dx dy ax ay ∨ On cx cy dx dy bx by_ ∨
    (sg (det ax ay bx by_ cx cy) * sg (det ax ay bx by_ dx dy) < 0 ∧ sg (det cx cy dx dy ax ay) * sg (det cx cy dx dy bx by_) < 0)
instance (ax ay bx by_ cx cy dx dy : Int) : Decidable (Meet ax ay bx by_ cx cy dx dy) := by unfold Meet; infer_instance
theorem sg_bd (n : Int) : -1 ≤ sg n ∧ sg n ≤ 1 := by unfold sg; repeat' split <;> omega
theorem sg_mul (m n : Int) : wrap64 (sg m * sg n) = sg m * sg n := by
  have h := mul_bd (sg_bd m).1 (sg_bd m).2 (sg_bd n).1 (sg_bd n).2
  exact w64 (by omega) (by omega)

theorem impl_on {ax ay bx by_ px py : Int} (ha : OkP ax ay) (hb : OkP bx by_) (hp : OkP px py) : impl_onStretch.f ax ay bx by_ px py = some (decide (On ax ay bx by_ px py)) := by
  unfold impl_onStretch.f On
  rw [impl_trn ha hb hp]
  simp only [Option.bind_some, sg_zero]
  by_cases h1 : det ax ay bx by_ px py = 0
  · simp only [h1, if_true, true_and]
    have a1 : (px ≥ mn ax bx) ↔ (ax ≤ px ∨ bx ≤ px) := by unfold mn; split <;> omega
    have a2 : (px ≤ mx ax bx) ↔ (px ≤ ax ∨ px ≤ bx) := by unfold mx; split <;> omega
    have a3 : (py ≥ mn ay by_) ↔ (ay ≤ py ∨ by_ ≤ py) := by unfold mn; split <;> omega
    have a4 : (py ≤ mx ay by_) ↔ (py ≤ ay ∨ py ≤ by_) := by unfold mx; split <;> omega
    by_cases c1 : px ≥ mn ax bx
    · by_cases c2 : px ≤ mx ax bx
      · by_cases c3 : py ≥ mn ay by_
        · rw [if_pos c1, if_pos c2, if_pos c3, Option.some.injEq, decide_eq_decide]
          rw [a1] at c1; rw [a2] at c2; rw [a3] at c3; rw [a4]
          omega
        · rw [if_pos c1, if_pos c2, if_neg c3, Option.some.injEq]
          rw [a3] at c3
          exact (decide_eq_false (by omega)).symm
      · rw [if_pos c1, if_neg c2, Option.some.injEq]
        rw [a2] at c2
        exact (decide_eq_false (by omega)).symm
    · rw [if_neg c1, Option.some.injEq]
      rw [a1] at c1
      exact (decide_eq_false (by omega)).symm
  · simp [h1]

theorem impl_meet_is {ax ay bx by_ cx cy dx dy : Int} (ha : OkP ax ay) (hb : OkP bx by_) (hc : OkP cx cy) (hd : OkP dx dy) (k : Nat) : impl_meet.f (k + 1) ax ay bx by_ cx cy dx dy = some (decide (Meet ax ay bx by_ cx cy dx dy)) := by
  unfold impl_meet.f Meet
  rw [impl_on ha hb hc, impl_on ha hb hd, impl_on hc hd ha, impl_on hc hd hb]
  simp only [Option.bind_some, impl_meet.j0, impl_trn ha hb hc, impl_trn ha hb hd, impl_trn hc hd ha, impl_trn hc hd hb, sg_mul, decide_eq_true_eq]
  by_cases h1 : On ax ay bx by_ cx cy
  · simp [h1]
  · by_cases h2 : On ax ay bx by_ dx dy
    · simp [h1, h2]
    · by_cases h3 : On cx cy dx dy ax ay
      · simp [h1, h2, h3]
      · by_cases h4 : On cx cy dx dy bx by_
        · simp [h1, h2, h3, h4]
        · by_cases h5 : sg (det ax ay bx by_ cx cy) * sg (det ax ay bx by_ dx dy) < 0
          · simp [h1, h2, h3, h4, h5]
          · simp [h1, h2, h3, h4, h5]

theorem turn_is (ax ay bx by_ cx cy : Int) : impl_Turn.f ax ay bx by_ cx cy = some (if OkP ax ay ∧ OkP bx by_ ∧ OkP cx cy then sg (det ax ay bx by_ cx cy) else 2) := by
  unfold impl_Turn.f
  simp only [impl_ok, Option.bind_some, decide_eq_true_eq]
  by_cases ha : OkP ax ay
  · by_cases hb : OkP bx by_
    · by_cases hc : OkP cx cy
      · simp [ha, hb, hc, impl_trn ha hb hc]
      · simp [ha, hb, hc]
    · simp [ha, hb]
  · simp [ha]
theorem cross_is (k : Nat) (ax ay bx by_ cx cy dx dy : Int) : impl_Cross.f (k + 1) ax ay bx by_ cx cy dx dy = some (decide (OkP ax ay ∧ OkP bx by_ ∧ OkP cx cy ∧ OkP dx dy ∧ Meet ax ay bx by_ cx cy dx dy)) := by
  unfold impl_Cross.f
  simp only [impl_ok, Option.bind_some, decide_eq_true_eq]
  by_cases ha : OkP ax ay
  · by_cases hb : OkP bx by_
    · by_cases hc : OkP cx cy
      · by_cases hd : OkP dx dy
        · simp [ha, hb, hc, hd, impl_meet_is ha hb hc hd]
        · simp [ha, hb, hc, hd]
      · simp [ha, hb, hc]
    · simp [ha, hb]
  · simp [ha]
theorem sg_neg' (n : Int) : sg (-n) = -sg n := by unfold sg; repeat' split <;> omega
theorem det_rev (ax ay bx by_ cx cy : Int) : det cx cy bx by_ ax ay = -det ax ay bx by_ cx cy := by unfold det; grind
theorem det_rot (ax ay bx by_ cx cy : Int) : det bx by_ cx cy ax ay = det ax ay bx by_ cx cy := by unfold det; grind
theorem det_same (ax ay cx cy : Int) : det ax ay ax ay cx cy = 0 := by unfold det; grind
theorem det_swap (ax ay bx by_ cx cy : Int) : det bx by_ ax ay cx cy = -det ax ay bx by_ cx cy := by unfold det; grind
theorem on_swap (ax ay bx by_ px py : Int) : On bx by_ ax ay px py ↔ On ax ay bx by_ px py := by
  unfold On
  rw [det_swap]
  omega
theorem meet_comm (ax ay bx by_ cx cy dx dy : Int) : Meet cx cy dx dy ax ay bx by_ ↔ Meet ax ay bx by_ cx cy dx dy := by
  unfold Meet
  generalize On ax ay bx by_ cx cy = A
  generalize On ax ay bx by_ dx dy = B
  generalize On cx cy dx dy ax ay = C
  generalize On cx cy dx dy bx by_ = D
  grind
theorem meet_turned (ax ay bx by_ cx cy dx dy : Int) : Meet bx by_ ax ay dx dy cx cy ↔ Meet ax ay bx by_ cx cy dx dy := by
  unfold Meet
  rw [on_swap ax ay bx by_ dx dy, on_swap ax ay bx by_ cx cy, on_swap cx cy dx dy bx by_, on_swap cx cy dx dy ax ay, det_swap ax ay bx by_ dx dy, det_swap ax ay bx by_ cx cy, det_swap cx cy dx dy bx by_, det_swap cx cy dx dy ax ay, sg_neg', sg_neg', sg_neg', sg_neg', Int.neg_mul_neg, Int.neg_mul_neg, Int.mul_comm (sg (det ax ay bx by_ dx dy)), Int.mul_comm (sg (det cx cy dx dy bx by_))]
  generalize On ax ay bx by_ cx cy = A
  generalize On ax ay bx by_ dx dy = B
  generalize On cx cy dx dy ax ay = C
  generalize On cx cy dx dy bx by_ = D
  grind
theorem meet_self (ax ay bx by_ : Int) : Meet ax ay bx by_ ax ay bx by_ := by
  refine .inl ⟨?_, ?_, ?_⟩
  · unfold det; grind
  · omega
  · omega
theorem draw_turn {l : List Int} (hl : Bytes l) (k : Nat) (hk : l.length < k) : ∃ a b c d e f, spec_DrawTurn.f k l = some (a, b, c, d, e, f) := by
  unfold spec_DrawTurn.f
  obtain ⟨k, rfl⟩ : ∃ m, k = m + 1 := ⟨k - 1, by omega⟩
  obtain ⟨h0, e0⟩ := draw_new hl hk
  rw [e0]; simp only [Option.bind_some]
  obtain ⟨ax, ay, i1, h1, e1, _, _, c1⟩ := draw_point hl (k := k) (h := h0) (Int.le_refl 0)
  rw [e1]; simp only [Option.bind_some]
  obtain ⟨bx, by_, i2, h2, e2, _, _, c2⟩ := draw_point hl (k := k) (h := h1) c1
  rw [e2]; simp only [Option.bind_some]
  obtain ⟨cx, cy, i3, h3, e3, _, _, c3⟩ := draw_point hl (k := k) (h := h2) c2
  rw [e3]; simp only [Option.bind_some]
  obtain ⟨g, i4, h4, e4, c4⟩ := draw_once hl (h := h3) (n := 4) c3 (by omega)
  rw [e4]; simp only [Option.bind_some]
  cases g with
  | false => exact ⟨_, _, _, _, _, _, rfl⟩
  | true => exact ⟨_, _, _, _, _, _, rfl⟩
theorem draw_cross_loop {l : List Int} (hl : Bytes l) (d : Nat) : ∀ (k : Nat) (xs : List S25) (i h : Int), 0 ≤ i → d + 1 < k → xs.length + d = 4 →
    ∃ a b c d' e f g j, spec_DrawCross.l0 k xs (xs.length : Int) l i h = some (a, b, c, d', e, f, g, j) := by
  induction d with
  | zero =>
    intro k xs i h hi hk hx
    obtain ⟨k, rfl⟩ : ∃ m, k = m + 1 + 1 := ⟨k - 2, by omega⟩
    simp only [spec_DrawCross.l0]
    rw [if_neg (by omega)]
    obtain ⟨g, i4, h4, e4, c4⟩ := draw_once hl (h := h) (n := 3) hi (by omega)
    rw [e4]; simp only [Option.bind_some]
    cases g with
    | false =>
      simp only [Bool.false_eq_true, if_false]
      rw [if_pos (by omega), if_pos (by omega), if_pos (by omega), if_pos (by omega)]
      exact ⟨_, _, _, _, _, _, _, _, rfl⟩
    | true =>
      simp only [if_true]
      obtain ⟨w, i5, h5, e5, w0, w1, c5⟩ := draw_below hl (h := h4) (n := 4) c4 (by omega)
      rw [e5]; simp only [Option.bind_some]
      obtain ⟨ax, ay, i6, h6, e6, _, _, c6⟩ := draw_point hl (k := k) (h := h5) c5
      rw [e6]; simp only [Option.bind_some]
      rw [if_pos w0, if_pos (by omega), if_pos (by omega), if_pos (by omega), if_pos (by omega), if_pos (by omega)]
      exact ⟨_, _, _, _, _, _, _, _, rfl⟩
  | succ d ih =>
    intro k xs i h hi hk hx
    obtain ⟨k, rfl⟩ : ∃ m, k = m + 1 := ⟨k - 1, by omega⟩
    simp only [spec_DrawCross.l0]
    rw [if_pos (by omega)]
    obtain ⟨x, i1, h1, e1, _, _, c1⟩ := draw_below hl (h := h) (n := 5) hi (by omega)
    rw [e1]; simp only [Option.bind_some]
    obtain ⟨y, i2, h2, e2, _, _, c2⟩ := draw_below hl (h := h1) (n := 5) c1 (by omega)
    rw [e2]; simp only [Option.bind_some]
    rw [if_pos (by omega), w64 (by omega) (by omega)]
    have := ih k (xs ++ [(⟨x, y⟩ : S25)]) i2 h2 c2 (by omega) (by rw [List.length_append, List.length_singleton]; omega)
    rw [List.length_append, List.length_singleton] at this
    exact this
theorem draw_cross {l : List Int} (hl : Bytes l) (k : Nat) (hk : l.length + 6 < k) : ∃ a b c d e f g h, spec_DrawCross.f k l = some (a, b, c, d, e, f, g, h) := by
  unfold spec_DrawCross.f
  obtain ⟨h0, e0⟩ := draw_new hl (k := k) (by omega)
  rw [e0]; simp only [Option.bind_some]
  exact draw_cross_loop hl 4 k [] 0 h0 (Int.le_refl 0) (by omega) rfl
theorem law_j0 {l : List Int} (hl : Bytes l) (k : Nat) (hk : l.length + 10 < k) : laws_FnTurns.j0 k l false = some true := by
  obtain ⟨k, rfl⟩ : ∃ m, k = m + 1 + 1 + 1 := ⟨k - 3, by omega⟩
  simp only [laws_FnTurns.j0, Bool.false_eq_true, if_false]
  obtain ⟨a, b, c, d, e, f, g, h, e0⟩ := draw_cross hl (k + 1 + 1) (by omega)
  rw [e0]; simp only [Option.bind_some, cross_is]
  have q1 : decide (OkP e f ∧ OkP g h ∧ OkP a b ∧ OkP c d ∧ Meet e f g h a b c d) = decide (OkP a b ∧ OkP c d ∧ OkP e f ∧ OkP g h ∧ Meet a b c d e f g h) := by
    rw [decide_eq_decide, meet_comm]; grind
  have q2 : decide (OkP c d ∧ OkP a b ∧ OkP g h ∧ OkP e f ∧ Meet c d a b g h e f) = decide (OkP a b ∧ OkP c d ∧ OkP e f ∧ OkP g h ∧ Meet a b c d e f g h) := by
    rw [decide_eq_decide, meet_turned]; grind
  rw [q1, q2]
  simp only [bne_self_eq_false, Bool.false_eq_true, if_false, laws_FnTurns.j1, impl_ok, Option.bind_some, cross_is, decide_eq_true_eq]
  by_cases h1 : OkP a b
  · by_cases h2 : OkP c d
    · simp [h1, h2, meet_self]
    · simp [h1, h2]
  · simp [h1]
theorem FnTurns : laws_FnTurns.Pure := by
  intro l hm hl hb
  have hl' : Bytes l := by unfold Bytes; omega
  refine ⟨l.length + 20, ?_⟩
  unfold laws_FnTurns.f laws_big.f
  simp only [Option.bind_some, decide_eq_true_eq]
  by_cases hbig : (l.length : Int) > 1048576
  · rw [if_pos hbig]
  · rw [if_neg hbig]
    obtain ⟨ax, ay, bx, by_, cx, cy, e0⟩ := draw_turn hl' (l.length + 20) (by omega)
    rw [e0]
    simp only [Option.bind_some, turn_is, impl_ok]
    have s0 : (if OkP 0 0 ∧ OkP 1 0 ∧ OkP 0 1 then sg (det 0 0 1 0 0 1) else 2) = 1 := by decide
    rw [if_pos s0]
    by_cases h : OkP ax ay ∧ OkP bx by_ ∧ OkP cx cy
    · obtain ⟨ha, hb', hc⟩ := h
      have bd := sg_bd (det ax ay bx by_ cx cy)
      rw [if_pos (c := OkP ax ay ∧ OkP bx by_ ∧ OkP cx cy) ⟨ha, hb', hc⟩, if_pos (c := OkP cx cy ∧ OkP bx by_ ∧ OkP ax ay) ⟨hc, hb', ha⟩, if_pos (c := OkP bx by_ ∧ OkP cx cy ∧ OkP ax ay) ⟨hb', hc, ha⟩, if_pos (c := OkP ax ay ∧ OkP ax ay ∧ OkP cx cy) ⟨ha, ha, hc⟩]
      rw [det_rev ax ay bx by_ cx cy, det_rot ax ay bx by_ cx cy, det_same ax ay cx cy, sg_neg', w64 (by omega) (by omega), if_neg (by omega), if_pos rfl, if_pos rfl]
      exact law_j0 hl' _ (by omega)
    · rw [if_neg h, if_pos rfl]
      by_cases h1 : OkP ax ay
      · by_cases h2 : OkP bx by_
        · by_cases h3 : OkP cx cy
          · exact absurd ⟨h1, h2, h3⟩ h
          · simp [h1, h2, h3]
        · simp [h1, h2]
      · simp [h1]

end Go.Proofs.Ytcpgphmaibajlaa.Pure
