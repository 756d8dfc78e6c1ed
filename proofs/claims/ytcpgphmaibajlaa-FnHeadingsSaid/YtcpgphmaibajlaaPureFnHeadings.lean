/- A wind and the wind back lie four apart, turned by a quarter two, moved and three times as far the same: the law answers true at every draw. -/
import Derived.Test.YtcpgphmaibajlaaQFnHeadingsx4
import Derived.Test.YtcpgphmaibajlaaWMath
namespace Go.Proofs.Ytcpgphmaibajlaa.Pure
open Go.RowKit Go.Proofs.Ytcpgphmaibajlaa.PFnHeadings Go.Proofs.YtcpgphmaibajlaaW.PrintWords Go.Proofs.YtcpgphmaibajlaaW.PrintLast Go.Proofs.YtcpgphmaibajlaaW.PrintMore Go.Proofs.YtcpgphmaibajlaaW.Math
set_option linter.unusedVariables false
set_option linter.unusedSimpArgs false

theorem wrap64_id {n : Int} (h : -9223372036854775808 ≤ n ∧ n ≤ 9223372036854775807) : wrap64 n = n := w64 h.1 h.2
theorem wrap64_bd (n : Int) : -9223372036854775808 ≤ wrap64 n ∧ wrap64 n ≤ 9223372036854775807 := by unfold wrap64; omega
/-- A draw's bytes. -/
def Bytes (l : List Int) : Prop := l.length ≤ 9223372036854775807
theorem draw_byte {l : List Int} (hl : Bytes l) {i h : Int} (hi : 0 ≤ i) : ∃ x i' h', spec_l1Byte.f l i h = some (x, i', h') ∧ 0 ≤ x ∧ x ≤ 255 ∧ 0 ≤ i' := by
  unfold Bytes at hl
  unfold spec_l1Byte.f
  by_cases hlt : i < (l.length : Int)
  · rw [if_pos hlt, if_pos hi]
    refine ⟨_, _, _, rfl, ?_, ?_, ?_⟩
    · exact (and_mask _ 255 (by omega) (by omega)).1
    · exact (and_mask _ 255 (by omega) (by omega)).2
    · rw [w64 (by omega) (by omega)]; omega
  · rw [if_neg hlt]
    refine ⟨_, _, _, rfl, ?_, ?_, hi⟩
    · exact (and_mask _ 255 (by omega) (by omega)).1
    · exact (and_mask _ 255 (by omega) (by omega)).2
theorem draw_below {l : List Int} (hl : Bytes l) {i h n : Int} (hi : 0 ≤ i) (hn : 0 < n) : ∃ x i' h', spec_l1Below.f l i h n = some (x, i', h') ∧ 0 ≤ x ∧ x < n ∧ 0 ≤ i' := by
  unfold spec_l1Below.f
  rw [if_neg (by omega)]
  by_cases h256 : n ≤ 256
  · rw [if_pos h256]
    obtain ⟨x, i', h', e, x0, x1, i0⟩ := draw_byte hl (h := h) hi
    rw [e]
    simp only [Option.bind_some]
    rw [if_neg (by omega)]
    refine ⟨_, _, _, rfl, ?_, ?_, i0⟩
    · rw [Int.tmod_eq_emod_of_nonneg x0]; exact Int.emod_nonneg _ (by omega)
    · rw [Int.tmod_eq_emod_of_nonneg x0]; exact Int.emod_lt_of_pos _ hn
  · rw [if_neg h256]
    obtain ⟨x1, i1, h1, e1, a1, b1, c1⟩ := draw_byte hl (h := h) hi
    obtain ⟨x2, i2, h2, e2, a2, b2, c2⟩ := draw_byte hl (h := h1) c1
    obtain ⟨x3, i3, h3, e3, a3, b3, c3⟩ := draw_byte hl (h := h2) c2
    obtain ⟨x4, i4, h4, e4, a4, b4, c4⟩ := draw_byte hl (h := h3) c3
    rw [e1]
    simp only [Option.bind_some]
    rw [e2]
    simp only [Option.bind_some]
    rw [e3]
    simp only [Option.bind_some]
    rw [e4]
    simp only [Option.bind_some]
    rw [if_neg (by omega), w64 (n := x1 * 16777216) (by omega) (by omega), w64 (n := x2 * 65536) (by omega) (by omega), w64 (n := x3 * 256) (by omega) (by omega), w64 (n := x1 * 16777216 + x2 * 65536) (by omega) (by omega), w64 (n := x1 * 16777216 + x2 * 65536 + x3 * 256) (by omega) (by omega), w64 (by omega) (by omega)]
    have hx : 0 ≤ x1 * 16777216 + x2 * 65536 + x3 * 256 + x4 := by omega
    refine ⟨_, _, _, rfl, ?_, ?_, c4⟩
    · rw [Int.tmod_eq_emod_of_nonneg hx]; exact Int.emod_nonneg _ (by omega)
    · rw [Int.tmod_eq_emod_of_nonneg hx]; exact Int.emod_lt_of_pos _ hn
theorem draw_below0 (l : List Int) (i h : Int) {n : Int} (hn : n ≤ 0) : spec_l1Below.f l i h n = some (0, i, h) := by
  unfold spec_l1Below.f
  rw [if_pos hn]
theorem new_loop (l : List Int) (hl : Bytes l) (d : Nat) : ∀ (k : Nat) (h : Int) (j : Nat), j + d = l.length → d < k → ∃ h', spec_l1New.l0 k l h j = some (l, 0, h') := by
  unfold Bytes at hl
  induction d with
  | zero =>
    intro k h j hj hk
    obtain ⟨k, rfl⟩ : ∃ m, k = m + 1 := ⟨k - 1, by omega⟩
    exact ⟨h, by simp only [spec_l1New.l0]; rw [if_neg (by omega)]⟩
  | succ d ih =>
    intro k h j hj hk
    obtain ⟨k, rfl⟩ : ∃ m, k = m + 1 := ⟨k - 1, by omega⟩
    obtain ⟨h', e⟩ := ih k (Go.bits .and .i64 (wrap64 ((wrap64 ((wrap64 (h * 149)) + (wrap64 (rd l j)))) + 3)) 1073741823) (j + 1) (by omega) (by omega)
    refine ⟨h', ?_⟩
    simp only [spec_l1New.l0]
    rw [if_pos (by omega), if_pos (by omega), w64 (n := (j : Int) + 1) (by omega) (by omega)]
    exact e
theorem draw_new {l : List Int} (hl : Bytes l) {k : Nat} (hk : l.length < k) : ∃ h, spec_l1New.f k l = some (l, 0, h) := by
  unfold spec_l1New.f
  exact new_loop l hl l.length k _ 0 (by omega) hk

theorem draw_once {l : List Int} (hl : Bytes l) {i h n : Int} (hi : 0 ≤ i) (hn : 0 < n) : ∃ b i' h', spec_l1Once.f l i h n = some (b, i', h') ∧ 0 ≤ i' := by
  obtain ⟨x, i', h', e, _, _, i0⟩ := draw_below hl (h := h) hi hn
  unfold spec_l1Once.f
  rw [e]
  exact ⟨_, _, _, rfl, i0⟩

/-- What a draw gives for a coordinate. -/
def Near62 (x : Int) : Prop := -4611686018427387904 ≤ x ∧ x ≤ 10000001
theorem draw_point {l : List Int} (hl : Bytes l) {k : Nat} {i h : Int} (hi : 0 ≤ i) : ∃ x y i' h', spec_l1DrawPoint.f (k + 1) l i h = some (x, y, i', h') ∧ Near62 x ∧ (-10000000 ≤ y ∧ y ≤ 10000000) ∧ 0 ≤ i' := by
  unfold spec_l1DrawPoint.f
  obtain ⟨x, i1, h1, e1, x0, x1, c1⟩ := draw_below hl (h := h) (n := 41) hi (by omega)
  obtain ⟨y, i2, h2, e2, y0, y1, c2⟩ := draw_below hl (h := h1) (n := 41) c1 (by omega)
  obtain ⟨z, i3, h3, e3, z0, z1, c3⟩ := draw_below hl (h := h2) (n := 12) c2 (by omega)
  rw [e1]; simp only [Option.bind_some]
  rw [e2]; simp only [Option.bind_some]
  rw [e3]; simp only [Option.bind_some]
  have key : ∀ x y : Int, Near62 x → (-10000000 ≤ y ∧ y ≤ 10000000) → ∃ x' y' i' h', spec_l1DrawPoint.j0 (k + 1) x y l i3 h3 = some (x', y', i', h') ∧ Near62 x' ∧ (-10000000 ≤ y' ∧ y' ≤ 10000000) ∧ 0 ≤ i' := by
    intro x y hx hy
    simp only [spec_l1DrawPoint.j0]
    obtain ⟨b, i4, h4, e4, c4⟩ := draw_once hl (h := h3) (n := 60) c3 (by omega)
    rw [e4]; simp only [Option.bind_some]
    cases b with
    | false => exact ⟨_, _, _, _, rfl, hx, hy, c4⟩
    | true =>
      obtain ⟨w, i5, h5, e5, w0, w1, c5⟩ := draw_below hl (h := h4) (n := 4) c4 (by omega)
      rw [if_pos rfl, e5]; simp only [Option.bind_some]
      rw [if_pos w0, if_pos (by simpa using w1)]
      refine ⟨_, _, _, _, rfl, ?_, hy, c5⟩
      rcases (show w = 0 ∨ w = 1 ∨ w = 2 ∨ w = 3 by omega) with rfl | rfl | rfl | rfl <;> (unfold Near62 rd; simp)
  have e20 : wrap64 (x - 20) = x - 20 := w64 (by omega) (by omega)
  have f20 : wrap64 (y - 20) = y - 20 := w64 (by omega) (by omega)
  rw [e20, f20, w64 (n := (x - 20) * 500000) (by omega) (by omega), w64 (n := (y - 20) * 500000) (by omega) (by omega), w64 (n := (x - 20) * 321) (by omega) (by omega), w64 (n := (y - 20) * 777) (by omega) (by omega)]
  unfold Near62 at key ⊢
  split
  · exact key _ _ (by omega) (by omega)
  · split
    · exact key _ _ (by omega) (by omega)
    · split
      · exact key _ _ (by omega) (by omega)
      · exact key _ _ (by omega) (by omega)

theorem impl_ok (x y : Int) : impl_PointOk.f x y = some (decide (OkP x y)) := by
  unfold impl_PointOk.f OkP
  grind

/-- The size of a number. -/
def ab (n : Int) : Int := if n < 0 then -n else n
/-- The wind of a step: which of eight it is nearest to. -/
def wind (dx dy : Int) : Int :=
  if 5 * ab dy < 2 * ab dx then (if dx > 0 then 0 else 4) else if 5 * ab dx < 2 * ab dy then (if dy > 0 then 2 else 6)
  else if dx > 0 ∧ dy > 0 then 1 else if dx < 0 ∧ dy > 0 then 3 else if dx < 0 then 5 else 7
theorem ab_is (n : Int) : (n < 0 ∧ ab n = -n) ∨ (0 ≤ n ∧ ab n = n) := by unfold ab; split <;> omega

theorem impl_abs_is {n : Int} (h : -9223372036854775807 ≤ n) (h' : n ≤ 9223372036854775807) : impl_abs.f n = some (ab n) := by
  unfold impl_abs.f ab
  split
  · rw [w64 (by omega) (by omega)]
  · rfl
set_option maxHeartbeats 4000000 in
theorem impl_heading {ax ay bx by_ : Int} (ha : OkP ax ay) (hb : OkP bx by_) (hne : ¬ (ax = bx ∧ ay = by_)) (k : Nat) : impl_Heading.f (k + 4) ax ay bx by_ = some (wind (bx - ax) (by_ - ay)) := by
  unfold impl_Heading.f
  have hn : (ax == bx && (ay == by_)) = false := by
    cases h : (ax == bx && (ay == by_)) with
    | false => rfl
    | true => simp at h; exact absurd h hne
  rw [hn, impl_ok, impl_ok, decide_eq_true ha, decide_eq_true hb]
  simp only [Option.bind_some, Bool.not_true, Bool.false_eq_true, if_false, if_true]
  unfold OkP at ha hb
  simp only [impl_Heading.j0, Option.bind_some, Bool.false_eq_true, if_false, w64 (n := bx - ax) (by omega) (by omega), w64 (n := by_ - ay) (by omega) (by omega)]
  generalize hdx : bx - ax = dx
  generalize hdy : by_ - ay = dy
  simp only [impl_abs_is (n := dx) (by omega) (by omega), impl_abs_is (n := dy) (by omega) (by omega), Option.bind_some, impl_Heading.j1, impl_Heading.j2, impl_Heading.j3]
  have h0 : ¬ (dx = 0 ∧ dy = 0) := fun h => hne ⟨by omega, by omega⟩
  have a1 := ab_is dx
  have a2 := ab_is dy
  have emn : 0 ≤ mn (ab dx) (ab dy) ∧ mn (ab dx) (ab dy) ≤ 20000000 := by unfold mn; split <;> omega
  have emx : 0 ≤ mx (ab dx) (ab dy) ∧ mx (ab dx) (ab dy) ≤ 20000000 := by unfold mx; split <;> omega
  rw [w64 (n := 5 * mn (ab dx) (ab dy)) (by omega) (by omega), w64 (n := 2 * mx (ab dx) (ab dy)) (by omega) (by omega)]
  unfold mn mx wind
  simp only [decide_eq_true_eq, Bool.false_eq_true, if_false]
  generalize ab dx = X at *
  generalize ab dy = Y at *
  repeat' split
  all_goals first | rfl | omega
theorem impl_heading_not {ax ay bx by_ : Int} (h : ¬ (OkP ax ay ∧ OkP bx by_ ∧ ¬ (ax = bx ∧ ay = by_))) (k : Nat) : impl_Heading.f (k + 1) ax ay bx by_ = some (-1) := by
  unfold impl_Heading.f
  by_cases he : ax = bx ∧ ay = by_
  · obtain ⟨rfl, rfl⟩ := he
    simp [impl_Heading.j0]
  · have hn : (ax == bx && (ay == by_)) = false := by
      cases h : (ax == bx && (ay == by_)) with
      | false => rfl
      | true => simp at h; exact absurd h he
    rw [hn, impl_ok, impl_ok]
    simp only [Option.bind_some, Bool.false_eq_true, if_false]
    by_cases ha : OkP ax ay
    · by_cases hb : OkP bx by_
      · exact absurd ⟨ha, hb, he⟩ h
      · simp [ha, hb, impl_Heading.j0]
    · simp [ha, impl_Heading.j0]

theorem draw_heading {l : List Int} (hl : Bytes l) : ∃ ax ay bx by_, spec_DrawHeading.f (l.length + 1) l = some (ax, ay, bx, by_) ∧ (Near62 ax ∧ -10000000 ≤ ay ∧ ay ≤ 10000000) ∧ (-4611686018427387909 ≤ bx ∧ bx ≤ 10000006) ∧ -10000010 ≤ by_ ∧ by_ ≤ 10000010 := by
  unfold spec_DrawHeading.f
  obtain ⟨h0, e0⟩ := draw_new hl (k := l.length + 1) (by omega)
  rw [e0]; simp only [Option.bind_some]
  obtain ⟨ax, ay, i1, h1, e1, r1, s1, c1⟩ := draw_point hl (k := l.length) (h := h0) (Int.le_refl 0)
  rw [e1]; simp only [Option.bind_some]
  obtain ⟨bx, by_, i2, h2, e2, r2, s2, c2⟩ := draw_point hl (k := l.length) (h := h1) c1
  rw [e2]; simp only [Option.bind_some]
  obtain ⟨b, i3, h3, e3, c3⟩ := draw_once hl (h := h2) (n := 4) c2 (by omega)
  rw [e3]; simp only [Option.bind_some]
  unfold Near62 at *
  cases b with
  | false => exact ⟨_, _, _, _, rfl, ⟨r1, s1⟩, by omega, by omega, by omega⟩
  | true =>
    obtain ⟨x, i4, h4, e4, x0, x1, c4⟩ := draw_below hl (h := h3) (n := 3) c3 (by omega)
    obtain ⟨y, i5, h5, e5, y0, y1, c5⟩ := draw_below hl (h := h4) (n := 3) c4 (by omega)
    rw [if_pos rfl, e4]; simp only [Option.bind_some]
    rw [e5]; simp only [Option.bind_some]
    rw [w64 (n := x - 1) (by omega) (by omega), w64 (n := y - 1) (by omega) (by omega), w64 (n := 5 * (x - 1)) (by omega) (by omega), w64 (n := 2 * (y - 1)) (by omega) (by omega), w64 (by omega) (by omega), w64 (by omega) (by omega)]
    exact ⟨_, _, _, _, rfl, ⟨r1, s1⟩, by omega, by omega, by omega⟩
theorem wind_bd (dx dy : Int) : 0 ≤ wind dx dy ∧ wind dx dy ≤ 7 := by
  unfold wind
  repeat' split
  all_goals omega
theorem wind_back {dx dy : Int} (h : ¬ (dx = 0 ∧ dy = 0)) : wind (-dx) (-dy) = (wind dx dy + 4) % 8 := by
  have a1 := ab_is dx
  have a2 := ab_is dy
  have a3 := ab_is (-dx)
  have a4 := ab_is (-dy)
  unfold wind
  generalize ab dx = X at *
  generalize ab dy = Y at *
  generalize ab (-dx) = X' at *
  generalize ab (-dy) = Y' at *
  repeat' split
  all_goals omega
theorem wind_quarter {dx dy : Int} (h : ¬ (dx = 0 ∧ dy = 0)) : wind (-dy) dx = (wind dx dy + 2) % 8 := by
  have a1 := ab_is dx
  have a2 := ab_is dy
  have a4 := ab_is (-dy)
  unfold wind
  generalize ab dx = X at *
  generalize ab dy = Y at *
  generalize ab (-dy) = Y' at *
  repeat' split
  all_goals omega
theorem wind_far (dx dy : Int) : wind (3 * dx) (3 * dy) = wind dx dy := by
  have a1 := ab_is dx
  have a2 := ab_is dy
  have a3 := ab_is (3 * dx)
  have a4 := ab_is (3 * dy)
  unfold wind
  generalize ab dx = X at *
  generalize ab dy = Y at *
  generalize ab (3 * dx) = X' at *
  generalize ab (3 * dy) = Y' at *
  repeat' split
  all_goals omega
theorem heading_or (ax ay bx by_ : Int) (k : Nat) : impl_Heading.f (k + 4) ax ay bx by_ = some (-1) ∨ (OkP ax ay ∧ OkP bx by_ ∧ ¬ (ax = bx ∧ ay = by_) ∧ impl_Heading.f (k + 4) ax ay bx by_ = some (wind (bx - ax) (by_ - ay))) := by
  by_cases h : OkP ax ay ∧ OkP bx by_ ∧ ¬ (ax = bx ∧ ay = by_)
  · exact .inr ⟨h.1, h.2.1, h.2.2, impl_heading h.1 h.2.1 h.2.2 k⟩
  · exact .inl (impl_heading_not h (k + 3))
theorem tmod8 {n : Int} (h : 0 ≤ n) : Int.tmod n 8 = n % 8 := Int.tmod_eq_emod_of_nonneg h
theorem FnHeadings : laws_FnHeadings.Pure := by
  intro l hl _ _
  have hb : Bytes l := hl
  by_cases hbig : (l.length : Int) > 1048576
  · exact ⟨0, by simp [laws_FnHeadings.f, laws_big.f, hbig]⟩
  · obtain ⟨ax, ay, bx, by_, e, ha, hbx, hby⟩ := draw_heading hb
    refine ⟨l.length + 5, ?_⟩
    have e' := at_rounds (g := fun k => spec_DrawHeading.f k l) (fun k => spec_DrawHeading.mono l k) (show l.length + 1 ≤ l.length + 5 by omega) e
    unfold Near62 at ha
    unfold laws_FnHeadings.f laws_big.f
    simp only [Option.bind_some, hbig, decide_false, Bool.false_eq_true, if_false]
    rw [e']; simp only [Option.bind_some]
    have e11 : impl_Heading.f (l.length + 5) 0 0 1 1 = some 1 := impl_heading (ax := 0) (ay := 0) (bx := 1) (by_ := 1) (by decide) (by decide) (by decide) (l.length + 1)
    by_cases h : OkP ax ay ∧ OkP bx by_ ∧ ¬ (ax = bx ∧ ay = by_)
    · obtain ⟨h1, h2, h3⟩ := h
      have w0 := wind_bd (bx - ax) (by_ - ay)
      have hne : ¬ (bx - ax = 0 ∧ by_ - ay = 0) := fun h => h3 ⟨by omega, by omega⟩
      rw [impl_heading h1 h2 h3 (l.length + 1), e11]
      simp only [Option.bind_some, if_true]
      rw [if_neg (by omega), impl_heading h2 h1 (fun h => h3 ⟨h.1.symm, h.2.symm⟩) (l.length + 1)]
      simp only [Option.bind_some]
      have b1 : wind (ax - bx) (ay - by_) = (wind (bx - ax) (by_ - ay) + 4) % 8 := by
        rw [← wind_back hne, show ax - bx = -(bx - ax) by omega, show ay - by_ = -(by_ - ay) by omega]
      rw [w64 (n := wind (bx - ax) (by_ - ay) + 4) (by omega) (by omega), tmod8 (by omega), b1, if_pos rfl]
      obtain ⟨p1, p2, p3, p4⟩ := id h1
      obtain ⟨q1, q2, q3, q4⟩ := id h2
      rw [w64 (n := by_ - ay) (by omega) (by omega), w64 (n := bx - ax) (by omega) (by omega), w64 (n := -(by_ - ay)) (by omega) (by omega), w64 (n := 3 * (bx - ax)) (by omega) (by omega), w64 (n := 3 * (by_ - ay)) (by omega) (by omega), w64 (n := 1 + 3 * (bx - ax)) (by omega) (by omega), w64 (n := 2 + 3 * (by_ - ay)) (by omega) (by omega), w64 (n := wind (bx - ax) (by_ - ay) + 2) (by omega) (by omega), tmod8 (by omega)]
      have c1 := heading_or 0 0 (-(by_ - ay)) (bx - ax) (l.length + 1)
      have c2 := heading_or 1 2 (1 + 3 * (bx - ax)) (2 + 3 * (by_ - ay)) (l.length + 1)
      have d2 : wind (1 + 3 * (bx - ax) - 1) (2 + 3 * (by_ - ay) - 2) = wind (bx - ax) (by_ - ay) := by
        rw [show 1 + 3 * (bx - ax) - 1 = 3 * (bx - ax) by omega, show 2 + 3 * (by_ - ay) - 2 = 3 * (by_ - ay) by omega, wind_far]
      have d1 : wind (-(by_ - ay) - 0) (bx - ax - 0) = (wind (bx - ax) (by_ - ay) + 2) % 8 := by
        rw [← wind_quarter hne, Int.sub_zero, Int.sub_zero]
      rw [d2] at c2
      rw [d1] at c1
      rcases c1 with c1 | ⟨_, _, _, c1⟩ <;> rcases c2 with c2 | ⟨_, _, _, c2⟩ <;> (rw [c1]; simp only [Option.bind_some]; rw [c2]; simp only [Option.bind_some]) <;> (repeat' split) <;> first | rfl | omega | (exact absurd trivial (by assumption)) | (simp; omega)
    · rw [show l.length + 5 = (l.length + 4) + 1 from rfl, impl_heading_not h (l.length + 4), show (l.length + 4) + 1 = l.length + 5 from rfl, e11]
      simp only [Option.bind_some, if_true, impl_ok]
      rw [if_pos (by omega)]
      by_cases he : ax = bx ∧ ay = by_
      · obtain ⟨rfl, rfl⟩ := he
        simp
      · have hn : (ax == bx && (ay == by_)) = false := by
          cases h : (ax == bx && (ay == by_)) with
          | false => rfl
          | true => simp at h; exact absurd h he
        rw [hn]
        simp only [Bool.false_eq_true, if_false]
        by_cases h1 : OkP ax ay
        · by_cases h2 : OkP bx by_
          · exact absurd ⟨h1, h2, he⟩ h
          · simp [h1, h2]
        · simp [h1]

end Go.Proofs.Ytcpgphmaibajlaa.Pure
