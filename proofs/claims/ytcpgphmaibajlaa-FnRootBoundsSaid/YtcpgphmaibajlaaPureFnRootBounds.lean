/- A root's square is not above, the next one's is; distances are even-handed, at least each difference, and at most both together: the law answers true at every draw. -/
import Derived.Test.YtcpgphmaibajlaaQFnRootBoundsx4
import Derived.Test.YtcpgphmaibajlaaWMath
namespace Go.Proofs.Ytcpgphmaibajlaa.Pure
open Go.RowKit Go.Proofs.Ytcpgphmaibajlaa.PFnRootBounds Go.Proofs.YtcpgphmaibajlaaW.PrintWords Go.Proofs.YtcpgphmaibajlaaW.PrintLast Go.Proofs.YtcpgphmaibajlaaW.PrintMore Go.Proofs.YtcpgphmaibajlaaW.Math
set_option linter.unusedVariables false
set_option linter.unusedSimpArgs false

theorem wrap64_id {n : Int} (h : -9223372036854775808 ≤ n ∧ n ≤ 9223372036854775807) : wrap64 n = n := w64 h.1 h.2
theorem wrap64_bd (n : Int) : -9223372036854775808 ≤ wrap64 n ∧ wrap64 n ≤ 9223372036854775807 := by unfold wrap64; omega
/-- A draw's bytes. -/
def Bytes (l : List Int) : Prop := l.length ≤ 9223372036854775807
theorem draw_byte {l : List Int} (hl : Bytes l) {i h : Int} (hi : 0 ≤ i) : ∃ x i' h', spec_l1Byte.f l i h = some (x, i', h') ∧ 0 ≤ x ∧ x ≤ 255 ∧ 0 ≤ i' := by
  unfold Bytes at hl
  unfold spec_l1Byte.f
  by_cases hlt : i < (l.length : Int)
  · rw [if_pos hlt, if_pos hi]
    refine ⟨_, _, _, rfl, ?_, ?_, ?_⟩
    · exact (and_mask _ 255 (by omega) (by omega)).1
    · exact (and_mask _ 255 (by omega) (by omega)).2
    · rw [w64 (by omega) (by omega)]; omega
  · rw [if_neg hlt]
    refine ⟨_, _, _, rfl, ?_, ?_, hi⟩
    · exact (and_mask _ 255 (by omega) (by omega)).1
    · exact (and_mask _ 255 (by omega) (by omega)).2
theorem draw_below {l : List Int} (hl : Bytes l) {i h n : Int} (hi : 0 ≤ i) (hn : 0 < n) : ∃ x i' h', spec_l1Below.f l i h n = some (x, i', h') ∧ 0 ≤ x ∧ x < n ∧ 0 ≤ i' := by
  unfold spec_l1Below.f
  rw [if_neg (by omega)]
  by_cases h256 : n ≤ 256
  · rw [if_pos h256]
    obtain ⟨x, i', h', e, x0, x1, i0⟩ := draw_byte hl (h := h) hi
    rw [e]
    simp only [Option.bind_some]
    rw [if_neg (by omega)]
    refine ⟨_, _, _, rfl, ?_, ?_, i0⟩
    · rw [Int.tmod_eq_emod_of_nonneg x0]; exact Int.emod_nonneg _ (by omega)
    · rw [Int.tmod_eq_emod_of_nonneg x0]; exact Int.emod_lt_of_pos _ hn
  · rw [if_neg h256]
    obtain ⟨x1, i1, h1, e1, a1, b1, c1⟩ := draw_byte hl (h := h) hi
    obtain ⟨x2, i2, h2, e2, a2, b2, c2⟩ := draw_byte hl (h := h1) c1
    obtain ⟨x3, i3, h3, e3, a3, b3, c3⟩ := draw_byte hl (h := h2) c2
    obtain ⟨x4, i4, h4, e4, a4, b4, c4⟩ := draw_byte hl (h := h3) c3
    rw [e1]
    simp only [Option.bind_some]
    rw [e2]
    simp only [Option.bind_some]
    rw [e3]
    simp only [Option.bind_some]
    rw [e4]
    simp only [Option.bind_some]
    rw [if_neg (by omega), w64 (n := x1 * 16777216) (by omega) (by omega), w64 (n := x2 * 65536) (by omega) (by omega), w64 (n := x3 * 256) (by omega) (by omega), w64 (n := x1 * 16777216 + x2 * 65536) (by omega) (by omega), w64 (n := x1 * 16777216 + x2 * 65536 + x3 * 256) (by omega) (by omega), w64 (by omega) (by omega)]
    have hx : 0 ≤ x1 * 16777216 + x2 * 65536 + x3 * 256 + x4 := by omega
    refine ⟨_, _, _, rfl, ?_, ?_, c4⟩
    · rw [Int.tmod_eq_emod_of_nonneg hx]; exact Int.emod_nonneg _ (by omega)
    · rw [Int.tmod_eq_emod_of_nonneg hx]; exact Int.emod_lt_of_pos _ hn
theorem draw_below0 (l : List Int) (i h : Int) {n : Int} (hn : n ≤ 0) : spec_l1Below.f l i h n = some (0, i, h) := by
  unfold spec_l1Below.f
  rw [if_pos hn]
theorem new_loop (l : List Int) (hl : Bytes l) (d : Nat) : ∀ (k : Nat) (h : Int) (j : Nat), j + d = l.length → d < k → ∃ h', spec_l1New.l0 k l h j = some (l, 0, h') := by
  unfold Bytes at hl
  induction d with
  | zero =>
    intro k h j hj hk
    obtain ⟨k, rfl⟩ : ∃ m, k = m + 1 := ⟨k - 1, by omega⟩
    exact ⟨h, by simp only [spec_l1New.l0]; rw [if_neg (by omega)]⟩
  | succ d ih =>
    intro k h j hj hk
    obtain ⟨k, rfl⟩ : ∃ m, k = m + 1 := ⟨k - 1, by omega⟩
    obtain ⟨h', e⟩ := ih k (Go.bits .and .i64 (wrap64 ((wrap64 ((wrap64 (h * 149)) + (wrap64 (rd l j)))) + 3)) 1073741823) (j + 1) (by omega) (by omega)
    refine ⟨h', ?_⟩
    simp only [spec_l1New.l0]
    rw [if_pos (by omega), if_pos (by omega), w64 (n := (j : Int) + 1) (by omega) (by omega)]
    exact e
theorem draw_new {l : List Int} (hl : Bytes l) {k : Nat} (hk : l.length < k) : ∃ h, spec_l1New.f k l = some (l, 0, h) := by
  unfold spec_l1New.f
  exact new_loop l hl l.length k _ 0 (by omega) hk

theorem draw_once {l : List Int} (hl : Bytes l) {i h n : Int} (hi : 0 ≤ i) (hn : 0 < n) : ∃ b i' h', spec_l1Once.f l i h n = some (b, i', h') ∧ 0 ≤ i' := by
  obtain ⟨x, i', h', e, _, _, i0⟩ := draw_below hl (h := h) hi hn
  unfold spec_l1Once.f
  rw [e]
  exact ⟨_, _, _, rfl, i0⟩

/-- What a draw gives for a coordinate. -/
def Near62 (x : Int) : Prop := -4611686018427387904 ≤ x ∧ x ≤ 10000001
theorem draw_point {l : List Int} (hl : Bytes l) {k : Nat} {i h : Int} (hi : 0 ≤ i) : ∃ x y i' h', spec_l1DrawPoint.f (k + 1) l i h = some (x, y, i', h') ∧ Near62 x ∧ (-10000000 ≤ y ∧ y ≤ 10000000) ∧ 0 ≤ i' := by
  unfold spec_l1DrawPoint.f
  obtain ⟨x, i1, h1, e1, x0, x1, c1⟩ := draw_below hl (h := h) (n := 41) hi (by omega)
  obtain ⟨y, i2, h2, e2, y0, y1, c2⟩ := draw_below hl (h := h1) (n := 41) c1 (by omega)
  obtain ⟨z, i3, h3, e3, z0, z1, c3⟩ := draw_below hl (h := h2) (n := 12) c2 (by omega)
  rw [e1]; simp only [Option.bind_some]
  rw [e2]; simp only [Option.bind_some]
  rw [e3]; simp only [Option.bind_some]
  have key : ∀ x y : Int, Near62 x → (-10000000 ≤ y ∧ y ≤ 10000000) → ∃ x' y' i' h', spec_l1DrawPoint.j0 (k + 1) x y l i3 h3 = some (x', y', i', h') ∧ Near62 x' ∧ (-10000000 ≤ y' ∧ y' ≤ 10000000) ∧ 0 ≤ i' := by
    intro x y hx hy
    simp only [spec_l1DrawPoint.j0]
    obtain ⟨b, i4, h4, e4, c4⟩ := draw_once hl (h := h3) (n := 60) c3 (by omega)
    rw [e4]; simp only [Option.bind_some]
    cases b with
    | false => exact ⟨_, _, _, _, rfl, hx, hy, c4⟩
    | true =>
      obtain ⟨w, i5, h5, e5, w0, w1, c5⟩ := draw_below hl (h := h4) (n := 4) c4 (by omega)
      rw [if_pos rfl, e5]; simp only [Option.bind_some]
      rw [if_pos w0, if_pos (by simpa using w1)]
      refine ⟨_, _, _, _, rfl, ?_, hy, c5⟩
      rcases (show w = 0 ∨ w = 1 ∨ w = 2 ∨ w = 3 by omega) with rfl | rfl | rfl | rfl <;> (unfold Near62 rd; simp)
  have e20 : wrap64 (x - 20) = x - 20 := w64 (by omega) (by omega)
  have f20 : wrap64 (y - 20) = y - 20 := w64 (by omega) (by omega)
  rw [e20, f20, w64 (n := (x - 20) * 500000) (by omega) (by omega), w64 (n := (y - 20) * 500000) (by omega) (by omega), w64 (n := (x - 20) * 321) (by omega) (by omega), w64 (n := (y - 20) * 777) (by omega) (by omega)]
  unfold Near62 at key ⊢
  split
  · exact key _ _ (by omega) (by omega)
  · split
    · exact key _ _ (by omega) (by omega)
    · split
      · exact key _ _ (by omega) (by omega)
      · exact key _ _ (by omega) (by omega)

theorem impl_ok (x y : Int) : impl_PointOk.f x y = some (decide (OkP x y)) := by
  unfold impl_PointOk.f OkP
  grind

theorem and_low (x : Int) (h0 : 0 ≤ x) (h1 : x < 4294967296) : Go.bits .and .u64 x 4294967295 = x := by
  have h := Go.bits_mask .u64 32 (by decide) (fun n a b => by rw [IntKind.wrap_u64]; omega) 32 (by decide) x h0 (by omega)
  have e : (2 ^ 32 - 1 : Int) = 4294967295 := by decide
  have e2 : (2 ^ 32 : Int) = 4294967296 := by decide
  rw [e, e2, Int.emod_eq_of_lt h0 h1] at h
  exact h

theorem mul64_small (m : Int) (h0 : 0 ≤ m) (h1 : m < 4294967296) : bits_Mul64.f m m = some (0, m * m) := by
  have hm : m * m ≤ 4294967295 * 4294967295 := sq_mono h0 (by omega)
  have hm0 : 0 ≤ m * m := Int.mul_nonneg h0 h0
  have hd : m / 4294967296 = 0 := by omega
  have hq : Go.bits .and .u64 (m * m / 4294967296) 4294967295 = m * m / 4294967296 := and_low _ (by omega) (by omega)
  unfold bits_Mul64.f
  rw [and_low m h0 h1, hd]
  simp only [Int.zero_mul, Int.mul_zero, Int.zero_add, Int.add_zero]
  have w0 : IntKind.u64.wrap 0 = 0 := wu64 (by omega) (by omega)
  have w1 : IntKind.u64.wrap (m * m) = m * m := wu64 hm0 (by omega)
  have w2 : IntKind.u64.wrap (m * m / 4294967296) = m * m / 4294967296 := wu64 (by omega) (by omega)
  simp only [w0, w1, w2, Int.zero_add, Int.add_zero, hq]
  have d1 : m * m / 4294967296 / 4294967296 = 0 := by omega
  simp only [d1, w0, Int.zero_add]

theorem impl_root_loop (n : Int) (hn0 : 0 ≤ n) (hn1 : n ≤ 9223372036854775807) (d : Nat) : ∀ (k : Nat) (lo hi : Int), 0 ≤ lo → lo < hi → hi ≤ 3037000500 → lo * lo ≤ n → n < hi * hi → hi - lo ≤ d + 1 → d < k →
    ∃ r, impl_Root.l0 k n lo hi = some r ∧ 0 ≤ r ∧ r * r ≤ n ∧ n < (r + 1) * (r + 1) := by
  have wn : IntKind.u64.wrap n = n := wu64 hn0 (by omega)
  induction d with
  | zero =>
    intro k lo hi h0 h1 h2 h3 h4 hd hk
    obtain ⟨k, rfl⟩ : ∃ m, k = m + 1 := ⟨k - 1, by omega⟩
    obtain rfl : hi = lo + 1 := by omega
    have w1 : IntKind.u64.wrap (lo + 1 - lo) = 1 := by rw [wu64 (by omega) (by omega)]; omega
    have w2 : wrap64 lo = lo := by unfold wrap64; omega
    exact ⟨lo, by simp only [impl_Root.l0]; rw [w1, if_neg (by omega), w2], h0, h3, h4⟩
  | succ d ih =>
    intro k lo hi h0 h1 h2 h3 h4 hd hk
    obtain ⟨k, rfl⟩ : ∃ m, k = m + 1 := ⟨k - 1, by omega⟩
    have w1 : IntKind.u64.wrap (hi - lo) = hi - lo := wu64 (by omega) (by omega)
    by_cases hlt : hi - lo > 1
    · obtain ⟨m, hm⟩ : ∃ m, m = (lo + hi) / 2 := ⟨_, rfl⟩
      have hw1 : IntKind.u64.wrap (Int.tdiv (IntKind.u64.wrap (lo + hi)) 2) = m := by
        rw [wu64 (n := lo + hi) (by omega) (by omega), Int.tdiv_eq_ediv_of_nonneg (by omega), wu64 (by omega) (by omega)]
        omega
      simp only [impl_Root.l0]
      rw [w1, if_pos hlt, hw1, mul64_small m (by omega) (by omega), wn]
      simp only [Option.bind_some, if_true]
      by_cases hc : m * m ≤ n
      · rw [if_pos hc]
        exact ih k m hi (by omega) (by omega) h2 hc h4 (by omega) (by omega)
      · rw [if_neg hc]
        exact ih k lo m h0 (by omega) (by omega) h3 (by omega) (by omega) (by omega)
    · obtain rfl : hi = lo + 1 := by omega
      have w2 : wrap64 lo = lo := by unfold wrap64; omega
      exact ⟨lo, by simp only [impl_Root.l0]; rw [w1, if_neg (by omega), w2], h0, h3, h4⟩

theorem impl_root (n : Int) (hn0 : 0 ≤ n) (hn1 : n ≤ 9223372036854775807) : ∃ r, (∀ k, 3037000500 ≤ k → impl_Root.f k n = some r) ∧ 0 ≤ r ∧ r * r ≤ n ∧ n < (r + 1) * (r + 1) := by
  obtain ⟨r, hr, h0, h1, h2⟩ := impl_root_loop n hn0 hn1 3037000499 3037000500 0 3037000500 (by omega) (by omega) (by omega) (by omega) (by omega) (by omega) (by omega)
  refine ⟨r, fun k hk => ?_, h0, h1, h2⟩
  unfold impl_Root.f
  rw [if_neg (by omega)]
  exact at_rounds (g := fun k => impl_Root.l0 k n 0 3037000500) (fun k => impl_Root.mono_l k _ _ _) hk hr

theorem impl_sq {ax ay bx by_ : Int} (ha : OkP ax ay) (hb : OkP bx by_) : impl_square.f ax ay bx by_ = some (sqr ax ay bx by_) := by
  have h := sqr_bd ha hb
  unfold OkP at ha hb
  have h1 := mul_bd (p := ax - bx) (q := ax - bx) (B := 20000000) (C := 20000000) (by omega) (by omega) (by omega) (by omega)
  have h2 := mul_bd (p := ay - by_) (q := ay - by_) (B := 20000000) (C := 20000000) (by omega) (by omega) (by omega) (by omega)
  have e : (ax - bx) * (ax - bx) + (ay - by_) * (ay - by_) = sqr ax ay bx by_ := rfl
  unfold impl_square.f
  rw [w64 (n := ax - bx) (by omega) (by omega), w64 (n := ay - by_) (by omega) (by omega), w64 (n := (ax - bx) * (ax - bx)) (by omega) (by omega), w64 (n := (ay - by_) * (ay - by_)) (by omega) (by omega), w64 (by omega) (by omega), e]
theorem impl_dist {ax ay bx by_ : Int} (ha : OkP ax ay) (hb : OkP bx by_) : ∃ d, (∀ k, 3037000510 ≤ k → impl_Distance.f k ax ay bx by_ = some d) ∧ IsDist (sqr ax ay bx by_) d ∧ d ≤ 40000000 := by
  have h := sqr_bd ha hb
  obtain ⟨r, hr, r0, r1, r2⟩ := impl_root (sqr ax ay bx by_) (by omega) (by omega)
  have hd := dist_of_root r0 r1 r2
  have hle := dist_le hd (B := 40000000) (by omega) (by omega)
  have rle : r ≤ 40000000 := by split at hle <;> omega
  have step : ∀ (k : Nat), impl_Distance.l0 (k + 2) (sqr ax ay bx by_) r = some (if 4 * sqr ax ay bx by_ < (2 * r + 1) * (2 * r + 1) then r else r + 1) := by
    intro k
    have b1 := mul_bd (p := 2 * r + 1) (q := 2 * r + 1) (B := 100000000) (C := 100000000) (by omega) (by omega) (by omega) (by omega)
    have b2 := mul_bd (p := 2 * (r + 1) + 1) (q := 2 * (r + 1) + 1) (B := 100000000) (C := 100000000) (by omega) (by omega) (by omega) (by omega)
    simp only [impl_Distance.l0]
    rw [w64 (n := 4 * sqr ax ay bx by_) (by omega) (by omega), w64 (n := 2 * r) (by omega) (by omega), w64 (n := 2 * r + 1) (by omega) (by omega), w64 (n := (2 * r + 1) * (2 * r + 1)) (by omega) (by omega), w64 (n := r + 1) (by omega) (by omega),
      w64 (n := 2 * (r + 1)) (by omega) (by omega), w64 (n := 2 * (r + 1) + 1) (by omega) (by omega), w64 (n := (2 * (r + 1) + 1) * (2 * (r + 1) + 1)) (by omega) (by omega)]
    by_cases hc : 4 * sqr ax ay bx by_ < (2 * r + 1) * (2 * r + 1)
    · rw [if_neg (by omega), if_pos hc]
    · rw [if_pos (by omega), if_neg hc]
      rw [if_neg hc] at hd
      rw [if_neg (by have := hd.2.1; omega)]
  refine ⟨_, fun k hk => ?_, hd, hle⟩
  obtain ⟨k, rfl⟩ : ∃ m, k = m + 3 := ⟨k - 3, by omega⟩
  simp [impl_Distance.f, impl_ok, ha, hb, impl_Distance.j0, impl_sq ha hb, hr (k + 2) (by omega), step k]
theorem impl_dist_not {ax ay bx by_ : Int} (h : ¬ (OkP ax ay ∧ OkP bx by_)) (k : Nat) : impl_Distance.f (k + 1) ax ay bx by_ = some (-1) := by
  by_cases ha : OkP ax ay
  · by_cases hb : OkP bx by_
    · exact absurd ⟨ha, hb⟩ h
    · simp [impl_Distance.f, impl_ok, ha, hb, impl_Distance.j0]
  · simp [impl_Distance.f, impl_ok, ha, impl_Distance.j0]

theorem draw_root {l : List Int} (hl : Bytes l) (k : Nat) (hk : l.length < k) : ∃ n, spec_DrawRoot.f k l = some n ∧ -9223372036854775808 ≤ n ∧ n ≤ 9223372036854775807 := by
  unfold spec_DrawRoot.f
  obtain ⟨h0, e0⟩ := draw_new hl hk
  rw [e0]; simp only [Option.bind_some]
  obtain ⟨x, i1, h1, e1, x0, x1, c1⟩ := draw_below hl (h := h0) (n := 4294967296) (Int.le_refl 0) (by omega)
  rw [e1]; simp only [Option.bind_some]
  obtain ⟨y, i2, h2, e2, y0, y1, c2⟩ := draw_below hl (h := h1) (n := 6) c1 (by omega)
  rw [e2]; simp only [Option.bind_some]
  split
  · exact ⟨_, rfl, wrap64_bd _⟩
  · split
    · exact ⟨_, rfl, wrap64_bd _⟩
    · split
      · obtain ⟨z, i3, h3, e3, z0, z1, c3⟩ := draw_below hl (h := h2) (n := 30) c2 (by omega)
        rw [e3]; simp only [Option.bind_some]
        exact ⟨_, rfl, wrap64_bd _⟩
      · split
        · obtain ⟨z, i3, h3, e3, z0, z1, c3⟩ := draw_below hl (h := h2) (n := 3) c2 (by omega)
          rw [e3]; simp only [Option.bind_some]
          rw [if_pos z0, if_pos (by simpa using z1)]
          refine ⟨_, rfl, ?_⟩
          rcases (show z = 0 ∨ z = 1 ∨ z = 2 by omega) with rfl | rfl | rfl <;> simp [rd]
        · exact ⟨_, rfl, by omega, by omega⟩
theorem draw_distance {l : List Int} (hl : Bytes l) (k : Nat) (hk : l.length < k) : ∃ ax ay bx by_, spec_DrawDistance.f k l = some (ax, ay, bx, by_) := by
  unfold spec_DrawDistance.f
  obtain ⟨k, rfl⟩ : ∃ m, k = m + 1 := ⟨k - 1, by omega⟩
  obtain ⟨h0, e0⟩ := draw_new hl hk
  rw [e0]; simp only [Option.bind_some]
  obtain ⟨ax, ay, i1, h1, e1, r1, s1, c1⟩ := draw_point hl (k := k) (h := h0) (Int.le_refl 0)
  rw [e1]; simp only [Option.bind_some]
  obtain ⟨bx, by_, i2, h2, e2, r2, s2, c2⟩ := draw_point hl (k := k) (h := h1) c1
  rw [e2]
  exact ⟨_, _, _, _, rfl⟩
theorem laws_abs_is {n : Int} (h : -9223372036854775807 ≤ n) : laws_abs.f n = some (if n < 0 then -n else n) ∨ 9223372036854775807 < n := by
  by_cases h' : n ≤ 9223372036854775807
  · refine .inl ?_
    unfold laws_abs.f
    split
    · rw [w64 (by omega) (by omega)]
    · rfl
  · exact .inr (by omega)
theorem distances {ax ay bx by_ : Int} (k : Nat) (hk : 3037000520 ≤ k) : ∃ d : Int, impl_Distance.f k ax ay bx by_ = some d ∧
    laws_FnRootBounds.j1 k d (!(decide (OkP ax ay) && decide (OkP bx by_))) ax ay bx by_ = some true := by
  obtain ⟨k, rfl⟩ : ∃ m, k = m + 1 := ⟨k - 1, by omega⟩
  by_cases h : OkP ax ay ∧ OkP bx by_
  · obtain ⟨d, hd, h1, h2⟩ := impl_dist h.1 h.2
    obtain ⟨e, he, h3, _⟩ := impl_dist h.2 h.1
    rw [← sqr_sym] at h3
    obtain rfl := dist_one h1 h3
    refine ⟨d, hd _ (by omega), ?_⟩
    have s0 := sqr_bd h.1 h.2
    obtain ⟨p, q⟩ := id h
    unfold OkP at p q
    simp only [laws_FnRootBounds.j1, decide_eq_true h.1, decide_eq_true h.2, Bool.and_self, Bool.not_true, Bool.false_eq_true, if_false]
    rw [w64 (n := ax - bx) (by omega) (by omega), w64 (n := ay - by_) (by omega) (by omega)]
    rcases laws_abs_is (n := ax - bx) (by omega) with e1 | e1
    · rcases laws_abs_is (n := ay - by_) (by omega) with e2 | e2
      · rw [e1, e2]
        simp only [Option.bind_some]
        rw [he _ (by omega)]
        simp only [Option.bind_some, if_true]
        obtain ⟨X, hX⟩ : ∃ X, X = (if ax - bx < 0 then -(ax - bx) else ax - bx) := ⟨_, rfl⟩
        obtain ⟨Y, hY⟩ : ∃ Y, Y = (if ay - by_ < 0 then -(ay - by_) else ay - by_) := ⟨_, rfl⟩
        rw [← hX, ← hY]
        have x0 : 0 ≤ X := by rw [hX]; split <;> omega
        have y0 : 0 ≤ Y := by rw [hY]; split <;> omega
        have x1 : X ≤ 20000000 := by rw [hX]; split <;> omega
        have y1 : Y ≤ 20000000 := by rw [hY]; split <;> omega
        have xx : X * X = (ax - bx) * (ax - bx) := by rw [hX]; split <;> grind
        have yy : Y * Y = (ay - by_) * (ay - by_) := by rw [hY]; split <;> grind
        have sx : sqr ax ay bx by_ = X * X + Y * Y := by rw [xx, yy]; rfl
        have x2 : 0 ≤ X * X := Int.mul_nonneg x0 x0
        have y2 : 0 ≤ Y * Y := Int.mul_nonneg y0 y0
        have g1 := dist_ge h1 x0 (by omega)
        have g2 := dist_ge h1 y0 (by omega)
        have xy : 0 ≤ X * Y := Int.mul_nonneg x0 y0
        have g3 := dist_le h1 (B := X + Y) (by omega) (by rw [sx]; grind)
        rw [if_pos g1, if_pos g2, w64 (by omega) (by omega), if_pos g3, Option.some.injEq]
        have hz : d = 0 ↔ ax = bx ∧ ay = by_ := by
          constructor
          · intro hd0
            have a1 : X = 0 := by omega
            have a2 : Y = 0 := by omega
            constructor
            · have : ax - bx = 0 := by rw [a1] at hX; split at hX <;> omega
              omega
            · have : ay - by_ = 0 := by rw [a2] at hY; split at hY <;> omega
              omega
          · rintro ⟨rfl, rfl⟩
            have a1 : X = 0 := by rw [hX]; simp
            have a2 : Y = 0 := by rw [hY]; simp
            have := h1.1
            omega
        by_cases hd0 : d = 0
        · obtain ⟨rfl, rfl⟩ := hz.1 hd0
          simp [hd0]
        · have hn : (ax == bx && (ay == by_)) = false := by
            cases hh : (ax == bx && (ay == by_)) with
            | false => rfl
            | true => simp at hh; exact absurd (hz.2 hh) hd0
          have hdn : (d == 0) = false := by simpa using hd0
          rw [hn, hdn]
          rfl
      · omega
    · omega
  · refine ⟨-1, impl_dist_not h k, ?_⟩
    have hb : (!(decide (OkP ax ay) && decide (OkP bx by_))) = true := by
      by_cases p : OkP ax ay
      · by_cases q : OkP bx by_
        · exact absurd ⟨p, q⟩ h
        · simp [p, q]
      · simp [p]
    rw [hb]
    simp [laws_FnRootBounds.j1]
theorem law_rest {l : List Int} (hl : Bytes l) (k : Nat) (hk : 3037000521 + l.length ≤ k) : laws_FnRootBounds.j0 k l false = some true := by
  obtain ⟨k, rfl⟩ : ∃ m, k = m + 1 := ⟨k - 1, by omega⟩
  simp only [laws_FnRootBounds.j0, Bool.false_eq_true, if_false]
  obtain ⟨ax, ay, bx, by_, e⟩ := draw_distance hl k (by omega)
  rw [e]; simp only [Option.bind_some]
  obtain ⟨d, h1, h2⟩ := distances (ax := ax) (ay := ay) (bx := bx) (by_ := by_) k (by omega)
  rw [h1]; simp only [Option.bind_some, impl_ok]
  by_cases p : OkP ax ay
  · simp only [p, decide_true, if_true, Bool.true_and] at h2 ⊢
    exact h2
  · simp only [p, decide_false, Bool.false_eq_true, if_false, Bool.false_and, Bool.not_false] at h2 ⊢
    exact h2
theorem FnRootBounds : laws_FnRootBounds.Pure := by
  intro l hl _ _
  have hb : Bytes l := hl
  refine ⟨3037000530 + l.length, ?_⟩
  unfold laws_FnRootBounds.f laws_big.f
  simp only [Option.bind_some]
  by_cases hbig : (l.length : Int) > 1048576
  · simp [hbig]
  · simp only [hbig, decide_false, Bool.false_eq_true, if_false]
    obtain ⟨n, e, n0, n1⟩ := draw_root hb (3037000530 + l.length) (by omega)
    rw [e]; simp only [Option.bind_some]
    have e9 : impl_Root.f (3037000530 + l.length) 9 = some 3 := by
      obtain ⟨r, hr, r0, r1, r2⟩ := impl_root 9 (by omega) (by omega)
      rw [hr _ (by omega), root_one r0 (show (0 : Int) ≤ 3 by omega) r1 r2 (by omega) (by omega)]
    by_cases hn : n < 0
    · have er : impl_Root.f (3037000530 + l.length) n = some (-1) := by unfold impl_Root.f; rw [if_pos hn]
      rw [er, e9]
      simp [hn]
    · obtain ⟨r, hr, r0, r1, r2⟩ := impl_root n (by omega) n1
      have rle : r ≤ 3037000499 := by
        by_cases h : r ≤ 3037000499
        · exact h
        · have := sq_mono (a := 3037000500) (b := r) (by omega) (by omega)
          omega
      rw [hr _ (by omega), e9]
      simp only [Option.bind_some, if_true]
      have m1 := mul_bd (p := r) (q := r) (B := 3037000499) (C := 3037000499) (by omega) (by omega) (by omega) (by omega)
      rw [if_neg hn, if_neg (by omega), if_neg (by omega), w64 (n := r * r) (by omega) (by omega), if_neg (by omega)]
      split
      · have m2 := mul_bd (p := r + 1) (q := r + 1) (B := 3037000499) (C := 3037000499) (by omega) (by omega) (by omega) (by omega)
        rw [w64 (n := r + 1) (by omega) (by omega), w64 (n := (r + 1) * (r + 1)) (by omega) (by omega), decide_eq_false (by omega)]
        exact law_rest hb _ (by omega)
      · exact law_rest hb _ (by omega)

end Go.Proofs.Ytcpgphmaibajlaa.Pure
