/- Distance of the program and of the reference give the same number at every two points. No condition. -/
import Derived.Test.YtcpgphmaibajlaaPreFnExactDistance
import Derived.Test.YtcpgphmaibajlaaWMath
namespace Go.Proofs.Ytcpgphmaibajlaa.Pure
open Go.RowKit Go.Proofs.Ytcpgphmaibajlaa.PFnExactDistance Go.Proofs.Ytcpgphmaibajlaa.PreFnExactDistance Go.Proofs.YtcpgphmaibajlaaW.PrintWords Go.Proofs.YtcpgphmaibajlaaW.PrintLast Go.Proofs.YtcpgphmaibajlaaW.PrintMore Go.Proofs.YtcpgphmaibajlaaW.Math
set_option linter.unusedVariables false
set_option linter.unusedSimpArgs false

theorem spec_ok (x y : Int) : spec_PointOk.f x y = some (decide (OkP x y)) := by
  unfold spec_PointOk.f OkP
  grind

theorem spec_root_loop (n : Int) (hn0 : 0 ≤ n) (hn1 : n ≤ 9223372036854775807) (d : Nat) : ∀ (k : Nat) (lo hi : Int), 0 ≤ lo → lo ≤ hi → hi ≤ 3037000499 → lo * lo ≤ n → n < (hi + 1) * (hi + 1) → hi - lo ≤ d → d < k →
    ∃ r, spec_Root.l0 k n lo hi = some r ∧ 0 ≤ r ∧ r * r ≤ n ∧ n < (r + 1) * (r + 1) := by
  induction d with
  | zero =>
    intro k lo hi h0 h1 h2 h3 h4 hd hk
    obtain ⟨k, rfl⟩ : ∃ m, k = m + 1 := ⟨k - 1, by omega⟩
    obtain rfl : lo = hi := by omega
    exact ⟨lo, by simp only [spec_Root.l0]; rw [if_neg (by omega)], h0, h3, h4⟩
  | succ d ih =>
    intro k lo hi h0 h1 h2 h3 h4 hd hk
    obtain ⟨k, rfl⟩ : ∃ m, k = m + 1 := ⟨k - 1, by omega⟩
    by_cases hlt : lo < hi
    · obtain ⟨m, hm⟩ : ∃ m, m = (lo + hi + 1) / 2 := ⟨_, rfl⟩
      have hw1 : wrap64 (Int.tdiv (wrap64 ((wrap64 (lo + hi)) + 1)) 2) = m := by
        have e1 : wrap64 (lo + hi) = lo + hi := by unfold wrap64; omega
        have e2 : wrap64 (lo + hi + 1) = lo + hi + 1 := by unfold wrap64; omega
        rw [e1, e2, Int.tdiv_eq_ediv_of_nonneg (by omega)]
        unfold wrap64; omega
      have hmm : m * m ≤ 3037000499 * 3037000499 := sq_mono (by omega) (by omega)
      have hmm0 : 0 ≤ m * m := Int.mul_nonneg (by omega) (by omega)
      have hw2 : wrap64 (m * m) = m * m := by unfold wrap64; omega
      have hw3 : wrap64 (m - 1) = m - 1 := by unfold wrap64; omega
      simp only [spec_Root.l0]
      rw [if_pos hlt, hw1, hw2, hw3]
      by_cases hc : m * m ≤ n
      · rw [if_pos hc]
        exact ih k m hi (by omega) (by omega) h2 hc h4 (by omega) (by omega)
      · rw [if_neg hc]
        exact ih k lo (m - 1) h0 (by omega) (by omega) h3 (by rw [Int.sub_add_cancel]; omega) (by omega) (by omega)
    · obtain rfl : lo = hi := by omega
      exact ⟨lo, by simp only [spec_Root.l0]; rw [if_neg (by omega)], h0, h3, h4⟩

theorem spec_root (n : Int) (hn0 : 0 ≤ n) (hn1 : n ≤ 9223372036854775807) : ∃ r, (∀ k, 3037000500 ≤ k → spec_Root.f k n = some r) ∧ 0 ≤ r ∧ r * r ≤ n ∧ n < (r + 1) * (r + 1) := by
  obtain ⟨r, hr, h0, h1, h2⟩ := spec_root_loop n hn0 hn1 3037000499 3037000500 0 3037000499 (by omega) (by omega) (by omega) (by omega) (by omega) (by omega) (by omega)
  refine ⟨r, fun k hk => ?_, h0, h1, h2⟩
  unfold spec_Root.f
  rw [if_neg (by omega)]
  exact at_rounds (g := fun k => spec_Root.l0 k n 0 3037000499) (fun k => spec_Root.mono_l k _ _ _) hk hr

theorem spec_square {ax ay bx by_ : Int} (ha : OkP ax ay) (hb : OkP bx by_) : spec_l1Square.f ax ay bx by_ = some (sqr ax ay bx by_) := by
  have h := sqr_bd ha hb
  unfold OkP at ha hb
  have h1 := mul_bd (p := bx - ax) (q := bx - ax) (B := 20000000) (C := 20000000) (by omega) (by omega) (by omega) (by omega)
  have h2 := mul_bd (p := by_ - ay) (q := by_ - ay) (B := 20000000) (C := 20000000) (by omega) (by omega) (by omega) (by omega)
  have e : (bx - ax) * (bx - ax) + (by_ - ay) * (by_ - ay) = sqr ax ay bx by_ := by unfold sqr; grind
  unfold spec_l1Square.f
  rw [w64 (n := bx - ax) (by omega) (by omega), w64 (n := by_ - ay) (by omega) (by omega), w64 (n := (bx - ax) * (bx - ax)) (by omega) (by omega), w64 (n := (by_ - ay) * (by_ - ay)) (by omega) (by omega), w64 (by omega) (by omega), e]
theorem spec_l1dist {ax ay bx by_ : Int} (ha : OkP ax ay) (hb : OkP bx by_) : ∃ d, (∀ k, 3037000500 ≤ k → spec_l1Distance.f k ax ay bx by_ = some d) ∧ IsDist (sqr ax ay bx by_) d ∧ d ≤ 40000000 := by
  have h := sqr_bd ha hb
  obtain ⟨r, hr, r0, r1, r2⟩ := spec_root (4 * sqr ax ay bx by_) (by omega) (by omega)
  have hd := dist_of_four r0 r1 r2
  have hle := dist_le hd (B := 40000000) (by omega) (by omega)
  refine ⟨(r + 1) / 2, fun k hk => ?_, hd, hle⟩
  unfold spec_l1Distance.f
  rw [spec_square ha hb]
  simp only [Option.bind_some]
  rw [w64 (n := 4 * sqr ax ay bx by_) (by omega) (by omega), hr k hk]
  simp only [Option.bind_some]
  rw [w64 (n := r + 1) (by omega) (by omega), Int.tdiv_eq_ediv_of_nonneg (by omega), w64 (by omega) (by omega)]

theorem spec_dist {ax ay bx by_ : Int} (ha : OkP ax ay) (hb : OkP bx by_) : ∃ d, (∀ k, 3037000500 ≤ k → spec_Distance.f k ax ay bx by_ = some d) ∧ IsDist (sqr ax ay bx by_) d ∧ d ≤ 40000000 := by
  obtain ⟨d, hd, h1, h2⟩ := spec_l1dist ha hb
  refine ⟨d, fun k hk => ?_, h1, h2⟩
  simp [spec_Distance.f, spec_ok, ha, hb, hd k hk]
theorem spec_dist_not {ax ay bx by_ : Int} (h : ¬ (OkP ax ay ∧ OkP bx by_)) (k : Nat) : spec_Distance.f (k + 1) ax ay bx by_ = some (-1) := by
  by_cases ha : OkP ax ay
  · by_cases hb : OkP bx by_
    · exact absurd ⟨ha, hb⟩ h
    · simp [spec_Distance.f, spec_ok, ha, hb]
  · simp [spec_Distance.f, spec_ok, ha]

theorem impl_ok (x y : Int) : impl_PointOk.f x y = some (decide (OkP x y)) := by
  unfold impl_PointOk.f OkP
  grind

theorem and_low (x : Int) (h0 : 0 ≤ x) (h1 : x < 4294967296) : Go.bits .and .u64 x 4294967295 = x := by
  have h := Go.bits_mask .u64 32 (by decide) (fun n a b => by rw [IntKind.wrap_u64]; omega) 32 (by decide) x h0 (by omega)
  have e : (2 ^ 32 - 1 : Int) = 4294967295 := by decide
  have e2 : (2 ^ 32 : Int) = 4294967296 := by decide
  rw [e, e2, Int.emod_eq_of_lt h0 h1] at h
  exact h

theorem mul64_small (m : Int) (h0 : 0 ≤ m) (h1 : m < 4294967296) : bits_Mul64.f m m = some (0, m * m) := by
  have hm : m * m ≤ 4294967295 * 4294967295 := sq_mono h0 (by omega)
  have hm0 : 0 ≤ m * m := Int.mul_nonneg h0 h0
  have hd : m / 4294967296 = 0 := by omega
  have hq : Go.bits .and .u64 (m * m / 4294967296) 4294967295 = m * m / 4294967296 := and_low _ (by omega) (by omega)
  unfold bits_Mul64.f
  rw [and_low m h0 h1, hd]
  simp only [Int.zero_mul, Int.mul_zero, Int.zero_add, Int.add_zero]
  have w0 : IntKind.u64.wrap 0 = 0 := wu64 (by omega) (by omega)
  have w1 : IntKind.u64.wrap (m * m) = m * m := wu64 hm0 (by omega)
  have w2 : IntKind.u64.wrap (m * m / 4294967296) = m * m / 4294967296 := wu64 (by omega) (by omega)
  simp only [w0, w1, w2, Int.zero_add, Int.add_zero, hq]
  have d1 : m * m / 4294967296 / 4294967296 = 0 := by omega
  simp only [d1, w0, Int.zero_add]

theorem impl_root_loop (n : Int) (hn0 : 0 ≤ n) (hn1 : n ≤ 9223372036854775807) (d : Nat) : ∀ (k : Nat) (lo hi : Int), 0 ≤ lo → lo < hi → hi ≤ 3037000500 → lo * lo ≤ n → n < hi * hi → hi - lo ≤ d + 1 → d < k →
    ∃ r, impl_Root.l0 k n lo hi = some r ∧ 0 ≤ r ∧ r * r ≤ n ∧ n < (r + 1) * (r + 1) := by
  have wn : IntKind.u64.wrap n = n := wu64 hn0 (by omega)
  induction d with
  | zero =>
    intro k lo hi h0 h1 h2 h3 h4 hd hk
    obtain ⟨k, rfl⟩ : ∃ m, k = m + 1 := ⟨k - 1, by omega⟩
    obtain rfl : hi = lo + 1 := by omega
    have w1 : IntKind.u64.wrap (lo + 1 - lo) = 1 := by rw [wu64 (by omega) (by omega)]; omega
    have w2 : wrap64 lo = lo := by unfold wrap64; omega
    exact ⟨lo, by simp only [impl_Root.l0]; rw [w1, if_neg (by omega), w2], h0, h3, h4⟩
  | succ d ih =>
    intro k lo hi h0 h1 h2 h3 h4 hd hk
    obtain ⟨k, rfl⟩ : ∃ m, k = m + 1 := ⟨k - 1, by omega⟩
    have w1 : IntKind.u64.wrap (hi - lo) = hi - lo := wu64 (by omega) (by omega)
    by_cases hlt : hi - lo > 1
    · obtain ⟨m, hm⟩ : ∃ m, m = (lo + hi) / 2 := ⟨_, rfl⟩
      have hw1 : IntKind.u64.wrap (Int.tdiv (IntKind.u64.wrap (lo + hi)) 2) = m := by
        rw [wu64 (n := lo + hi) (by omega) (by omega), Int.tdiv_eq_ediv_of_nonneg (by omega), wu64 (by omega) (by omega)]
        omega
      simp only [impl_Root.l0]
      rw [w1, if_pos hlt, hw1, mul64_small m (by omega) (by omega), wn]
      simp only [Option.bind_some, if_true]
      by_cases hc : m * m ≤ n
      · rw [if_pos hc]
        exact ih k m hi (by omega) (by omega) h2 hc h4 (by omega) (by omega)
      · rw [if_neg hc]
        exact ih k lo m h0 (by omega) (by omega) h3 (by omega) (by omega) (by omega)
    · obtain rfl : hi = lo + 1 := by omega
      have w2 : wrap64 lo = lo := by unfold wrap64; omega
      exact ⟨lo, by simp only [impl_Root.l0]; rw [w1, if_neg (by omega), w2], h0, h3, h4⟩

theorem impl_root (n : Int) (hn0 : 0 ≤ n) (hn1 : n ≤ 9223372036854775807) : ∃ r, (∀ k, 3037000500 ≤ k → impl_Root.f k n = some r) ∧ 0 ≤ r ∧ r * r ≤ n ∧ n < (r + 1) * (r + 1) := by
  obtain ⟨r, hr, h0, h1, h2⟩ := impl_root_loop n hn0 hn1 3037000499 3037000500 0 3037000500 (by omega) (by omega) (by omega) (by omega) (by omega) (by omega) (by omega)
  refine ⟨r, fun k hk => ?_, h0, h1, h2⟩
  unfold impl_Root.f
  rw [if_neg (by omega)]
  exact at_rounds (g := fun k => impl_Root.l0 k n 0 3037000500) (fun k => impl_Root.mono_l k _ _ _) hk hr

theorem impl_sq {ax ay bx by_ : Int} (ha : OkP ax ay) (hb : OkP bx by_) : impl_square.f ax ay bx by_ = some (sqr ax ay bx by_) := by
  have h := sqr_bd ha hb
  unfold OkP at ha hb
  have h1 := mul_bd (p := ax - bx) (q := ax - bx) (B := 20000000) (C := 20000000) (by omega) (by omega) (by omega) (by omega)
  have h2 := mul_bd (p := ay - by_) (q := ay - by_) (B := 20000000) (C := 20000000) (by omega) (by omega) (by omega) (by omega)
  have e : (ax - bx) * (ax - bx) + (ay - by_) * (ay - by_) = sqr ax ay bx by_ := rfl
  unfold impl_square.f
  rw [w64 (n := ax - bx) (by omega) (by omega), w64 (n := ay - by_) (by omega) (by omega), w64 (n := (ax - bx) * (ax - bx)) (by omega) (by omega), w64 (n := (ay - by_) * (ay - by_)) (by omega) (by omega), w64 (by omega) (by omega), e]
theorem impl_dist {ax ay bx by_ : Int} (ha : OkP ax ay) (hb : OkP bx by_) : ∃ d, (∀ k, 3037000510 ≤ k → impl_Distance.f k ax ay bx by_ = some d) ∧ IsDist (sqr ax ay bx by_) d ∧ d ≤ 40000000 := by
  have h := sqr_bd ha hb
  obtain ⟨r, hr, r0, r1, r2⟩ := impl_root (sqr ax ay bx by_) (by omega) (by omega)
  have hd := dist_of_root r0 r1 r2
  have hle := dist_le hd (B := 40000000) (by omega) (by omega)
  have rle : r ≤ 40000000 := by split at hle <;> omega
  have step : ∀ (k : Nat), impl_Distance.l0 (k + 2) (sqr ax ay bx by_) r = some (if 4 * sqr ax ay bx by_ < (2 * r + 1) * (2 * r + 1) then r else r + 1) := by
    intro k
    have b1 := mul_bd (p := 2 * r + 1) (q := 2 * r + 1) (B := 100000000) (C := 100000000) (by omega) (by omega) (by omega) (by omega)
    have b2 := mul_bd (p := 2 * (r + 1) + 1) (q := 2 * (r + 1) + 1) (B := 100000000) (C := 100000000) (by omega) (by omega) (by omega) (by omega)
    simp only [impl_Distance.l0]
    rw [w64 (n := 4 * sqr ax ay bx by_) (by omega) (by omega), w64 (n := 2 * r) (by omega) (by omega), w64 (n := 2 * r + 1) (by omega) (by omega), w64 (n := (2 * r + 1) * (2 * r + 1)) (by omega) (by omega), w64 (n := r + 1) (by omega) (by omega),
      w64 (n := 2 * (r + 1)) (by omega) (by omega), w64 (n := 2 * (r + 1) + 1) (by omega) (by omega), w64 (n := (2 * (r + 1) + 1) * (2 * (r + 1) + 1)) (by omega) (by omega)]
    by_cases hc : 4 * sqr ax ay bx by_ < (2 * r + 1) * (2 * r + 1)
    · rw [if_neg (by omega), if_pos hc]
    · rw [if_pos (by omega), if_neg hc]
      rw [if_neg hc] at hd
      rw [if_neg (by have := hd.2.1; omega)]
  refine ⟨_, fun k hk => ?_, hd, hle⟩
  obtain ⟨k, rfl⟩ : ∃ m, k = m + 3 := ⟨k - 3, by omega⟩
  simp [impl_Distance.f, impl_ok, ha, hb, impl_Distance.j0, impl_sq ha hb, hr (k + 2) (by omega), step k]
theorem impl_dist_not {ax ay bx by_ : Int} (h : ¬ (OkP ax ay ∧ OkP bx by_)) (k : Nat) : impl_Distance.f (k + 1) ax ay bx by_ = some (-1) := by
  by_cases ha : OkP ax ay
  · by_cases hb : OkP bx by_
    · exact absurd ⟨ha, hb⟩ h
    · simp [impl_Distance.f, impl_ok, ha, hb, impl_Distance.j0]
  · simp [impl_Distance.f, impl_ok, ha, impl_Distance.j0]

theorem FnExactDistance : PreFnExactDistance.Pure := by
  intro ax ay bx by_ _ _ _ _
  refine ⟨3037000510, ?_⟩
  by_cases h : OkP ax ay ∧ OkP bx by_
  · obtain ⟨d, h1, h2, _⟩ := spec_dist h.1 h.2
    obtain ⟨e, h3, h4, _⟩ := impl_dist h.1 h.2
    have he := dist_one h2 h4
    subst he
    unfold laws_FnExactDistance.f laws_toPoint.f
    simp only [Option.bind_some]
    rw [h1 _ (by omega)]
    simp only [Option.bind_some]
    rw [h3 _ (by omega)]
    simp
  · unfold laws_FnExactDistance.f laws_toPoint.f
    simp only [Option.bind_some]
    rw [show (3037000510 : Nat) = 3037000509 + 1 from rfl, spec_dist_not h]
    simp only [Option.bind_some]
    rw [impl_dist_not h]
    simp

end Go.Proofs.Ytcpgphmaibajlaa.Pure
