/- The program's Root and the reference's Root give the same number for every whole number of 64 bits: the greatest r with r * r ≤ n, and -1 below zero. No condition. -/
import Derived.Test.YtiennogfdnlfiaaPFnExactRootx1
namespace Go.Proofs.Ytiennogfdnlfiaa.Pure
open Go.RowKit Go.Proofs.Ytiennogfdnlfiaa.PFnExactRoot Go.Proofs.YtiennogfdnlfiaaW.PrintWords Go.Proofs.YtiennogfdnlfiaaW.PrintLast

set_option linter.unusedVariables false
set_option linter.unusedSimpArgs false

theorem sq_mono {a b : Int} (h0 : 0 ≤ a) (h : a ≤ b) : a * a ≤ b * b := Int.mul_le_mul h h h0 (by omega)

theorem root_one {n r s : Int} (hr0 : 0 ≤ r) (hs0 : 0 ≤ s) (hr : r * r ≤ n) (hr1 : n < (r + 1) * (r + 1)) (hs : s * s ≤ n) (hs1 : n < (s + 1) * (s + 1)) : r = s := by
  rcases Int.lt_trichotomy r s with h | h | h
  · have := sq_mono (a := r + 1) (b := s) (by omega) (by omega); omega
  · exact h
  · have := sq_mono (a := s + 1) (b := r) (by omega) (by omega); omega

theorem spec_loop (n : Int) (hn0 : 0 ≤ n) (hn1 : n ≤ 9223372036854775807) (d : Nat) : ∀ (k : Nat) (lo hi : Int), 0 ≤ lo → lo ≤ hi → hi ≤ 3037000499 → lo * lo ≤ n → n < (hi + 1) * (hi + 1) → hi - lo ≤ d → d < k →
    ∃ r, spec_Root.l0 k n lo hi = some r ∧ 0 ≤ r ∧ r * r ≤ n ∧ n < (r + 1) * (r + 1) := by
  induction d with
  | zero =>
    intro k lo hi h0 h1 h2 h3 h4 hd hk
    obtain ⟨k, rfl⟩ : ∃ m, k = m + 1 := ⟨k - 1, by omega⟩
    obtain rfl : lo = hi := by omega
    exact ⟨lo, by simp only [spec_Root.l0]; rw [if_neg (by omega)], h0, h3, h4⟩
  | succ d ih =>
    intro k lo hi h0 h1 h2 h3 h4 hd hk
    obtain ⟨k, rfl⟩ : ∃ m, k = m + 1 := ⟨k - 1, by omega⟩
    by_cases hlt : lo < hi
    · obtain ⟨m, hm⟩ : ∃ m, m = (lo + hi + 1) / 2 := ⟨_, rfl⟩
      have hw1 : wrap64 (Int.tdiv (wrap64 ((wrap64 (lo + hi)) + 1)) 2) = m := by
        have e1 : wrap64 (lo + hi) = lo + hi := by unfold wrap64; omega
        have e2 : wrap64 (lo + hi + 1) = lo + hi + 1 := by unfold wrap64; omega
        rw [e1, e2, Int.tdiv_eq_ediv_of_nonneg (by omega)]
        unfold wrap64; omega
      have hmm : m * m ≤ 3037000499 * 3037000499 := sq_mono (by omega) (by omega)
      have hmm0 : 0 ≤ m * m := Int.mul_nonneg (by omega) (by omega)
      have hw2 : wrap64 (m * m) = m * m := by unfold wrap64; omega
      have hw3 : wrap64 (m - 1) = m - 1 := by unfold wrap64; omega
      simp only [spec_Root.l0]
      rw [if_pos hlt, hw1, hw2, hw3]
      by_cases hc : m * m ≤ n
      · rw [if_pos hc]
        exact ih k m hi (by omega) (by omega) h2 hc h4 (by omega) (by omega)
      · rw [if_neg hc]
        exact ih k lo (m - 1) h0 (by omega) (by omega) h3 (by rw [Int.sub_add_cancel]; omega) (by omega) (by omega)
    · obtain rfl : lo = hi := by omega
      exact ⟨lo, by simp only [spec_Root.l0]; rw [if_neg (by omega)], h0, h3, h4⟩

theorem and_low (x : Int) (h0 : 0 ≤ x) (h1 : x < 4294967296) : Go.bits .and .u64 x 4294967295 = x := by
  have h := Go.bits_mask .u64 32 (by decide) (fun n a b => by rw [IntKind.wrap_u64]; omega) 32 (by decide) x h0 (by omega)
  have e : (2 ^ 32 - 1 : Int) = 4294967295 := by decide
  have e2 : (2 ^ 32 : Int) = 4294967296 := by decide
  rw [e, e2, Int.emod_eq_of_lt h0 h1] at h
  exact h

theorem u64_of {n : Int} (h0 : 0 ≤ n) (h1 : n ≤ 18446744073709551615) : IntKind.u64.wrap n = n := by rw [IntKind.wrap_u64]; omega

theorem mul64_small (m : Int) (h0 : 0 ≤ m) (h1 : m < 4294967296) : bits_Mul64.f m m = some (0, m * m) := by
  have hm : m * m ≤ 4294967295 * 4294967295 := sq_mono h0 (by omega)
  have hm0 : 0 ≤ m * m := Int.mul_nonneg h0 h0
  have hd : m / 4294967296 = 0 := by omega
  have hq : Go.bits .and .u64 (m * m / 4294967296) 4294967295 = m * m / 4294967296 := and_low _ (by omega) (by omega)
  unfold bits_Mul64.f
  rw [and_low m h0 h1, hd]
  simp only [Int.zero_mul, Int.mul_zero, Int.zero_add, Int.add_zero]
  have w0 : IntKind.u64.wrap 0 = 0 := u64_of (by omega) (by omega)
  have w1 : IntKind.u64.wrap (m * m) = m * m := u64_of hm0 (by omega)
  have w2 : IntKind.u64.wrap (m * m / 4294967296) = m * m / 4294967296 := u64_of (by omega) (by omega)
  simp only [w0, w1, w2, Int.zero_add, Int.add_zero, hq]
  have d1 : m * m / 4294967296 / 4294967296 = 0 := by omega
  simp only [d1, w0, Int.zero_add]

theorem impl_loop (n : Int) (hn0 : 0 ≤ n) (hn1 : n ≤ 9223372036854775807) (d : Nat) : ∀ (k : Nat) (lo hi : Int), 0 ≤ lo → lo < hi → hi ≤ 3037000500 → lo * lo ≤ n → n < hi * hi → hi - lo ≤ d + 1 → d < k →
    ∃ r, impl_Root.l0 k n lo hi = some r ∧ 0 ≤ r ∧ r * r ≤ n ∧ n < (r + 1) * (r + 1) := by
  have wn : IntKind.u64.wrap n = n := u64_of hn0 (by omega)
  induction d with
  | zero =>
    intro k lo hi h0 h1 h2 h3 h4 hd hk
    obtain ⟨k, rfl⟩ : ∃ m, k = m + 1 := ⟨k - 1, by omega⟩
    obtain rfl : hi = lo + 1 := by omega
    have w1 : IntKind.u64.wrap (lo + 1 - lo) = 1 := by rw [u64_of (by omega) (by omega)]; omega
    have w2 : wrap64 lo = lo := by unfold wrap64; omega
    exact ⟨lo, by simp only [impl_Root.l0]; rw [w1, if_neg (by omega), w2], h0, h3, h4⟩
  | succ d ih =>
    intro k lo hi h0 h1 h2 h3 h4 hd hk
    obtain ⟨k, rfl⟩ : ∃ m, k = m + 1 := ⟨k - 1, by omega⟩
    have w1 : IntKind.u64.wrap (hi - lo) = hi - lo := u64_of (by omega) (by omega)
    by_cases hlt : hi - lo > 1
    · obtain ⟨m, hm⟩ : ∃ m, m = (lo + hi) / 2 := ⟨_, rfl⟩
      have hw1 : IntKind.u64.wrap (Int.tdiv (IntKind.u64.wrap (lo + hi)) 2) = m := by
        rw [u64_of (n := lo + hi) (by omega) (by omega), Int.tdiv_eq_ediv_of_nonneg (by omega), u64_of (by omega) (by omega)]
        omega
      simp only [impl_Root.l0]
      rw [w1, if_pos hlt, hw1, mul64_small m (by omega) (by omega), wn]
      simp only [Option.bind_some, if_true]
      by_cases hc : m * m ≤ n
      · rw [if_pos hc]
        exact ih k m hi (by omega) (by omega) h2 hc h4 (by omega) (by omega)
      · rw [if_neg hc]
        exact ih k lo m h0 (by omega) (by omega) h3 (by omega) (by omega) (by omega)
    · obtain rfl : hi = lo + 1 := by omega
      have w2 : wrap64 lo = lo := by unfold wrap64; omega
      exact ⟨lo, by simp only [impl_Root.l0]; rw [w1, if_neg (by omega), w2], h0, h3, h4⟩

theorem spec_root (n : Int) (hn0 : 0 ≤ n) (hn1 : n ≤ 9223372036854775807) : ∃ r, (∀ k, 3037000500 ≤ k → spec_Root.f k n = some r) ∧ 0 ≤ r ∧ r * r ≤ n ∧ n < (r + 1) * (r + 1) := by
  obtain ⟨r, hr, h0, h1, h2⟩ := spec_loop n hn0 hn1 3037000499 3037000500 0 3037000499 (by omega) (by omega) (by omega) (by omega) (by omega) (by omega) (by omega)
  refine ⟨r, fun k hk => ?_, h0, h1, h2⟩
  unfold spec_Root.f
  rw [if_neg (by omega)]
  exact at_rounds (g := fun k => spec_Root.l0 k n 0 3037000499) (fun k => spec_Root.mono_l k _ _ _) hk hr

theorem impl_root (n : Int) (hn0 : 0 ≤ n) (hn1 : n ≤ 9223372036854775807) : ∃ r, (∀ k, 3037000500 ≤ k → impl_Root.f k n = some r) ∧ 0 ≤ r ∧ r * r ≤ n ∧ n < (r + 1) * (r + 1) := by
  obtain ⟨r, hr, h0, h1, h2⟩ := impl_loop n hn0 hn1 3037000499 3037000500 0 3037000500 (by omega) (by omega) (by omega) (by omega) (by omega) (by omega) (by omega)
  refine ⟨r, fun k hk => ?_, h0, h1, h2⟩
  unfold impl_Root.f
  rw [if_neg (by omega)]
  exact at_rounds (g := fun k => impl_Root.l0 k n 0 3037000500) (fun k => impl_Root.mono_l k _ _ _) hk hr

theorem FnExactRoot : laws_FnExactRoot.Pure := by
  intro n wf
  have hn : -9223372036854775808 ≤ n ∧ n ≤ 9223372036854775807 := by
    simpa [Lit.wf, IntKind.min, IntKind.max, IntKind.signed, IntKind.bits] using wf
  by_cases h0 : n < 0
  · refine ⟨0, ?_⟩
    unfold laws_FnExactRoot.f spec_Root.f impl_Root.f
    rw [if_pos h0, if_pos h0]; rfl
  · obtain ⟨r, hr, r0, r1, r2⟩ := spec_root n (by omega) hn.2
    obtain ⟨s, hs, s0, s1, s2⟩ := impl_root n (by omega) hn.2
    refine ⟨3037000500, ?_⟩
    unfold laws_FnExactRoot.f
    rw [hr _ (Nat.le_refl _), hs _ (Nat.le_refl _)]
    simp only [Option.bind_some]
    rw [if_pos (root_one s0 r0 s1 s2 r1 r2)]

end Go.Proofs.Ytiennogfdnlfiaa.Pure
