/- PointOf of the program and of the reference give the same point and the same word on it at every code of 64 bits. No condition. -/
import Derived.Test.YtiennogfdnlfiaaPFnExactPointOfx1
import Derived.Test.YtiennogfdnlfiaaWMath
namespace Go.Proofs.Ytiennogfdnlfiaa.Pure
open Go.RowKit Go.Proofs.Ytiennogfdnlfiaa.PFnExactPointOf Go.Proofs.YtiennogfdnlfiaaW.PrintWords Go.Proofs.YtiennogfdnlfiaaW.PrintLast Go.Proofs.YtiennogfdnlfiaaW.PrintMore Go.Proofs.YtiennogfdnlfiaaW.Math
set_option linter.unusedVariables false
set_option linter.unusedSimpArgs false

theorem spec_ok (x y : Int) : spec_PointOk.f x y = some (decide (OkP x y)) := by
  unfold spec_PointOk.f OkP
  grind

theorem impl_ok (x y : Int) : impl_PointOk.f x y = some (decide (OkP x y)) := by
  unfold impl_PointOk.f OkP
  grind

theorem gather_loop (n : Int) (h0 : 0 ≤ n) (h1 : n ≤ 18446744073709551615) (d : Nat) : ∀ (K k : Nat), k + d = 25 → d < K → spec_l5Gather.l0 K n (evens k n) k = some (evens 25 n) := by
  induction d with
  | zero =>
    intro K k hk hK
    obtain ⟨K, rfl⟩ : ∃ m, K = m + 1 := ⟨K - 1, by omega⟩
    obtain rfl : k = 25 := by omega
    simp [spec_l5Gather.l0]
  | succ d ih =>
    intro K k hk hK
    obtain ⟨K, rfl⟩ : ∃ m, K = m + 1 := ⟨K - 1, by omega⟩
    simp only [spec_l5Gather.l0]
    have e1 : IntKind.u64.wrap (2 * (k : Int)) = ((2 * k : Nat) : Int) := by rw [wu64 (by omega) (by omega)]; omega
    have e2 : IntKind.u64.wrap ((k : Int) + 1) = ((k + 1 : Nat) : Int) := by rw [wu64 (by omega) (by omega)]; omega
    rw [if_pos (by omega), e1, e2, if_pos (by omega), if_pos (by omega), shr_u64 _ (by omega)]
    have p := p2_pos (2 * k)
    have q1 : 0 ≤ n / 2 ^ (2 * k) := Int.ediv_nonneg h0 (by omega)
    have q2 : n / 2 ^ (2 * k) ≤ n := Int.ediv_le_self _ h0
    rw [and_one q1 (by omega), shl_u64 _ (by omega)]
    have l0 := evens_lo k n
    have l1 := evens_hi k n
    have l2 := p2_le25 (k := k) (by omega)
    have l3 := p2_pos k
    have e3 : IntKind.u64.wrap (n / 2 ^ (2 * k) % 2 * 2 ^ k) = n / 2 ^ (2 * k) % 2 * 2 ^ k := by
      rcases (show n / 2 ^ (2 * k) % 2 = 0 ∨ n / 2 ^ (2 * k) % 2 = 1 by omega) with h | h <;> rw [h] <;> exact wu64 (by omega) (by omega)
    rw [e3, or_lo_u64 k l0 l1 (by omega) (by rcases (show n / 2 ^ (2 * k) % 2 = 0 ∨ n / 2 ^ (2 * k) % 2 = 1 by omega) with h | h <;> rw [h] <;> omega) (Int.mul_emod_left _ _)
      (by rcases (show n / 2 ^ (2 * k) % 2 = 0 ∨ n / 2 ^ (2 * k) % 2 = 1 by omega) with h | h <;> rw [h] <;> omega), ← evens_snoc]
    exact ih K (k + 1) (by omega) (by omega)
theorem spec_gather {K : Nat} (hK : 25 < K) {n : Int} (h0 : 0 ≤ n) (h1 : n ≤ 18446744073709551615) : spec_l5Gather.f K n = some (evens 25 n) := by
  unfold spec_l5Gather.f
  exact gather_loop n h0 h1 25 K 0 rfl hK
theorem spec_point {K : Nat} (hK : 25 < K) {n : Int} (h0 : 0 ≤ n) (h1 : n ≤ 18446744073709551615) : spec_l5Point.f K n = some (evens 25 n - 16777216, evens 25 (n / 2) - 16777216) := by
  unfold spec_l5Point.f
  have a0 := evens_lo 25 n
  have a1 := evens_hi 25 n
  have b0 := evens_lo 25 (n / 2)
  have b1 := evens_hi 25 (n / 2)
  have e : (2 : Int) ^ 25 = 33554432 := by decide
  rw [spec_gather hK h0 h1, spec_gather hK (n := n / 2) (by omega) (by omega)]
  simp only [Option.bind_some]
  rw [w64 (n := evens 25 n) (by omega) (by omega), w64 (n := evens 25 (n / 2)) (by omega) (by omega), w64 (by omega) (by omega), w64 (by omega) (by omega)]

theorem unmix_bit {n : Int} (h0 : 0 ≤ n) (h1 : n ≤ 18446744073709551615) {x : Int} (j : Nat) (hj : j ≤ 60) (hx0 : 0 ≤ x) (hx1 : x ≤ 33554432) :
    Go.bits .or .i64 (wrap64 (x * 2)) (wrap64 (Go.bits .and .u64 (shr .u64 n (j : Int)) 1)) = n / 2 ^ j % 2 + 2 * x := by
  have p := p2_pos j
  have q1 : 0 ≤ n / 2 ^ j := Int.ediv_nonneg h0 (by omega)
  have q2 : n / 2 ^ j ≤ n := Int.ediv_le_self _ h0
  rw [shr_u64 _ (by omega), and_one q1 (by omega), w64 (n := x * 2) (by omega) (by omega), w64 (by omega) (by omega), or_i64 1 (by omega) (by omega) (by omega) (by omega) (by omega) (by omega)]
  omega
theorem unmix_loop (n : Int) (h0 : 0 ≤ n) (h1 : n ≤ 18446744073709551615) (j : Nat) : ∀ (K : Nat), j ≤ 25 → j < K →
    impl_unmix.l0 K n (evens (25 - j) (n / 2 ^ (2 * j))) (evens (25 - j) (n / 2 / 2 ^ (2 * j))) ((j : Int) - 1) = some (evens 25 n, evens 25 (n / 2)) := by
  induction j with
  | zero =>
    intro K hj hK
    obtain ⟨K, rfl⟩ : ∃ m, K = m + 1 := ⟨K - 1, by omega⟩
    simp [impl_unmix.l0]
  | succ j ih =>
    intro K hj hK
    obtain ⟨K, rfl⟩ : ∃ m, K = m + 1 := ⟨K - 1, by omega⟩
    have e0 : (((j + 1 : Nat) : Int) - 1) = (j : Int) := by omega
    rw [e0]
    simp only [impl_unmix.l0]
    have e1 : wrap64 (2 * (j : Int)) = ((2 * j : Nat) : Int) := by rw [w64 (by omega) (by omega)]; omega
    have e2 : wrap64 (((2 * j : Nat) : Int) + 1) = ((2 * j + 1 : Nat) : Int) := by rw [w64 (by omega) (by omega)]; omega
    have e3 : wrap64 ((j : Int) - 1) = (j : Int) - 1 := w64 (by omega) (by omega)
    have a0 := evens_lo (25 - (j + 1)) (n / 2 ^ (2 * (j + 1)))
    have a1 := evens_hi (25 - (j + 1)) (n / 2 ^ (2 * (j + 1)))
    have b0 := evens_lo (25 - (j + 1)) (n / 2 / 2 ^ (2 * (j + 1)))
    have b1 := evens_hi (25 - (j + 1)) (n / 2 / 2 ^ (2 * (j + 1)))
    have c := p2_le25 (k := 25 - (j + 1)) (by omega)
    rw [if_pos (by omega), e1, e2, if_pos (by omega), if_pos (by omega), e3, unmix_bit h0 h1 (2 * j) (by omega) a0 (by omega), unmix_bit h0 h1 (2 * j + 1) (by omega) b0 (by omega)]
    have f1 : 25 - j = (25 - (j + 1)) + 1 := by omega
    have f2 : n / 2 ^ (2 * (j + 1)) = n / 2 ^ (2 * j) / 4 := by
      rw [show 2 * (j + 1) = 2 * j + 2 by omega, ediv_p2_add]; rfl
    have f3 : n / 2 / 2 ^ (2 * (j + 1)) = n / 2 / 2 ^ (2 * j) / 4 := by
      rw [show 2 * (j + 1) = 2 * j + 2 by omega, ediv_p2_add]; rfl
    have f4 : n / 2 ^ (2 * j + 1) = n / 2 / 2 ^ (2 * j) := by
      have e2 : n / 2 = n / 2 ^ 1 := by simp
      rw [e2, ← ediv_p2_add, Nat.add_comm]
    have g1 : evens (25 - j) (n / 2 ^ (2 * j)) = n / 2 ^ (2 * j) % 2 + 2 * evens (25 - (j + 1)) (n / 2 ^ (2 * (j + 1))) := by rw [f1, evens, f2]
    have g2 : evens (25 - j) (n / 2 / 2 ^ (2 * j)) = n / 2 ^ (2 * j + 1) % 2 + 2 * evens (25 - (j + 1)) (n / 2 / 2 ^ (2 * (j + 1))) := by rw [f1, evens, f3, f4]
    rw [← g1, ← g2]
    exact ih K (by omega) (by omega)
theorem impl_unmix_is {K : Nat} (hK : 25 < K) {n : Int} (h0 : 0 ≤ n) (h1 : n < 1125899906842624) : impl_unmix.f K n = some (evens 25 n, evens 25 (n / 2)) := by
  have h := unmix_loop n h0 (by omega) 25 K (Nat.le_refl _) hK
  simpa [impl_unmix.f, evens] using h

theorem FnExactPointOf : laws_FnExactPointOf.Pure := by
  intro n hw
  obtain ⟨h0, h1⟩ := u64wf hw
  refine ⟨26, ?_⟩
  have he : ∃ r, spec_PointOf.f 26 n = some r ∧ impl_PointOf.f 26 n = some r := by
    unfold spec_PointOf.f impl_PointOf.f
    by_cases hc : n / 1125899906842624 = 0
    · rw [if_pos hc, if_pos hc, spec_point (by omega) h0 h1, impl_unmix_is (by omega) h0 (by omega)]
      have a0 := evens_lo 25 n
      have a1 := evens_hi 25 n
      have b0 := evens_lo 25 (n / 2)
      have b1 := evens_hi 25 (n / 2)
      have e : (2 : Int) ^ 25 = 33554432 := by decide
      simp only [Option.bind_some, spec_ok, impl_ok, w64 (n := evens 25 n - 16777216) (by omega) (by omega), w64 (n := evens 25 (n / 2) - 16777216) (by omega) (by omega)]
      by_cases hp : OkP (evens 25 n - 16777216) (evens 25 (n / 2) - 16777216) <;> simp [hp]
    · rw [if_neg hc, if_neg hc]
      exact ⟨_, rfl, rfl⟩
  obtain ⟨⟨a, b, c⟩, h2, h3⟩ := he
  simp [laws_FnExactPointOf.f, h2, h3, laws_eqPoint.f]

end Go.Proofs.Ytiennogfdnlfiaa.Pure
