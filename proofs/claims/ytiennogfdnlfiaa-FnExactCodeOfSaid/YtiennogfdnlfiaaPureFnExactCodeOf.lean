/- CodeOf of the program and of the reference give the same code at every point. No condition. -/
import Derived.Test.YtiennogfdnlfiaaPreFnExactCodeOf
import Derived.Test.YtiennogfdnlfiaaWMath
namespace Go.Proofs.Ytiennogfdnlfiaa.Pure
open Go.RowKit Go.Proofs.Ytiennogfdnlfiaa.PFnExactCodeOf Go.Proofs.Ytiennogfdnlfiaa.PreFnExactCodeOf Go.Proofs.YtiennogfdnlfiaaW.PrintWords Go.Proofs.YtiennogfdnlfiaaW.PrintLast Go.Proofs.YtiennogfdnlfiaaW.PrintMore Go.Proofs.YtiennogfdnlfiaaW.Math
set_option linter.unusedVariables false
set_option linter.unusedSimpArgs false

theorem spec_ok (x y : Int) : spec_PointOk.f x y = some (decide (OkP x y)) := by
  unfold spec_PointOk.f OkP
  grind

theorem impl_ok (x y : Int) : impl_PointOk.f x y = some (decide (OkP x y)) := by
  unfold impl_PointOk.f OkP
  grind

theorem bit01 (x : Int) : x % 2 = 0 ∨ x % 2 = 1 := by omega
theorem spread_loop (n : Int) (h0 : 0 ≤ n) (h1 : n ≤ 18446744073709551615) (d : Nat) : ∀ (K k : Nat), k + d = 25 → d < K → spec_l5Spread.l0 K n (spread k n) k = some (spread 25 n) := by
  induction d with
  | zero =>
    intro K k hk hK
    obtain ⟨K, rfl⟩ : ∃ m, K = m + 1 := ⟨K - 1, by omega⟩
    obtain rfl : k = 25 := by omega
    simp [spec_l5Spread.l0]
  | succ d ih =>
    intro K k hk hK
    obtain ⟨K, rfl⟩ : ∃ m, K = m + 1 := ⟨K - 1, by omega⟩
    simp only [spec_l5Spread.l0]
    have e1 : IntKind.u64.wrap (2 * (k : Int)) = ((2 * k : Nat) : Int) := by rw [wu64 (by omega) (by omega)]; omega
    have e2 : IntKind.u64.wrap ((k : Int) + 1) = ((k + 1 : Nat) : Int) := by rw [wu64 (by omega) (by omega)]; omega
    rw [if_pos (by omega), e1, e2, if_pos (by omega), if_pos (by omega), shr_u64 _ (by omega)]
    have p := p2_pos k
    have q1 : 0 ≤ n / 2 ^ k := Int.ediv_nonneg h0 (by omega)
    have q2 : n / 2 ^ k ≤ n := Int.ediv_le_self _ h0
    rw [and_one q1 (by omega), shl_u64 _ (by omega)]
    have l0 := spread_lo k n
    have l1 := spread_hi k n
    have l2 := p2_le50 (k := 2 * k) (by omega)
    have l3 := p2_pos (2 * k)
    have hb := bit01 (n / 2 ^ k)
    have e3 : IntKind.u64.wrap (n / 2 ^ k % 2 * 2 ^ (2 * k)) = n / 2 ^ k % 2 * 2 ^ (2 * k) := by
      rcases hb with h | h <;> rw [h] <;> exact wu64 (by omega) (by omega)
    rw [e3, or_lo_u64 (2 * k) l0 (by omega) (by omega) (by rcases hb with h | h <;> rw [h] <;> omega) (Int.mul_emod_left _ _) (by rcases hb with h | h <;> rw [h] <;> omega), ← spread_snoc]
    exact ih K (k + 1) (by omega) (by omega)
theorem spec_spread {K : Nat} (hK : 25 < K) {n : Int} (h0 : 0 ≤ n) (h1 : n ≤ 18446744073709551615) : spec_l5Spread.f K n = some (spread 25 n) := by
  unfold spec_l5Spread.f
  exact spread_loop n h0 h1 25 K 0 rfl hK
/-- The code of a point. -/
def code (x y : Int) : Int := spread 25 (x + 16777216) + 2 * spread 25 (y + 16777216)
theorem code_lo (x y : Int) : 0 ≤ code x y := by have := spread_lo 25 (x + 16777216); have := spread_lo 25 (y + 16777216); unfold code; omega
theorem code_hi (x y : Int) : code x y < 1125899906842624 := by
  have h1 := spread_hi 25 (x + 16777216)
  have h2 := spread_hi 25 (y + 16777216)
  have e : (2 : Int) ^ (2 * 25) = 1125899906842624 := by decide
  unfold code
  omega
theorem or_spread (m : Nat) (x y : Int) (hm : m ≤ 25) : Go.bits .or .u64 (spread m x) (2 * spread m y) = spread m x + 2 * spread m y := by
  induction m generalizing x y with
  | zero => simp only [spread]; decide
  | succ m ih =>
    have a0 := spread_lo m (x / 2)
    have a1 := spread_hi m (x / 2)
    have b0 := spread_lo m (y / 2)
    have b1 := spread_hi m (y / 2)
    have c := p2_le50 (k := 2 * m) (by omega)
    have h := ih (x / 2) (y / 2) (by omega)
    -- both have their two lowest bits apart from the rest
    have key : ∀ (a b p q : Int), 0 ≤ a → a ≤ 1125899906842624 → 0 ≤ b → b ≤ 1125899906842624 → 0 ≤ p → p ≤ 1 → 0 ≤ q → q ≤ 1 → Go.bits .or .u64 a b = a + b → Go.bits .or .u64 (p + 4 * a) (2 * q + 4 * b) = (p + 2 * q) + 4 * (a + b) := by
      intro a b p q ha ha' hb hb' hp hp' hq hq' hor
      obtain ⟨a, rfl⟩ := Int.eq_ofNat_of_zero_le ha
      obtain ⟨b, rfl⟩ := Int.eq_ofNat_of_zero_le hb
      obtain ⟨p, rfl⟩ := Int.eq_ofNat_of_zero_le hp
      obtain ⟨q, rfl⟩ := Int.eq_ofNat_of_zero_le hq
      have hk : ∀ n : Int, 0 ≤ n → n < 2 ^ 64 → IntKind.u64.wrap n = n := fun n h0 h1 => by rw [IntKind.wrap_u64]; omega
      rw [(Go.bits_nat .u64 64 (by decide) hk a b (by omega) (by omega)).2] at hor
      have hn : a ||| b = a + b := by exact_mod_cast hor
      have e1 : ((p : Int) + 4 * (a : Int)) = ((p + 4 * a : Nat) : Int) := by omega
      have e2 : (2 * (q : Int) + 4 * (b : Int)) = ((2 * q + 4 * b : Nat) : Int) := by omega
      rw [e1, e2, (Go.bits_nat .u64 64 (by decide) hk _ _ (by omega) (by omega)).2]
      have e3 : p + 4 * a = 2 ^ 2 * a + p := by omega
      have e4 : 2 * q + 4 * b = 2 ^ 2 * b + 2 * q := by omega
      have e5 : (2 ^ 2 * a + p) ||| (2 ^ 2 * b + 2 * q) = 2 ^ 2 * (a + b) + (p + 2 * q) := by
        rw [Nat.two_pow_add_eq_or_of_lt (show p < 2 ^ 2 by omega), Nat.two_pow_add_eq_or_of_lt (show 2 * q < 2 ^ 2 by omega), Nat.two_pow_add_eq_or_of_lt (show p + 2 * q < 2 ^ 2 by omega), ← hn]
        have hd : 2 ^ 2 * (a ||| b) = (2 ^ 2 * a) ||| (2 ^ 2 * b) := by
          rw [Nat.mul_comm, Nat.mul_comm _ a, Nat.mul_comm _ b, ← Nat.shiftLeft_eq, ← Nat.shiftLeft_eq, ← Nat.shiftLeft_eq, Nat.shiftLeft_or_distrib]
        have hq : p ||| (2 * q) = p + 2 * q := by
          rcases (show p = 0 ∨ p = 1 by omega) with rfl | rfl <;> rcases (show q = 0 ∨ q = 1 by omega) with rfl | rfl <;> rfl
        rw [hd, ← hq]
        ac_rfl
      rw [e3, e4, e5]
      omega
    have k1 := key (spread m (x / 2)) (2 * spread m (y / 2)) (x % 2) (y % 2) a0 (by omega) (by omega) (by omega) (by omega) (by omega) (by omega) (by omega) h
    simp only [spread]
    rw [show 2 * (y % 2 + 4 * spread m (y / 2)) = 2 * (y % 2) + 4 * (2 * spread m (y / 2)) by omega, k1]
    omega
theorem spec_code {K : Nat} (hK : 25 < K) {x y : Int} (h : OkP x y) : spec_CodeOf.f K x y = some (code x y) := by
  unfold spec_CodeOf.f
  obtain ⟨h0, h1, h2, h3⟩ := id h
  have a0 := spread_lo 25 (y + 16777216)
  have a1 := spread_hi 25 (y + 16777216)
  have e : (2 : Int) ^ (2 * 25) = 1125899906842624 := by decide
  rw [spec_ok, decide_eq_true h]
  simp only [Option.bind_some, if_true]
  rw [w64 (n := x + 16777216) (by omega) (by omega), w64 (n := y + 16777216) (by omega) (by omega), wu64 (n := x + 16777216) (by omega) (by omega), wu64 (n := y + 16777216) (by omega) (by omega), spec_spread hK (by omega) (by omega), spec_spread hK (by omega) (by omega)]
  simp only [Option.bind_some]
  rw [wu64 (by omega) (by omega), Int.mul_comm _ 2, or_spread 25 _ _ (Nat.le_refl _)]
  rfl
theorem spec_code_not {K : Nat} {x y : Int} (h : ¬ OkP x y) : spec_CodeOf.f K x y = some 0 := by
  unfold spec_CodeOf.f
  rw [spec_ok, decide_eq_false h]
  rfl

theorem code_loop (x y : Int) (hx0 : 0 ≤ x) (hx1 : x ≤ 33554432) (hy0 : 0 ≤ y) (hy1 : y ≤ 33554432) (j : Nat) : ∀ (K : Nat), j ≤ 25 → j < K →
    impl_CodeOf.l0 K x y (spread (25 - j) (x / 2 ^ j) + 2 * spread (25 - j) (y / 2 ^ j)) ((j : Int) - 1) = some (spread 25 x + 2 * spread 25 y) := by
  induction j with
  | zero =>
    intro K hj hK
    obtain ⟨K, rfl⟩ : ∃ m, K = m + 1 := ⟨K - 1, by omega⟩
    simp [impl_CodeOf.l0]
  | succ j ih =>
    intro K hj hK
    obtain ⟨K, rfl⟩ : ∃ m, K = m + 1 := ⟨K - 1, by omega⟩
    have e0 : (((j + 1 : Nat) : Int) - 1) = (j : Int) := by omega
    rw [e0]
    simp only [impl_CodeOf.l0]
    have e3 : wrap64 ((j : Int) - 1) = (j : Int) - 1 := w64 (by omega) (by omega)
    have a0 := spread_lo (25 - (j + 1)) (x / 2 ^ (j + 1))
    have a1 := spread_hi (25 - (j + 1)) (x / 2 ^ (j + 1))
    have b0 := spread_lo (25 - (j + 1)) (y / 2 ^ (j + 1))
    have b1 := spread_hi (25 - (j + 1)) (y / 2 ^ (j + 1))
    have c := p2_le50 (k := 2 * (25 - (j + 1))) (by omega)
    have p := p2_pos j
    have qx : 0 ≤ x / 2 ^ j := Int.ediv_nonneg hx0 (by omega)
    have qx2 : x / 2 ^ j ≤ x := Int.ediv_le_self _ hx0
    have qy : 0 ≤ y / 2 ^ j := Int.ediv_nonneg hy0 (by omega)
    have qy2 : y / 2 ^ j ≤ y := Int.ediv_le_self _ hy0
    rw [if_pos (by omega), if_pos (by omega), e3, shr_u64 _ (by omega), shr_u64 _ (by omega), and_one qx (by omega), and_one qy (by omega)]
    generalize hA : spread (25 - (j + 1)) (x / 2 ^ (j + 1)) = A at *
    generalize hB : spread (25 - (j + 1)) (y / 2 ^ (j + 1)) = B at *
    rw [wu64 (n := (A + 2 * B) * 4) (by omega) (by omega), wu64 (n := y / 2 ^ j % 2 * 2) (by omega) (by omega),
      or_u64 (x := (A + 2 * B) * 4) (y := y / 2 ^ j % 2 * 2) 2 (by omega) (by omega) (by omega) (by omega) (by omega) (by omega), or_u64 (x := (A + 2 * B) * 4 + y / 2 ^ j % 2 * 2) (y := x / 2 ^ j % 2) 1 (by omega) (by omega) (by omega) (by omega) (by omega) (by omega)]
    have f1 : 25 - j = (25 - (j + 1)) + 1 := by omega
    have g1 : spread (25 - j) (x / 2 ^ j) = x / 2 ^ j % 2 + 4 * A := by rw [f1, spread, ← ediv_p2_succ, hA]
    have g2 : spread (25 - j) (y / 2 ^ j) = y / 2 ^ j % 2 + 4 * B := by rw [f1, spread, ← ediv_p2_succ, hB]
    have h := ih K (by omega) (by omega)
    rw [g1, g2] at h
    rw [← h]
    congr 1
    omega
theorem impl_code {K : Nat} (hK : 25 < K) {x y : Int} (h : OkP x y) : impl_CodeOf.f K x y = some (code x y) := by
  unfold impl_CodeOf.f
  obtain ⟨h0, h1, h2, h3⟩ := id h
  rw [impl_ok, decide_eq_true h]
  simp only [Option.bind_some, if_true]
  rw [w64 (n := x + 16777216) (by omega) (by omega), w64 (n := y + 16777216) (by omega) (by omega), wu64 (n := x + 16777216) (by omega) (by omega), wu64 (n := y + 16777216) (by omega) (by omega)]
  have h := code_loop (x + 16777216) (y + 16777216) (by omega) (by omega) (by omega) (by omega) 25 K (Nat.le_refl _) hK
  exact h
theorem impl_code_not {K : Nat} {x y : Int} (h : ¬ OkP x y) : impl_CodeOf.f K x y = some 0 := by
  unfold impl_CodeOf.f
  rw [impl_ok, decide_eq_false h]
  rfl

theorem FnExactCodeOf : PreFnExactCodeOf.Pure := by
  intro x y _ _
  refine ⟨26, ?_⟩
  by_cases h : OkP x y
  · simp [laws_FnExactCodeOf.f, laws_toPoint.f, spec_code (K := 26) (by omega) h, impl_code (K := 26) (by omega) h]
  · simp [laws_FnExactCodeOf.f, laws_toPoint.f, spec_code_not (K := 26) h, impl_code_not (K := 26) h]

end Go.Proofs.Ytiennogfdnlfiaa.Pure
