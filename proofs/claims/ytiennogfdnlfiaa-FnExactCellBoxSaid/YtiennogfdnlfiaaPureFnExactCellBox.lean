/- CellBox of the program and of the reference give the same box at every cell. No condition. -/
import Derived.Test.YtiennogfdnlfiaaPreFnExactCellBox
import Derived.Test.YtiennogfdnlfiaaWMath
namespace Go.Proofs.Ytiennogfdnlfiaa.Pure
open Go.RowKit Go.Proofs.Ytiennogfdnlfiaa.PFnExactCellBox Go.Proofs.Ytiennogfdnlfiaa.PreFnExactCellBox Go.Proofs.YtiennogfdnlfiaaW.PrintWords Go.Proofs.YtiennogfdnlfiaaW.PrintLast Go.Proofs.YtiennogfdnlfiaaW.PrintMore Go.Proofs.YtiennogfdnlfiaaW.Math
set_option linter.unusedVariables false
set_option linter.unusedSimpArgs false

theorem gather_loop (n : Int) (h0 : 0 ≤ n) (h1 : n ≤ 18446744073709551615) (d : Nat) : ∀ (K k : Nat), k + d = 25 → d < K → spec_l5Gather.l0 K n (evens k n) k = some (evens 25 n) := by
  induction d with
  | zero =>
    intro K k hk hK
    obtain ⟨K, rfl⟩ : ∃ m, K = m + 1 := ⟨K - 1, by omega⟩
    obtain rfl : k = 25 := by omega
    simp [spec_l5Gather.l0]
  | succ d ih =>
    intro K k hk hK
    obtain ⟨K, rfl⟩ : ∃ m, K = m + 1 := ⟨K - 1, by omega⟩
    simp only [spec_l5Gather.l0]
    have e1 : IntKind.u64.wrap (2 * (k : Int)) = ((2 * k : Nat) : Int) := by rw [wu64 (by omega) (by omega)]; omega
    have e2 : IntKind.u64.wrap ((k : Int) + 1) = ((k + 1 : Nat) : Int) := by rw [wu64 (by omega) (by omega)]; omega
    rw [if_pos (by omega), e1, e2, if_pos (by omega), if_pos (by omega), shr_u64 _ (by omega)]
    have p := p2_pos (2 * k)
    have q1 : 0 ≤ n / 2 ^ (2 * k) := Int.ediv_nonneg h0 (by omega)
    have q2 : n / 2 ^ (2 * k) ≤ n := Int.ediv_le_self _ h0
    rw [and_one q1 (by omega), shl_u64 _ (by omega)]
    have l0 := evens_lo k n
    have l1 := evens_hi k n
    have l2 := p2_le25 (k := k) (by omega)
    have l3 := p2_pos k
    have e3 : IntKind.u64.wrap (n / 2 ^ (2 * k) % 2 * 2 ^ k) = n / 2 ^ (2 * k) % 2 * 2 ^ k := by
      rcases (show n / 2 ^ (2 * k) % 2 = 0 ∨ n / 2 ^ (2 * k) % 2 = 1 by omega) with h | h <;> rw [h] <;> exact wu64 (by omega) (by omega)
    rw [e3, or_lo_u64 k l0 l1 (by omega) (by rcases (show n / 2 ^ (2 * k) % 2 = 0 ∨ n / 2 ^ (2 * k) % 2 = 1 by omega) with h | h <;> rw [h] <;> omega) (Int.mul_emod_left _ _)
      (by rcases (show n / 2 ^ (2 * k) % 2 = 0 ∨ n / 2 ^ (2 * k) % 2 = 1 by omega) with h | h <;> rw [h] <;> omega), ← evens_snoc]
    exact ih K (k + 1) (by omega) (by omega)
theorem spec_gather {K : Nat} (hK : 25 < K) {n : Int} (h0 : 0 ≤ n) (h1 : n ≤ 18446744073709551615) : spec_l5Gather.f K n = some (evens 25 n) := by
  unfold spec_l5Gather.f
  exact gather_loop n h0 h1 25 K 0 rfl hK
theorem spec_point {K : Nat} (hK : 25 < K) {n : Int} (h0 : 0 ≤ n) (h1 : n ≤ 18446744073709551615) : spec_l5Point.f K n = some (evens 25 n - 16777216, evens 25 (n / 2) - 16777216) := by
  unfold spec_l5Point.f
  have a0 := evens_lo 25 n
  have a1 := evens_hi 25 n
  have b0 := evens_lo 25 (n / 2)
  have b1 := evens_hi 25 (n / 2)
  have e : (2 : Int) ^ 25 = 33554432 := by decide
  rw [spec_gather hK h0 h1, spec_gather hK (n := n / 2) (by omega) (by omega)]
  simp only [Option.bind_some]
  rw [w64 (n := evens 25 n) (by omega) (by omega), w64 (n := evens 25 (n / 2)) (by omega) (by omega), w64 (by omega) (by omega), w64 (by omega) (by omega)]

/-- A cell's code has no bits beyond its level. -/
def OkC (c l : Int) : Prop := 0 ≤ l ∧ l ≤ 25 ∧ c / 2 ^ (2 * l.toNat) = 0
instance (c l : Int) : Decidable (OkC c l) := by unfold OkC; infer_instance
/-- The box of a cell. -/
def cellX (c l : Int) : Int := evens l.toNat c * 2 ^ (25 - l.toNat) - 16777216
def cellY (c l : Int) : Int := evens l.toNat (c / 2) * 2 ^ (25 - l.toNat) - 16777216
def cellS (l : Int) : Int := 2 ^ (25 - l.toNat) - 1
theorem two_l {l : Int} (h0 : 0 ≤ l) (h1 : l ≤ 25) : wrap64 (2 * l) = ((2 * l.toNat : Nat) : Int) := by rw [w64 (by omega) (by omega)]; omega

theorem spec_cell (c l : Int) (hc : 0 ≤ c) : spec_l5CellOk.f c l = some (decide (OkC c l)) := by
  unfold spec_l5CellOk.f
  by_cases h0 : l ≥ 0
  · by_cases h1 : l ≤ 25
    · rw [if_pos h0, if_pos h1, two_l h0 h1, wu64 (by omega) (by omega), if_pos (by omega), shr_u64 _ (by omega)]
      rw [Option.some.injEq, Bool.eq_iff_iff, beq_iff_eq, decide_eq_true_eq]
      exact ⟨fun h => ⟨h0, h1, h⟩, fun h => h.2.2⟩
    · rw [if_pos h0, if_neg h1, Option.some.injEq]
      exact (decide_eq_false (fun h => h1 h.2.1)).symm
  · rw [if_neg h0, Option.some.injEq]
    exact (decide_eq_false (fun h => h0 h.1)).symm
theorem spec_cellbox {K : Nat} (hK : 25 < K) {c l : Int} (hc : 0 ≤ c) (h : OkC c l) : spec_l5CellBox.f K c l = some (cellX c l, cellY c l, cellX c l + cellS l, cellY c l + cellS l) := by
  obtain ⟨h0, h1, h2⟩ := id h
  obtain ⟨L, rfl⟩ := Int.eq_ofNat_of_zero_le h0
  obtain ⟨s, hs⟩ : ∃ s, s = 25 - L := ⟨_, rfl⟩
  have pL := p2_pos (2 * L)
  have hlt : c < 2 ^ (2 * L) := by
    have h3 := Int.mul_ediv_add_emod c (2 ^ (2 * L))
    have h2' : c / 2 ^ (2 * L) = 0 := h2
    rw [h2', Int.mul_zero] at h3
    have := Int.emod_lt_of_pos c pL
    omega
  have hm : c * 2 ^ (2 * s) + 2 ^ (2 * s) ≤ 1125899906842624 := by
    have a1 : (2 : Int) ^ (2 * L) * 2 ^ (2 * s) = 1125899906842624 := by rw [← p2_add, show 2 * L + 2 * s = 50 by omega]; decide
    have a2 := Int.mul_le_mul_of_nonneg_right (show c + 1 ≤ 2 ^ (2 * L) by omega) (show 0 ≤ (2 : Int) ^ (2 * s) by have := p2_pos (2 * s); omega)
    rw [a1, Int.add_mul, Int.one_mul] at a2
    exact a2
  have ps := p2_pos (2 * s)
  have hcs : 0 ≤ c * 2 ^ (2 * s) := Int.mul_nonneg hc (by omega)
  unfold spec_l5CellBox.f
  have e1 : IntKind.u64.wrap (wrap64 (50 - (wrap64 (2 * (L : Int))))) = ((2 * s : Nat) : Int) := by
    rw [w64 (n := 2 * (L : Int)) (by omega) (by omega), w64 (by omega) (by omega), wu64 (by omega) (by omega)]; omega
  have e2 : shl .u64 c ((2 * s : Nat) : Int) = c * 2 ^ (2 * s) := by rw [shl_u64 _ (by omega), wu64 (by omega) (by omega)]
  have e3 : shl .u64 1 ((2 * s : Nat) : Int) = 2 ^ (2 * s) := by rw [shl_u64 _ (by omega), Int.one_mul, wu64 (by omega) (by omega)]
  rw [e1, if_pos (by omega), e2, e3, spec_point hK hcs (by omega), wu64 (n := 2 ^ (2 * s) - 1) (by omega) (by omega), wu64 (by omega) (by omega)]
  simp only [Option.bind_some]
  rw [spec_point hK (by omega) (by omega)]
  simp only [Option.bind_some]
  have f : (25 : Nat) = L + s := by omega
  rw [f, evens_shift, odds_shift, evens_ones, odds_ones]
  have e4 : (L : Int).toNat = L := rfl
  simp only [cellX, cellY, cellS, e4, ← hs, Option.some.injEq, Prod.mk.injEq]
  refine ⟨trivial, trivial, ?_, ?_⟩ <;> omega
theorem spec_cellbox_is {K : Nat} (hK : 25 < K) {c l : Int} (hc : 0 ≤ c) (h : OkC c l) : spec_CellBox.f K c l = some (cellX c l, cellY c l, cellX c l + cellS l, cellY c l + cellS l) := by
  simp [spec_CellBox.f, spec_cell c l hc, h, spec_cellbox hK hc h]
theorem spec_cellbox_not {K : Nat} {c l : Int} (hc : 0 ≤ c) (h : ¬ OkC c l) : spec_CellBox.f K c l = some (0, 0, 0, 0) := by
  simp [spec_CellBox.f, spec_cell c l hc, h]

theorem unmix_bit {n : Int} (h0 : 0 ≤ n) (h1 : n ≤ 18446744073709551615) {x : Int} (j : Nat) (hj : j ≤ 60) (hx0 : 0 ≤ x) (hx1 : x ≤ 33554432) :
    Go.bits .or .i64 (wrap64 (x * 2)) (wrap64 (Go.bits .and .u64 (shr .u64 n (j : Int)) 1)) = n / 2 ^ j % 2 + 2 * x := by
  have p := p2_pos j
  have q1 : 0 ≤ n / 2 ^ j := Int.ediv_nonneg h0 (by omega)
  have q2 : n / 2 ^ j ≤ n := Int.ediv_le_self _ h0
  rw [shr_u64 _ (by omega), and_one q1 (by omega), w64 (n := x * 2) (by omega) (by omega), w64 (by omega) (by omega), or_i64 1 (by omega) (by omega) (by omega) (by omega) (by omega) (by omega)]
  omega
theorem unmix_loop (n : Int) (h0 : 0 ≤ n) (h1 : n ≤ 18446744073709551615) (j : Nat) : ∀ (K : Nat), j ≤ 25 → j < K →
    impl_unmix.l0 K n (evens (25 - j) (n / 2 ^ (2 * j))) (evens (25 - j) (n / 2 / 2 ^ (2 * j))) ((j : Int) - 1) = some (evens 25 n, evens 25 (n / 2)) := by
  induction j with
  | zero =>
    intro K hj hK
    obtain ⟨K, rfl⟩ : ∃ m, K = m + 1 := ⟨K - 1, by omega⟩
    simp [impl_unmix.l0]
  | succ j ih =>
    intro K hj hK
    obtain ⟨K, rfl⟩ : ∃ m, K = m + 1 := ⟨K - 1, by omega⟩
    have e0 : (((j + 1 : Nat) : Int) - 1) = (j : Int) := by omega
    rw [e0]
    simp only [impl_unmix.l0]
    have e1 : wrap64 (2 * (j : Int)) = ((2 * j : Nat) : Int) := by rw [w64 (by omega) (by omega)]; omega
    have e2 : wrap64 (((2 * j : Nat) : Int) + 1) = ((2 * j + 1 : Nat) : Int) := by rw [w64 (by omega) (by omega)]; omega
    have e3 : wrap64 ((j : Int) - 1) = (j : Int) - 1 := w64 (by omega) (by omega)
    have a0 := evens_lo (25 - (j + 1)) (n / 2 ^ (2 * (j + 1)))
    have a1 := evens_hi (25 - (j + 1)) (n / 2 ^ (2 * (j + 1)))
    have b0 := evens_lo (25 - (j + 1)) (n / 2 / 2 ^ (2 * (j + 1)))
    have b1 := evens_hi (25 - (j + 1)) (n / 2 / 2 ^ (2 * (j + 1)))
    have c := p2_le25 (k := 25 - (j + 1)) (by omega)
    rw [if_pos (by omega), e1, e2, if_pos (by omega), if_pos (by omega), e3, unmix_bit h0 h1 (2 * j) (by omega) a0 (by omega), unmix_bit h0 h1 (2 * j + 1) (by omega) b0 (by omega)]
    have f1 : 25 - j = (25 - (j + 1)) + 1 := by omega
    have f2 : n / 2 ^ (2 * (j + 1)) = n / 2 ^ (2 * j) / 4 := by
      rw [show 2 * (j + 1) = 2 * j + 2 by omega, ediv_p2_add]; rfl
    have f3 : n / 2 / 2 ^ (2 * (j + 1)) = n / 2 / 2 ^ (2 * j) / 4 := by
      rw [show 2 * (j + 1) = 2 * j + 2 by omega, ediv_p2_add]; rfl
    have f4 : n / 2 ^ (2 * j + 1) = n / 2 / 2 ^ (2 * j) := by
      have e2 : n / 2 = n / 2 ^ 1 := by simp
      rw [e2, ← ediv_p2_add, Nat.add_comm]
    have g1 : evens (25 - j) (n / 2 ^ (2 * j)) = n / 2 ^ (2 * j) % 2 + 2 * evens (25 - (j + 1)) (n / 2 ^ (2 * (j + 1))) := by rw [f1, evens, f2]
    have g2 : evens (25 - j) (n / 2 / 2 ^ (2 * j)) = n / 2 ^ (2 * j + 1) % 2 + 2 * evens (25 - (j + 1)) (n / 2 / 2 ^ (2 * (j + 1))) := by rw [f1, evens, f3, f4]
    rw [← g1, ← g2]
    exact ih K (by omega) (by omega)
theorem impl_unmix_is {K : Nat} (hK : 25 < K) {n : Int} (h0 : 0 ≤ n) (h1 : n < 1125899906842624) : impl_unmix.f K n = some (evens 25 n, evens 25 (n / 2)) := by
  have h := unmix_loop n h0 (by omega) 25 K (Nat.le_refl _) hK
  simpa [impl_unmix.f, evens] using h

theorem impl_cell (c l : Int) (hc : 0 ≤ c) : impl_cellOk.f c l = some (decide (OkC c l)) := by
  unfold impl_cellOk.f
  by_cases h0 : l ≥ 0
  · by_cases h1 : l ≤ 25
    · rw [if_pos h0, if_pos h1, two_l h0 h1, if_pos (by omega), shr_u64 _ (by omega)]
      rw [Option.some.injEq, Bool.eq_iff_iff, beq_iff_eq, decide_eq_true_eq]
      exact ⟨fun h => ⟨h0, h1, h⟩, fun h => h.2.2⟩
    · rw [if_pos h0, if_neg h1, Option.some.injEq]
      exact (decide_eq_false (fun h => h1 h.2.1)).symm
  · rw [if_neg h0, Option.some.injEq]
    exact (decide_eq_false (fun h => h0 h.1)).symm
theorem impl_cellbox_is {K : Nat} (hK : 25 < K) {c l : Int} (hc : 0 ≤ c) (h : OkC c l) : impl_CellBox.f K c l = some (cellX c l, cellY c l, cellX c l + cellS l, cellY c l + cellS l) := by
  obtain ⟨h0, h1, h2⟩ := id h
  obtain ⟨L, rfl⟩ := Int.eq_ofNat_of_zero_le h0
  obtain ⟨s, hs⟩ : ∃ s, s = 25 - L := ⟨_, rfl⟩
  have e4 : (L : Int).toNat = L := rfl
  have pL := p2_pos (2 * L)
  have hlt : c < 2 ^ (2 * L) := by
    have h3 := Int.mul_ediv_add_emod c (2 ^ (2 * L))
    have h2' : c / 2 ^ (2 * L) = 0 := h2
    rw [h2', Int.mul_zero] at h3
    have := Int.emod_lt_of_pos c pL
    omega
  have h50 := p2_le50 (k := 2 * L) (by omega)
  have a0 := evens_lo L c
  have a1 := evens_hi L c
  have b0 := evens_lo L (c / 2)
  have b1 := evens_hi L (c / 2)
  have pl := p2_pos L
  have ps := p2_pos s
  have ps25 := p2_le25 (k := s) (by omega)
  have a25 : (2 : Int) ^ L * 2 ^ s = 33554432 := by rw [← p2_add, show L + s = 25 by omega]; decide
  have bd : ∀ e : Int, 0 ≤ e → e < 2 ^ L → 0 ≤ e * 2 ^ s ∧ e * 2 ^ s + 2 ^ s ≤ 33554432 := by
    intro e he0 he1
    refine ⟨Int.mul_nonneg he0 (by omega), ?_⟩
    have a2 := Int.mul_le_mul_of_nonneg_right (show e + 1 ≤ 2 ^ L by omega) (show 0 ≤ (2 : Int) ^ s by omega)
    rw [a25, Int.add_mul, Int.one_mul] at a2
    exact a2
  have bx := bd _ a0 a1
  have by_ := bd _ b0 b1
  unfold impl_CellBox.f
  rw [impl_cell c _ hc, decide_eq_true h]
  simp only [Option.bind_some, if_true]
  rw [impl_unmix_is hK hc (by omega), evens_stop (m := 25) (k := L) (by omega) hc hlt, evens_stop (m := 25) (k := L) (by omega) (n := c / 2) (by omega) (by omega)]
  simp only [Option.bind_some]
  have e1 : IntKind.u64.wrap (wrap64 (25 - (L : Int))) = (s : Int) := by rw [w64 (by omega) (by omega), wu64 (by omega) (by omega)]; omega
  rw [e1, if_pos (by omega), shl_i64 _ (by omega), shl_i64 _ (by omega), shl_i64 _ (by omega), Int.one_mul, w64 (n := evens L c * 2 ^ s) (by omega) (by omega), w64 (n := evens L (c / 2) * 2 ^ s) (by omega) (by omega), w64 (n := 2 ^ s) (by omega) (by omega)]
  rw [w64 (n := evens L c * 2 ^ s - 16777216) (by omega) (by omega), w64 (n := evens L (c / 2) * 2 ^ s - 16777216) (by omega) (by omega), w64 (n := 2 ^ s - 1) (by omega) (by omega), w64 (by omega) (by omega), w64 (by omega) (by omega)]
  simp only [cellX, cellY, cellS, e4, ← hs]
theorem impl_cellbox_not {K : Nat} {c l : Int} (hc : 0 ≤ c) (h : ¬ OkC c l) : impl_CellBox.f K c l = some (0, 0, 0, 0) := by
  simp [impl_CellBox.f, impl_cell c l hc, h]

theorem FnExactCellBox : PreFnExactCellBox.Pure := by
  intro c l wc wl
  obtain ⟨hc, _⟩ := u64wf wc
  refine ⟨26, ?_⟩
  by_cases h : OkC c l
  · simp [laws_FnExactCellBox.f, laws_toCell.f, spec_cellbox_is (K := 26) (by omega) hc h, impl_cellbox_is (K := 26) (by omega) hc h, laws_eqBox.f, laws_eqPoint.f]
  · simp [laws_FnExactCellBox.f, laws_toCell.f, spec_cellbox_not (K := 26) hc h, impl_cellbox_not (K := 26) hc h, laws_eqBox.f, laws_eqPoint.f]

end Go.Proofs.Ytiennogfdnlfiaa.Pure
