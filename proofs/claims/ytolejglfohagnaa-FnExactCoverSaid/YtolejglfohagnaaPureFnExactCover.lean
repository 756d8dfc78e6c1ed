/- Cover of the program and of the reference give the same cells at every box and number, which belong to the caller. No condition. -/
import Derived.Test.YtolejglfohagnaaFrFnExactCover
import Derived.Test.YtolejglfohagnaaVFnExactCovera
namespace Go.Proofs.Ytolejglfohagnaa.Pure
open Go.RowKit Go.Proofs.Ytolejglfohagnaa.PFnExactCover Go.Proofs.Ytolejglfohagnaa.PreFnExactCover Go.Proofs.YtolejglfohagnaaW.PrintWords Go.Proofs.YtolejglfohagnaaW.PrintLast Go.Proofs.YtolejglfohagnaaW.PrintMore Go.Proofs.YtolejglfohagnaaW.Math
set_option linter.unusedVariables false
set_option linter.unusedSimpArgs false

theorem impl_ok (x y : Int) : impl_PointOk.f x y = some (decide (OkP x y)) := by
  unfold impl_PointOk.f OkP
  grind

theorem unmix_bit {n : Int} (h0 : 0 ≤ n) (h1 : n ≤ 18446744073709551615) {x : Int} (j : Nat) (hj : j ≤ 60) (hx0 : 0 ≤ x) (hx1 : x ≤ 33554432) :
    Go.bits .or .i64 (wrap64 (x * 2)) (wrap64 (Go.bits .and .u64 (shr .u64 n (j : Int)) 1)) = n / 2 ^ j % 2 + 2 * x := by
  have p := p2_pos j
  have q1 : 0 ≤ n / 2 ^ j := Int.ediv_nonneg h0 (by omega)
  have q2 : n / 2 ^ j ≤ n := Int.ediv_le_self _ h0
  rw [shr_u64 _ (by omega), and_one q1 (by omega), w64 (n := x * 2) (by omega) (by omega), w64 (by omega) (by omega), or_i64 1 (by omega) (by omega) (by omega) (by omega) (by omega) (by omega)]
  omega
theorem unmix_loop (n : Int) (h0 : 0 ≤ n) (h1 : n ≤ 18446744073709551615) (j : Nat) : ∀ (K : Nat), j ≤ 25 → j < K →
    impl_unmix.l0 K n (evens (25 - j) (n / 2 ^ (2 * j))) (evens (25 - j) (n / 2 / 2 ^ (2 * j))) ((j : Int) - 1) = some (evens 25 n, evens 25 (n / 2)) := by
  induction j with
  | zero =>
    intro K hj hK
    obtain ⟨K, rfl⟩ : ∃ m, K = m + 1 := ⟨K - 1, by omega⟩
    simp [impl_unmix.l0]
  | succ j ih =>
    intro K hj hK
    obtain ⟨K, rfl⟩ : ∃ m, K = m + 1 := ⟨K - 1, by omega⟩
    have e0 : (((j + 1 : Nat) : Int) - 1) = (j : Int) := by omega
    rw [e0]
    simp only [impl_unmix.l0]
    have e1 : wrap64 (2 * (j : Int)) = ((2 * j : Nat) : Int) := by rw [w64 (by omega) (by omega)]; omega
    have e2 : wrap64 (((2 * j : Nat) : Int) + 1) = ((2 * j + 1 : Nat) : Int) := by rw [w64 (by omega) (by omega)]; omega
    have e3 : wrap64 ((j : Int) - 1) = (j : Int) - 1 := w64 (by omega) (by omega)
    have a0 := evens_lo (25 - (j + 1)) (n / 2 ^ (2 * (j + 1)))
    have a1 := evens_hi (25 - (j + 1)) (n / 2 ^ (2 * (j + 1)))
    have b0 := evens_lo (25 - (j + 1)) (n / 2 / 2 ^ (2 * (j + 1)))
    have b1 := evens_hi (25 - (j + 1)) (n / 2 / 2 ^ (2 * (j + 1)))
    have c := p2_le25 (k := 25 - (j + 1)) (by omega)
    rw [if_pos (by omega), e1, e2, if_pos (by omega), if_pos (by omega), e3, unmix_bit h0 h1 (2 * j) (by omega) a0 (by omega), unmix_bit h0 h1 (2 * j + 1) (by omega) b0 (by omega)]
    have f1 : 25 - j = (25 - (j + 1)) + 1 := by omega
    have f2 : n / 2 ^ (2 * (j + 1)) = n / 2 ^ (2 * j) / 4 := by
      rw [show 2 * (j + 1) = 2 * j + 2 by omega, ediv_p2_add]; rfl
    have f3 : n / 2 / 2 ^ (2 * (j + 1)) = n / 2 / 2 ^ (2 * j) / 4 := by
      rw [show 2 * (j + 1) = 2 * j + 2 by omega, ediv_p2_add]; rfl
    have f4 : n / 2 ^ (2 * j + 1) = n / 2 / 2 ^ (2 * j) := by
      have e2 : n / 2 = n / 2 ^ 1 := by simp
      rw [e2, ← ediv_p2_add, Nat.add_comm]
    have g1 : evens (25 - j) (n / 2 ^ (2 * j)) = n / 2 ^ (2 * j) % 2 + 2 * evens (25 - (j + 1)) (n / 2 ^ (2 * (j + 1))) := by rw [f1, evens, f2]
    have g2 : evens (25 - j) (n / 2 / 2 ^ (2 * j)) = n / 2 ^ (2 * j + 1) % 2 + 2 * evens (25 - (j + 1)) (n / 2 / 2 ^ (2 * (j + 1))) := by rw [f1, evens, f3, f4]
    rw [← g1, ← g2]
    exact ih K (by omega) (by omega)
theorem impl_unmix_is {K : Nat} (hK : 25 < K) {n : Int} (h0 : 0 ≤ n) (h1 : n < 1125899906842624) : impl_unmix.f K n = some (evens 25 n, evens 25 (n / 2)) := by
  have h := unmix_loop n h0 (by omega) 25 K (Nat.le_refl _) hK
  simpa [impl_unmix.f, evens] using h

/-- A cell's code has no bits beyond its level. -/
def OkC (c l : Int) : Prop := 0 ≤ l ∧ l ≤ 25 ∧ c / 2 ^ (2 * l.toNat) = 0
instance (c l : Int) : Decidable (OkC c l) := by unfold OkC; infer_instance
/-- The box of a cell. -/
def cellX (c l : Int) : Int := evens l.toNat c * 2 ^ (25 - l.toNat) - 16777216
def cellY (c l : Int) : Int := evens l.toNat (c / 2) * 2 ^ (25 - l.toNat) - 16777216
def cellS (l : Int) : Int := 2 ^ (25 - l.toNat) - 1
theorem two_l {l : Int} (h0 : 0 ≤ l) (h1 : l ≤ 25) : wrap64 (2 * l) = ((2 * l.toNat : Nat) : Int) := by rw [w64 (by omega) (by omega)]; omega

theorem impl_cell (c l : Int) (hc : 0 ≤ c) : impl_cellOk.f c l = some (decide (OkC c l)) := by
  unfold impl_cellOk.f
  by_cases h0 : l ≥ 0
  · by_cases h1 : l ≤ 25
    · rw [if_pos h0, if_pos h1, two_l h0 h1, if_pos (by omega), shr_u64 _ (by omega)]
      rw [Option.some.injEq, Bool.eq_iff_iff, beq_iff_eq, decide_eq_true_eq]
      exact ⟨fun h => ⟨h0, h1, h⟩, fun h => h.2.2⟩
    · rw [if_pos h0, if_neg h1, Option.some.injEq]
      exact (decide_eq_false (fun h => h1 h.2.1)).symm
  · rw [if_neg h0, Option.some.injEq]
    exact (decide_eq_false (fun h => h0 h.1)).symm
theorem impl_cellbox_is {K : Nat} (hK : 25 < K) {c l : Int} (hc : 0 ≤ c) (h : OkC c l) : impl_CellBox.f K c l = some (cellX c l, cellY c l, cellX c l + cellS l, cellY c l + cellS l) := by
  obtain ⟨h0, h1, h2⟩ := id h
  obtain ⟨L, rfl⟩ := Int.eq_ofNat_of_zero_le h0
  obtain ⟨s, hs⟩ : ∃ s, s = 25 - L := ⟨_, rfl⟩
  have e4 : (L : Int).toNat = L := rfl
  have pL := p2_pos (2 * L)
  have hlt : c < 2 ^ (2 * L) := by
    have h3 := Int.mul_ediv_add_emod c (2 ^ (2 * L))
    have h2' : c / 2 ^ (2 * L) = 0 := h2
    rw [h2', Int.mul_zero] at h3
    have := Int.emod_lt_of_pos c pL
    omega
  have h50 := p2_le50 (k := 2 * L) (by omega)
  have a0 := evens_lo L c
  have a1 := evens_hi L c
  have b0 := evens_lo L (c / 2)
  have b1 := evens_hi L (c / 2)
  have pl := p2_pos L
  have ps := p2_pos s
  have ps25 := p2_le25 (k := s) (by omega)
  have a25 : (2 : Int) ^ L * 2 ^ s = 33554432 := by rw [← p2_add, show L + s = 25 by omega]; decide
  have bd : ∀ e : Int, 0 ≤ e → e < 2 ^ L → 0 ≤ e * 2 ^ s ∧ e * 2 ^ s + 2 ^ s ≤ 33554432 := by
    intro e he0 he1
    refine ⟨Int.mul_nonneg he0 (by omega), ?_⟩
    have a2 := Int.mul_le_mul_of_nonneg_right (show e + 1 ≤ 2 ^ L by omega) (show 0 ≤ (2 : Int) ^ s by omega)
    rw [a25, Int.add_mul, Int.one_mul] at a2
    exact a2
  have bx := bd _ a0 a1
  have by_ := bd _ b0 b1
  unfold impl_CellBox.f
  rw [impl_cell c _ hc, decide_eq_true h]
  simp only [Option.bind_some, if_true]
  rw [impl_unmix_is hK hc (by omega), evens_stop (m := 25) (k := L) (by omega) hc hlt, evens_stop (m := 25) (k := L) (by omega) (n := c / 2) (by omega) (by omega)]
  simp only [Option.bind_some]
  have e1 : IntKind.u64.wrap (wrap64 (25 - (L : Int))) = (s : Int) := by rw [w64 (by omega) (by omega), wu64 (by omega) (by omega)]; omega
  rw [e1, if_pos (by omega), shl_i64 _ (by omega), shl_i64 _ (by omega), shl_i64 _ (by omega), Int.one_mul, w64 (n := evens L c * 2 ^ s) (by omega) (by omega), w64 (n := evens L (c / 2) * 2 ^ s) (by omega) (by omega), w64 (n := 2 ^ s) (by omega) (by omega)]
  rw [w64 (n := evens L c * 2 ^ s - 16777216) (by omega) (by omega), w64 (n := evens L (c / 2) * 2 ^ s - 16777216) (by omega) (by omega), w64 (n := 2 ^ s - 1) (by omega) (by omega), w64 (by omega) (by omega), w64 (by omega) (by omega)]
  simp only [cellX, cellY, cellS, e4, ← hs]
theorem impl_cellbox_not {K : Nat} {c l : Int} (hc : 0 ≤ c) (h : ¬ OkC c l) : impl_CellBox.f K c l = some (0, 0, 0, 0) := by
  simp [impl_CellBox.f, impl_cell c l hc, h]

theorem rdC {l : List S45} {j : Nat} (h : j < l.length) : rd_T45 l (j : Int) = l[j] := by
  unfold rd_T45
  simp [List.getD_eq_getElem?_getD, h]
/-- A cell with a code of its level. -/
def OkCell (c : S45) : Prop := 0 ≤ c.f0 ∧ OkC c.f0 c.f1
/-- A point in a cell's box. -/
def inC (px py : Int) (c : S45) : Bool := decide (cellX c.f0 c.f1 ≤ px ∧ px ≤ cellX c.f0 c.f1 + cellS c.f1 ∧ cellY c.f0 c.f1 ≤ py ∧ py ≤ cellY c.f0 c.f1 + cellS c.f1)
/-- A cell's box and a box have a point in common. -/
def meetC (x0 y0 x1 y1 : Int) (c : S45) : Bool := decide (cellX c.f0 c.f1 ≤ x1 ∧ x0 ≤ cellX c.f0 c.f1 + cellS c.f1 ∧ cellY c.f0 c.f1 ≤ y1 ∧ y0 ≤ cellY c.f0 c.f1 + cellS c.f1)
/-- The first code of a cell's, and the first behind it. -/
def loC (c : S45) : Int := c.f0 * 2 ^ (50 - 2 * c.f1.toNat)
def hiC (c : S45) : Int := (c.f0 + 1) * 2 ^ (50 - 2 * c.f1.toNat)
def kid (c : S45) (k : Int) : S45 := ⟨c.f0 * 4 + k, c.f1 + 1⟩
def kids (c : S45) : List S45 := [kid c 0, kid c 1, kid c 2, kid c 3]
def wtN : Nat → Nat
  | 0 => 1
  | n + 1 => 4 * wtN n + 1
def wt (c : S45) : Nat := wtN (25 - c.f1.toNat)
def wsum (cs : List S45) : Nat := (cs.map wt).sum
structure Inv (x0 y0 x1 y1 : Int) (cs : List S45) : Prop where
  ok : ∀ c ∈ cs, OkCell c
  one : ∀ px py, x0 ≤ px → px ≤ x1 → y0 ≤ py → py ≤ y1 → cs.countP (inC px py) = 1
  asc : cs.Pairwise (fun a b => hiC a ≤ loC b)
theorem div_is {X Q E : Int} (hq : 0 < Q) : X / Q = E ↔ E * Q ≤ X ∧ X < E * Q + Q := by
  have h1 := Int.le_ediv_iff_mul_le (a := E) (b := X) hq
  have h2 := Int.ediv_lt_iff_lt_mul (a := X) (b := E + 1) hq
  rw [Int.add_mul, Int.one_mul] at h2
  constructor
  · intro h
    exact ⟨h1.1 (by omega), h2.1 (by omega)⟩
  · intro h
    have a := h1.2 h.1
    have b := h2.2 h.2
    omega
theorem inC_iff (px py : Int) (c : S45) : inC px py c = true ↔ (px + 16777216) / 2 ^ (25 - c.f1.toNat) = evens c.f1.toNat c.f0 ∧ (py + 16777216) / 2 ^ (25 - c.f1.toNat) = evens c.f1.toNat (c.f0 / 2) := by
  have q := p2_pos (25 - c.f1.toNat)
  rw [div_is q, div_is q]
  unfold inC cellX cellY cellS
  rw [decide_eq_true_eq]
  generalize evens c.f1.toNat c.f0 * 2 ^ (25 - c.f1.toNat) = A
  generalize evens c.f1.toNat (c.f0 / 2) * 2 ^ (25 - c.f1.toNat) = B
  generalize (2 : Int) ^ (25 - c.f1.toNat) = Q at *
  omega
theorem okc_lt {c : S45} (h : OkCell c) : c.f0 < 2 ^ (2 * c.f1.toNat) := by
  obtain ⟨h0, h1, h2, h3⟩ := h
  have h4 := Int.mul_ediv_add_emod c.f0 (2 ^ (2 * c.f1.toNat))
  rw [h3, Int.mul_zero] at h4
  have := Int.emod_lt_of_pos c.f0 (p2_pos (2 * c.f1.toNat))
  omega
theorem kid_ok {c : S45} (h : OkCell c) (hl : c.f1 < 25) {k : Int} (k0 : 0 ≤ k) (k1 : k ≤ 3) : OkCell (kid c k) := by
  have hlt := okc_lt h
  obtain ⟨h0, h1, h2, h3⟩ := h
  refine ⟨by show 0 ≤ c.f0 * 4 + k; omega, by show 0 ≤ c.f1 + 1; omega, by show c.f1 + 1 ≤ 25; omega, ?_⟩
  show (c.f0 * 4 + k) / 2 ^ (2 * (c.f1 + 1).toNat) = 0
  rw [show (c.f1 + 1).toNat = c.f1.toNat + 1 by omega, p4]
  exact Int.ediv_eq_zero_of_lt (by omega) (by omega)
theorem kid_in {c : S45} (h : OkCell c) (hl : c.f1 < 25) {k : Int} (k0 : 0 ≤ k) (k1 : k ≤ 3) (px py : Int) :
    inC px py (kid c k) = true ↔ inC px py c = true ∧ (px + 16777216) / 2 ^ (24 - c.f1.toNat) % 2 = k % 2 ∧ (py + 16777216) / 2 ^ (24 - c.f1.toNat) % 2 = k / 2 := by
  obtain ⟨h0, h1, h2, h3⟩ := h
  rw [inC_iff, inC_iff]
  show (px + 16777216) / 2 ^ (25 - (c.f1 + 1).toNat) = evens (c.f1 + 1).toNat (c.f0 * 4 + k) ∧ (py + 16777216) / 2 ^ (25 - (c.f1 + 1).toNat) = evens (c.f1 + 1).toNat ((c.f0 * 4 + k) / 2) ↔ _
  have e1 : (c.f1 + 1).toNat = c.f1.toNat + 1 := by omega
  have e2 : 25 - (c.f1.toNat + 1) = 24 - c.f1.toNat := by omega
  have e3 : 25 - c.f1.toNat = (24 - c.f1.toNat) + 1 := by omega
  rw [e1, e2, e3, ediv_p2_succ, ediv_p2_succ]
  simp only [evens]
  rw [show (c.f0 * 4 + k) / 4 = c.f0 by omega, show (c.f0 * 4 + k) / 2 / 4 = c.f0 / 2 by omega, show (c.f0 * 4 + k) % 2 = k % 2 by omega, show (c.f0 * 4 + k) / 2 % 2 = k / 2 by omega]
  generalize (px + 16777216) / 2 ^ (24 - c.f1.toNat) = u
  generalize (py + 16777216) / 2 ^ (24 - c.f1.toNat) = v
  omega
theorem kids_count {c : S45} (h : OkCell c) (hl : c.f1 < 25) (px py : Int) : (kids c).countP (inC px py) = if inC px py c = true then 1 else 0 := by
  have a0 := kid_in h hl (k := 0) (by omega) (by omega) px py
  have a1 := kid_in h hl (k := 1) (by omega) (by omega) px py
  have a2 := kid_in h hl (k := 2) (by omega) (by omega) px py
  have a3 := kid_in h hl (k := 3) (by omega) (by omega) px py
  generalize (px + 16777216) / 2 ^ (24 - c.f1.toNat) = u at *
  generalize (py + 16777216) / 2 ^ (24 - c.f1.toNat) = v at *
  unfold kids
  by_cases hi : inC px py c = true
  · rw [if_pos hi]
    simp only [hi, true_and] at a0 a1 a2 a3
    have key : ∀ k : Int, (inC px py (kid c k) = true ↔ u % 2 = k % 2 ∧ v % 2 = k / 2) → inC px py (kid c k) = decide (u % 2 = k % 2 ∧ v % 2 = k / 2) := by
      intro k hk
      rw [Bool.eq_iff_iff, decide_eq_true_eq]; exact hk
    simp only [List.countP_cons, List.countP_nil, key _ a0, key _ a1, key _ a2, key _ a3, decide_eq_true_eq]
    rcases (show u % 2 = 0 ∨ u % 2 = 1 by omega) with hu | hu <;> rcases (show v % 2 = 0 ∨ v % 2 = 1 by omega) with hv | hv <;> simp [hu, hv]
  · rw [if_neg hi]
    simp only [hi, false_and, iff_false] at a0 a1 a2 a3
    simp [List.countP_cons, a0, a1, a2, a3]
theorem meet_of_in {x0 y0 x1 y1 px py : Int} {c : S45} (h0 : x0 ≤ px) (h1 : px ≤ x1) (h2 : y0 ≤ py) (h3 : py ≤ y1) (h : inC px py c = true) : meetC x0 y0 x1 y1 c = true := by
  unfold inC at h
  unfold meetC
  rw [decide_eq_true_eq] at *
  omega
theorem kids_keep {x0 y0 x1 y1 px py : Int} {c : S45} (hc : OkCell c) (hl : c.f1 < 25) (h0 : x0 ≤ px) (h1 : px ≤ x1) (h2 : y0 ≤ py) (h3 : py ≤ y1) :
    ((kids c).filter (meetC x0 y0 x1 y1)).countP (inC px py) = if inC px py c = true then 1 else 0 := by
  rw [← kids_count hc hl, List.countP_filter]
  refine List.countP_congr (fun x _ => ?_)
  simp only [Bool.and_eq_true]
  exact ⟨fun h => h.1, fun h => ⟨h, meet_of_in h0 h1 h2 h3 h⟩⟩
theorem kid_lo {c : S45} (h : OkCell c) (hl : c.f1 < 25) {k : Int} (k0 : 0 ≤ k) (k1 : k ≤ 3) : loC (kid c k) = loC c + k * 2 ^ (48 - 2 * c.f1.toNat) ∧ hiC (kid c k) = loC c + (k + 1) * 2 ^ (48 - 2 * c.f1.toNat) ∧ hiC c = loC c + 4 * 2 ^ (48 - 2 * c.f1.toNat) := by
  obtain ⟨h0, h1, h2, h3⟩ := h
  unfold loC hiC
  show (c.f0 * 4 + k) * 2 ^ (50 - 2 * (c.f1 + 1).toNat) = _ ∧ (c.f0 * 4 + k + 1) * 2 ^ (50 - 2 * (c.f1 + 1).toNat) = _ ∧ _
  have e1 : 50 - 2 * (c.f1 + 1).toNat = 48 - 2 * c.f1.toNat := by omega
  have e2 : 50 - 2 * c.f1.toNat = (48 - 2 * c.f1.toNat) + 1 + 1 := by omega
  rw [e1, e2, p2_succ, p2_succ]
  generalize (2 : Int) ^ (48 - 2 * c.f1.toNat) = Q
  refine ⟨by grind, by grind, by grind⟩
theorem wt_kid {c : S45} (h : OkCell c) (hl : c.f1 < 25) (k : Int) : wt c = 4 * wt (kid c k) + 1 := by
  obtain ⟨h0, h1, h2, h3⟩ := h
  unfold wt
  show wtN (25 - c.f1.toNat) = 4 * wtN (25 - (c.f1 + 1).toNat) + 1
  rw [show 25 - c.f1.toNat = (25 - (c.f1 + 1).toNat) + 1 by omega]
  rfl
theorem wsum_app (a b : List S45) : wsum (a ++ b) = wsum a + wsum b := by unfold wsum; rw [List.map_append, List.sum_append]
theorem wsum_kids {c : S45} (h : OkCell c) (hl : c.f1 < 25) (f : S45 → Bool) : wsum ((kids c).filter f) < wt c := by
  have a0 := wt_kid h hl 0
  have a1 := wt_kid h hl 1
  have a2 := wt_kid h hl 2
  have a3 := wt_kid h hl 3
  unfold kids wsum
  simp only [List.filter_cons, List.filter_nil]
  repeat' split
  all_goals simp only [List.map_cons, List.map_nil, List.sum_cons, List.sum_nil]
  all_goals omega
theorem filter_kids (c : S45) (f : S45 → Bool) : ((kids c).filter f).length ≤ 4 := List.length_filter_le _ _
theorem inv_split {x0 y0 x1 y1 : Int} {A B : List S45} {c : S45} (h : Inv x0 y0 x1 y1 (A ++ c :: B)) (hl : c.f1 < 25) : Inv x0 y0 x1 y1 (A ++ (kids c).filter (meetC x0 y0 x1 y1) ++ B) := by
  have hc : OkCell c := h.ok c (by simp)
  have hm : ∀ x ∈ (kids c).filter (meetC x0 y0 x1 y1), ∃ k : Int, 0 ≤ k ∧ k ≤ 3 ∧ x = kid c k := by
    intro x hx
    have := (List.mem_filter.1 hx).1
    simp only [kids, List.mem_cons, List.not_mem_nil, or_false] at this
    rcases this with e | e | e | e
    · exact ⟨0, by omega, by omega, e⟩
    · exact ⟨1, by omega, by omega, e⟩
    · exact ⟨2, by omega, by omega, e⟩
    · exact ⟨3, by omega, by omega, e⟩
  refine ⟨?_, ?_, ?_⟩
  · intro x hx
    simp only [List.mem_append] at hx
    rcases hx with (hx | hx) | hx
    · exact h.ok x (by simp [hx])
    · obtain ⟨k, k0, k1, rfl⟩ := hm x hx
      exact kid_ok hc hl k0 k1
    · exact h.ok x (by simp [hx])
  · intro px py a0 a1 a2 a3
    have := h.one px py a0 a1 a2 a3
    rw [List.countP_append, List.countP_cons] at this
    rw [List.countP_append, List.countP_append, kids_keep hc hl a0 a1 a2 a3]
    omega
  · have ha := h.asc
    rw [List.pairwise_append, List.pairwise_cons] at ha
    obtain ⟨p1, ⟨p2, p3⟩, p4⟩ := ha
    have q := p2_pos (48 - 2 * c.f1.toNat)
    rw [List.pairwise_append, List.pairwise_append]
    refine ⟨⟨p1, ?_, ?_⟩, p3, ?_⟩
    · refine List.Pairwise.filter _ ?_
      have a0 := kid_lo hc hl (k := 0) (by omega) (by omega)
      have a1 := kid_lo hc hl (k := 1) (by omega) (by omega)
      have a2 := kid_lo hc hl (k := 2) (by omega) (by omega)
      have a3 := kid_lo hc hl (k := 3) (by omega) (by omega)
      unfold kids
      simp only [List.pairwise_cons, List.mem_cons, List.not_mem_nil, or_false, forall_eq_or_imp, forall_eq]
      simp only [false_imp_iff, implies_true, List.Pairwise.nil, and_true]
      omega
    · intro a ha b hb
      obtain ⟨k, k0, k1, rfl⟩ := hm b hb
      have e := p4 a ha c (by simp)
      have := (kid_lo hc hl k0 k1).1
      have := Int.mul_nonneg k0 (show 0 ≤ (2 : Int) ^ (48 - 2 * c.f1.toNat) by omega)
      omega
    · intro a ha b hb
      rcases List.mem_append.1 ha with ha | ha
      · exact p4 a ha b (by simp [hb])
      · obtain ⟨k, k0, k1, rfl⟩ := hm a ha
        have e := p2 b hb
        obtain ⟨_, e1, e2⟩ := kid_lo hc hl k0 k1
        have := Int.mul_le_mul_of_nonneg_right (show k + 1 ≤ 4 by omega) (show 0 ≤ (2 : Int) ^ (48 - 2 * c.f1.toNat) by omega)
        omega
/-! the loops -/
theorem impl_inbox (x y a b c d : Int) : impl_inBox.f x y a b c d = some (decide (a ≤ x ∧ x ≤ c ∧ b ≤ y ∧ y ≤ d)) := by
  unfold impl_inBox.f; grind
theorem impl_meet (x y x' y' a b c d : Int) : impl_common.f x y x' y' a b c d = some (decide (x ≤ c ∧ a ≤ x' ∧ y ≤ d ∧ b ≤ y')) := by
  unfold impl_common.f; grind
theorem impl_good (a b c d : Int) : impl_goodBox.f a b c d = some (decide (OkP a b ∧ OkP c d ∧ a ≤ c ∧ b ≤ d)) := by
  unfold impl_goodBox.f
  rw [impl_ok, impl_ok]
  simp only [Option.bind_some, decide_eq_true_eq]
  grind
/-- What is found: none, or a cell that can be parted. -/
def Found (cs : List S45) (a : Int) : Prop := a = -1 ∨ ∃ n : Nat, a = (n : Int) ∧ ∃ h : n < cs.length, cs[n].f1 < 25
theorem cover_find {x0 y0 x1 y1 m : Int} (cs : List S45) (hn : cs.length ≤ 1000) (hok : ∀ c ∈ cs, OkCell c) (d : Nat) : ∀ (i : Nat) (a : Int), i + d = cs.length → Found cs a →
    ∃ a', Found cs a' ∧ ∀ r, Ev (fun k => impl_Cover.l1 k m cs a' cs (cs.length : Int) (cs.length : Int) x0 y0 x1 y1) r → Ev (fun k => impl_Cover.l1 k m cs a cs (cs.length : Int) (i : Int) x0 y0 x1 y1) r := by
  induction d with
  | zero =>
    intro i a hi ha
    obtain rfl : i = cs.length := by omega
    exact ⟨a, ha, fun r h => h⟩
  | succ d ih =>
    intro i a hi ha
    have hlt : i < cs.length := by omega
    have hc := hok _ (List.getElem_mem hlt)
    obtain ⟨hc0, hc1⟩ := hc
    -- one round
    have round : ∃ a1, Found cs a1 ∧ ∀ k, 25 < k → impl_Cover.l1 (k + 2) m cs a cs (cs.length : Int) (i : Int) x0 y0 x1 y1 = impl_Cover.l1 k m cs a1 cs (cs.length : Int) ((i + 1 : Nat) : Int) x0 y0 x1 y1 := by
      have ew : wrap64 ((i : Int) + 1) = ((i + 1 : Nat) : Int) := by rw [w64 (by omega) (by omega)]; omega
      by_cases hs : cs[i].f1 = 25 ∨ (decide (x0 ≤ cellX cs[i].f0 cs[i].f1 ∧ cellX cs[i].f0 cs[i].f1 ≤ x1 ∧ y0 ≤ cellY cs[i].f0 cs[i].f1 ∧ cellY cs[i].f0 cs[i].f1 ≤ y1) = true ∧ decide (x0 ≤ cellX cs[i].f0 cs[i].f1 + cellS cs[i].f1 ∧ cellX cs[i].f0 cs[i].f1 + cellS cs[i].f1 ≤ x1 ∧ y0 ≤ cellY cs[i].f0 cs[i].f1 + cellS cs[i].f1 ∧ cellY cs[i].f0 cs[i].f1 + cellS cs[i].f1 ≤ y1) = true)
      · refine ⟨a, ha, fun k hk => ?_⟩
        simp only [impl_Cover.l1, rdC hlt]
        rw [if_pos (by omega), if_pos (by omega), if_pos (by omega), impl_cellbox_is (by omega) hc0 hc1]
        simp only [Option.bind_some, impl_inbox, impl_Cover.j3, if_true, ew]
        rcases hs with hs | ⟨h1, h2⟩
        · rw [if_pos hs]
        · rw [h1, h2]
          simp only [if_true]
          split <;> rfl
      · have hne : ¬ cs[i].f1 = 25 := fun e => hs (.inl e)
        have hlt25 : cs[i].f1 < 25 := by have := hc1.2.1; omega
        by_cases ht : a < 0 ∨ ∃ n : Nat, a = (n : Int) ∧ ∃ h : n < cs.length, cs[i].f1 < cs[n].f1
        · refine ⟨(i : Int), .inr ⟨i, rfl, hlt, hlt25⟩, fun k hk => ?_⟩
          simp only [impl_Cover.l1, rdC hlt]
          rw [if_pos (by omega), if_pos (by omega), if_pos (by omega), impl_cellbox_is (by omega) hc0 hc1]
          simp only [Option.bind_some, impl_inbox]
          rw [if_neg hne]
          have J : impl_Cover.j3 (k + 1) m cs a (i : Int) cs (cs.length : Int) (i : Int) false x0 y0 x1 y1 cs[i].f0 cs[i].f1 = impl_Cover.l1 k m cs (i : Int) cs (cs.length : Int) ((i + 1 : Nat) : Int) x0 y0 x1 y1 := by
            simp only [impl_Cover.j3, ew, Bool.false_eq_true, if_false]
            rcases ht with ht | ⟨n, rfl, hn', hl⟩
            · rw [if_pos ht]
            · rw [if_neg (by omega), if_pos (by omega), if_pos (by omega), rdC hn', if_pos hl]
          split
          · rename_i h1
            have h2 : ¬ _ := fun h2 => hs (.inr ⟨h1, h2⟩)
            rw [Bool.not_eq_true] at h2
            rw [h2]; exact J
          · exact J
        · refine ⟨a, ha, fun k hk => ?_⟩
          simp only [impl_Cover.l1, rdC hlt]
          rw [if_pos (by omega), if_pos (by omega), if_pos (by omega), impl_cellbox_is (by omega) hc0 hc1]
          simp only [Option.bind_some, impl_inbox]
          rw [if_neg hne]
          have J : impl_Cover.j3 (k + 1) m cs a (i : Int) cs (cs.length : Int) (i : Int) false x0 y0 x1 y1 cs[i].f0 cs[i].f1 = impl_Cover.l1 k m cs a cs (cs.length : Int) ((i + 1 : Nat) : Int) x0 y0 x1 y1 := by
            simp only [impl_Cover.j3, ew, Bool.false_eq_true, if_false]
            rcases ha with ha | ⟨n, rfl, hn', hl⟩
            · exact absurd (.inl (by omega)) ht
            · rw [if_neg (by omega), if_pos (by omega), if_pos (by omega), rdC hn', if_neg (fun hl => ht (.inr ⟨n, rfl, hn', hl⟩))]
          split
          · rename_i h1
            have h2 : ¬ _ := fun h2 => hs (.inr ⟨h1, h2⟩)
            rw [Bool.not_eq_true] at h2
            rw [h2]; exact J
          · exact J
    obtain ⟨a1, ha1, hr⟩ := round
    obtain ⟨a', ha', hrest⟩ := ih (i + 1) a1 (by omega) ha1
    refine ⟨a', ha', fun r h => ?_⟩
    obtain ⟨K, hK⟩ := hrest r h
    refine ⟨K + 28, fun n hn => ?_⟩
    obtain ⟨k, rfl⟩ : ∃ k, n = k + 2 := ⟨n - 2, by omega⟩
    exact (hr k (by omega)).trans (hK k (by omega))
theorem cover_part {x0 y0 x1 y1 m : Int} (cs : List S45) (hn : cs.length ≤ 1000) (hok : ∀ c ∈ cs, OkCell c) (n : Nat) (hlt : n < cs.length) (hl : cs[n].f1 < 25) {r : List S45}
    (h : Ev (fun k => impl_Cover.l0 k m (cs.take n ++ (kids cs[n]).filter (meetC x0 y0 x1 y1) ++ cs.drop (n + 1)) x0 y0 x1 y1) r) : Ev (fun k => impl_Cover.l2 k m cs (n : Int) (cs.take n) 0 x0 y0 x1 y1) r := by
  obtain ⟨K, hK⟩ := h
  have hc := hok _ (List.getElem_mem hlt)
  have hlt4 := okc_lt hc
  have h50 := p2_le50 (k := 2 * cs[n].f1.toNat) (by have := hc.2.2.1; omega)
  obtain ⟨c0, c1, c2, c3⟩ := id hc
  have e0 : wrap64 (cs[n].f1 + 1) = cs[n].f1 + 1 := w64 (by omega) (by omega)
  have one : ∀ (j : Int) (xs : List S45) (k : Nat), 0 ≤ j → j ≤ 3 → 25 < k → xs.length ≤ 5000 → impl_Cover.l2 (k + 1) m cs (n : Int) xs j x0 y0 x1 y1 = impl_Cover.l2 k m cs (n : Int) (xs ++ [kid cs[n] j].filter (meetC x0 y0 x1 y1)) (j + 1) x0 y0 x1 y1 := by
    intro j xs k j0 j1 hk hx
    have hkid := kid_ok hc hl j0 j1
    simp only [impl_Cover.l2, rdC hlt]
    rw [if_pos (by omega), if_pos (by omega), if_pos (by omega), e0, wu64 (n := cs[n].f0 * 4) (by omega) (by omega), wu64 (n := cs[n].f0 * 4 + j) (by omega) (by omega), wu64 (n := j + 1) (by omega) (by omega), impl_cellbox_is (K := k) (c := cs[n].f0 * 4 + j) (l := cs[n].f1 + 1) (by omega) hkid.1 hkid.2]
    simp only [Option.bind_some, impl_meet]
    by_cases hm : meetC x0 y0 x1 y1 (kid cs[n] j) = true
    · rw [List.filter_cons, if_pos hm, List.filter_nil]
      have hm' := hm
      unfold meetC at hm'
      unfold kid at hm'
      rw [if_pos hm', if_pos (by omega)]
      rfl
    · rw [List.filter_cons, if_neg hm, List.filter_nil, List.append_nil]
      have hm' := hm
      unfold meetC at hm'
      unfold kid at hm'
      rw [if_neg hm']
  have last : ∀ (xs : List S45) (k : Nat), xs.length ≤ 5000 → impl_Cover.l2 (k + 1) m cs (n : Int) xs 4 x0 y0 x1 y1 = impl_Cover.l0 k m (xs ++ cs.drop (n + 1)) x0 y0 x1 y1 := by
    intro xs k hx
    simp only [impl_Cover.l2]
    have ew : wrap64 ((n : Int) + 1) = ((n + 1 : Nat) : Int) := by rw [w64 (by omega) (by omega)]; omega
    rw [if_neg (by omega), ew, if_pos (by omega), if_pos (by omega)]
    simp only [Option.bind_some, Int.toNat_natCast]
    rw [if_pos (by rw [List.length_drop]; omega)]
  have fl : ∀ j, ([kid cs[n] j].filter (meetC x0 y0 x1 y1)).length ≤ 1 := fun j => List.length_filter_le _ _
  have tl : (cs.take n).length ≤ 1000 := by rw [List.length_take]; omega
  refine ⟨K + 40, fun k hk => ?_⟩
  obtain ⟨k, rfl⟩ : ∃ j, k = j + 1 + 1 + 1 + 1 + 1 := ⟨k - 5, by omega⟩
  show impl_Cover.l2 (k + 1 + 1 + 1 + 1 + 1) m cs (n : Int) (cs.take n) 0 x0 y0 x1 y1 = some r
  rw [one 0 _ _ (by omega) (by omega) (by omega) (by omega), Int.zero_add,
    one 1 _ _ (by omega) (by omega) (by omega) (by have := fl 0; simp only [List.length_append]; omega), show (1 : Int) + 1 = 2 from rfl,
    one 2 _ _ (by omega) (by omega) (by omega) (by have := fl 0; have := fl 1; simp only [List.length_append]; omega), show (2 : Int) + 1 = 3 from rfl,
    one 3 _ _ (by omega) (by omega) (by omega) (by have := fl 0; have := fl 1; have := fl 2; simp only [List.length_append]; omega), show (3 : Int) + 1 = 4 from rfl,
    last _ _ (by have := fl 0; have := fl 1; have := fl 2; have := fl 3; simp only [List.length_append]; omega)]
  have e : cs.take n ++ [kid cs[n] 0].filter (meetC x0 y0 x1 y1) ++ [kid cs[n] 1].filter (meetC x0 y0 x1 y1) ++ [kid cs[n] 2].filter (meetC x0 y0 x1 y1) ++ [kid cs[n] 3].filter (meetC x0 y0 x1 y1) = cs.take n ++ (kids cs[n]).filter (meetC x0 y0 x1 y1) := by
    simp only [List.append_assoc, ← List.filter_append]
    rfl
  rw [e]
  exact hK k (by omega)
theorem cover_loop {x0 y0 x1 y1 : Int} (m : Nat) (hm4 : 4 ≤ m) (hm : m ≤ 200) (n : Nat) : ∀ cs : List S45, Inv x0 y0 x1 y1 cs → cs.length ≤ m → wsum cs < n →
    ∃ r, Ev (fun k => impl_Cover.l0 k (m : Int) cs x0 y0 x1 y1) r ∧ Inv x0 y0 x1 y1 r ∧ r.length ≤ m := by
  induction n with
  | zero => intro cs _ _ h; omega
  | succ n ih =>
    intro cs hI hl hw
    have e2 : wrap64 ((m : Int) - 2) = (m : Int) - 2 := w64 (by omega) (by omega)
    by_cases hlt : (cs.length : Int) < (m : Int) - 2
    · obtain ⟨a, ha, hf⟩ := cover_find (x0 := x0) (y0 := y0) (x1 := x1) (y1 := y1) (m := (m : Int)) cs (by omega) hI.ok cs.length 0 (-1) (by omega) (.inl rfl)
      rcases ha with rfl | ⟨p, rfl, hp, hp25⟩
      · refine ⟨cs, ?_, hI, hl⟩
        refine Ev.step (f := fun k => impl_Cover.l1 k (m : Int) cs (-1) cs (cs.length : Int) ((0 : Nat) : Int) x0 y0 x1 y1) (fun k => ?_) (hf _ (Ev.step (fun k => ?_) (Ev.now _)))
        · simp only [impl_Cover.l0]
          rw [e2, if_pos hlt]
          rfl
        · simp only [impl_Cover.l1]
          rw [if_neg (by omega), if_pos (by omega)]
      · have esp : cs.take p ++ cs[p] :: cs.drop (p + 1) = cs := by rw [List.getElem_cons_drop, List.take_append_drop]
        have hI' : Inv x0 y0 x1 y1 (cs.take p ++ (kids cs[p]).filter (meetC x0 y0 x1 y1) ++ cs.drop (p + 1)) := inv_split (by rw [esp]; exact hI) hp25
        have hw' : wsum (cs.take p ++ (kids cs[p]).filter (meetC x0 y0 x1 y1) ++ cs.drop (p + 1)) < n := by
          have e3 : wsum cs = wsum (cs.take p) + (wt cs[p] + wsum (cs.drop (p + 1))) := by
            conv => lhs; rw [← esp]
            rw [wsum_app]; rfl
          have := wsum_kids (hI.ok _ (List.getElem_mem hp)) hp25 (meetC x0 y0 x1 y1)
          rw [wsum_app, wsum_app]
          omega
        have hl' : (cs.take p ++ (kids cs[p]).filter (meetC x0 y0 x1 y1) ++ cs.drop (p + 1)).length ≤ m := by
          have := filter_kids cs[p] (meetC x0 y0 x1 y1)
          simp only [List.length_append, List.length_take, List.length_drop]
          omega
        obtain ⟨r, hr, hI2, hl2⟩ := ih _ hI' hl' hw'
        refine ⟨r, ?_, hI2, hl2⟩
        refine Ev.step (f := fun k => impl_Cover.l1 k (m : Int) cs (-1) cs (cs.length : Int) ((0 : Nat) : Int) x0 y0 x1 y1) (fun k => ?_) (hf _ (Ev.step (f := fun k => impl_Cover.l2 k (m : Int) cs (p : Int) (cs.take p) 0 x0 y0 x1 y1) (fun k => ?_) (cover_part cs (by omega) hI.ok p hp hp25 hr)))
        · simp only [impl_Cover.l0]
          rw [e2, if_pos hlt]
          rfl
        · simp only [impl_Cover.l1]
          rw [if_neg (by omega), if_neg (by omega), if_pos (by omega), if_pos (by omega)]
          simp only [Option.bind_some, Int.toNat_natCast, List.nil_append, List.length_nil]
          rw [if_pos (by rw [List.length_take]; omega)]
    · refine ⟨cs, Ev.step (fun k => ?_) (Ev.now _), hI, hl⟩
      simp only [impl_Cover.l0]
      rw [e2, if_neg hlt]
theorem inv_start {x0 y0 x1 y1 : Int} (h0 : OkP x0 y0) (h1 : OkP x1 y1) : Inv x0 y0 x1 y1 [(⟨0, 0⟩ : S45)] := by
  unfold OkP at h0 h1
  refine ⟨?_, ?_, by simp⟩
  · intro c hc
    rw [List.mem_singleton.1 hc]
    exact ⟨Int.le_refl _, Int.le_refl _, by decide, by decide⟩
  · intro px py a0 a1 a2 a3
    rw [List.countP_cons, List.countP_nil, if_pos]
    unfold inC
    rw [decide_eq_true_eq]
    have e1 : cellX 0 0 = -16777216 := by decide
    have e2 : cellY 0 0 = -16777216 := by decide
    have e3 : cellS 0 = 33554431 := by decide
    show cellX 0 0 ≤ px ∧ px ≤ cellX 0 0 + cellS 0 ∧ cellY 0 0 ≤ py ∧ py ≤ cellY 0 0 + cellS 0
    rw [e1, e2, e3]
    omega
theorem impl_cover (x0 y0 x1 y1 m : Int) : ∃ r, Ev (fun k => impl_Cover.f k x0 y0 x1 y1 m) r ∧ ((OkP x0 y0 ∧ OkP x1 y1 ∧ x0 ≤ x1 ∧ y0 ≤ y1 ∧ 4 ≤ m ∧ m ≤ 200) → Inv x0 y0 x1 y1 r ∧ (r.length : Int) ≤ m) ∧ (¬ (OkP x0 y0 ∧ OkP x1 y1 ∧ x0 ≤ x1 ∧ y0 ≤ y1 ∧ 4 ≤ m ∧ m ≤ 200) → r = []) := by
  by_cases h : OkP x0 y0 ∧ OkP x1 y1 ∧ x0 ≤ x1 ∧ y0 ≤ y1 ∧ 4 ≤ m ∧ m ≤ 200
  · obtain ⟨a, b, c, d, e, f⟩ := h
    obtain ⟨M, rfl⟩ := Int.eq_ofNat_of_zero_le (show 0 ≤ m by omega)
    obtain ⟨r, hr, hI, hl⟩ := cover_loop M (by omega) (by omega) _ _ (inv_start a b) (by simp; omega) (Nat.lt_succ_self _)
    refine ⟨r, ?_, fun _ => ⟨hI, by omega⟩, fun h => absurd ⟨a, b, c, d, e, f⟩ h⟩
    refine Ev.congr (f := fun k => impl_Cover.j0 k (M : Int) false x0 y0 x1 y1) (fun k => ?_) (Ev.step (fun k => ?_) hr)
    · unfold impl_Cover.f
      rw [impl_good, decide_eq_true ⟨a, b, c, d⟩]
      simp only [Option.bind_some, if_true]
      rw [if_neg (by omega), decide_eq_false (by omega)]
    · simp only [impl_Cover.j0, Bool.false_eq_true, if_false]
  · refine ⟨[], ?_, fun h' => absurd h' h, fun _ => rfl⟩
    refine Ev.congr (f := fun k => impl_Cover.j0 k m true x0 y0 x1 y1) (fun k => ?_) (Ev.step (fun k => ?_) (Ev.now _))
    · unfold impl_Cover.f
      rw [impl_good]
      simp only [Option.bind_some, decide_eq_true_eq]
      by_cases hg : OkP x0 y0 ∧ OkP x1 y1 ∧ x0 ≤ x1 ∧ y0 ≤ y1
      · rw [if_pos hg]
        by_cases h4 : m < 4
        · rw [if_pos h4]
        · rw [if_neg h4, decide_eq_true (show m > 200 by have := hg.1; grind)]
      · rw [if_neg hg]
    · simp only [impl_Cover.j0, if_true]

theorem gather_loop (n : Int) (h0 : 0 ≤ n) (h1 : n ≤ 18446744073709551615) (d : Nat) : ∀ (K k : Nat), k + d = 25 → d < K → spec_l5Gather.l0 K n (evens k n) k = some (evens 25 n) := by
  induction d with
  | zero =>
    intro K k hk hK
    obtain ⟨K, rfl⟩ : ∃ m, K = m + 1 := ⟨K - 1, by omega⟩
    obtain rfl : k = 25 := by omega
    simp [spec_l5Gather.l0]
  | succ d ih =>
    intro K k hk hK
    obtain ⟨K, rfl⟩ : ∃ m, K = m + 1 := ⟨K - 1, by omega⟩
    simp only [spec_l5Gather.l0]
    have e1 : IntKind.u64.wrap (2 * (k : Int)) = ((2 * k : Nat) : Int) := by rw [wu64 (by omega) (by omega)]; omega
    have e2 : IntKind.u64.wrap ((k : Int) + 1) = ((k + 1 : Nat) : Int) := by rw [wu64 (by omega) (by omega)]; omega
    rw [if_pos (by omega), e1, e2, if_pos (by omega), if_pos (by omega), shr_u64 _ (by omega)]
    have p := p2_pos (2 * k)
    have q1 : 0 ≤ n / 2 ^ (2 * k) := Int.ediv_nonneg h0 (by omega)
    have q2 : n / 2 ^ (2 * k) ≤ n := Int.ediv_le_self _ h0
    rw [and_one q1 (by omega), shl_u64 _ (by omega)]
    have l0 := evens_lo k n
    have l1 := evens_hi k n
    have l2 := p2_le25 (k := k) (by omega)
    have l3 := p2_pos k
    have e3 : IntKind.u64.wrap (n / 2 ^ (2 * k) % 2 * 2 ^ k) = n / 2 ^ (2 * k) % 2 * 2 ^ k := by
      rcases (show n / 2 ^ (2 * k) % 2 = 0 ∨ n / 2 ^ (2 * k) % 2 = 1 by omega) with h | h <;> rw [h] <;> exact wu64 (by omega) (by omega)
    rw [e3, or_lo_u64 k l0 l1 (by omega) (by rcases (show n / 2 ^ (2 * k) % 2 = 0 ∨ n / 2 ^ (2 * k) % 2 = 1 by omega) with h | h <;> rw [h] <;> omega) (Int.mul_emod_left _ _)
      (by rcases (show n / 2 ^ (2 * k) % 2 = 0 ∨ n / 2 ^ (2 * k) % 2 = 1 by omega) with h | h <;> rw [h] <;> omega), ← evens_snoc]
    exact ih K (k + 1) (by omega) (by omega)
theorem spec_gather {K : Nat} (hK : 25 < K) {n : Int} (h0 : 0 ≤ n) (h1 : n ≤ 18446744073709551615) : spec_l5Gather.f K n = some (evens 25 n) := by
  unfold spec_l5Gather.f
  exact gather_loop n h0 h1 25 K 0 rfl hK
theorem spec_point {K : Nat} (hK : 25 < K) {n : Int} (h0 : 0 ≤ n) (h1 : n ≤ 18446744073709551615) : spec_l5Point.f K n = some (evens 25 n - 16777216, evens 25 (n / 2) - 16777216) := by
  unfold spec_l5Point.f
  have a0 := evens_lo 25 n
  have a1 := evens_hi 25 n
  have b0 := evens_lo 25 (n / 2)
  have b1 := evens_hi 25 (n / 2)
  have e : (2 : Int) ^ 25 = 33554432 := by decide
  rw [spec_gather hK h0 h1, spec_gather hK (n := n / 2) (by omega) (by omega)]
  simp only [Option.bind_some]
  rw [w64 (n := evens 25 n) (by omega) (by omega), w64 (n := evens 25 (n / 2)) (by omega) (by omega), w64 (by omega) (by omega), w64 (by omega) (by omega)]

theorem spec_cellbox {K : Nat} (hK : 25 < K) {c l : Int} (hc : 0 ≤ c) (h : OkC c l) : spec_l5CellBox.f K c l = some (cellX c l, cellY c l, cellX c l + cellS l, cellY c l + cellS l) := by
  obtain ⟨h0, h1, h2⟩ := id h
  obtain ⟨L, rfl⟩ := Int.eq_ofNat_of_zero_le h0
  obtain ⟨s, hs⟩ : ∃ s, s = 25 - L := ⟨_, rfl⟩
  have pL := p2_pos (2 * L)
  have hlt : c < 2 ^ (2 * L) := by
    have h3 := Int.mul_ediv_add_emod c (2 ^ (2 * L))
    have h2' : c / 2 ^ (2 * L) = 0 := h2
    rw [h2', Int.mul_zero] at h3
    have := Int.emod_lt_of_pos c pL
    omega
  have hm : c * 2 ^ (2 * s) + 2 ^ (2 * s) ≤ 1125899906842624 := by
    have a1 : (2 : Int) ^ (2 * L) * 2 ^ (2 * s) = 1125899906842624 := by rw [← p2_add, show 2 * L + 2 * s = 50 by omega]; decide
    have a2 := Int.mul_le_mul_of_nonneg_right (show c + 1 ≤ 2 ^ (2 * L) by omega) (show 0 ≤ (2 : Int) ^ (2 * s) by have := p2_pos (2 * s); omega)
    rw [a1, Int.add_mul, Int.one_mul] at a2
    exact a2
  have ps := p2_pos (2 * s)
  have hcs : 0 ≤ c * 2 ^ (2 * s) := Int.mul_nonneg hc (by omega)
  unfold spec_l5CellBox.f
  have e1 : IntKind.u64.wrap (wrap64 (50 - (wrap64 (2 * (L : Int))))) = ((2 * s : Nat) : Int) := by
    rw [w64 (n := 2 * (L : Int)) (by omega) (by omega), w64 (by omega) (by omega), wu64 (by omega) (by omega)]; omega
  have e2 : shl .u64 c ((2 * s : Nat) : Int) = c * 2 ^ (2 * s) := by rw [shl_u64 _ (by omega), wu64 (by omega) (by omega)]
  have e3 : shl .u64 1 ((2 * s : Nat) : Int) = 2 ^ (2 * s) := by rw [shl_u64 _ (by omega), Int.one_mul, wu64 (by omega) (by omega)]
  rw [e1, if_pos (by omega), e2, e3, spec_point hK hcs (by omega), wu64 (n := 2 ^ (2 * s) - 1) (by omega) (by omega), wu64 (by omega) (by omega)]
  simp only [Option.bind_some]
  rw [spec_point hK (by omega) (by omega)]
  simp only [Option.bind_some]
  have f : (25 : Nat) = L + s := by omega
  rw [f, evens_shift, odds_shift, evens_ones, odds_ones]
  have e4 : (L : Int).toNat = L := rfl
  simp only [cellX, cellY, cellS, e4, ← hs, Option.some.injEq, Prod.mk.injEq]
  refine ⟨trivial, trivial, ?_, ?_⟩ <;> omega

theorem spec_ok (x y : Int) : spec_PointOk.f x y = some (decide (OkP x y)) := by
  unfold spec_PointOk.f OkP
  grind

theorem spec_within (x y x' y' a b c d : Int) : spec_l5Within.f x y x' y' a b c d = some (decide (a ≤ x ∧ x ≤ c ∧ b ≤ y ∧ y ≤ d) && decide (a ≤ x' ∧ x' ≤ c ∧ b ≤ y' ∧ y' ≤ d)) := by
  have h : ∀ u v, spec_l2In.f a b c d u v = some (decide (a ≤ u ∧ u ≤ c ∧ b ≤ v ∧ v ≤ d)) := by intro u v; unfold spec_l2In.f; grind
  unfold spec_l5Within.f
  rw [h, h]
  simp only [Option.bind_some]
  cases decide (a ≤ x ∧ x ≤ c ∧ b ≤ y ∧ y ≤ d) <;> simp
theorem spec_meet (x y x' y' a b c d : Int) : spec_l5Meet.f x y x' y' a b c d = some (decide (x ≤ c ∧ a ≤ x' ∧ y ≤ d ∧ b ≤ y')) := by
  unfold spec_l5Meet.f; grind
theorem both_find {x0 y0 x1 y1 m : Int} (cs : List S45) (hn : cs.length ≤ 1000) (hok : ∀ c ∈ cs, OkCell c) (d : Nat) : ∀ (i : Nat) (a : Int), i + d = cs.length → Found cs a →
    ∃ a', Found cs a' ∧ (∀ r, Ev (fun k => impl_Cover.l1 k m cs a' cs (cs.length : Int) (cs.length : Int) x0 y0 x1 y1) r → Ev (fun k => impl_Cover.l1 k m cs a cs (cs.length : Int) (i : Int) x0 y0 x1 y1) r) ∧
      (∀ r, Ev (fun k => spec_Cover.l1 k m cs a' (cs.length : Int) x0 y0 x1 y1) r → Ev (fun k => spec_Cover.l1 k m cs a (i : Int) x0 y0 x1 y1) r) := by
  induction d with
  | zero =>
    intro i a hi ha
    obtain rfl : i = cs.length := by omega
    exact ⟨a, ha, fun r h => h, fun r h => h⟩
  | succ d ih =>
    intro i a hi ha
    have hlt : i < cs.length := by omega
    have hc := hok _ (List.getElem_mem hlt)
    obtain ⟨hc0, hc1⟩ := hc
    have round : ∃ a1, Found cs a1 ∧ (∀ k, 25 < k → impl_Cover.l1 (k + 2) m cs a cs (cs.length : Int) (i : Int) x0 y0 x1 y1 = impl_Cover.l1 k m cs a1 cs (cs.length : Int) ((i + 1 : Nat) : Int) x0 y0 x1 y1) ∧ (∀ k, 25 < k → spec_Cover.l1 (k + 1) m cs a (i : Int) x0 y0 x1 y1 = spec_Cover.l1 k m cs a1 ((i + 1 : Nat) : Int) x0 y0 x1 y1) := by
      have ew : wrap64 ((i : Int) + 1) = ((i + 1 : Nat) : Int) := by rw [w64 (by omega) (by omega)]; omega
      obtain ⟨p, hp⟩ : ∃ p, p = decide (x0 ≤ cellX cs[i].f0 cs[i].f1 ∧ cellX cs[i].f0 cs[i].f1 ≤ x1 ∧ y0 ≤ cellY cs[i].f0 cs[i].f1 ∧ cellY cs[i].f0 cs[i].f1 ≤ y1) := ⟨_, rfl⟩
      obtain ⟨q, hq⟩ : ∃ q, q = decide (x0 ≤ cellX cs[i].f0 cs[i].f1 + cellS cs[i].f1 ∧ cellX cs[i].f0 cs[i].f1 + cellS cs[i].f1 ≤ x1 ∧ y0 ≤ cellY cs[i].f0 cs[i].f1 + cellS cs[i].f1 ∧ cellY cs[i].f0 cs[i].f1 + cellS cs[i].f1 ≤ y1) := ⟨_, rfl⟩
      have impl1 : ∀ k, 25 < k → impl_Cover.l1 (k + 2) m cs a cs (cs.length : Int) (i : Int) x0 y0 x1 y1 = impl_Cover.j3 (k + 1) m cs a (i : Int) cs (cs.length : Int) (i : Int) (if cs[i].f1 = 25 then true else p && q) x0 y0 x1 y1 cs[i].f0 cs[i].f1 := by
        intro k hk
        simp only [impl_Cover.l1, rdC hlt]
        rw [if_pos (by omega), if_pos (by omega), if_pos (by omega), impl_cellbox_is (by omega) hc0 hc1]
        simp only [Option.bind_some, impl_inbox, ← hp, ← hq]
        by_cases h25 : cs[i].f1 = 25
        · rw [if_pos h25, if_pos h25]
        · rw [if_neg h25, if_neg h25]
          cases p <;> simp
      have spec1 : ∀ k, 25 < k → spec_Cover.l1 (k + 1) m cs a (i : Int) x0 y0 x1 y1 = if (if cs[i].f1 = 25 then true else p && q) = true then spec_Cover.l1 k m cs a ((i + 1 : Nat) : Int) x0 y0 x1 y1 else (if a < 0 then (spec_Cover.l1 k m cs (i : Int) ((i + 1 : Nat) : Int) x0 y0 x1 y1) else (if 0 ≤ a then (if a < (cs.length : Int) then (if cs[i].f1 < ((rd_T45 cs a).f1) then (spec_Cover.l1 k m cs (i : Int) ((i + 1 : Nat) : Int) x0 y0 x1 y1) else (spec_Cover.l1 k m cs a ((i + 1 : Nat) : Int) x0 y0 x1 y1)) else (none)) else (none))) := by
        intro k hk
        simp only [spec_Cover.l1, rdC hlt, ew]
        rw [if_pos (by omega), if_pos (by omega)]
        by_cases h25 : cs[i].f1 = 25
        · rw [if_neg (show ¬ cs[i].f1 < 25 by omega), if_pos h25, if_pos rfl]
        · rw [if_pos (show cs[i].f1 < 25 by have := hc1.2.1; omega), if_neg h25, spec_cellbox (by omega) hc0 hc1]
          simp only [Option.bind_some, spec_within, ← hp, ← hq]
      by_cases hs : (if cs[i].f1 = 25 then true else p && q) = true
      · refine ⟨a, ha, fun k hk => ?_, fun k hk => ?_⟩
        · rw [impl1 k hk, hs]
          simp only [impl_Cover.j3, if_true, ew]
        · rw [spec1 k hk, if_pos hs]
      · have hs' : (if cs[i].f1 = 25 then true else p && q) = false := by simpa using hs
        have hlt25 : cs[i].f1 < 25 := by
          have := hc1.2.1
          by_cases h25 : cs[i].f1 = 25
          · rw [if_pos h25] at hs; exact absurd rfl hs
          · omega
        by_cases ht : a < 0 ∨ ∃ n : Nat, a = (n : Int) ∧ ∃ h : n < cs.length, cs[i].f1 < cs[n].f1
        · refine ⟨(i : Int), .inr ⟨i, rfl, hlt, hlt25⟩, fun k hk => ?_, fun k hk => ?_⟩
          · rw [impl1 k hk, hs']
            simp only [impl_Cover.j3, Bool.false_eq_true, if_false, ew]
            rcases ht with ht | ⟨n, rfl, hn', hl⟩
            · rw [if_pos ht]
            · rw [if_neg (by omega), if_pos (by omega), if_pos (by omega), rdC hn', if_pos hl]
          · rw [spec1 k hk, if_neg hs]
            rcases ht with ht | ⟨n, rfl, hn', hl⟩
            · rw [if_pos ht]
            · rw [if_neg (by omega), if_pos (by omega), if_pos (by omega), rdC hn', if_pos hl]
        · refine ⟨a, ha, fun k hk => ?_, fun k hk => ?_⟩
          · rw [impl1 k hk, hs']
            simp only [impl_Cover.j3, Bool.false_eq_true, if_false, ew]
            rcases ha with ha | ⟨n, rfl, hn', hl⟩
            · exact absurd (.inl (by omega)) ht
            · rw [if_neg (by omega), if_pos (by omega), if_pos (by omega), rdC hn', if_neg (fun hl => ht (.inr ⟨n, rfl, hn', hl⟩))]
          · rw [spec1 k hk, if_neg hs]
            rcases ha with ha | ⟨n, rfl, hn', hl⟩
            · exact absurd (.inl (by omega)) ht
            · rw [if_neg (by omega), if_pos (by omega), if_pos (by omega), rdC hn', if_neg (fun hl => ht (.inr ⟨n, rfl, hn', hl⟩))]
    obtain ⟨a1, ha1, hr, hr2⟩ := round
    obtain ⟨a', ha', hrest, hrest2⟩ := ih (i + 1) a1 (by omega) ha1
    refine ⟨a', ha', fun r h => ?_, fun r h => ?_⟩
    · obtain ⟨K, hK⟩ := hrest r h
      refine ⟨K + 28, fun n hn => ?_⟩
      obtain ⟨k, rfl⟩ : ∃ k, n = k + 2 := ⟨n - 2, by omega⟩
      exact (hr k (by omega)).trans (hK k (by omega))
    · obtain ⟨K, hK⟩ := hrest2 r h
      refine ⟨K + 28, fun n hn => ?_⟩
      obtain ⟨k, rfl⟩ : ∃ k, n = k + 1 := ⟨n - 1, by omega⟩
      exact (hr2 k (by omega)).trans (hK k (by omega))
theorem spec_part {x0 y0 x1 y1 m : Int} (cs : List S45) (hn : cs.length ≤ 1000) (hok : ∀ c ∈ cs, OkCell c) (n : Nat) (hlt : n < cs.length) (hl : cs[n].f1 < 25) {r : List S45}
    (h : Ev (fun k => spec_Cover.l0 k m (cs.take n ++ (kids cs[n]).filter (meetC x0 y0 x1 y1) ++ cs.drop (n + 1)) x0 y0 x1 y1) r) : Ev (fun k => spec_Cover.l2 k m cs (n : Int) (cs.take n) 0 x0 y0 x1 y1) r := by
  obtain ⟨K, hK⟩ := h
  have hc := hok _ (List.getElem_mem hlt)
  have hlt4 := okc_lt hc
  have h50 := p2_le50 (k := 2 * cs[n].f1.toNat) (by have := hc.2.2.1; omega)
  obtain ⟨c0, c1, c2, c3⟩ := id hc
  have e0 : wrap64 (cs[n].f1 + 1) = cs[n].f1 + 1 := w64 (by omega) (by omega)
  have one : ∀ (j : Int) (xs : List S45) (k : Nat), 0 ≤ j → j ≤ 3 → 25 < k → xs.length ≤ 5000 → spec_Cover.l2 (k + 1) m cs (n : Int) xs j x0 y0 x1 y1 = spec_Cover.l2 k m cs (n : Int) (xs ++ [kid cs[n] j].filter (meetC x0 y0 x1 y1)) (j + 1) x0 y0 x1 y1 := by
    intro j xs k j0 j1 hk hx
    have hkid := kid_ok hc hl j0 j1
    simp only [spec_Cover.l2, rdC hlt]
    rw [if_pos (by omega), if_pos (by omega), if_pos (by omega), e0, wu64 (n := cs[n].f0 * 4) (by omega) (by omega), wu64 (n := cs[n].f0 * 4 + j) (by omega) (by omega), wu64 (n := j + 1) (by omega) (by omega), spec_cellbox (K := k) (c := cs[n].f0 * 4 + j) (l := cs[n].f1 + 1) (by omega) hkid.1 hkid.2]
    simp only [Option.bind_some, spec_meet]
    by_cases hm : meetC x0 y0 x1 y1 (kid cs[n] j) = true
    · rw [List.filter_cons, if_pos hm, List.filter_nil]
      have hm' := hm
      unfold meetC at hm'
      unfold kid at hm'
      rw [if_pos hm', if_pos (by omega)]
      rfl
    · rw [List.filter_cons, if_neg hm, List.filter_nil, List.append_nil]
      have hm' := hm
      unfold meetC at hm'
      unfold kid at hm'
      rw [if_neg hm']
  have last : ∀ (xs : List S45) (k : Nat), xs.length ≤ 5000 → spec_Cover.l2 (k + 1) m cs (n : Int) xs 4 x0 y0 x1 y1 = spec_Cover.l0 k m (xs ++ cs.drop (n + 1)) x0 y0 x1 y1 := by
    intro xs k hx
    simp only [spec_Cover.l2]
    have ew : wrap64 ((n : Int) + 1) = ((n + 1 : Nat) : Int) := by rw [w64 (by omega) (by omega)]; omega
    rw [if_neg (by omega), ew, if_pos (by omega), if_pos (by omega)]
    simp only [Option.bind_some, Int.toNat_natCast]
    rw [if_pos (by rw [List.length_drop]; omega)]
  have fl : ∀ j, ([kid cs[n] j].filter (meetC x0 y0 x1 y1)).length ≤ 1 := fun j => List.length_filter_le _ _
  have tl : (cs.take n).length ≤ 1000 := by rw [List.length_take]; omega
  refine ⟨K + 40, fun k hk => ?_⟩
  obtain ⟨k, rfl⟩ : ∃ j, k = j + 1 + 1 + 1 + 1 + 1 := ⟨k - 5, by omega⟩
  show spec_Cover.l2 (k + 1 + 1 + 1 + 1 + 1) m cs (n : Int) (cs.take n) 0 x0 y0 x1 y1 = some r
  rw [one 0 _ _ (by omega) (by omega) (by omega) (by omega), Int.zero_add,
    one 1 _ _ (by omega) (by omega) (by omega) (by have := fl 0; simp only [List.length_append]; omega), show (1 : Int) + 1 = 2 from rfl,
    one 2 _ _ (by omega) (by omega) (by omega) (by have := fl 0; have := fl 1; simp only [List.length_append]; omega), show (2 : Int) + 1 = 3 from rfl,
    one 3 _ _ (by omega) (by omega) (by omega) (by have := fl 0; have := fl 1; have := fl 2; simp only [List.length_append]; omega), show (3 : Int) + 1 = 4 from rfl,
    last _ _ (by have := fl 0; have := fl 1; have := fl 2; have := fl 3; simp only [List.length_append]; omega)]
  have e : cs.take n ++ [kid cs[n] 0].filter (meetC x0 y0 x1 y1) ++ [kid cs[n] 1].filter (meetC x0 y0 x1 y1) ++ [kid cs[n] 2].filter (meetC x0 y0 x1 y1) ++ [kid cs[n] 3].filter (meetC x0 y0 x1 y1) = cs.take n ++ (kids cs[n]).filter (meetC x0 y0 x1 y1) := by
    simp only [List.append_assoc, ← List.filter_append]
    rfl
  rw [e]
  exact hK k (by omega)
theorem both_loop {x0 y0 x1 y1 : Int} (m : Nat) (hm4 : 4 ≤ m) (hm : m ≤ 200) (n : Nat) : ∀ cs : List S45, Inv x0 y0 x1 y1 cs → cs.length ≤ m → wsum cs < n →
    ∃ r, Ev (fun k => impl_Cover.l0 k (m : Int) cs x0 y0 x1 y1) r ∧ Ev (fun k => spec_Cover.l0 k (m : Int) cs x0 y0 x1 y1) r ∧ r.length ≤ m := by
  induction n with
  | zero => intro cs _ _ h; omega
  | succ n ih =>
    intro cs hI hl hw
    have e2 : wrap64 ((m : Int) - 2) = (m : Int) - 2 := w64 (by omega) (by omega)
    by_cases hlt : (cs.length : Int) < (m : Int) - 2
    · obtain ⟨a, ha, hf, hf2⟩ := both_find (x0 := x0) (y0 := y0) (x1 := x1) (y1 := y1) (m := (m : Int)) cs (by omega) hI.ok cs.length 0 (-1) (by omega) (.inl rfl)
      rcases ha with rfl | ⟨p, rfl, hp, hp25⟩
      · refine ⟨cs, ?_, ?_, hl⟩
        · refine Ev.step (f := fun k => impl_Cover.l1 k (m : Int) cs (-1) cs (cs.length : Int) ((0 : Nat) : Int) x0 y0 x1 y1) (fun k => ?_) (hf _ (Ev.step (fun k => ?_) (Ev.now _)))
          · simp only [impl_Cover.l0]
            rw [e2, if_pos hlt]
            rfl
          · simp only [impl_Cover.l1]
            rw [if_neg (by omega), if_pos (by omega)]
        · refine Ev.step (f := fun k => spec_Cover.l1 k (m : Int) cs (-1) ((0 : Nat) : Int) x0 y0 x1 y1) (fun k => ?_) (hf2 _ (Ev.step (fun k => ?_) (Ev.now _)))
          · simp only [spec_Cover.l0]
            rw [e2, if_pos hlt]
            rfl
          · simp only [spec_Cover.l1]
            rw [if_neg (by omega), if_pos (by omega)]
      · have esp : cs.take p ++ cs[p] :: cs.drop (p + 1) = cs := by rw [List.getElem_cons_drop, List.take_append_drop]
        have hI' : Inv x0 y0 x1 y1 (cs.take p ++ (kids cs[p]).filter (meetC x0 y0 x1 y1) ++ cs.drop (p + 1)) := inv_split (by rw [esp]; exact hI) hp25
        have hw' : wsum (cs.take p ++ (kids cs[p]).filter (meetC x0 y0 x1 y1) ++ cs.drop (p + 1)) < n := by
          have e3 : wsum cs = wsum (cs.take p) + (wt cs[p] + wsum (cs.drop (p + 1))) := by
            conv => lhs; rw [← esp]
            rw [wsum_app]; rfl
          have := wsum_kids (hI.ok _ (List.getElem_mem hp)) hp25 (meetC x0 y0 x1 y1)
          rw [wsum_app, wsum_app]
          omega
        have hl' : (cs.take p ++ (kids cs[p]).filter (meetC x0 y0 x1 y1) ++ cs.drop (p + 1)).length ≤ m := by
          have := filter_kids cs[p] (meetC x0 y0 x1 y1)
          simp only [List.length_append, List.length_take, List.length_drop]
          omega
        obtain ⟨r, hr, hr2, hl2⟩ := ih _ hI' hl' hw'
        refine ⟨r, ?_, ?_, hl2⟩
        · refine Ev.step (f := fun k => impl_Cover.l1 k (m : Int) cs (-1) cs (cs.length : Int) ((0 : Nat) : Int) x0 y0 x1 y1) (fun k => ?_) (hf _ (Ev.step (f := fun k => impl_Cover.l2 k (m : Int) cs (p : Int) (cs.take p) 0 x0 y0 x1 y1) (fun k => ?_) (cover_part cs (by omega) hI.ok p hp hp25 hr)))
          · simp only [impl_Cover.l0]
            rw [e2, if_pos hlt]
            rfl
          · simp only [impl_Cover.l1]
            rw [if_neg (by omega), if_neg (by omega), if_pos (by omega), if_pos (by omega)]
            simp only [Option.bind_some, Int.toNat_natCast, List.nil_append, List.length_nil]
            rw [if_pos (by rw [List.length_take]; omega)]
        · refine Ev.step (f := fun k => spec_Cover.l1 k (m : Int) cs (-1) ((0 : Nat) : Int) x0 y0 x1 y1) (fun k => ?_) (hf2 _ (Ev.step (f := fun k => spec_Cover.l2 k (m : Int) cs (p : Int) (cs.take p) 0 x0 y0 x1 y1) (fun k => ?_) (spec_part cs (by omega) hI.ok p hp hp25 hr2)))
          · simp only [spec_Cover.l0]
            rw [e2, if_pos hlt]
            rfl
          · simp only [spec_Cover.l1]
            rw [if_neg (by omega), if_neg (by omega)]
            simp only [Option.bind_some]
            rw [if_pos (by omega), if_pos (by omega)]
            simp only [Option.bind_some, Int.toNat_natCast, List.nil_append, List.length_nil]
            rw [if_pos (by rw [List.length_take]; omega)]
    · refine ⟨cs, Ev.step (fun k => ?_) (Ev.now _), Ev.step (fun k => ?_) (Ev.now _), hl⟩
      · simp only [impl_Cover.l0]
        rw [e2, if_neg hlt]
      · simp only [spec_Cover.l0]
        rw [e2, if_neg hlt]
theorem both_cover (x0 y0 x1 y1 m : Int) : ∃ r, Ev (fun k => impl_Cover.f k x0 y0 x1 y1 m) r ∧ Ev (fun k => spec_Cover.f k x0 y0 x1 y1 m) r ∧ r.length ≤ 200 := by
  have spec_no : Ev (fun k => spec_Cover.j0 k m ([] : List S45) true x0 y0 x1 y1) [] := Ev.step (fun k => by simp only [spec_Cover.j0, if_true]) (Ev.now _)
  have impl_no : Ev (fun k => impl_Cover.j0 k m true x0 y0 x1 y1) ([] : List S45) := Ev.step (fun k => by simp only [impl_Cover.j0, if_true]) (Ev.now _)
  by_cases h : OkP x0 y0 ∧ OkP x1 y1 ∧ x0 ≤ x1 ∧ y0 ≤ y1 ∧ 4 ≤ m ∧ m ≤ 200
  · obtain ⟨a, b, c, d, e, f⟩ := h
    obtain ⟨M, rfl⟩ := Int.eq_ofNat_of_zero_le (show 0 ≤ m by omega)
    obtain ⟨r, hr, hr2, hl⟩ := both_loop M (by omega) (by omega) _ _ (inv_start a b) (by simp; omega) (Nat.lt_succ_self _)
    refine ⟨r, ?_, ?_, by omega⟩
    · refine Ev.congr (f := fun k => impl_Cover.j0 k (M : Int) false x0 y0 x1 y1) (fun k => ?_) (Ev.step (fun k => ?_) hr)
      · unfold impl_Cover.f
        rw [impl_good, decide_eq_true ⟨a, b, c, d⟩]
        simp only [Option.bind_some, if_true]
        rw [if_neg (by omega), decide_eq_false (by omega)]
      · simp only [impl_Cover.j0, Bool.false_eq_true, if_false]
    · refine Ev.congr (f := fun k => spec_Cover.j0 k (M : Int) ([] : List S45) false x0 y0 x1 y1) (fun k => ?_) (Ev.step (fun k => ?_) hr2)
      · unfold spec_Cover.f
        simp only [Option.bind_some, spec_ok, decide_eq_true_eq]
        rw [if_pos a, if_pos b, if_neg (by omega), if_neg (by omega), if_neg (by omega), decide_eq_false (by omega)]
      · simp only [spec_Cover.j0, Bool.false_eq_true, if_false]
        rw [if_pos (by simp)]
        rfl
  · refine ⟨[], Ev.congr (fun k => ?_) impl_no, Ev.congr (fun k => ?_) spec_no, by simp⟩
    · unfold impl_Cover.f
      rw [impl_good]
      simp only [Option.bind_some, decide_eq_true_eq]
      by_cases hg : OkP x0 y0 ∧ OkP x1 y1 ∧ x0 ≤ x1 ∧ y0 ≤ y1
      · rw [if_pos hg]
        by_cases h4 : m < 4
        · rw [if_pos h4]
        · rw [if_neg h4, decide_eq_true (show m > 200 by have := hg.1; grind)]
      · rw [if_neg hg]
    · unfold spec_Cover.f
      simp only [Option.bind_some, spec_ok, decide_eq_true_eq]
      by_cases g1 : OkP x0 y0
      · rw [if_pos g1]
        by_cases g2 : OkP x1 y1
        · rw [if_pos g2]
          by_cases g3 : x0 > x1
          · rw [if_pos g3]
          · rw [if_neg g3]
            by_cases g4 : y0 > y1
            · rw [if_pos g4]
            · rw [if_neg g4]
              by_cases g5 : m < 4
              · rw [if_pos g5]
              · rw [if_neg g5, decide_eq_true (show m > 200 by by_cases g6 : m > 200; exact g6; exact absurd ⟨g1, g2, by omega, by omega, by omega, by omega⟩ h)]
        · rw [if_neg g2]
      · rw [if_neg g1]

theorem FnExactCover : PreFnExactCover.Pure := by
  intro x0 y0 x1 y1 m _ _ _ _ _
  suffices h : Ev (fun k => laws_FnExactCover.f k x0 y0 x1 y1 m) true from h.rounds
  unfold laws_FnExactCover.f
  simp only [laws_toBox.f, laws_toPoint.f, Option.bind_some]
  obtain ⟨r, hi, hs, hl⟩ := both_cover x0 y0 x1 y1 m
  obtain ⟨r', n, hm, hh, hn, _, _⟩ := mk_CellS r (by omega) (n := 1) (by omega) (by omega)
  refine Ev.bind hs (Ev.bind hi (Ev.bind (eq_CellS r (by omega)) ?_))
  simp only [if_true]
  refine Ev.bind hm (Ev.bind hh ?_)
  simp only [if_neg (show ¬ n < 0 by omega), if_true]
  refine Ev.bind hi (Ev.bind (eq_CellS r (by omega)) ?_)
  simp only [if_true]
  refine Ev.bind hh ?_
  simp only [if_neg (show ¬ n < 0 by omega), if_true]
  exact Ev.now _

end Go.Proofs.Ytolejglfohagnaa.Pure
