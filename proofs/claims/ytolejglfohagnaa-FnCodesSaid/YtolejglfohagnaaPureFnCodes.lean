/- A point is that of its code, and a code that of its point; the parts of a cell are its box: the law answers true at every draw. -/
import Derived.Test.YtolejglfohagnaaQFnCodesx4
import Derived.Test.YtolejglfohagnaaWMath
namespace Go.Proofs.Ytolejglfohagnaa.Pure
open Go.RowKit Go.Proofs.Ytolejglfohagnaa.PFnCodes Go.Proofs.YtolejglfohagnaaW.PrintWords Go.Proofs.YtolejglfohagnaaW.PrintLast Go.Proofs.YtolejglfohagnaaW.PrintMore Go.Proofs.YtolejglfohagnaaW.Math
set_option linter.unusedVariables false
set_option linter.unusedSimpArgs false

theorem wrap64_id {n : Int} (h : -9223372036854775808 ≤ n ∧ n ≤ 9223372036854775807) : wrap64 n = n := w64 h.1 h.2
theorem wrap64_bd (n : Int) : -9223372036854775808 ≤ wrap64 n ∧ wrap64 n ≤ 9223372036854775807 := by unfold wrap64; omega
/-- A draw's bytes. -/
def Bytes (l : List Int) : Prop := l.length ≤ 9223372036854775807
theorem draw_byte {l : List Int} (hl : Bytes l) {i h : Int} (hi : 0 ≤ i) : ∃ x i' h', spec_l1Byte.f l i h = some (x, i', h') ∧ 0 ≤ x ∧ x ≤ 255 ∧ 0 ≤ i' := by
  unfold Bytes at hl
  unfold spec_l1Byte.f
  by_cases hlt : i < (l.length : Int)
  · rw [if_pos hlt, if_pos hi]
    refine ⟨_, _, _, rfl, ?_, ?_, ?_⟩
    · exact (and_mask _ 255 (by omega) (by omega)).1
    · exact (and_mask _ 255 (by omega) (by omega)).2
    · rw [w64 (by omega) (by omega)]; omega
  · rw [if_neg hlt]
    refine ⟨_, _, _, rfl, ?_, ?_, hi⟩
    · exact (and_mask _ 255 (by omega) (by omega)).1
    · exact (and_mask _ 255 (by omega) (by omega)).2
theorem draw_below {l : List Int} (hl : Bytes l) {i h n : Int} (hi : 0 ≤ i) (hn : 0 < n) : ∃ x i' h', spec_l1Below.f l i h n = some (x, i', h') ∧ 0 ≤ x ∧ x < n ∧ 0 ≤ i' := by
  unfold spec_l1Below.f
  rw [if_neg (by omega)]
  by_cases h256 : n ≤ 256
  · rw [if_pos h256]
    obtain ⟨x, i', h', e, x0, x1, i0⟩ := draw_byte hl (h := h) hi
    rw [e]
    simp only [Option.bind_some]
    rw [if_neg (by omega)]
    refine ⟨_, _, _, rfl, ?_, ?_, i0⟩
    · rw [Int.tmod_eq_emod_of_nonneg x0]; exact Int.emod_nonneg _ (by omega)
    · rw [Int.tmod_eq_emod_of_nonneg x0]; exact Int.emod_lt_of_pos _ hn
  · rw [if_neg h256]
    obtain ⟨x1, i1, h1, e1, a1, b1, c1⟩ := draw_byte hl (h := h) hi
    obtain ⟨x2, i2, h2, e2, a2, b2, c2⟩ := draw_byte hl (h := h1) c1
    obtain ⟨x3, i3, h3, e3, a3, b3, c3⟩ := draw_byte hl (h := h2) c2
    obtain ⟨x4, i4, h4, e4, a4, b4, c4⟩ := draw_byte hl (h := h3) c3
    rw [e1]
    simp only [Option.bind_some]
    rw [e2]
    simp only [Option.bind_some]
    rw [e3]
    simp only [Option.bind_some]
    rw [e4]
    simp only [Option.bind_some]
    rw [if_neg (by omega), w64 (n := x1 * 16777216) (by omega) (by omega), w64 (n := x2 * 65536) (by omega) (by omega), w64 (n := x3 * 256) (by omega) (by omega), w64 (n := x1 * 16777216 + x2 * 65536) (by omega) (by omega), w64 (n := x1 * 16777216 + x2 * 65536 + x3 * 256) (by omega) (by omega), w64 (by omega) (by omega)]
    have hx : 0 ≤ x1 * 16777216 + x2 * 65536 + x3 * 256 + x4 := by omega
    refine ⟨_, _, _, rfl, ?_, ?_, c4⟩
    · rw [Int.tmod_eq_emod_of_nonneg hx]; exact Int.emod_nonneg _ (by omega)
    · rw [Int.tmod_eq_emod_of_nonneg hx]; exact Int.emod_lt_of_pos _ hn
theorem draw_below0 (l : List Int) (i h : Int) {n : Int} (hn : n ≤ 0) : spec_l1Below.f l i h n = some (0, i, h) := by
  unfold spec_l1Below.f
  rw [if_pos hn]
theorem new_loop (l : List Int) (hl : Bytes l) (d : Nat) : ∀ (k : Nat) (h : Int) (j : Nat), j + d = l.length → d < k → ∃ h', spec_l1New.l0 k l h j = some (l, 0, h') := by
  unfold Bytes at hl
  induction d with
  | zero =>
    intro k h j hj hk
    obtain ⟨k, rfl⟩ : ∃ m, k = m + 1 := ⟨k - 1, by omega⟩
    exact ⟨h, by simp only [spec_l1New.l0]; rw [if_neg (by omega)]⟩
  | succ d ih =>
    intro k h j hj hk
    obtain ⟨k, rfl⟩ : ∃ m, k = m + 1 := ⟨k - 1, by omega⟩
    obtain ⟨h', e⟩ := ih k (Go.bits .and .i64 (wrap64 ((wrap64 ((wrap64 (h * 149)) + (wrap64 (rd l j)))) + 3)) 1073741823) (j + 1) (by omega) (by omega)
    refine ⟨h', ?_⟩
    simp only [spec_l1New.l0]
    rw [if_pos (by omega), if_pos (by omega), w64 (n := (j : Int) + 1) (by omega) (by omega)]
    exact e
theorem draw_new {l : List Int} (hl : Bytes l) {k : Nat} (hk : l.length < k) : ∃ h, spec_l1New.f k l = some (l, 0, h) := by
  unfold spec_l1New.f
  exact new_loop l hl l.length k _ 0 (by omega) hk

theorem draw_once {l : List Int} (hl : Bytes l) {i h n : Int} (hi : 0 ≤ i) (hn : 0 < n) : ∃ b i' h', spec_l1Once.f l i h n = some (b, i', h') ∧ 0 ≤ i' := by
  obtain ⟨x, i', h', e, _, _, i0⟩ := draw_below hl (h := h) hi hn
  unfold spec_l1Once.f
  rw [e]
  exact ⟨_, _, _, rfl, i0⟩

/-- What a draw gives for a coordinate. -/
def Near62 (x : Int) : Prop := -4611686018427387904 ≤ x ∧ x ≤ 10000001
theorem draw_point {l : List Int} (hl : Bytes l) {k : Nat} {i h : Int} (hi : 0 ≤ i) : ∃ x y i' h', spec_l1DrawPoint.f (k + 1) l i h = some (x, y, i', h') ∧ Near62 x ∧ (-10000000 ≤ y ∧ y ≤ 10000000) ∧ 0 ≤ i' := by
  unfold spec_l1DrawPoint.f
  obtain ⟨x, i1, h1, e1, x0, x1, c1⟩ := draw_below hl (h := h) (n := 41) hi (by omega)
  obtain ⟨y, i2, h2, e2, y0, y1, c2⟩ := draw_below hl (h := h1) (n := 41) c1 (by omega)
  obtain ⟨z, i3, h3, e3, z0, z1, c3⟩ := draw_below hl (h := h2) (n := 12) c2 (by omega)
  rw [e1]; simp only [Option.bind_some]
  rw [e2]; simp only [Option.bind_some]
  rw [e3]; simp only [Option.bind_some]
  have key : ∀ x y : Int, Near62 x → (-10000000 ≤ y ∧ y ≤ 10000000) → ∃ x' y' i' h', spec_l1DrawPoint.j0 (k + 1) x y l i3 h3 = some (x', y', i', h') ∧ Near62 x' ∧ (-10000000 ≤ y' ∧ y' ≤ 10000000) ∧ 0 ≤ i' := by
    intro x y hx hy
    simp only [spec_l1DrawPoint.j0]
    obtain ⟨b, i4, h4, e4, c4⟩ := draw_once hl (h := h3) (n := 60) c3 (by omega)
    rw [e4]; simp only [Option.bind_some]
    cases b with
    | false => exact ⟨_, _, _, _, rfl, hx, hy, c4⟩
    | true =>
      obtain ⟨w, i5, h5, e5, w0, w1, c5⟩ := draw_below hl (h := h4) (n := 4) c4 (by omega)
      rw [if_pos rfl, e5]; simp only [Option.bind_some]
      rw [if_pos w0, if_pos (by simpa using w1)]
      refine ⟨_, _, _, _, rfl, ?_, hy, c5⟩
      rcases (show w = 0 ∨ w = 1 ∨ w = 2 ∨ w = 3 by omega) with rfl | rfl | rfl | rfl <;> (unfold Near62 rd; simp)
  have e20 : wrap64 (x - 20) = x - 20 := w64 (by omega) (by omega)
  have f20 : wrap64 (y - 20) = y - 20 := w64 (by omega) (by omega)
  rw [e20, f20, w64 (n := (x - 20) * 500000) (by omega) (by omega), w64 (n := (y - 20) * 500000) (by omega) (by omega), w64 (n := (x - 20) * 321) (by omega) (by omega), w64 (n := (y - 20) * 777) (by omega) (by omega)]
  unfold Near62 at key ⊢
  split
  · exact key _ _ (by omega) (by omega)
  · split
    · exact key _ _ (by omega) (by omega)
    · split
      · exact key _ _ (by omega) (by omega)
      · exact key _ _ (by omega) (by omega)

theorem spec_ok (x y : Int) : spec_PointOk.f x y = some (decide (OkP x y)) := by
  unfold spec_PointOk.f OkP
  grind

theorem impl_ok (x y : Int) : impl_PointOk.f x y = some (decide (OkP x y)) := by
  unfold impl_PointOk.f OkP
  grind

theorem bit01 (x : Int) : x % 2 = 0 ∨ x % 2 = 1 := by omega
theorem spread_loop (n : Int) (h0 : 0 ≤ n) (h1 : n ≤ 18446744073709551615) (d : Nat) : ∀ (K k : Nat), k + d = 25 → d < K → spec_l5Spread.l0 K n (spread k n) k = some (spread 25 n) := by
  induction d with
  | zero =>
    intro K k hk hK
    obtain ⟨K, rfl⟩ : ∃ m, K = m + 1 := ⟨K - 1, by omega⟩
    obtain rfl : k = 25 := by omega
    simp [spec_l5Spread.l0]
  | succ d ih =>
    intro K k hk hK
    obtain ⟨K, rfl⟩ : ∃ m, K = m + 1 := ⟨K - 1, by omega⟩
    simp only [spec_l5Spread.l0]
    have e1 : IntKind.u64.wrap (2 * (k : Int)) = ((2 * k : Nat) : Int) := by rw [wu64 (by omega) (by omega)]; omega
    have e2 : IntKind.u64.wrap ((k : Int) + 1) = ((k + 1 : Nat) : Int) := by rw [wu64 (by omega) (by omega)]; omega
    rw [if_pos (by omega), e1, e2, if_pos (by omega), if_pos (by omega), shr_u64 _ (by omega)]
    have p := p2_pos k
    have q1 : 0 ≤ n / 2 ^ k := Int.ediv_nonneg h0 (by omega)
    have q2 : n / 2 ^ k ≤ n := Int.ediv_le_self _ h0
    rw [and_one q1 (by omega), shl_u64 _ (by omega)]
    have l0 := spread_lo k n
    have l1 := spread_hi k n
    have l2 := p2_le50 (k := 2 * k) (by omega)
    have l3 := p2_pos (2 * k)
    have hb := bit01 (n / 2 ^ k)
    have e3 : IntKind.u64.wrap (n / 2 ^ k % 2 * 2 ^ (2 * k)) = n / 2 ^ k % 2 * 2 ^ (2 * k) := by
      rcases hb with h | h <;> rw [h] <;> exact wu64 (by omega) (by omega)
    rw [e3, or_lo_u64 (2 * k) l0 (by omega) (by omega) (by rcases hb with h | h <;> rw [h] <;> omega) (Int.mul_emod_left _ _) (by rcases hb with h | h <;> rw [h] <;> omega), ← spread_snoc]
    exact ih K (k + 1) (by omega) (by omega)
theorem spec_spread {K : Nat} (hK : 25 < K) {n : Int} (h0 : 0 ≤ n) (h1 : n ≤ 18446744073709551615) : spec_l5Spread.f K n = some (spread 25 n) := by
  unfold spec_l5Spread.f
  exact spread_loop n h0 h1 25 K 0 rfl hK
/-- The code of a point. -/
def code (x y : Int) : Int := spread 25 (x + 16777216) + 2 * spread 25 (y + 16777216)
theorem code_lo (x y : Int) : 0 ≤ code x y := by have := spread_lo 25 (x + 16777216); have := spread_lo 25 (y + 16777216); unfold code; omega
theorem code_hi (x y : Int) : code x y < 1125899906842624 := by
  have h1 := spread_hi 25 (x + 16777216)
  have h2 := spread_hi 25 (y + 16777216)
  have e : (2 : Int) ^ (2 * 25) = 1125899906842624 := by decide
  unfold code
  omega
theorem or_spread (m : Nat) (x y : Int) (hm : m ≤ 25) : Go.bits .or .u64 (spread m x) (2 * spread m y) = spread m x + 2 * spread m y := by
  induction m generalizing x y with
  | zero => simp only [spread]; decide
  | succ m ih =>
    have a0 := spread_lo m (x / 2)
    have a1 := spread_hi m (x / 2)
    have b0 := spread_lo m (y / 2)
    have b1 := spread_hi m (y / 2)
    have c := p2_le50 (k := 2 * m) (by omega)
    have h := ih (x / 2) (y / 2) (by omega)
    -- both have their two lowest bits apart from the rest
    have key : ∀ (a b p q : Int), 0 ≤ a → a ≤ 1125899906842624 → 0 ≤ b → b ≤ 1125899906842624 → 0 ≤ p → p ≤ 1 → 0 ≤ q → q ≤ 1 → Go.bits .or .u64 a b = a + b → Go.bits .or .u64 (p + 4 * a) (2 * q + 4 * b) = (p + 2 * q) + 4 * (a + b) := by
      intro a b p q ha ha' hb hb' hp hp' hq hq' hor
      obtain ⟨a, rfl⟩ := Int.eq_ofNat_of_zero_le ha
      obtain ⟨b, rfl⟩ := Int.eq_ofNat_of_zero_le hb
      obtain ⟨p, rfl⟩ := Int.eq_ofNat_of_zero_le hp
      obtain ⟨q, rfl⟩ := Int.eq_ofNat_of_zero_le hq
      have hk : ∀ n : Int, 0 ≤ n → n < 2 ^ 64 → IntKind.u64.wrap n = n := fun n h0 h1 => by rw [IntKind.wrap_u64]; omega
      rw [(Go.bits_nat .u64 64 (by decide) hk a b (by omega) (by omega)).2] at hor
      have hn : a ||| b = a + b := by exact_mod_cast hor
      have e1 : ((p : Int) + 4 * (a : Int)) = ((p + 4 * a : Nat) : Int) := by omega
      have e2 : (2 * (q : Int) + 4 * (b : Int)) = ((2 * q + 4 * b : Nat) : Int) := by omega
      rw [e1, e2, (Go.bits_nat .u64 64 (by decide) hk _ _ (by omega) (by omega)).2]
      have e3 : p + 4 * a = 2 ^ 2 * a + p := by omega
      have e4 : 2 * q + 4 * b = 2 ^ 2 * b + 2 * q := by omega
      have e5 : (2 ^ 2 * a + p) ||| (2 ^ 2 * b + 2 * q) = 2 ^ 2 * (a + b) + (p + 2 * q) := by
        rw [Nat.two_pow_add_eq_or_of_lt (show p < 2 ^ 2 by omega), Nat.two_pow_add_eq_or_of_lt (show 2 * q < 2 ^ 2 by omega), Nat.two_pow_add_eq_or_of_lt (show p + 2 * q < 2 ^ 2 by omega), ← hn]
        have hd : 2 ^ 2 * (a ||| b) = (2 ^ 2 * a) ||| (2 ^ 2 * b) := by
          rw [Nat.mul_comm, Nat.mul_comm _ a, Nat.mul_comm _ b, ← Nat.shiftLeft_eq, ← Nat.shiftLeft_eq, ← Nat.shiftLeft_eq, Nat.shiftLeft_or_distrib]
        have hq : p ||| (2 * q) = p + 2 * q := by
          rcases (show p = 0 ∨ p = 1 by omega) with rfl | rfl <;> rcases (show q = 0 ∨ q = 1 by omega) with rfl | rfl <;> rfl
        rw [hd, ← hq]
        ac_rfl
      rw [e3, e4, e5]
      omega
    have k1 := key (spread m (x / 2)) (2 * spread m (y / 2)) (x % 2) (y % 2) a0 (by omega) (by omega) (by omega) (by omega) (by omega) (by omega) (by omega) h
    simp only [spread]
    rw [show 2 * (y % 2 + 4 * spread m (y / 2)) = 2 * (y % 2) + 4 * (2 * spread m (y / 2)) by omega, k1]
    omega
theorem spec_code {K : Nat} (hK : 25 < K) {x y : Int} (h : OkP x y) : spec_CodeOf.f K x y = some (code x y) := by
  unfold spec_CodeOf.f
  obtain ⟨h0, h1, h2, h3⟩ := id h
  have a0 := spread_lo 25 (y + 16777216)
  have a1 := spread_hi 25 (y + 16777216)
  have e : (2 : Int) ^ (2 * 25) = 1125899906842624 := by decide
  rw [spec_ok, decide_eq_true h]
  simp only [Option.bind_some, if_true]
  rw [w64 (n := x + 16777216) (by omega) (by omega), w64 (n := y + 16777216) (by omega) (by omega), wu64 (n := x + 16777216) (by omega) (by omega), wu64 (n := y + 16777216) (by omega) (by omega), spec_spread hK (by omega) (by omega), spec_spread hK (by omega) (by omega)]
  simp only [Option.bind_some]
  rw [wu64 (by omega) (by omega), Int.mul_comm _ 2, or_spread 25 _ _ (Nat.le_refl _)]
  rfl
theorem spec_code_not {K : Nat} {x y : Int} (h : ¬ OkP x y) : spec_CodeOf.f K x y = some 0 := by
  unfold spec_CodeOf.f
  rw [spec_ok, decide_eq_false h]
  rfl

theorem code_loop (x y : Int) (hx0 : 0 ≤ x) (hx1 : x ≤ 33554432) (hy0 : 0 ≤ y) (hy1 : y ≤ 33554432) (j : Nat) : ∀ (K : Nat), j ≤ 25 → j < K →
    impl_CodeOf.l0 K x y (spread (25 - j) (x / 2 ^ j) + 2 * spread (25 - j) (y / 2 ^ j)) ((j : Int) - 1) = some (spread 25 x + 2 * spread 25 y) := by
  induction j with
  | zero =>
    intro K hj hK
    obtain ⟨K, rfl⟩ : ∃ m, K = m + 1 := ⟨K - 1, by omega⟩
    simp [impl_CodeOf.l0]
  | succ j ih =>
    intro K hj hK
    obtain ⟨K, rfl⟩ : ∃ m, K = m + 1 := ⟨K - 1, by omega⟩
    have e0 : (((j + 1 : Nat) : Int) - 1) = (j : Int) := by omega
    rw [e0]
    simp only [impl_CodeOf.l0]
    have e3 : wrap64 ((j : Int) - 1) = (j : Int) - 1 := w64 (by omega) (by omega)
    have a0 := spread_lo (25 - (j + 1)) (x / 2 ^ (j + 1))
    have a1 := spread_hi (25 - (j + 1)) (x / 2 ^ (j + 1))
    have b0 := spread_lo (25 - (j + 1)) (y / 2 ^ (j + 1))
    have b1 := spread_hi (25 - (j + 1)) (y / 2 ^ (j + 1))
    have c := p2_le50 (k := 2 * (25 - (j + 1))) (by omega)
    have p := p2_pos j
    have qx : 0 ≤ x / 2 ^ j := Int.ediv_nonneg hx0 (by omega)
    have qx2 : x / 2 ^ j ≤ x := Int.ediv_le_self _ hx0
    have qy : 0 ≤ y / 2 ^ j := Int.ediv_nonneg hy0 (by omega)
    have qy2 : y / 2 ^ j ≤ y := Int.ediv_le_self _ hy0
    rw [if_pos (by omega), if_pos (by omega), e3, shr_u64 _ (by omega), shr_u64 _ (by omega), and_one qx (by omega), and_one qy (by omega)]
    generalize hA : spread (25 - (j + 1)) (x / 2 ^ (j + 1)) = A at *
    generalize hB : spread (25 - (j + 1)) (y / 2 ^ (j + 1)) = B at *
    rw [wu64 (n := (A + 2 * B) * 4) (by omega) (by omega), wu64 (n := y / 2 ^ j % 2 * 2) (by omega) (by omega),
      or_u64 (x := (A + 2 * B) * 4) (y := y / 2 ^ j % 2 * 2) 2 (by omega) (by omega) (by omega) (by omega) (by omega) (by omega), or_u64 (x := (A + 2 * B) * 4 + y / 2 ^ j % 2 * 2) (y := x / 2 ^ j % 2) 1 (by omega) (by omega) (by omega) (by omega) (by omega) (by omega)]
    have f1 : 25 - j = (25 - (j + 1)) + 1 := by omega
    have g1 : spread (25 - j) (x / 2 ^ j) = x / 2 ^ j % 2 + 4 * A := by rw [f1, spread, ← ediv_p2_succ, hA]
    have g2 : spread (25 - j) (y / 2 ^ j) = y / 2 ^ j % 2 + 4 * B := by rw [f1, spread, ← ediv_p2_succ, hB]
    have h := ih K (by omega) (by omega)
    rw [g1, g2] at h
    rw [← h]
    congr 1
    omega
theorem impl_code {K : Nat} (hK : 25 < K) {x y : Int} (h : OkP x y) : impl_CodeOf.f K x y = some (code x y) := by
  unfold impl_CodeOf.f
  obtain ⟨h0, h1, h2, h3⟩ := id h
  rw [impl_ok, decide_eq_true h]
  simp only [Option.bind_some, if_true]
  rw [w64 (n := x + 16777216) (by omega) (by omega), w64 (n := y + 16777216) (by omega) (by omega), wu64 (n := x + 16777216) (by omega) (by omega), wu64 (n := y + 16777216) (by omega) (by omega)]
  have h := code_loop (x + 16777216) (y + 16777216) (by omega) (by omega) (by omega) (by omega) 25 K (Nat.le_refl _) hK
  exact h
theorem impl_code_not {K : Nat} {x y : Int} (h : ¬ OkP x y) : impl_CodeOf.f K x y = some 0 := by
  unfold impl_CodeOf.f
  rw [impl_ok, decide_eq_false h]
  rfl

theorem unmix_bit {n : Int} (h0 : 0 ≤ n) (h1 : n ≤ 18446744073709551615) {x : Int} (j : Nat) (hj : j ≤ 60) (hx0 : 0 ≤ x) (hx1 : x ≤ 33554432) :
    Go.bits .or .i64 (wrap64 (x * 2)) (wrap64 (Go.bits .and .u64 (shr .u64 n (j : Int)) 1)) = n / 2 ^ j % 2 + 2 * x := by
  have p := p2_pos j
  have q1 : 0 ≤ n / 2 ^ j := Int.ediv_nonneg h0 (by omega)
  have q2 : n / 2 ^ j ≤ n := Int.ediv_le_self _ h0
  rw [shr_u64 _ (by omega), and_one q1 (by omega), w64 (n := x * 2) (by omega) (by omega), w64 (by omega) (by omega), or_i64 1 (by omega) (by omega) (by omega) (by omega) (by omega) (by omega)]
  omega
theorem unmix_loop (n : Int) (h0 : 0 ≤ n) (h1 : n ≤ 18446744073709551615) (j : Nat) : ∀ (K : Nat), j ≤ 25 → j < K →
    impl_unmix.l0 K n (evens (25 - j) (n / 2 ^ (2 * j))) (evens (25 - j) (n / 2 / 2 ^ (2 * j))) ((j : Int) - 1) = some (evens 25 n, evens 25 (n / 2)) := by
  induction j with
  | zero =>
    intro K hj hK
    obtain ⟨K, rfl⟩ : ∃ m, K = m + 1 := ⟨K - 1, by omega⟩
    simp [impl_unmix.l0]
  | succ j ih =>
    intro K hj hK
    obtain ⟨K, rfl⟩ : ∃ m, K = m + 1 := ⟨K - 1, by omega⟩
    have e0 : (((j + 1 : Nat) : Int) - 1) = (j : Int) := by omega
    rw [e0]
    simp only [impl_unmix.l0]
    have e1 : wrap64 (2 * (j : Int)) = ((2 * j : Nat) : Int) := by rw [w64 (by omega) (by omega)]; omega
    have e2 : wrap64 (((2 * j : Nat) : Int) + 1) = ((2 * j + 1 : Nat) : Int) := by rw [w64 (by omega) (by omega)]; omega
    have e3 : wrap64 ((j : Int) - 1) = (j : Int) - 1 := w64 (by omega) (by omega)
    have a0 := evens_lo (25 - (j + 1)) (n / 2 ^ (2 * (j + 1)))
    have a1 := evens_hi (25 - (j + 1)) (n / 2 ^ (2 * (j + 1)))
    have b0 := evens_lo (25 - (j + 1)) (n / 2 / 2 ^ (2 * (j + 1)))
    have b1 := evens_hi (25 - (j + 1)) (n / 2 / 2 ^ (2 * (j + 1)))
    have c := p2_le25 (k := 25 - (j + 1)) (by omega)
    rw [if_pos (by omega), e1, e2, if_pos (by omega), if_pos (by omega), e3, unmix_bit h0 h1 (2 * j) (by omega) a0 (by omega), unmix_bit h0 h1 (2 * j + 1) (by omega) b0 (by omega)]
    have f1 : 25 - j = (25 - (j + 1)) + 1 := by omega
    have f2 : n / 2 ^ (2 * (j + 1)) = n / 2 ^ (2 * j) / 4 := by
      rw [show 2 * (j + 1) = 2 * j + 2 by omega, ediv_p2_add]; rfl
    have f3 : n / 2 / 2 ^ (2 * (j + 1)) = n / 2 / 2 ^ (2 * j) / 4 := by
      rw [show 2 * (j + 1) = 2 * j + 2 by omega, ediv_p2_add]; rfl
    have f4 : n / 2 ^ (2 * j + 1) = n / 2 / 2 ^ (2 * j) := by
      have e2 : n / 2 = n / 2 ^ 1 := by simp
      rw [e2, ← ediv_p2_add, Nat.add_comm]
    have g1 : evens (25 - j) (n / 2 ^ (2 * j)) = n / 2 ^ (2 * j) % 2 + 2 * evens (25 - (j + 1)) (n / 2 ^ (2 * (j + 1))) := by rw [f1, evens, f2]
    have g2 : evens (25 - j) (n / 2 / 2 ^ (2 * j)) = n / 2 ^ (2 * j + 1) % 2 + 2 * evens (25 - (j + 1)) (n / 2 / 2 ^ (2 * (j + 1))) := by rw [f1, evens, f3, f4]
    rw [← g1, ← g2]
    exact ih K (by omega) (by omega)
theorem impl_unmix_is {K : Nat} (hK : 25 < K) {n : Int} (h0 : 0 ≤ n) (h1 : n < 1125899906842624) : impl_unmix.f K n = some (evens 25 n, evens 25 (n / 2)) := by
  have h := unmix_loop n h0 (by omega) 25 K (Nat.le_refl _) hK
  simpa [impl_unmix.f, evens] using h

/-- A cell's code has no bits beyond its level. -/
def OkC (c l : Int) : Prop := 0 ≤ l ∧ l ≤ 25 ∧ c / 2 ^ (2 * l.toNat) = 0
instance (c l : Int) : Decidable (OkC c l) := by unfold OkC; infer_instance
/-- The box of a cell. -/
def cellX (c l : Int) : Int := evens l.toNat c * 2 ^ (25 - l.toNat) - 16777216
def cellY (c l : Int) : Int := evens l.toNat (c / 2) * 2 ^ (25 - l.toNat) - 16777216
def cellS (l : Int) : Int := 2 ^ (25 - l.toNat) - 1
theorem two_l {l : Int} (h0 : 0 ≤ l) (h1 : l ≤ 25) : wrap64 (2 * l) = ((2 * l.toNat : Nat) : Int) := by rw [w64 (by omega) (by omega)]; omega

theorem impl_cell (c l : Int) (hc : 0 ≤ c) : impl_cellOk.f c l = some (decide (OkC c l)) := by
  unfold impl_cellOk.f
  by_cases h0 : l ≥ 0
  · by_cases h1 : l ≤ 25
    · rw [if_pos h0, if_pos h1, two_l h0 h1, if_pos (by omega), shr_u64 _ (by omega)]
      rw [Option.some.injEq, Bool.eq_iff_iff, beq_iff_eq, decide_eq_true_eq]
      exact ⟨fun h => ⟨h0, h1, h⟩, fun h => h.2.2⟩
    · rw [if_pos h0, if_neg h1, Option.some.injEq]
      exact (decide_eq_false (fun h => h1 h.2.1)).symm
  · rw [if_neg h0, Option.some.injEq]
    exact (decide_eq_false (fun h => h0 h.1)).symm
theorem impl_cellbox_is {K : Nat} (hK : 25 < K) {c l : Int} (hc : 0 ≤ c) (h : OkC c l) : impl_CellBox.f K c l = some (cellX c l, cellY c l, cellX c l + cellS l, cellY c l + cellS l) := by
  obtain ⟨h0, h1, h2⟩ := id h
  obtain ⟨L, rfl⟩ := Int.eq_ofNat_of_zero_le h0
  obtain ⟨s, hs⟩ : ∃ s, s = 25 - L := ⟨_, rfl⟩
  have e4 : (L : Int).toNat = L := rfl
  have pL := p2_pos (2 * L)
  have hlt : c < 2 ^ (2 * L) := by
    have h3 := Int.mul_ediv_add_emod c (2 ^ (2 * L))
    have h2' : c / 2 ^ (2 * L) = 0 := h2
    rw [h2', Int.mul_zero] at h3
    have := Int.emod_lt_of_pos c pL
    omega
  have h50 := p2_le50 (k := 2 * L) (by omega)
  have a0 := evens_lo L c
  have a1 := evens_hi L c
  have b0 := evens_lo L (c / 2)
  have b1 := evens_hi L (c / 2)
  have pl := p2_pos L
  have ps := p2_pos s
  have ps25 := p2_le25 (k := s) (by omega)
  have a25 : (2 : Int) ^ L * 2 ^ s = 33554432 := by rw [← p2_add, show L + s = 25 by omega]; decide
  have bd : ∀ e : Int, 0 ≤ e → e < 2 ^ L → 0 ≤ e * 2 ^ s ∧ e * 2 ^ s + 2 ^ s ≤ 33554432 := by
    intro e he0 he1
    refine ⟨Int.mul_nonneg he0 (by omega), ?_⟩
    have a2 := Int.mul_le_mul_of_nonneg_right (show e + 1 ≤ 2 ^ L by omega) (show 0 ≤ (2 : Int) ^ s by omega)
    rw [a25, Int.add_mul, Int.one_mul] at a2
    exact a2
  have bx := bd _ a0 a1
  have by_ := bd _ b0 b1
  unfold impl_CellBox.f
  rw [impl_cell c _ hc, decide_eq_true h]
  simp only [Option.bind_some, if_true]
  rw [impl_unmix_is hK hc (by omega), evens_stop (m := 25) (k := L) (by omega) hc hlt, evens_stop (m := 25) (k := L) (by omega) (n := c / 2) (by omega) (by omega)]
  simp only [Option.bind_some]
  have e1 : IntKind.u64.wrap (wrap64 (25 - (L : Int))) = (s : Int) := by rw [w64 (by omega) (by omega), wu64 (by omega) (by omega)]; omega
  rw [e1, if_pos (by omega), shl_i64 _ (by omega), shl_i64 _ (by omega), shl_i64 _ (by omega), Int.one_mul, w64 (n := evens L c * 2 ^ s) (by omega) (by omega), w64 (n := evens L (c / 2) * 2 ^ s) (by omega) (by omega), w64 (n := 2 ^ s) (by omega) (by omega)]
  rw [w64 (n := evens L c * 2 ^ s - 16777216) (by omega) (by omega), w64 (n := evens L (c / 2) * 2 ^ s - 16777216) (by omega) (by omega), w64 (n := 2 ^ s - 1) (by omega) (by omega), w64 (by omega) (by omega), w64 (by omega) (by omega)]
  simp only [cellX, cellY, cellS, e4, ← hs]
theorem impl_cellbox_not {K : Nat} {c l : Int} (hc : 0 ≤ c) (h : ¬ OkC c l) : impl_CellBox.f K c l = some (0, 0, 0, 0) := by
  simp [impl_CellBox.f, impl_cell c l hc, h]

theorem u64_range (n : Int) : 0 ≤ IntKind.u64.wrap n ∧ IntKind.u64.wrap n ≤ 18446744073709551615 := by rw [IntKind.wrap_u64]; omega
theorem xor_range (x y : Int) : 0 ≤ Go.bits .xor .u64 x y ∧ Go.bits .xor .u64 x y ≤ 18446744073709551615 := u64_range _
theorem shl_range (x y : Int) : 0 ≤ shl .u64 x y ∧ shl .u64 x y ≤ 18446744073709551615 := u64_range _
theorem spec_code_any {K : Nat} (hK : 25 < K) (x y : Int) : ∃ c, spec_CodeOf.f K x y = some c ∧ 0 ≤ c ∧ c < 1125899906842624 := by
  by_cases h : OkP x y
  · exact ⟨_, spec_code hK h, code_lo x y, code_hi x y⟩
  · exact ⟨_, spec_code_not h, by omega, by omega⟩
theorem draw_codeof {l : List Int} (hl : Bytes l) (k : Nat) (hk : l.length < k) : ∃ x y, spec_DrawCodeOf.f k l = some (x, y) := by
  unfold spec_DrawCodeOf.f
  obtain ⟨k, rfl⟩ : ∃ m, k = m + 1 := ⟨k - 1, by omega⟩
  obtain ⟨h0, e0⟩ := draw_new hl hk
  rw [e0]; simp only [Option.bind_some]
  obtain ⟨ax, ay, i1, h1, e1, _, _, _⟩ := draw_point hl (k := k) (h := h0) (Int.le_refl 0)
  rw [e1]
  exact ⟨_, _, rfl⟩
theorem draw_pointof {l : List Int} (hl : Bytes l) (k : Nat) (hk : l.length + 26 < k) : ∃ n, spec_DrawPointOf.f k l = some n ∧ 0 ≤ n ∧ n ≤ 18446744073709551615 := by
  unfold spec_DrawPointOf.f
  obtain ⟨k, rfl⟩ : ∃ m, k = m + 1 := ⟨k - 1, by omega⟩
  obtain ⟨h0, e0⟩ := draw_new hl (k := k + 1) (by omega)
  rw [e0]; simp only [Option.bind_some]
  obtain ⟨ax, ay, i1, h1, e1, _, _, c1⟩ := draw_point hl (k := k) (h := h0) (Int.le_refl 0)
  rw [e1]; simp only [Option.bind_some]
  obtain ⟨c, e2, c2, c3⟩ := spec_code_any (K := k + 1) (by omega) ax ay
  rw [e2]; simp only [Option.bind_some]
  obtain ⟨x, i3, h3, e3, x0, x1, d3⟩ := draw_below hl (h := h1) (n := 6) c1 (by omega)
  rw [e3]; simp only [Option.bind_some]
  split
  · obtain ⟨y, i4, h4, e4, y0, y1, d4⟩ := draw_below hl (h := h3) (n := 52) d3 (by omega)
    rw [e4]; simp only [Option.bind_some]
    rw [if_pos (u64_range _).1]
    exact ⟨_, rfl, xor_range _ _⟩
  · split
    · obtain ⟨y, i4, h4, e4, y0, y1, d4⟩ := draw_below hl (h := h3) (n := 4294967296) d3 (by omega)
      rw [e4]; simp only [Option.bind_some]
      obtain ⟨z, i5, h5, e5, z0, z1, d5⟩ := draw_below hl (h := h4) (n := 30) d4 (by omega)
      rw [e5]; simp only [Option.bind_some]
      rw [if_pos (u64_range _).1]
      exact ⟨_, rfl, shl_range _ _⟩
    · exact ⟨_, rfl, by omega, by omega⟩
theorem draw_cell {l : List Int} (hl : Bytes l) (k : Nat) (hk : l.length + 26 < k) : ∃ c lv, spec_DrawCellBox.f k l = some (c, lv) ∧ 0 ≤ c ∧ c < 1125899906842624 ∧ -1 ≤ lv ∧ lv ≤ 26 := by
  unfold spec_DrawCellBox.f spec_l5DrawCell.f
  obtain ⟨k, rfl⟩ : ∃ m, k = m + 1 := ⟨k - 1, by omega⟩
  obtain ⟨h0, e0⟩ := draw_new hl (k := k + 1) (by omega)
  rw [e0]; simp only [Option.bind_some]
  obtain ⟨v, i1, h1, e1, v0, v1, c1⟩ := draw_below hl (h := h0) (n := 26) (Int.le_refl 0) (by omega)
  rw [e1]; simp only [Option.bind_some]
  obtain ⟨ax, ay, i2, h2, e2, _, _, c2⟩ := draw_point hl (k := k) (h := h1) c1
  rw [e2]; simp only [Option.bind_some]
  obtain ⟨c, e3, c3, c4⟩ := spec_code_any (K := k + 1) (by omega) ax ay
  rw [e3]; simp only [Option.bind_some]
  have es : IntKind.u64.wrap (wrap64 (50 - wrap64 (2 * v))) = ((50 - 2 * v.toNat : Nat) : Int) := by
    rw [w64 (n := 2 * v) (by omega) (by omega), w64 (by omega) (by omega), wu64 (by omega) (by omega)]; omega
  have p := p2_pos (50 - 2 * v.toNat)
  have q0 : 0 ≤ c / 2 ^ (50 - 2 * v.toNat) := Int.ediv_nonneg c3 (by omega)
  have q1 : c / 2 ^ (50 - 2 * v.toNat) ≤ c := Int.ediv_le_self _ c3
  rw [es, if_pos (by omega), shr_u64 _ (by omega)]
  obtain ⟨b, i4, h4, e4, d4⟩ := draw_once hl (h := h2) (n := 12) c2 (by omega)
  rw [e4]; simp only [Option.bind_some]
  cases b with
  | false => exact ⟨_, v, rfl, q0, by omega, by omega, by omega⟩
  | true =>
    obtain ⟨z, i5, h5, e5, z0, z1, d5⟩ := draw_below hl (h := h4) (n := 4) d4 (by omega)
    rw [if_pos rfl, e5]; simp only [Option.bind_some]
    rw [if_pos z0, if_pos (by simpa using z1)]
    refine ⟨_, _, rfl, q0, by omega, ?_⟩
    rcases (show z = 0 ∨ z = 1 ∨ z = 2 ∨ z = 3 by omega) with rfl | rfl | rfl | rfl <;> simp [rd]
theorem impl_pointof {K : Nat} (hK : 25 < K) {n : Int} (h0 : 0 ≤ n) : (n < 1125899906842624 ∧ OkP (evens 25 n - 16777216) (evens 25 (n / 2) - 16777216) ∧ impl_PointOf.f K n = some (evens 25 n - 16777216, evens 25 (n / 2) - 16777216, true)) ∨
    (impl_PointOf.f K n = some (0, 0, false) ∧ ¬ (n < 1125899906842624 ∧ OkP (evens 25 n - 16777216) (evens 25 (n / 2) - 16777216))) := by
  unfold impl_PointOf.f
  by_cases hc : n / 1125899906842624 = 0
  · rw [if_pos hc, impl_unmix_is hK h0 (by omega)]
    have a0 := evens_lo 25 n
    have a1 := evens_hi 25 n
    have b0 := evens_lo 25 (n / 2)
    have b1 := evens_hi 25 (n / 2)
    have e : (2 : Int) ^ 25 = 33554432 := by decide
    simp only [Option.bind_some, impl_ok, w64 (n := evens 25 n - 16777216) (by omega) (by omega), w64 (n := evens 25 (n / 2) - 16777216) (by omega) (by omega)]
    by_cases hp : OkP (evens 25 n - 16777216) (evens 25 (n / 2) - 16777216)
    · exact .inl ⟨by omega, hp, by simp [hp]⟩
    · exact .inr ⟨by simp [hp], fun h => hp h.2⟩
  · rw [if_neg hc]
    exact .inr ⟨rfl, fun h => hc (by omega)⟩
theorem code_back {n : Int} (h0 : 0 ≤ n) (h1 : n < 1125899906842624) : code (evens 25 n - 16777216) (evens 25 (n / 2) - 16777216) = n := by
  have e : (2 : Int) ^ (2 * 25) = 1125899906842624 := by decide
  unfold code
  rw [Int.sub_add_cancel, Int.sub_add_cancel]
  exact spread_evens 25 n h0 (by omega)
theorem point_back {x y : Int} (h : OkP x y) : evens 25 (code x y) = x + 16777216 ∧ evens 25 (code x y / 2) = y + 16777216 := by
  unfold OkP at h
  have e : (2 : Int) ^ 25 = 33554432 := by decide
  unfold code
  rw [evens_spread, odds_spread, e]
  omega
theorem cells_law (K : Nat) (hK : 26 < K) {c l : Int} (hc : 0 ≤ c) (hc1 : c < 1125899906842624) (h0 : 0 ≤ l) (h1 : l ≤ 24) (h : c / 2 ^ (2 * l.toNat) = 0) : laws_FnCodes.j2 K false c l = some true := by
  obtain ⟨K, rfl⟩ : ∃ m, K = m + 1 := ⟨K - 1, by omega⟩
  obtain ⟨L, rfl⟩ := Int.eq_ofNat_of_zero_le h0
  have eL : (L : Int).toNat = L := rfl
  have pL := p2_pos (2 * L)
  have hlt : c < 2 ^ (2 * L) := by
    have h3 := Int.mul_ediv_add_emod c (2 ^ (2 * L))
    have h' : c / 2 ^ (2 * L) = 0 := h
    rw [h', Int.mul_zero] at h3
    have := Int.emod_lt_of_pos c pL
    omega
  have ok1 : OkC c L := ⟨by omega, by omega, h⟩
  have eL1 : ((L : Int) + 1).toNat = L + 1 := by omega
  have small : ∀ x : Int, 0 ≤ x → x < 4 * 2 ^ (2 * L) → OkC x (L + 1) := by
    intro x hx hx1
    refine ⟨by omega, by omega, ?_⟩
    rw [eL1, p4]
    exact Int.ediv_eq_zero_of_lt hx hx1
  simp only [laws_FnCodes.j2, Bool.false_eq_true, if_false]
  rw [wu64 (n := c * 4) (by omega) (by omega), wu64 (n := c * 4 + 3) (by omega) (by omega), w64 (n := (L : Int) + 1) (by omega) (by omega),
    impl_cellbox_is (K := K) (by omega) hc ok1, impl_cellbox_is (K := K) (by omega) (by omega) (small (c * 4) (by omega) (by omega)), impl_cellbox_is (K := K) (by omega) (by omega) (small (c * 4 + 3) (by omega) (by omega))]
  simp only [Option.bind_some, cellX, cellY, cellS, eL, eL1]
  have f1 : evens (L + 1) (c * 4) = 2 * evens L c := by
    simp only [evens]
    rw [show c * 4 % 2 = 0 by omega, show c * 4 / 4 = c by omega]; omega
  have f2 : evens (L + 1) (c * 4 / 2) = 2 * evens L (c / 2) := by
    simp only [evens]
    rw [show c * 4 / 2 % 2 = 0 by omega, show c * 4 / 2 / 4 = c / 2 by omega]; omega
  have f3 : evens (L + 1) (c * 4 + 3) = 2 * evens L c + 1 := by
    simp only [evens]
    rw [show (c * 4 + 3) % 2 = 1 by omega, show (c * 4 + 3) / 4 = c by omega]; omega
  have f4 : evens (L + 1) ((c * 4 + 3) / 2) = 2 * evens L (c / 2) + 1 := by
    simp only [evens]
    rw [show (c * 4 + 3) / 2 % 2 = 1 by omega, show (c * 4 + 3) / 2 / 4 = c / 2 by omega]; omega
  obtain ⟨s, hs⟩ : ∃ s, s = 25 - (L + 1) := ⟨_, rfl⟩
  have hs1 : 25 - L = s + 1 := by omega
  rw [f1, f2, f3, f4, ← hs, hs1, p2_succ]
  have q := p2_pos s
  have q25 := p2_le25 (k := s) (by omega)
  have a0 := evens_lo L c
  have a1 := evens_hi L c
  have b0 := evens_lo L (c / 2)
  have b1 := evens_hi L (c / 2)
  generalize evens L c = E at *
  generalize evens L (c / 2) = F at *
  have a25 : (2 : Int) ^ L * 2 ^ (s + 1) = 33554432 := by rw [← p2_add, show L + (s + 1) = 25 by omega]; decide
  rw [p2_succ] at a25
  have bE := Int.mul_le_mul_of_nonneg_right (show E + 1 ≤ 2 ^ L by omega) (show 0 ≤ 2 * (2 : Int) ^ s by omega)
  rw [a25] at bE
  have nE : 0 ≤ E * (2 * 2 ^ s) := Int.mul_nonneg a0 (by omega)
  generalize (2 : Int) ^ s = Q at *
  have g1 : 2 * E * Q = E * (2 * Q) := by grind
  have g2 : 2 * F * Q = F * (2 * Q) := by grind
  have g3 : (2 * E + 1) * Q = E * (2 * Q) + Q := by grind
  have g4 : (2 * F + 1) * Q = F * (2 * Q) + Q := by grind
  have g5 : (E + 1) * (2 * Q) = E * (2 * Q) + 2 * Q := by grind
  rw [g5] at bE
  rw [g1, g2, g3, g4]
  generalize E * (2 * Q) = X at *
  generalize F * (2 * Q) = Y at *
  have t1 : (X - 16777216 == X - 16777216 && (Y - 16777216 == Y - 16777216)) = true := by simp
  have t2 : (X - 16777216 + (2 * Q - 1) == X + Q - 16777216 + (Q - 1) && (Y - 16777216 + (2 * Q - 1) == Y + Q - 16777216 + (Q - 1))) = true := by
    rw [Bool.and_eq_true, beq_iff_eq, beq_iff_eq]; omega
  rw [if_pos t1, if_pos t2, w64 (n := X - 16777216 + (2 * Q - 1) - (X - 16777216)) (by omega) (by omega), w64 (n := X - 16777216 + (Q - 1) - (X - 16777216)) (by omega) (by omega), w64 (n := 2 * (X - 16777216 + (Q - 1) - (X - 16777216))) (by omega) (by omega), w64 (by omega) (by omega), Option.some.injEq, beq_iff_eq]
  omega
theorem law_j1 {l : List Int} (hl : Bytes l) (K : Nat) (hK : l.length + 40 < K) : laws_FnCodes.j1 K l false = some true := by
  obtain ⟨K, rfl⟩ : ∃ m, K = m + 1 := ⟨K - 1, by omega⟩
  simp only [laws_FnCodes.j1, Bool.false_eq_true, if_false]
  obtain ⟨c, v, e, c0, c1, v0, v1⟩ := draw_cell hl K (by omega)
  rw [e]; simp only [Option.bind_some]
  have t : laws_FnCodes.j2 K true c v = some true := by
    obtain ⟨K, rfl⟩ : ∃ m, K = m + 1 := ⟨K - 1, by omega⟩
    simp [laws_FnCodes.j2]
  split
  · exact t
  · split
    · exact t
    · have ev : IntKind.u64.wrap (wrap64 (2 * v)) = ((2 * v.toNat : Nat) : Int) := by rw [w64 (by omega) (by omega), wu64 (by omega) (by omega)]; omega
      rw [ev, if_pos (by omega), shr_u64 _ (by omega)]
      by_cases hz : c / 2 ^ (2 * v.toNat) = 0
      · rw [hz]
        exact cells_law K (by omega) c0 c1 (by omega) (by omega) hz
      · have : (c / 2 ^ (2 * v.toNat) != 0) = true := by simpa using hz
        rw [this]
        exact t
theorem law_j0 {l : List Int} (hl : Bytes l) (K : Nat) (hK : l.length + 41 < K) : laws_FnCodes.j0 K l = some true := by
  obtain ⟨K, rfl⟩ : ∃ m, K = m + 1 := ⟨K - 1, by omega⟩
  simp only [laws_FnCodes.j0]
  obtain ⟨n, e, n0, n1⟩ := draw_pointof hl K (by omega)
  rw [e]; simp only [Option.bind_some]
  rcases impl_pointof (K := K) (by omega) n0 with ⟨h1, h2, h3⟩ | ⟨h3, _⟩
  · rw [h3]; simp only [Option.bind_some, if_true]
    rw [impl_code (by omega) h2, code_back n0 h1]
    simp only [Option.bind_some, bne_self_eq_false]
    exact law_j1 hl K (by omega)
  · rw [h3]; simp only [Option.bind_some, Bool.false_eq_true, if_false]
    exact law_j1 hl K (by omega)
theorem FnCodes : laws_FnCodes.Pure := by
  intro l hl _ _
  have hb : Bytes l := hl
  refine ⟨l.length + 50, ?_⟩
  unfold laws_FnCodes.f laws_big.f
  simp only [Option.bind_some]
  by_cases hbig : (l.length : Int) > 1048576
  · simp [hbig]
  · simp only [hbig, decide_false, Bool.false_eq_true, if_false]
    obtain ⟨x, y, e⟩ := draw_codeof hb (l.length + 50) (by omega)
    rw [e, impl_code (K := l.length + 50) (x := 1) (y := 0) (by omega) (by decide), impl_code (K := l.length + 50) (x := 0) (y := 0) (by omega) (by decide)]
    simp only [Option.bind_some]
    have ec : code 1 0 = IntKind.u64.wrap (code 0 0 + 1) := by decide
    rw [if_pos ec, impl_ok]
    simp only [Option.bind_some]
    by_cases h : OkP x y
    · rw [if_pos (decide_eq_true h), impl_code (by omega) h]
      simp only [Option.bind_some]
      obtain ⟨b1, b2⟩ := point_back h
      have hb1 : evens 25 (code x y) - 16777216 = x := by omega
      have hb2 : evens 25 (code x y / 2) - 16777216 = y := by omega
      rcases impl_pointof (K := l.length + 50) (by omega) (code_lo x y) with ⟨h1, h2, h3⟩ | ⟨_, h2⟩
      · rw [h3, hb1, hb2]
        simp only [Option.bind_some, if_true, beq_self_eq_true, Bool.not_true, Bool.or_self, Bool.false_eq_true, if_false]
        exact law_j0 hb _ (by omega)
      · rw [hb1, hb2] at h2
        exact absurd ⟨code_hi x y, h⟩ h2
    · rw [if_neg (by simp [h])]
      exact law_j0 hb _ (by omega)

end Go.Proofs.Ytolejglfohagnaa.Pure
