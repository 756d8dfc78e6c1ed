/- Plain arithmetic for the proofs of this seat: wrapping, bits, squares, interleaved bits. No statement of the program. -/
import Derived.Test.YtcpgphmaibajlaaWMore
import Derived.Laws.BitsLemmas
namespace Go.Proofs.YtcpgphmaibajlaaW.Math
open Go.RowKit Go.Proofs.YtcpgphmaibajlaaW.PrintWords Go.Proofs.YtcpgphmaibajlaaW.PrintMore
set_option linter.unusedVariables false
set_option linter.unusedSimpArgs false

theorem w64 {n : Int} (h0 : -9223372036854775808 ≤ n) (h1 : n ≤ 9223372036854775807) : wrap64 n = n := by unfold wrap64; omega
theorem wu64 {n : Int} (h0 : 0 ≤ n) (h1 : n ≤ 18446744073709551615) : IntKind.u64.wrap n = n := by rw [IntKind.wrap_u64]; omega
theorem i64wf {n : Int} (h : (Lit.int .i64 n).wf = true) : -9223372036854775808 ≤ n ∧ n ≤ 9223372036854775807 := by
  simpa [Lit.wf, IntKind.min, IntKind.max, IntKind.signed, IntKind.bits] using h
theorem u64wf {n : Int} (h : (Lit.int .u64 n).wf = true) : 0 ≤ n ∧ n ≤ 18446744073709551615 := by
  simpa [Lit.wf, IntKind.min, IntKind.max, IntKind.signed, IntKind.bits] using h
theorem u8wf {n : Int} (h : (Lit.int .u8 n).wf = true) : 0 ≤ n ∧ n ≤ 255 := by
  simpa [Lit.wf, IntKind.min, IntKind.max, IntKind.signed, IntKind.bits] using h
theorem wu64_nonneg (n : Int) : 0 ≤ IntKind.u64.wrap n := by rw [IntKind.wrap_u64]; omega

theorem sq_mono {a b : Int} (h0 : 0 ≤ a) (h : a ≤ b) : a * a ≤ b * b := Int.mul_le_mul h h h0 (by omega)
theorem mul_bd {p q B C : Int} (h1 : -B ≤ p) (h2 : p ≤ B) (h3 : -C ≤ q) (h4 : q ≤ C) : -(B*C) ≤ p*q ∧ p*q ≤ B*C := by
  have := Int.mul_nonneg (show 0 ≤ B - p by omega) (show 0 ≤ C - q by omega)
  have := Int.mul_nonneg (show 0 ≤ B + p by omega) (show 0 ≤ C + q by omega)
  have := Int.mul_nonneg (show 0 ≤ B - p by omega) (show 0 ≤ C + q by omega)
  have := Int.mul_nonneg (show 0 ≤ B + p by omega) (show 0 ≤ C - q by omega)
  grind

/-! ### powers of two -/
theorem p2_le {k m : Nat} (h : k ≤ m) : (2 : Int) ^ k ≤ 2 ^ m := by exact_mod_cast Nat.pow_le_pow_right (show 0 < 2 by decide) h
theorem p2_pos (k : Nat) : (0 : Int) < 2 ^ k := by exact_mod_cast Nat.two_pow_pos k
theorem p2_succ (k : Nat) : (2 : Int) ^ (k + 1) = 2 * 2 ^ k := by rw [Int.pow_succ]; omega
theorem p2_le25 {k : Nat} (h : k ≤ 25) : (2 : Int) ^ k ≤ 33554432 := by have := p2_le h; have e : (2 : Int) ^ 25 = 33554432 := by decide
                                                                        omega
theorem p2_le50 {k : Nat} (h : k ≤ 50) : (2 : Int) ^ k ≤ 1125899906842624 := by have := p2_le h; have e : (2 : Int) ^ 50 = 1125899906842624 := by decide
                                                                                omega
theorem p2_add (a b : Nat) : (2 : Int) ^ (a + b) = 2 ^ a * 2 ^ b := Int.pow_add _ _ _
theorem ediv_p2_succ (n : Int) (k : Nat) : n / 2 ^ (k + 1) = n / 2 ^ k / 2 := by
  rw [Int.pow_succ, Int.ediv_ediv_of_nonneg (by have := p2_pos k; omega)]
theorem ediv_p2_add (n : Int) (a b : Nat) : n / 2 ^ (a + b) = n / 2 ^ a / 2 ^ b := by
  rw [p2_add, Int.ediv_ediv_of_nonneg (by have := p2_pos a; omega)]

/-! ### bits -/
theorem shr_u64 (x : Int) {k : Nat} (h : k ≤ 64) : shr .u64 x (k : Int) = x / 2 ^ k := by unfold shr; simp [IntKind.bits, Nat.min_eq_left h]
theorem shr_i64 (x : Int) {k : Nat} (h : k ≤ 64) : shr .i64 x (k : Int) = x / 2 ^ k := by unfold shr; simp [IntKind.bits, Nat.min_eq_left h]
theorem shl_u64 (x : Int) {k : Nat} (h : k ≤ 64) : shl .u64 x (k : Int) = IntKind.u64.wrap (x * 2 ^ k) := by unfold shl; simp [IntKind.bits, Nat.min_eq_left h]
theorem shl_i64 (x : Int) {k : Nat} (h : k ≤ 64) : shl .i64 x (k : Int) = wrap64 (x * 2 ^ k) := by unfold shl; simp [IntKind.bits, Nat.min_eq_left h, IntKind.wrap_i64, wrap64]
theorem and_one {x : Int} (h0 : 0 ≤ x) (h1 : x ≤ 18446744073709551615) : Go.bits .and .u64 x 1 = x % 2 := by
  have h := Go.bits_mask .u64 64 (by decide) (fun n a b => by rw [IntKind.wrap_u64]; omega) 1 (by decide) x h0 (by omega)
  simpa using h
theorem or_u64 {x y : Int} (i : Nat) (hx0 : 0 ≤ x) (hx : x % 2 ^ i = 0) (hx1 : x ≤ 18446744073709551615) (hy0 : 0 ≤ y) (hy : y < 2 ^ i) (hy1 : y ≤ 18446744073709551615) : Go.bits .or .u64 x y = x + y :=
  Go.bits_join .u64 64 (by decide) (fun n a b => by rw [IntKind.wrap_u64]; omega) i x y hx0 hx (by omega) hy0 hy (by omega)
theorem or_i64 {x y : Int} (i : Nat) (hx0 : 0 ≤ x) (hx : x % 2 ^ i = 0) (hx1 : x ≤ 9223372036854775807) (hy0 : 0 ≤ y) (hy : y < 2 ^ i) (hy1 : y ≤ 9223372036854775807) : Go.bits .or .i64 x y = x + y :=
  Go.bits_join .i64 63 (by decide) (fun n a b => by rw [IntKind.wrap_i64]; omega) i x y hx0 hx (by omega) hy0 hy (by omega)
theorem or_comm_u64 {x y : Int} (hx0 : 0 ≤ x) (hx1 : x ≤ 18446744073709551615) (hy0 : 0 ≤ y) (hy1 : y ≤ 18446744073709551615) : Go.bits .or .u64 x y = Go.bits .or .u64 y x := by
  obtain ⟨a, rfl⟩ := Int.eq_ofNat_of_zero_le hx0
  obtain ⟨b, rfl⟩ := Int.eq_ofNat_of_zero_le hy0
  have ha : a < 2 ^ 64 := by omega
  have hb : b < 2 ^ 64 := by omega
  have hk : ∀ n : Int, 0 ≤ n → n < 2 ^ 64 → IntKind.u64.wrap n = n := fun n h0 h1 => by rw [IntKind.wrap_u64]; omega
  rw [(Go.bits_nat .u64 64 (by decide) hk a b ha hb).2, (Go.bits_nat .u64 64 (by decide) hk b a hb ha).2, Nat.or_comm]
theorem or_lo_u64 {x y : Int} (i : Nat) (hx0 : 0 ≤ x) (hx : x < 2 ^ i) (hx1 : x ≤ 18446744073709551615) (hy0 : 0 ≤ y) (hy : y % 2 ^ i = 0) (hy1 : y ≤ 18446744073709551615) : Go.bits .or .u64 x y = x + y := by
  rw [or_comm_u64 hx0 hx1 hy0 hy1, or_u64 i hy0 hy hy1 hx0 hx hx1, Int.add_comm]

theorem and_mask (y m : Int) (h0 : 0 ≤ m) (h1 : m ≤ 9223372036854775807) : 0 ≤ Go.bits .and .i64 y m ∧ Go.bits .and .i64 y m ≤ m := by
  obtain ⟨a, rfl⟩ := Int.eq_ofNat_of_zero_le h0
  have ha : a % 2 ^ 64 = a := Nat.mod_eq_of_lt (by omega)
  have hle : ((BitVec.ofInt 64 y).toNat &&& a) ≤ a := Nat.and_le_right
  have e : Go.bits .and .i64 y (a : Int) = IntKind.i64.wrap (((BitVec.ofInt 64 y &&& BitVec.ofInt 64 (a : Int)).toNat : Nat) : Int) := rfl
  rw [e, BitVec.ofInt_natCast, BitVec.toNat_and, BitVec.toNat_ofNat, ha, IntKind.wrap_i64]
  omega
/-! ### every second bit: gathered (evens), and spread -/
/-- The bits 0, 2, 4, .. (m of them) of n, as a number. -/
def evens : Nat → Int → Int
  | 0, _ => 0
  | m + 1, n => n % 2 + 2 * evens m (n / 4)
theorem evens_lo (m : Nat) (n : Int) : 0 ≤ evens m n := by
  induction m generalizing n with
  | zero => exact Int.le_refl _
  | succ m ih => have := ih (n / 4); simp only [evens]; omega
theorem evens_hi (m : Nat) (n : Int) : evens m n < 2 ^ m := by
  induction m generalizing n with
  | zero => simp [evens]
  | succ m ih => have := ih (n / 4); simp only [evens]; rw [p2_succ]; omega
theorem evens_snoc (m : Nat) (n : Int) : evens (m + 1) n = evens m n + (n / 2 ^ (2 * m) % 2) * 2 ^ m := by
  induction m generalizing n with
  | zero => simp [evens]
  | succ m ih =>
    rw [evens, ih (n / 4)]
    have e : n / 4 / 2 ^ (2 * m) = n / 2 ^ (2 * (m + 1)) := by
      have e4 : (4 : Int) = 2 ^ 2 := by decide
      rw [e4, ← ediv_p2_add, show 2 + 2 * m = 2 * (m + 1) by omega]
    rw [e, evens, p2_succ]
    generalize n / 2 ^ (2 * (m + 1)) % 2 = b
    generalize (2 : Int) ^ m = q
    grind
/-- n's bits (m of them), each fourth power apart. -/
def spread : Nat → Int → Int
  | 0, _ => 0
  | m + 1, n => n % 2 + 4 * spread m (n / 2)
theorem p4 (m : Nat) : (2 : Int) ^ (2 * (m + 1)) = 4 * 2 ^ (2 * m) := by rw [show 2 * (m + 1) = 2 * m + 1 + 1 by omega, p2_succ, p2_succ]; omega
theorem spread_lo (m : Nat) (n : Int) : 0 ≤ spread m n := by
  induction m generalizing n with
  | zero => exact Int.le_refl _
  | succ m ih => have := ih (n / 2); simp only [spread]; omega
theorem spread_hi (m : Nat) (n : Int) : 3 * spread m n < 2 ^ (2 * m) := by
  induction m generalizing n with
  | zero => simp [spread]
  | succ m ih => have := ih (n / 2); simp only [spread]; rw [p4]; omega
theorem spread_snoc (m : Nat) (n : Int) : spread (m + 1) n = spread m n + (n / 2 ^ m % 2) * 2 ^ (2 * m) := by
  induction m generalizing n with
  | zero => simp [spread]
  | succ m ih =>
    rw [spread, ih (n / 2)]
    have e : n / 2 / 2 ^ m = n / 2 ^ (m + 1) := by
      have e2 : n / 2 = n / 2 ^ 1 := by simp
      rw [e2, ← ediv_p2_add, Nat.add_comm]
    rw [e, spread, p4]
    generalize n / 2 ^ (m + 1) % 2 = b
    generalize (2 : Int) ^ (2 * m) = q
    grind
theorem emod_two_mul (x : Int) {q : Int} (hq : 0 < q) : x % (2 * q) = x % 2 + 2 * (x / 2 % q) := by
  have e : x = (x % 2 + 2 * (x / 2 % q)) + (2 * q) * (x / 2 / q) := by
    have h1 := Int.mul_ediv_add_emod x 2
    have h2 := Int.mul_ediv_add_emod (x / 2) q
    grind
  have h3 := Int.emod_nonneg (x / 2) (show q ≠ 0 by omega)
  have h4 := Int.emod_lt_of_pos (x / 2) hq
  rw [e, Int.add_mul_emod_self_left, Int.emod_eq_of_lt (by omega) (by omega)]
  rw [← e]
theorem evens_spread (m : Nat) (x y : Int) : evens m (spread m x + 2 * spread m y) = x % 2 ^ m := by
  induction m generalizing x y with
  | zero => simp [evens]
  | succ m ih =>
    simp only [evens, spread]
    have h1 : (x % 2 + 4 * spread m (x / 2) + 2 * (y % 2 + 4 * spread m (y / 2))) % 2 = x % 2 := by omega
    have h2 : (x % 2 + 4 * spread m (x / 2) + 2 * (y % 2 + 4 * spread m (y / 2))) / 4 = spread m (x / 2) + 2 * spread m (y / 2) := by omega
    rw [h1, h2, ih, p2_succ, emod_two_mul _ (p2_pos m)]
theorem odds_spread (m : Nat) (x y : Int) : evens m ((spread m x + 2 * spread m y) / 2) = y % 2 ^ m := by
  induction m generalizing x y with
  | zero => simp [evens]
  | succ m ih =>
    simp only [evens, spread]
    have h1 : (x % 2 + 4 * spread m (x / 2) + 2 * (y % 2 + 4 * spread m (y / 2))) / 2 % 2 = y % 2 := by omega
    have h2 : (x % 2 + 4 * spread m (x / 2) + 2 * (y % 2 + 4 * spread m (y / 2))) / 2 / 4 = (spread m (x / 2) + 2 * spread m (y / 2)) / 2 := by omega
    rw [h1, h2, ih, p2_succ, emod_two_mul _ (p2_pos m)]
theorem spread_evens (m : Nat) (n : Int) (h0 : 0 ≤ n) (h1 : n < 2 ^ (2 * m)) : spread m (evens m n) + 2 * spread m (evens m (n / 2)) = n := by
  induction m generalizing n with
  | zero => simp [spread]; omega
  | succ m ih =>
    rw [p4] at h1
    have h := ih (n / 4) (by omega) (by omega)
    simp only [evens, spread]
    have e1 := evens_lo m (n / 4)
    have e2 := evens_lo m (n / 2 / 4)
    have a1 : (n % 2 + 2 * evens m (n / 4)) % 2 = n % 2 := by omega
    have a2 : (n % 2 + 2 * evens m (n / 4)) / 2 = evens m (n / 4) := by omega
    have b1 : (n / 2 % 2 + 2 * evens m (n / 2 / 4)) % 2 = n / 2 % 2 := by omega
    have b2 : (n / 2 % 2 + 2 * evens m (n / 2 / 4)) / 2 = evens m (n / 2 / 4) := by omega
    have c : n / 2 / 4 = n / 4 / 2 := by omega
    rw [a1, a2, b1, b2, c]
    omega
/-- Above the bits that n has, nothing comes in. -/
theorem evens_stop {m k : Nat} (hk : k ≤ m) {n : Int} (h0 : 0 ≤ n) (h1 : n < 2 ^ (2 * k)) : evens m n = evens k n := by
  induction k generalizing m n with
  | zero =>
    have : n = 0 := by simp at h1; omega
    subst this
    clear hk h0 h1
    induction m with
    | zero => rfl
    | succ m ih => simp only [evens] at *; simp [ih]
  | succ k ih =>
    obtain ⟨m, rfl⟩ : ∃ j, m = j + 1 := ⟨m - 1, by omega⟩
    rw [p4] at h1
    simp only [evens]
    rw [ih (m := m) (by omega) (n := n / 4) (by omega) (by omega)]
/-- s pairs of zero bits below. -/
theorem evens_shift (s m : Nat) (n : Int) : evens (m + s) (n * 2 ^ (2 * s)) = evens m n * 2 ^ s := by
  induction s with
  | zero => simp
  | succ s ih =>
    rw [show m + (s + 1) = (m + s) + 1 by omega, evens, p4]
    have e1 : n * (4 * 2 ^ (2 * s)) % 2 = 0 := by
      rw [show n * (4 * 2 ^ (2 * s)) = 2 * (2 * (n * 2 ^ (2 * s))) by grind]; omega
    have e2 : n * (4 * 2 ^ (2 * s)) / 4 = n * 2 ^ (2 * s) := by
      rw [show n * (4 * 2 ^ (2 * s)) = 4 * (n * 2 ^ (2 * s)) by grind]; omega
    rw [e1, e2, ih, p2_succ]
    grind
/-- s pairs of one bits below. -/
theorem evens_ones (s m : Nat) (n : Int) : evens (m + s) (n * 2 ^ (2 * s) + (2 ^ (2 * s) - 1)) = evens m n * 2 ^ s + (2 ^ s - 1) := by
  induction s with
  | zero => simp
  | succ s ih =>
    rw [show m + (s + 1) = (m + s) + 1 by omega, evens, p4]
    have e0 : n * (4 * 2 ^ (2 * s)) + (4 * 2 ^ (2 * s) - 1) = 4 * (n * 2 ^ (2 * s) + (2 ^ (2 * s) - 1)) + 3 := by grind
    rw [e0]
    have e1 : (4 * (n * 2 ^ (2 * s) + (2 ^ (2 * s) - 1)) + 3) % 2 = 1 := by omega
    have e2 : (4 * (n * 2 ^ (2 * s) + (2 ^ (2 * s) - 1)) + 3) / 4 = n * 2 ^ (2 * s) + (2 ^ (2 * s) - 1) := by omega
    rw [e1, e2, ih, p2_succ]
    grind
theorem odds_shift (s m : Nat) (n : Int) : evens (m + s) (n * 2 ^ (2 * s) / 2) = evens m (n / 2) * 2 ^ s := by
  induction s with
  | zero => simp
  | succ s ih =>
    rw [show m + (s + 1) = (m + s) + 1 by omega, evens, p4]
    have e0 : n * (4 * 2 ^ (2 * s)) = 4 * (n * 2 ^ (2 * s)) := by grind
    rw [e0]
    have e1 : 4 * (n * 2 ^ (2 * s)) / 2 % 2 = 0 := by omega
    have e2 : 4 * (n * 2 ^ (2 * s)) / 2 / 4 = n * 2 ^ (2 * s) / 2 := by omega
    rw [e1, e2, ih, p2_succ]
    grind
theorem odds_ones (s m : Nat) (n : Int) : evens (m + s) ((n * 2 ^ (2 * s) + (2 ^ (2 * s) - 1)) / 2) = evens m (n / 2) * 2 ^ s + (2 ^ s - 1) := by
  induction s with
  | zero => simp
  | succ s ih =>
    rw [show m + (s + 1) = (m + s) + 1 by omega, evens, p4]
    have e0 : n * (4 * 2 ^ (2 * s)) + (4 * 2 ^ (2 * s) - 1) = 4 * (n * 2 ^ (2 * s) + (2 ^ (2 * s) - 1)) + 3 := by grind
    rw [e0]
    have e1 : (4 * (n * 2 ^ (2 * s) + (2 ^ (2 * s) - 1)) + 3) / 2 % 2 = 1 := by omega
    have e2 : (4 * (n * 2 ^ (2 * s) + (2 ^ (2 * s) - 1)) + 3) / 2 / 4 = (n * 2 ^ (2 * s) + (2 ^ (2 * s) - 1)) / 2 := by omega
    rw [e1, e2, ih, p2_succ]
    grind
/-! ### signs, turns, points -/
def sg (n : Int) : Int := if n > 0 then 1 else if n < 0 then -1 else 0
/-- A point of the map. -/
def OkP (x y : Int) : Prop := -10000000 ≤ x ∧ x ≤ 10000000 ∧ -10000000 ≤ y ∧ y ≤ 10000000
instance (x y : Int) : Decidable (OkP x y) := by unfold OkP; infer_instance
def det (ax ay bx by_ cx cy : Int) : Int := (bx - ax) * (cy - ay) - (by_ - ay) * (cx - ax)
theorem det_alt (ax ay bx by_ cx cy : Int) : (bx - ax) * (cy - by_) - (by_ - ay) * (cx - bx) = det ax ay bx by_ cx cy := by unfold det; grind
theorem root_one {n r s : Int} (hr0 : 0 ≤ r) (hs0 : 0 ≤ s) (hr : r * r ≤ n) (hr1 : n < (r + 1) * (r + 1)) (hs : s * s ≤ n) (hs1 : n < (s + 1) * (s + 1)) : r = s := by
  rcases Int.lt_trichotomy r s with h | h | h
  · have := sq_mono (a := r + 1) (b := s) (by omega) (by omega); omega
  · exact h
  · have := sq_mono (a := s + 1) (b := r) (by omega) (by omega); omega
/-- d is the distance whose square, measured in quarters, is nearest to s. -/
def IsDist (s d : Int) : Prop := 0 ≤ d ∧ 4 * s < (2 * d + 1) * (2 * d + 1) ∧ (d = 0 ∨ (2 * d - 1) * (2 * d - 1) ≤ 4 * s)
theorem dist_one {s d e : Int} (hd : IsDist s d) (he : IsDist s e) : d = e := by
  obtain ⟨d0, d1, d2⟩ := hd
  obtain ⟨e0, e1, e2⟩ := he
  rcases Int.lt_trichotomy d e with h | h | h
  · have := sq_mono (a := 2 * d + 1) (b := 2 * e - 1) (by omega) (by omega)
    rcases e2 with e2 | e2 <;> omega
  · exact h
  · have := sq_mono (a := 2 * e + 1) (b := 2 * d - 1) (by omega) (by omega)
    rcases d2 with d2 | d2 <;> omega
theorem dist_of_root {s r : Int} (h0 : 0 ≤ r) (h1 : r * r ≤ s) (h2 : s < (r + 1) * (r + 1)) : IsDist s (if 4 * s < (2 * r + 1) * (2 * r + 1) then r else r + 1) := by
  split
  · rename_i h
    refine ⟨h0, h, ?_⟩
    by_cases hr : r = 0
    · exact .inl hr
    · have := sq_mono (a := 2 * r - 1) (b := 2 * r) (by omega) (by omega)
      exact .inr (by grind)
  · rename_i h
    have := sq_mono (a := 2 * r + 2) (b := 2 * r + 3) (by omega) (by omega)
    exact ⟨by omega, by grind, .inr (by grind)⟩
theorem dist_of_four {s r : Int} (h0 : 0 ≤ r) (h1 : r * r ≤ 4 * s) (h2 : 4 * s < (r + 1) * (r + 1)) : IsDist s ((r + 1) / 2) := by
  rcases (show r = 2 * (r / 2) ∨ r = 2 * (r / 2) + 1 by omega) with h | h
  · obtain ⟨m, hm⟩ : ∃ m, m = r / 2 := ⟨_, rfl⟩
    rw [← hm] at h
    subst h
    have e : (2 * m + 1) / 2 = m := by omega
    rw [e]
    refine ⟨by omega, h2, ?_⟩
    by_cases hm0 : m = 0
    · exact .inl hm0
    · have := sq_mono (a := 2 * m - 1) (b := 2 * m) (by omega) (by omega)
      exact .inr (by omega)
  · obtain ⟨m, hm⟩ : ∃ m, m = r / 2 := ⟨_, rfl⟩
    rw [← hm] at h
    subst h
    have e : (2 * m + 1 + 1) / 2 = m + 1 := by omega
    rw [e]
    have := sq_mono (a := 2 * m + 2) (b := 2 * m + 3) (by omega) (by omega)
    refine ⟨by omega, ?_, .inr ?_⟩
    · have e1 : 2 * (m + 1) + 1 = 2 * m + 3 := by omega
      have e2 : 2 * m + 1 + 1 = 2 * m + 2 := by omega
      rw [e1]; rw [e2] at h2; omega
    · have e1 : 2 * (m + 1) - 1 = 2 * m + 1 := by omega
      rw [e1]; exact h1
theorem dist_le {s d B : Int} (h : IsDist s d) (hB : 0 ≤ B) (hs : s ≤ B * B) : d ≤ B := by
  obtain ⟨d0, d1, d2⟩ := h
  by_cases hd : d ≤ B
  · exact hd
  · have := sq_mono (a := 2 * B + 1) (b := 2 * d - 1) (by omega) (by omega)
    rcases d2 with d2 | d2
    · omega
    · exact absurd (show (2 * B + 1) * (2 * B + 1) ≤ 4 * s by omega) (by grind)
theorem dist_ge {s d B : Int} (h : IsDist s d) (hB : 0 ≤ B) (hs : B * B ≤ s) : B ≤ d := by
  obtain ⟨d0, d1, d2⟩ := h
  by_cases hd : B ≤ d
  · exact hd
  · have := sq_mono (a := 2 * d + 1) (b := 2 * B - 1) (by omega) (by omega)
    exact absurd d1 (by grind)
/-- The square of a stretch. -/
def sqr (ax ay bx by_ : Int) : Int := (ax - bx) * (ax - bx) + (ay - by_) * (ay - by_)
theorem sqr_bd {ax ay bx by_ : Int} (ha : OkP ax ay) (hb : OkP bx by_) : 0 ≤ sqr ax ay bx by_ ∧ sqr ax ay bx by_ ≤ 800000000000000 := by
  unfold OkP at ha hb
  have h1 := mul_bd (p := ax - bx) (q := ax - bx) (B := 20000000) (C := 20000000) (by omega) (by omega) (by omega) (by omega)
  have h2 := mul_bd (p := ay - by_) (q := ay - by_) (B := 20000000) (C := 20000000) (by omega) (by omega) (by omega) (by omega)
  have h3 : 0 ≤ (ax - bx) * (ax - bx) := by rcases (show 0 ≤ ax - bx ∨ ax - bx ≤ 0 by omega) with h | h
                                            · exact Int.mul_nonneg h h
                                            · exact Int.mul_nonneg_of_nonpos_of_nonpos h h
  have h4 : 0 ≤ (ay - by_) * (ay - by_) := by rcases (show 0 ≤ ay - by_ ∨ ay - by_ ≤ 0 by omega) with h | h
                                              · exact Int.mul_nonneg h h
                                              · exact Int.mul_nonneg_of_nonpos_of_nonpos h h
  unfold sqr
  omega
theorem sqr_sym (ax ay bx by_ : Int) : sqr ax ay bx by_ = sqr bx by_ ax ay := by unfold sqr; grind
/-! ### lists that are filled place by place -/
theorem fill_set {β : Type} (A : List β) (z v : β) (n : Nat) : (A ++ List.replicate (n + 1) z).set A.length v = (A ++ [v]) ++ List.replicate n z := by
  rw [List.set_append_right _ _ (Nat.le_refl _), Nat.sub_self, List.replicate_succ, List.set_cons_zero, List.append_assoc]
  rfl
theorem take_next {α : Type} (l : List α) {j : Nat} (h : j < l.length) : l.take (j + 1) = l.take j ++ [l[j]] := by
  rw [List.take_add_one, List.getElem?_eq_getElem h]; rfl
theorem all_next {α : Type} (P : α → Prop) (l : List α) {j : Nat} (h : j < l.length) : (∀ x ∈ l.drop j, P x) ↔ (P l[j] ∧ ∀ x ∈ l.drop (j + 1), P x) := by
  rw [List.drop_eq_getElem_cons h, List.forall_mem_cons]
end Go.Proofs.YtcpgphmaibajlaaW.Math
