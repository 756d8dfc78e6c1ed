/- The edits of two words are those the other way round, 0 of a word and itself alone; one more byte changes them by at most one: the law answers true at every draw. -/
import Derived.Test.YtcpgphmaibajlaaQFnEditsx3
import Derived.Test.YtcpgphmaibajlaaWMath
namespace Go.Proofs.Ytcpgphmaibajlaa.Pure
open Go.RowKit Go.Proofs.Ytcpgphmaibajlaa.PFnEdits Go.Proofs.YtcpgphmaibajlaaW.PrintWords Go.Proofs.YtcpgphmaibajlaaW.PrintLast Go.Proofs.YtcpgphmaibajlaaW.PrintMore Go.Proofs.YtcpgphmaibajlaaW.Math
set_option linter.unusedVariables false
set_option linter.unusedSimpArgs false

theorem wrap64_id {n : Int} (h : -9223372036854775808 ≤ n ∧ n ≤ 9223372036854775807) : wrap64 n = n := w64 h.1 h.2
theorem wrap64_bd (n : Int) : -9223372036854775808 ≤ wrap64 n ∧ wrap64 n ≤ 9223372036854775807 := by unfold wrap64; omega
/-- A draw's bytes. -/
def Bytes (l : List Int) : Prop := l.length ≤ 9223372036854775807
theorem draw_byte {l : List Int} (hl : Bytes l) {i h : Int} (hi : 0 ≤ i) : ∃ x i' h', spec_l1Byte.f l i h = some (x, i', h') ∧ 0 ≤ x ∧ x ≤ 255 ∧ 0 ≤ i' := by
  unfold Bytes at hl
  unfold spec_l1Byte.f
  by_cases hlt : i < (l.length : Int)
  · rw [if_pos hlt, if_pos hi]
    refine ⟨_, _, _, rfl, ?_, ?_, ?_⟩
    · exact (and_mask _ 255 (by omega) (by omega)).1
    · exact (and_mask _ 255 (by omega) (by omega)).2
    · rw [w64 (by omega) (by omega)]; omega
  · rw [if_neg hlt]
    refine ⟨_, _, _, rfl, ?_, ?_, hi⟩
    · exact (and_mask _ 255 (by omega) (by omega)).1
    · exact (and_mask _ 255 (by omega) (by omega)).2
theorem draw_below {l : List Int} (hl : Bytes l) {i h n : Int} (hi : 0 ≤ i) (hn : 0 < n) : ∃ x i' h', spec_l1Below.f l i h n = some (x, i', h') ∧ 0 ≤ x ∧ x < n ∧ 0 ≤ i' := by
  unfold spec_l1Below.f
  rw [if_neg (by omega)]
  by_cases h256 : n ≤ 256
  · rw [if_pos h256]
    obtain ⟨x, i', h', e, x0, x1, i0⟩ := draw_byte hl (h := h) hi
    rw [e]
    simp only [Option.bind_some]
    rw [if_neg (by omega)]
    refine ⟨_, _, _, rfl, ?_, ?_, i0⟩
    · rw [Int.tmod_eq_emod_of_nonneg x0]; exact Int.emod_nonneg _ (by omega)
    · rw [Int.tmod_eq_emod_of_nonneg x0]; exact Int.emod_lt_of_pos _ hn
  · rw [if_neg h256]
    obtain ⟨x1, i1, h1, e1, a1, b1, c1⟩ := draw_byte hl (h := h) hi
    obtain ⟨x2, i2, h2, e2, a2, b2, c2⟩ := draw_byte hl (h := h1) c1
    obtain ⟨x3, i3, h3, e3, a3, b3, c3⟩ := draw_byte hl (h := h2) c2
    obtain ⟨x4, i4, h4, e4, a4, b4, c4⟩ := draw_byte hl (h := h3) c3
    rw [e1]
    simp only [Option.bind_some]
    rw [e2]
    simp only [Option.bind_some]
    rw [e3]
    simp only [Option.bind_some]
    rw [e4]
    simp only [Option.bind_some]
    rw [if_neg (by omega), w64 (n := x1 * 16777216) (by omega) (by omega), w64 (n := x2 * 65536) (by omega) (by omega), w64 (n := x3 * 256) (by omega) (by omega), w64 (n := x1 * 16777216 + x2 * 65536) (by omega) (by omega), w64 (n := x1 * 16777216 + x2 * 65536 + x3 * 256) (by omega) (by omega), w64 (by omega) (by omega)]
    have hx : 0 ≤ x1 * 16777216 + x2 * 65536 + x3 * 256 + x4 := by omega
    refine ⟨_, _, _, rfl, ?_, ?_, c4⟩
    · rw [Int.tmod_eq_emod_of_nonneg hx]; exact Int.emod_nonneg _ (by omega)
    · rw [Int.tmod_eq_emod_of_nonneg hx]; exact Int.emod_lt_of_pos _ hn
theorem draw_below0 (l : List Int) (i h : Int) {n : Int} (hn : n ≤ 0) : spec_l1Below.f l i h n = some (0, i, h) := by
  unfold spec_l1Below.f
  rw [if_pos hn]
theorem new_loop (l : List Int) (hl : Bytes l) (d : Nat) : ∀ (k : Nat) (h : Int) (j : Nat), j + d = l.length → d < k → ∃ h', spec_l1New.l0 k l h j = some (l, 0, h') := by
  unfold Bytes at hl
  induction d with
  | zero =>
    intro k h j hj hk
    obtain ⟨k, rfl⟩ : ∃ m, k = m + 1 := ⟨k - 1, by omega⟩
    exact ⟨h, by simp only [spec_l1New.l0]; rw [if_neg (by omega)]⟩
  | succ d ih =>
    intro k h j hj hk
    obtain ⟨k, rfl⟩ : ∃ m, k = m + 1 := ⟨k - 1, by omega⟩
    obtain ⟨h', e⟩ := ih k (Go.bits .and .i64 (wrap64 ((wrap64 ((wrap64 (h * 149)) + (wrap64 (rd l j)))) + 3)) 1073741823) (j + 1) (by omega) (by omega)
    refine ⟨h', ?_⟩
    simp only [spec_l1New.l0]
    rw [if_pos (by omega), if_pos (by omega), w64 (n := (j : Int) + 1) (by omega) (by omega)]
    exact e
theorem draw_new {l : List Int} (hl : Bytes l) {k : Nat} (hk : l.length < k) : ∃ h, spec_l1New.f k l = some (l, 0, h) := by
  unfold spec_l1New.f
  exact new_loop l hl l.length k _ 0 (by omega) hk

theorem draw_once {l : List Int} (hl : Bytes l) {i h n : Int} (hi : 0 ≤ i) (hn : 0 < n) : ∃ b i' h', spec_l1Once.f l i h n = some (b, i', h') ∧ 0 ≤ i' := by
  obtain ⟨x, i', h', e, _, _, i0⟩ := draw_below hl (h := h) hi hn
  unfold spec_l1Once.f
  rw [e]
  exact ⟨_, _, _, rfl, i0⟩

/-- How many edits lead from the first i + 1 bytes of a to the first j of b, out of the row above it (p). -/
def edNext (a b : ByteArray) (i : Nat) (p : Nat → Int) : Nat → Int
  | 0 => (i : Int) + 1
  | j + 1 =>
    let x := if bt a i = bt b j then p j else p j + 1
    let y := if p (j + 1) + 1 < x then p (j + 1) + 1 else x
    if edNext a b i p j + 1 < y then edNext a b i p j + 1 else y
/-- How many edits lead from the first i bytes of a to the first j of b, reckoned as the rows do. -/
def ed (a b : ByteArray) : Nat → Nat → Int
  | 0 => fun j => (j : Int)
  | i + 1 => edNext a b i (ed a b i)
theorem ed_zero (a b : ByteArray) (j : Nat) : ed a b 0 j = j := rfl
theorem ed_left (a b : ByteArray) (i : Nat) : ed a b i 0 = i := by cases i <;> simp [ed, edNext]
theorem ed_step (a b : ByteArray) (i j : Nat) : ed a b (i + 1) (j + 1) =
    (let x := if bt a i = bt b j then ed a b i j else ed a b i j + 1
     let y := if ed a b i (j + 1) + 1 < x then ed a b i (j + 1) + 1 else x
     if ed a b (i + 1) j + 1 < y then ed a b (i + 1) j + 1 else y) := rfl
theorem ed_bd (a b : ByteArray) (i j : Nat) : 0 ≤ ed a b i j ∧ ed a b i j ≤ i + j := by
  induction i generalizing j with
  | zero => rw [ed_zero]; omega
  | succ i ih =>
    induction j with
    | zero => rw [ed_left]; omega
    | succ j ihj =>
      have h1 := ih j
      have h2 := ih (j + 1)
      rw [ed_step]
      simp only
      repeat' split
      all_goals omega
def edRow (a b : ByteArray) (i m : Nat) : List Int := (List.range m).map (ed a b i)
theorem edRow_len (a b : ByteArray) (i m : Nat) : (edRow a b i m).length = m := by simp [edRow]
theorem edRow_rd (a b : ByteArray) {i m j : Nat} (h : j < m) : rd (edRow a b i m) (j : Int) = ed a b i j := by
  unfold rd edRow
  simp [List.getD, h]
theorem edRow_snoc (a b : ByteArray) (i m : Nat) : edRow a b i (m + 1) = edRow a b i m ++ [ed a b i m] := by simp [edRow, List.range_succ]
/-- What Edits answers. -/
def edits (a b : ByteArray) : Int := if a.size > 40 then 3 else if b.size > 40 then 3 else if ed a b a.size b.size > 3 then 3 else ed a b a.size b.size

/-- A row of b.size + 1 numbers whose first j are those of row i. -/
def Pre (a b : ByteArray) (i j : Nat) (xs : List Int) : Prop := xs.length = b.size + 1 ∧ ∀ q : Nat, q < j → rd xs q = ed a b i q
theorem pre_set {a b : ByteArray} {i j : Nat} {xs : List Int} (h : Pre a b i j xs) (hj : j ≤ b.size) {v : Int} (hv : v = ed a b i j) : Pre a b i (j + 1) (xs.set (j : Int).toNat v) := by
  obtain ⟨hl, hq⟩ := h
  refine ⟨by simp [hl], fun q hq' => ?_⟩
  by_cases hqj : q = j
  · subst hqj
    unfold rd
    simp only [Int.toNat_natCast, List.getD_eq_getElem?_getD]
    rw [List.getElem?_set_self (by omega)]
    exact hv
  · have h1 := hq q (by omega)
    unfold rd at h1 ⊢
    simp only [Int.toNat_natCast, List.getD_eq_getElem?_getD] at h1 ⊢
    rw [List.getElem?_set_ne (by omega)]
    exact h1
theorem implE0 (a b : ByteArray) (hb : b.size ≤ 40) {r : Int} (h : ∀ xs, Pre a b 0 (b.size + 1) xs → ∃ k, impl_Edits.l1 k a b xs 1 = some r) (d : Nat) : ∀ (j : Nat) xs, j + d = b.size + 1 → Pre a b 0 j xs → ∃ k, impl_Edits.l0 k a b xs (xs.length : Int) j = some r := by
  induction d with
  | zero =>
    intro j xs hj hp
    obtain rfl : j = b.size + 1 := by omega
    obtain ⟨k, hk⟩ := h xs hp
    have := hp.1
    exact ⟨k + 1, by simp only [impl_Edits.l0]; rw [if_neg (by omega)]; exact hk⟩
  | succ d ih =>
    intro j xs hj hp
    have hl := hp.1
    obtain ⟨k, hk⟩ := ih (j + 1) _ (by omega) (pre_set hp (by omega) (v := (j : Int)) (ed_zero a b j).symm)
    refine ⟨k + 1, ?_⟩
    simp only [impl_Edits.l0]
    rw [if_pos (by omega), if_pos (by omega), if_pos (by omega), w64 (n := (j : Int) + 1) (by omega) (by omega)]
    rw [List.length_set] at hk
    exact hk
theorem implE2 (a b : ByteArray) (ha : a.size ≤ 40) (hb : b.size ≤ 40) (i : Nat) (hi : i < a.size) (ys : List Int) (hy : Pre a b i (b.size + 1) ys) {r : Int} (h : ∀ xs, Pre a b (i + 1) (b.size + 1) xs → ∃ k, impl_Edits.l1 k a b xs ((i + 2 : Nat) : Int) = some r) (d : Nat) : ∀ (j : Nat) xs, 1 ≤ j → j + d = b.size + 1 → Pre a b (i + 1) j xs →
    ∃ k, impl_Edits.l2 k a b ys ((i + 1 : Nat) : Int) xs j = some r := by
  induction d with
  | zero =>
    intro j xs _ hj hp
    obtain rfl : j = b.size + 1 := by omega
    obtain ⟨k, hk⟩ := h xs hp
    exact ⟨k + 1, by simp only [impl_Edits.l2]; rw [if_neg (by omega), w64 (by omega) (by omega)]; exact hk⟩
  | succ d ih =>
    intro j xs hj1 hj hp
    obtain ⟨j, rfl⟩ : ∃ m, j = m + 1 := ⟨j - 1, by omega⟩
    have hl := hp.1
    have hly := hy.1
    obtain ⟨k, hk⟩ := ih (j + 2) _ (by omega) (by omega) (pre_set hp (by omega) rfl)
    rw [ed_step] at hk
    simp only at hk
    refine ⟨k + 2, ?_⟩
    have e1 : wrap64 (((j + 1 : Nat) : Int) - 1) = (j : Int) := by rw [w64 (by omega) (by omega)]; omega
    have e2 : wrap64 (((i + 1 : Nat) : Int) - 1) = (i : Int) := by rw [w64 (by omega) (by omega)]; omega
    have e3 : wrap64 (((j + 1 : Nat) : Int) + 1) = ((j + 2 : Nat) : Int) := by rw [w64 (by omega) (by omega)]; omega
    have b1 := ed_bd a b i j
    have b2 := ed_bd a b i (j + 1)
    have b3 := ed_bd a b (i + 1) j
    simp only [impl_Edits.l2, impl_Edits.j4, e1, e2, e3]
    rw [hy.2 j (by omega), hy.2 (j + 1) (by omega), hp.2 j (by omega)]
    rw [w64 (n := ed a b i j + 1) (by omega) (by omega), w64 (n := ed a b i (j + 1) + 1) (by omega) (by omega), w64 (n := ed a b (i + 1) j + 1) (by omega) (by omega)]
    rw [if_pos (by omega), if_pos (by omega), if_pos (by omega), if_pos (by omega), if_pos (by omega), if_pos (by omega)]
    by_cases hc : bt a i = bt b j
    · simp only [hc, if_true] at hk ⊢
      repeat' split
      all_goals first | omega | (simp_all; done)
    · simp only [hc, if_false] at hk ⊢
      repeat' split
      all_goals first | omega | (simp_all; done)
theorem implE1 (a b : ByteArray) (ha : a.size ≤ 40) (hb : b.size ≤ 40) (d : Nat) : ∀ (i : Nat) ys, i + d = a.size → Pre a b i (b.size + 1) ys → ∃ k, impl_Edits.l1 k a b ys ((i + 1 : Nat) : Int) = some (if ed a b a.size b.size > 3 then 3 else ed a b a.size b.size) := by
  induction d with
  | zero =>
    intro i ys hi hp
    obtain rfl : i = a.size := by omega
    refine ⟨1, ?_⟩
    have hl := hp.1
    simp only [impl_Edits.l1]
    rw [if_neg (by omega), if_pos (by omega), if_pos (by omega), hp.2 b.size (by omega)]
    split <;> rfl
  | succ d ih =>
    intro i ys hi hp
    have e1 : wrap64 ((b.size : Int) + 1) = ((b.size + 1 : Nat) : Int) := by rw [w64 (by omega) (by omega)]; omega
    have h0 : Pre a b (i + 1) 0 (List.replicate (b.size + 1) (0 : Int)) := ⟨by simp, fun q hq => by omega⟩
    have h1 := pre_set h0 (Nat.zero_le _) (v := ((i + 1 : Nat) : Int)) (ed_left a b (i + 1)).symm
    obtain ⟨k, hk⟩ := implE2 a b ha hb i (by omega) ys hp (fun xs hx => ih (i + 1) xs (by omega) hx) b.size 1 _ (Nat.le_refl _) (by omega) h1
    refine ⟨k + 1, ?_⟩
    simp only [impl_Edits.l1]
    rw [if_pos (by omega), e1, if_pos (by omega), if_pos (by omega)]
    simp only [Option.bind_some, Int.toNat_natCast, List.length_replicate]
    rw [if_pos (by omega)]
    exact hk
theorem impl_edits (a b : ByteArray) : ∃ k, impl_Edits.f k a b = some (edits a b) := by
  unfold impl_Edits.f edits
  by_cases ha : a.size > 40
  · exact ⟨1, by rw [if_pos (by omega), if_pos ha]; simp [impl_Edits.j0]⟩
  · by_cases hb : b.size > 40
    · refine ⟨1, ?_⟩
      rw [if_neg (by omega), if_neg ha, if_pos hb, decide_eq_true (by omega)]
      simp [impl_Edits.j0]
    · have h0 : Pre a b 0 0 (List.replicate (b.size + 1) (0 : Int)) := ⟨by simp, fun q hq => by omega⟩
      have e1 : wrap64 ((b.size : Int) + 1) = ((b.size + 1 : Nat) : Int) := by rw [w64 (by omega) (by omega)]; omega
      obtain ⟨k, hk⟩ := implE0 a b (by omega) (fun xs hx => implE1 a b (by omega) (by omega) a.size 0 xs (by omega) hx) (b.size + 1) 0 _ (by omega) h0
      refine ⟨k + 1, ?_⟩
      rw [if_neg (by omega), if_neg ha, if_neg hb, decide_eq_false (by omega)]
      simp only [impl_Edits.j0, e1]
      rw [if_neg (by decide), if_pos (by omega), if_pos (by omega)]
      simp only [Option.bind_some, Int.toNat_natCast]
      exact hk

theorem ed_up (a b : ByteArray) (i j : Nat) : ed a b (i + 1) (j + 1) ≤ ed a b i j + 1 ∧ (bt a i = bt b j → ed a b (i + 1) (j + 1) ≤ ed a b i j) ∧ ed a b (i + 1) (j + 1) ≤ ed a b i (j + 1) + 1 ∧ ed a b (i + 1) (j + 1) ≤ ed a b (i + 1) j + 1 := by
  rw [ed_step]
  simp only
  refine ⟨?_, ?_, ?_, ?_⟩
  · repeat' split
    all_goals omega
  · intro h
    rw [if_pos h]
    repeat' split
    all_goals omega
  · repeat' split
    all_goals omega
  · repeat' split
    all_goals omega
theorem ed_from (a b : ByteArray) (i j : Nat) : (bt a i = bt b j ∧ ed a b (i + 1) (j + 1) = ed a b i j) ∨ ed a b (i + 1) (j + 1) = ed a b i j + 1 ∨ ed a b (i + 1) (j + 1) = ed a b i (j + 1) + 1 ∨ ed a b (i + 1) (j + 1) = ed a b (i + 1) j + 1 := by
  rw [ed_step]
  simp only
  by_cases h : bt a i = bt b j
  · simp only [h, if_true]
    repeat' split
    all_goals simp
  · simp only [h, if_false]
    repeat' split
    all_goals simp
theorem ed_right (a b : ByteArray) (i j : Nat) : ed a b i (j + 1) ≤ ed a b i j + 1 := by
  cases i with
  | zero => rw [ed_zero, ed_zero]; omega
  | succ i => exact (ed_up a b i j).2.2.2
theorem ed_down (a b : ByteArray) (i j : Nat) : ed a b (i + 1) j ≤ ed a b i j + 1 := by
  cases j with
  | zero => rw [ed_left, ed_left]; omega
  | succ j => exact (ed_up a b i j).2.2.1
theorem ed_down' (a b : ByteArray) (i j : Nat) : ed a b i j ≤ ed a b (i + 1) j + 1 := by
  induction j with
  | zero => rw [ed_left, ed_left]; omega
  | succ j ih =>
    have h := ed_right a b i j
    rcases ed_from a b i j with h1 | h1 | h1 | h1 <;> omega
theorem ed_right' (a b : ByteArray) (i j : Nat) : ed a b i j ≤ ed a b i (j + 1) + 1 := by
  induction i with
  | zero => rw [ed_zero, ed_zero]; omega
  | succ i ih =>
    have h := ed_down a b i j
    rcases ed_from a b i j with h1 | h1 | h1 | h1 <;> omega
theorem ed_sym (a b : ByteArray) (i j : Nat) : ed a b i j = ed b a j i := by
  induction i generalizing j with
  | zero => rw [ed_zero, ed_left]
  | succ i ih =>
    induction j with
    | zero => rw [ed_left, ed_zero]
    | succ j ihj =>
      rw [ed_step, ed_step, ih j, ih (j + 1), ihj]
      simp only
      by_cases h : bt a i = bt b j
      · simp only [h, if_true]
        repeat' split
        all_goals omega
      · have h' : ¬ bt b j = bt a i := fun e => h e.symm
        simp only [h, h', if_false]
        repeat' split
        all_goals omega
theorem ed_nil (a b : ByteArray) (i j : Nat) : ed a b i j = 0 ↔ i = j ∧ ∀ k, k < i → bt a k = bt b k := by
  induction i generalizing j with
  | zero =>
    rw [ed_zero]
    constructor
    · intro h; exact ⟨by omega, fun k hk => by omega⟩
    · intro h; omega
  | succ i ih =>
    cases j with
    | zero =>
      rw [ed_left]
      constructor
      · intro h; omega
      · intro h; omega
    | succ j =>
      have b1 := ed_bd a b i (j + 1)
      have b2 := ed_bd a b (i + 1) j
      have b3 := ed_bd a b i j
      have b4 := ed_bd a b (i + 1) (j + 1)
      constructor
      · intro h
        rcases ed_from a b i j with h1 | h1 | h1 | h1
        · obtain ⟨h2, h3⟩ := (ih j).1 (by omega)
          refine ⟨by omega, fun k hk => ?_⟩
          by_cases hki : k = i
          · subst hki; rw [h1.1, h2]
          · exact h3 k (by omega)
        · omega
        · omega
        · omega
      · intro ⟨h1, h2⟩
        have h3 := (ih j).2 ⟨by omega, fun k hk => h2 k (by omega)⟩
        have h4 := (ed_up a b i j).2.1 (by have := h2 i (by omega); rw [this]; congr 1; omega)
        omega
/-- The first bytes alone count. -/
theorem ed_congr {a b a' b' : ByteArray} (i j : Nat) (ha : ∀ k, k < i → bt a k = bt a' k) (hb : ∀ k, k < j → bt b k = bt b' k) : ed a b i j = ed a' b' i j := by
  induction i generalizing j with
  | zero => rfl
  | succ i ih =>
    induction j with
    | zero => rw [ed_left, ed_left]
    | succ j ihj =>
      rw [ed_step, ed_step, ih j (fun k hk => ha k (by omega)) (fun k hk => hb k (by omega)), ih (j + 1) (fun k hk => ha k (by omega)) hb, ihj (fun k hk => hb k (by omega)), ha i (by omega), hb j (by omega)]

theorem bt_app_left (a q : ByteArray) {k : Nat} (h : k < a.size) : bt (a ++ q) (k : Int) = bt a (k : Int) := by
  have h1 : (k : Int).toNat < (a ++ q).size := by rw [Int.toNat_natCast, ByteArray.size_append]; omega
  have h2 : (k : Int).toNat < a.size := h
  unfold bt
  rw [dif_pos h1, dif_pos h2]
  congr 2
  exact ByteArray.getElem_append_left h
theorem bt_app_one (a : ByteArray) (c : UInt8) : bt (a ++ (⟨#[c]⟩ : ByteArray)) (a.size : Int) = (c.toNat : Int) := by
  have h1 : (a.size : Int).toNat < (a ++ (⟨#[c]⟩ : ByteArray)).size := by rw [Int.toNat_natCast, ByteArray.size_append]; show _ < a.size + 1; omega
  unfold bt
  rw [dif_pos h1]
  congr 2
  have e := ByteArray.getElem_append_right (a := a) (b := (⟨#[c]⟩ : ByteArray)) (i := a.size) (h := h1) (Nat.le_refl _)
  refine e.trans ?_
  have : ∀ (i : Nat) (h : i < (⟨#[c]⟩ : ByteArray).size), (⟨#[c]⟩ : ByteArray)[i] = c := by
    intro i h
    have : i = 0 := by have : i < 1 := h; omega
    subst this; rfl
  exact this _ _
theorem size_one (a : ByteArray) (c : UInt8) : (a ++ (⟨#[c]⟩ : ByteArray)).size = a.size + 1 := by rw [ByteArray.size_append]; rfl
theorem bt_ext {a b : ByteArray} (h0 : a.size = b.size) (h : ∀ k, k < a.size → bt a (k : Int) = bt b (k : Int)) : a = b := by
  have e : a.data = b.data := by
    refine Array.ext h0 (fun i h1 h2 => ?_)
    have := h i h1
    unfold bt at this
    rw [dif_pos (show (i : Int).toNat < a.size from h1), dif_pos (show (i : Int).toNat < b.size from h2)] at this
    have h3 : a[i].toNat = b[i].toNat := by
      have h4 : ((a[i].toNat : Nat) : Int) = ((b[i].toNat : Nat) : Int) := this
      omega
    exact UInt8.toNat_inj.1 h3
  cases a; cases b; simpa using e
theorem list_eq (a b : ByteArray) : (a.toList == b.toList) = decide (a = b) := by
  rw [Bool.eq_iff_iff, beq_iff_eq, decide_eq_true_eq, Go.ByteArray.toList_eq, Go.ByteArray.toList_eq]
  constructor
  · intro h
    have h2 := Array.toList_inj.1 h
    cases a; cases b
    simpa using h2
  · rintro rfl; rfl
theorem law_j0 (a b : ByteArray) (ha : a.size ≤ 1000) (hb : b.size ≤ 1000) (g : Bool) (hg : g = false → a.size < 40 ∧ b.size < 40) : Ev (fun k => laws_FnEdits.j0 k a b (edits a b) g) true := by
  have pos : 0 ≤ edits a b := by have := ed_bd a b a.size b.size; unfold edits; grind
  cases g with
  | true =>
    refine Ev.step (fun k => ?_) (Ev.now _)
    simp only [laws_FnEdits.j0, if_true]
    rw [decide_eq_true pos]
  | false =>
    obtain ⟨h1, h2⟩ := hg rfl
    have ev : ∀ x y, Ev (fun k => impl_Edits.f k x y) (edits x y) := fun x y => by
      obtain ⟨k, e⟩ := impl_edits x y
      exact Ev.of (fun k => impl_Edits.mono x y k) e
    obtain ⟨K1, e1⟩ := ev (a ++ (⟨#[113]⟩ : ByteArray)) b
    obtain ⟨K2, e2⟩ := ev b a
    obtain ⟨K3, e3⟩ := ev (a ++ (⟨#[113]⟩ : ByteArray)) (b ++ (⟨#[113]⟩ : ByteArray))
    refine ⟨K1 + K2 + K3 + 1, fun n hn => ?_⟩
    obtain ⟨k, rfl⟩ : ∃ k, n = k + 1 := ⟨n - 1, by omega⟩
    have e1 := e1 k (by omega)
    have e2 := e2 k (by omega)
    have e3 := e3 k (by omega)
    simp only [laws_FnEdits.j0, Bool.false_eq_true, if_false]
    simp only at e1 e2 e3
    rw [if_pos (by omega), e1, e2, e3]
    simp only [Option.bind_some]
    have sa := size_one a 113
    have sb := size_one b 113
    -- the numbers behind
    have n0 := ed_bd a b a.size b.size
    have n1 := ed_sym a b a.size b.size
    have c1 : ed (a ++ (⟨#[113]⟩ : ByteArray)) b a.size b.size = ed a b a.size b.size := ed_congr _ _ (fun k hk => bt_app_left a _ hk) (fun k _ => rfl)
    have c2 : ed (a ++ (⟨#[113]⟩ : ByteArray)) (b ++ (⟨#[113]⟩ : ByteArray)) a.size b.size = ed a b a.size b.size := ed_congr _ _ (fun k hk => bt_app_left a _ hk) (fun k hk => bt_app_left b _ hk)
    have d1 := ed_down (a ++ (⟨#[113]⟩ : ByteArray)) b a.size b.size
    have d2 := ed_down' (a ++ (⟨#[113]⟩ : ByteArray)) b a.size b.size
    have d3 := (ed_up (a ++ (⟨#[113]⟩ : ByteArray)) (b ++ (⟨#[113]⟩ : ByteArray)) a.size b.size).2.1 (by rw [bt_app_one, bt_app_one])
    have nl := ed_nil a b a.size b.size
    have q0 : edits a b = if ed a b a.size b.size > 3 then 3 else ed a b a.size b.size := by unfold edits; rw [if_neg (by omega), if_neg (by omega)]
    have q1 : edits b a = if ed b a b.size a.size > 3 then 3 else ed b a b.size a.size := by unfold edits; rw [if_neg (by omega), if_neg (by omega)]
    have q2 : edits (a ++ (⟨#[113]⟩ : ByteArray)) b = if ed (a ++ (⟨#[113]⟩ : ByteArray)) b (a.size + 1) b.size > 3 then 3 else ed (a ++ (⟨#[113]⟩ : ByteArray)) b (a.size + 1) b.size := by unfold edits; rw [sa, if_neg (by omega), if_neg (by omega)]
    have q3 : edits (a ++ (⟨#[113]⟩ : ByteArray)) (b ++ (⟨#[113]⟩ : ByteArray)) = if ed (a ++ (⟨#[113]⟩ : ByteArray)) (b ++ (⟨#[113]⟩ : ByteArray)) (a.size + 1) (b.size + 1) > 3 then 3 else ed (a ++ (⟨#[113]⟩ : ByteArray)) (b ++ (⟨#[113]⟩ : ByteArray)) (a.size + 1) (b.size + 1) := by unfold edits; rw [sa, sb, if_neg (by omega), if_neg (by omega)]
    have n2 := ed_bd (a ++ (⟨#[113]⟩ : ByteArray)) b (a.size + 1) b.size
    rw [c1] at d1 d2
    rw [c2] at d3
    have hnil : ed a b a.size b.size = 0 ↔ a = b := by
      rw [nl]
      constructor
      · rintro ⟨s, h⟩; exact bt_ext s h
      · rintro rfl; exact ⟨rfl, fun _ _ => rfl⟩
    rw [list_eq, if_pos (show b.size + 1 ≤ 9223372036854775807 by omega)]
    rw [q0, q1, q2, q3, ← n1]
    generalize ed a b a.size b.size = E at *
    generalize ed (a ++ (⟨#[113]⟩ : ByteArray)) b (a.size + 1) b.size = F at *
    generalize ed (a ++ (⟨#[113]⟩ : ByteArray)) (b ++ (⟨#[113]⟩ : ByteArray)) (a.size + 1) (b.size + 1) = G at *
    have z : ((if E > 3 then 3 else E) == 0) = decide (a = b) := by
      rw [Bool.eq_iff_iff, beq_iff_eq, decide_eq_true_eq, ← hnil]
      split <;> omega
    rw [z, if_pos rfl, if_pos (by simp), w64 (by split <;> omega) (by split <;> omega), w64 (by split <;> omega) (by split <;> omega), if_pos (by split <;> split <;> omega), if_pos (by split <;> split <;> omega), decide_eq_true (by split <;> split <;> omega)]
theorem bytes_size (l : List Int) : (strOfNums l).size = l.length := by
  unfold strOfNums
  simp [ByteArray.size]
theorem draw_edits_loop {l : List Int} (hl : Bytes l) (a : ByteArray) (ha : a.size ≤ 100) (d : Nat) (hd : d ≤ 10) : ∀ (K : Nat) (b : ByteArray) (i h : Int), 0 ≤ i → d < K → b.size + d ≤ 100 → ∃ x y, spec_DrawEdits.l0 K a b (d : Int) l i h = some (x, y) ∧ x.size ≤ 100 ∧ y.size ≤ 100 := by
  induction d with
  | zero =>
    intro K b i h hi hK hb
    obtain ⟨K, rfl⟩ : ∃ m, K = m + 1 := ⟨K - 1, by omega⟩
    simp only [spec_DrawEdits.l0]
    rw [if_neg (by omega)]
    obtain ⟨g, i1, h1, e1, c1⟩ := draw_once hl (h := h) (n := 30) hi (by omega)
    rw [e1]; simp only [Option.bind_some]
    cases g with
    | false => exact ⟨_, _, rfl, ha, by omega⟩
    | true =>
      obtain ⟨z, i2, h2, e2, z0, z1, _⟩ := draw_below hl (h := h1) (n := 2) c1 (by omega)
      rw [if_pos rfl, e2]; simp only [Option.bind_some]
      rw [w64 (by omega) (by omega), if_pos (by omega), if_pos (by omega)]
      have hs : (strOfNums (List.replicate (40 + z).toNat 0)).size ≤ 100 := by rw [bytes_size, List.length_replicate]; omega
      exact ⟨_, _, rfl, hs, hs⟩
  | succ d ih =>
    intro K b i h hi hK hb
    obtain ⟨K, rfl⟩ : ∃ m, K = m + 1 := ⟨K - 1, by omega⟩
    simp only [spec_DrawEdits.l0]
    rw [if_pos (by omega), w64 (n := (b.size : Int) + 1) (by omega) (by omega)]
    obtain ⟨t, i1, h1, e1, t0, t1, c1⟩ := draw_below hl (h := h) (n := (b.size : Int) + 1) hi (by omega)
    rw [e1]; simp only [Option.bind_some]
    obtain ⟨u, i2, h2, e2, u0, u1, c2⟩ := draw_below hl (h := h1) (n := 3) c1 (by omega)
    rw [e2]; simp only [Option.bind_some]
    have ed1 : wrap64 (((d + 1 : Nat) : Int) - 1) = (d : Int) := by rw [w64 (by omega) (by omega)]; omega
    have et : wrap64 (t + 1) = t + 1 := w64 (by omega) (by omega)
    have s1 : (b.extract 0 t.toNat).size = t.toNat := by rw [ByteArray.size_extract]; omega
    have s2 : (b.extract t.toNat b.size).size = b.size - t.toNat := by rw [ByteArray.size_extract]; omega
    have s3 : (b.extract (t + 1).toNat b.size).size = b.size - (t + 1).toNat := by rw [ByteArray.size_extract]; omega
    have o1 : ∀ c : UInt8, (⟨#[c]⟩ : ByteArray).size = 1 := fun _ => rfl
    rw [ed1, et]
    by_cases k0 : u = 0
    · rw [if_pos k0, if_pos t0, if_pos (by omega), if_pos (by omega), if_pos (by rw [ByteArray.size_append, s1, s2, o1]; omega)]
      exact ih (by omega) K _ i2 h2 c2 (by omega) (by rw [ByteArray.size_append, ByteArray.size_append, s1, s2, o1]; omega)
    · rw [if_neg k0]
      by_cases k1 : u = 1
      · rw [if_pos k1]
        by_cases k2 : t < (b.size : Int)
        · rw [if_pos k2, if_pos t0, if_pos (by omega), if_pos (by omega), if_pos (by omega), if_pos (by omega)]
          exact ih (by omega) K _ i2 h2 c2 (by omega) (by rw [ByteArray.size_append, s1, s3]; omega)
        · rw [if_neg k2]
          exact ih (by omega) K _ i2 h2 c2 (by omega) (by omega)
      · rw [if_neg k1, if_pos (by omega)]
        by_cases k2 : t < (b.size : Int)
        · rw [if_pos k2, if_pos t0, if_pos (by omega), if_pos (by omega), if_pos (by omega), if_pos (by omega), if_pos (by rw [ByteArray.size_append, s1, s3, o1]; omega)]
          exact ih (by omega) K _ i2 h2 c2 (by omega) (by rw [ByteArray.size_append, ByteArray.size_append, s1, s3, o1]; omega)
        · rw [if_neg k2]
          exact ih (by omega) K _ i2 h2 c2 (by omega) (by omega)
theorem draw_edits {l : List Int} (hl : Bytes l) (k : Nat) (hk : l.length + 10 < k) : ∃ a b, spec_DrawEdits.f k l = some (a, b) ∧ a.size ≤ 100 ∧ b.size ≤ 100 := by
  unfold spec_DrawEdits.f
  obtain ⟨h0, e0⟩ := draw_new hl (k := k) (by omega)
  rw [e0]; simp only [Option.bind_some]
  obtain ⟨t, i1, h1, e1, t0, t1, c1⟩ := draw_below hl (h := h0) (n := 7) (Int.le_refl 0) (by omega)
  rw [e1]; simp only [Option.bind_some]
  rw [if_pos t0, if_pos (by simpa using t1)]
  obtain ⟨u, i2, h2, e2, u0, u1, c2⟩ := draw_below hl (h := h1) (n := 4) c1 (by omega)
  rw [e2]; simp only [Option.bind_some]
  obtain ⟨U, rfl⟩ := Int.eq_ofNat_of_zero_le u0
  have hs : ∀ t : Int, 0 ≤ t → t < 7 → (rdOf ByteArray.empty [(⟨#[]⟩ : ByteArray), (⟨#[97]⟩ : ByteArray), (⟨#[109, 105, 108, 108]⟩ : ByteArray), (⟨#[108, 97, 110, 101]⟩ : ByteArray), (⟨#[115, 116, 97, 116, 105, 111, 110]⟩ : ByteArray), (⟨#[115, 116, 114, 101, 101, 116]⟩ : ByteArray), (⟨#[110, 111, 114, 116, 104]⟩ : ByteArray)] t).size ≤ 7 := by
    intro t t0 t1
    rcases (show t = 0 ∨ t = 1 ∨ t = 2 ∨ t = 3 ∨ t = 4 ∨ t = 5 ∨ t = 6 by omega) with rfl | rfl | rfl | rfl | rfl | rfl | rfl <;> decide
  have := hs t t0 t1
  exact draw_edits_loop hl _ (by omega) U (by omega) k _ i2 h2 c2 (by omega) (by omega)
theorem FnEdits : laws_FnEdits.Pure := by
  intro l hm hl hb
  have hl' : Bytes l := by unfold Bytes; omega
  suffices h : Ev (fun k => laws_FnEdits.f k l) true from h.rounds
  unfold laws_FnEdits.f laws_big.f
  simp only [Option.bind_some, decide_eq_true_eq]
  by_cases hbig : (l.length : Int) > 1048576
  · simp only [if_pos hbig]; exact Ev.now _
  · simp only [if_neg hbig]
    obtain ⟨a, b, e0, ha, hb'⟩ := draw_edits hl' (l.length + 11) (by omega)
    refine Ev.bind (Ev.of (fun k => spec_DrawEdits.mono l k) e0) ?_
    have ev : ∀ x y, Ev (fun k => impl_Edits.f k x y) (edits x y) := fun x y => by
      obtain ⟨k, e⟩ := impl_edits x y
      exact Ev.of (fun k => impl_Edits.mono x y k) e
    refine Ev.bind (ev a b) ?_
    have e1 : edits (⟨#[109, 105, 108, 108]⟩ : ByteArray) (⟨#[109, 105, 108]⟩ : ByteArray) = 1 := by decide +kernel
    have ev1 := ev (⟨#[109, 105, 108, 108]⟩ : ByteArray) (⟨#[109, 105, 108]⟩ : ByteArray)
    rw [e1] at ev1
    refine Ev.bind ev1 ?_
    simp only [if_true]
    by_cases h1 : (a.size : Int) ≥ 40
    · simp only [if_pos h1]
      exact law_j0 a b (by omega) (by omega) true (by simp)
    · simp only [if_neg h1]
      exact law_j0 a b (by omega) (by omega) _ (fun h => by have := of_decide_eq_false h; omega)

end Go.Proofs.Ytcpgphmaibajlaa.Pure
