/- Edits of the program and of the reference give the same number at every two words. No condition beyond the statement's own guards. -/
import Derived.Test.YtiennogfdnlfiaaPreFnExactEdits
import Derived.Test.YtiennogfdnlfiaaWMath
namespace Go.Proofs.Ytiennogfdnlfiaa.Pure
open Go.RowKit Go.Proofs.Ytiennogfdnlfiaa.PFnExactEdits Go.Proofs.Ytiennogfdnlfiaa.PreFnExactEdits Go.Proofs.YtiennogfdnlfiaaW.PrintWords Go.Proofs.YtiennogfdnlfiaaW.PrintLast Go.Proofs.YtiennogfdnlfiaaW.PrintMore Go.Proofs.YtiennogfdnlfiaaW.Math
set_option linter.unusedVariables false
set_option linter.unusedSimpArgs false

/-- How many edits lead from the first i + 1 bytes of a to the first j of b, out of the row above it (p). -/
def edNext (a b : ByteArray) (i : Nat) (p : Nat → Int) : Nat → Int
  | 0 => (i : Int) + 1
  | j + 1 =>
    let x := if bt a i = bt b j then p j else p j + 1
    let y := if p (j + 1) + 1 < x then p (j + 1) + 1 else x
    if edNext a b i p j + 1 < y then edNext a b i p j + 1 else y
/-- How many edits lead from the first i bytes of a to the first j of b, reckoned as the rows do. -/
def ed (a b : ByteArray) : Nat → Nat → Int
  | 0 => fun j => (j : Int)
  | i + 1 => edNext a b i (ed a b i)
theorem ed_zero (a b : ByteArray) (j : Nat) : ed a b 0 j = j := rfl
theorem ed_left (a b : ByteArray) (i : Nat) : ed a b i 0 = i := by cases i <;> simp [ed, edNext]
theorem ed_step (a b : ByteArray) (i j : Nat) : ed a b (i + 1) (j + 1) =
    (let x := if bt a i = bt b j then ed a b i j else ed a b i j + 1
     let y := if ed a b i (j + 1) + 1 < x then ed a b i (j + 1) + 1 else x
     if ed a b (i + 1) j + 1 < y then ed a b (i + 1) j + 1 else y) := rfl
theorem ed_bd (a b : ByteArray) (i j : Nat) : 0 ≤ ed a b i j ∧ ed a b i j ≤ i + j := by
  induction i generalizing j with
  | zero => rw [ed_zero]; omega
  | succ i ih =>
    induction j with
    | zero => rw [ed_left]; omega
    | succ j ihj =>
      have h1 := ih j
      have h2 := ih (j + 1)
      rw [ed_step]
      simp only
      repeat' split
      all_goals omega
def edRow (a b : ByteArray) (i m : Nat) : List Int := (List.range m).map (ed a b i)
theorem edRow_len (a b : ByteArray) (i m : Nat) : (edRow a b i m).length = m := by simp [edRow]
theorem edRow_rd (a b : ByteArray) {i m j : Nat} (h : j < m) : rd (edRow a b i m) (j : Int) = ed a b i j := by
  unfold rd edRow
  simp [List.getD, h]
theorem edRow_snoc (a b : ByteArray) (i m : Nat) : edRow a b i (m + 1) = edRow a b i m ++ [ed a b i m] := by simp [edRow, List.range_succ]
/-- What Edits answers. -/
def edits (a b : ByteArray) : Int := if a.size > 40 then 3 else if b.size > 40 then 3 else if ed a b a.size b.size > 3 then 3 else ed a b a.size b.size

theorem specE0 (a b : ByteArray) (hb : b.size ≤ 40) {r : Int} (h : ∃ k, spec_Edits.l1 k a b (edRow a b 0 (b.size + 1)) 1 = some r) (d : Nat) : ∀ j : Nat, j + d = b.size + 1 → ∃ k, spec_Edits.l0 k a b (edRow a b 0 j) j = some r := by
  induction d with
  | zero =>
    intro j hj
    obtain rfl : j = b.size + 1 := by omega
    obtain ⟨k, hk⟩ := h
    exact ⟨k + 1, by simp only [spec_Edits.l0]; rw [if_neg (by omega)]; exact hk⟩
  | succ d ih =>
    intro j hj
    obtain ⟨k, hk⟩ := ih (j + 1) (by omega)
    refine ⟨k + 1, ?_⟩
    simp only [spec_Edits.l0]
    rw [if_pos (by omega), edRow_len, if_pos (by omega), w64 (n := (j : Int) + 1) (by omega) (by omega)]
    rw [edRow_snoc, ed_zero] at hk
    exact hk
theorem specE2 (a b : ByteArray) (ha : a.size ≤ 40) (hb : b.size ≤ 40) (i : Nat) (hi : i < a.size) {r : Int} (h : ∃ k, spec_Edits.l1 k a b (edRow a b (i + 1) (b.size + 1)) ((i + 2 : Nat) : Int) = some r) (d : Nat) : ∀ j : Nat, 1 ≤ j → j + d = b.size + 1 →
    ∃ k, spec_Edits.l2 k a b (edRow a b i (b.size + 1)) ((i + 1 : Nat) : Int) (edRow a b (i + 1) j) j = some r := by
  induction d with
  | zero =>
    intro j _ hj
    obtain rfl : j = b.size + 1 := by omega
    obtain ⟨k, hk⟩ := h
    exact ⟨k + 1, by simp only [spec_Edits.l2]; rw [if_neg (by omega), w64 (by omega) (by omega)]; exact hk⟩
  | succ d ih =>
    intro j hj1 hj
    obtain ⟨j, rfl⟩ : ∃ m, j = m + 1 := ⟨j - 1, by omega⟩
    obtain ⟨k, hk⟩ := ih (j + 2) (by omega) (by omega)
    rw [edRow_snoc a b (i + 1) (j + 1), ed_step] at hk
    simp only at hk
    refine ⟨k + 2, ?_⟩
    have e1 : wrap64 (((j + 1 : Nat) : Int) - 1) = (j : Int) := by rw [w64 (by omega) (by omega)]; omega
    have e2 : wrap64 (((i + 1 : Nat) : Int) - 1) = (i : Int) := by rw [w64 (by omega) (by omega)]; omega
    have e3 : wrap64 (((j + 1 : Nat) : Int) + 1) = ((j + 2 : Nat) : Int) := by rw [w64 (by omega) (by omega)]; omega
    have b1 := ed_bd a b i j
    have b2 := ed_bd a b i (j + 1)
    have b3 := ed_bd a b (i + 1) j
    simp only [spec_Edits.l2, spec_Edits.j4, e1, e2, e3]
    rw [edRow_rd a b (i := i) (m := b.size + 1) (j := j) (by omega), edRow_rd a b (i := i) (m := b.size + 1) (j := j + 1) (by omega), edRow_rd a b (i := i + 1) (m := j + 1) (j := j) (by omega), edRow_len, edRow_len]
    rw [w64 (n := ed a b i j + 1) (by omega) (by omega), w64 (n := ed a b i (j + 1) + 1) (by omega) (by omega), w64 (n := ed a b (i + 1) j + 1) (by omega) (by omega)]
    rw [if_pos (by omega), if_pos (by omega), if_pos (by omega), if_pos (by omega), if_pos (by omega), if_pos (by omega)]
    by_cases hc : bt a i = bt b j
    · simp only [hc, if_true] at hk ⊢
      repeat' split
      all_goals first | omega | (simp_all; done)
    · simp only [hc, if_false] at hk ⊢
      repeat' split
      all_goals first | omega | (simp_all; done)
theorem specE1 (a b : ByteArray) (ha : a.size ≤ 40) (hb : b.size ≤ 40) (d : Nat) : ∀ i : Nat, i + d = a.size → ∃ k, spec_Edits.l1 k a b (edRow a b i (b.size + 1)) ((i + 1 : Nat) : Int) = some (if ed a b a.size b.size > 3 then 3 else ed a b a.size b.size) := by
  induction d with
  | zero =>
    intro i hi
    obtain rfl : i = a.size := by omega
    refine ⟨1, ?_⟩
    simp only [spec_Edits.l1]
    rw [if_neg (by omega), if_pos (by omega), edRow_len, if_pos (by omega), edRow_rd a b (by omega)]
    split <;> rfl
  | succ d ih =>
    intro i hi
    obtain ⟨k, hk⟩ := specE2 a b ha hb i (by omega) (ih (i + 1) (by omega)) b.size 1 (Nat.le_refl _) (by omega)
    refine ⟨k + 1, ?_⟩
    simp only [spec_Edits.l1]
    rw [if_pos (by omega)]
    have e : edRow a b (i + 1) 1 = [((i + 1 : Nat) : Int)] := by simp [edRow, ed_left]
    rw [e] at hk
    exact hk
theorem spec_edits (a b : ByteArray) : ∃ k, spec_Edits.f k a b = some (edits a b) := by
  unfold spec_Edits.f edits
  by_cases ha : a.size > 40
  · exact ⟨1, by rw [if_pos (by omega), if_pos ha]; simp [spec_Edits.j0]⟩
  · by_cases hb : b.size > 40
    · refine ⟨1, ?_⟩
      rw [if_neg (by omega), if_neg ha, if_pos hb, decide_eq_true (by omega)]
      simp [spec_Edits.j0]
    · obtain ⟨k, hk⟩ := specE0 a b (by omega) (specE1 a b (by omega) (by omega) a.size 0 (by omega)) (b.size + 1) 0 (by omega)
      refine ⟨k + 1, ?_⟩
      rw [if_neg (by omega), if_neg ha, if_neg hb, decide_eq_false (by omega)]
      simp only [spec_Edits.j0]
      rw [if_neg (by decide)]
      exact hk

/-- A row of b.size + 1 numbers whose first j are those of row i. -/
def Pre (a b : ByteArray) (i j : Nat) (xs : List Int) : Prop := xs.length = b.size + 1 ∧ ∀ q : Nat, q < j → rd xs q = ed a b i q
theorem pre_set {a b : ByteArray} {i j : Nat} {xs : List Int} (h : Pre a b i j xs) (hj : j ≤ b.size) {v : Int} (hv : v = ed a b i j) : Pre a b i (j + 1) (xs.set (j : Int).toNat v) := by
  obtain ⟨hl, hq⟩ := h
  refine ⟨by simp [hl], fun q hq' => ?_⟩
  by_cases hqj : q = j
  · subst hqj
    unfold rd
    simp only [Int.toNat_natCast, List.getD_eq_getElem?_getD]
    rw [List.getElem?_set_self (by omega)]
    exact hv
  · have h1 := hq q (by omega)
    unfold rd at h1 ⊢
    simp only [Int.toNat_natCast, List.getD_eq_getElem?_getD] at h1 ⊢
    rw [List.getElem?_set_ne (by omega)]
    exact h1
theorem implE0 (a b : ByteArray) (hb : b.size ≤ 40) {r : Int} (h : ∀ xs, Pre a b 0 (b.size + 1) xs → ∃ k, impl_Edits.l1 k a b xs 1 = some r) (d : Nat) : ∀ (j : Nat) xs, j + d = b.size + 1 → Pre a b 0 j xs → ∃ k, impl_Edits.l0 k a b xs (xs.length : Int) j = some r := by
  induction d with
  | zero =>
    intro j xs hj hp
    obtain rfl : j = b.size + 1 := by omega
    obtain ⟨k, hk⟩ := h xs hp
    have := hp.1
    exact ⟨k + 1, by simp only [impl_Edits.l0]; rw [if_neg (by omega)]; exact hk⟩
  | succ d ih =>
    intro j xs hj hp
    have hl := hp.1
    obtain ⟨k, hk⟩ := ih (j + 1) _ (by omega) (pre_set hp (by omega) (v := (j : Int)) (ed_zero a b j).symm)
    refine ⟨k + 1, ?_⟩
    simp only [impl_Edits.l0]
    rw [if_pos (by omega), if_pos (by omega), if_pos (by omega), w64 (n := (j : Int) + 1) (by omega) (by omega)]
    rw [List.length_set] at hk
    exact hk
theorem implE2 (a b : ByteArray) (ha : a.size ≤ 40) (hb : b.size ≤ 40) (i : Nat) (hi : i < a.size) (ys : List Int) (hy : Pre a b i (b.size + 1) ys) {r : Int} (h : ∀ xs, Pre a b (i + 1) (b.size + 1) xs → ∃ k, impl_Edits.l1 k a b xs ((i + 2 : Nat) : Int) = some r) (d : Nat) : ∀ (j : Nat) xs, 1 ≤ j → j + d = b.size + 1 → Pre a b (i + 1) j xs →
    ∃ k, impl_Edits.l2 k a b ys ((i + 1 : Nat) : Int) xs j = some r := by
  induction d with
  | zero =>
    intro j xs _ hj hp
    obtain rfl : j = b.size + 1 := by omega
    obtain ⟨k, hk⟩ := h xs hp
    exact ⟨k + 1, by simp only [impl_Edits.l2]; rw [if_neg (by omega), w64 (by omega) (by omega)]; exact hk⟩
  | succ d ih =>
    intro j xs hj1 hj hp
    obtain ⟨j, rfl⟩ : ∃ m, j = m + 1 := ⟨j - 1, by omega⟩
    have hl := hp.1
    have hly := hy.1
    obtain ⟨k, hk⟩ := ih (j + 2) _ (by omega) (by omega) (pre_set hp (by omega) rfl)
    rw [ed_step] at hk
    simp only at hk
    refine ⟨k + 2, ?_⟩
    have e1 : wrap64 (((j + 1 : Nat) : Int) - 1) = (j : Int) := by rw [w64 (by omega) (by omega)]; omega
    have e2 : wrap64 (((i + 1 : Nat) : Int) - 1) = (i : Int) := by rw [w64 (by omega) (by omega)]; omega
    have e3 : wrap64 (((j + 1 : Nat) : Int) + 1) = ((j + 2 : Nat) : Int) := by rw [w64 (by omega) (by omega)]; omega
    have b1 := ed_bd a b i j
    have b2 := ed_bd a b i (j + 1)
    have b3 := ed_bd a b (i + 1) j
    simp only [impl_Edits.l2, impl_Edits.j4, e1, e2, e3]
    rw [hy.2 j (by omega), hy.2 (j + 1) (by omega), hp.2 j (by omega)]
    rw [w64 (n := ed a b i j + 1) (by omega) (by omega), w64 (n := ed a b i (j + 1) + 1) (by omega) (by omega), w64 (n := ed a b (i + 1) j + 1) (by omega) (by omega)]
    rw [if_pos (by omega), if_pos (by omega), if_pos (by omega), if_pos (by omega), if_pos (by omega), if_pos (by omega)]
    by_cases hc : bt a i = bt b j
    · simp only [hc, if_true] at hk ⊢
      repeat' split
      all_goals first | omega | (simp_all; done)
    · simp only [hc, if_false] at hk ⊢
      repeat' split
      all_goals first | omega | (simp_all; done)
theorem implE1 (a b : ByteArray) (ha : a.size ≤ 40) (hb : b.size ≤ 40) (d : Nat) : ∀ (i : Nat) ys, i + d = a.size → Pre a b i (b.size + 1) ys → ∃ k, impl_Edits.l1 k a b ys ((i + 1 : Nat) : Int) = some (if ed a b a.size b.size > 3 then 3 else ed a b a.size b.size) := by
  induction d with
  | zero =>
    intro i ys hi hp
    obtain rfl : i = a.size := by omega
    refine ⟨1, ?_⟩
    have hl := hp.1
    simp only [impl_Edits.l1]
    rw [if_neg (by omega), if_pos (by omega), if_pos (by omega), hp.2 b.size (by omega)]
    split <;> rfl
  | succ d ih =>
    intro i ys hi hp
    have e1 : wrap64 ((b.size : Int) + 1) = ((b.size + 1 : Nat) : Int) := by rw [w64 (by omega) (by omega)]; omega
    have h0 : Pre a b (i + 1) 0 (List.replicate (b.size + 1) (0 : Int)) := ⟨by simp, fun q hq => by omega⟩
    have h1 := pre_set h0 (Nat.zero_le _) (v := ((i + 1 : Nat) : Int)) (ed_left a b (i + 1)).symm
    obtain ⟨k, hk⟩ := implE2 a b ha hb i (by omega) ys hp (fun xs hx => ih (i + 1) xs (by omega) hx) b.size 1 _ (Nat.le_refl _) (by omega) h1
    refine ⟨k + 1, ?_⟩
    simp only [impl_Edits.l1]
    rw [if_pos (by omega), e1, if_pos (by omega), if_pos (by omega)]
    simp only [Option.bind_some, Int.toNat_natCast, List.length_replicate]
    rw [if_pos (by omega)]
    exact hk
theorem impl_edits (a b : ByteArray) : ∃ k, impl_Edits.f k a b = some (edits a b) := by
  unfold impl_Edits.f edits
  by_cases ha : a.size > 40
  · exact ⟨1, by rw [if_pos (by omega), if_pos ha]; simp [impl_Edits.j0]⟩
  · by_cases hb : b.size > 40
    · refine ⟨1, ?_⟩
      rw [if_neg (by omega), if_neg ha, if_pos hb, decide_eq_true (by omega)]
      simp [impl_Edits.j0]
    · have h0 : Pre a b 0 0 (List.replicate (b.size + 1) (0 : Int)) := ⟨by simp, fun q hq => by omega⟩
      have e1 : wrap64 ((b.size : Int) + 1) = ((b.size + 1 : Nat) : Int) := by rw [w64 (by omega) (by omega)]; omega
      obtain ⟨k, hk⟩ := implE0 a b (by omega) (fun xs hx => implE1 a b (by omega) (by omega) a.size 0 xs (by omega) hx) (b.size + 1) 0 _ (by omega) h0
      refine ⟨k + 1, ?_⟩
      rw [if_neg (by omega), if_neg ha, if_neg hb, decide_eq_false (by omega)]
      simp only [impl_Edits.j0, e1]
      rw [if_neg (by decide), if_pos (by omega), if_pos (by omega)]
      simp only [Option.bind_some, Int.toNat_natCast]
      exact hk

theorem FnExactEdits : PreFnExactEdits.Pure := by
  intro a b _ _
  obtain ⟨k, h1, h2⟩ := together (fun k => spec_Edits.mono a b k) (fun k => impl_Edits.mono a b k) (spec_edits a b) (impl_edits a b)
  refine ⟨k, ?_⟩
  unfold laws_FnExactEdits.f
  rw [h1, h2]
  split
  · rfl
  · split
    · rfl
    · simp

end Go.Proofs.Ytiennogfdnlfiaa.Pure
