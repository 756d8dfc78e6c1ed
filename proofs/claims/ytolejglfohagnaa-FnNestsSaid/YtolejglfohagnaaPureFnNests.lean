/- Nesting counts, of each ring, the others that its first place is inside of; what Orient turns round changes nothing of it: the law answers true at every draw. -/
import Derived.Test.YtolejglfohagnaaQFnNestsx11
import Derived.Test.YtolejglfohagnaaVFnNestsa
namespace Go.Proofs.Ytolejglfohagnaa.Pure
open Go.RowKit Go.Proofs.Ytolejglfohagnaa.PFnNests Go.Proofs.YtolejglfohagnaaW.PrintWords Go.Proofs.YtolejglfohagnaaW.PrintLast Go.Proofs.YtolejglfohagnaaW.PrintMore Go.Proofs.YtolejglfohagnaaW.Math
set_option linter.unusedVariables false
set_option linter.unusedSimpArgs false

theorem wrap64_id {n : Int} (h : -9223372036854775808 ≤ n ∧ n ≤ 9223372036854775807) : wrap64 n = n := w64 h.1 h.2
theorem wrap64_bd (n : Int) : -9223372036854775808 ≤ wrap64 n ∧ wrap64 n ≤ 9223372036854775807 := by unfold wrap64; omega
/-- A draw's bytes. -/
def Bytes (l : List Int) : Prop := l.length ≤ 9223372036854775807
theorem draw_byte {l : List Int} (hl : Bytes l) {i h : Int} (hi : 0 ≤ i) : ∃ x i' h', spec_l1Byte.f l i h = some (x, i', h') ∧ 0 ≤ x ∧ x ≤ 255 ∧ 0 ≤ i' := by
  unfold Bytes at hl
  unfold spec_l1Byte.f
  by_cases hlt : i < (l.length : Int)
  · rw [if_pos hlt, if_pos hi]
    refine ⟨_, _, _, rfl, ?_, ?_, ?_⟩
    · exact (and_mask _ 255 (by omega) (by omega)).1
    · exact (and_mask _ 255 (by omega) (by omega)).2
    · rw [w64 (by omega) (by omega)]; omega
  · rw [if_neg hlt]
    refine ⟨_, _, _, rfl, ?_, ?_, hi⟩
    · exact (and_mask _ 255 (by omega) (by omega)).1
    · exact (and_mask _ 255 (by omega) (by omega)).2
theorem draw_below {l : List Int} (hl : Bytes l) {i h n : Int} (hi : 0 ≤ i) (hn : 0 < n) : ∃ x i' h', spec_l1Below.f l i h n = some (x, i', h') ∧ 0 ≤ x ∧ x < n ∧ 0 ≤ i' := by
  unfold spec_l1Below.f
  rw [if_neg (by omega)]
  by_cases h256 : n ≤ 256
  · rw [if_pos h256]
    obtain ⟨x, i', h', e, x0, x1, i0⟩ := draw_byte hl (h := h) hi
    rw [e]
    simp only [Option.bind_some]
    rw [if_neg (by omega)]
    refine ⟨_, _, _, rfl, ?_, ?_, i0⟩
    · rw [Int.tmod_eq_emod_of_nonneg x0]; exact Int.emod_nonneg _ (by omega)
    · rw [Int.tmod_eq_emod_of_nonneg x0]; exact Int.emod_lt_of_pos _ hn
  · rw [if_neg h256]
    obtain ⟨x1, i1, h1, e1, a1, b1, c1⟩ := draw_byte hl (h := h) hi
    obtain ⟨x2, i2, h2, e2, a2, b2, c2⟩ := draw_byte hl (h := h1) c1
    obtain ⟨x3, i3, h3, e3, a3, b3, c3⟩ := draw_byte hl (h := h2) c2
    obtain ⟨x4, i4, h4, e4, a4, b4, c4⟩ := draw_byte hl (h := h3) c3
    rw [e1]
    simp only [Option.bind_some]
    rw [e2]
    simp only [Option.bind_some]
    rw [e3]
    simp only [Option.bind_some]
    rw [e4]
    simp only [Option.bind_some]
    rw [if_neg (by omega), w64 (n := x1 * 16777216) (by omega) (by omega), w64 (n := x2 * 65536) (by omega) (by omega), w64 (n := x3 * 256) (by omega) (by omega), w64 (n := x1 * 16777216 + x2 * 65536) (by omega) (by omega), w64 (n := x1 * 16777216 + x2 * 65536 + x3 * 256) (by omega) (by omega), w64 (by omega) (by omega)]
    have hx : 0 ≤ x1 * 16777216 + x2 * 65536 + x3 * 256 + x4 := by omega
    refine ⟨_, _, _, rfl, ?_, ?_, c4⟩
    · rw [Int.tmod_eq_emod_of_nonneg hx]; exact Int.emod_nonneg _ (by omega)
    · rw [Int.tmod_eq_emod_of_nonneg hx]; exact Int.emod_lt_of_pos _ hn
theorem draw_below0 (l : List Int) (i h : Int) {n : Int} (hn : n ≤ 0) : spec_l1Below.f l i h n = some (0, i, h) := by
  unfold spec_l1Below.f
  rw [if_pos hn]
theorem new_loop (l : List Int) (hl : Bytes l) (d : Nat) : ∀ (k : Nat) (h : Int) (j : Nat), j + d = l.length → d < k → ∃ h', spec_l1New.l0 k l h j = some (l, 0, h') := by
  unfold Bytes at hl
  induction d with
  | zero =>
    intro k h j hj hk
    obtain ⟨k, rfl⟩ : ∃ m, k = m + 1 := ⟨k - 1, by omega⟩
    exact ⟨h, by simp only [spec_l1New.l0]; rw [if_neg (by omega)]⟩
  | succ d ih =>
    intro k h j hj hk
    obtain ⟨k, rfl⟩ : ∃ m, k = m + 1 := ⟨k - 1, by omega⟩
    obtain ⟨h', e⟩ := ih k (Go.bits .and .i64 (wrap64 ((wrap64 ((wrap64 (h * 149)) + (wrap64 (rd l j)))) + 3)) 1073741823) (j + 1) (by omega) (by omega)
    refine ⟨h', ?_⟩
    simp only [spec_l1New.l0]
    rw [if_pos (by omega), if_pos (by omega), w64 (n := (j : Int) + 1) (by omega) (by omega)]
    exact e
theorem draw_new {l : List Int} (hl : Bytes l) {k : Nat} (hk : l.length < k) : ∃ h, spec_l1New.f k l = some (l, 0, h) := by
  unfold spec_l1New.f
  exact new_loop l hl l.length k _ 0 (by omega) hk

theorem draw_once {l : List Int} (hl : Bytes l) {i h n : Int} (hi : 0 ≤ i) (hn : 0 < n) : ∃ b i' h', spec_l1Once.f l i h n = some (b, i', h') ∧ 0 ≤ i' := by
  obtain ⟨x, i', h', e, _, _, i0⟩ := draw_below hl (h := h) hi hn
  unfold spec_l1Once.f
  rw [e]
  exact ⟨_, _, _, rfl, i0⟩

/-- What a draw gives for a coordinate. -/
def Near62 (x : Int) : Prop := -4611686018427387904 ≤ x ∧ x ≤ 10000001
theorem draw_point {l : List Int} (hl : Bytes l) {k : Nat} {i h : Int} (hi : 0 ≤ i) : ∃ x y i' h', spec_l1DrawPoint.f (k + 1) l i h = some (x, y, i', h') ∧ Near62 x ∧ (-10000000 ≤ y ∧ y ≤ 10000000) ∧ 0 ≤ i' := by
  unfold spec_l1DrawPoint.f
  obtain ⟨x, i1, h1, e1, x0, x1, c1⟩ := draw_below hl (h := h) (n := 41) hi (by omega)
  obtain ⟨y, i2, h2, e2, y0, y1, c2⟩ := draw_below hl (h := h1) (n := 41) c1 (by omega)
  obtain ⟨z, i3, h3, e3, z0, z1, c3⟩ := draw_below hl (h := h2) (n := 12) c2 (by omega)
  rw [e1]; simp only [Option.bind_some]
  rw [e2]; simp only [Option.bind_some]
  rw [e3]; simp only [Option.bind_some]
  have key : ∀ x y : Int, Near62 x → (-10000000 ≤ y ∧ y ≤ 10000000) → ∃ x' y' i' h', spec_l1DrawPoint.j0 (k + 1) x y l i3 h3 = some (x', y', i', h') ∧ Near62 x' ∧ (-10000000 ≤ y' ∧ y' ≤ 10000000) ∧ 0 ≤ i' := by
    intro x y hx hy
    simp only [spec_l1DrawPoint.j0]
    obtain ⟨b, i4, h4, e4, c4⟩ := draw_once hl (h := h3) (n := 60) c3 (by omega)
    rw [e4]; simp only [Option.bind_some]
    cases b with
    | false => exact ⟨_, _, _, _, rfl, hx, hy, c4⟩
    | true =>
      obtain ⟨w, i5, h5, e5, w0, w1, c5⟩ := draw_below hl (h := h4) (n := 4) c4 (by omega)
      rw [if_pos rfl, e5]; simp only [Option.bind_some]
      rw [if_pos w0, if_pos (by simpa using w1)]
      refine ⟨_, _, _, _, rfl, ?_, hy, c5⟩
      rcases (show w = 0 ∨ w = 1 ∨ w = 2 ∨ w = 3 by omega) with rfl | rfl | rfl | rfl <;> (unfold Near62 rd; simp)
  have e20 : wrap64 (x - 20) = x - 20 := w64 (by omega) (by omega)
  have f20 : wrap64 (y - 20) = y - 20 := w64 (by omega) (by omega)
  rw [e20, f20, w64 (n := (x - 20) * 500000) (by omega) (by omega), w64 (n := (y - 20) * 500000) (by omega) (by omega), w64 (n := (x - 20) * 321) (by omega) (by omega), w64 (n := (y - 20) * 777) (by omega) (by omega)]
  unfold Near62 at key ⊢
  split
  · exact key _ _ (by omega) (by omega)
  · split
    · exact key _ _ (by omega) (by omega)
    · split
      · exact key _ _ (by omega) (by omega)
      · exact key _ _ (by omega) (by omega)

theorem rdP {l : List S28} {j : Nat} (h : j < l.length) : rd_T28 l (j : Int) = l[j] := by
  unfold rd_T28
  simp [List.getD_eq_getElem?_getD, h]
/-- A point of the map, as a word. -/
def okB (p : S28) : Bool := decide (OkP p.f0 p.f1)
/-- A row of the map. -/
def rowB (l : List S28) : Bool := decide (l.length ≤ 2000) && l.all okB
theorem all_drop {α : Type} (f : α → Bool) (l : List α) {j : Nat} (h : j < l.length) : (l.drop j).all f = (f l[j] && (l.drop (j + 1)).all f) := by
  rw [List.drop_eq_getElem_cons h, List.all_cons]
theorem rowB_len {l : List S28} (h : rowB l = true) : l.length ≤ 2000 := by
  unfold rowB at h
  simp at h
  exact h.1
theorem rowB_get {l : List S28} (h : rowB l = true) {j : Nat} (hj : j < l.length) : OkP l[j].f0 l[j].f1 := by
  unfold rowB okB at h
  simp at h
  exact h.2 _ (List.getElem_mem hj)

theorem rdR {l : List S65} {j : Nat} (h : j < l.length) : rd_T65 l (j : Int) = l[j] := by
  unfold rd_T65
  simp [List.getD_eq_getElem?_getD, h]
/-- Rings of the map. -/
def ringsB (l : List S65) : Bool := decide (l.length ≤ 40) && l.all (fun r => rowB r.f0)
theorem ringsB_get {l : List S65} (h : ringsB l = true) {r : S65} (hr : r ∈ l) : rowB r.f0 = true := by
  unfold ringsB at h
  rw [Bool.and_eq_true, List.all_eq_true] at h
  exact h.2 r hr
theorem ringsB_len {l : List S65} (h : ringsB l = true) : l.length ≤ 40 := by
  unfold ringsB at h
  rw [Bool.and_eq_true, decide_eq_true_eq] at h
  exact h.1

/-- Rings of a draw: not many, none long. -/
def FewR (rs : List S65) : Prop := rs.length ≤ 60 ∧ ∀ r ∈ rs, r.f0.length ≤ 3000
theorem turned_loop (l : List S28) (hl : l.length ≤ 3000) (d : Nat) : ∀ (k : Nat) (xs : List S28), d ≤ l.length → d < k → xs.length + d ≤ 3000 → ∃ ys, spec_l4Turned.l0 k l xs ((d : Int) - 1) = some ys ∧ ys.length = xs.length + d := by
  induction d with
  | zero =>
    intro k xs hd hk hx
    obtain ⟨k, rfl⟩ : ∃ m, k = m + 1 := ⟨k - 1, by omega⟩
    exact ⟨xs, by simp [spec_l4Turned.l0], rfl⟩
  | succ d ih =>
    intro k xs hd hk hx
    obtain ⟨k, rfl⟩ : ∃ m, k = m + 1 := ⟨k - 1, by omega⟩
    have e0 : (((d + 1 : Nat) : Int) - 1) = (d : Int) := by omega
    obtain ⟨ys, h1, h2⟩ := ih k (xs ++ [(⟨(rd_T28 l (d : Int)).f0, (rd_T28 l (d : Int)).f1⟩ : S28)]) (by omega) (by omega) (by rw [List.length_append, List.length_singleton]; omega)
    refine ⟨ys, ?_, by rw [h2, List.length_append, List.length_singleton]; omega⟩
    simp only [spec_l4Turned.l0]
    rw [e0, if_pos (by omega), if_pos (by omega), if_pos (by omega), if_pos (by omega), w64 (by omega) (by omega)]
    exact h1
theorem turned_some (l : List S28) (hl : l.length ≤ 1500) (k : Nat) (hk : l.length < k) : ∃ ys, spec_l4Turned.f k l = some ys ∧ ys.length = l.length := by
  unfold spec_l4Turned.f
  rw [w64 (by omega) (by omega)]
  obtain ⟨ys, h1, h2⟩ := turned_loop l (by omega) l.length k [] (Nat.le_refl _) hk (by simp; omega)
  exact ⟨ys, h1, by simpa using h2⟩
theorem draw_ring_j1 {l : List Int} (hl : Bytes l) (xs : List S28) (hx : xs.length ≤ 20) {i h : Int} (hi : 0 ≤ i) (k : Nat) (hk : 30 < k) : ∃ ys i' h', spec_l4DrawRing.j1 k xs l i h = some (ys, i', h') ∧ ys.length ≤ 20 ∧ 0 ≤ i' := by
  obtain ⟨k, rfl⟩ : ∃ m, k = m + 1 := ⟨k - 1, by omega⟩
  simp only [spec_l4DrawRing.j1]
  obtain ⟨b, i1, h1, e1, c1⟩ := draw_once hl (h := h) (n := 3) hi (by omega)
  rw [e1]; simp only [Option.bind_some]
  cases b with
  | false => exact ⟨_, _, _, rfl, hx, c1⟩
  | true =>
    obtain ⟨ys, e2, e3⟩ := turned_some xs (by omega) k (by omega)
    rw [if_pos rfl, e2]
    exact ⟨_, _, _, rfl, by omega, c1⟩
theorem draw_ring_loop {l : List Int} (hl : Bytes l) (x y r : Int) (hr : 0 < r) (d : Nat) : ∀ (k : Nat) (xs : List S28) (j : Nat) (i h : Int), j + d = 8 → xs.length ≤ j → 0 ≤ i → d + 31 < k →
    ∃ ys i' h', spec_l4DrawRing.l0 k x y r [10, 7, 0, (-7), (-10), (-7), 0, 7] [0, 7, 10, 7, 0, (-7), (-10), (-7)] xs (j : Int) l i h = some (ys, i', h') ∧ ys.length ≤ 20 ∧ 0 ≤ i' := by
  induction d with
  | zero =>
    intro k xs j i h hj hx hi hk
    obtain ⟨k, rfl⟩ : ∃ m, k = m + 1 := ⟨k - 1, by omega⟩
    simp only [spec_l4DrawRing.l0]
    rw [if_neg (by omega)]
    by_cases h0 : (xs.length : Int) > 0
    · rw [if_pos h0, if_pos (by omega), if_pos (by omega)]
      exact draw_ring_j1 hl _ (by rw [List.length_append, List.length_singleton]; omega) hi k (by omega)
    · rw [if_neg h0]
      exact draw_ring_j1 hl _ (by omega) hi k (by omega)
  | succ d ih =>
    intro k xs j i h hj hx hi hk
    obtain ⟨k, rfl⟩ : ∃ m, k = m + 1 := ⟨k - 1, by omega⟩
    have e1 : wrap64 ((j : Int) + 1) = ((j + 1 : Nat) : Int) := by rw [w64 (by omega) (by omega)]; omega
    have go : ∀ (q : S28) (i h : Int), 0 ≤ i → ∃ ys i' h', spec_l4DrawRing.l0 k x y r [10, 7, 0, (-7), (-10), (-7), 0, 7] [0, 7, 10, 7, 0, (-7), (-10), (-7)] (xs ++ [q]) ((j + 1 : Nat) : Int) l i h = some (ys, i', h') ∧ ys.length ≤ 20 ∧ 0 ≤ i' :=
      fun q i h hi => ih k (xs ++ [q]) (j + 1) i h (by omega) (by rw [List.length_append, List.length_singleton]; omega) hi (by omega)
    have skip : ∀ (i h : Int), 0 ≤ i → ∃ ys i' h', spec_l4DrawRing.l0 k x y r [10, 7, 0, (-7), (-10), (-7), 0, 7] [0, 7, 10, 7, 0, (-7), (-10), (-7)] xs ((j + 1 : Nat) : Int) l i h = some (ys, i', h') ∧ ys.length ≤ 20 ∧ 0 ≤ i' :=
      fun i h hi => ih k xs (j + 1) i h (by omega) (by omega) hi (by omega)
    have l1 : ([10, 7, 0, (-7), (-10), (-7), 0, 7] : List Int).length = 8 := rfl
    have l2 : ([0, 7, 10, 7, 0, (-7), (-10), (-7)] : List Int).length = 8 := rfl
    simp only [spec_l4DrawRing.l0, e1, l1, l2]
    rw [if_pos (by omega)]
    have drop : ∀ (i h : Int), 0 ≤ i → ∃ v i' h', spec_l1Below.f l i h r = some (v, i', h') ∧ 0 ≤ i' := fun i h hi => by
      obtain ⟨v, i', h', e, _, _, c⟩ := draw_below hl (h := h) (n := r) hi hr
      exact ⟨v, i', h', e, c⟩
    have keep : ∀ (i h : Int), 0 ≤ i → ∃ ys i' h', ((spec_l1Once.f l i h 3).bind fun bt147 => (if bt147.1 = true then (spec_l4DrawRing.l0 k x y r [10, 7, 0, (-7), (-10), (-7), 0, 7] [0, 7, 10, 7, 0, (-7), (-10), (-7)] xs ((j + 1 : Nat) : Int) l bt147.2.1 bt147.2.2) else ((spec_l1Below.f l bt147.2.1 bt147.2.2 r).bind fun bt150 => (if 0 ≤ (j : Int) then (if (j : Int) < ((8 : Nat) : Int) then (if (j : Int) < ((8 : Nat) : Int) then (if xs.length < 8796093022208 then (spec_l4DrawRing.l0 k x y r [10, 7, 0, (-7), (-10), (-7), 0, 7] [0, 7, 10, 7, 0, (-7), (-10), (-7)] (xs ++ [(⟨wrap64 (x + (wrap64 (Int.tdiv (wrap64 ((wrap64 (r + bt150.1)) * (rd [10, 7, 0, (-7), (-10), (-7), 0, 7] (j : Int)))) 10))), wrap64 (y + (wrap64 (Int.tdiv (wrap64 ((wrap64 (r + bt150.1)) * (rd [0, 7, 10, 7, 0, (-7), (-10), (-7)] (j : Int)))) 10)))⟩ : S28)]) ((j + 1 : Nat) : Int) l bt150.2.1 bt150.2.2) else (none)) else (none)) else (none)) else (none))))) = some (ys, i', h') ∧ ys.length ≤ 20 ∧ 0 ≤ i' := by
      intro i h hi
      obtain ⟨b, i1, h1, e1, c1⟩ := draw_once hl (h := h) (n := 3) hi (by omega)
      rw [e1]; simp only [Option.bind_some]
      cases b with
      | true => simp only [if_true]; exact skip _ _ c1
      | false =>
        simp only [Bool.false_eq_true, if_false]
        obtain ⟨v, i2, h2, e2, c2⟩ := drop i1 h1 c1
        rw [e2]; simp only [Option.bind_some]
        rw [if_pos (by omega), if_pos (by omega), if_pos (by omega), if_pos (by omega)]
        exact go _ _ _ c2
    by_cases h3 : (xs.length : Int) < 3
    · rw [if_pos h3]
      by_cases h4 : (j : Int) > 4
      · rw [if_pos h4]
        obtain ⟨v, i2, h2, e2, c2⟩ := drop i h hi
        rw [e2]; simp only [Option.bind_some]
        rw [if_pos (by omega), if_pos (by omega), if_pos (by omega), if_pos (by omega)]
        exact go _ _ _ c2
      · rw [if_neg h4]
        exact keep i h hi
    · rw [if_neg h3]
      exact keep i h hi
theorem draw_ring {l : List Int} (hl : Bytes l) (x y r : Int) (hr : 0 < r) {i h : Int} (hi : 0 ≤ i) (k : Nat) (hk : 50 < k) : ∃ ys i' h', spec_l4DrawRing.f k l i h x y r = some (ys, i', h') ∧ ys.length ≤ 20 ∧ 0 ≤ i' :=
  draw_ring_loop hl x y r hr 8 k [] 0 i h rfl (by simp) hi (by omega)
theorem draw_row_loop {l : List Int} (hl : Bytes l) (n : Nat) (hn : n ≤ 100) (d : Nat) : ∀ (k : Nat) (xs : List S28) (i h : Int), xs.length + d = n → 0 ≤ i → d + 1 < k → ∃ ys i' h', spec_l1DrawRow.l0 k (n : Int) xs (xs.length : Int) l i h = some (ys, i', h') ∧ ys.length = n ∧ 0 ≤ i' := by
  induction d with
  | zero =>
    intro k xs i h hx hi hk
    obtain ⟨k, rfl⟩ : ∃ m, k = m + 1 := ⟨k - 1, by omega⟩
    simp only [spec_l1DrawRow.l0]
    rw [if_neg (by omega)]
    exact ⟨_, _, _, rfl, by omega, hi⟩
  | succ d ih =>
    intro k xs i h hx hi hk
    obtain ⟨k, rfl⟩ : ∃ m, k = m + 1 + 1 := ⟨k - 2, by omega⟩
    simp only [spec_l1DrawRow.l0]
    obtain ⟨ax, ay, i1, h1, e1, _, _, c1⟩ := draw_point hl (k := k) (h := h) hi
    rw [if_pos (by omega), e1]; simp only [Option.bind_some]
    rw [if_pos (by omega), w64 (by omega) (by omega)]
    have := ih (k + 1) (xs ++ [(⟨ax, ay⟩ : S28)]) i1 h1 (by rw [List.length_append, List.length_singleton]; omega) c1 (by omega)
    rw [List.length_append, List.length_singleton] at this
    exact this
theorem draw_any {l : List Int} (hl : Bytes l) {i h : Int} (hi : 0 ≤ i) (k : Nat) (hk : 20 < k) : ∃ ys i' h', spec_l1DrawAny.f k l i h = some (ys, i', h') ∧ ys.length ≤ 3000 ∧ 0 ≤ i' := by
  unfold spec_l1DrawAny.f
  obtain ⟨n, i1, h1, e1, n0, n1, c1⟩ := draw_below hl (h := h) (n := 9) hi (by omega)
  rw [e1]; simp only [Option.bind_some]
  obtain ⟨N, rfl⟩ := Int.eq_ofNat_of_zero_le n0
  obtain ⟨ys, i2, h2, e2, y2, c2⟩ := draw_row_loop hl N (by omega) N k [] i1 h1 (by simp) c1 (by omega)
  unfold spec_l1DrawRow.f
  have e2' : spec_l1DrawRow.l0 k (N : Int) ([] : List S28) 0 l i1 h1 = some (ys, i2, h2) := e2
  rw [e2']; simp only [Option.bind_some]
  obtain ⟨b, i3, h3, e3, c3⟩ := draw_once hl (h := h2) (n := 100) c2 (by omega)
  rw [e3]; simp only [Option.bind_some]
  cases b with
  | false => exact ⟨_, _, _, rfl, by omega, c3⟩
  | true =>
    obtain ⟨z, i4, h4, e4, z0, z1, c4⟩ := draw_below hl (h := h3) (n := 2) c3 (by omega)
    rw [if_pos rfl, e4]; simp only [Option.bind_some]
    rw [w64 (by omega) (by omega), if_pos (by omega), if_pos (by omega)]
    exact ⟨_, _, _, rfl, by rw [List.length_replicate]; omega, c4⟩
theorem draw_rings_l1 {l : List Int} (d : Nat) : ∀ (k : Nat) (rs : List S65) (i h : Int), d < k → rs.length + d ≤ 60 → (∀ r ∈ rs, r.f0.length ≤ 3000) → ∃ qs, spec_l4DrawRings.l1 k rs (d : Int) l i h = some (qs, i, h) ∧ FewR qs := by
  induction d with
  | zero =>
    intro k rs i h hk hx hr
    obtain ⟨k, rfl⟩ : ∃ m, k = m + 1 := ⟨k - 1, by omega⟩
    simp only [spec_l4DrawRings.l1]
    rw [if_neg (by omega)]
    exact ⟨_, rfl, by omega, hr⟩
  | succ d ih =>
    intro k rs i h hk hx hr
    obtain ⟨k, rfl⟩ : ∃ m, k = m + 1 := ⟨k - 1, by omega⟩
    simp only [spec_l4DrawRings.l1]
    rw [if_pos (by omega), if_pos (by omega), w64 (by omega) (by omega), show ((d + 1 : Nat) : Int) - 1 = (d : Int) by omega]
    exact ih k _ i h (by omega) (by rw [List.length_append, List.length_singleton]; omega) (fun r hr' => by
      rcases List.mem_append.1 hr' with h' | h'
      · exact hr r h'
      · rw [List.mem_singleton.1 h']; simp)
theorem draw_rings_j2 {l : List Int} (hl : Bytes l) (k : Nat) (hk : 60 < k) (rs : List S65) {i h : Int} (hi : 0 ≤ i) (hx : rs.length ≤ 10) (hr : ∀ r ∈ rs, r.f0.length ≤ 3000) : ∃ qs i' h', spec_l4DrawRings.j2 k rs l i h = some (qs, i', h') ∧ FewR qs ∧ 0 ≤ i' := by
  obtain ⟨k, rfl⟩ : ∃ m, k = m + 1 := ⟨k - 1, by omega⟩
  simp only [spec_l4DrawRings.j2]
  obtain ⟨b, i3, h3, e3, c3⟩ := draw_once hl (h := h) (n := 60) hi (by omega)
  rw [e3]; simp only [Option.bind_some]
  cases b with
  | false => exact ⟨_, _, _, rfl, ⟨by omega, hr⟩, c3⟩
  | true =>
    obtain ⟨z, i4, h4, e4, z0, z1, c4⟩ := draw_below hl (h := h3) (n := 3) c3 (by omega)
    rw [if_pos rfl, e4]; simp only [Option.bind_some]
    rw [w64 (n := z + 40) (by omega) (by omega), w64 (by omega) (by omega)]
    obtain ⟨Z, hZ⟩ := Int.eq_ofNat_of_zero_le (show 0 ≤ z + 40 - 1 by omega)
    rw [hZ]
    obtain ⟨qs, e5, f5⟩ := draw_rings_l1 (l := l) Z k rs i4 h4 (by omega) (by omega) hr
    exact ⟨_, _, _, e5, f5, c4⟩
theorem draw_rings_j1 {l : List Int} (hl : Bytes l) (k : Nat) (hk : 70 < k) (rs : List S65) (b : Bool) (hb : b = true → 0 < rs.length) {i h : Int} (hi : 0 ≤ i) (hx : rs.length ≤ 10) (hr : ∀ r ∈ rs, r.f0.length ≤ 3000) : ∃ qs i' h', spec_l4DrawRings.j1 k rs b l i h = some (qs, i', h') ∧ FewR qs ∧ 0 ≤ i' := by
  obtain ⟨k, rfl⟩ : ∃ m, k = m + 1 := ⟨k - 1, by omega⟩
  simp only [spec_l4DrawRings.j1]
  cases b with
  | false => simp only [Bool.false_eq_true, if_false]; exact draw_rings_j2 hl k (by omega) rs hi hx hr
  | true =>
    obtain ⟨ys, i1, h1, e1, y1, c1⟩ := draw_any hl (h := h) hi k (by omega)
    have := hb rfl
    rw [if_pos rfl, e1]; simp only [Option.bind_some]
    rw [if_pos (by omega)]
    refine draw_rings_j2 hl k (by omega) _ c1 (by rw [List.length_set]; exact hx) (fun r hr' => ?_)
    rcases List.mem_or_eq_of_mem_set hr' with h' | h'
    · exact hr r h'
    · rw [h']; exact y1
theorem draw_rings_loop {l : List Int} (hl : Bytes l) (d : Nat) : ∀ (k : Nat) (rs : List S65) (i h : Int), d + 80 < k → rs.length + d ≤ 5 → 0 ≤ i → (∀ r ∈ rs, r.f0.length ≤ 3000) → ∃ qs i' h', spec_l4DrawRings.l0 k rs (d : Int) l i h = some (qs, i', h') ∧ FewR qs ∧ 0 ≤ i' := by
  induction d with
  | zero =>
    intro k rs i h hk hx hi hr
    obtain ⟨k, rfl⟩ : ∃ m, k = m + 1 := ⟨k - 1, by omega⟩
    simp only [spec_l4DrawRings.l0]
    rw [if_neg (by omega)]
    obtain ⟨b, i3, h3, e3, c3⟩ := draw_once hl (h := h) (n := 12) hi (by omega)
    rw [e3]; simp only [Option.bind_some]
    cases b with
    | false => simp only [Bool.false_eq_true, if_false]; exact draw_rings_j1 hl k (by omega) rs false (by simp) c3 (by omega) hr
    | true => simp only [if_true]; exact draw_rings_j1 hl k (by omega) rs _ (fun h => by have := of_decide_eq_true h; omega) c3 (by omega) hr
  | succ d ih =>
    intro k rs i h hk hx hi hr
    obtain ⟨k, rfl⟩ : ∃ m, k = m + 1 := ⟨k - 1, by omega⟩
    simp only [spec_l4DrawRings.l0]
    rw [if_pos (by omega)]
    obtain ⟨a, i1, h1, e1, _, _, c1⟩ := draw_below hl (h := h) (n := 3) hi (by omega)
    rw [e1]; simp only [Option.bind_some]
    obtain ⟨b, i2, h2, e2, _, _, c2⟩ := draw_below hl (h := h1) (n := 3) c1 (by omega)
    rw [e2]; simp only [Option.bind_some]
    obtain ⟨c, i3, h3, e3, u0, u1, c3⟩ := draw_below hl (h := h2) (n := 3) c2 (by omega)
    rw [e3]; simp only [Option.bind_some]
    rw [if_pos u0, if_pos (by simpa using u1)]
    have hpos : 0 < rd [10, 30, 80] c := by
      rcases (show c = 0 ∨ c = 1 ∨ c = 2 by omega) with rfl | rfl | rfl <;> decide
    obtain ⟨ys, i4, h4, e4, y4, c4⟩ := draw_ring hl (wrap64 (40 * a)) (wrap64 (40 * b)) _ hpos (h := h3) c3 k (by omega)
    rw [e4]; simp only [Option.bind_some]
    obtain ⟨g, i5, h5, e5, c5⟩ := draw_once hl (h := h4) (n := 3) c4 (by omega)
    rw [e5]; simp only [Option.bind_some]
    rw [if_pos (by omega), w64 (by omega) (by omega), show ((d + 1 : Nat) : Int) - 1 = (d : Int) by omega]
    exact ih k _ i5 h5 (by omega) (by rw [List.length_append, List.length_singleton]; omega) c5 (fun r hr' => by
      rcases List.mem_append.1 hr' with h' | h'
      · exact hr r h'
      · rw [List.mem_singleton.1 h']; show ys.length ≤ 3000; omega)
theorem draw_rings {l : List Int} (hl : Bytes l) {i h : Int} (hi : 0 ≤ i) (k : Nat) (hk : 100 < k) : ∃ qs i' h', spec_l4DrawRings.f k l i h = some (qs, i', h') ∧ FewR qs ∧ 0 ≤ i' := by
  unfold spec_l4DrawRings.f
  obtain ⟨a, i1, h1, e1, a0, a1, c1⟩ := draw_below hl (h := h) (n := 4) hi (by omega)
  rw [e1]; simp only [Option.bind_some]
  obtain ⟨Z, rfl⟩ := Int.eq_ofNat_of_zero_le a0
  exact draw_rings_loop hl Z k [] i1 h1 (by omega) (by simp; omega) c1 (by simp)

theorem impl_ok (x y : Int) : impl_PointOk.f x y = some (decide (OkP x y)) := by
  unfold impl_PointOk.f OkP
  grind



theorem impl_row_loop (l : List S28) (hl : l.length ≤ 2000) (d : Nat) : ∀ j : Nat, j + d = l.length → Ev (fun k => impl_rowOk.l0 k l (l.length : Int) j) ((l.drop j).all okB) := by
  induction d with
  | zero =>
    intro j hj
    rw [List.drop_of_length_le (by omega), List.all_nil]
    refine Ev.step (fun k => ?_) (Ev.now _)
    simp only [impl_rowOk.l0]
    rw [if_neg (by omega)]
  | succ d ih =>
    intro j hj
    have hlt : j < l.length := by omega
    rw [all_drop _ _ hlt]
    by_cases hp : OkP l[j].f0 l[j].f1
    · have hB : okB l[j] = true := decide_eq_true hp
      rw [hB, Bool.true_and]
      refine Ev.step (fun k => ?_) (ih (j + 1) (by omega))
      simp only [impl_rowOk.l0, impl_ok, Option.bind_some]
      rw [if_pos (by omega), if_pos (by omega), if_pos (by omega), rdP hlt, if_pos (decide_eq_true hp), w64 (n := (j : Int) + 1) (by omega) (by omega)]
      rfl
    · have hB : okB l[j] = false := decide_eq_false hp
      rw [hB, Bool.false_and]
      refine Ev.step (fun k => ?_) (Ev.now _)
      simp only [impl_rowOk.l0, impl_ok, Option.bind_some]
      rw [if_pos (by omega), if_pos (by omega), if_pos (by omega), rdP hlt, if_neg (by simp [hp])]
theorem impl_row (l : List S28) : Ev (fun k => impl_rowOk.f k l) (rowB l) := by
  unfold rowB
  by_cases h : l.length ≤ 2000
  · have h1 := impl_row_loop l h l.length 0 (by omega)
    rw [List.drop_zero] at h1
    rw [decide_eq_true h, Bool.true_and]
    refine Ev.congr (fun k => ?_) h1
    unfold impl_rowOk.f
    rw [if_neg (by omega)]
    rfl
  · rw [decide_eq_false h, Bool.false_and]
    refine Ev.congr (fun k => ?_) (Ev.now _)
    unfold impl_rowOk.f
    rw [if_pos (by omega)]

theorem impl_rings_loop (l : List S65) (hl : l.length ≤ 40) (d : Nat) : ∀ j : Nat, j + d = l.length → Ev (fun k => impl_ringsOk.l0 k l (l.length : Int) j) ((l.drop j).all (fun r => rowB r.f0)) := by
  induction d with
  | zero =>
    intro j hj
    rw [List.drop_of_length_le (by omega), List.all_nil]
    refine Ev.step (fun k => ?_) (Ev.now _)
    simp only [impl_ringsOk.l0]
    rw [if_neg (by omega)]
  | succ d ih =>
    intro j hj
    have hlt : j < l.length := by omega
    rw [all_drop _ _ hlt]
    refine Ev.step (f := fun k => (impl_rowOk.f k l[j].f0).bind fun b => if b = true then impl_ringsOk.l0 k l (l.length : Int) ((j + 1 : Nat) : Int) else some false) (fun k => ?_) (Ev.bind (impl_row _) ?_)
    · simp only [impl_ringsOk.l0]
      rw [if_pos (by omega), if_pos (by omega), if_pos (by omega), rdR hlt, w64 (n := (j : Int) + 1) (by omega) (by omega)]
      rfl
    · by_cases hp : rowB l[j].f0 = true
      · simp only [hp, if_true, Bool.true_and]
        exact ih (j + 1) (by omega)
      · simp only [hp, if_false, Bool.false_and, Bool.not_eq_true] at *
        exact Ev.now _
theorem impl_rings (l : List S65) : Ev (fun k => impl_ringsOk.f k l) (ringsB l) := by
  unfold ringsB
  by_cases h : l.length ≤ 40
  · have h1 := impl_rings_loop l h l.length 0 (by omega)
    rw [List.drop_zero] at h1
    rw [decide_eq_true h, Bool.true_and]
    refine Ev.congr (fun k => ?_) h1
    unfold impl_ringsOk.f
    rw [if_neg (by omega)]
    rfl
  · rw [decide_eq_false h, Bool.false_and]
    refine Ev.congr (fun k => ?_) (Ev.now _)
    unfold impl_ringsOk.f
    rw [if_pos (by omega)]

theorem impl_sg (n : Int) : impl_sgn.f n = some (sg n) := by unfold impl_sgn.f sg; repeat' split <;> simp_all
theorem impl_trn {ax ay bx by_ cx cy : Int} (ha : OkP ax ay) (hb : OkP bx by_) (hc : OkP cx cy) : impl_turn.f ax ay bx by_ cx cy = some (sg (det ax ay bx by_ cx cy)) := by
  unfold OkP at *
  have h1 := mul_bd (p := bx - ax) (q := cy - by_) (B := 20000000) (C := 20000000) (by omega) (by omega) (by omega) (by omega)
  have h2 := mul_bd (p := by_ - ay) (q := cx - bx) (B := 20000000) (C := 20000000) (by omega) (by omega) (by omega) (by omega)
  unfold impl_turn.f
  rw [w64 (n := bx - ax) (by omega) (by omega), w64 (n := cy - by_) (by omega) (by omega), w64 (n := by_ - ay) (by omega) (by omega), w64 (n := cx - bx) (by omega) (by omega),
    w64 (n := (bx - ax) * (cy - by_)) (by omega) (by omega), w64 (n := (by_ - ay) * (cx - bx)) (by omega) (by omega), w64 (by omega) (by omega), impl_sg, det_alt]
  rfl

/-- p lies on the closed stretch from a to b. -/
def On (ax ay bx by_ px py : Int) : Prop := det ax ay bx by_ px py = 0 ∧ (ax ≤ px ∧ px ≤ bx ∨ bx ≤ px ∧ px ≤ ax) ∧ (ay ≤ py ∧ py ≤ by_ ∨ by_ ≤ py ∧ py ≤ ay)
instance (ax ay bx by_ px py : Int) : Decidable (On ax ay bx by_ px py) := by unfold On; infer_instance
theorem sg_zero (n : Int) : sg n = 0 ↔ n = 0 := by unfold sg; repeat' split <;> omega
/-- Two closed stretches have a place in common. -/
def Meet (ax ay bx by_ cx cy dx dy : Int) : Prop :=
  On ax ay bx by_ cx cy ∨ On ax ay bx by_ dx dy ∨ On cx cy dx dy ax ay ∨ On cx cy dx dy bx by_ ∨
    (sg (det ax ay bx by_ cx cy) * sg (det ax ay bx by_ dx dy) < 0 ∧ sg (det cx cy dx dy ax ay) * sg (det cx cy dx dy bx by_) < 0)
instance (ax ay bx by_ cx cy dx dy : Int) : Decidable (Meet ax ay bx by_ cx cy dx dy) := by unfold Meet; infer_instance
theorem sg_bd (n : Int) : -1 ≤ sg n ∧ sg n ≤ 1 := by unfold sg; repeat' split <;> omega
theorem sg_mul (m n : Int) : wrap64 (sg m * sg n) = sg m * sg n := by
  have h := mul_bd (sg_bd m).1 (sg_bd m).2 (sg_bd n).1 (sg_bd n).2
  exact w64 (by omega) (by omega)

theorem impl_on {ax ay bx by_ px py : Int} (ha : OkP ax ay) (hb : OkP bx by_) (hp : OkP px py) : impl_onStretch.f ax ay bx by_ px py = some (decide (On ax ay bx by_ px py)) := by
  unfold impl_onStretch.f On
  rw [impl_trn ha hb hp]
  simp only [Option.bind_some, sg_zero]
  by_cases h1 : det ax ay bx by_ px py = 0
  · simp only [h1, if_true, true_and]
    have a1 : (px ≥ mn ax bx) ↔ (ax ≤ px ∨ bx ≤ px) := by unfold mn; split <;> omega
    have a2 : (px ≤ mx ax bx) ↔ (px ≤ ax ∨ px ≤ bx) := by unfold mx; split <;> omega
    have a3 : (py ≥ mn ay by_) ↔ (ay ≤ py ∨ by_ ≤ py) := by unfold mn; split <;> omega
    have a4 : (py ≤ mx ay by_) ↔ (py ≤ ay ∨ py ≤ by_) := by unfold mx; split <;> omega
    by_cases c1 : px ≥ mn ax bx
    · by_cases c2 : px ≤ mx ax bx
      · by_cases c3 : py ≥ mn ay by_
        · rw [if_pos c1, if_pos c2, if_pos c3, Option.some.injEq, decide_eq_decide]
          rw [a1] at c1; rw [a2] at c2; rw [a3] at c3; rw [a4]
          omega
        · rw [if_pos c1, if_pos c2, if_neg c3, Option.some.injEq]
          rw [a3] at c3
          exact (decide_eq_false (by omega)).symm
      · rw [if_pos c1, if_neg c2, Option.some.injEq]
        rw [a2] at c2
        exact (decide_eq_false (by omega)).symm
    · rw [if_neg c1, Option.some.injEq]
      rw [a1] at c1
      exact (decide_eq_false (by omega)).symm
  · simp [h1]

/-- Whether a stretch turns the count round at p. -/
def flips (ax ay bx by_ px py : Int) : Bool := decide ((ay ≤ py ∧ by_ > py ∧ det ax ay bx by_ px py > 0) ∨ (by_ ≤ py ∧ ay > py ∧ det ax ay bx by_ px py < 0))
/-- A ring's stretches, those from place j on: none where p lies on one; else the count behind them. -/
def rowWalk (px py : Int) (row : List S28) : Nat → Nat → Bool → Option Bool
  | 0, _, o => some o
  | d + 1, j, o => if On (rd_T28 row ((j : Int) - 1)).f0 (rd_T28 row ((j : Int) - 1)).f1 (rd_T28 row j).f0 (rd_T28 row j).f1 px py then none
    else rowWalk px py row d (j + 1) (if flips (rd_T28 row ((j : Int) - 1)).f0 (rd_T28 row ((j : Int) - 1)).f1 (rd_T28 row j).f0 (rd_T28 row j).f1 px py = true then !o else o)
/-- What Inside answers of good rings. -/
def insideR (px py : Int) : List S65 → Bool → Int
  | [], o => if o = true then 1 else -1
  | r :: rs, o => match rowWalk px py r.f0 (r.f0.length - 1) 1 o with
    | none => 0
    | some o' => insideR px py rs o'
theorem sg_pos (n : Int) : (sg n > 0) = (n > 0) := by unfold sg; apply propext; repeat' split <;> omega
theorem sg_neg (n : Int) : (sg n < 0) = (n < 0) := by unfold sg; apply propext; repeat' split <;> omega

/-- What Inside answers. -/
def insideN (rs : List S65) (px py : Int) : Int := if ringsB rs = true then (if OkP px py then insideR px py rs false else -1) else -1

theorem impl_walk {px py : Int} (hp : OkP px py) (rs : List S65) (hrs : rs.length ≤ 40) (i : Nat) (hi : i < rs.length) (row : List S28) (inn : Bool) (h : rowB row = true) {res : Bool → Int} (hk : ∀ o, Ev (fun k => impl_Inside.l0 k o rs (rs.length : Int) ((i + 1 : Nat) : Int) px py) (res o)) (d : Nat) :
    ∀ (j : Nat) (o : Bool), 1 ≤ j → j + d = max row.length 1 → Ev (fun k => impl_Inside.l1 k o j rs (rs.length : Int) (i : Int) px py row inn) (match rowWalk px py row d j o with | none => 0 | some o' => res o') := by
  have h2 := rowB_len h
  induction d with
  | zero =>
    intro j o hj hd
    refine Ev.step (fun k => ?_) (hk o)
    simp only [impl_Inside.l1]
    rw [if_neg (by omega), w64 (n := (i : Int) + 1) (by omega) (by omega)]
    rfl
  | succ d ih =>
    intro j o hj hd
    obtain ⟨j, rfl⟩ : ∃ m, j = m + 1 := ⟨j - 1, by omega⟩
    have hlt : j + 1 < row.length := by omega
    have ha := rowB_get h (show j < row.length by omega)
    have hb := rowB_get h hlt
    have e1 : (((j + 1 : Nat) : Int) - 1) = (j : Int) := by omega
    have hr1 : rd_T28 row (j : Int) = row[j] := rdP (by omega)
    have hr2 : rd_T28 row ((j + 1 : Nat) : Int) = row[j + 1] := rdP hlt
    have w1 : wrap64 (((j + 1 : Nat) : Int) - 1) = (j : Int) := by rw [w64 (by omega) (by omega)]; omega
    have w2 : wrap64 (((j + 1 : Nat) : Int) + 1) = ((j + 1 + 1 : Nat) : Int) := by rw [w64 (by omega) (by omega)]; omega
    simp only [rowWalk, e1, hr1, hr2]
    by_cases hon : On row[j].f0 row[j].f1 row[j + 1].f0 row[j + 1].f1 px py
    · simp only [hon, if_true]
      refine Ev.step (fun k => ?_) (Ev.now _)
      simp only [impl_Inside.l1]
      rw [w1, if_pos (by omega), if_pos (by omega), if_pos (by omega), if_pos (by omega), hr1, hr2, impl_on ha hb hp]
      simp [hon]
    · simp only [hon, if_false]
      have step : ∀ (ax ay bx by_ : Int), OkP ax ay → OkP bx by_ → ∀ k, impl_Inside.j3 (k + 2) o ((j + 1 : Nat) : Int) rs (rs.length : Int) (i : Int) px py row inn ax ay bx by_ =
          impl_Inside.l1 k (if decide (ay ≤ py ∧ by_ > py ∧ det ax ay bx by_ px py > 0) = true then !o else o) ((j + 1 + 1 : Nat) : Int) rs (rs.length : Int) (i : Int) px py row inn := by
        intro ax ay bx by_ ka kb k
        unfold OkP at ka kb hp
        have m1 := mul_bd (p := py - ay) (q := bx - ax) (B := 20000000) (C := 20000000) (by omega) (by omega) (by omega) (by omega)
        have m2 := mul_bd (p := px - ax) (q := by_ - ay) (B := 20000000) (C := 20000000) (by omega) (by omega) (by omega) (by omega)
        have ed : det ax ay bx by_ px py = (py - ay) * (bx - ax) - (px - ax) * (by_ - ay) := by unfold det; grind
        simp only [impl_Inside.j3, impl_Inside.j4, w2]
        rw [w64 (n := py - ay) (by omega) (by omega), w64 (n := bx - ax) (by omega) (by omega), w64 (n := px - ax) (by omega) (by omega), w64 (n := by_ - ay) (by omega) (by omega), w64 (n := (py - ay) * (bx - ax)) (by omega) (by omega), w64 (n := (px - ax) * (by_ - ay)) (by omega) (by omega), ed]
        simp only [decide_eq_true_eq, Bool.false_eq_true, if_false]
        generalize (py - ay) * (bx - ax) = A
        generalize (px - ax) * (by_ - ay) = B
        repeat' split
        all_goals first | rfl | omega
      refine Ev.step (f := fun k => if row[j].f1 > row[j + 1].f1 then impl_Inside.j3 k o ((j + 1 : Nat) : Int) rs (rs.length : Int) (i : Int) px py row inn row[j + 1].f0 row[j + 1].f1 row[j].f0 row[j].f1 else impl_Inside.j3 k o ((j + 1 : Nat) : Int) rs (rs.length : Int) (i : Int) px py row inn row[j].f0 row[j].f1 row[j + 1].f0 row[j + 1].f1) (fun k => ?_) ?_
      · simp only [impl_Inside.l1]
        rw [w1, if_pos (by omega), if_pos (by omega), if_pos (by omega), if_pos (by omega), hr1, hr2, impl_on ha hb hp]
        simp [hon]
      · have hih := ih (j + 1 + 1)
        by_cases hs : row[j].f1 > row[j + 1].f1
        · simp only [hs, if_true]
          have ef : flips row[j].f0 row[j].f1 row[j + 1].f0 row[j + 1].f1 px py = decide (row[j + 1].f1 ≤ py ∧ row[j].f1 > py ∧ det row[j + 1].f0 row[j + 1].f1 row[j].f0 row[j].f1 px py > 0) := by
            have ed : det row[j + 1].f0 row[j + 1].f1 row[j].f0 row[j].f1 px py = - det row[j].f0 row[j].f1 row[j + 1].f0 row[j + 1].f1 px py := by unfold det; grind
            unfold flips
            rw [decide_eq_decide, ed]
            omega
          rw [ef]
          have := hih (if decide (row[j + 1].f1 ≤ py ∧ row[j].f1 > py ∧ det row[j + 1].f0 row[j + 1].f1 row[j].f0 row[j].f1 px py > 0) = true then !o else o) (by omega) (by omega)
          refine Ev.step (f := fun k => impl_Inside.j3 (k + 1) o ((j + 1 : Nat) : Int) rs (rs.length : Int) (i : Int) px py row inn row[j + 1].f0 row[j + 1].f1 row[j].f0 row[j].f1) (fun k => rfl) (Ev.step (fun k => step _ _ _ _ hb ha k) this)
        · simp only [hs, if_false]
          have ef : flips row[j].f0 row[j].f1 row[j + 1].f0 row[j + 1].f1 px py = decide (row[j].f1 ≤ py ∧ row[j + 1].f1 > py ∧ det row[j].f0 row[j].f1 row[j + 1].f0 row[j + 1].f1 px py > 0) := by
            unfold flips
            rw [decide_eq_decide]
            omega
          rw [ef]
          have := hih (if decide (row[j].f1 ≤ py ∧ row[j + 1].f1 > py ∧ det row[j].f0 row[j].f1 row[j + 1].f0 row[j + 1].f1 px py > 0) = true then !o else o) (by omega) (by omega)
          refine Ev.step (f := fun k => impl_Inside.j3 (k + 1) o ((j + 1 : Nat) : Int) rs (rs.length : Int) (i : Int) px py row inn row[j].f0 row[j].f1 row[j + 1].f0 row[j + 1].f1) (fun k => rfl) (Ev.step (fun k => step _ _ _ _ ha hb k) this)
theorem impl_in {px py : Int} (hp : OkP px py) (rs : List S65) (h : ringsB rs = true) (d : Nat) : ∀ (i : Nat) (o : Bool), i + d = rs.length → Ev (fun k => impl_Inside.l0 k o rs (rs.length : Int) (i : Int) px py) (insideR px py (rs.drop i) o) := by
  have h2 := ringsB_len h
  induction d with
  | zero =>
    intro i o hi
    rw [List.drop_of_length_le (by omega)]
    refine Ev.step (fun k => ?_) (Ev.now _)
    simp only [impl_Inside.l0, insideR]
    rw [if_neg (by omega)]
    split <;> rfl
  | succ d ih =>
    intro i o hi
    have hlt : i < rs.length := by omega
    rw [List.drop_eq_getElem_cons hlt]
    simp only [insideR]
    have hr := ringsB_get h (List.getElem_mem hlt)
    refine Ev.step (fun k => ?_) (impl_walk hp rs h2 i hlt rs[i].f0 rs[i].f1 hr (res := fun o => insideR px py (rs.drop (i + 1)) o) (fun o => ih (i + 1) o (by omega)) (rs[i].f0.length - 1) 1 o (by omega) (by omega))
    simp only [impl_Inside.l0]
    rw [if_pos (by omega), if_pos (by omega), if_pos (by omega), rdR hlt]
    rfl
theorem impl_inside (rs : List S65) (px py : Int) : Ev (fun k => impl_Inside.f k rs px py) (insideN rs px py) := by
  unfold impl_Inside.f insideN
  refine Ev.bind (impl_rings rs) ?_
  by_cases h : ringsB rs = true
  · simp only [h, if_true, impl_ok, Option.bind_some]
    by_cases hp : OkP px py
    · simp only [hp, if_true, decide_true, Bool.not_true]
      have := impl_in hp rs h rs.length 0 false (by omega)
      rw [List.drop_zero] at this
      refine Ev.step (fun k => ?_) this
      simp only [impl_Inside.j0, Bool.false_eq_true, if_false]
      rfl
    · simp only [hp, if_false, decide_false, Bool.not_false]
      refine Ev.step (fun k => ?_) (Ev.now _)
      simp [impl_Inside.j0]
  · simp only [h, if_false, Bool.false_eq_true]
    refine Ev.step (fun k => ?_) (Ev.now _)
    simp [impl_Inside.j0]

theorem det_swap (ax ay bx by_ px py : Int) : det bx by_ ax ay px py = - det ax ay bx by_ px py := by unfold det; grind
theorem On_swap (ax ay bx by_ px py : Int) : On bx by_ ax ay px py ↔ On ax ay bx by_ px py := by
  unfold On
  rw [det_swap]
  constructor <;> (rintro ⟨h1, h2, h3⟩; exact ⟨by omega, by omega, by omega⟩)
theorem flips_swap (ax ay bx by_ px py : Int) : flips bx by_ ax ay px py = flips ax ay bx by_ px py := by
  unfold flips
  rw [det_swap]
  apply decide_eq_decide.mpr
  omega
/-- Does p lie on a stretch of the row. -/
def onL (px py : Int) : List S28 → Bool
  | a :: b :: t => decide (On a.f0 a.f1 b.f0 b.f1 px py) || onL px py (b :: t)
  | _ => false
/-- Is the number of stretches that turn the count round odd. -/
def parL (px py : Int) : List S28 → Bool
  | a :: b :: t => Bool.xor (flips a.f0 a.f1 b.f0 b.f1 px py) (parL px py (b :: t))
  | _ => false
theorem walk_list (px py : Int) (row : List S28) (d : Nat) : ∀ (j : Nat) (o : Bool), j + d + 1 = row.length →
    rowWalk px py row d (j + 1) o = if onL px py (row.drop j) = true then none else some (Bool.xor o (parL px py (row.drop j))) := by
  induction d with
  | zero =>
    intro j o hj
    have e : row.drop j = [row[j]] := by
      rw [List.drop_eq_getElem_cons (by omega), List.drop_eq_nil_of_le (by omega)]
    rw [e]
    simp [rowWalk, onL, parL]
  | succ d ih =>
    intro j o hj
    have h1 : j < row.length := by omega
    have h2 : j + 1 < row.length := by omega
    have e : row.drop j = row[j] :: row[j + 1] :: row.drop (j + 1 + 1) := by
      rw [List.drop_eq_getElem_cons h1, List.drop_eq_getElem_cons h2]
    have e2 : row.drop (j + 1) = row[j + 1] :: row.drop (j + 1 + 1) := List.drop_eq_getElem_cons h2
    have i1 : (((j + 1 : Nat) : Int) - 1) = (j : Int) := by omega
    unfold rowWalk
    rw [i1, rdP h1, rdP h2, e]
    unfold onL parL
    rw [← e2]
    by_cases hOn : On row[j].f0 row[j].f1 row[j + 1].f0 row[j + 1].f1 px py
    · simp [hOn]
    · rw [if_neg hOn, ih (j + 1) _ (by omega), decide_eq_false hOn, Bool.false_or]
      cases flips row[j].f0 row[j].f1 row[j + 1].f0 row[j + 1].f1 px py <;> cases o <;> simp
theorem onL_snoc (px py : Int) (a b : S28) (l : List S28) : onL px py (l ++ [b, a]) = (onL px py (l ++ [b]) || decide (On b.f0 b.f1 a.f0 a.f1 px py)) := by
  induction l with
  | nil => simp [onL]
  | cons x l ih =>
    cases l with
    | nil => simp [onL]
    | cons y l =>
      simp only [List.cons_append] at ih ⊢
      unfold onL
      rw [ih, Bool.or_assoc]
theorem parL_snoc (px py : Int) (a b : S28) (l : List S28) : parL px py (l ++ [b, a]) = Bool.xor (parL px py (l ++ [b])) (flips b.f0 b.f1 a.f0 a.f1 px py) := by
  induction l with
  | nil => simp [parL]
  | cons x l ih =>
    cases l with
    | nil => simp [parL]
    | cons y l =>
      simp only [List.cons_append] at ih ⊢
      unfold parL
      rw [ih, Bool.xor_assoc]
theorem onL_reverse (px py : Int) (l : List S28) : onL px py l.reverse = onL px py l := by
  induction l with
  | nil => rfl
  | cons a l ih =>
    cases l with
    | nil => rfl
    | cons b t =>
      have e : (a :: b :: t).reverse = t.reverse ++ [b, a] := by simp
      have e2 : (b :: t).reverse = t.reverse ++ [b] := by simp
      rw [e, onL_snoc, ← e2, ih]
      conv => rhs; unfold onL
      rw [Bool.or_comm, decide_eq_decide.mpr (On_swap a.f0 a.f1 b.f0 b.f1 px py)]
theorem parL_reverse (px py : Int) (l : List S28) : parL px py l.reverse = parL px py l := by
  induction l with
  | nil => rfl
  | cons a l ih =>
    cases l with
    | nil => rfl
    | cons b t =>
      have e : (a :: b :: t).reverse = t.reverse ++ [b, a] := by simp
      have e2 : (b :: t).reverse = t.reverse ++ [b] := by simp
      rw [e, parL_snoc, ← e2, ih]
      conv => rhs; unfold parL
      rw [Bool.xor_comm, flips_swap]
theorem walk_reverse (px py : Int) (row : List S28) (o : Bool) : rowWalk px py row.reverse (row.reverse.length - 1) 1 o = rowWalk px py row (row.length - 1) 1 o := by
  rcases Nat.eq_zero_or_pos row.length with h | h
  · rw [List.eq_nil_of_length_eq_zero h]; rfl
  · rw [walk_list px py row.reverse _ 0 o (by rw [List.length_reverse]; omega), walk_list px py row _ 0 o (by omega)]
    rw [List.drop_zero, List.drop_zero, onL_reverse, parL_reverse]
theorem rowB_reverse (row : List S28) : rowB row.reverse = rowB row := by
  unfold rowB
  rw [List.length_reverse, List.all_reverse]
/-- A ring's row turned round: Inside answers the same. -/
theorem inside_turned (row : List S28) (b c : Bool) (px py : Int) : insideN [(⟨row.reverse, b⟩ : S65)] px py = insideN [(⟨row, c⟩ : S65)] px py := by
  unfold insideN insideR ringsB
  simp only [List.all_cons, List.all_nil, Bool.and_true, List.length_cons, List.length_nil, rowB_reverse, walk_reverse]
theorem inside_flag (row : List S28) (b c : Bool) (px py : Int) : insideN [(⟨row, b⟩ : S65)] px py = insideN [(⟨row, c⟩ : S65)] px py := rfl

/-- How many rings of a list, the i-th left out, have the row's first place inside. -/
def cnt (row : List S28) (i : Nat) : List S65 → Nat → Int → Int
  | [], _, n => n
  | s :: t, j, n => cnt row i t (j + 1) (if i = j then n else if 0 < row.length then (if insideN [s] (rd_T28 row 0).f0 (rd_T28 row 0).f1 = 1 then n + 1 else n) else n)
def counts (rs : List S65) : List Int := (List.range rs.length).map fun i : Nat => cnt (rd_T65 rs (i : Int)).f0 i rs 0 0
theorem nest_l1 (rs : List S65) (hrs : rs.length ≤ 60) (row : List S28) (inn : Bool) (o : List Int) (ho : o.length ≤ 60) (i : Nat) (d : Nat) : ∀ (j : Nat) (n : Int) (r : List Int), j + d = rs.length → 0 ≤ n → n ≤ j →
    Ev (fun k => impl_Nesting.l0 k rs (o ++ [cnt row i (rs.drop j) j n]) rs (rs.length : Int) (wrap64 ((i : Int) + 1))) r → Ev (fun k => impl_Nesting.l1 k rs o i n rs (rs.length : Int) i rs (rs.length : Int) j row inn) r := by
  induction d with
  | zero =>
    intro j n r hj h0 h1 h
    rw [List.drop_eq_nil_of_le (by omega)] at h
    refine Ev.step (fun k => ?_) h
    simp only [impl_Nesting.l1]
    rw [if_neg (by omega), if_pos (by omega)]
    rfl
  | succ d ih =>
    intro j n r hj h0 h1 h
    have hlt : j < rs.length := by omega
    rw [List.drop_eq_getElem_cons hlt] at h
    unfold cnt at h
    have hw : wrap64 ((j : Int) + 1) = ((j + 1 : Nat) : Int) := by rw [w64 (by omega) (by omega)]; omega
    have hwn : wrap64 (n + 1) = n + 1 := w64 (by omega) (by omega)
    by_cases hij : i = j
    · rw [if_pos hij] at h
      refine Ev.step (fun k => ?_) (ih (j + 1) n r (by omega) h0 (by omega) h)
      simp only [impl_Nesting.l1]
      rw [if_pos (by omega), if_pos (by omega), if_pos (by omega), if_pos (by omega), hw]
    · rw [if_neg hij] at h
      by_cases hr : 0 < row.length
      · rw [if_pos hr] at h
        refine Ev.step (f := fun k => (impl_Inside.f k [(⟨rs[j].f0, rs[j].f1⟩ : S65)] (rd_T28 row 0).f0 (rd_T28 row 0).f1).bind fun t => if t = 1 then impl_Nesting.l1 k rs o i (n + 1) rs (rs.length : Int) i rs (rs.length : Int) ((j + 1 : Nat) : Int) row inn else impl_Nesting.l1 k rs o i n rs (rs.length : Int) i rs (rs.length : Int) ((j + 1 : Nat) : Int) row inn) (fun k => ?_) (Ev.bind (impl_inside _ _ _) ?_)
        · simp only [impl_Nesting.l1]
          rw [if_pos (by omega), if_pos (by omega), if_pos (by omega), if_neg (by omega), if_pos (by omega), if_pos (by omega), hw, hwn, rdR hlt]
        · by_cases hi : insideN [rs[j]] (rd_T28 row 0).f0 (rd_T28 row 0).f1 = 1
          · rw [if_pos hi] at h
            have := ih (j + 1) (n + 1) r (by omega) (by omega) (by omega) h
            simp only [hi, if_true]
            exact this
          · rw [if_neg hi] at h
            have := ih (j + 1) n r (by omega) h0 (by omega) h
            simp only [hi, if_false]
            exact this
      · rw [if_neg hr] at h
        refine Ev.step (fun k => ?_) (ih (j + 1) n r (by omega) h0 (by omega) h)
        simp only [impl_Nesting.l1]
        rw [if_pos (by omega), if_pos (by omega), if_pos (by omega), if_neg (by omega), if_neg (by omega), hw]
theorem nest_l0 (rs : List S65) (hrs : rs.length ≤ 60) (d : Nat) : ∀ i : Nat, i + d = rs.length →
    Ev (fun k => impl_Nesting.l0 k rs ((List.range i).map fun i : Nat => cnt (rd_T65 rs (i : Int)).f0 i rs 0 0) rs (rs.length : Int) i) (counts rs) := by
  induction d with
  | zero =>
    intro i hi
    refine Ev.step (fun k => ?_) (Ev.now _)
    simp only [impl_Nesting.l0]
    rw [if_neg (by omega), show i = rs.length by omega]
    rfl
  | succ d ih =>
    intro i hi
    have hw : wrap64 ((i : Int) + 1) = ((i + 1 : Nat) : Int) := by rw [w64 (by omega) (by omega)]; omega
    have h := ih (i + 1) (by omega)
    rw [List.range_succ, List.map_append] at h
    have h2 := nest_l1 rs hrs (rd_T65 rs (i : Int)).f0 (rd_T65 rs (i : Int)).f1 ((List.range i).map fun i : Nat => cnt (rd_T65 rs (i : Int)).f0 i rs 0 0) (by simp; omega) i rs.length 0 0 (counts rs) (by omega) (by omega) (by omega) (by rw [List.drop_zero, hw]; exact h)
    refine Ev.step (fun k => ?_) h2
    simp only [impl_Nesting.l0]
    rw [if_pos (by omega), if_pos (by omega), if_pos (by omega)]
    rfl
theorem impl_nest (rs : List S65) : Ev (fun k => impl_Nesting.f k rs) (if ringsB rs = true then counts rs else []) := by
  unfold impl_Nesting.f
  refine Ev.bind (impl_rings rs) ?_
  by_cases h : ringsB rs = true
  · simp only [h, if_true]
    exact nest_l0 rs (by have := ringsB_len h; omega) rs.length 0 (by omega)
  · simp only [h, if_false, Bool.false_eq_true]
    exact Ev.now _

/-- Twice the area that the stretches from place j on sweep, on top of t. -/
def twice (l : List S28) : Nat → Int → Nat → Int
  | 0, t, _ => t
  | d + 1, t, j => twice l d (t + ((rd_T28 l ((j : Int) - 1)).f0 * (rd_T28 l j).f1 - (rd_T28 l j).f0 * (rd_T28 l ((j : Int) - 1)).f1)) (j + 1)
theorem step_bd {ax ay bx by_ : Int} (ha : OkP ax ay) (hb : OkP bx by_) : (-100000000000000 ≤ ax * by_ ∧ ax * by_ ≤ 100000000000000) ∧ (-100000000000000 ≤ bx * ay ∧ bx * ay ≤ 100000000000000) := by
  unfold OkP at ha hb
  have h1 := mul_bd (p := ax) (q := by_) (B := 10000000) (C := 10000000) (by omega) (by omega) (by omega) (by omega)
  have h2 := mul_bd (p := bx) (q := ay) (B := 10000000) (C := 10000000) (by omega) (by omega) (by omega) (by omega)
  exact ⟨by omega, by omega⟩
theorem impl_twice (l : List S28) (h : rowB l = true) (d : Nat) : ∀ (j : Nat) (t : Int), 1 ≤ j → j + d = max l.length 1 → -200000000000000 * (j : Int) ≤ t → t ≤ 200000000000000 * (j : Int) → Ev (fun k => impl_AreaTwice.l0 k l t j) (twice l d t j) := by
  have h2 := rowB_len h
  induction d with
  | zero =>
    intro j t hj hd h0 h1
    refine Ev.step (fun k => ?_) (Ev.now _)
    simp only [impl_AreaTwice.l0]
    rw [if_neg (by omega)]
    rfl
  | succ d ih =>
    intro j t hj hd h0 h1
    obtain ⟨j, rfl⟩ : ∃ m, j = m + 1 := ⟨j - 1, by omega⟩
    have hlt : j + 1 < l.length := by omega
    have e1 : (((j + 1 : Nat) : Int) - 1) = (j : Int) := by omega
    have bd := step_bd (rowB_get h (show j < l.length by omega)) (rowB_get h hlt)
    have hr1 : rd_T28 l (j : Int) = l[j] := rdP (by omega)
    have hr2 : rd_T28 l ((j + 1 : Nat) : Int) = l[j + 1] := rdP hlt
    unfold twice
    rw [e1, hr1, hr2]
    refine Ev.step (fun k => ?_) (ih (j + 1 + 1) _ (by omega) (by omega) ?_ ?_)
    · simp only [impl_AreaTwice.l0]
      have w1 : wrap64 (((j + 1 : Nat) : Int) - 1) = (j : Int) := by rw [w64 (by omega) (by omega)]; omega
      rw [w1, if_pos (by omega), if_pos (by omega), if_pos (by omega), if_pos (by omega), hr1, hr2]
      rw [w64 (n := l[j].f0 * l[j + 1].f1) (by omega) (by omega), w64 (n := l[j + 1].f0 * l[j].f1) (by omega) (by omega), w64 (n := l[j].f0 * l[j + 1].f1 - l[j + 1].f0 * l[j].f1) (by omega) (by omega), w64 (n := t + (l[j].f0 * l[j + 1].f1 - l[j + 1].f0 * l[j].f1)) (by omega) (by omega), w64 (n := ((j + 1 : Nat) : Int) + 1) (by omega) (by omega)]
      rfl
    · omega
    · omega
/-- What AreaTwice answers. -/
def area (l : List S28) : Int := if rowB l = true then twice l (l.length - 1) 0 1 else 0
theorem impl_area (l : List S28) : Ev (fun k => impl_AreaTwice.f k l) (area l) := by
  unfold impl_AreaTwice.f area
  refine Ev.bind (impl_row l) ?_
  by_cases h : rowB l = true
  · simp only [h, if_true]
    exact impl_twice l h (l.length - 1) 1 0 (by omega) (by omega) (by omega) (by omega)
  · simp only [h, if_false]
    exact Ev.now _

theorem turned_is (row : List S28) (hl : row.length ≤ 3000) (d : Nat) : ∀ (o : List S28), d ≤ row.length → o.length + d ≤ 3000 →
    Ev (fun k => impl_turnedRound.l0 k row o ((d : Int) - 1)) (o ++ (row.take d).reverse) := by
  induction d with
  | zero =>
    intro o hd ho
    refine Ev.step (fun k => ?_) (Ev.now _)
    simp only [impl_turnedRound.l0]
    rw [if_neg (by omega)]
    simp
  | succ d ih =>
    intro o hd ho
    have hlt : d < row.length := by omega
    have e : (((d + 1 : Nat) : Int) - 1) = (d : Int) := by omega
    have h := ih (o ++ [row[d]]) (by omega) (by simp; omega)
    rw [List.append_assoc, List.singleton_append, ← List.reverse_concat, ← take_next row hlt] at h
    rw [e]
    refine Ev.step (fun k => ?_) h
    simp only [impl_turnedRound.l0]
    rw [if_pos (by omega), if_pos (by omega), if_pos (by omega), if_pos (by omega), rdP hlt, w64 (by omega) (by omega)]
theorem turned_round (row : List S28) (hl : row.length ≤ 3000) : Ev (fun k => impl_turnedRound.f k row) row.reverse := by
  have h := turned_is row hl row.length [] (Nat.le_refl _) (by simpa using hl)
  rw [List.nil_append, List.take_length] at h
  refine Ev.congr (fun k => ?_) h
  unfold impl_turnedRound.f
  rw [if_pos (by omega), if_pos (by omega), w64 (by omega) (by omega)]
def TurnR (r s : S65) : Prop := s.f0 = r.f0 ∨ s.f0 = r.f0.reverse
inductive Turns : List S65 → List S65 → Prop
  | nil : Turns [] []
  | cons {r s l m} : TurnR r s → Turns l m → Turns (r :: l) (s :: m)
theorem orient_loop (rs : List S65) (h : ringsB rs = true) (d : Nat) : ∀ (i : Nat) (os : List S65), i + d = rs.length → os.length ≤ i →
    ∃ ts, Turns (rs.drop i) ts ∧ Ev (fun k => impl_Orient.l0 k os rs (rs.length : Int) i) (os ++ ts) := by
  have hlen := ringsB_len h
  induction d with
  | zero =>
    intro i os hi ho
    refine ⟨[], by rw [List.drop_eq_nil_of_le (by omega)]; exact .nil, Ev.step (fun k => ?_) (Ev.now _)⟩
    simp only [impl_Orient.l0]
    rw [if_neg (by omega), List.append_nil]
  | succ d ih =>
    intro i os hi ho
    have hlt : i < rs.length := by omega
    have hrow : rs[i].f0.length ≤ 2000 := rowB_len (ringsB_get h (List.getElem_mem hlt))
    have hw : wrap64 ((i : Int) + 1) = ((i + 1 : Nat) : Int) := by rw [w64 (by omega) (by omega)]; omega
    rw [List.drop_eq_getElem_cons hlt]
    have fin : ∀ (q : List S28), TurnR rs[i] (⟨q, rs[i].f1⟩ : S65) → ∃ ts, Turns (rs[i] :: rs.drop (i + 1)) ts ∧ Ev (fun k => impl_Orient.l0 k (os ++ [(⟨q, rs[i].f1⟩ : S65)]) rs (rs.length : Int) ((i + 1 : Nat) : Int)) (os ++ ts) := by
      intro q hq
      obtain ⟨ts, h1, h2⟩ := ih (i + 1) (os ++ [(⟨q, rs[i].f1⟩ : S65)]) (by omega) (by simp; omega)
      refine ⟨(⟨q, rs[i].f1⟩ : S65) :: ts, .cons hq h1, ?_⟩
      rw [List.append_assoc, List.singleton_append] at h2
      exact h2
    obtain ⟨t1, T1, E1⟩ := fin rs[i].f0 (.inl rfl)
    obtain ⟨t2, T2, E2⟩ := fin rs[i].f0.reverse (.inr rfl)
    have e0 : (([] : List S28).length + rs[i].f0.length < 8796093022208) = True := by simp; omega
    have e1 : (os.length < 4398046511104) = True := by simp; omega
    have ha := impl_area rs[i].f0
    have p0 : (i : Int) < (rs.length : Int) := by omega
    have p1 : (0 : Int) ≤ (i : Int) := by omega
    have keep : Ev (fun k => impl_Orient.l0 k (os ++ [(⟨rs[i].f0, rs[i].f1⟩ : S65)]) rs (rs.length : Int) ((i + 1 : Nat) : Int)) (os ++ t1) := E1
    have turn : Ev (fun k => (impl_turnedRound.f k rs[i].f0).bind fun t => impl_Orient.l0 k (os ++ [(⟨t, rs[i].f1⟩ : S65)]) rs (rs.length : Int) ((i + 1 : Nat) : Int)) (os ++ t2) := Ev.bind (turned_round _ (by omega)) E2
    obtain ⟨K, hK⟩ := ha
    by_cases ht : (area rs[i].f0 > 0 ∧ rs[i].f1 = true) ∨ (area rs[i].f0 < 0 ∧ ¬ rs[i].f1 = true)
    · refine ⟨t2, T2, ?_⟩
      obtain ⟨K2, hK2⟩ := turn
      refine ⟨K + K2 + 1, fun m hm => ?_⟩
      obtain ⟨k, rfl⟩ : ∃ k, m = k + 1 := ⟨m - 1, by omega⟩
      have a := hK k (by omega)
      have b := hK2 k (by omega)
      simp only at a b
      simp only [impl_Orient.l0, rdR hlt, e0, e1, if_true, hw, if_pos p0, if_pos p1, List.nil_append, Option.bind_some, a]
      rcases ht with ⟨u, v⟩ | ⟨u, v⟩
      · rw [if_pos u, if_pos v]; exact b
      · rw [if_neg (by omega), if_pos u, if_neg v]; exact b
    · refine ⟨t1, T1, ?_⟩
      obtain ⟨K2, hK2⟩ := keep
      refine ⟨K + K2 + 1, fun m hm => ?_⟩
      obtain ⟨k, rfl⟩ : ∃ k, m = k + 1 := ⟨m - 1, by omega⟩
      have a := hK k (by omega)
      have b := hK2 k (by omega)
      simp only at a b
      simp only [impl_Orient.l0, rdR hlt, e0, e1, if_true, hw, if_pos p0, if_pos p1, List.nil_append, Option.bind_some, a]
      by_cases u : area rs[i].f0 > 0
      · have v : ¬ rs[i].f1 = true := fun v => ht (.inl ⟨u, v⟩)
        rw [if_pos u, if_neg v, if_neg (by omega)]; exact b
      · by_cases u2 : area rs[i].f0 < 0
        · have v : rs[i].f1 = true := Decidable.byContradiction fun v => ht (.inr ⟨u2, v⟩)
          rw [if_neg u, if_pos u2, if_pos v]; exact b
        · rw [if_neg u, if_neg u2]; exact b
theorem impl_orient (rs : List S65) (h : ringsB rs = true) : ∃ ts, Turns rs ts ∧ Ev (fun k => impl_Orient.f k rs) ts := by
  obtain ⟨ts, h1, h2⟩ := orient_loop rs h rs.length 0 [] (by omega) (by simp)
  refine ⟨ts, by rw [List.drop_zero] at h1; exact h1, ?_⟩
  unfold impl_Orient.f
  refine Ev.bind (impl_rings rs) ?_
  simp only [h, if_true]
  exact h2

theorem all_ok_loop (l : List S28) (hl : l.length ≤ 3000) (d : Nat) : ∀ j : Nat, j + d = l.length → Ev (fun k => laws_allOk.l0 k l (j : Int)) ((l.drop j).all okB) := by
  induction d with
  | zero =>
    intro j hj
    rw [List.drop_of_length_le (by omega), List.all_nil]
    refine Ev.step (fun k => ?_) (Ev.now _)
    simp only [laws_allOk.l0]
    rw [if_neg (by omega)]
  | succ d ih =>
    intro j hj
    have hlt : j < l.length := by omega
    rw [all_drop _ _ hlt]
    cases hb : okB l[j] with
    | false =>
      rw [Bool.false_and]
      refine Ev.step (fun k => ?_) (Ev.now _)
      simp only [laws_allOk.l0, impl_ok, rdP hlt, Option.bind_some]
      unfold okB at hb
      rw [if_pos (by omega), if_pos (by omega), hb, if_neg (by simp)]
    | true =>
      rw [Bool.true_and]
      refine Ev.step (fun k => ?_) (ih (j + 1) (by omega))
      simp only [laws_allOk.l0, impl_ok, rdP hlt, Option.bind_some]
      unfold okB at hb
      rw [if_pos (by omega), if_pos (by omega), hb, if_pos rfl, w64 (by omega) (by omega)]
      rfl
theorem all_ok (l : List S28) (hl : l.length ≤ 3000) : Ev (fun k => laws_allOk.f k l) (l.all okB) := all_ok_loop l hl l.length 0 (by omega)
theorem closed_some (l : List S28) (hl : l.length ≤ 3000) : ∃ b, laws_closed.f l = some b := by
  unfold laws_closed.f
  by_cases h : (l.length : Int) = 0
  · rw [if_pos h]; exact ⟨_, rfl⟩
  · rw [if_neg h, if_pos (by omega), w64 (by omega) (by omega), if_pos (by omega), if_pos (by omega)]; exact ⟨_, rfl⟩

theorem Turns.len {l m : List S65} (h : Turns l m) : m.length = l.length := by
  induction h with
  | nil => rfl
  | cons _ _ ih => simp [ih]
theorem Turns.get {l m : List S65} (h : Turns l m) : ∀ (i : Nat) (h1 : i < l.length) (h2 : i < m.length), TurnR l[i] m[i] := by
  induction h with
  | nil => intro i h1; simp at h1
  | cons hr _ ih =>
    intro i h1 h2
    cases i with
    | zero => exact hr
    | succ i => exact ih i (by simpa using h1) (by simpa using h2)
theorem TurnR.rowB {r s : S65} (h : TurnR r s) : rowB s.f0 = rowB r.f0 := by
  rcases h with h | h <;> rw [h]
  exact rowB_reverse _
theorem Turns.rings {l m : List S65} (h : Turns l m) : ringsB m = ringsB l := by
  unfold ringsB
  rw [h.len]
  congr 1
  induction h with
  | nil => rfl
  | cons hr _ ih => simp only [List.all_cons, ih, hr.rowB]
theorem TurnR.inside {r s : S65} (h : TurnR r s) (px py : Int) : insideN [s] px py = insideN [r] px py := by
  obtain ⟨a, b⟩ := r
  obtain ⟨c, d⟩ := s
  rcases h with h | h
  · simp only at h; subst h; exact inside_flag _ _ _ _ _
  · simp only at h; subst h; exact inside_turned _ _ _ _ _
/-- A closed row. -/
def closedB (row : List S28) : Bool := decide (row.length = 0) || ((rd_T28 row 0).f0 == (rd_T28 row ((row.length : Int) - 1)).f0 && ((rd_T28 row 0).f1 == (rd_T28 row ((row.length : Int) - 1)).f1))
theorem closed_is (row : List S28) (hl : row.length ≤ 3000) : laws_closed.f row = some (closedB row) := by
  unfold laws_closed.f closedB
  by_cases h : row.length = 0
  · rw [if_pos (by omega), decide_eq_true h, Bool.true_or]
  · rw [if_neg (by omega), if_pos (by omega), w64 (by omega) (by omega), if_pos (by omega), if_pos (by omega), decide_eq_false h, Bool.false_or]
theorem TurnR.first {r s : S65} (h : TurnR r s) (hc : closedB r.f0 = true) (h0 : 0 < r.f0.length) : (rd_T28 s.f0 0).f0 = (rd_T28 r.f0 0).f0 ∧ (rd_T28 s.f0 0).f1 = (rd_T28 r.f0 0).f1 := by
  rcases h with h | h
  · rw [h]; exact ⟨rfl, rfl⟩
  · rw [h]
    unfold closedB at hc
    rw [decide_eq_false (by omega), Bool.false_or, Bool.and_eq_true, beq_iff_eq, beq_iff_eq] at hc
    have e1 : rd_T28 r.f0.reverse 0 = r.f0[r.f0.length - 1] := by
      have := rdP (l := r.f0.reverse) (j := 0) (by simpa using h0)
      rw [show ((0 : Nat) : Int) = 0 from rfl] at this
      rw [this, List.getElem_reverse]
      rfl
    have e2 : rd_T28 r.f0 ((r.f0.length : Int) - 1) = r.f0[r.f0.length - 1] := by
      have := rdP (l := r.f0) (j := r.f0.length - 1) (by omega)
      rw [show (((r.f0.length - 1 : Nat)) : Int) = (r.f0.length : Int) - 1 by omega] at this
      exact this
    rw [e1, ← e2]
    exact ⟨hc.1.symm, hc.2.symm⟩
theorem cnt_turned {row row' : List S28} (hlen : row'.length = row.length) (hf : 0 < row.length → (rd_T28 row' 0).f0 = (rd_T28 row 0).f0 ∧ (rd_T28 row' 0).f1 = (rd_T28 row 0).f1) (i : Nat) {l m : List S65} (h : Turns l m) :
    ∀ (j : Nat) (n : Int), cnt row' i m j n = cnt row i l j n := by
  induction h with
  | nil => intro j n; rfl
  | cons hr _ ih =>
    intro j n
    unfold cnt
    rw [ih, hlen]
    by_cases h0 : 0 < row.length
    · rw [(hf h0).1, (hf h0).2, hr.inside]
    · rw [if_neg h0, if_neg h0]
theorem counts_turned {l m : List S65} (h : Turns l m) (hc : ∀ r ∈ l, closedB r.f0 = true) : counts m = counts l := by
  unfold counts
  rw [h.len]
  apply List.map_congr_left
  intro i hi
  have h1 : i < l.length := by simpa using hi
  have h2 : i < m.length := by rw [h.len]; exact h1
  rw [rdR h1, rdR h2]
  have hr := h.get i h1 h2
  refine cnt_turned ?_ (fun h0 => hr.first (hc _ (List.getElem_mem h1)) h0) i h 0 0
  rcases hr with e | e <;> rw [e]
  exact List.length_reverse
theorem simple_loop (rs : List S65) (hf : FewR rs) (d : Nat) : ∀ i : Nat, i + d = rs.length → Ev (fun k => laws_simple.l0 k rs (i : Int)) ((rs.drop i).all fun r => closedB r.f0) := by
  have h60 := hf.1
  induction d with
  | zero =>
    intro j hj
    rw [List.drop_of_length_le (by omega), List.all_nil]
    refine Ev.step (fun k => ?_) (Ev.now _)
    simp only [laws_simple.l0]
    rw [if_neg (by omega)]
  | succ d ih =>
    intro j hj
    have hlt : j < rs.length := by omega
    rw [all_drop _ _ hlt]
    have hc := closed_is rs[j].f0 (hf.2 _ (List.getElem_mem hlt))
    cases hb : closedB rs[j].f0 with
    | false =>
      rw [Bool.false_and]
      refine Ev.step (fun k => ?_) (Ev.now _)
      simp only [laws_simple.l0, rdR hlt, hc, Option.bind_some]
      rw [if_pos (by omega), if_pos (by omega), hb, if_neg (by simp)]
    | true =>
      rw [Bool.true_and]
      refine Ev.step (fun k => ?_) (ih (j + 1) (by omega))
      simp only [laws_simple.l0, rdR hlt, hc, Option.bind_some]
      rw [if_pos (by omega), if_pos (by omega), hb, if_pos rfl, w64 (by omega) (by omega)]
      rfl
theorem rows_loop (rs : List S65) (hf : FewR rs) (d : Nat) : ∀ i : Nat, i + d = rs.length → Ev (fun k => laws_rowsOk.l0 k rs (i : Int)) ((rs.drop i).all fun r => rowB r.f0) := by
  have h60 := hf.1
  induction d with
  | zero =>
    intro j hj
    rw [List.drop_of_length_le (by omega), List.all_nil]
    refine Ev.step (fun k => ?_) (Ev.now _)
    simp only [laws_rowsOk.l0]
    rw [if_neg (by omega)]
  | succ d ih =>
    intro j hj
    have hlt : j < rs.length := by omega
    rw [all_drop _ _ hlt]
    by_cases hl : rs[j].f0.length ≤ 2000
    · have ev : Ev (fun k => (laws_allOk.f k rs[j].f0).bind fun t => if t = true then laws_rowsOk.l0 k rs ((j + 1 : Nat) : Int) else some false) (rowB rs[j].f0 && (rs.drop (j + 1)).all fun r => rowB r.f0) := by
        refine Ev.bind (all_ok _ (by omega)) ?_
        unfold rowB
        rw [decide_eq_true hl, Bool.true_and]
        by_cases hb : rs[j].f0.all okB = true
        · simp only [hb, if_true, Bool.true_and]
          exact ih (j + 1) (by omega)
        · simp only [hb, if_false, Bool.false_eq_true, Bool.false_and]
          exact Ev.now _
      refine Ev.step (fun k => ?_) ev
      simp only [laws_rowsOk.l0, rdR hlt]
      rw [if_pos (by omega), if_pos (by omega), if_neg (by omega), w64 (by omega) (by omega)]
      rfl
    · have hb : rowB rs[j].f0 = false := by unfold rowB; rw [decide_eq_false hl, Bool.false_and]
      rw [hb, Bool.false_and]
      refine Ev.step (fun k => ?_) (Ev.now _)
      simp only [laws_rowsOk.l0, rdR hlt]
      rw [if_pos (by omega), if_pos (by omega), if_pos (by omega)]

theorem draw_nesting {l : List Int} (hl : Bytes l) (k : Nat) (hk : l.length + 110 < k) : ∃ rs, spec_DrawNesting.f k l = some rs ∧ FewR rs := by
  unfold spec_DrawNesting.f
  obtain ⟨h0, e0⟩ := draw_new hl (k := k) (by omega)
  rw [e0]; simp only [Option.bind_some]
  obtain ⟨rs, i1, h1, e1, f1, c1⟩ := draw_rings hl (h := h0) (Int.le_refl 0) k (by omega)
  rw [e1]; simp only [Option.bind_some]
  exact ⟨rs, rfl, f1⟩
theorem same_ints (a c : List Int) (hl : a.length = c.length) (h60 : a.length ≤ 60) (d : Nat) : ∀ j : Nat, j + d = a.length → ∃ b, Ev (fun k => laws_sameInts.l0 k a c (j : Int)) b ∧ (a = c → b = true) := by
  induction d with
  | zero =>
    intro j hj
    refine ⟨true, Ev.step (fun k => ?_) (Ev.now _), fun _ => rfl⟩
    simp only [laws_sameInts.l0]
    rw [if_neg (by omega)]
  | succ d ih =>
    intro j hj
    by_cases e : rd a (j : Int) = rd c (j : Int)
    · obtain ⟨b, h1, h2⟩ := ih (j + 1) (by omega)
      refine ⟨b, Ev.step (fun k => ?_) h1, h2⟩
      simp only [laws_sameInts.l0]
      rw [if_pos (by omega), if_pos (by omega), if_pos (by omega), if_pos e, w64 (by omega) (by omega)]
      rfl
    · refine ⟨false, Ev.step (fun k => ?_) (Ev.now _), fun h => absurd (by rw [h]) e⟩
      simp only [laws_sameInts.l0]
      rw [if_pos (by omega), if_pos (by omega), if_pos (by omega), if_neg e]
theorem counts_len (rs : List S65) : (counts rs).length = rs.length := by unfold counts; simp
theorem counts_rd (rs : List S65) {i : Nat} (hi : i < rs.length) : rd (counts rs) (i : Int) = cnt rs[i].f0 i rs 0 0 := by
  rw [← rdR hi]
  unfold rd counts
  simp [hi]
theorem cut_one (rs : List S65) {j : Nat} (h : j < rs.length) : (rs.take (j + 1)).drop j = [rs[j]] := by
  rw [List.drop_take, Nat.add_sub_cancel_left, List.drop_eq_getElem_cons h]
  rfl
theorem law_l1 (rs : List S65) (hf : FewR rs) (i : Nat) (hi : i < rs.length) (hc : Ev (fun k => laws_FnNests.l0 k rs (counts rs) ((i + 1 : Nat) : Int)) true) (d : Nat) : ∀ (j : Nat) (n : Int), j + d = rs.length → 0 ≤ n → n ≤ j →
    cnt rs[i].f0 i (rs.drop j) j n = rd (counts rs) (i : Int) → Ev (fun k => laws_FnNests.l1 k rs (counts rs) i n j) true := by
  have h60 := hf.1
  have hwi : wrap64 ((i : Int) + 1) = ((i + 1 : Nat) : Int) := by rw [w64 (by omega) (by omega)]; omega
  have hcl := counts_len rs
  induction d with
  | zero =>
    intro j n hj h0 h1 h
    rw [List.drop_eq_nil_of_le (by omega)] at h
    refine Ev.step (fun k => ?_) hc
    simp only [laws_FnNests.l1]
    have h : n = rd (counts rs) (i : Int) := h
    rw [if_neg (by omega), if_pos (by omega), if_pos (by omega), if_pos h, hwi]
  | succ d ih =>
    intro j n hj h0 h1 h
    have hlt : j < rs.length := by omega
    rw [List.drop_eq_getElem_cons hlt] at h
    unfold cnt at h
    have hw : wrap64 ((j : Int) + 1) = ((j + 1 : Nat) : Int) := by rw [w64 (by omega) (by omega)]; omega
    have hwn : wrap64 (n + 1) = n + 1 := w64 (by omega) (by omega)
    by_cases hij : i = j
    · rw [if_pos hij] at h
      refine Ev.step (fun k => ?_) (ih (j + 1) n (by omega) h0 (by omega) h)
      simp only [laws_FnNests.l1]
      rw [if_pos (by omega), if_pos (by omega), hw]
    · rw [if_neg hij] at h
      by_cases hr : 0 < rs[i].f0.length
      · rw [if_pos hr] at h
        refine Ev.step (f := fun k => (impl_Inside.f k [rs[j]] (rd_T28 rs[i].f0 0).f0 (rd_T28 rs[i].f0 0).f1).bind fun t => if t = 1 then laws_FnNests.l1 k rs (counts rs) i (n + 1) ((j + 1 : Nat) : Int) else laws_FnNests.l1 k rs (counts rs) i n ((j + 1 : Nat) : Int)) (fun k => ?_) (Ev.bind (impl_inside _ _ _) ?_)
        · simp only [laws_FnNests.l1]
          rw [rdR hi, if_pos (by omega), if_neg (by omega), if_pos (by omega), if_pos (by omega), if_pos (by omega), if_pos (by omega), hw, hwn, if_pos (by omega), if_pos (by omega), if_pos (by omega), Int.toNat_natCast, Int.toNat_natCast, cut_one rs hlt]
        · by_cases hin : insideN [rs[j]] (rd_T28 rs[i].f0 0).f0 (rd_T28 rs[i].f0 0).f1 = 1
          · rw [if_pos hin] at h
            have := ih (j + 1) (n + 1) (by omega) (by omega) (by omega) h
            simp only [hin, if_true]
            exact this
          · rw [if_neg hin] at h
            have := ih (j + 1) n (by omega) h0 (by omega) h
            simp only [hin, if_false]
            exact this
      · rw [if_neg hr] at h
        refine Ev.step (fun k => ?_) (ih (j + 1) n (by omega) h0 (by omega) h)
        simp only [laws_FnNests.l1]
        rw [rdR hi, if_pos (by omega), if_neg (by omega), if_pos (by omega), if_pos (by omega), if_neg (by omega), hw]
theorem law_end (rs : List S65) (hf : FewR rs) (hb : ringsB rs = true) : Ev (fun k => laws_FnNests.l0 k rs (counts rs) (rs.length : Int)) true := by
  obtain ⟨ts, hT, hO⟩ := impl_orient rs hb
  have hN := impl_nest ts
  rw [hT.rings, if_pos hb] at hN
  have hl : (counts ts).length = (counts rs).length := by rw [counts_len, counts_len, hT.len]
  have h60 := hf.1
  obtain ⟨b, hs, hsb⟩ := same_ints (counts ts) (counts rs) hl (by rw [counts_len, hT.len]; exact h60) (counts ts).length 0 (by omega)
  have hs' : Ev (fun k => laws_sameInts.f k (counts ts) (counts rs)) b := by
    refine Ev.congr (fun k => ?_) hs
    unfold laws_sameInts.f
    rw [if_pos (by omega)]
    rfl
  have hS := simple_loop rs hf rs.length 0 (by omega)
  rw [List.drop_zero] at hS
  refine Ev.step (f := fun k => (impl_Orient.f k rs).bind fun t403 => ((impl_Nesting.f k t403).bind fun t406 => ((laws_sameInts.f k t406 (counts rs)).bind fun t409 => (if t409 = true then (some true) else ((laws_simple.f k rs).bind fun t410 => (some (!t410))))))) (fun k => ?_) (Ev.bind hO (Ev.bind hN (Ev.bind hs' ?_)))
  · simp only [laws_FnNests.l0]
    rw [if_neg (by omega)]
  · cases hb2 : b with
    | true => simp only [if_true]; exact Ev.now _
    | false =>
      simp only [Bool.false_eq_true, if_false]
      have hno : (rs.all fun r => closedB r.f0) = false := by
        cases hA : rs.all fun r => closedB r.f0 with
        | false => rfl
        | true =>
          rw [List.all_eq_true] at hA
          have := hsb (counts_turned hT hA)
          rw [hb2] at this
          exact absurd this (by simp)
      rw [hno] at hS
      exact Ev.bind (g := fun k => laws_simple.f k rs) hS (Ev.now _)
theorem law_l0 (rs : List S65) (hf : FewR rs) (hb : ringsB rs = true) (d : Nat) : ∀ i : Nat, i + d = rs.length → Ev (fun k => laws_FnNests.l0 k rs (counts rs) (i : Int)) true := by
  induction d with
  | zero =>
    intro i hi
    rw [show i = rs.length by omega]
    exact law_end rs hf hb
  | succ d ih =>
    intro i hi
    have hlt : i < rs.length := by omega
    refine Ev.step (fun k => ?_) (law_l1 rs hf i hlt (ih (i + 1) (by omega)) rs.length 0 0 (by omega) (by omega) (by omega) (by rw [List.drop_zero]; exact (counts_rd rs hlt).symm))
    simp only [laws_FnNests.l0]
    rw [if_pos (by omega)]
    rfl
theorem FnNests : laws_FnNests.Pure := by
  intro l hm hl hb
  have hl' : Bytes l := by unfold Bytes; omega
  suffices h : Ev (fun k => laws_FnNests.f k l) true from h.rounds
  unfold laws_FnNests.f laws_big.f
  simp only [Option.bind_some, decide_eq_true_eq]
  by_cases hbig : (l.length : Int) > 1048576
  · simp only [if_pos hbig]; exact Ev.now _
  · simp only [if_neg hbig]
    obtain ⟨rs, e0, f0⟩ := draw_nesting hl' (l.length + 111) (by omega)
    refine Ev.bind (Ev.of (fun k => spec_DrawNesting.mono l k) e0) ?_
    refine Ev.bind (impl_nest rs) ?_
    refine Ev.bind (impl_nest [(⟨([] : List S28), false⟩ : S65)]) ?_
    have e1 : (if ringsB [(⟨([] : List S28), false⟩ : S65)] = true then counts [(⟨([] : List S28), false⟩ : S65)] else []).length = 1 := by decide +kernel
    simp only [e1]
    by_cases h : ringsB rs = true
    · simp only [h, if_true]
      by_cases h0 : rs.length = 0
      · simp only [counts_len, h0]
        exact Ev.now _
      · simp only [counts_len, if_neg (show ¬ (rs.length : Int) = 0 by omega)]
        exact law_l0 rs f0 h rs.length 0 (by omega)
    · simp only [h, if_false, Bool.false_eq_true]
      by_cases h0 : (rs.length : Int) = 0
      · simp only [h0]
        exact Ev.now _
      · simp only [if_neg h0]
        by_cases h40 : (rs.length : Int) > 40
        · simp only [if_pos h40]
          exact Ev.now _
        · simp only [if_neg h40]
          have hR := rows_loop rs f0 rs.length 0 (by omega)
          rw [List.drop_zero] at hR
          have hno : (rs.all fun r => rowB r.f0) = false := by
            cases hA : rs.all fun r => rowB r.f0 with
            | false => rfl
            | true => exact absurd (by unfold ringsB; rw [hA, Bool.and_true]; exact decide_eq_true (by omega)) h
          rw [hno] at hR
          exact Ev.bind (g := fun k => laws_rowsOk.f k rs) hR (Ev.now _)

end Go.Proofs.Ytolejglfohagnaa.Pure
