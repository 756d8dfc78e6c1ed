/- A point is inside of all rings together just where it is inside of an odd number of them alone, on none: the law answers true at every draw. -/
import Derived.Test.YtolejglfohagnaaQFnEvenOddx10
import Derived.Test.YtolejglfohagnaaVFnEvenOdda
namespace Go.Proofs.Ytolejglfohagnaa.Pure
open Go.RowKit Go.Proofs.Ytolejglfohagnaa.PFnEvenOdd Go.Proofs.YtolejglfohagnaaW.PrintWords Go.Proofs.YtolejglfohagnaaW.PrintLast Go.Proofs.YtolejglfohagnaaW.PrintMore Go.Proofs.YtolejglfohagnaaW.Math
set_option linter.unusedVariables false
set_option linter.unusedSimpArgs false

theorem wrap64_id {n : Int} (h : -9223372036854775808 ≤ n ∧ n ≤ 9223372036854775807) : wrap64 n = n := w64 h.1 h.2
theorem wrap64_bd (n : Int) : -9223372036854775808 ≤ wrap64 n ∧ wrap64 n ≤ 9223372036854775807 := by unfold wrap64; omega
/-- A draw's bytes. -/
def Bytes (l : List Int) : Prop := l.length ≤ 9223372036854775807
theorem draw_byte {l : List Int} (hl : Bytes l) {i h : Int} (hi : 0 ≤ i) : ∃ x i' h', spec_l1Byte.f l i h = some (x, i', h') ∧ 0 ≤ x ∧ x ≤ 255 ∧ 0 ≤ i' := by
  unfold Bytes at hl
  unfold spec_l1Byte.f
  by_cases hlt : i < (l.length : Int)
  · rw [if_pos hlt, if_pos hi]
    refine ⟨_, _, _, rfl, ?_, ?_, ?_⟩
    · exact (and_mask _ 255 (by omega) (by omega)).1
    · exact (and_mask _ 255 (by omega) (by omega)).2
    · rw [w64 (by omega) (by omega)]; omega
  · rw [if_neg hlt]
    refine ⟨_, _, _, rfl, ?_, ?_, hi⟩
    · exact (and_mask _ 255 (by omega) (by omega)).1
    · exact (and_mask _ 255 (by omega) (by omega)).2
theorem draw_below {l : List Int} (hl : Bytes l) {i h n : Int} (hi : 0 ≤ i) (hn : 0 < n) : ∃ x i' h', spec_l1Below.f l i h n = some (x, i', h') ∧ 0 ≤ x ∧ x < n ∧ 0 ≤ i' := by
  unfold spec_l1Below.f
  rw [if_neg (by omega)]
  by_cases h256 : n ≤ 256
  · rw [if_pos h256]
    obtain ⟨x, i', h', e, x0, x1, i0⟩ := draw_byte hl (h := h) hi
    rw [e]
    simp only [Option.bind_some]
    rw [if_neg (by omega)]
    refine ⟨_, _, _, rfl, ?_, ?_, i0⟩
    · rw [Int.tmod_eq_emod_of_nonneg x0]; exact Int.emod_nonneg _ (by omega)
    · rw [Int.tmod_eq_emod_of_nonneg x0]; exact Int.emod_lt_of_pos _ hn
  · rw [if_neg h256]
    obtain ⟨x1, i1, h1, e1, a1, b1, c1⟩ := draw_byte hl (h := h) hi
    obtain ⟨x2, i2, h2, e2, a2, b2, c2⟩ := draw_byte hl (h := h1) c1
    obtain ⟨x3, i3, h3, e3, a3, b3, c3⟩ := draw_byte hl (h := h2) c2
    obtain ⟨x4, i4, h4, e4, a4, b4, c4⟩ := draw_byte hl (h := h3) c3
    rw [e1]
    simp only [Option.bind_some]
    rw [e2]
    simp only [Option.bind_some]
    rw [e3]
    simp only [Option.bind_some]
    rw [e4]
    simp only [Option.bind_some]
    rw [if_neg (by omega), w64 (n := x1 * 16777216) (by omega) (by omega), w64 (n := x2 * 65536) (by omega) (by omega), w64 (n := x3 * 256) (by omega) (by omega), w64 (n := x1 * 16777216 + x2 * 65536) (by omega) (by omega), w64 (n := x1 * 16777216 + x2 * 65536 + x3 * 256) (by omega) (by omega), w64 (by omega) (by omega)]
    have hx : 0 ≤ x1 * 16777216 + x2 * 65536 + x3 * 256 + x4 := by omega
    refine ⟨_, _, _, rfl, ?_, ?_, c4⟩
    · rw [Int.tmod_eq_emod_of_nonneg hx]; exact Int.emod_nonneg _ (by omega)
    · rw [Int.tmod_eq_emod_of_nonneg hx]; exact Int.emod_lt_of_pos _ hn
theorem draw_below0 (l : List Int) (i h : Int) {n : Int} (hn : n ≤ 0) : spec_l1Below.f l i h n = some (0, i, h) := by
  unfold spec_l1Below.f
  rw [if_pos hn]
theorem new_loop (l : List Int) (hl : Bytes l) (d : Nat) : ∀ (k : Nat) (h : Int) (j : Nat), j + d = l.length → d < k → ∃ h', spec_l1New.l0 k l h j = some (l, 0, h') := by
  unfold Bytes at hl
  induction d with
  | zero =>
    intro k h j hj hk
    obtain ⟨k, rfl⟩ : ∃ m, k = m + 1 := ⟨k - 1, by omega⟩
    exact ⟨h, by simp only [spec_l1New.l0]; rw [if_neg (by omega)]⟩
  | succ d ih =>
    intro k h j hj hk
    obtain ⟨k, rfl⟩ : ∃ m, k = m + 1 := ⟨k - 1, by omega⟩
    obtain ⟨h', e⟩ := ih k (Go.bits .and .i64 (wrap64 ((wrap64 ((wrap64 (h * 149)) + (wrap64 (rd l j)))) + 3)) 1073741823) (j + 1) (by omega) (by omega)
    refine ⟨h', ?_⟩
    simp only [spec_l1New.l0]
    rw [if_pos (by omega), if_pos (by omega), w64 (n := (j : Int) + 1) (by omega) (by omega)]
    exact e
theorem draw_new {l : List Int} (hl : Bytes l) {k : Nat} (hk : l.length < k) : ∃ h, spec_l1New.f k l = some (l, 0, h) := by
  unfold spec_l1New.f
  exact new_loop l hl l.length k _ 0 (by omega) hk

theorem draw_once {l : List Int} (hl : Bytes l) {i h n : Int} (hi : 0 ≤ i) (hn : 0 < n) : ∃ b i' h', spec_l1Once.f l i h n = some (b, i', h') ∧ 0 ≤ i' := by
  obtain ⟨x, i', h', e, _, _, i0⟩ := draw_below hl (h := h) hi hn
  unfold spec_l1Once.f
  rw [e]
  exact ⟨_, _, _, rfl, i0⟩

/-- What a draw gives for a coordinate. -/
def Near62 (x : Int) : Prop := -4611686018427387904 ≤ x ∧ x ≤ 10000001
theorem draw_point {l : List Int} (hl : Bytes l) {k : Nat} {i h : Int} (hi : 0 ≤ i) : ∃ x y i' h', spec_l1DrawPoint.f (k + 1) l i h = some (x, y, i', h') ∧ Near62 x ∧ (-10000000 ≤ y ∧ y ≤ 10000000) ∧ 0 ≤ i' := by
  unfold spec_l1DrawPoint.f
  obtain ⟨x, i1, h1, e1, x0, x1, c1⟩ := draw_below hl (h := h) (n := 41) hi (by omega)
  obtain ⟨y, i2, h2, e2, y0, y1, c2⟩ := draw_below hl (h := h1) (n := 41) c1 (by omega)
  obtain ⟨z, i3, h3, e3, z0, z1, c3⟩ := draw_below hl (h := h2) (n := 12) c2 (by omega)
  rw [e1]; simp only [Option.bind_some]
  rw [e2]; simp only [Option.bind_some]
  rw [e3]; simp only [Option.bind_some]
  have key : ∀ x y : Int, Near62 x → (-10000000 ≤ y ∧ y ≤ 10000000) → ∃ x' y' i' h', spec_l1DrawPoint.j0 (k + 1) x y l i3 h3 = some (x', y', i', h') ∧ Near62 x' ∧ (-10000000 ≤ y' ∧ y' ≤ 10000000) ∧ 0 ≤ i' := by
    intro x y hx hy
    simp only [spec_l1DrawPoint.j0]
    obtain ⟨b, i4, h4, e4, c4⟩ := draw_once hl (h := h3) (n := 60) c3 (by omega)
    rw [e4]; simp only [Option.bind_some]
    cases b with
    | false => exact ⟨_, _, _, _, rfl, hx, hy, c4⟩
    | true =>
      obtain ⟨w, i5, h5, e5, w0, w1, c5⟩ := draw_below hl (h := h4) (n := 4) c4 (by omega)
      rw [if_pos rfl, e5]; simp only [Option.bind_some]
      rw [if_pos w0, if_pos (by simpa using w1)]
      refine ⟨_, _, _, _, rfl, ?_, hy, c5⟩
      rcases (show w = 0 ∨ w = 1 ∨ w = 2 ∨ w = 3 by omega) with rfl | rfl | rfl | rfl <;> (unfold Near62 rd; simp)
  have e20 : wrap64 (x - 20) = x - 20 := w64 (by omega) (by omega)
  have f20 : wrap64 (y - 20) = y - 20 := w64 (by omega) (by omega)
  rw [e20, f20, w64 (n := (x - 20) * 500000) (by omega) (by omega), w64 (n := (y - 20) * 500000) (by omega) (by omega), w64 (n := (x - 20) * 321) (by omega) (by omega), w64 (n := (y - 20) * 777) (by omega) (by omega)]
  unfold Near62 at key ⊢
  split
  · exact key _ _ (by omega) (by omega)
  · split
    · exact key _ _ (by omega) (by omega)
    · split
      · exact key _ _ (by omega) (by omega)
      · exact key _ _ (by omega) (by omega)

theorem rdP {l : List S28} {j : Nat} (h : j < l.length) : rd_T28 l (j : Int) = l[j] := by
  unfold rd_T28
  simp [List.getD_eq_getElem?_getD, h]
/-- A point of the map, as a word. -/
def okB (p : S28) : Bool := decide (OkP p.f0 p.f1)
/-- A row of the map. -/
def rowB (l : List S28) : Bool := decide (l.length ≤ 2000) && l.all okB
theorem all_drop {α : Type} (f : α → Bool) (l : List α) {j : Nat} (h : j < l.length) : (l.drop j).all f = (f l[j] && (l.drop (j + 1)).all f) := by
  rw [List.drop_eq_getElem_cons h, List.all_cons]
theorem rowB_len {l : List S28} (h : rowB l = true) : l.length ≤ 2000 := by
  unfold rowB at h
  simp at h
  exact h.1
theorem rowB_get {l : List S28} (h : rowB l = true) {j : Nat} (hj : j < l.length) : OkP l[j].f0 l[j].f1 := by
  unfold rowB okB at h
  simp at h
  exact h.2 _ (List.getElem_mem hj)

theorem rdR {l : List S65} {j : Nat} (h : j < l.length) : rd_T65 l (j : Int) = l[j] := by
  unfold rd_T65
  simp [List.getD_eq_getElem?_getD, h]
/-- Rings of the map. -/
def ringsB (l : List S65) : Bool := decide (l.length ≤ 40) && l.all (fun r => rowB r.f0)
theorem ringsB_get {l : List S65} (h : ringsB l = true) {r : S65} (hr : r ∈ l) : rowB r.f0 = true := by
  unfold ringsB at h
  rw [Bool.and_eq_true, List.all_eq_true] at h
  exact h.2 r hr
theorem ringsB_len {l : List S65} (h : ringsB l = true) : l.length ≤ 40 := by
  unfold ringsB at h
  rw [Bool.and_eq_true, decide_eq_true_eq] at h
  exact h.1

/-- Rings of a draw: not many, none long. -/
def FewR (rs : List S65) : Prop := rs.length ≤ 60 ∧ ∀ r ∈ rs, r.f0.length ≤ 3000
theorem turned_loop (l : List S28) (hl : l.length ≤ 3000) (d : Nat) : ∀ (k : Nat) (xs : List S28), d ≤ l.length → d < k → xs.length + d ≤ 3000 → ∃ ys, spec_l4Turned.l0 k l xs ((d : Int) - 1) = some ys ∧ ys.length = xs.length + d := by
  induction d with
  | zero =>
    intro k xs hd hk hx
    obtain ⟨k, rfl⟩ : ∃ m, k = m + 1 := ⟨k - 1, by omega⟩
    exact ⟨xs, by simp [spec_l4Turned.l0], rfl⟩
  | succ d ih =>
    intro k xs hd hk hx
    obtain ⟨k, rfl⟩ : ∃ m, k = m + 1 := ⟨k - 1, by omega⟩
    have e0 : (((d + 1 : Nat) : Int) - 1) = (d : Int) := by omega
    obtain ⟨ys, h1, h2⟩ := ih k (xs ++ [(⟨(rd_T28 l (d : Int)).f0, (rd_T28 l (d : Int)).f1⟩ : S28)]) (by omega) (by omega) (by rw [List.length_append, List.length_singleton]; omega)
    refine ⟨ys, ?_, by rw [h2, List.length_append, List.length_singleton]; omega⟩
    simp only [spec_l4Turned.l0]
    rw [e0, if_pos (by omega), if_pos (by omega), if_pos (by omega), if_pos (by omega), w64 (by omega) (by omega)]
    exact h1
theorem turned_some (l : List S28) (hl : l.length ≤ 1500) (k : Nat) (hk : l.length < k) : ∃ ys, spec_l4Turned.f k l = some ys ∧ ys.length = l.length := by
  unfold spec_l4Turned.f
  rw [w64 (by omega) (by omega)]
  obtain ⟨ys, h1, h2⟩ := turned_loop l (by omega) l.length k [] (Nat.le_refl _) hk (by simp; omega)
  exact ⟨ys, h1, by simpa using h2⟩
theorem draw_ring_j1 {l : List Int} (hl : Bytes l) (xs : List S28) (hx : xs.length ≤ 20) {i h : Int} (hi : 0 ≤ i) (k : Nat) (hk : 30 < k) : ∃ ys i' h', spec_l4DrawRing.j1 k xs l i h = some (ys, i', h') ∧ ys.length ≤ 20 ∧ 0 ≤ i' := by
  obtain ⟨k, rfl⟩ : ∃ m, k = m + 1 := ⟨k - 1, by omega⟩
  simp only [spec_l4DrawRing.j1]
  obtain ⟨b, i1, h1, e1, c1⟩ := draw_once hl (h := h) (n := 3) hi (by omega)
  rw [e1]; simp only [Option.bind_some]
  cases b with
  | false => exact ⟨_, _, _, rfl, hx, c1⟩
  | true =>
    obtain ⟨ys, e2, e3⟩ := turned_some xs (by omega) k (by omega)
    rw [if_pos rfl, e2]
    exact ⟨_, _, _, rfl, by omega, c1⟩
theorem draw_ring_loop {l : List Int} (hl : Bytes l) (x y r : Int) (hr : 0 < r) (d : Nat) : ∀ (k : Nat) (xs : List S28) (j : Nat) (i h : Int), j + d = 8 → xs.length ≤ j → 0 ≤ i → d + 31 < k →
    ∃ ys i' h', spec_l4DrawRing.l0 k x y r [10, 7, 0, (-7), (-10), (-7), 0, 7] [0, 7, 10, 7, 0, (-7), (-10), (-7)] xs (j : Int) l i h = some (ys, i', h') ∧ ys.length ≤ 20 ∧ 0 ≤ i' := by
  induction d with
  | zero =>
    intro k xs j i h hj hx hi hk
    obtain ⟨k, rfl⟩ : ∃ m, k = m + 1 := ⟨k - 1, by omega⟩
    simp only [spec_l4DrawRing.l0]
    rw [if_neg (by omega)]
    by_cases h0 : (xs.length : Int) > 0
    · rw [if_pos h0, if_pos (by omega), if_pos (by omega)]
      exact draw_ring_j1 hl _ (by rw [List.length_append, List.length_singleton]; omega) hi k (by omega)
    · rw [if_neg h0]
      exact draw_ring_j1 hl _ (by omega) hi k (by omega)
  | succ d ih =>
    intro k xs j i h hj hx hi hk
    obtain ⟨k, rfl⟩ : ∃ m, k = m + 1 := ⟨k - 1, by omega⟩
    have e1 : wrap64 ((j : Int) + 1) = ((j + 1 : Nat) : Int) := by rw [w64 (by omega) (by omega)]; omega
    have go : ∀ (q : S28) (i h : Int), 0 ≤ i → ∃ ys i' h', spec_l4DrawRing.l0 k x y r [10, 7, 0, (-7), (-10), (-7), 0, 7] [0, 7, 10, 7, 0, (-7), (-10), (-7)] (xs ++ [q]) ((j + 1 : Nat) : Int) l i h = some (ys, i', h') ∧ ys.length ≤ 20 ∧ 0 ≤ i' :=
      fun q i h hi => ih k (xs ++ [q]) (j + 1) i h (by omega) (by rw [List.length_append, List.length_singleton]; omega) hi (by omega)
    have skip : ∀ (i h : Int), 0 ≤ i → ∃ ys i' h', spec_l4DrawRing.l0 k x y r [10, 7, 0, (-7), (-10), (-7), 0, 7] [0, 7, 10, 7, 0, (-7), (-10), (-7)] xs ((j + 1 : Nat) : Int) l i h = some (ys, i', h') ∧ ys.length ≤ 20 ∧ 0 ≤ i' :=
      fun i h hi => ih k xs (j + 1) i h (by omega) (by omega) hi (by omega)
    have l1 : ([10, 7, 0, (-7), (-10), (-7), 0, 7] : List Int).length = 8 := rfl
    have l2 : ([0, 7, 10, 7, 0, (-7), (-10), (-7)] : List Int).length = 8 := rfl
    simp only [spec_l4DrawRing.l0, e1, l1, l2]
    rw [if_pos (by omega)]
    have drop : ∀ (i h : Int), 0 ≤ i → ∃ v i' h', spec_l1Below.f l i h r = some (v, i', h') ∧ 0 ≤ i' := fun i h hi => by
      obtain ⟨v, i', h', e, _, _, c⟩ := draw_below hl (h := h) (n := r) hi hr
      exact ⟨v, i', h', e, c⟩
    have keep : ∀ (i h : Int), 0 ≤ i → ∃ ys i' h', ((spec_l1Once.f l i h 3).bind fun bt147 => (if bt147.1 = true then (spec_l4DrawRing.l0 k x y r [10, 7, 0, (-7), (-10), (-7), 0, 7] [0, 7, 10, 7, 0, (-7), (-10), (-7)] xs ((j + 1 : Nat) : Int) l bt147.2.1 bt147.2.2) else ((spec_l1Below.f l bt147.2.1 bt147.2.2 r).bind fun bt150 => (if 0 ≤ (j : Int) then (if (j : Int) < ((8 : Nat) : Int) then (if (j : Int) < ((8 : Nat) : Int) then (if xs.length < 8796093022208 then (spec_l4DrawRing.l0 k x y r [10, 7, 0, (-7), (-10), (-7), 0, 7] [0, 7, 10, 7, 0, (-7), (-10), (-7)] (xs ++ [(⟨wrap64 (x + (wrap64 (Int.tdiv (wrap64 ((wrap64 (r + bt150.1)) * (rd [10, 7, 0, (-7), (-10), (-7), 0, 7] (j : Int)))) 10))), wrap64 (y + (wrap64 (Int.tdiv (wrap64 ((wrap64 (r + bt150.1)) * (rd [0, 7, 10, 7, 0, (-7), (-10), (-7)] (j : Int)))) 10)))⟩ : S28)]) ((j + 1 : Nat) : Int) l bt150.2.1 bt150.2.2) else (none)) else (none)) else (none)) else (none))))) = some (ys, i', h') ∧ ys.length ≤ 20 ∧ 0 ≤ i' := by
      intro i h hi
      obtain ⟨b, i1, h1, e1, c1⟩ := draw_once hl (h := h) (n := 3) hi (by omega)
      rw [e1]; simp only [Option.bind_some]
      cases b with
      | true => simp only [if_true]; exact skip _ _ c1
      | false =>
        simp only [Bool.false_eq_true, if_false]
        obtain ⟨v, i2, h2, e2, c2⟩ := drop i1 h1 c1
        rw [e2]; simp only [Option.bind_some]
        rw [if_pos (by omega), if_pos (by omega), if_pos (by omega), if_pos (by omega)]
        exact go _ _ _ c2
    by_cases h3 : (xs.length : Int) < 3
    · rw [if_pos h3]
      by_cases h4 : (j : Int) > 4
      · rw [if_pos h4]
        obtain ⟨v, i2, h2, e2, c2⟩ := drop i h hi
        rw [e2]; simp only [Option.bind_some]
        rw [if_pos (by omega), if_pos (by omega), if_pos (by omega), if_pos (by omega)]
        exact go _ _ _ c2
      · rw [if_neg h4]
        exact keep i h hi
    · rw [if_neg h3]
      exact keep i h hi
theorem draw_ring {l : List Int} (hl : Bytes l) (x y r : Int) (hr : 0 < r) {i h : Int} (hi : 0 ≤ i) (k : Nat) (hk : 50 < k) : ∃ ys i' h', spec_l4DrawRing.f k l i h x y r = some (ys, i', h') ∧ ys.length ≤ 20 ∧ 0 ≤ i' :=
  draw_ring_loop hl x y r hr 8 k [] 0 i h rfl (by simp) hi (by omega)
theorem draw_row_loop {l : List Int} (hl : Bytes l) (n : Nat) (hn : n ≤ 100) (d : Nat) : ∀ (k : Nat) (xs : List S28) (i h : Int), xs.length + d = n → 0 ≤ i → d + 1 < k → ∃ ys i' h', spec_l1DrawRow.l0 k (n : Int) xs (xs.length : Int) l i h = some (ys, i', h') ∧ ys.length = n ∧ 0 ≤ i' := by
  induction d with
  | zero =>
    intro k xs i h hx hi hk
    obtain ⟨k, rfl⟩ : ∃ m, k = m + 1 := ⟨k - 1, by omega⟩
    simp only [spec_l1DrawRow.l0]
    rw [if_neg (by omega)]
    exact ⟨_, _, _, rfl, by omega, hi⟩
  | succ d ih =>
    intro k xs i h hx hi hk
    obtain ⟨k, rfl⟩ : ∃ m, k = m + 1 + 1 := ⟨k - 2, by omega⟩
    simp only [spec_l1DrawRow.l0]
    obtain ⟨ax, ay, i1, h1, e1, _, _, c1⟩ := draw_point hl (k := k) (h := h) hi
    rw [if_pos (by omega), e1]; simp only [Option.bind_some]
    rw [if_pos (by omega), w64 (by omega) (by omega)]
    have := ih (k + 1) (xs ++ [(⟨ax, ay⟩ : S28)]) i1 h1 (by rw [List.length_append, List.length_singleton]; omega) c1 (by omega)
    rw [List.length_append, List.length_singleton] at this
    exact this
theorem draw_any {l : List Int} (hl : Bytes l) {i h : Int} (hi : 0 ≤ i) (k : Nat) (hk : 20 < k) : ∃ ys i' h', spec_l1DrawAny.f k l i h = some (ys, i', h') ∧ ys.length ≤ 3000 ∧ 0 ≤ i' := by
  unfold spec_l1DrawAny.f
  obtain ⟨n, i1, h1, e1, n0, n1, c1⟩ := draw_below hl (h := h) (n := 9) hi (by omega)
  rw [e1]; simp only [Option.bind_some]
  obtain ⟨N, rfl⟩ := Int.eq_ofNat_of_zero_le n0
  obtain ⟨ys, i2, h2, e2, y2, c2⟩ := draw_row_loop hl N (by omega) N k [] i1 h1 (by simp) c1 (by omega)
  unfold spec_l1DrawRow.f
  have e2' : spec_l1DrawRow.l0 k (N : Int) ([] : List S28) 0 l i1 h1 = some (ys, i2, h2) := e2
  rw [e2']; simp only [Option.bind_some]
  obtain ⟨b, i3, h3, e3, c3⟩ := draw_once hl (h := h2) (n := 100) c2 (by omega)
  rw [e3]; simp only [Option.bind_some]
  cases b with
  | false => exact ⟨_, _, _, rfl, by omega, c3⟩
  | true =>
    obtain ⟨z, i4, h4, e4, z0, z1, c4⟩ := draw_below hl (h := h3) (n := 2) c3 (by omega)
    rw [if_pos rfl, e4]; simp only [Option.bind_some]
    rw [w64 (by omega) (by omega), if_pos (by omega), if_pos (by omega)]
    exact ⟨_, _, _, rfl, by rw [List.length_replicate]; omega, c4⟩
theorem draw_rings_l1 {l : List Int} (d : Nat) : ∀ (k : Nat) (rs : List S65) (i h : Int), d < k → rs.length + d ≤ 60 → (∀ r ∈ rs, r.f0.length ≤ 3000) → ∃ qs, spec_l4DrawRings.l1 k rs (d : Int) l i h = some (qs, i, h) ∧ FewR qs := by
  induction d with
  | zero =>
    intro k rs i h hk hx hr
    obtain ⟨k, rfl⟩ : ∃ m, k = m + 1 := ⟨k - 1, by omega⟩
    simp only [spec_l4DrawRings.l1]
    rw [if_neg (by omega)]
    exact ⟨_, rfl, by omega, hr⟩
  | succ d ih =>
    intro k rs i h hk hx hr
    obtain ⟨k, rfl⟩ : ∃ m, k = m + 1 := ⟨k - 1, by omega⟩
    simp only [spec_l4DrawRings.l1]
    rw [if_pos (by omega), if_pos (by omega), w64 (by omega) (by omega), show ((d + 1 : Nat) : Int) - 1 = (d : Int) by omega]
    exact ih k _ i h (by omega) (by rw [List.length_append, List.length_singleton]; omega) (fun r hr' => by
      rcases List.mem_append.1 hr' with h' | h'
      · exact hr r h'
      · rw [List.mem_singleton.1 h']; simp)
theorem draw_rings_j2 {l : List Int} (hl : Bytes l) (k : Nat) (hk : 60 < k) (rs : List S65) {i h : Int} (hi : 0 ≤ i) (hx : rs.length ≤ 10) (hr : ∀ r ∈ rs, r.f0.length ≤ 3000) : ∃ qs i' h', spec_l4DrawRings.j2 k rs l i h = some (qs, i', h') ∧ FewR qs ∧ 0 ≤ i' := by
  obtain ⟨k, rfl⟩ : ∃ m, k = m + 1 := ⟨k - 1, by omega⟩
  simp only [spec_l4DrawRings.j2]
  obtain ⟨b, i3, h3, e3, c3⟩ := draw_once hl (h := h) (n := 60) hi (by omega)
  rw [e3]; simp only [Option.bind_some]
  cases b with
  | false => exact ⟨_, _, _, rfl, ⟨by omega, hr⟩, c3⟩
  | true =>
    obtain ⟨z, i4, h4, e4, z0, z1, c4⟩ := draw_below hl (h := h3) (n := 3) c3 (by omega)
    rw [if_pos rfl, e4]; simp only [Option.bind_some]
    rw [w64 (n := z + 40) (by omega) (by omega), w64 (by omega) (by omega)]
    obtain ⟨Z, hZ⟩ := Int.eq_ofNat_of_zero_le (show 0 ≤ z + 40 - 1 by omega)
    rw [hZ]
    obtain ⟨qs, e5, f5⟩ := draw_rings_l1 (l := l) Z k rs i4 h4 (by omega) (by omega) hr
    exact ⟨_, _, _, e5, f5, c4⟩
theorem draw_rings_j1 {l : List Int} (hl : Bytes l) (k : Nat) (hk : 70 < k) (rs : List S65) (b : Bool) (hb : b = true → 0 < rs.length) {i h : Int} (hi : 0 ≤ i) (hx : rs.length ≤ 10) (hr : ∀ r ∈ rs, r.f0.length ≤ 3000) : ∃ qs i' h', spec_l4DrawRings.j1 k rs b l i h = some (qs, i', h') ∧ FewR qs ∧ 0 ≤ i' := by
  obtain ⟨k, rfl⟩ : ∃ m, k = m + 1 := ⟨k - 1, by omega⟩
  simp only [spec_l4DrawRings.j1]
  cases b with
  | false => simp only [Bool.false_eq_true, if_false]; exact draw_rings_j2 hl k (by omega) rs hi hx hr
  | true =>
    obtain ⟨ys, i1, h1, e1, y1, c1⟩ := draw_any hl (h := h) hi k (by omega)
    have := hb rfl
    rw [if_pos rfl, e1]; simp only [Option.bind_some]
    rw [if_pos (by omega)]
    refine draw_rings_j2 hl k (by omega) _ c1 (by rw [List.length_set]; exact hx) (fun r hr' => ?_)
    rcases List.mem_or_eq_of_mem_set hr' with h' | h'
    · exact hr r h'
    · rw [h']; exact y1
theorem draw_rings_loop {l : List Int} (hl : Bytes l) (d : Nat) : ∀ (k : Nat) (rs : List S65) (i h : Int), d + 80 < k → rs.length + d ≤ 5 → 0 ≤ i → (∀ r ∈ rs, r.f0.length ≤ 3000) → ∃ qs i' h', spec_l4DrawRings.l0 k rs (d : Int) l i h = some (qs, i', h') ∧ FewR qs ∧ 0 ≤ i' := by
  induction d with
  | zero =>
    intro k rs i h hk hx hi hr
    obtain ⟨k, rfl⟩ : ∃ m, k = m + 1 := ⟨k - 1, by omega⟩
    simp only [spec_l4DrawRings.l0]
    rw [if_neg (by omega)]
    obtain ⟨b, i3, h3, e3, c3⟩ := draw_once hl (h := h) (n := 12) hi (by omega)
    rw [e3]; simp only [Option.bind_some]
    cases b with
    | false => simp only [Bool.false_eq_true, if_false]; exact draw_rings_j1 hl k (by omega) rs false (by simp) c3 (by omega) hr
    | true => simp only [if_true]; exact draw_rings_j1 hl k (by omega) rs _ (fun h => by have := of_decide_eq_true h; omega) c3 (by omega) hr
  | succ d ih =>
    intro k rs i h hk hx hi hr
    obtain ⟨k, rfl⟩ : ∃ m, k = m + 1 := ⟨k - 1, by omega⟩
    simp only [spec_l4DrawRings.l0]
    rw [if_pos (by omega)]
    obtain ⟨a, i1, h1, e1, _, _, c1⟩ := draw_below hl (h := h) (n := 3) hi (by omega)
    rw [e1]; simp only [Option.bind_some]
    obtain ⟨b, i2, h2, e2, _, _, c2⟩ := draw_below hl (h := h1) (n := 3) c1 (by omega)
    rw [e2]; simp only [Option.bind_some]
    obtain ⟨c, i3, h3, e3, u0, u1, c3⟩ := draw_below hl (h := h2) (n := 3) c2 (by omega)
    rw [e3]; simp only [Option.bind_some]
    rw [if_pos u0, if_pos (by simpa using u1)]
    have hpos : 0 < rd [10, 30, 80] c := by
      rcases (show c = 0 ∨ c = 1 ∨ c = 2 by omega) with rfl | rfl | rfl <;> decide
    obtain ⟨ys, i4, h4, e4, y4, c4⟩ := draw_ring hl (wrap64 (40 * a)) (wrap64 (40 * b)) _ hpos (h := h3) c3 k (by omega)
    rw [e4]; simp only [Option.bind_some]
    obtain ⟨g, i5, h5, e5, c5⟩ := draw_once hl (h := h4) (n := 3) c4 (by omega)
    rw [e5]; simp only [Option.bind_some]
    rw [if_pos (by omega), w64 (by omega) (by omega), show ((d + 1 : Nat) : Int) - 1 = (d : Int) by omega]
    exact ih k _ i5 h5 (by omega) (by rw [List.length_append, List.length_singleton]; omega) c5 (fun r hr' => by
      rcases List.mem_append.1 hr' with h' | h'
      · exact hr r h'
      · rw [List.mem_singleton.1 h']; show ys.length ≤ 3000; omega)
theorem draw_rings {l : List Int} (hl : Bytes l) {i h : Int} (hi : 0 ≤ i) (k : Nat) (hk : 100 < k) : ∃ qs i' h', spec_l4DrawRings.f k l i h = some (qs, i', h') ∧ FewR qs ∧ 0 ≤ i' := by
  unfold spec_l4DrawRings.f
  obtain ⟨a, i1, h1, e1, a0, a1, c1⟩ := draw_below hl (h := h) (n := 4) hi (by omega)
  rw [e1]; simp only [Option.bind_some]
  obtain ⟨Z, rfl⟩ := Int.eq_ofNat_of_zero_le a0
  exact draw_rings_loop hl Z k [] i1 h1 (by omega) (by simp; omega) c1 (by simp)

theorem impl_ok (x y : Int) : impl_PointOk.f x y = some (decide (OkP x y)) := by
  unfold impl_PointOk.f OkP
  grind



theorem impl_row_loop (l : List S28) (hl : l.length ≤ 2000) (d : Nat) : ∀ j : Nat, j + d = l.length → Ev (fun k => impl_rowOk.l0 k l (l.length : Int) j) ((l.drop j).all okB) := by
  induction d with
  | zero =>
    intro j hj
    rw [List.drop_of_length_le (by omega), List.all_nil]
    refine Ev.step (fun k => ?_) (Ev.now _)
    simp only [impl_rowOk.l0]
    rw [if_neg (by omega)]
  | succ d ih =>
    intro j hj
    have hlt : j < l.length := by omega
    rw [all_drop _ _ hlt]
    by_cases hp : OkP l[j].f0 l[j].f1
    · have hB : okB l[j] = true := decide_eq_true hp
      rw [hB, Bool.true_and]
      refine Ev.step (fun k => ?_) (ih (j + 1) (by omega))
      simp only [impl_rowOk.l0, impl_ok, Option.bind_some]
      rw [if_pos (by omega), if_pos (by omega), if_pos (by omega), rdP hlt, if_pos (decide_eq_true hp), w64 (n := (j : Int) + 1) (by omega) (by omega)]
      rfl
    · have hB : okB l[j] = false := decide_eq_false hp
      rw [hB, Bool.false_and]
      refine Ev.step (fun k => ?_) (Ev.now _)
      simp only [impl_rowOk.l0, impl_ok, Option.bind_some]
      rw [if_pos (by omega), if_pos (by omega), if_pos (by omega), rdP hlt, if_neg (by simp [hp])]
theorem impl_row (l : List S28) : Ev (fun k => impl_rowOk.f k l) (rowB l) := by
  unfold rowB
  by_cases h : l.length ≤ 2000
  · have h1 := impl_row_loop l h l.length 0 (by omega)
    rw [List.drop_zero] at h1
    rw [decide_eq_true h, Bool.true_and]
    refine Ev.congr (fun k => ?_) h1
    unfold impl_rowOk.f
    rw [if_neg (by omega)]
    rfl
  · rw [decide_eq_false h, Bool.false_and]
    refine Ev.congr (fun k => ?_) (Ev.now _)
    unfold impl_rowOk.f
    rw [if_pos (by omega)]

theorem impl_rings_loop (l : List S65) (hl : l.length ≤ 40) (d : Nat) : ∀ j : Nat, j + d = l.length → Ev (fun k => impl_ringsOk.l0 k l (l.length : Int) j) ((l.drop j).all (fun r => rowB r.f0)) := by
  induction d with
  | zero =>
    intro j hj
    rw [List.drop_of_length_le (by omega), List.all_nil]
    refine Ev.step (fun k => ?_) (Ev.now _)
    simp only [impl_ringsOk.l0]
    rw [if_neg (by omega)]
  | succ d ih =>
    intro j hj
    have hlt : j < l.length := by omega
    rw [all_drop _ _ hlt]
    refine Ev.step (f := fun k => (impl_rowOk.f k l[j].f0).bind fun b => if b = true then impl_ringsOk.l0 k l (l.length : Int) ((j + 1 : Nat) : Int) else some false) (fun k => ?_) (Ev.bind (impl_row _) ?_)
    · simp only [impl_ringsOk.l0]
      rw [if_pos (by omega), if_pos (by omega), if_pos (by omega), rdR hlt, w64 (n := (j : Int) + 1) (by omega) (by omega)]
      rfl
    · by_cases hp : rowB l[j].f0 = true
      · simp only [hp, if_true, Bool.true_and]
        exact ih (j + 1) (by omega)
      · simp only [hp, if_false, Bool.false_and, Bool.not_eq_true] at *
        exact Ev.now _
theorem impl_rings (l : List S65) : Ev (fun k => impl_ringsOk.f k l) (ringsB l) := by
  unfold ringsB
  by_cases h : l.length ≤ 40
  · have h1 := impl_rings_loop l h l.length 0 (by omega)
    rw [List.drop_zero] at h1
    rw [decide_eq_true h, Bool.true_and]
    refine Ev.congr (fun k => ?_) h1
    unfold impl_ringsOk.f
    rw [if_neg (by omega)]
    rfl
  · rw [decide_eq_false h, Bool.false_and]
    refine Ev.congr (fun k => ?_) (Ev.now _)
    unfold impl_ringsOk.f
    rw [if_pos (by omega)]

theorem impl_sg (n : Int) : impl_sgn.f n = some (sg n) := by unfold impl_sgn.f sg; repeat' split <;> simp_all
theorem impl_trn {ax ay bx by_ cx cy : Int} (ha : OkP ax ay) (hb : OkP bx by_) (hc : OkP cx cy) : impl_turn.f ax ay bx by_ cx cy = some (sg (det ax ay bx by_ cx cy)) := by
  unfold OkP at *
  have h1 := mul_bd (p := bx - ax) (q := cy - by_) (B := 20000000) (C := 20000000) (by omega) (by omega) (by omega) (by omega)
  have h2 := mul_bd (p := by_ - ay) (q := cx - bx) (B := 20000000) (C := 20000000) (by omega) (by omega) (by omega) (by omega)
  unfold impl_turn.f
  rw [w64 (n := bx - ax) (by omega) (by omega), w64 (n := cy - by_) (by omega) (by omega), w64 (n := by_ - ay) (by omega) (by omega), w64 (n := cx - bx) (by omega) (by omega),
    w64 (n := (bx - ax) * (cy - by_)) (by omega) (by omega), w64 (n := (by_ - ay) * (cx - bx)) (by omega) (by omega), w64 (by omega) (by omega), impl_sg, det_alt]
  rfl

/-- p lies on the closed stretch from a to b. -/
def On (ax ay bx by_ px py : Int) : Prop := det ax ay bx by_ px py = 0 ∧ (ax ≤ px ∧ px ≤ bx ∨ bx ≤ px ∧ px ≤ ax) ∧ (ay ≤ py ∧ py ≤ by_ ∨ by_ ≤ py ∧ py ≤ ay)
instance (ax ay bx by_ px py : Int) : Decidable (On ax ay bx by_ px py) := by unfold On; infer_instance
theorem sg_zero (n : Int) : sg n = 0 ↔ n = 0 := by unfold sg; repeat' split <;> omega
/-- Two closed stretches have a place in common. -/
def Meet (ax ay bx by_ cx cy dx dy : Int) : Prop :=
  On ax ay bx by_ cx cy ∨ On ax ay bx by_ dx dy ∨ On cx cy dx dy ax ay ∨ On cx cy dx dy bx by_ ∨
    (sg (det ax ay bx by_ cx cy) * sg (det ax ay bx by_ dx dy) < 0 ∧ sg (det cx cy dx dy ax ay) * sg (det cx cy dx dy bx by_) < 0)
instance (ax ay bx by_ cx cy dx dy : Int) : Decidable (Meet ax ay bx by_ cx cy dx dy) := by unfold Meet; infer_instance
theorem sg_bd (n : Int) : -1 ≤ sg n ∧ sg n ≤ 1 := by unfold sg; repeat' split <;> omega
theorem sg_mul (m n : Int) : wrap64 (sg m * sg n) = sg m * sg n := by
  have h := mul_bd (sg_bd m).1 (sg_bd m).2 (sg_bd n).1 (sg_bd n).2
  exact w64 (by omega) (by omega)

theorem impl_on {ax ay bx by_ px py : Int} (ha : OkP ax ay) (hb : OkP bx by_) (hp : OkP px py) : impl_onStretch.f ax ay bx by_ px py = some (decide (On ax ay bx by_ px py)) := by
  unfold impl_onStretch.f On
  rw [impl_trn ha hb hp]
  simp only [Option.bind_some, sg_zero]
  by_cases h1 : det ax ay bx by_ px py = 0
  · simp only [h1, if_true, true_and]
    have a1 : (px ≥ mn ax bx) ↔ (ax ≤ px ∨ bx ≤ px) := by unfold mn; split <;> omega
    have a2 : (px ≤ mx ax bx) ↔ (px ≤ ax ∨ px ≤ bx) := by unfold mx; split <;> omega
    have a3 : (py ≥ mn ay by_) ↔ (ay ≤ py ∨ by_ ≤ py) := by unfold mn; split <;> omega
    have a4 : (py ≤ mx ay by_) ↔ (py ≤ ay ∨ py ≤ by_) := by unfold mx; split <;> omega
    by_cases c1 : px ≥ mn ax bx
    · by_cases c2 : px ≤ mx ax bx
      · by_cases c3 : py ≥ mn ay by_
        · rw [if_pos c1, if_pos c2, if_pos c3, Option.some.injEq, decide_eq_decide]
          rw [a1] at c1; rw [a2] at c2; rw [a3] at c3; rw [a4]
          omega
        · rw [if_pos c1, if_pos c2, if_neg c3, Option.some.injEq]
          rw [a3] at c3
          exact (decide_eq_false (by omega)).symm
      · rw [if_pos c1, if_neg c2, Option.some.injEq]
        rw [a2] at c2
        exact (decide_eq_false (by omega)).symm
    · rw [if_neg c1, Option.some.injEq]
      rw [a1] at c1
      exact (decide_eq_false (by omega)).symm
  · simp [h1]

/-- Whether a stretch turns the count round at p. -/
def flips (ax ay bx by_ px py : Int) : Bool := decide ((ay ≤ py ∧ by_ > py ∧ det ax ay bx by_ px py > 0) ∨ (by_ ≤ py ∧ ay > py ∧ det ax ay bx by_ px py < 0))
/-- A ring's stretches, those from place j on: none where p lies on one; else the count behind them. -/
def rowWalk (px py : Int) (row : List S28) : Nat → Nat → Bool → Option Bool
  | 0, _, o => some o
  | d + 1, j, o => if On (rd_T28 row ((j : Int) - 1)).f0 (rd_T28 row ((j : Int) - 1)).f1 (rd_T28 row j).f0 (rd_T28 row j).f1 px py then none
    else rowWalk px py row d (j + 1) (if flips (rd_T28 row ((j : Int) - 1)).f0 (rd_T28 row ((j : Int) - 1)).f1 (rd_T28 row j).f0 (rd_T28 row j).f1 px py = true then !o else o)
/-- What Inside answers of good rings. -/
def insideR (px py : Int) : List S65 → Bool → Int
  | [], o => if o = true then 1 else -1
  | r :: rs, o => match rowWalk px py r.f0 (r.f0.length - 1) 1 o with
    | none => 0
    | some o' => insideR px py rs o'
theorem sg_pos (n : Int) : (sg n > 0) = (n > 0) := by unfold sg; apply propext; repeat' split <;> omega
theorem sg_neg (n : Int) : (sg n < 0) = (n < 0) := by unfold sg; apply propext; repeat' split <;> omega

/-- What Inside answers. -/
def insideN (rs : List S65) (px py : Int) : Int := if ringsB rs = true then (if OkP px py then insideR px py rs false else -1) else -1

theorem impl_walk {px py : Int} (hp : OkP px py) (rs : List S65) (hrs : rs.length ≤ 40) (i : Nat) (hi : i < rs.length) (row : List S28) (inn : Bool) (h : rowB row = true) {res : Bool → Int} (hk : ∀ o, Ev (fun k => impl_Inside.l0 k o rs (rs.length : Int) ((i + 1 : Nat) : Int) px py) (res o)) (d : Nat) :
    ∀ (j : Nat) (o : Bool), 1 ≤ j → j + d = max row.length 1 → Ev (fun k => impl_Inside.l1 k o j rs (rs.length : Int) (i : Int) px py row inn) (match rowWalk px py row d j o with | none => 0 | some o' => res o') := by
  have h2 := rowB_len h
  induction d with
  | zero =>
    intro j o hj hd
    refine Ev.step (fun k => ?_) (hk o)
    simp only [impl_Inside.l1]
    rw [if_neg (by omega), w64 (n := (i : Int) + 1) (by omega) (by omega)]
    rfl
  | succ d ih =>
    intro j o hj hd
    obtain ⟨j, rfl⟩ : ∃ m, j = m + 1 := ⟨j - 1, by omega⟩
    have hlt : j + 1 < row.length := by omega
    have ha := rowB_get h (show j < row.length by omega)
    have hb := rowB_get h hlt
    have e1 : (((j + 1 : Nat) : Int) - 1) = (j : Int) := by omega
    have hr1 : rd_T28 row (j : Int) = row[j] := rdP (by omega)
    have hr2 : rd_T28 row ((j + 1 : Nat) : Int) = row[j + 1] := rdP hlt
    have w1 : wrap64 (((j + 1 : Nat) : Int) - 1) = (j : Int) := by rw [w64 (by omega) (by omega)]; omega
    have w2 : wrap64 (((j + 1 : Nat) : Int) + 1) = ((j + 1 + 1 : Nat) : Int) := by rw [w64 (by omega) (by omega)]; omega
    simp only [rowWalk, e1, hr1, hr2]
    by_cases hon : On row[j].f0 row[j].f1 row[j + 1].f0 row[j + 1].f1 px py
    · simp only [hon, if_true]
      refine Ev.step (fun k => ?_) (Ev.now _)
      simp only [impl_Inside.l1]
      rw [w1, if_pos (by omega), if_pos (by omega), if_pos (by omega), if_pos (by omega), hr1, hr2, impl_on ha hb hp]
      simp [hon]
    · simp only [hon, if_false]
      have step : ∀ (ax ay bx by_ : Int), OkP ax ay → OkP bx by_ → ∀ k, impl_Inside.j3 (k + 2) o ((j + 1 : Nat) : Int) rs (rs.length : Int) (i : Int) px py row inn ax ay bx by_ =
          impl_Inside.l1 k (if decide (ay ≤ py ∧ by_ > py ∧ det ax ay bx by_ px py > 0) = true then !o else o) ((j + 1 + 1 : Nat) : Int) rs (rs.length : Int) (i : Int) px py row inn := by
        intro ax ay bx by_ ka kb k
        unfold OkP at ka kb hp
        have m1 := mul_bd (p := py - ay) (q := bx - ax) (B := 20000000) (C := 20000000) (by omega) (by omega) (by omega) (by omega)
        have m2 := mul_bd (p := px - ax) (q := by_ - ay) (B := 20000000) (C := 20000000) (by omega) (by omega) (by omega) (by omega)
        have ed : det ax ay bx by_ px py = (py - ay) * (bx - ax) - (px - ax) * (by_ - ay) := by unfold det; grind
        simp only [impl_Inside.j3, impl_Inside.j4, w2]
        rw [w64 (n := py - ay) (by omega) (by omega), w64 (n := bx - ax) (by omega) (by omega), w64 (n := px - ax) (by omega) (by omega), w64 (n := by_ - ay) (by omega) (by omega), w64 (n := (py - ay) * (bx - ax)) (by omega) (by omega), w64 (n := (px - ax) * (by_ - ay)) (by omega) (by omega), ed]
        simp only [decide_eq_true_eq, Bool.false_eq_true, if_false]
        generalize (py - ay) * (bx - ax) = A
        generalize (px - ax) * (by_ - ay) = B
        repeat' split
        all_goals first | rfl | omega
      refine Ev.step (f := fun k => if row[j].f1 > row[j + 1].f1 then impl_Inside.j3 k o ((j + 1 : Nat) : Int) rs (rs.length : Int) (i : Int) px py row inn row[j + 1].f0 row[j + 1].f1 row[j].f0 row[j].f1 else impl_Inside.j3 k o ((j + 1 : Nat) : Int) rs (rs.length : Int) (i : Int) px py row inn row[j].f0 row[j].f1 row[j + 1].f0 row[j + 1].f1) (fun k => ?_) ?_
      · simp only [impl_Inside.l1]
        rw [w1, if_pos (by omega), if_pos (by omega), if_pos (by omega), if_pos (by omega), hr1, hr2, impl_on ha hb hp]
        simp [hon]
      · have hih := ih (j + 1 + 1)
        by_cases hs : row[j].f1 > row[j + 1].f1
        · simp only [hs, if_true]
          have ef : flips row[j].f0 row[j].f1 row[j + 1].f0 row[j + 1].f1 px py = decide (row[j + 1].f1 ≤ py ∧ row[j].f1 > py ∧ det row[j + 1].f0 row[j + 1].f1 row[j].f0 row[j].f1 px py > 0) := by
            have ed : det row[j + 1].f0 row[j + 1].f1 row[j].f0 row[j].f1 px py = - det row[j].f0 row[j].f1 row[j + 1].f0 row[j + 1].f1 px py := by unfold det; grind
            unfold flips
            rw [decide_eq_decide, ed]
            omega
          rw [ef]
          have := hih (if decide (row[j + 1].f1 ≤ py ∧ row[j].f1 > py ∧ det row[j + 1].f0 row[j + 1].f1 row[j].f0 row[j].f1 px py > 0) = true then !o else o) (by omega) (by omega)
          refine Ev.step (f := fun k => impl_Inside.j3 (k + 1) o ((j + 1 : Nat) : Int) rs (rs.length : Int) (i : Int) px py row inn row[j + 1].f0 row[j + 1].f1 row[j].f0 row[j].f1) (fun k => rfl) (Ev.step (fun k => step _ _ _ _ hb ha k) this)
        · simp only [hs, if_false]
          have ef : flips row[j].f0 row[j].f1 row[j + 1].f0 row[j + 1].f1 px py = decide (row[j].f1 ≤ py ∧ row[j + 1].f1 > py ∧ det row[j].f0 row[j].f1 row[j + 1].f0 row[j + 1].f1 px py > 0) := by
            unfold flips
            rw [decide_eq_decide]
            omega
          rw [ef]
          have := hih (if decide (row[j].f1 ≤ py ∧ row[j + 1].f1 > py ∧ det row[j].f0 row[j].f1 row[j + 1].f0 row[j + 1].f1 px py > 0) = true then !o else o) (by omega) (by omega)
          refine Ev.step (f := fun k => impl_Inside.j3 (k + 1) o ((j + 1 : Nat) : Int) rs (rs.length : Int) (i : Int) px py row inn row[j].f0 row[j].f1 row[j + 1].f0 row[j + 1].f1) (fun k => rfl) (Ev.step (fun k => step _ _ _ _ ha hb k) this)
theorem impl_in {px py : Int} (hp : OkP px py) (rs : List S65) (h : ringsB rs = true) (d : Nat) : ∀ (i : Nat) (o : Bool), i + d = rs.length → Ev (fun k => impl_Inside.l0 k o rs (rs.length : Int) (i : Int) px py) (insideR px py (rs.drop i) o) := by
  have h2 := ringsB_len h
  induction d with
  | zero =>
    intro i o hi
    rw [List.drop_of_length_le (by omega)]
    refine Ev.step (fun k => ?_) (Ev.now _)
    simp only [impl_Inside.l0, insideR]
    rw [if_neg (by omega)]
    split <;> rfl
  | succ d ih =>
    intro i o hi
    have hlt : i < rs.length := by omega
    rw [List.drop_eq_getElem_cons hlt]
    simp only [insideR]
    have hr := ringsB_get h (List.getElem_mem hlt)
    refine Ev.step (fun k => ?_) (impl_walk hp rs h2 i hlt rs[i].f0 rs[i].f1 hr (res := fun o => insideR px py (rs.drop (i + 1)) o) (fun o => ih (i + 1) o (by omega)) (rs[i].f0.length - 1) 1 o (by omega) (by omega))
    simp only [impl_Inside.l0]
    rw [if_pos (by omega), if_pos (by omega), if_pos (by omega), rdR hlt]
    rfl
theorem impl_inside (rs : List S65) (px py : Int) : Ev (fun k => impl_Inside.f k rs px py) (insideN rs px py) := by
  unfold impl_Inside.f insideN
  refine Ev.bind (impl_rings rs) ?_
  by_cases h : ringsB rs = true
  · simp only [h, if_true, impl_ok, Option.bind_some]
    by_cases hp : OkP px py
    · simp only [hp, if_true, decide_true, Bool.not_true]
      have := impl_in hp rs h rs.length 0 false (by omega)
      rw [List.drop_zero] at this
      refine Ev.step (fun k => ?_) this
      simp only [impl_Inside.j0, Bool.false_eq_true, if_false]
      rfl
    · simp only [hp, if_false, decide_false, Bool.not_false]
      refine Ev.step (fun k => ?_) (Ev.now _)
      simp [impl_Inside.j0]
  · simp only [h, if_false, Bool.false_eq_true]
    refine Ev.step (fun k => ?_) (Ev.now _)
    simp [impl_Inside.j0]

theorem draw_inside {l : List Int} (hl : Bytes l) (k : Nat) (hk : l.length + 110 < k) : ∃ rs x y, spec_DrawInside.f k l = some (rs, x, y) ∧ FewR rs := by
  unfold spec_DrawInside.f
  obtain ⟨h0, e0⟩ := draw_new hl (k := k) (by omega)
  rw [e0]; simp only [Option.bind_some]
  obtain ⟨rs, i1, h1, e1, f1, c1⟩ := draw_rings hl (h := h0) (Int.le_refl 0) k (by omega)
  rw [e1]; simp only [Option.bind_some]
  obtain ⟨a, i2, h2, e2, _, _, c2⟩ := draw_below hl (h := h1) (n := 200) c1 (by omega)
  rw [e2]; simp only [Option.bind_some]
  obtain ⟨b, i3, h3, e3, _, _, c3⟩ := draw_below hl (h := h2) (n := 200) c2 (by omega)
  rw [e3]; simp only [Option.bind_some]
  obtain ⟨g, i4, h4, e4, c4⟩ := draw_once hl (h := h3) (n := 4) c3 (by omega)
  rw [e4]; simp only [Option.bind_some]
  obtain ⟨k, rfl⟩ : ∃ m, k = m + 1 := ⟨k - 1, by omega⟩
  have no : ∀ u v : Int, ∃ rs' x y, spec_DrawInside.j0 (k + 1) rs false l i4 h4 u v = some (rs', x, y) ∧ FewR rs' := fun u v => ⟨rs, u, v, by simp only [spec_DrawInside.j0, Bool.false_eq_true, if_false], f1⟩
  cases g with
  | false => simp only [Bool.false_eq_true, if_false]; exact no _ _
  | true =>
    simp only [if_true]
    by_cases hp : (rs.length : Int) > 0
    · rw [if_pos hp, if_pos (by omega)]
      by_cases hq : (((rd_T65 rs 0).f0).length : Int) > 1
      · rw [decide_eq_true hq]
        simp only [spec_DrawInside.j0, if_true]
        rw [if_pos (by omega), if_pos (by omega), if_pos (by omega)]
        obtain ⟨g, i5, h5, e5, c5⟩ := draw_once hl (h := h4) (n := 3) c4 (by omega)
        rw [e5]; simp only [Option.bind_some]
        cases g with
        | false => exact ⟨_, _, _, rfl, f1⟩
        | true => exact ⟨_, _, _, rfl, f1⟩
      · rw [decide_eq_false hq]; exact no _ _
    · rw [if_neg hp]; exact no _ _
/-! one ring and all of them -/
theorem walk_not (px py : Int) (row : List S28) (d : Nat) : ∀ (j : Nat) (o : Bool), rowWalk px py row d j (!o) = (rowWalk px py row d j o).map (fun b => !b) := by
  induction d with
  | zero => intro j o; rfl
  | succ d ih =>
    intro j o
    simp only [rowWalk]
    split
    · rfl
    · split
      · exact ih _ _
      · exact ih _ _
/-- What a ring alone does to the count: none where p lies on it. -/
def ring1 (px py : Int) (r : S65) : Option Bool := rowWalk px py r.f0 (r.f0.length - 1) 1 false
theorem walk_ring1 (px py : Int) (r : S65) (o : Bool) : rowWalk px py r.f0 (r.f0.length - 1) 1 o = (ring1 px py r).map (fun b => b ^^ o) := by
  unfold ring1
  cases o with
  | false => simp
  | true =>
    have := walk_not px py r.f0 (r.f0.length - 1) 1 false
    rw [show (true : Bool) = !false from rfl, this]
    congr 1
    funext b; cases b <;> rfl
/-- The count behind rings, and whether p lies on one. -/
def oddOf (px py : Int) : List S65 → Bool → Bool
  | [], o => o
  | r :: rs, o => oddOf px py rs (((ring1 px py r).getD false) ^^ o)
theorem opt_cases {α : Type} (x : Option α) : x = none ∨ ∃ b, x = some b := by cases x with
  | none => exact .inl rfl
  | some b => exact .inr ⟨b, rfl⟩
theorem inside_is (px py : Int) (rs : List S65) (o : Bool) : insideR px py rs o = if rs.any (fun r => (ring1 px py r).isNone) = true then 0 else if oddOf px py rs o = true then 1 else -1 := by
  induction rs generalizing o with
  | nil => simp only [insideR, oddOf, List.any_nil]; cases o <;> rfl
  | cons r rs ih =>
    rcases opt_cases (ring1 px py r) with h | ⟨b, h⟩
    · simp [insideR, walk_ring1, oddOf, h]
    · simp [insideR, walk_ring1, oddOf, h, ih]
theorem one_is (px py : Int) (r : S65) : insideR px py [r] false = match ring1 px py r with | none => 0 | some true => 1 | some false => -1 := by
  rw [inside_is]
  rcases opt_cases (ring1 px py r) with h | ⟨b, h⟩
  · simp [oddOf, h]
  · cases b <;> simp [oddOf, h]
theorem all_ok_loop (l : List S28) (hl : l.length ≤ 3000) (d : Nat) : ∀ j : Nat, j + d = l.length → Ev (fun k => laws_allOk.l0 k l (j : Int)) ((l.drop j).all okB) := by
  induction d with
  | zero =>
    intro j hj
    rw [List.drop_of_length_le (by omega), List.all_nil]
    refine Ev.step (fun k => ?_) (Ev.now _)
    simp only [laws_allOk.l0]
    rw [if_neg (by omega)]
  | succ d ih =>
    intro j hj
    have hlt : j < l.length := by omega
    rw [all_drop _ _ hlt]
    cases hb : okB l[j] with
    | false =>
      rw [Bool.false_and]
      refine Ev.step (fun k => ?_) (Ev.now _)
      simp only [laws_allOk.l0, impl_ok, rdP hlt, Option.bind_some]
      unfold okB at hb
      rw [if_pos (by omega), if_pos (by omega), hb, if_neg (by simp)]
    | true =>
      rw [Bool.true_and]
      refine Ev.step (fun k => ?_) (ih (j + 1) (by omega))
      simp only [laws_allOk.l0, impl_ok, rdP hlt, Option.bind_some]
      unfold okB at hb
      rw [if_pos (by omega), if_pos (by omega), hb, if_pos rfl, w64 (by omega) (by omega)]
      rfl
theorem all_ok (l : List S28) (hl : l.length ≤ 3000) : Ev (fun k => laws_allOk.f k l) (l.all okB) := all_ok_loop l hl l.length 0 (by omega)
theorem closed_some (l : List S28) (hl : l.length ≤ 3000) : ∃ b, laws_closed.f l = some b := by
  unfold laws_closed.f
  by_cases h : (l.length : Int) = 0
  · rw [if_pos h]; exact ⟨_, rfl⟩
  · rw [if_neg h, if_pos (by omega), w64 (by omega) (by omega), if_pos (by omega), if_pos (by omega)]; exact ⟨_, rfl⟩
/-- 1 where a count is odd, else -1. -/
def pm (b : Bool) : Int := if b = true then 1 else -1
theorem law_loop {px py : Int} (hp : OkP px py) (rs : List S65) (hf : FewR rs) (h40 : rs.length ≤ 40) (d : Nat) : ∀ (i : Nat) (on odd : Bool), i + d = rs.length → (∀ q (h : q < i) (hq : q < rs.length), rowB rs[q].f0 = true) →
    on = (rs.take i).any (fun r => (ring1 px py r).isNone) → oddOf px py rs false = oddOf px py (rs.drop i) odd → Ev (fun k => laws_FnEvenOdd.l0 k rs (insideN rs px py) (pm odd) on (i : Int) px py) true := by
  induction d with
  | zero =>
    intro i on odd hi hok hon hodd
    obtain rfl : i = rs.length := by omega
    refine Ev.step (fun k => ?_) (Ev.now _)
    simp only [laws_FnEvenOdd.l0]
    rw [if_neg (by omega)]
    have hall : ringsB rs = true := by
      unfold ringsB
      rw [decide_eq_true h40, Bool.true_and, List.all_eq_true]
      intro r hr
      obtain ⟨q, hq, rfl⟩ := List.getElem_of_mem hr
      exact hok q hq hq
    rw [List.take_length] at hon
    rw [List.drop_length] at hodd
    unfold insideN
    rw [if_pos hall, if_pos hp, inside_is, ← hon, hodd]
    simp only [oddOf]
    cases on with
    | true => simp
    | false => simp only [Bool.false_eq_true, if_false]; unfold pm; cases odd <;> simp
  | succ d ih =>
    intro i on odd hi hok hon hodd
    have hlt : i < rs.length := by omega
    have hrow := hf.2 _ (List.getElem_mem hlt)
    have e1 : wrap64 ((i : Int) + 1) = ((i + 1 : Nat) : Int) := by rw [w64 (by omega) (by omega)]; omega
    obtain ⟨K1, h1⟩ := all_ok rs[i].f0 hrow
    by_cases hb : rowB rs[i].f0 = true
    · have hallok : rs[i].f0.all okB = true := by unfold rowB at hb; rw [Bool.and_eq_true] at hb; exact hb.2
      have hlen : ¬ ((rs[i].f0.length : Int) > 2000) := by have := rowB_len hb; omega
      have hsub : (rs.take (i + 1)).drop i = [rs[i]] := by
        rw [List.take_add_one, List.getElem?_eq_getElem hlt, Option.toList_some, List.drop_append_of_le_length (by rw [List.length_take]; omega), List.drop_of_length_le (by rw [List.length_take]; omega), List.nil_append]
      obtain ⟨K2, h2⟩ := impl_inside [rs[i]] px py
      have hN : insideN [rs[i]] px py = match ring1 px py rs[i] with | none => 0 | some true => 1 | some false => -1 := by
        have h1r : ringsB [rs[i]] = true := by unfold ringsB; simp [hb]
        unfold insideN
        rw [if_pos h1r, if_pos hp, one_is]
      obtain ⟨cb, hc⟩ := closed_some rs[i].f0 hrow
      have hon' : (rs.take (i + 1)).any (fun r => (ring1 px py r).isNone) = (on || (ring1 px py rs[i]).isNone) := by
        rw [List.take_add_one, List.getElem?_eq_getElem hlt, Option.toList_some, List.any_append, ← hon]; simp
      have hodd' : oddOf px py rs false = oddOf px py (rs.drop (i + 1)) ((((ring1 px py rs[i]).getD false)) ^^ odd) := by
        rw [hodd, List.drop_eq_getElem_cons hlt]; rfl
      have hok' : ∀ q (h : q < i + 1) (hq : q < rs.length), rowB rs[q].f0 = true := by
        intro q h hq
        by_cases hqi : q < i
        · exact hok q hqi hq
        · obtain rfl : q = i := by omega
          exact hb
      obtain ⟨K3, h3⟩ := ih (i + 1) (on || (ring1 px py rs[i]).isNone) ((((ring1 px py rs[i]).getD false)) ^^ odd) (by omega) hok' hon'.symm hodd'
      refine ⟨K1 + K2 + K3 + 10, fun m hm => ?_⟩
      obtain ⟨k, rfl⟩ : ∃ k, m = k + 1 + 1 + 1 + 1 := ⟨m - 4, by omega⟩
      have h1 := h1 (k + 1 + 1 + 1) (by omega)
      have h2 := h2 (k + 1 + 1) (by omega)
      have h3 := h3 k (by omega)
      simp only at h1 h2 h3
      simp only [laws_FnEvenOdd.l0, rdR hlt]
      rw [if_pos (by omega), if_pos (by omega), h1, hallok]
      simp only [Option.bind_some, if_true]
      rw [decide_eq_false hlen]
      simp only [laws_FnEvenOdd.j2, Bool.false_eq_true, if_false, e1]
      rw [if_pos (by omega), if_pos (by omega), if_pos (by omega), Int.toNat_natCast, Int.toNat_natCast, hsub, h2, hN]
      simp only [Option.bind_some]
      have j4 : ∀ (x on' : Bool) (odd' : Int), laws_FnEvenOdd.j4 (k + 1) rs (insideN rs px py) odd' on' (i : Int) x px py = if cb = true then laws_FnEvenOdd.l0 k rs (insideN rs px py) (if x = true then wrap64 (-odd') else odd') on' ((i + 1 : Nat) : Int) px py else some true := by
        intro x on' odd'
        cases x with
        | false =>
          simp only [laws_FnEvenOdd.j4, rdR hlt, hc, Option.bind_some, e1, Bool.false_eq_true, if_false]
          rw [if_pos (by omega), if_pos (by omega)]
        | true =>
          simp only [laws_FnEvenOdd.j4, rdR hlt, hc, Option.bind_some, e1, if_true]
          rw [if_pos (by omega), if_pos (by omega)]
      have fin : ∀ (v : Int) (on' : Bool), (v = 1 ∨ v ≠ 1) → (v = 1 → (ring1 px py rs[i]).getD false = true) → (v ≠ 1 → (ring1 px py rs[i]).getD false = false) → on' = (on || (ring1 px py rs[i]).isNone) →
          laws_FnEvenOdd.j3 (k + 1 + 1) rs (insideN rs px py) (pm odd) on' (i : Int) v px py = some true := by
        intro v on' hv hv1 hv2 ho
        simp only [laws_FnEvenOdd.j3, rdR hlt, hc, Option.bind_some, j4]
        cases cb with
        | false =>
          simp only [Bool.false_eq_true, if_false]
          by_cases g : v = 1
          · rw [if_pos g, if_pos (by omega), if_pos (by omega)]
          · rw [if_neg g]
        | true =>
          by_cases g : v = 1
          · rw [if_pos g, if_pos (by omega), if_pos (by omega)]
            simp only [if_true]
            rw [hv1 g, ← ho] at h3
            have : wrap64 (-pm odd) = pm (true ^^ odd) := by unfold pm wrap64; cases odd <;> simp
            rw [this]; exact h3
          · rw [if_neg g]
            simp only [if_true, Bool.false_eq_true, if_false]
            rw [hv2 g, ← ho] at h3
            have : pm odd = pm (false ^^ odd) := by cases odd <;> rfl
            rw [this]; exact h3
      cases hr1 : ring1 px py rs[i] with
      | none =>
        rw [hr1] at fin
        cases on with
        | true => simp only [if_true]; exact fin 0 true (by omega) (by omega) (fun _ => rfl) rfl
        | false => simp only [Bool.false_eq_true, if_false]; exact fin 0 _ (by omega) (by omega) (fun _ => rfl) rfl
      | some b =>
        rw [hr1] at fin
        cases b with
        | true =>
          cases on with
          | true => simp only [if_true]; exact fin 1 true (by omega) (fun _ => rfl) (by omega) rfl
          | false => simp only [Bool.false_eq_true, if_false]; exact fin 1 _ (by omega) (fun _ => rfl) (by omega) rfl
        | false =>
          cases on with
          | true => simp only [if_true]; exact fin (-1) true (by omega) (by omega) (fun _ => rfl) rfl
          | false => simp only [Bool.false_eq_true, if_false]; exact fin (-1) _ (by omega) (by omega) (fun _ => rfl) rfl
    · have hN : insideN rs px py = -1 := by
        unfold insideN
        have : ¬ ringsB rs = true := fun h => hb (ringsB_get h (List.getElem_mem hlt))
        rw [if_neg this]
      have yes : ∀ k, laws_FnEvenOdd.j2 (k + 1) rs (insideN rs px py) (pm odd) on (i : Int) true px py = some true := fun k => by
        simp only [laws_FnEvenOdd.j2, if_true, hN]; rfl
      refine ⟨K1 + 2, fun m hm => ?_⟩
      obtain ⟨k, rfl⟩ : ∃ k, m = k + 1 + 1 := ⟨m - 2, by omega⟩
      have h1 := h1 (k + 1) (by omega)
      simp only at h1
      simp only [laws_FnEvenOdd.l0, rdR hlt]
      rw [if_pos (by omega), if_pos (by omega), h1]
      simp only [Option.bind_some]
      by_cases ho : rs[i].f0.all okB = true
      · rw [if_pos ho]
        have hlen : (rs[i].f0.length : Int) > 2000 := by
          by_cases hl : rs[i].f0.length ≤ 2000
          · exact absurd (by unfold rowB; rw [decide_eq_true hl, ho]; rfl) hb
          · omega
        rw [decide_eq_true hlen]
        exact yes k
      · rw [if_neg ho]
        exact yes k
theorem FnEvenOdd : laws_FnEvenOdd.Pure := by
  intro l hm hl hb
  have hl' : Bytes l := by unfold Bytes; omega
  suffices h : Ev (fun k => laws_FnEvenOdd.f k l) true from h.rounds
  unfold laws_FnEvenOdd.f laws_big.f
  simp only [Option.bind_some, decide_eq_true_eq]
  by_cases hbig : (l.length : Int) > 1048576
  · simp only [if_pos hbig]; exact Ev.now _
  · simp only [if_neg hbig]
    obtain ⟨rs, x, y, e0, f0⟩ := draw_inside hl' (l.length + 111) (by omega)
    refine Ev.bind (Ev.of (fun k => spec_DrawInside.mono l k) e0) ?_
    have e1 : insideN [(⟨[(⟨0, 0⟩ : S28), ⟨4, 0⟩, ⟨0, 4⟩, ⟨0, 0⟩], false⟩ : S65)] 1 1 = 1 := by decide +kernel
    have ev1 := impl_inside [(⟨[(⟨0, 0⟩ : S28), ⟨4, 0⟩, ⟨0, 4⟩, ⟨0, 0⟩], false⟩ : S65)] 1 1
    rw [e1] at ev1
    refine Ev.bind ev1 ?_
    simp only [if_true]
    refine Ev.bind (impl_inside rs x y) ?_
    have minus : insideN rs x y = -1 → Ev (fun k => laws_FnEvenOdd.j0 k rs (insideN rs x y) true x y) true := fun h => Ev.step (fun k => by simp only [laws_FnEvenOdd.j0, if_true, h]; rfl) (Ev.now _)
    by_cases h40 : (rs.length : Int) > 40
    · simp only [if_pos h40]
      refine minus ?_
      unfold insideN
      rw [if_neg (fun h => by have := ringsB_len h; omega)]
    · simp only [if_neg h40, impl_ok, Option.bind_some]
      by_cases hp : OkP x y
      · simp only [decide_eq_true hp, Bool.not_true]
        refine Ev.step (fun k => ?_) (law_loop hp rs f0 (by omega) rs.length 0 false false (by omega) (by omega) rfl rfl)
        simp only [laws_FnEvenOdd.j0, Bool.false_eq_true, if_false]
        rfl
      · simp only [decide_eq_false hp, Bool.not_false]
        refine minus ?_
        unfold insideN
        simp only [if_neg hp]
        split <;> rfl

end Go.Proofs.Ytolejglfohagnaa.Pure
