/- Inside of the program and of the reference give the same number at every rings and point. No condition beyond the statement's own guard. -/
import Derived.Test.YtolejglfohagnaaPreFnExactInside
import Derived.Test.YtolejglfohagnaaVFnExactInsidea
namespace Go.Proofs.Ytolejglfohagnaa.Pure
open Go.RowKit Go.Proofs.Ytolejglfohagnaa.PFnExactInside Go.Proofs.Ytolejglfohagnaa.PreFnExactInside Go.Proofs.YtolejglfohagnaaW.PrintWords Go.Proofs.YtolejglfohagnaaW.PrintLast Go.Proofs.YtolejglfohagnaaW.PrintMore Go.Proofs.YtolejglfohagnaaW.Math
set_option linter.unusedVariables false
set_option linter.unusedSimpArgs false

theorem rdP {l : List S28} {j : Nat} (h : j < l.length) : rd_T28 l (j : Int) = l[j] := by
  unfold rd_T28
  simp [List.getD_eq_getElem?_getD, h]
theorem rdL {l : List S23} {j : Nat} (h : j < l.length) : rd_T23 l (j : Int) = l[j] := by
  unfold rd_T23
  simp [List.getD_eq_getElem?_getD, h]
/-- A point of the statement's, as the program's. -/
def toP (p : S23) : S28 := ⟨p.f0, p.f1⟩
theorem sz_points {l : List S23} (hl : l.length ≤ 9223372036854775807) : laws_szPointS.f l 1048576 = some (if 1048576 < l.length then -1 else 1048576 - (l.length : Int)) := by
  unfold laws_szPointS.f
  rw [w64 (by omega) (by omega)]
  by_cases h : 1048576 < l.length
  · rw [if_pos (by omega), if_pos h]
  · rw [if_neg (by omega), if_neg h]
theorem to_points_loop (l : List S23) (hl : l.length ≤ 1048576) (d : Nat) : ∀ j : Nat, j + d = l.length → Ev (fun k => laws_toPointS.l0 k l ((l.take j).map toP ++ List.replicate d z28) j) (l.map toP) := by
  induction d with
  | zero =>
    intro j hj
    obtain rfl : j = l.length := by omega
    refine Ev.step (fun k => ?_) (Ev.now _)
    simp only [laws_toPointS.l0]
    rw [if_neg (by omega), List.take_length]
    simp
  | succ d ih =>
    intro j hj
    have hlt : j < l.length := by omega
    have hlen : ((l.take j).map toP).length = j := by rw [List.length_map, List.length_take]; omega
    refine Ev.step (fun k => ?_) (ih (j + 1) (by omega))
    simp only [laws_toPointS.l0, laws_toPoint.f, Option.bind_some]
    rw [if_pos (by omega), if_pos (by omega), if_pos (by rw [List.length_append, List.length_replicate, hlen]; omega), w64 (n := (j : Int) + 1) (by omega) (by omega), rdL hlt, Int.toNat_natCast]
    have h := fill_set ((l.take j).map toP) z28 (toP l[j]) d
    rw [hlen] at h
    have e : (⟨l[j].f0, l[j].f1⟩ : S28) = toP l[j] := rfl
    rw [e, h, take_next l hlt, List.map_append]
    rfl
theorem to_points {l : List S23} (hl : l.length ≤ 1048576) : Ev (fun k => laws_toPointS.f k l) (l.map toP) := by
  have h := to_points_loop l hl l.length 0 (by omega)
  refine Ev.congr (fun k => ?_) h
  unfold laws_toPointS.f
  rw [if_pos (by omega), if_pos (by simp; omega)]
  simp
theorem eq_points_loop (l : List S28) (hl : l.length ≤ 1048576) (d : Nat) : ∀ j : Nat, j + d = l.length → Ev (fun k => laws_eqPointS.l0 k l l j) true := by
  induction d with
  | zero =>
    intro j hj
    refine Ev.step (fun k => ?_) (Ev.now _)
    simp only [laws_eqPointS.l0]
    rw [if_neg (by omega)]
  | succ d ih =>
    intro j hj
    refine Ev.step (fun k => ?_) (ih (j + 1) (by omega))
    simp only [laws_eqPointS.l0, laws_eqPoint.f]
    rw [if_pos (by omega), if_pos (by omega), if_pos (by omega), w64 (n := (j : Int) + 1) (by omega) (by omega)]
    simp
theorem eq_points {l : List S28} (hl : l.length ≤ 1048576) : Ev (fun k => laws_eqPointS.f k l l) true := by
  refine Ev.congr (fun k => ?_) (eq_points_loop l hl l.length 0 (by omega))
  unfold laws_eqPointS.f
  rw [if_pos rfl]
  rfl

/-- A point of the map, as a word. -/
def okB (p : S28) : Bool := decide (OkP p.f0 p.f1)
/-- A row of the map. -/
def rowB (l : List S28) : Bool := decide (l.length ≤ 2000) && l.all okB
theorem all_drop {α : Type} (f : α → Bool) (l : List α) {j : Nat} (h : j < l.length) : (l.drop j).all f = (f l[j] && (l.drop (j + 1)).all f) := by
  rw [List.drop_eq_getElem_cons h, List.all_cons]
theorem rowB_len {l : List S28} (h : rowB l = true) : l.length ≤ 2000 := by
  unfold rowB at h
  simp at h
  exact h.1
theorem rowB_get {l : List S28} (h : rowB l = true) {j : Nat} (hj : j < l.length) : OkP l[j].f0 l[j].f1 := by
  unfold rowB okB at h
  simp at h
  exact h.2 _ (List.getElem_mem hj)

theorem rdR {l : List S65} {j : Nat} (h : j < l.length) : rd_T65 l (j : Int) = l[j] := by
  unfold rd_T65
  simp [List.getD_eq_getElem?_getD, h]
theorem rdRL {l : List S133} {j : Nat} (h : j < l.length) : rd_T133 l (j : Int) = l[j] := by
  unfold rd_T133
  simp [List.getD_eq_getElem?_getD, h]
/-- A ring of the statement's, as the program's. -/
def toR (r : S133) : S65 := ⟨r.f0.map toP, r.f1⟩
/-- How many points are left free by rings, those from there on; below 0 where they are too many. -/
def ringsLeft : List S133 → Int → Int
  | [], n => n
  | r :: rs, n => if n - r.f0.length < 0 then -1 else ringsLeft rs (n - r.f0.length)
theorem ringsLeft_le (rs : List S133) (n : Int) (h : 0 ≤ n) : -1 ≤ ringsLeft rs n ∧ ringsLeft rs n ≤ n ∧ (0 ≤ ringsLeft rs n → ∀ r ∈ rs, (r.f0.length : Int) ≤ n) := by
  induction rs generalizing n with
  | nil => simp only [ringsLeft]; exact ⟨by omega, by omega, fun _ r hr => by simp at hr⟩
  | cons r rs ih =>
    simp only [ringsLeft]
    split
    · exact ⟨by omega, by omega, fun h => by omega⟩
    · obtain ⟨h1, h2, h3⟩ := ih (n - r.f0.length) (by omega)
      refine ⟨h1, by omega, fun h0 q hq => ?_⟩
      rcases List.mem_cons.1 hq with rfl | hq
      · omega
      · have := h3 h0 q hq
        omega
theorem sz_points_n {l : List S23} (hl : l.length ≤ 9223372036854775807) {n : Int} (h0 : 0 ≤ n) (h1 : n ≤ 1048576) : laws_szPointS.f l n = some (if n - (l.length : Int) < 0 then -1 else n - (l.length : Int)) := by
  unfold laws_szPointS.f
  rw [w64 (by omega) (by omega)]
  split <;> rfl
theorem sz_rings_loop (l : List S133) (hl : l.length ≤ 9223372036854775807) (hs : ∀ t ∈ l, t.f0.length ≤ 9223372036854775807) (d : Nat) : ∀ (j : Nat) (n : Int), j + d = l.length → 0 ≤ n → n ≤ 1048576 → Ev (fun k => laws_szRingS.l0 k l n j) (ringsLeft (l.drop j) n) := by
  induction d with
  | zero =>
    intro j n hj h0 h1
    rw [List.drop_of_length_le (by omega)]
    refine Ev.step (fun k => ?_) (Ev.now _)
    simp only [laws_szRingS.l0]
    rw [if_neg (by omega)]
    rfl
  | succ d ih =>
    intro j n hj h0 h1
    have hlt : j < l.length := by omega
    have s0 := hs _ (List.getElem_mem hlt)
    rw [List.drop_eq_getElem_cons hlt]
    simp only [ringsLeft]
    by_cases c0 : n - (l[j].f0.length : Int) < 0
    · rw [if_pos c0]
      refine Ev.step (fun k => ?_) (Ev.now _)
      simp only [laws_szRingS.l0, laws_szRing.f]
      rw [if_pos (by omega), if_pos (by omega), rdRL hlt, sz_points_n s0 h0 h1, if_pos c0]
      rfl
    · rw [if_neg c0]
      refine Ev.step (fun k => ?_) (ih (j + 1) _ (by omega) (by omega) (by omega))
      simp only [laws_szRingS.l0, laws_szRing.f]
      rw [if_pos (by omega), if_pos (by omega), rdRL hlt, sz_points_n s0 h0 h1, if_neg c0]
      simp only [Option.bind_some]
      rw [if_neg c0]
      simp only [Option.bind_some]
      rw [if_neg c0, w64 (n := (j : Int) + 1) (by omega) (by omega)]
      rfl
/-- What szRingS answers. -/
def ringsSize (l : List S133) (n : Int) : Int := if n - l.length < 0 then -1 else ringsLeft l (n - l.length)
theorem sz_rings {l : List S133} (hl : l.length ≤ 9223372036854775807) (hs : ∀ t ∈ l, t.f0.length ≤ 9223372036854775807) {n : Int} (h0 : 0 ≤ n) (h1 : n ≤ 1048576) : Ev (fun k => laws_szRingS.f k l n) (ringsSize l n) := by
  unfold laws_szRingS.f ringsSize
  simp only [w64 (n := n - (l.length : Int)) (by omega) (by omega)]
  by_cases h : n - (l.length : Int) < 0
  · simp only [if_pos h]
    exact Ev.now _
  · simp only [if_neg h]
    have := sz_rings_loop l hl hs l.length 0 (n - l.length) (by omega) (by omega) (by omega)
    rw [List.drop_zero] at this
    exact this
theorem ringsSize_le (l : List S133) {n : Int} (h0 : 0 ≤ n) (h : 0 ≤ ringsSize l n) : (l.length : Int) ≤ n ∧ ∀ r ∈ l, (r.f0.length : Int) ≤ n := by
  unfold ringsSize at h
  split at h
  · omega
  · have := ringsLeft_le l (n - l.length) (by omega)
    exact ⟨by omega, fun r hr => by have := this.2.2 h r hr; omega⟩
theorem to_ring {r : S133} (h : r.f0.length ≤ 1048576) : Ev (fun k => laws_toRing.f k r.f0 r.f1) (r.f0.map toP, r.f1) := by
  unfold laws_toRing.f
  exact Ev.bind (to_points h) (Ev.now _)
theorem to_rings_loop (l : List S133) (hl : l.length ≤ 1048576) (hs : ∀ t ∈ l, t.f0.length ≤ 1048576) (d : Nat) : ∀ j : Nat, j + d = l.length → Ev (fun k => laws_toRingS.l0 k l ((l.take j).map toR ++ List.replicate d z65) j) (l.map toR) := by
  induction d with
  | zero =>
    intro j hj
    obtain rfl : j = l.length := by omega
    refine Ev.step (fun k => ?_) (Ev.now _)
    simp only [laws_toRingS.l0]
    rw [if_neg (by omega), List.take_length]
    simp
  | succ d ih =>
    intro j hj
    have hlt : j < l.length := by omega
    have hlen : ((l.take j).map toR).length = j := by rw [List.length_map, List.length_take]; omega
    have h := fill_set ((l.take j).map toR) z65 (toR l[j]) d
    rw [hlen] at h
    refine Ev.step (f := fun k => (laws_toRing.f k l[j].f0 l[j].f1).bind fun b => laws_toRingS.l0 k l (((l.take j).map toR ++ List.replicate (d + 1) z65).set j (⟨b.1, b.2⟩ : S65)) ((j + 1 : Nat) : Int)) (fun k => ?_) (Ev.bind (to_ring (hs _ (List.getElem_mem hlt))) ?_)
    · simp only [laws_toRingS.l0]
      rw [if_pos (by omega), if_pos (by omega), rdRL hlt, w64 (n := (j : Int) + 1) (by omega) (by omega)]
      congr 1
      funext b
      rw [if_pos (by rw [List.length_append, List.length_replicate, hlen]; omega), Int.toNat_natCast]
      rfl
    · have e : (⟨l[j].f0.map toP, l[j].f1⟩ : S65) = toR l[j] := rfl
      simp only [e]
      rw [h]
      have h2 := ih (j + 1) (by omega)
      rw [take_next l hlt, List.map_append] at h2
      exact h2
theorem to_rings {l : List S133} (hl : l.length ≤ 1048576) (hs : ∀ t ∈ l, t.f0.length ≤ 1048576) : Ev (fun k => laws_toRingS.f k l) (l.map toR) := by
  have h := to_rings_loop l hl hs l.length 0 (by omega)
  refine Ev.congr (fun k => ?_) h
  unfold laws_toRingS.f
  rw [if_pos (by omega), if_pos (by simp; omega)]
  simp
theorem eq_ring {r : S65} (h : r.f0.length ≤ 1048576) : Ev (fun k => laws_eqRing.f k r.f0 r.f1 r.f0 r.f1) true := by
  unfold laws_eqRing.f
  refine Ev.bind (eq_points h) ?_
  simp only [if_true, bne_self_eq_false, Bool.false_eq_true, if_false]
  exact Ev.now _
theorem eq_rings_loop (l : List S65) (hl : l.length ≤ 1048576) (hs : ∀ t ∈ l, t.f0.length ≤ 1048576) (d : Nat) : ∀ j : Nat, j + d = l.length → Ev (fun k => laws_eqRingS.l0 k l l j) true := by
  induction d with
  | zero =>
    intro j hj
    refine Ev.step (fun k => ?_) (Ev.now _)
    simp only [laws_eqRingS.l0]
    rw [if_neg (by omega)]
  | succ d ih =>
    intro j hj
    have hlt : j < l.length := by omega
    refine Ev.step (f := fun k => (laws_eqRing.f k l[j].f0 l[j].f1 l[j].f0 l[j].f1).bind fun b => if b = true then laws_eqRingS.l0 k l l ((j + 1 : Nat) : Int) else some false) (fun k => ?_) (Ev.bind (eq_ring (hs _ (List.getElem_mem hlt))) ?_)
    · simp only [laws_eqRingS.l0]
      rw [if_pos (by omega), if_pos (by omega), if_pos (by omega), rdR hlt, w64 (n := (j : Int) + 1) (by omega) (by omega)]
      rfl
    · simp only [if_true]
      exact ih (j + 1) (by omega)
theorem eq_rings {l : List S65} (hl : l.length ≤ 1048576) (hs : ∀ t ∈ l, t.f0.length ≤ 1048576) : Ev (fun k => laws_eqRingS.f k l l) true := by
  refine Ev.congr (fun k => ?_) (eq_rings_loop l hl hs l.length 0 (by omega))
  unfold laws_eqRingS.f
  rw [if_pos rfl]
  rfl
/-- Rings of the map. -/
def ringsB (l : List S65) : Bool := decide (l.length ≤ 40) && l.all (fun r => rowB r.f0)
theorem ringsB_get {l : List S65} (h : ringsB l = true) {r : S65} (hr : r ∈ l) : rowB r.f0 = true := by
  unfold ringsB at h
  rw [Bool.and_eq_true, List.all_eq_true] at h
  exact h.2 r hr
theorem ringsB_len {l : List S65} (h : ringsB l = true) : l.length ≤ 40 := by
  unfold ringsB at h
  rw [Bool.and_eq_true, decide_eq_true_eq] at h
  exact h.1

theorem spec_ok (x y : Int) : spec_PointOk.f x y = some (decide (OkP x y)) := by
  unfold spec_PointOk.f OkP
  grind

theorem spec_row_loop (l : List S28) (hl : l.length ≤ 1048576) (d : Nat) : ∀ j : Nat, j + d = l.length → Ev (fun k => spec_l1RowOk.l0 k l j) (decide (l.length ≤ 2000) && (l.drop j).all okB) := by
  induction d with
  | zero =>
    intro j hj
    rw [List.drop_of_length_le (by omega), List.all_nil, Bool.and_true]
    refine Ev.step (f := fun k => spec_l1RowOk.j1 k l j false) (fun k => ?_) (Ev.step (fun k => ?_) (Ev.now _))
    · simp only [spec_l1RowOk.l0]
      rw [if_neg (by omega)]
    · simp only [spec_l1RowOk.j1]
      rw [if_neg (by simp)]
      simp
      omega
  | succ d ih =>
    intro j hj
    have hlt : j < l.length := by omega
    by_cases h2 : l.length ≤ 2000
    · rw [decide_eq_true h2, Bool.true_and, all_drop _ _ hlt]
      have h1 : ∀ k, spec_l1RowOk.l0 (k + 1) l j = spec_l1RowOk.j1 k l j true := fun k => by
        simp only [spec_l1RowOk.l0]
        rw [if_pos (by omega), decide_eq_true (by omega)]
      refine Ev.step h1 ?_
      by_cases hp : OkP l[j].f0 l[j].f1
      · have hB : okB l[j] = true := decide_eq_true hp
        have h := ih (j + 1) (by omega)
        rw [decide_eq_true h2, Bool.true_and] at h
        rw [hB, Bool.true_and]
        refine Ev.step (fun k => ?_) h
        simp only [spec_l1RowOk.j1, spec_ok, Option.bind_some, if_true]
        rw [if_pos (by omega), if_pos (by omega), rdP hlt, if_pos (decide_eq_true hp), w64 (n := (j : Int) + 1) (by omega) (by omega)]
        rfl
      · have hB : okB l[j] = false := decide_eq_false hp
        rw [hB, Bool.false_and]
        refine Ev.step (fun k => ?_) (Ev.now _)
        simp only [spec_l1RowOk.j1, spec_ok, Option.bind_some, if_true]
        rw [if_pos (by omega), if_pos (by omega), rdP hlt, if_neg (by simp [hp])]
    · rw [decide_eq_false h2, Bool.false_and]
      refine Ev.step (f := fun k => spec_l1RowOk.j1 k l j false) (fun k => ?_) (Ev.step (fun k => ?_) (Ev.now _))
      · simp only [spec_l1RowOk.l0]
        rw [if_pos (by omega), decide_eq_false (by omega)]
      · simp only [spec_l1RowOk.j1]
        rw [if_neg (by simp), decide_eq_false (by omega)]
theorem spec_row {l : List S28} (hl : l.length ≤ 1048576) : Ev (fun k => spec_l1RowOk.f k l) (rowB l) := by
  have h := spec_row_loop l hl l.length 0 (by omega)
  rw [List.drop_zero] at h
  exact h

theorem spec_rings_loop (l : List S65) (hl : l.length ≤ 1048576) (hs : ∀ t ∈ l, t.f0.length ≤ 1048576) (d : Nat) : ∀ j : Nat, j + d = l.length → Ev (fun k => spec_l4RowsOk.l0 k l j) (decide (l.length ≤ 40) && (l.drop j).all (fun r => rowB r.f0)) := by
  induction d with
  | zero =>
    intro j hj
    rw [List.drop_of_length_le (by omega), List.all_nil, Bool.and_true]
    refine Ev.step (f := fun k => spec_l4RowsOk.j1 k l j false) (fun k => ?_) (Ev.step (fun k => ?_) (Ev.now _))
    · simp only [spec_l4RowsOk.l0]
      rw [if_neg (by omega)]
    · simp only [spec_l4RowsOk.j1]
      rw [if_neg (by simp)]
      simp
      omega
  | succ d ih =>
    intro j hj
    have hlt : j < l.length := by omega
    by_cases h2 : l.length ≤ 40
    · rw [decide_eq_true h2, Bool.true_and, all_drop _ _ hlt]
      have h1 : ∀ k, spec_l4RowsOk.l0 (k + 1) l j = spec_l4RowsOk.j1 k l j true := fun k => by
        simp only [spec_l4RowsOk.l0]
        rw [if_pos (by omega), decide_eq_true (by omega)]
      refine Ev.step h1 ?_
      refine Ev.step (f := fun k => (spec_l1RowOk.f k l[j].f0).bind fun b => if b = true then spec_l4RowsOk.l0 k l ((j + 1 : Nat) : Int) else some false) (fun k => ?_) (Ev.bind (spec_row (hs _ (List.getElem_mem hlt))) ?_)
      · simp only [spec_l4RowsOk.j1, if_true]
        rw [if_pos (by omega), if_pos (by omega), rdR hlt, w64 (n := (j : Int) + 1) (by omega) (by omega)]
        rfl
      · by_cases hp : rowB l[j].f0 = true
        · have h := ih (j + 1) (by omega)
          rw [decide_eq_true h2, Bool.true_and] at h
          simp only [hp, if_true, Bool.true_and]
          exact h
        · simp only [hp, if_false, Bool.false_and, Bool.not_eq_true] at *
          exact Ev.now _
    · rw [decide_eq_false h2, Bool.false_and]
      refine Ev.step (f := fun k => spec_l4RowsOk.j1 k l j false) (fun k => ?_) (Ev.step (fun k => ?_) (Ev.now _))
      · simp only [spec_l4RowsOk.l0]
        rw [if_pos (by omega), decide_eq_false (by omega)]
      · simp only [spec_l4RowsOk.j1]
        rw [if_neg (by simp), decide_eq_false (by omega)]
theorem spec_rings {l : List S65} (hl : l.length ≤ 1048576) (hs : ∀ t ∈ l, t.f0.length ≤ 1048576) : Ev (fun k => spec_l4RowsOk.f k l) (ringsB l) := by
  have h := spec_rings_loop l hl hs l.length 0 (by omega)
  rw [List.drop_zero] at h
  exact h

theorem impl_ok (x y : Int) : impl_PointOk.f x y = some (decide (OkP x y)) := by
  unfold impl_PointOk.f OkP
  grind

theorem impl_row_loop (l : List S28) (hl : l.length ≤ 2000) (d : Nat) : ∀ j : Nat, j + d = l.length → Ev (fun k => impl_rowOk.l0 k l (l.length : Int) j) ((l.drop j).all okB) := by
  induction d with
  | zero =>
    intro j hj
    rw [List.drop_of_length_le (by omega), List.all_nil]
    refine Ev.step (fun k => ?_) (Ev.now _)
    simp only [impl_rowOk.l0]
    rw [if_neg (by omega)]
  | succ d ih =>
    intro j hj
    have hlt : j < l.length := by omega
    rw [all_drop _ _ hlt]
    by_cases hp : OkP l[j].f0 l[j].f1
    · have hB : okB l[j] = true := decide_eq_true hp
      rw [hB, Bool.true_and]
      refine Ev.step (fun k => ?_) (ih (j + 1) (by omega))
      simp only [impl_rowOk.l0, impl_ok, Option.bind_some]
      rw [if_pos (by omega), if_pos (by omega), if_pos (by omega), rdP hlt, if_pos (decide_eq_true hp), w64 (n := (j : Int) + 1) (by omega) (by omega)]
      rfl
    · have hB : okB l[j] = false := decide_eq_false hp
      rw [hB, Bool.false_and]
      refine Ev.step (fun k => ?_) (Ev.now _)
      simp only [impl_rowOk.l0, impl_ok, Option.bind_some]
      rw [if_pos (by omega), if_pos (by omega), if_pos (by omega), rdP hlt, if_neg (by simp [hp])]
theorem impl_row (l : List S28) : Ev (fun k => impl_rowOk.f k l) (rowB l) := by
  unfold rowB
  by_cases h : l.length ≤ 2000
  · have h1 := impl_row_loop l h l.length 0 (by omega)
    rw [List.drop_zero] at h1
    rw [decide_eq_true h, Bool.true_and]
    refine Ev.congr (fun k => ?_) h1
    unfold impl_rowOk.f
    rw [if_neg (by omega)]
    rfl
  · rw [decide_eq_false h, Bool.false_and]
    refine Ev.congr (fun k => ?_) (Ev.now _)
    unfold impl_rowOk.f
    rw [if_pos (by omega)]

theorem impl_rings_loop (l : List S65) (hl : l.length ≤ 40) (d : Nat) : ∀ j : Nat, j + d = l.length → Ev (fun k => impl_ringsOk.l0 k l (l.length : Int) j) ((l.drop j).all (fun r => rowB r.f0)) := by
  induction d with
  | zero =>
    intro j hj
    rw [List.drop_of_length_le (by omega), List.all_nil]
    refine Ev.step (fun k => ?_) (Ev.now _)
    simp only [impl_ringsOk.l0]
    rw [if_neg (by omega)]
  | succ d ih =>
    intro j hj
    have hlt : j < l.length := by omega
    rw [all_drop _ _ hlt]
    refine Ev.step (f := fun k => (impl_rowOk.f k l[j].f0).bind fun b => if b = true then impl_ringsOk.l0 k l (l.length : Int) ((j + 1 : Nat) : Int) else some false) (fun k => ?_) (Ev.bind (impl_row _) ?_)
    · simp only [impl_ringsOk.l0]
      rw [if_pos (by omega), if_pos (by omega), if_pos (by omega), rdR hlt, w64 (n := (j : Int) + 1) (by omega) (by omega)]
      rfl
    · by_cases hp : rowB l[j].f0 = true
      · simp only [hp, if_true, Bool.true_and]
        exact ih (j + 1) (by omega)
      · simp only [hp, if_false, Bool.false_and, Bool.not_eq_true] at *
        exact Ev.now _
theorem impl_rings (l : List S65) : Ev (fun k => impl_ringsOk.f k l) (ringsB l) := by
  unfold ringsB
  by_cases h : l.length ≤ 40
  · have h1 := impl_rings_loop l h l.length 0 (by omega)
    rw [List.drop_zero] at h1
    rw [decide_eq_true h, Bool.true_and]
    refine Ev.congr (fun k => ?_) h1
    unfold impl_ringsOk.f
    rw [if_neg (by omega)]
    rfl
  · rw [decide_eq_false h, Bool.false_and]
    refine Ev.congr (fun k => ?_) (Ev.now _)
    unfold impl_ringsOk.f
    rw [if_pos (by omega)]

theorem spec_sg (n : Int) : spec_l1Sign.f n = some (sg n) := by unfold spec_l1Sign.f sg; repeat' split <;> simp_all
theorem spec_turn {ax ay bx by_ cx cy : Int} (ha : OkP ax ay) (hb : OkP bx by_) (hc : OkP cx cy) : spec_l1Turn.f ax ay bx by_ cx cy = some (sg (det ax ay bx by_ cx cy)) := by
  unfold OkP at *
  have h1 := mul_bd (p := bx - ax) (q := cy - ay) (B := 20000000) (C := 20000000) (by omega) (by omega) (by omega) (by omega)
  have h2 := mul_bd (p := by_ - ay) (q := cx - ax) (B := 20000000) (C := 20000000) (by omega) (by omega) (by omega) (by omega)
  unfold spec_l1Turn.f
  rw [w64 (n := bx - ax) (by omega) (by omega), w64 (n := cy - ay) (by omega) (by omega), w64 (n := by_ - ay) (by omega) (by omega), w64 (n := cx - ax) (by omega) (by omega),
    w64 (n := (bx - ax) * (cy - ay)) (by omega) (by omega), w64 (n := (by_ - ay) * (cx - ax)) (by omega) (by omega), w64 (by omega) (by omega), spec_sg]
  rfl

/-- p lies on the closed stretch from a to b. -/
def On (ax ay bx by_ px py : Int) : Prop := det ax ay bx by_ px py = 0 ∧ (ax ≤ px ∧ px ≤ bx ∨ bx ≤ px ∧ px ≤ ax) ∧ (ay ≤ py ∧ py ≤ by_ ∨ by_ ≤ py ∧ py ≤ ay)
instance (ax ay bx by_ px py : Int) : Decidable (On ax ay bx by_ px py) := by unfold On; infer_instance
theorem sg_zero (n : Int) : sg n = 0 ↔ n = 0 := by unfold sg; repeat' split <;> omega
/-- Two closed stretches have a place in common. -/
def Meet (ax ay bx by_ cx cy dx dy : Int) : Prop :=
  On ax ay bx by_ cx cy ∨ On ax ay bx by_ dx dy ∨ On cx cy dx dy ax ay ∨ On cx cy dx dy bx by_ ∨
    (sg (det ax ay bx by_ cx cy) * sg (det ax ay bx by_ dx dy) < 0 ∧ sg (det cx cy dx dy ax ay) * sg (det cx cy dx dy bx by_) < 0)
instance (ax ay bx by_ cx cy dx dy : Int) : Decidable (Meet ax ay bx by_ cx cy dx dy) := by unfold Meet; infer_instance
theorem sg_bd (n : Int) : -1 ≤ sg n ∧ sg n ≤ 1 := by unfold sg; repeat' split <;> omega
theorem sg_mul (m n : Int) : wrap64 (sg m * sg n) = sg m * sg n := by
  have h := mul_bd (sg_bd m).1 (sg_bd m).2 (sg_bd n).1 (sg_bd n).2
  exact w64 (by omega) (by omega)

theorem spec_between (x a b : Int) : spec_l1Between.f x a b = some (decide (a ≤ x ∧ x ≤ b ∨ b ≤ x ∧ x ≤ a)) := by
  unfold spec_l1Between.f
  grind
theorem spec_on {ax ay bx by_ px py : Int} (ha : OkP ax ay) (hb : OkP bx by_) (hp : OkP px py) : spec_l1On.f ax ay bx by_ px py = some (decide (On ax ay bx by_ px py)) := by
  unfold spec_l1On.f On
  rw [spec_turn ha hb hp]
  simp only [Option.bind_some, sg_zero, spec_between]
  by_cases h1 : det ax ay bx by_ px py = 0
  · simp only [h1, if_true, true_and]
    by_cases h2 : (ax ≤ px ∧ px ≤ bx ∨ bx ≤ px ∧ px ≤ ax)
    · simp [h2]
    · simp [h2]
  · simp [h1]

theorem impl_sg (n : Int) : impl_sgn.f n = some (sg n) := by unfold impl_sgn.f sg; repeat' split <;> simp_all
theorem impl_trn {ax ay bx by_ cx cy : Int} (ha : OkP ax ay) (hb : OkP bx by_) (hc : OkP cx cy) : impl_turn.f ax ay bx by_ cx cy = some (sg (det ax ay bx by_ cx cy)) := by
  unfold OkP at *
  have h1 := mul_bd (p := bx - ax) (q := cy - by_) (B := 20000000) (C := 20000000) (by omega) (by omega) (by omega) (by omega)
  have h2 := mul_bd (p := by_ - ay) (q := cx - bx) (B := 20000000) (C := 20000000) (by omega) (by omega) (by omega) (by omega)
  unfold impl_turn.f
  rw [w64 (n := bx - ax) (by omega) (by omega), w64 (n := cy - by_) (by omega) (by omega), w64 (n := by_ - ay) (by omega) (by omega), w64 (n := cx - bx) (by omega) (by omega),
    w64 (n := (bx - ax) * (cy - by_)) (by omega) (by omega), w64 (n := (by_ - ay) * (cx - bx)) (by omega) (by omega), w64 (by omega) (by omega), impl_sg, det_alt]
  rfl

theorem impl_on {ax ay bx by_ px py : Int} (ha : OkP ax ay) (hb : OkP bx by_) (hp : OkP px py) : impl_onStretch.f ax ay bx by_ px py = some (decide (On ax ay bx by_ px py)) := by
  unfold impl_onStretch.f On
  rw [impl_trn ha hb hp]
  simp only [Option.bind_some, sg_zero]
  by_cases h1 : det ax ay bx by_ px py = 0
  · simp only [h1, if_true, true_and]
    have a1 : (px ≥ mn ax bx) ↔ (ax ≤ px ∨ bx ≤ px) := by unfold mn; split <;> omega
    have a2 : (px ≤ mx ax bx) ↔ (px ≤ ax ∨ px ≤ bx) := by unfold mx; split <;> omega
    have a3 : (py ≥ mn ay by_) ↔ (ay ≤ py ∨ by_ ≤ py) := by unfold mn; split <;> omega
    have a4 : (py ≤ mx ay by_) ↔ (py ≤ ay ∨ py ≤ by_) := by unfold mx; split <;> omega
    by_cases c1 : px ≥ mn ax bx
    · by_cases c2 : px ≤ mx ax bx
      · by_cases c3 : py ≥ mn ay by_
        · rw [if_pos c1, if_pos c2, if_pos c3, Option.some.injEq, decide_eq_decide]
          rw [a1] at c1; rw [a2] at c2; rw [a3] at c3; rw [a4]
          omega
        · rw [if_pos c1, if_pos c2, if_neg c3, Option.some.injEq]
          rw [a3] at c3
          exact (decide_eq_false (by omega)).symm
      · rw [if_pos c1, if_neg c2, Option.some.injEq]
        rw [a2] at c2
        exact (decide_eq_false (by omega)).symm
    · rw [if_neg c1, Option.some.injEq]
      rw [a1] at c1
      exact (decide_eq_false (by omega)).symm
  · simp [h1]

/-- Whether a stretch turns the count round at p. -/
def flips (ax ay bx by_ px py : Int) : Bool := decide ((ay ≤ py ∧ by_ > py ∧ det ax ay bx by_ px py > 0) ∨ (by_ ≤ py ∧ ay > py ∧ det ax ay bx by_ px py < 0))
/-- A ring's stretches, those from place j on: none where p lies on one; else the count behind them. -/
def rowWalk (px py : Int) (row : List S28) : Nat → Nat → Bool → Option Bool
  | 0, _, o => some o
  | d + 1, j, o => if On (rd_T28 row ((j : Int) - 1)).f0 (rd_T28 row ((j : Int) - 1)).f1 (rd_T28 row j).f0 (rd_T28 row j).f1 px py then none
    else rowWalk px py row d (j + 1) (if flips (rd_T28 row ((j : Int) - 1)).f0 (rd_T28 row ((j : Int) - 1)).f1 (rd_T28 row j).f0 (rd_T28 row j).f1 px py = true then !o else o)
/-- What Inside answers of good rings. -/
def insideR (px py : Int) : List S65 → Bool → Int
  | [], o => if o = true then 1 else -1
  | r :: rs, o => match rowWalk px py r.f0 (r.f0.length - 1) 1 o with
    | none => 0
    | some o' => insideR px py rs o'
theorem sg_pos (n : Int) : (sg n > 0) = (n > 0) := by unfold sg; apply propext; repeat' split <;> omega
theorem sg_neg (n : Int) : (sg n < 0) = (n < 0) := by unfold sg; apply propext; repeat' split <;> omega

theorem spec_walk {px py : Int} (hp : OkP px py) (rs : List S65) (hrs : rs.length ≤ 40) (i : Nat) (hi : i < rs.length) (row : List S28) (h : rowB row = true) {res : Bool → Int} (hk : ∀ o, Ev (fun k => spec_l4Inside.l0 k rs o ((i + 1 : Nat) : Int) px py) (res o)) (d : Nat) :
    ∀ (j : Nat) (o : Bool), 1 ≤ j → j + d = max row.length 1 → Ev (fun k => spec_l4Inside.l1 k rs o (i : Int) row j px py) (match rowWalk px py row d j o with | none => 0 | some o' => res o') := by
  have h2 := rowB_len h
  induction d with
  | zero =>
    intro j o hj hd
    refine Ev.step (fun k => ?_) (hk o)
    simp only [spec_l4Inside.l1]
    rw [if_neg (by omega), w64 (n := (i : Int) + 1) (by omega) (by omega)]
    rfl
  | succ d ih =>
    intro j o hj hd
    obtain ⟨j, rfl⟩ : ∃ m, j = m + 1 := ⟨j - 1, by omega⟩
    have hlt : j + 1 < row.length := by omega
    have ha := rowB_get h (show j < row.length by omega)
    have hb := rowB_get h hlt
    have e1 : (((j + 1 : Nat) : Int) - 1) = (j : Int) := by omega
    have hr1 : rd_T28 row (j : Int) = row[j] := rdP (by omega)
    have hr2 : rd_T28 row ((j + 1 : Nat) : Int) = row[j + 1] := rdP hlt
    have w1 : wrap64 (((j + 1 : Nat) : Int) - 1) = (j : Int) := by rw [w64 (by omega) (by omega)]; omega
    have w2 : wrap64 (((j + 1 : Nat) : Int) + 1) = ((j + 1 + 1 : Nat) : Int) := by rw [w64 (by omega) (by omega)]; omega
    simp only [rowWalk, e1, hr1, hr2]
    by_cases hon : On row[j].f0 row[j].f1 row[j + 1].f0 row[j + 1].f1 px py
    · simp only [hon, if_true]
      refine Ev.step (fun k => ?_) (Ev.now _)
      simp only [spec_l4Inside.l1]
      rw [w1, if_pos (by omega), if_pos (by omega), if_pos (by omega), if_pos (by omega), hr1, hr2, spec_on ha hb hp]
      simp [hon]
    · simp only [hon, if_false]
      refine Ev.step (fun k => ?_) (ih (j + 1 + 1) _ (by omega) (by omega))
      simp only [spec_l4Inside.l1]
      rw [w1, w2, if_pos (by omega), if_pos (by omega), if_pos (by omega), if_pos (by omega), hr1, hr2, spec_on ha hb hp, spec_turn ha hb hp]
      simp only [Option.bind_some, decide_eq_true_eq, hon, if_false, sg_pos, sg_neg, flips]
      repeat' split
      all_goals first | rfl | omega
theorem impl_walk {px py : Int} (hp : OkP px py) (rs : List S65) (hrs : rs.length ≤ 40) (i : Nat) (hi : i < rs.length) (row : List S28) (inn : Bool) (h : rowB row = true) {res : Bool → Int} (hk : ∀ o, Ev (fun k => impl_Inside.l0 k o rs (rs.length : Int) ((i + 1 : Nat) : Int) px py) (res o)) (d : Nat) :
    ∀ (j : Nat) (o : Bool), 1 ≤ j → j + d = max row.length 1 → Ev (fun k => impl_Inside.l1 k o j rs (rs.length : Int) (i : Int) px py row inn) (match rowWalk px py row d j o with | none => 0 | some o' => res o') := by
  have h2 := rowB_len h
  induction d with
  | zero =>
    intro j o hj hd
    refine Ev.step (fun k => ?_) (hk o)
    simp only [impl_Inside.l1]
    rw [if_neg (by omega), w64 (n := (i : Int) + 1) (by omega) (by omega)]
    rfl
  | succ d ih =>
    intro j o hj hd
    obtain ⟨j, rfl⟩ : ∃ m, j = m + 1 := ⟨j - 1, by omega⟩
    have hlt : j + 1 < row.length := by omega
    have ha := rowB_get h (show j < row.length by omega)
    have hb := rowB_get h hlt
    have e1 : (((j + 1 : Nat) : Int) - 1) = (j : Int) := by omega
    have hr1 : rd_T28 row (j : Int) = row[j] := rdP (by omega)
    have hr2 : rd_T28 row ((j + 1 : Nat) : Int) = row[j + 1] := rdP hlt
    have w1 : wrap64 (((j + 1 : Nat) : Int) - 1) = (j : Int) := by rw [w64 (by omega) (by omega)]; omega
    have w2 : wrap64 (((j + 1 : Nat) : Int) + 1) = ((j + 1 + 1 : Nat) : Int) := by rw [w64 (by omega) (by omega)]; omega
    simp only [rowWalk, e1, hr1, hr2]
    by_cases hon : On row[j].f0 row[j].f1 row[j + 1].f0 row[j + 1].f1 px py
    · simp only [hon, if_true]
      refine Ev.step (fun k => ?_) (Ev.now _)
      simp only [impl_Inside.l1]
      rw [w1, if_pos (by omega), if_pos (by omega), if_pos (by omega), if_pos (by omega), hr1, hr2, impl_on ha hb hp]
      simp [hon]
    · simp only [hon, if_false]
      have step : ∀ (ax ay bx by_ : Int), OkP ax ay → OkP bx by_ → ∀ k, impl_Inside.j3 (k + 2) o ((j + 1 : Nat) : Int) rs (rs.length : Int) (i : Int) px py row inn ax ay bx by_ =
          impl_Inside.l1 k (if decide (ay ≤ py ∧ by_ > py ∧ det ax ay bx by_ px py > 0) = true then !o else o) ((j + 1 + 1 : Nat) : Int) rs (rs.length : Int) (i : Int) px py row inn := by
        intro ax ay bx by_ ka kb k
        unfold OkP at ka kb hp
        have m1 := mul_bd (p := py - ay) (q := bx - ax) (B := 20000000) (C := 20000000) (by omega) (by omega) (by omega) (by omega)
        have m2 := mul_bd (p := px - ax) (q := by_ - ay) (B := 20000000) (C := 20000000) (by omega) (by omega) (by omega) (by omega)
        have ed : det ax ay bx by_ px py = (py - ay) * (bx - ax) - (px - ax) * (by_ - ay) := by unfold det; grind
        simp only [impl_Inside.j3, impl_Inside.j4, w2]
        rw [w64 (n := py - ay) (by omega) (by omega), w64 (n := bx - ax) (by omega) (by omega), w64 (n := px - ax) (by omega) (by omega), w64 (n := by_ - ay) (by omega) (by omega), w64 (n := (py - ay) * (bx - ax)) (by omega) (by omega), w64 (n := (px - ax) * (by_ - ay)) (by omega) (by omega), ed]
        simp only [decide_eq_true_eq, Bool.false_eq_true, if_false]
        generalize (py - ay) * (bx - ax) = A
        generalize (px - ax) * (by_ - ay) = B
        repeat' split
        all_goals first | rfl | omega
      refine Ev.step (f := fun k => if row[j].f1 > row[j + 1].f1 then impl_Inside.j3 k o ((j + 1 : Nat) : Int) rs (rs.length : Int) (i : Int) px py row inn row[j + 1].f0 row[j + 1].f1 row[j].f0 row[j].f1 else impl_Inside.j3 k o ((j + 1 : Nat) : Int) rs (rs.length : Int) (i : Int) px py row inn row[j].f0 row[j].f1 row[j + 1].f0 row[j + 1].f1) (fun k => ?_) ?_
      · simp only [impl_Inside.l1]
        rw [w1, if_pos (by omega), if_pos (by omega), if_pos (by omega), if_pos (by omega), hr1, hr2, impl_on ha hb hp]
        simp [hon]
      · have hih := ih (j + 1 + 1)
        by_cases hs : row[j].f1 > row[j + 1].f1
        · simp only [hs, if_true]
          have ef : flips row[j].f0 row[j].f1 row[j + 1].f0 row[j + 1].f1 px py = decide (row[j + 1].f1 ≤ py ∧ row[j].f1 > py ∧ det row[j + 1].f0 row[j + 1].f1 row[j].f0 row[j].f1 px py > 0) := by
            have ed : det row[j + 1].f0 row[j + 1].f1 row[j].f0 row[j].f1 px py = - det row[j].f0 row[j].f1 row[j + 1].f0 row[j + 1].f1 px py := by unfold det; grind
            unfold flips
            rw [decide_eq_decide, ed]
            omega
          rw [ef]
          have := hih (if decide (row[j + 1].f1 ≤ py ∧ row[j].f1 > py ∧ det row[j + 1].f0 row[j + 1].f1 row[j].f0 row[j].f1 px py > 0) = true then !o else o) (by omega) (by omega)
          refine Ev.step (f := fun k => impl_Inside.j3 (k + 1) o ((j + 1 : Nat) : Int) rs (rs.length : Int) (i : Int) px py row inn row[j + 1].f0 row[j + 1].f1 row[j].f0 row[j].f1) (fun k => rfl) (Ev.step (fun k => step _ _ _ _ hb ha k) this)
        · simp only [hs, if_false]
          have ef : flips row[j].f0 row[j].f1 row[j + 1].f0 row[j + 1].f1 px py = decide (row[j].f1 ≤ py ∧ row[j + 1].f1 > py ∧ det row[j].f0 row[j].f1 row[j + 1].f0 row[j + 1].f1 px py > 0) := by
            unfold flips
            rw [decide_eq_decide]
            omega
          rw [ef]
          have := hih (if decide (row[j].f1 ≤ py ∧ row[j + 1].f1 > py ∧ det row[j].f0 row[j].f1 row[j + 1].f0 row[j + 1].f1 px py > 0) = true then !o else o) (by omega) (by omega)
          refine Ev.step (f := fun k => impl_Inside.j3 (k + 1) o ((j + 1 : Nat) : Int) rs (rs.length : Int) (i : Int) px py row inn row[j].f0 row[j].f1 row[j + 1].f0 row[j + 1].f1) (fun k => rfl) (Ev.step (fun k => step _ _ _ _ ha hb k) this)
theorem spec_in {px py : Int} (hp : OkP px py) (rs : List S65) (h : ringsB rs = true) (d : Nat) : ∀ (i : Nat) (o : Bool), i + d = rs.length → Ev (fun k => spec_l4Inside.l0 k rs o (i : Int) px py) (insideR px py (rs.drop i) o) := by
  have h2 := ringsB_len h
  induction d with
  | zero =>
    intro i o hi
    rw [List.drop_of_length_le (by omega)]
    refine Ev.step (fun k => ?_) (Ev.now _)
    simp only [spec_l4Inside.l0, insideR]
    rw [if_neg (by omega)]
    split <;> rfl
  | succ d ih =>
    intro i o hi
    have hlt : i < rs.length := by omega
    rw [List.drop_eq_getElem_cons hlt]
    simp only [insideR]
    have hr := ringsB_get h (List.getElem_mem hlt)
    refine Ev.step (fun k => ?_) (spec_walk hp rs h2 i hlt rs[i].f0 hr (res := fun o => insideR px py (rs.drop (i + 1)) o) (fun o => ih (i + 1) o (by omega)) (rs[i].f0.length - 1) 1 o (by omega) (by omega))
    simp only [spec_l4Inside.l0]
    rw [if_pos (by omega), if_pos (by omega), rdR hlt]
    rfl
theorem impl_in {px py : Int} (hp : OkP px py) (rs : List S65) (h : ringsB rs = true) (d : Nat) : ∀ (i : Nat) (o : Bool), i + d = rs.length → Ev (fun k => impl_Inside.l0 k o rs (rs.length : Int) (i : Int) px py) (insideR px py (rs.drop i) o) := by
  have h2 := ringsB_len h
  induction d with
  | zero =>
    intro i o hi
    rw [List.drop_of_length_le (by omega)]
    refine Ev.step (fun k => ?_) (Ev.now _)
    simp only [impl_Inside.l0, insideR]
    rw [if_neg (by omega)]
    split <;> rfl
  | succ d ih =>
    intro i o hi
    have hlt : i < rs.length := by omega
    rw [List.drop_eq_getElem_cons hlt]
    simp only [insideR]
    have hr := ringsB_get h (List.getElem_mem hlt)
    refine Ev.step (fun k => ?_) (impl_walk hp rs h2 i hlt rs[i].f0 rs[i].f1 hr (res := fun o => insideR px py (rs.drop (i + 1)) o) (fun o => ih (i + 1) o (by omega)) (rs[i].f0.length - 1) 1 o (by omega) (by omega))
    simp only [impl_Inside.l0]
    rw [if_pos (by omega), if_pos (by omega), if_pos (by omega), rdR hlt]
    rfl
/-- What Inside answers. -/
def insideN (rs : List S65) (px py : Int) : Int := if ringsB rs = true then (if OkP px py then insideR px py rs false else -1) else -1
theorem spec_inside {rs : List S65} (hl : rs.length ≤ 1048576) (hs : ∀ t ∈ rs, t.f0.length ≤ 1048576) (px py : Int) : Ev (fun k => spec_Inside.f k rs px py) (insideN rs px py) := by
  unfold spec_Inside.f insideN
  refine Ev.bind (spec_rings hl hs) ?_
  by_cases h : ringsB rs = true
  · simp only [h, if_true, spec_ok, Option.bind_some, decide_eq_true_eq]
    by_cases hp : OkP px py
    · simp only [hp, if_true]
      have := spec_in hp rs h rs.length 0 false (by omega)
      rw [List.drop_zero] at this
      exact Ev.bind (g := fun k => spec_l4Inside.f k rs px py) this (Ev.now _)
    · simp only [hp, if_false]
      exact Ev.now _
  · simp only [h, if_false, Bool.false_eq_true]
    exact Ev.now _
theorem impl_inside (rs : List S65) (px py : Int) : Ev (fun k => impl_Inside.f k rs px py) (insideN rs px py) := by
  unfold impl_Inside.f insideN
  refine Ev.bind (impl_rings rs) ?_
  by_cases h : ringsB rs = true
  · simp only [h, if_true, impl_ok, Option.bind_some]
    by_cases hp : OkP px py
    · simp only [hp, if_true, decide_true, Bool.not_true]
      have := impl_in hp rs h rs.length 0 false (by omega)
      rw [List.drop_zero] at this
      refine Ev.step (fun k => ?_) this
      simp only [impl_Inside.j0, Bool.false_eq_true, if_false]
      rfl
    · simp only [hp, if_false, decide_false, Bool.not_false]
      refine Ev.step (fun k => ?_) (Ev.now _)
      simp [impl_Inside.j0]
  · simp only [h, if_false, Bool.false_eq_true]
    refine Ev.step (fun k => ?_) (Ev.now _)
    simp [impl_Inside.j0]
theorem FnExactInside : PreFnExactInside.Pure := by
  intro l px py ⟨hl, hw⟩ _ _
  refine Ev.rounds (g := fun k => laws_FnExactInside.f k l px py) ?_
  unfold laws_FnExactInside.f
  refine Ev.bind (sz_rings hl (fun t ht => (hw t ht).1.1) (by omega) (by omega)) ?_
  by_cases hbig : ringsSize l 1048576 < 0
  · simp only [if_pos hbig]
    exact Ev.now _
  · simp only [if_neg hbig, laws_toPoint.f, Option.bind_some]
    obtain ⟨h1, h2⟩ := ringsSize_le l (n := 1048576) (by omega) (by omega)
    have hle : l.length ≤ 1048576 := by omega
    have hs : ∀ t ∈ l, t.f0.length ≤ 1048576 := fun t ht => by have := h2 t ht; omega
    have hlen : (l.map toR).length ≤ 1048576 := by rw [List.length_map]; omega
    have hs' : ∀ t ∈ l.map toR, t.f0.length ≤ 1048576 := by
      intro t ht
      obtain ⟨q, hq, rfl⟩ := List.mem_map.1 ht
      have := hs q hq
      simpa [toR] using this
    refine Ev.bind (to_rings hle hs) (Ev.bind (spec_inside hlen hs' px py) (Ev.bind (to_rings hle hs) (Ev.bind (impl_inside _ px py) ?_)))
    simp only [if_true]
    refine Ev.bind (to_rings hle hs) (Ev.bind (eq_rings hlen hs') ?_)
    simp only [if_true]
    exact Ev.now _

end Go.Proofs.Ytolejglfohagnaa.Pure
