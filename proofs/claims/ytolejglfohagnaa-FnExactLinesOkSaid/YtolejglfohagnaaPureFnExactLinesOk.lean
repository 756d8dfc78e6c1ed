/- LinesOk of the program and of the reference give the same answer at every lines. No condition beyond the statement's own guard. -/
import Derived.Test.YtolejglfohagnaaFrFnExactLinesOk
import Derived.Test.YtolejglfohagnaaVFnExactLinesOka
namespace Go.Proofs.Ytolejglfohagnaa.Pure
open Go.RowKit Go.Proofs.Ytolejglfohagnaa.PFnExactLinesOk Go.Proofs.Ytolejglfohagnaa.PreFnExactLinesOk Go.Proofs.YtolejglfohagnaaW.PrintWords Go.Proofs.YtolejglfohagnaaW.PrintLast Go.Proofs.YtolejglfohagnaaW.PrintMore Go.Proofs.YtolejglfohagnaaW.Math
set_option linter.unusedVariables false
set_option linter.unusedSimpArgs false

theorem drop_all {α : Type} (f : α → Bool) (l : List α) {j : Nat} (h : j < l.length) : (l.drop j).all f = (f l[j] && (l.drop (j + 1)).all f) := by
  rw [List.drop_eq_getElem_cons h, List.all_cons]
/-- The bytes from j on, d of them, are told. -/
def nameFrom (s : ByteArray) : Nat → Nat → Bool
  | 0, _ => true
  | d + 1, j => if bt s j < 32 then false else if bt s j > 126 then false else nameFrom s d (j + 1)
def nameB (s : ByteArray) : Bool := decide (1 ≤ s.size) && (decide (s.size ≤ 100) && nameFrom s s.size 0)
theorem impl_name_loop (s : ByteArray) (hs : s.size ≤ 1048576) (d : Nat) : ∀ j : Nat, j + d = s.size → Ev (fun k => impl_myNameOk.l0 k s (j : Int)) (nameFrom s d j) := by
  induction d with
  | zero =>
    intro j hj
    refine Ev.step (fun k => ?_) (Ev.now _)
    simp only [impl_myNameOk.l0]
    rw [if_neg (by omega)]
    rfl
  | succ d ih =>
    intro j hj
    have e1 : wrap64 ((j : Int) + 1) = ((j + 1 : Nat) : Int) := by rw [w64 (by omega) (by omega)]; omega
    simp only [nameFrom]
    by_cases h1 : bt s j < 32
    · rw [if_pos h1]
      refine Ev.step (fun k => ?_) (Ev.now _)
      simp only [impl_myNameOk.l0]
      rw [if_pos (by omega), if_pos (by omega), if_pos h1]
    · rw [if_neg h1]
      by_cases h2 : bt s j > 126
      · rw [if_pos h2]
        refine Ev.step (fun k => ?_) (Ev.now _)
        simp only [impl_myNameOk.l0]
        rw [if_pos (by omega), if_pos (by omega), if_neg h1, if_pos h2]
      · rw [if_neg h2]
        refine Ev.step (fun k => ?_) (ih (j + 1) (by omega))
        simp only [impl_myNameOk.l0]
        rw [if_pos (by omega), if_pos (by omega), if_neg h1, if_neg h2, e1]
theorem impl_name (s : ByteArray) (hs : s.size ≤ 1048576) : Ev (fun k => impl_myNameOk.f k s) (nameB s) := by
  have h := impl_name_loop s hs s.size 0 (by omega)
  unfold nameB
  by_cases h1 : s.size < 1
  · refine Ev.congr (f := fun k => impl_myNameOk.j0 k s true) (fun k => ?_) (Ev.step (fun k => ?_) (Ev.now _))
    · unfold impl_myNameOk.f
      rw [if_pos (by omega)]
    · simp only [impl_myNameOk.j0, if_true]
      rw [decide_eq_false (by omega)]; rfl
  · by_cases h2 : s.size > 100
    · refine Ev.congr (f := fun k => impl_myNameOk.j0 k s true) (fun k => ?_) (Ev.step (fun k => ?_) (Ev.now _))
      · unfold impl_myNameOk.f
        rw [if_neg (by omega), decide_eq_true (by omega)]
      · simp only [impl_myNameOk.j0, if_true]
        rw [decide_eq_false (show ¬ s.size ≤ 100 by omega)]; simp
    · rw [decide_eq_true (show 1 ≤ s.size by omega), decide_eq_true (show s.size ≤ 100 by omega), Bool.true_and, Bool.true_and]
      refine Ev.congr (f := fun k => impl_myNameOk.j0 k s false) (fun k => ?_) (Ev.step (fun k => ?_) h)
      · unfold impl_myNameOk.f
        rw [if_neg (by omega), decide_eq_false (by omega)]
      · simp only [impl_myNameOk.j0, Bool.false_eq_true, if_false]
        rfl
theorem spec_name_loop (s : ByteArray) (hs : s.size ≤ 1048576) (d : Nat) : ∀ j : Nat, j + d = s.size → Ev (fun k => spec_l2ValueOk.l0 k s (j : Int)) (decide (1 ≤ s.size) && (decide (s.size ≤ 100) && nameFrom s d j)) := by
  induction d with
  | zero =>
    intro j hj
    refine Ev.step (fun k => ?_) (Ev.now _)
    simp only [spec_l2ValueOk.l0]
    rw [if_neg (by omega)]
    simp only [nameFrom, Bool.and_true]
    by_cases h1 : (s.size : Int) ≥ 1
    · rw [if_pos h1, decide_eq_true (show 1 ≤ s.size by omega), Bool.true_and, Option.some.injEq, decide_eq_decide]; omega
    · rw [if_neg h1, decide_eq_false (show ¬ 1 ≤ s.size by omega)]; rfl
  | succ d ih =>
    intro j hj
    have e1 : wrap64 ((j : Int) + 1) = ((j + 1 : Nat) : Int) := by rw [w64 (by omega) (by omega)]; omega
    simp only [nameFrom]
    by_cases h1 : bt s j < 32
    · rw [if_pos h1, Bool.and_false, Bool.and_false]
      refine Ev.step (fun k => ?_) (Ev.now _)
      simp only [spec_l2ValueOk.l0]
      rw [if_pos (by omega), if_pos (by omega), if_pos h1]
    · rw [if_neg h1]
      by_cases h2 : bt s j > 126
      · rw [if_pos h2, Bool.and_false, Bool.and_false]
        refine Ev.step (fun k => ?_) (Ev.now _)
        simp only [spec_l2ValueOk.l0]
        rw [if_pos (by omega), if_pos (by omega), if_neg h1, if_pos h2]
      · rw [if_neg h2]
        refine Ev.step (fun k => ?_) (ih (j + 1) (by omega))
        simp only [spec_l2ValueOk.l0]
        rw [if_pos (by omega), if_pos (by omega), if_neg h1, if_neg h2, e1]
theorem spec_name (s : ByteArray) (hs : s.size ≤ 1048576) : Ev (fun k => spec_l2ValueOk.f k s) (nameB s) := by
  have h := spec_name_loop s hs s.size 0 (by omega)
  exact h
/-- The calls from j on, d of them, behind the time last. -/
def callsFrom (n : Int) (cs : List S95) : Nat → Nat → Int → Bool
  | 0, _, _ => true
  | d + 1, j, last => if (cs.getD j z95).f0 < 0 then false else if (cs.getD j z95).f0 ≥ n then false else if (cs.getD j z95).f1 < last then false else if (cs.getD j z95).f2 < (cs.getD j z95).f1 then false else if (cs.getD j z95).f2 > 1000000 then false
      else if 0 < j ∧ (cs.getD (j - 1) z95).f0 = (cs.getD j z95).f0 then false else callsFrom n cs d (j + 1) (cs.getD j z95).f2
theorem rdC0 (cs : List S95) (j : Nat) : rd_T95 cs (j : Int) = cs.getD j z95 := by
  unfold rd_T95
  rw [Int.toNat_natCast]
def tripB (n : Int) (t : S93) : Bool := nameB t.f0 && (decide (1 ≤ t.f1) && (decide (t.f1 ≤ 127) && (decide (2 ≤ t.f2.length) && (decide (t.f2.length ≤ 40) && callsFrom n t.f2 t.f2.length 0 0))))
def walkB (n : Int) (w : S98) : Bool := decide (0 ≤ w.f0 ∧ w.f0 < n ∧ 0 ≤ w.f1 ∧ w.f1 < n ∧ w.f0 ≠ w.f1 ∧ 0 ≤ w.f2 ∧ w.f2 ≤ 10000)
def linesB (a : List ByteArray) (b : List S93) (c : List S98) : Bool := decide (a.length ≤ 200) && (decide (b.length ≤ 500) && (decide (c.length ≤ 300) && (a.all nameB && (b.all (tripB a.length) && c.all (walkB a.length)))))
theorem spec_calls (a : List ByteArray) (b : List S93) (c : List S98) (u : ByteArray) (v : Int) (cs : List S95) (hc : cs.length ≤ 40) (d : Nat) :
    ∀ (j : Nat) (last : Int), j + d = cs.length → Ev (fun k => spec_l15TripOk.l0 k last (j : Int) a b c u v cs) (callsFrom (a.length : Int) cs d j last) := by
  induction d with
  | zero =>
    intro j last hj
    refine Ev.step (fun k => ?_) (Ev.now _)
    simp only [spec_l15TripOk.l0]
    rw [if_neg (by omega)]
    rfl
  | succ d ih =>
    intro j last hj
    obtain ⟨K, hK⟩ := ih (j + 1) (cs.getD j z95).f2 (by omega)
    refine ⟨K + 1, fun m hm => ?_⟩
    obtain ⟨k, rfl⟩ : ∃ k, m = k + 1 := ⟨m - 1, by omega⟩
    have hk := hK k (by omega)
    simp only at hk
    have e1 : wrap64 ((j : Int) + 1) = ((j + 1 : Nat) : Int) := by rw [w64 (by omega) (by omega)]; omega
    simp only [spec_l15TripOk.l0, callsFrom, rdC0]
    rw [if_pos (by omega), if_pos (by omega)]
    by_cases h1 : (cs.getD j z95).f0 < 0
    · simp only [if_pos h1]
    by_cases h2 : (cs.getD j z95).f0 ≥ (a.length : Int)
    · simp only [if_neg h1, if_pos h2]
    by_cases h3 : (cs.getD j z95).f1 < last
    · simp only [if_neg h1, if_neg h2, if_pos h3]
    by_cases h4 : (cs.getD j z95).f2 < (cs.getD j z95).f1
    · simp only [if_neg h1, if_neg h2, if_neg h3, if_pos h4]
    by_cases h5 : (cs.getD j z95).f2 > 1000000
    · simp only [if_neg h1, if_neg h2, if_neg h3, if_neg h4, if_pos h5]
    simp only [if_neg h1, if_neg h2, if_neg h3, if_neg h4, if_neg h5, e1]
    by_cases h6 : 0 < j
    · obtain ⟨i, rfl⟩ : ∃ i, j = i + 1 := ⟨j - 1, by omega⟩
      have e0 : wrap64 (((i + 1 : Nat) : Int) - 1) = (i : Int) := by rw [w64 (by omega) (by omega)]; omega
      rw [if_pos (by omega), e0, rdC0, if_pos (by omega), if_pos (by omega)]
      simp only [Nat.add_sub_cancel, Nat.zero_lt_succ, true_and]
      by_cases h7 : (cs.getD i z95).f0 = (cs.getD (i + 1) z95).f0
      · simp only [if_pos h7]
      · simp only [if_neg h7]
        exact hk
    · rw [if_neg (by omega), if_neg (fun h => h6 h.1)]
      exact hk
theorem spec_trip (a : List ByteArray) (b : List S93) (c : List S98) (t : S93) (ht : t.f0.size ≤ 1048576) : Ev (fun k => spec_l15TripOk.f k a b c t.f0 t.f1 t.f2) (tripB (a.length : Int) t) := by
  unfold spec_l15TripOk.f tripB
  refine Ev.bind (spec_name _ ht) ?_
  have no : Ev (fun k => spec_l15TripOk.j0 k true a b c t.f0 t.f1 t.f2) false := Ev.step (fun k => by simp only [spec_l15TripOk.j0, if_true]) (Ev.now _)
  by_cases h0 : nameB t.f0 = true
  · simp only [h0, if_true, Bool.true_and]
    by_cases h1 : t.f1 < 1
    · simp only [if_pos h1, decide_eq_false (show ¬ 1 ≤ t.f1 by omega), Bool.false_and]; exact no
    simp only [if_neg h1, decide_eq_true (show 1 ≤ t.f1 by omega), Bool.true_and]
    by_cases h2 : t.f1 > 127
    · simp only [if_pos h2, decide_eq_false (show ¬ t.f1 ≤ 127 by omega), Bool.false_and]; exact no
    simp only [if_neg h2, decide_eq_true (show t.f1 ≤ 127 by omega), Bool.true_and]
    by_cases h3 : (t.f2.length : Int) < 2
    · simp only [if_pos h3, decide_eq_false (show ¬ 2 ≤ t.f2.length by omega), Bool.false_and]; exact no
    simp only [if_neg h3, decide_eq_true (show 2 ≤ t.f2.length by omega), Bool.true_and]
    by_cases h4 : (t.f2.length : Int) > 40
    · simp only [decide_eq_true h4, decide_eq_false (show ¬ t.f2.length ≤ 40 by omega), Bool.false_and]; exact no
    simp only [decide_eq_false h4, decide_eq_true (show t.f2.length ≤ 40 by omega), Bool.true_and]
    refine Ev.step (fun k => ?_) (spec_calls a b c t.f0 t.f1 t.f2 (by omega) t.f2.length 0 0 (by omega))
    simp only [spec_l15TripOk.j0, Bool.false_eq_true, if_false]
    rfl
  · rw [Bool.not_eq_true] at h0
    simp only [h0, Bool.false_eq_true, if_false, Bool.false_and]; exact no
theorem walk_is (n : Int) (w : S98) (r : Option Bool) : (if w.f0 < 0 then some false else if w.f0 ≥ n then some false else if w.f1 < 0 then some false else if w.f1 ≥ n then some false else if w.f0 = w.f1 then some false else if w.f2 < 0 then some false else if w.f2 > 10000 then some false else r) = if walkB n w = true then r else some false := by
  unfold walkB
  simp only [decide_eq_true_eq]
  repeat' split
  all_goals first | rfl | (exfalso; omega)
theorem spec_walks (n : Int) (a : List ByteArray) (b : List S93) (c : List S98) (hc : c.length ≤ 300) (d : Nat) : ∀ j : Nat, j + d = c.length → Ev (fun k => spec_LinesOk.l2 k n (j : Int) a b c) ((c.drop j).all (walkB n)) := by
  induction d with
  | zero =>
    intro j hj
    rw [List.drop_of_length_le (by omega), List.all_nil]
    refine Ev.step (fun k => ?_) (Ev.now _)
    simp only [spec_LinesOk.l2]
    rw [if_neg (by omega)]
  | succ d ih =>
    intro j hj
    have hlt : j < c.length := by omega
    have e1 : wrap64 ((j : Int) + 1) = ((j + 1 : Nat) : Int) := by rw [w64 (by omega) (by omega)]; omega
    rw [drop_all _ _ hlt]
    by_cases h : walkB n c[j] = true
    · rw [h, Bool.true_and]
      refine Ev.step (fun k => ?_) (ih (j + 1) (by omega))
      simp only [spec_LinesOk.l2, rdAt98 hlt, e1]
      rw [if_pos (by omega), if_pos (by omega), walk_is, if_pos h]
    · rw [Bool.not_eq_true] at h
      rw [h, Bool.false_and]
      refine Ev.step (fun k => ?_) (Ev.now _)
      simp only [spec_LinesOk.l2, rdAt98 hlt, e1]
      rw [if_pos (by omega), if_pos (by omega), walk_is, h, if_neg (by simp)]
theorem impl_walks (n : Int) (c : List S98) (hc : c.length ≤ 300) (d : Nat) : ∀ j : Nat, j + d = c.length → Ev (fun k => impl_LinesOk.l3 k n c (c.length : Int) (j : Int)) ((c.drop j).all (walkB n)) := by
  induction d with
  | zero =>
    intro j hj
    rw [List.drop_of_length_le (by omega), List.all_nil]
    refine Ev.step (fun k => ?_) (Ev.now _)
    simp only [impl_LinesOk.l3]
    rw [if_neg (by omega)]
  | succ d ih =>
    intro j hj
    have hlt : j < c.length := by omega
    have e1 : wrap64 ((j : Int) + 1) = ((j + 1 : Nat) : Int) := by rw [w64 (by omega) (by omega)]; omega
    rw [drop_all _ _ hlt]
    by_cases h : walkB n c[j] = true
    · rw [h, Bool.true_and]
      refine Ev.step (fun k => ?_) (ih (j + 1) (by omega))
      simp only [impl_LinesOk.l3, rdAt98 hlt, e1]
      rw [if_pos (by omega), if_pos (by omega), if_pos (by omega), walk_is, if_pos h]
    · rw [Bool.not_eq_true] at h
      rw [h, Bool.false_and]
      refine Ev.step (fun k => ?_) (Ev.now _)
      simp only [impl_LinesOk.l3, rdAt98 hlt, e1]
      rw [if_pos (by omega), if_pos (by omega), if_pos (by omega), walk_is, h, if_neg (by simp)]
theorem spec_trips (a : List ByteArray) (b : List S93) (c : List S98) (hb : b.length ≤ 500) (hs : ∀ t ∈ b, sm93 t) {r : Bool} (hr : Ev (fun k => spec_LinesOk.l2 k (a.length : Int) 0 a b c) r) (d : Nat) :
    ∀ j : Nat, j + d = b.length → Ev (fun k => spec_LinesOk.l1 k (j : Int) a b c) ((b.drop j).all (tripB a.length) && r) := by
  induction d with
  | zero =>
    intro j hj
    rw [List.drop_of_length_le (by omega), List.all_nil, Bool.true_and]
    refine Ev.step (fun k => ?_) hr
    simp only [spec_LinesOk.l1]
    rw [if_neg (by omega)]
  | succ d ih =>
    intro j hj
    have hlt : j < b.length := by omega
    have e1 : wrap64 ((j : Int) + 1) = ((j + 1 : Nat) : Int) := by rw [w64 (by omega) (by omega)]; omega
    rw [drop_all _ _ hlt]
    obtain ⟨K1, h1⟩ := spec_trip a b c b[j] (hs _ (List.getElem_mem hlt)).1
    obtain ⟨K2, h2⟩ := ih (j + 1) (by omega)
    refine ⟨K1 + K2 + 1, fun m hm => ?_⟩
    obtain ⟨k, rfl⟩ : ∃ k, m = k + 1 := ⟨m - 1, by omega⟩
    have h1 := h1 k (by omega)
    have h2 := h2 k (by omega)
    simp only at h1 h2
    simp only [spec_LinesOk.l1, rdAt93 hlt, e1]
    rw [if_pos (by omega), if_pos (by omega), h1]
    simp only [Option.bind_some]
    cases tripB (a.length : Int) b[j] with
    | true => simp only [if_true, Bool.true_and]; exact h2
    | false => simp
theorem spec_stops (a : List ByteArray) (b : List S93) (c : List S98) (ha : a.length ≤ 200) (hs : ∀ t ∈ a, t.size ≤ 1048576) {r : Bool} (hr : Ev (fun k => spec_LinesOk.l1 k 0 a b c) r) (d : Nat) :
    ∀ j : Nat, j + d = a.length → Ev (fun k => spec_LinesOk.l0 k (j : Int) a b c) ((a.drop j).all nameB && r) := by
  induction d with
  | zero =>
    intro j hj
    rw [List.drop_of_length_le (by omega), List.all_nil, Bool.true_and]
    refine Ev.step (fun k => ?_) hr
    simp only [spec_LinesOk.l0]
    rw [if_neg (by omega)]
  | succ d ih =>
    intro j hj
    have hlt : j < a.length := by omega
    have e1 : wrap64 ((j : Int) + 1) = ((j + 1 : Nat) : Int) := by rw [w64 (by omega) (by omega)]; omega
    rw [drop_all _ _ hlt]
    obtain ⟨K1, h1⟩ := spec_name a[j] (hs _ (List.getElem_mem hlt))
    obtain ⟨K2, h2⟩ := ih (j + 1) (by omega)
    refine ⟨K1 + K2 + 1, fun m hm => ?_⟩
    obtain ⟨k, rfl⟩ : ∃ k, m = k + 1 := ⟨m - 1, by omega⟩
    have h1 := h1 k (by omega)
    have h2 := h2 k (by omega)
    simp only at h1 h2
    simp only [spec_LinesOk.l0, rdAtStr hlt, e1]
    rw [if_pos (by omega), if_pos (by omega), h1]
    simp only [Option.bind_some]
    cases nameB a[j] with
    | true => simp only [if_true, Bool.true_and]; exact h2
    | false => simp
theorem spec_lines (a : List ByteArray) (b : List S93) (c : List S98) (ha : ∀ t ∈ a, t.size ≤ 1048576) (hb : ∀ t ∈ b, sm93 t) : Ev (fun k => spec_LinesOk.f k a b c) (linesB a b c) := by
  have no : Ev (fun k => spec_LinesOk.j0 k true a b c) false := Ev.step (fun k => by simp only [spec_LinesOk.j0, if_true]) (Ev.now _)
  unfold spec_LinesOk.f linesB
  by_cases h1 : (a.length : Int) > 200
  · simp only [if_pos h1, decide_eq_false (show ¬ a.length ≤ 200 by omega), Bool.false_and]; exact no
  simp only [if_neg h1, decide_eq_true (show a.length ≤ 200 by omega), Bool.true_and]
  by_cases h2 : (b.length : Int) > 500
  · simp only [if_pos h2, decide_eq_false (show ¬ b.length ≤ 500 by omega), Bool.false_and]; exact no
  simp only [if_neg h2, decide_eq_true (show b.length ≤ 500 by omega), Bool.true_and]
  by_cases h3 : (c.length : Int) > 300
  · simp only [decide_eq_true h3, decide_eq_false (show ¬ c.length ≤ 300 by omega), Bool.false_and]; exact no
  simp only [decide_eq_false h3, decide_eq_true (show c.length ≤ 300 by omega), Bool.true_and]
  have w := spec_walks (a.length : Int) a b c (by omega) c.length 0 (by omega)
  have t := spec_trips a b c (by omega) hb w b.length 0 (by omega)
  have s := spec_stops a b c (by omega) ha t a.length 0 (by omega)
  simp only [List.drop_zero] at s
  refine Ev.step (fun k => ?_) s
  simp only [spec_LinesOk.j0, Bool.false_eq_true, if_false]
  rfl
theorem impl_calls (a : List ByteArray) (b : List S93) (c : List S98) (n : Int) (x y : Int) (ts : List S93) (u : ByteArray) (v : Int) (cs : List S95) (hc : cs.length ≤ 40) {r : Bool} (hr : Ev (fun k => impl_LinesOk.l1 k n ts x (wrap64 (y + 1)) a b c) r) (d : Nat) :
    ∀ (j : Nat) (last : Int), j + d = cs.length → 0 ≤ last → (j = 0 → last = 0) → (0 < j → last = (cs.getD (j - 1) z95).f2) → Ev (fun k => impl_LinesOk.l2 k n ts x y cs (cs.length : Int) (j : Int) a b c u v cs) (callsFrom n cs d j last && r) := by
  induction d with
  | zero =>
    intro j last hj _ _ _
    simp only [callsFrom, Bool.true_and]
    refine Ev.step (fun k => ?_) hr
    simp only [impl_LinesOk.l2]
    rw [if_neg (by omega)]
  | succ d ih =>
    intro j last hj h0 hz hp
    have e1 : wrap64 ((j : Int) + 1) = ((j + 1 : Nat) : Int) := by rw [w64 (by omega) (by omega)]; omega
    have yes : ∀ k, impl_LinesOk.j5 (k + 1) n (j : Int) ts x y cs (cs.length : Int) (j : Int) true a b c u v cs (cs.getD j z95).f0 (cs.getD j z95).f1 (cs.getD j z95).f2 = some false := fun k => by simp only [impl_LinesOk.j5, if_true]
    simp only [callsFrom]
    by_cases h1 : (cs.getD j z95).f0 < 0
    · rw [if_pos h1, Bool.false_and]
      refine ⟨2, fun m hm => ?_⟩
      obtain ⟨k, rfl⟩ : ∃ k, m = k + 1 + 1 := ⟨m - 2, by omega⟩
      simp only [impl_LinesOk.l2, rdC0]
      rw [if_pos (by omega), if_pos (by omega), if_pos (by omega), if_pos h1, yes]
    rw [if_neg h1]
    by_cases h2 : (cs.getD j z95).f0 ≥ n
    · rw [if_pos h2, Bool.false_and]
      refine ⟨2, fun m hm => ?_⟩
      obtain ⟨k, rfl⟩ : ∃ k, m = k + 1 + 1 := ⟨m - 2, by omega⟩
      simp only [impl_LinesOk.l2, rdC0]
      rw [if_pos (by omega), if_pos (by omega), if_pos (by omega), if_neg h1, if_pos h2, yes]
    rw [if_neg h2]
    by_cases h3 : (cs.getD j z95).f1 < 0
    · rw [if_pos (show (cs.getD j z95).f1 < last by omega), Bool.false_and]
      refine ⟨2, fun m hm => ?_⟩
      obtain ⟨k, rfl⟩ : ∃ k, m = k + 1 + 1 := ⟨m - 2, by omega⟩
      simp only [impl_LinesOk.l2, rdC0]
      rw [if_pos (by omega), if_pos (by omega), if_pos (by omega), if_neg h1, if_neg h2, if_pos h3, yes]
    by_cases h4 : (cs.getD j z95).f2 < (cs.getD j z95).f1
    · have e : (if (cs.getD j z95).f1 < last then false else if (cs.getD j z95).f2 < (cs.getD j z95).f1 then false else if (cs.getD j z95).f2 > 1000000 then false else if 0 < j ∧ (cs.getD (j - 1) z95).f0 = (cs.getD j z95).f0 then false else callsFrom n cs d (j + 1) (cs.getD j z95).f2) = false := by
        rw [if_pos h4]; split <;> rfl
      rw [e, Bool.false_and]
      refine ⟨2, fun m hm => ?_⟩
      obtain ⟨k, rfl⟩ : ∃ k, m = k + 1 + 1 := ⟨m - 2, by omega⟩
      simp only [impl_LinesOk.l2, rdC0]
      rw [if_pos (by omega), if_pos (by omega), if_pos (by omega), if_neg h1, if_neg h2, if_neg h3, if_pos h4, yes]
    by_cases h5 : (cs.getD j z95).f2 > 1000000
    · have e : (if (cs.getD j z95).f1 < last then false else if (cs.getD j z95).f2 < (cs.getD j z95).f1 then false else if (cs.getD j z95).f2 > 1000000 then false else if 0 < j ∧ (cs.getD (j - 1) z95).f0 = (cs.getD j z95).f0 then false else callsFrom n cs d (j + 1) (cs.getD j z95).f2) = false := by
        rw [if_neg h4, if_pos h5]; split <;> rfl
      rw [e, Bool.false_and]
      refine ⟨2, fun m hm => ?_⟩
      obtain ⟨k, rfl⟩ : ∃ k, m = k + 1 + 1 := ⟨m - 2, by omega⟩
      simp only [impl_LinesOk.l2, rdC0]
      rw [if_pos (by omega), if_pos (by omega), if_pos (by omega), if_neg h1, if_neg h2, if_neg h3, if_neg h4, decide_eq_true h5, yes]
    rw [if_neg h4, if_neg h5]
    have head : ∀ k, impl_LinesOk.l2 (k + 1) n ts x y cs (cs.length : Int) (j : Int) a b c u v cs = impl_LinesOk.j5 k n (j : Int) ts x y cs (cs.length : Int) (j : Int) false a b c u v cs (cs.getD j z95).f0 (cs.getD j z95).f1 (cs.getD j z95).f2 := by
      intro k
      simp only [impl_LinesOk.l2, rdC0]
      rw [if_pos (by omega), if_pos (by omega), if_pos (by omega), if_neg h1, if_neg h2, if_neg h3, if_neg h4, decide_eq_false h5]
    by_cases h6 : 0 < j
    · obtain ⟨i, rfl⟩ : ∃ i, j = i + 1 := ⟨j - 1, by omega⟩
      have el := hp h6
      have e0 : wrap64 (((i + 1 : Nat) : Int) - 1) = (i : Int) := by rw [w64 (by omega) (by omega)]; omega
      simp only [Nat.add_sub_cancel] at el ⊢
      by_cases h7 : (cs.getD (i + 1) z95).f1 < last
      · rw [if_pos h7, Bool.false_and]
        refine ⟨2, fun m hm => ?_⟩
        obtain ⟨k, rfl⟩ : ∃ k, m = k + 1 + 1 := ⟨m - 2, by omega⟩
        refine (head _).trans ?_
        simp only [impl_LinesOk.j5, Bool.false_eq_true, if_false, e0, rdC0]
        rw [if_pos (by omega), if_pos (by omega), if_pos (by omega), if_pos (by omega)]
      · rw [if_neg h7]
        by_cases h8 : (cs.getD i z95).f0 = (cs.getD (i + 1) z95).f0
        · rw [if_pos ⟨h6, h8⟩, Bool.false_and]
          refine ⟨2, fun m hm => ?_⟩
          obtain ⟨k, rfl⟩ : ∃ k, m = k + 1 + 1 := ⟨m - 2, by omega⟩
          refine (head _).trans ?_
          simp only [impl_LinesOk.j5, Bool.false_eq_true, if_false, e0, rdC0]
          rw [if_pos (by omega), if_pos (by omega), if_pos (by omega), if_neg (by omega), if_pos h8.symm]
        · rw [if_neg (fun h => h8 h.2)]
          obtain ⟨K, hK⟩ := ih (i + 1 + 1) (cs.getD (i + 1) z95).f2 (by omega) (by omega) (by omega) (fun _ => rfl)
          refine ⟨K + 2, fun m hm => ?_⟩
          obtain ⟨k, rfl⟩ : ∃ k, m = k + 1 + 1 := ⟨m - 2, by omega⟩
          refine (head _).trans ?_
          simp only [impl_LinesOk.j5, Bool.false_eq_true, if_false, e0, rdC0]
          rw [if_pos (by omega), if_pos (by omega), if_pos (by omega), if_neg (by omega), if_neg (fun h => h8 h.symm), e1]
          exact hK k (by omega)
    · have el := hz (by omega)
      rw [if_neg (show ¬ (cs.getD j z95).f1 < last by omega), if_neg (fun h => h6 h.1)]
      obtain ⟨K, hK⟩ := ih (j + 1) (cs.getD j z95).f2 (by omega) (by omega) (by omega) (fun _ => rfl)
      refine ⟨K + 2, fun m hm => ?_⟩
      obtain ⟨k, rfl⟩ : ∃ k, m = k + 1 + 1 := ⟨m - 2, by omega⟩
      refine (head _).trans ?_
      simp only [impl_LinesOk.j5, Bool.false_eq_true, if_false]
      rw [if_neg (by omega), e1]
      exact hK k (by omega)
theorem impl_trips (a : List ByteArray) (b : List S93) (c : List S98) (n : Int) (hb : b.length ≤ 500) (hs : ∀ t ∈ b, sm93 t) {r : Bool} (hr : Ev (fun k => impl_LinesOk.l3 k n c (c.length : Int) 0) r) (d : Nat) :
    ∀ j : Nat, j + d = b.length → Ev (fun k => impl_LinesOk.l1 k n b (b.length : Int) (j : Int) a b c) ((b.drop j).all (tripB n) && r) := by
  induction d with
  | zero =>
    intro j hj
    rw [List.drop_of_length_le (by omega), List.all_nil, Bool.true_and]
    refine Ev.step (fun k => ?_) hr
    simp only [impl_LinesOk.l1]
    rw [if_neg (by omega)]
  | succ d ih =>
    intro j hj
    have hlt : j < b.length := by omega
    rw [drop_all _ _ hlt]
    have e1 : wrap64 ((j : Int) + 1) = ((j + 1 : Nat) : Int) := by rw [w64 (by omega) (by omega)]; omega
    have hnext := ih (j + 1) (by omega)
    rw [← e1] at hnext
    obtain ⟨K1, h1⟩ := impl_name b[j].f0 (hs _ (List.getElem_mem hlt)).1
    have no : ∀ k, impl_LinesOk.j3 (k + 1) n b (b.length : Int) (j : Int) true a b c b[j].f0 b[j].f1 b[j].f2 = some false := fun k => by simp only [impl_LinesOk.j3, if_true]
    unfold tripB
    by_cases g0 : nameB b[j].f0 = true
    · rw [g0, Bool.true_and]
      by_cases g1 : b[j].f1 < 1
      · rw [decide_eq_false (show ¬ 1 ≤ b[j].f1 by omega), Bool.false_and, Bool.false_and, Bool.false_and]
        refine ⟨K1 + 2, fun m hm => ?_⟩
        obtain ⟨k, rfl⟩ : ∃ k, m = k + 1 + 1 := ⟨m - 2, by omega⟩
        have h1 := h1 (k + 1) (by omega)
        simp only at h1
        simp only [impl_LinesOk.l1, rdAt93 hlt]
        rw [if_pos (by omega), if_pos (by omega), if_pos (by omega), h1, g0]
        simp only [Option.bind_some, if_true]
        rw [if_pos g1, no]
      rw [decide_eq_true (show 1 ≤ b[j].f1 by omega), Bool.true_and]
      by_cases g2 : b[j].f1 > 127
      · rw [decide_eq_false (show ¬ b[j].f1 ≤ 127 by omega), Bool.false_and, Bool.false_and, Bool.false_and]
        refine ⟨K1 + 2, fun m hm => ?_⟩
        obtain ⟨k, rfl⟩ : ∃ k, m = k + 1 + 1 := ⟨m - 2, by omega⟩
        have h1 := h1 (k + 1) (by omega)
        simp only at h1
        simp only [impl_LinesOk.l1, rdAt93 hlt]
        rw [if_pos (by omega), if_pos (by omega), if_pos (by omega), h1, g0]
        simp only [Option.bind_some, if_true]
        rw [if_neg g1, if_pos g2, no]
      rw [decide_eq_true (show b[j].f1 ≤ 127 by omega), Bool.true_and]
      by_cases g3 : (b[j].f2.length : Int) < 2
      · rw [decide_eq_false (show ¬ 2 ≤ b[j].f2.length by omega), Bool.false_and, Bool.false_and, Bool.false_and]
        refine ⟨K1 + 2, fun m hm => ?_⟩
        obtain ⟨k, rfl⟩ : ∃ k, m = k + 1 + 1 := ⟨m - 2, by omega⟩
        have h1 := h1 (k + 1) (by omega)
        simp only at h1
        simp only [impl_LinesOk.l1, rdAt93 hlt]
        rw [if_pos (by omega), if_pos (by omega), if_pos (by omega), h1, g0]
        simp only [Option.bind_some, if_true]
        rw [if_neg g1, if_neg g2, if_pos g3, no]
      rw [decide_eq_true (show 2 ≤ b[j].f2.length by omega), Bool.true_and]
      by_cases g4 : (b[j].f2.length : Int) > 40
      · rw [decide_eq_false (show ¬ b[j].f2.length ≤ 40 by omega), Bool.false_and, Bool.false_and, Bool.false_and]
        refine ⟨K1 + 2, fun m hm => ?_⟩
        obtain ⟨k, rfl⟩ : ∃ k, m = k + 1 + 1 := ⟨m - 2, by omega⟩
        have h1 := h1 (k + 1) (by omega)
        simp only at h1
        simp only [impl_LinesOk.l1, rdAt93 hlt]
        rw [if_pos (by omega), if_pos (by omega), if_pos (by omega), h1, g0]
        simp only [Option.bind_some, if_true]
        rw [if_neg g1, if_neg g2, if_neg g3, decide_eq_true g4, no]
      rw [decide_eq_true (show b[j].f2.length ≤ 40 by omega), Bool.true_and]
      obtain ⟨K2, h2⟩ := impl_calls a b c n (b.length : Int) (j : Int) b b[j].f0 b[j].f1 b[j].f2 (by omega) hnext b[j].f2.length 0 0 (by omega) (by omega) (fun _ => rfl) (fun h => absurd h (Nat.lt_irrefl 0))
      rw [Bool.and_assoc] at *
      refine ⟨K1 + K2 + 2, fun m hm => ?_⟩
      obtain ⟨k, rfl⟩ : ∃ k, m = k + 1 + 1 := ⟨m - 2, by omega⟩
      have h1 := h1 (k + 1) (by omega)
      have h2 := h2 k (by omega)
      simp only at h1 h2
      simp only [impl_LinesOk.l1, rdAt93 hlt]
      rw [if_pos (by omega), if_pos (by omega), if_pos (by omega), h1, g0]
      simp only [Option.bind_some, if_true]
      rw [if_neg g1, if_neg g2, if_neg g3, decide_eq_false g4]
      simp only [impl_LinesOk.j3, Bool.false_eq_true, if_false]
      exact h2
    · rw [Bool.not_eq_true] at g0
      rw [g0, Bool.false_and, Bool.false_and, Bool.false_and]
      refine ⟨K1 + 2, fun m hm => ?_⟩
      obtain ⟨k, rfl⟩ : ∃ k, m = k + 1 + 1 := ⟨m - 2, by omega⟩
      have h1 := h1 (k + 1) (by omega)
      simp only at h1
      simp only [impl_LinesOk.l1, rdAt93 hlt]
      rw [if_pos (by omega), if_pos (by omega), if_pos (by omega), h1, g0]
      simp only [Option.bind_some, Bool.false_eq_true, if_false]
      rw [no]
theorem impl_stops (a : List ByteArray) (b : List S93) (c : List S98) (ha : a.length ≤ 200) (hs : ∀ t ∈ a, t.size ≤ 1048576) {r : Bool} (hr : Ev (fun k => impl_LinesOk.l1 k (a.length : Int) b (b.length : Int) 0 a b c) r) (d : Nat) :
    ∀ j : Nat, j + d = a.length → Ev (fun k => impl_LinesOk.l0 k a (a.length : Int) (j : Int) a b c) ((a.drop j).all nameB && r) := by
  induction d with
  | zero =>
    intro j hj
    rw [List.drop_of_length_le (by omega), List.all_nil, Bool.true_and]
    refine Ev.step (fun k => ?_) hr
    simp only [impl_LinesOk.l0]
    rw [if_neg (by omega)]
  | succ d ih =>
    intro j hj
    have hlt : j < a.length := by omega
    have e1 : wrap64 ((j : Int) + 1) = ((j + 1 : Nat) : Int) := by rw [w64 (by omega) (by omega)]; omega
    rw [drop_all _ _ hlt]
    obtain ⟨K1, h1⟩ := impl_name a[j] (hs _ (List.getElem_mem hlt))
    obtain ⟨K2, h2⟩ := ih (j + 1) (by omega)
    refine ⟨K1 + K2 + 1, fun m hm => ?_⟩
    obtain ⟨k, rfl⟩ : ∃ k, m = k + 1 := ⟨m - 1, by omega⟩
    have h1 := h1 k (by omega)
    have h2 := h2 k (by omega)
    simp only at h1 h2
    simp only [impl_LinesOk.l0, rdAtStr hlt, e1]
    rw [if_pos (by omega), if_pos (by omega), if_pos (by omega), h1]
    simp only [Option.bind_some]
    cases nameB a[j] with
    | true => simp only [if_true, Bool.true_and]; exact h2
    | false => simp
theorem impl_lines (a : List ByteArray) (b : List S93) (c : List S98) (ha : ∀ t ∈ a, t.size ≤ 1048576) (hb : ∀ t ∈ b, sm93 t) : Ev (fun k => impl_LinesOk.f k a b c) (linesB a b c) := by
  have no : Ev (fun k => impl_LinesOk.j0 k true a b c) false := Ev.step (fun k => by simp only [impl_LinesOk.j0, if_true]) (Ev.now _)
  unfold impl_LinesOk.f linesB
  by_cases h1 : (a.length : Int) > 200
  · simp only [if_pos h1, decide_eq_false (show ¬ a.length ≤ 200 by omega), Bool.false_and]; exact no
  simp only [if_neg h1, decide_eq_true (show a.length ≤ 200 by omega), Bool.true_and]
  by_cases h2 : (b.length : Int) > 500
  · simp only [if_pos h2, decide_eq_false (show ¬ b.length ≤ 500 by omega), Bool.false_and]; exact no
  simp only [if_neg h2, decide_eq_true (show b.length ≤ 500 by omega), Bool.true_and]
  by_cases h3 : (c.length : Int) > 300
  · simp only [decide_eq_true h3, decide_eq_false (show ¬ c.length ≤ 300 by omega), Bool.false_and]; exact no
  simp only [decide_eq_false h3, decide_eq_true (show c.length ≤ 300 by omega), Bool.true_and]
  have w := impl_walks (a.length : Int) c (by omega) c.length 0 (by omega)
  have t := impl_trips a b c (a.length : Int) (by omega) hb w b.length 0 (by omega)
  have s := impl_stops a b c (by omega) ha t a.length 0 (by omega)
  simp only [List.drop_zero] at s
  refine Ev.step (fun k => ?_) s
  simp only [impl_LinesOk.j0, Bool.false_eq_true, if_false]
  rfl
theorem FnExactLinesOk : PreFnExactLinesOk.Pure := by
  intro a b c wa wb wc
  suffices h : Ev (fun k => laws_FnExactLinesOk.f k a b c) true from h.rounds
  unfold laws_FnExactLinesOk.f
  obtain ⟨t, et, _, _, ht⟩ := sz_Lines a b c wa wb wc (n := 1048576) (by omega) (by omega)
  refine Ev.bind et ?_
  by_cases h : t < 0
  · simp only [if_pos h]; exact Ev.now _
  · simp only [if_neg h]
    obtain ⟨sa, sb, sc⟩ := ht (by omega)
    have ev := to_Lines a b c sa sb sc
    have sb' : (b.map cv171).length ≤ 1048576 ∧ ∀ y ∈ b.map cv171, sm93 y := ⟨by rw [List.length_map]; exact sb.1, fun y hy => by obtain ⟨z, hz, rfl⟩ := List.mem_map.1 hy; exact smcv171 (sb.2 z hz)⟩
    refine Ev.bind ev (Ev.bind (spec_lines _ _ _ sa.2 sb'.2) (Ev.bind ev (Ev.bind (impl_lines _ _ _ sa.2 sb'.2) ?_)))
    simp only [bne_self_eq_false, Bool.false_eq_true, if_false]
    refine Ev.bind ev (Ev.bind (eq_Lines _ _ _ sa sb' (by rw [List.length_map]; exact sc)) ?_)
    simp only [if_true]
    exact Ev.now _

end Go.Proofs.Ytolejglfohagnaa.Pure
