/- Bounds of the program and of the reference give the same box at every row. No condition beyond the statement's own guard. -/
import Derived.Test.YtcpgphmaibajlaaPreFnExactBounds
import Derived.Test.YtcpgphmaibajlaaVFnExactBoundsa
namespace Go.Proofs.Ytcpgphmaibajlaa.Pure
open Go.RowKit Go.Proofs.Ytcpgphmaibajlaa.PFnExactBounds Go.Proofs.Ytcpgphmaibajlaa.PreFnExactBounds Go.Proofs.YtcpgphmaibajlaaW.PrintWords Go.Proofs.YtcpgphmaibajlaaW.PrintLast Go.Proofs.YtcpgphmaibajlaaW.PrintMore Go.Proofs.YtcpgphmaibajlaaW.Math
set_option linter.unusedVariables false
set_option linter.unusedSimpArgs false

theorem rdP {l : List S25} {j : Nat} (h : j < l.length) : rd_T25 l (j : Int) = l[j] := by
  unfold rd_T25
  simp [List.getD_eq_getElem?_getD, h]
/-- A point of the map, as a word. -/
def okB (p : S25) : Bool := decide (OkP p.f0 p.f1)
/-- A row of the map. -/
def rowB (l : List S25) : Bool := decide (l.length ≤ 2000) && l.all okB
theorem all_drop {α : Type} (f : α → Bool) (l : List α) {j : Nat} (h : j < l.length) : (l.drop j).all f = (f l[j] && (l.drop (j + 1)).all f) := by
  rw [List.drop_eq_getElem_cons h, List.all_cons]
theorem rowB_len {l : List S25} (h : rowB l = true) : l.length ≤ 2000 := by
  unfold rowB at h
  simp at h
  exact h.1
theorem rowB_get {l : List S25} (h : rowB l = true) {j : Nat} (hj : j < l.length) : OkP l[j].f0 l[j].f1 := by
  unfold rowB okB at h
  simp at h
  exact h.2 _ (List.getElem_mem hj)

theorem rdL {l : List S23} {j : Nat} (h : j < l.length) : rd_T23 l (j : Int) = l[j] := by
  unfold rd_T23
  simp [List.getD_eq_getElem?_getD, h]
/-- A point of the statement's, as the program's. -/
def toP (p : S23) : S25 := ⟨p.f0, p.f1⟩
theorem sz_points {l : List S23} (hl : l.length ≤ 9223372036854775807) : laws_szPointS.f l 1048576 = some (if 1048576 < l.length then -1 else 1048576 - (l.length : Int)) := by
  unfold laws_szPointS.f
  rw [w64 (by omega) (by omega)]
  by_cases h : 1048576 < l.length
  · rw [if_pos (by omega), if_pos h]
  · rw [if_neg (by omega), if_neg h]
theorem to_points_loop (l : List S23) (hl : l.length ≤ 1048576) (d : Nat) : ∀ j : Nat, j + d = l.length → Ev (fun k => laws_toPointS.l0 k l ((l.take j).map toP ++ List.replicate d z25) j) (l.map toP) := by
  induction d with
  | zero =>
    intro j hj
    obtain rfl : j = l.length := by omega
    refine Ev.step (fun k => ?_) (Ev.now _)
    simp only [laws_toPointS.l0]
    rw [if_neg (by omega), List.take_length]
    simp
  | succ d ih =>
    intro j hj
    have hlt : j < l.length := by omega
    have hlen : ((l.take j).map toP).length = j := by rw [List.length_map, List.length_take]; omega
    refine Ev.step (fun k => ?_) (ih (j + 1) (by omega))
    simp only [laws_toPointS.l0, laws_toPoint.f, Option.bind_some]
    rw [if_pos (by omega), if_pos (by omega), if_pos (by rw [List.length_append, List.length_replicate, hlen]; omega), w64 (n := (j : Int) + 1) (by omega) (by omega), rdL hlt, Int.toNat_natCast]
    have h := fill_set ((l.take j).map toP) z25 (toP l[j]) d
    rw [hlen] at h
    have e : (⟨l[j].f0, l[j].f1⟩ : S25) = toP l[j] := rfl
    rw [e, h, take_next l hlt, List.map_append]
    rfl
theorem to_points {l : List S23} (hl : l.length ≤ 1048576) : Ev (fun k => laws_toPointS.f k l) (l.map toP) := by
  have h := to_points_loop l hl l.length 0 (by omega)
  refine Ev.congr (fun k => ?_) h
  unfold laws_toPointS.f
  rw [if_pos (by omega), if_pos (by simp; omega)]
  simp
theorem eq_points_loop (l : List S25) (hl : l.length ≤ 1048576) (d : Nat) : ∀ j : Nat, j + d = l.length → Ev (fun k => laws_eqPointS.l0 k l l j) true := by
  induction d with
  | zero =>
    intro j hj
    refine Ev.step (fun k => ?_) (Ev.now _)
    simp only [laws_eqPointS.l0]
    rw [if_neg (by omega)]
  | succ d ih =>
    intro j hj
    refine Ev.step (fun k => ?_) (ih (j + 1) (by omega))
    simp only [laws_eqPointS.l0, laws_eqPoint.f]
    rw [if_pos (by omega), if_pos (by omega), if_pos (by omega), w64 (n := (j : Int) + 1) (by omega) (by omega)]
    simp
theorem eq_points {l : List S25} (hl : l.length ≤ 1048576) : Ev (fun k => laws_eqPointS.f k l l) true := by
  refine Ev.congr (fun k => ?_) (eq_points_loop l hl l.length 0 (by omega))
  unfold laws_eqPointS.f
  rw [if_pos rfl]
  rfl

theorem spec_ok (x y : Int) : spec_PointOk.f x y = some (decide (OkP x y)) := by
  unfold spec_PointOk.f OkP
  grind



theorem spec_row_loop (l : List S25) (hl : l.length ≤ 1048576) (d : Nat) : ∀ j : Nat, j + d = l.length → Ev (fun k => spec_l1RowOk.l0 k l j) (decide (l.length ≤ 2000) && (l.drop j).all okB) := by
  induction d with
  | zero =>
    intro j hj
    rw [List.drop_of_length_le (by omega), List.all_nil, Bool.and_true]
    refine Ev.step (f := fun k => spec_l1RowOk.j1 k l j false) (fun k => ?_) (Ev.step (fun k => ?_) (Ev.now _))
    · simp only [spec_l1RowOk.l0]
      rw [if_neg (by omega)]
    · simp only [spec_l1RowOk.j1]
      rw [if_neg (by simp)]
      simp
      omega
  | succ d ih =>
    intro j hj
    have hlt : j < l.length := by omega
    by_cases h2 : l.length ≤ 2000
    · rw [decide_eq_true h2, Bool.true_and, all_drop _ _ hlt]
      have h1 : ∀ k, spec_l1RowOk.l0 (k + 1) l j = spec_l1RowOk.j1 k l j true := fun k => by
        simp only [spec_l1RowOk.l0]
        rw [if_pos (by omega), decide_eq_true (by omega)]
      refine Ev.step h1 ?_
      by_cases hp : OkP l[j].f0 l[j].f1
      · have hB : okB l[j] = true := decide_eq_true hp
        have h := ih (j + 1) (by omega)
        rw [decide_eq_true h2, Bool.true_and] at h
        rw [hB, Bool.true_and]
        refine Ev.step (fun k => ?_) h
        simp only [spec_l1RowOk.j1, spec_ok, Option.bind_some, if_true]
        rw [if_pos (by omega), if_pos (by omega), rdP hlt, if_pos (decide_eq_true hp), w64 (n := (j : Int) + 1) (by omega) (by omega)]
        rfl
      · have hB : okB l[j] = false := decide_eq_false hp
        rw [hB, Bool.false_and]
        refine Ev.step (fun k => ?_) (Ev.now _)
        simp only [spec_l1RowOk.j1, spec_ok, Option.bind_some, if_true]
        rw [if_pos (by omega), if_pos (by omega), rdP hlt, if_neg (by simp [hp])]
    · rw [decide_eq_false h2, Bool.false_and]
      refine Ev.step (f := fun k => spec_l1RowOk.j1 k l j false) (fun k => ?_) (Ev.step (fun k => ?_) (Ev.now _))
      · simp only [spec_l1RowOk.l0]
        rw [if_pos (by omega), decide_eq_false (by omega)]
      · simp only [spec_l1RowOk.j1]
        rw [if_neg (by simp), decide_eq_false (by omega)]
theorem spec_row {l : List S25} (hl : l.length ≤ 1048576) : Ev (fun k => spec_l1RowOk.f k l) (rowB l) := by
  have h := spec_row_loop l hl l.length 0 (by omega)
  rw [List.drop_zero] at h
  exact h

theorem impl_ok (x y : Int) : impl_PointOk.f x y = some (decide (OkP x y)) := by
  unfold impl_PointOk.f OkP
  grind

theorem impl_row_loop (l : List S25) (hl : l.length ≤ 2000) (d : Nat) : ∀ j : Nat, j + d = l.length → Ev (fun k => impl_rowOk.l0 k l (l.length : Int) j) ((l.drop j).all okB) := by
  induction d with
  | zero =>
    intro j hj
    rw [List.drop_of_length_le (by omega), List.all_nil]
    refine Ev.step (fun k => ?_) (Ev.now _)
    simp only [impl_rowOk.l0]
    rw [if_neg (by omega)]
  | succ d ih =>
    intro j hj
    have hlt : j < l.length := by omega
    rw [all_drop _ _ hlt]
    by_cases hp : OkP l[j].f0 l[j].f1
    · have hB : okB l[j] = true := decide_eq_true hp
      rw [hB, Bool.true_and]
      refine Ev.step (fun k => ?_) (ih (j + 1) (by omega))
      simp only [impl_rowOk.l0, impl_ok, Option.bind_some]
      rw [if_pos (by omega), if_pos (by omega), if_pos (by omega), rdP hlt, if_pos (decide_eq_true hp), w64 (n := (j : Int) + 1) (by omega) (by omega)]
      rfl
    · have hB : okB l[j] = false := decide_eq_false hp
      rw [hB, Bool.false_and]
      refine Ev.step (fun k => ?_) (Ev.now _)
      simp only [impl_rowOk.l0, impl_ok, Option.bind_some]
      rw [if_pos (by omega), if_pos (by omega), if_pos (by omega), rdP hlt, if_neg (by simp [hp])]
theorem impl_row (l : List S25) : Ev (fun k => impl_rowOk.f k l) (rowB l) := by
  unfold rowB
  by_cases h : l.length ≤ 2000
  · have h1 := impl_row_loop l h l.length 0 (by omega)
    rw [List.drop_zero] at h1
    rw [decide_eq_true h, Bool.true_and]
    refine Ev.congr (fun k => ?_) h1
    unfold impl_rowOk.f
    rw [if_neg (by omega)]
    rfl
  · rw [decide_eq_false h, Bool.false_and]
    refine Ev.congr (fun k => ?_) (Ev.now _)
    unfold impl_rowOk.f
    rw [if_pos (by omega)]

theorem spec_bnds (l : List S25) (h : rowB l = true) (d : Nat) : ∀ (j : Nat) (a b c e : Int), j + d = l.length →
    Ev (fun k => spec_l1Bounds.l0 k l j a b c e) ((l.drop j).foldl bndStep (a, b, c, e)) := by
  have h2 := rowB_len h
  induction d with
  | zero =>
    intro j a b c e hd
    refine Ev.step (fun k => ?_) (Ev.now _)
    simp only [spec_l1Bounds.l0]
    rw [if_neg (by omega), List.drop_eq_nil_of_le (by omega)]
    rfl
  | succ d ih =>
    intro j a b c e hd
    have hlt : j < l.length := by omega
    have hr : rd_T25 l (j : Int) = l[j] := rdP hlt
    have hw : wrap64 ((j : Int) + 1) = ((j + 1 : Nat) : Int) := by rw [w64 (by omega) (by omega)]; omega
    have h0 : (0 : Int) ≤ j := by omega
    have h1 : (j : Int) < (l.length : Int) := by omega
    have e2 : (l.drop j).foldl bndStep (a, b, c, e) = (l.drop (j + 1)).foldl bndStep (mn a l[j].f0, mn b l[j].f1, mx c l[j].f0, mx e l[j].f1) := by
      rw [List.drop_eq_getElem_cons hlt]; rfl
    rw [e2]
    have s2 : ∀ x y : Int, Ev (fun k => spec_l1Bounds.j2 k l j x y c e) ((l.drop (j + 1)).foldl bndStep (x, y, mx c l[j].f0, mx e l[j].f1)) := by
      intro x y
      refine Ev.step (fun k => ?_) (ih (j + 1) x y (mx c l[j].f0) (mx e l[j].f1) (by omega))
      simp only [spec_l1Bounds.j2]
      rw [if_pos h0, if_pos h1, hr, hw]
      unfold mx
      by_cases q : c < l[j].f0 <;> by_cases r : e < l[j].f1 <;> simp [q, r]
    have s1 : ∀ x : Int, Ev (fun k => spec_l1Bounds.j1 k l j x b c e) ((l.drop (j + 1)).foldl bndStep (x, mn b l[j].f1, mx c l[j].f0, mx e l[j].f1)) := by
      intro x
      refine Ev.step (fun k => ?_) (s2 x (mn b l[j].f1))
      simp only [spec_l1Bounds.j1]
      rw [if_pos h0, if_pos h1, hr]
      unfold mn
      by_cases q : l[j].f1 < b <;> simp [q]
    refine Ev.step (fun k => ?_) (s1 (mn a l[j].f0))
    simp only [spec_l1Bounds.l0]
    rw [if_pos h1, if_pos h0, hr]
    unfold mn
    by_cases q : l[j].f0 < a <;> simp [q]
theorem bndOf_drop {l : List S25} (h : 0 < l.length) : (l.drop 1).foldl bndStep ((rd_T25 l 0).f0, (rd_T25 l 0).f1, (rd_T25 l 0).f0, (rd_T25 l 0).f1) = bndOf l := by
  cases l with
  | nil => exact absurd h (by simp)
  | cons p l =>
    have e : rd_T25 (p :: l) 0 = p := rdP (l := p :: l) (j := 0) (by simp)
    unfold bndOf
    rw [e]
    simp [bndStep, mn, mx]
theorem both_bounds {l : List S25} (hl : l.length ≤ 1048576) : ∃ r : Int × Int × Int × Int, Ev (fun k => spec_Bounds.f k l) r ∧ Ev (fun k => impl_Bounds.f k l) r := by
  unfold spec_Bounds.f impl_Bounds.f
  by_cases h : rowB l = true
  · by_cases h0 : l.length = 0
    · refine ⟨(0, 0, 0, 0), Ev.bind (spec_row hl) ?_, Ev.bind (impl_row l) ?_⟩
      · simp only [h, if_true, if_pos (show (l.length : Int) = 0 by omega)]
        exact Ev.now _
      · simp only [h, if_true, if_pos h0]
        exact Ev.now _
    · have hb : Ev (fun k => spec_l1Bounds.f k l) (bndOf l) := by
        unfold spec_l1Bounds.f
        simp only [if_pos (show (0 : Int) < (l.length : Int) by omega)]
        rw [← bndOf_drop (by omega)]
        exact spec_bnds l h (l.length - 1) 1 _ _ _ _ (by omega)
      refine ⟨bndOf l, Ev.bind (spec_row hl) ?_, Ev.bind (impl_row l) ?_⟩
      · simp only [h, if_true, if_neg (show ¬ (l.length : Int) = 0 by omega)]
        exact Ev.bind hb (Ev.now _)
      · simp only [h, if_true, if_neg h0, if_pos (rowB_len h)]
        exact Ev.now _
  · refine ⟨(0, 0, 0, 0), Ev.bind (spec_row hl) ?_, Ev.bind (impl_row l) ?_⟩
    · simp only [h, if_false]
      exact Ev.now _
    · simp only [h, if_false]
      exact Ev.now _
theorem FnExactBounds : PreFnExactBounds.Pure := by
  intro l ⟨hl, _⟩
  refine Ev.rounds (g := fun k => laws_FnExactBounds.f k l) ?_
  unfold laws_FnExactBounds.f
  rw [sz_points hl]
  simp only [Option.bind_some]
  by_cases hbig : 1048576 < l.length
  · rw [if_pos hbig]
    exact Ev.now _
  · rw [if_neg hbig]
    simp only [if_neg (show ¬ (1048576 - (l.length : Int) < 0) by omega)]
    have hlen : (l.map toP).length ≤ 1048576 := by rw [List.length_map]; omega
    obtain ⟨r, hs, hi⟩ := both_bounds hlen
    refine Ev.bind (to_points (by omega)) (Ev.bind hs (Ev.bind (to_points (by omega)) (Ev.bind hi ?_)))
    have he : ∀ a b c d : Int, laws_eqBox.f a b c d a b c d = some true := by
      intro a b c d
      simp [laws_eqBox.f, laws_eqPoint.f]
    simp only [he, Option.bind_some, if_true]
    refine Ev.bind (to_points (by omega)) (Ev.bind (eq_points hlen) ?_)
    simp only [if_true]
    exact Ev.now _

end Go.Proofs.Ytcpgphmaibajlaa.Pure
