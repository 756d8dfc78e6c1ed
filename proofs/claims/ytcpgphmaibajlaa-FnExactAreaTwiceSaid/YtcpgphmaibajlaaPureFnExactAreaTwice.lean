/- AreaTwice of the program and of the reference give the same number at every row. No condition beyond the statement's own guard. -/
import Derived.Test.YtcpgphmaibajlaaPreFnExactAreaTwice
import Derived.Test.YtcpgphmaibajlaaWMath
namespace Go.Proofs.Ytcpgphmaibajlaa.Pure
open Go.RowKit Go.Proofs.Ytcpgphmaibajlaa.PFnExactAreaTwice Go.Proofs.Ytcpgphmaibajlaa.PreFnExactAreaTwice Go.Proofs.YtcpgphmaibajlaaW.PrintWords Go.Proofs.YtcpgphmaibajlaaW.PrintLast Go.Proofs.YtcpgphmaibajlaaW.PrintMore Go.Proofs.YtcpgphmaibajlaaW.Math
set_option linter.unusedVariables false
set_option linter.unusedSimpArgs false

theorem spec_ok (x y : Int) : spec_PointOk.f x y = some (decide (OkP x y)) := by
  unfold spec_PointOk.f OkP
  grind

theorem rdP {l : List S25} {j : Nat} (h : j < l.length) : rd_T25 l (j : Int) = l[j] := by
  unfold rd_T25
  simp [List.getD_eq_getElem?_getD, h]
theorem rdL {l : List S23} {j : Nat} (h : j < l.length) : rd_T23 l (j : Int) = l[j] := by
  unfold rd_T23
  simp [List.getD_eq_getElem?_getD, h]
/-- A point of the statement's, as the program's. -/
def toP (p : S23) : S25 := ⟨p.f0, p.f1⟩
theorem sz_points {l : List S23} (hl : l.length ≤ 9223372036854775807) : laws_szPointS.f l 1048576 = some (if 1048576 < l.length then -1 else 1048576 - (l.length : Int)) := by
  unfold laws_szPointS.f
  rw [w64 (by omega) (by omega)]
  by_cases h : 1048576 < l.length
  · rw [if_pos (by omega), if_pos h]
  · rw [if_neg (by omega), if_neg h]
theorem to_points_loop (l : List S23) (hl : l.length ≤ 1048576) (d : Nat) : ∀ j : Nat, j + d = l.length → Ev (fun k => laws_toPointS.l0 k l ((l.take j).map toP ++ List.replicate d z25) j) (l.map toP) := by
  induction d with
  | zero =>
    intro j hj
    obtain rfl : j = l.length := by omega
    refine Ev.step (fun k => ?_) (Ev.now _)
    simp only [laws_toPointS.l0]
    rw [if_neg (by omega), List.take_length]
    simp
  | succ d ih =>
    intro j hj
    have hlt : j < l.length := by omega
    have hlen : ((l.take j).map toP).length = j := by rw [List.length_map, List.length_take]; omega
    refine Ev.step (fun k => ?_) (ih (j + 1) (by omega))
    simp only [laws_toPointS.l0, laws_toPoint.f, Option.bind_some]
    rw [if_pos (by omega), if_pos (by omega), if_pos (by rw [List.length_append, List.length_replicate, hlen]; omega), w64 (n := (j : Int) + 1) (by omega) (by omega), rdL hlt, Int.toNat_natCast]
    have h := fill_set ((l.take j).map toP) z25 (toP l[j]) d
    rw [hlen] at h
    have e : (⟨l[j].f0, l[j].f1⟩ : S25) = toP l[j] := rfl
    rw [e, h, take_next l hlt, List.map_append]
    rfl
theorem to_points {l : List S23} (hl : l.length ≤ 1048576) : Ev (fun k => laws_toPointS.f k l) (l.map toP) := by
  have h := to_points_loop l hl l.length 0 (by omega)
  refine Ev.congr (fun k => ?_) h
  unfold laws_toPointS.f
  rw [if_pos (by omega), if_pos (by simp; omega)]
  simp
theorem eq_points_loop (l : List S25) (hl : l.length ≤ 1048576) (d : Nat) : ∀ j : Nat, j + d = l.length → Ev (fun k => laws_eqPointS.l0 k l l j) true := by
  induction d with
  | zero =>
    intro j hj
    refine Ev.step (fun k => ?_) (Ev.now _)
    simp only [laws_eqPointS.l0]
    rw [if_neg (by omega)]
  | succ d ih =>
    intro j hj
    refine Ev.step (fun k => ?_) (ih (j + 1) (by omega))
    simp only [laws_eqPointS.l0, laws_eqPoint.f]
    rw [if_pos (by omega), if_pos (by omega), if_pos (by omega), w64 (n := (j : Int) + 1) (by omega) (by omega)]
    simp
theorem eq_points {l : List S25} (hl : l.length ≤ 1048576) : Ev (fun k => laws_eqPointS.f k l l) true := by
  refine Ev.congr (fun k => ?_) (eq_points_loop l hl l.length 0 (by omega))
  unfold laws_eqPointS.f
  rw [if_pos rfl]
  rfl

/-- A point of the map, as a word. -/
def okB (p : S25) : Bool := decide (OkP p.f0 p.f1)
/-- A row of the map. -/
def rowB (l : List S25) : Bool := decide (l.length ≤ 2000) && l.all okB
theorem all_drop {α : Type} (f : α → Bool) (l : List α) {j : Nat} (h : j < l.length) : (l.drop j).all f = (f l[j] && (l.drop (j + 1)).all f) := by
  rw [List.drop_eq_getElem_cons h, List.all_cons]
theorem rowB_len {l : List S25} (h : rowB l = true) : l.length ≤ 2000 := by
  unfold rowB at h
  simp at h
  exact h.1
theorem rowB_get {l : List S25} (h : rowB l = true) {j : Nat} (hj : j < l.length) : OkP l[j].f0 l[j].f1 := by
  unfold rowB okB at h
  simp at h
  exact h.2 _ (List.getElem_mem hj)

theorem spec_row_loop (l : List S25) (hl : l.length ≤ 1048576) (d : Nat) : ∀ j : Nat, j + d = l.length → Ev (fun k => spec_l1RowOk.l0 k l j) (decide (l.length ≤ 2000) && (l.drop j).all okB) := by
  induction d with
  | zero =>
    intro j hj
    rw [List.drop_of_length_le (by omega), List.all_nil, Bool.and_true]
    refine Ev.step (f := fun k => spec_l1RowOk.j1 k l j false) (fun k => ?_) (Ev.step (fun k => ?_) (Ev.now _))
    · simp only [spec_l1RowOk.l0]
      rw [if_neg (by omega)]
    · simp only [spec_l1RowOk.j1]
      rw [if_neg (by simp)]
      simp
      omega
  | succ d ih =>
    intro j hj
    have hlt : j < l.length := by omega
    by_cases h2 : l.length ≤ 2000
    · rw [decide_eq_true h2, Bool.true_and, all_drop _ _ hlt]
      have h1 : ∀ k, spec_l1RowOk.l0 (k + 1) l j = spec_l1RowOk.j1 k l j true := fun k => by
        simp only [spec_l1RowOk.l0]
        rw [if_pos (by omega), decide_eq_true (by omega)]
      refine Ev.step h1 ?_
      by_cases hp : OkP l[j].f0 l[j].f1
      · have hB : okB l[j] = true := decide_eq_true hp
        have h := ih (j + 1) (by omega)
        rw [decide_eq_true h2, Bool.true_and] at h
        rw [hB, Bool.true_and]
        refine Ev.step (fun k => ?_) h
        simp only [spec_l1RowOk.j1, spec_ok, Option.bind_some, if_true]
        rw [if_pos (by omega), if_pos (by omega), rdP hlt, if_pos (decide_eq_true hp), w64 (n := (j : Int) + 1) (by omega) (by omega)]
        rfl
      · have hB : okB l[j] = false := decide_eq_false hp
        rw [hB, Bool.false_and]
        refine Ev.step (fun k => ?_) (Ev.now _)
        simp only [spec_l1RowOk.j1, spec_ok, Option.bind_some, if_true]
        rw [if_pos (by omega), if_pos (by omega), rdP hlt, if_neg (by simp [hp])]
    · rw [decide_eq_false h2, Bool.false_and]
      refine Ev.step (f := fun k => spec_l1RowOk.j1 k l j false) (fun k => ?_) (Ev.step (fun k => ?_) (Ev.now _))
      · simp only [spec_l1RowOk.l0]
        rw [if_pos (by omega), decide_eq_false (by omega)]
      · simp only [spec_l1RowOk.j1]
        rw [if_neg (by simp), decide_eq_false (by omega)]
theorem spec_row {l : List S25} (hl : l.length ≤ 1048576) : Ev (fun k => spec_l1RowOk.f k l) (rowB l) := by
  have h := spec_row_loop l hl l.length 0 (by omega)
  rw [List.drop_zero] at h
  exact h

theorem impl_ok (x y : Int) : impl_PointOk.f x y = some (decide (OkP x y)) := by
  unfold impl_PointOk.f OkP
  grind

theorem impl_row_loop (l : List S25) (hl : l.length ≤ 2000) (d : Nat) : ∀ j : Nat, j + d = l.length → Ev (fun k => impl_rowOk.l0 k l (l.length : Int) j) ((l.drop j).all okB) := by
  induction d with
  | zero =>
    intro j hj
    rw [List.drop_of_length_le (by omega), List.all_nil]
    refine Ev.step (fun k => ?_) (Ev.now _)
    simp only [impl_rowOk.l0]
    rw [if_neg (by omega)]
  | succ d ih =>
    intro j hj
    have hlt : j < l.length := by omega
    rw [all_drop _ _ hlt]
    by_cases hp : OkP l[j].f0 l[j].f1
    · have hB : okB l[j] = true := decide_eq_true hp
      rw [hB, Bool.true_and]
      refine Ev.step (fun k => ?_) (ih (j + 1) (by omega))
      simp only [impl_rowOk.l0, impl_ok, Option.bind_some]
      rw [if_pos (by omega), if_pos (by omega), if_pos (by omega), rdP hlt, if_pos (decide_eq_true hp), w64 (n := (j : Int) + 1) (by omega) (by omega)]
      rfl
    · have hB : okB l[j] = false := decide_eq_false hp
      rw [hB, Bool.false_and]
      refine Ev.step (fun k => ?_) (Ev.now _)
      simp only [impl_rowOk.l0, impl_ok, Option.bind_some]
      rw [if_pos (by omega), if_pos (by omega), if_pos (by omega), rdP hlt, if_neg (by simp [hp])]
theorem impl_row (l : List S25) : Ev (fun k => impl_rowOk.f k l) (rowB l) := by
  unfold rowB
  by_cases h : l.length ≤ 2000
  · have h1 := impl_row_loop l h l.length 0 (by omega)
    rw [List.drop_zero] at h1
    rw [decide_eq_true h, Bool.true_and]
    refine Ev.congr (fun k => ?_) h1
    unfold impl_rowOk.f
    rw [if_neg (by omega)]
    rfl
  · rw [decide_eq_false h, Bool.false_and]
    refine Ev.congr (fun k => ?_) (Ev.now _)
    unfold impl_rowOk.f
    rw [if_pos (by omega)]

/-- Twice the area that the stretches from place j on sweep, on top of t. -/
def twice (l : List S25) : Nat → Int → Nat → Int
  | 0, t, _ => t
  | d + 1, t, j => twice l d (t + ((rd_T25 l ((j : Int) - 1)).f0 * (rd_T25 l j).f1 - (rd_T25 l j).f0 * (rd_T25 l ((j : Int) - 1)).f1)) (j + 1)
theorem step_bd {ax ay bx by_ : Int} (ha : OkP ax ay) (hb : OkP bx by_) : (-100000000000000 ≤ ax * by_ ∧ ax * by_ ≤ 100000000000000) ∧ (-100000000000000 ≤ bx * ay ∧ bx * ay ≤ 100000000000000) := by
  unfold OkP at ha hb
  have h1 := mul_bd (p := ax) (q := by_) (B := 10000000) (C := 10000000) (by omega) (by omega) (by omega) (by omega)
  have h2 := mul_bd (p := bx) (q := ay) (B := 10000000) (C := 10000000) (by omega) (by omega) (by omega) (by omega)
  exact ⟨by omega, by omega⟩
theorem spec_twice (l : List S25) (h : rowB l = true) (d : Nat) : ∀ (j : Nat) (t : Int), 1 ≤ j → j + d = max l.length 1 → -200000000000000 * (j : Int) ≤ t → t ≤ 200000000000000 * (j : Int) → Ev (fun k => spec_l4Twice.l0 k l t j) (twice l d t j) := by
  have h2 := rowB_len h
  induction d with
  | zero =>
    intro j t hj hd h0 h1
    refine Ev.step (fun k => ?_) (Ev.now _)
    simp only [spec_l4Twice.l0]
    rw [if_neg (by omega)]
    rfl
  | succ d ih =>
    intro j t hj hd h0 h1
    obtain ⟨j, rfl⟩ : ∃ m, j = m + 1 := ⟨j - 1, by omega⟩
    have hlt : j + 1 < l.length := by omega
    have e1 : (((j + 1 : Nat) : Int) - 1) = (j : Int) := by omega
    have bd := step_bd (rowB_get h (show j < l.length by omega)) (rowB_get h hlt)
    have hr1 : rd_T25 l (j : Int) = l[j] := rdP (by omega)
    have hr2 : rd_T25 l ((j + 1 : Nat) : Int) = l[j + 1] := rdP hlt
    unfold twice
    rw [e1, hr1, hr2]
    refine Ev.step (fun k => ?_) (ih (j + 1 + 1) _ (by omega) (by omega) ?_ ?_)
    · simp only [spec_l4Twice.l0]
      have w1 : wrap64 (((j + 1 : Nat) : Int) - 1) = (j : Int) := by rw [w64 (by omega) (by omega)]; omega
      rw [w1, if_pos (by omega), if_pos (by omega), if_pos (by omega), if_pos (by omega), hr1, hr2]
      rw [w64 (n := l[j].f0 * l[j + 1].f1) (by omega) (by omega)]
      have ec : l[j].f1 * l[j + 1].f0 = l[j + 1].f0 * l[j].f1 := Int.mul_comm _ _
      rw [ec, w64 (n := l[j + 1].f0 * l[j].f1) (by omega) (by omega), w64 (n := t + l[j].f0 * l[j + 1].f1) (by omega) (by omega), w64 (n := t + l[j].f0 * l[j + 1].f1 - l[j + 1].f0 * l[j].f1) (by omega) (by omega), w64 (n := ((j + 1 : Nat) : Int) + 1) (by omega) (by omega)]
      have es : t + l[j].f0 * l[j + 1].f1 - l[j + 1].f0 * l[j].f1 = t + (l[j].f0 * l[j + 1].f1 - l[j + 1].f0 * l[j].f1) := by omega
      rw [es]
      rfl
    · omega
    · omega
theorem impl_twice (l : List S25) (h : rowB l = true) (d : Nat) : ∀ (j : Nat) (t : Int), 1 ≤ j → j + d = max l.length 1 → -200000000000000 * (j : Int) ≤ t → t ≤ 200000000000000 * (j : Int) → Ev (fun k => impl_AreaTwice.l0 k l t j) (twice l d t j) := by
  have h2 := rowB_len h
  induction d with
  | zero =>
    intro j t hj hd h0 h1
    refine Ev.step (fun k => ?_) (Ev.now _)
    simp only [impl_AreaTwice.l0]
    rw [if_neg (by omega)]
    rfl
  | succ d ih =>
    intro j t hj hd h0 h1
    obtain ⟨j, rfl⟩ : ∃ m, j = m + 1 := ⟨j - 1, by omega⟩
    have hlt : j + 1 < l.length := by omega
    have e1 : (((j + 1 : Nat) : Int) - 1) = (j : Int) := by omega
    have bd := step_bd (rowB_get h (show j < l.length by omega)) (rowB_get h hlt)
    have hr1 : rd_T25 l (j : Int) = l[j] := rdP (by omega)
    have hr2 : rd_T25 l ((j + 1 : Nat) : Int) = l[j + 1] := rdP hlt
    unfold twice
    rw [e1, hr1, hr2]
    refine Ev.step (fun k => ?_) (ih (j + 1 + 1) _ (by omega) (by omega) ?_ ?_)
    · simp only [impl_AreaTwice.l0]
      have w1 : wrap64 (((j + 1 : Nat) : Int) - 1) = (j : Int) := by rw [w64 (by omega) (by omega)]; omega
      rw [w1, if_pos (by omega), if_pos (by omega), if_pos (by omega), if_pos (by omega), hr1, hr2]
      rw [w64 (n := l[j].f0 * l[j + 1].f1) (by omega) (by omega), w64 (n := l[j + 1].f0 * l[j].f1) (by omega) (by omega), w64 (n := l[j].f0 * l[j + 1].f1 - l[j + 1].f0 * l[j].f1) (by omega) (by omega), w64 (n := t + (l[j].f0 * l[j + 1].f1 - l[j + 1].f0 * l[j].f1)) (by omega) (by omega), w64 (n := ((j + 1 : Nat) : Int) + 1) (by omega) (by omega)]
      rfl
    · omega
    · omega
/-- What AreaTwice answers. -/
def area (l : List S25) : Int := if rowB l = true then twice l (l.length - 1) 0 1 else 0
theorem spec_area {l : List S25} (hl : l.length ≤ 1048576) : Ev (fun k => spec_AreaTwice.f k l) (area l) := by
  unfold spec_AreaTwice.f area
  refine Ev.bind (spec_row hl) ?_
  by_cases h : rowB l = true
  · simp only [h, if_true]
    refine Ev.bind (g := fun k => spec_l4Twice.f k l) (spec_twice l h (l.length - 1) 1 0 (by omega) (by omega) (by omega) (by omega)) (Ev.now _)
  · simp only [h, if_false]
    exact Ev.now _
theorem impl_area (l : List S25) : Ev (fun k => impl_AreaTwice.f k l) (area l) := by
  unfold impl_AreaTwice.f area
  refine Ev.bind (impl_row l) ?_
  by_cases h : rowB l = true
  · simp only [h, if_true]
    exact impl_twice l h (l.length - 1) 1 0 (by omega) (by omega) (by omega) (by omega)
  · simp only [h, if_false]
    exact Ev.now _
theorem FnExactAreaTwice : PreFnExactAreaTwice.Pure := by
  intro l ⟨hl, _⟩
  refine Ev.rounds (g := fun k => laws_FnExactAreaTwice.f k l) ?_
  unfold laws_FnExactAreaTwice.f
  rw [sz_points hl]
  simp only [Option.bind_some]
  by_cases hbig : 1048576 < l.length
  · rw [if_pos hbig]
    exact Ev.now _
  · rw [if_neg hbig]
    simp only [if_neg (show ¬ (1048576 - (l.length : Int) < 0) by omega)]
    have hlen : (l.map toP).length ≤ 1048576 := by rw [List.length_map]; omega
    refine Ev.bind (to_points (by omega)) (Ev.bind (spec_area hlen) (Ev.bind (to_points (by omega)) (Ev.bind (impl_area _) ?_)))
    simp only [if_true]
    refine Ev.bind (to_points (by omega)) (Ev.bind (eq_points hlen) ?_)
    simp only [if_true]
    exact Ev.now _

end Go.Proofs.Ytcpgphmaibajlaa.Pure
