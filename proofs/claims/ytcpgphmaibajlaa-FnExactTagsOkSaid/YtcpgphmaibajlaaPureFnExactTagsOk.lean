/- TagsOk of the program and of the reference give the same answer at every tags. No condition beyond the statement's own guard. -/
import Derived.Test.YtcpgphmaibajlaaFrFnExactTagsOk
import Derived.Test.YtcpgphmaibajlaaVFnExactTagsOka
namespace Go.Proofs.Ytcpgphmaibajlaa.Pure
open Go.RowKit Go.Proofs.Ytcpgphmaibajlaa.PFnExactTagsOk Go.Proofs.Ytcpgphmaibajlaa.PreFnExactTagsOk Go.Proofs.YtcpgphmaibajlaaW.PrintWords Go.Proofs.YtcpgphmaibajlaaW.PrintLast Go.Proofs.YtcpgphmaibajlaaW.PrintMore Go.Proofs.YtcpgphmaibajlaaW.Math
set_option linter.unusedVariables false
set_option linter.unusedSimpArgs false

/-- A byte of a word. -/
def wordC (c : Int) : Bool := decide (97 ≤ c ∧ c ≤ 122 ∨ 48 ≤ c ∧ c ≤ 57 ∨ c = 58 ∨ c = 95)
theorem word_is (c : Int) (r : Option Bool) : (if c ≥ 97 then (if c ≤ 122 then r else (if c ≥ 48 then (if c ≤ 57 then r else (if c = 58 then r else (if (c = 95) then r else (some false)))) else (if c = 58 then r else (if (c = 95) then r else (some false))))) else (if c ≥ 48 then (if c ≤ 57 then r else (if c = 58 then r else (if (c = 95) then r else (some false)))) else (if c = 58 then r else (if (c = 95) then r else (some false))))) = if wordC c = true then r else some false := by
  unfold wordC
  simp only [decide_eq_true_eq]
  repeat' split
  all_goals first | rfl | (exfalso; omega)
/-- The bytes from j on, d of them, are a word's. -/
def wordFrom (s : ByteArray) : Nat → Nat → Bool
  | 0, _ => true
  | d + 1, j => wordC (bt s j) && wordFrom s d (j + 1)
def wordB (s : ByteArray) : Bool := decide (1 ≤ s.size) && (decide (s.size ≤ 40) && wordFrom s s.size 0)
/-- The bytes from j on, d of them, are told. -/
def nameFrom (s : ByteArray) : Nat → Nat → Bool
  | 0, _ => true
  | d + 1, j => if bt s j < 32 then false else if bt s j > 126 then false else nameFrom s d (j + 1)
def nameB (s : ByteArray) : Bool := decide (1 ≤ s.size) && (decide (s.size ≤ 100) && nameFrom s s.size 0)

theorem spec_name_loop (s : ByteArray) (hs : s.size ≤ 1048576) (d : Nat) : ∀ j : Nat, j + d = s.size → Ev (fun k => spec_l2ValueOk.l0 k s (j : Int)) (decide (1 ≤ s.size) && (decide (s.size ≤ 100) && nameFrom s d j)) := by
  induction d with
  | zero =>
    intro j hj
    refine Ev.step (fun k => ?_) (Ev.now _)
    simp only [spec_l2ValueOk.l0]
    rw [if_neg (by omega)]
    simp only [nameFrom, Bool.and_true]
    by_cases h1 : (s.size : Int) ≥ 1
    · rw [if_pos h1, decide_eq_true (show 1 ≤ s.size by omega), Bool.true_and, Option.some.injEq, decide_eq_decide]; omega
    · rw [if_neg h1, decide_eq_false (show ¬ 1 ≤ s.size by omega)]; rfl
  | succ d ih =>
    intro j hj
    have e1 : wrap64 ((j : Int) + 1) = ((j + 1 : Nat) : Int) := by rw [w64 (by omega) (by omega)]; omega
    simp only [nameFrom]
    by_cases h1 : bt s j < 32
    · rw [if_pos h1, Bool.and_false, Bool.and_false]
      refine Ev.step (fun k => ?_) (Ev.now _)
      simp only [spec_l2ValueOk.l0]
      rw [if_pos (by omega), if_pos (by omega), if_pos h1]
    · rw [if_neg h1]
      by_cases h2 : bt s j > 126
      · rw [if_pos h2, Bool.and_false, Bool.and_false]
        refine Ev.step (fun k => ?_) (Ev.now _)
        simp only [spec_l2ValueOk.l0]
        rw [if_pos (by omega), if_pos (by omega), if_neg h1, if_pos h2]
      · rw [if_neg h2]
        refine Ev.step (fun k => ?_) (ih (j + 1) (by omega))
        simp only [spec_l2ValueOk.l0]
        rw [if_pos (by omega), if_pos (by omega), if_neg h1, if_neg h2, e1]
theorem spec_name (s : ByteArray) (hs : s.size ≤ 1048576) : Ev (fun k => spec_l2ValueOk.f k s) (nameB s) := by
  have h := spec_name_loop s hs s.size 0 (by omega)
  exact h

theorem rdTg {l : List S82} {j : Nat} (h : j < l.length) : rd_T82 l (j : Int) = l[j] := by
  unfold rd_T82
  simp [List.getD_eq_getElem?_getD, h]
/-- The key at j comes behind the one ahead. -/
def ordB (ts : List S82) (j : Nat) : Bool := if 0 < j then Op.bytesLess (ts.getD (j - 1) z82).f0.toList (ts.getD j z82).f0.toList else true
theorem ordB_zero (ts : List S82) : ordB ts 0 = true := rfl
theorem getDT {l : List S82} {j : Nat} (h : j < l.length) : l.getD j z82 = l[j] := by simp [List.getD_eq_getElem?_getD, h]
theorem ordB_succ (ts : List S82) {i : Nat} (hi : i < ts.length) (hj : i + 1 < ts.length) : ordB ts (i + 1) = Op.bytesLess ts[i].f0.toList ts[i + 1].f0.toList := by
  unfold ordB
  rw [if_pos (Nat.succ_pos i), Nat.add_sub_cancel, getDT hi, getDT hj]
/-- The tags from j on, d of them. -/
def tagsFrom (ts : List S82) : Nat → Nat → Bool
  | 0, _ => true
  | d + 1, j => wordB (ts.getD j z82).f0 && (nameB (ts.getD j z82).f1 && (ordB ts j && tagsFrom ts d (j + 1)))
theorem tagsFrom_succ (ts : List S82) (d : Nat) {j : Nat} (h : j < ts.length) : tagsFrom ts (d + 1) j = (wordB ts[j].f0 && (nameB ts[j].f1 && (ordB ts j && tagsFrom ts d (j + 1)))) := by
  simp only [tagsFrom, getDT h]
def tagsB (ts : List S82) : Bool := decide (ts.length ≤ 30) && tagsFrom ts ts.length 0

theorem spec_word_loop (s : ByteArray) (hs : s.size ≤ 1048576) (d : Nat) : ∀ j : Nat, j + d = s.size → Ev (fun k => spec_l2WordOk.l0 k s (j : Int)) (decide (1 ≤ s.size) && (decide (s.size ≤ 40) && wordFrom s d j)) := by
  induction d with
  | zero =>
    intro j hj
    refine Ev.step (fun k => ?_) (Ev.now _)
    simp only [spec_l2WordOk.l0]
    rw [if_neg (by omega)]
    simp only [wordFrom, Bool.and_true]
    by_cases h1 : (s.size : Int) ≥ 1
    · rw [if_pos h1, decide_eq_true (show 1 ≤ s.size by omega), Bool.true_and, Option.some.injEq, decide_eq_decide]; omega
    · rw [if_neg h1, decide_eq_false (show ¬ 1 ≤ s.size by omega)]; rfl
  | succ d ih =>
    intro j hj
    have e1 : wrap64 ((j : Int) + 1) = ((j + 1 : Nat) : Int) := by rw [w64 (by omega) (by omega)]; omega
    simp only [wordFrom]
    cases h1 : wordC (bt s j) with
    | false =>
      rw [Bool.false_and, Bool.and_false, Bool.and_false]
      refine Ev.step (fun k => ?_) (Ev.now _)
      simp only [spec_l2WordOk.l0]
      rw [if_pos (by omega), if_pos (by omega), word_is, h1, if_neg (by simp)]
    | true =>
      rw [Bool.true_and]
      refine Ev.step (fun k => ?_) (ih (j + 1) (by omega))
      simp only [spec_l2WordOk.l0]
      rw [if_pos (by omega), if_pos (by omega), word_is, h1, if_pos rfl, e1]
theorem spec_word (s : ByteArray) (hs : s.size ≤ 1048576) : Ev (fun k => spec_l2WordOk.f k s) (wordB s) := spec_word_loop s hs s.size 0 (by omega)
theorem spec_tags_loop (ts : List S82) (hl : ts.length ≤ 30) (hs : ∀ t ∈ ts, t.f0.size ≤ 1048576 ∧ t.f1.size ≤ 1048576) (d : Nat) : ∀ j : Nat, j + d = ts.length → Ev (fun k => spec_TagsOk.l0 k ts (j : Int)) (tagsFrom ts d j) := by
  induction d with
  | zero =>
    intro j hj
    refine ⟨2, fun m hm => ?_⟩
    obtain ⟨k, rfl⟩ : ∃ k, m = k + 1 + 1 := ⟨m - 2, by omega⟩
    simp only [spec_TagsOk.l0, spec_TagsOk.j1]
    rw [if_neg (by omega), if_neg (by simp), decide_eq_true (by omega)]
    rfl
  | succ d ih =>
    intro j hj
    have hlt : j < ts.length := by omega
    have e1 : wrap64 ((j : Int) + 1) = ((j + 1 : Nat) : Int) := by rw [w64 (by omega) (by omega)]; omega
    obtain ⟨s0, s1⟩ := hs _ (List.getElem_mem hlt)
    obtain ⟨K1, h1⟩ := spec_word ts[j].f0 s0
    obtain ⟨K2, h2⟩ := spec_name ts[j].f1 s1
    obtain ⟨K3, h3⟩ := ih (j + 1) (by omega)
    refine ⟨K1 + K2 + K3 + 2, fun m hm => ?_⟩
    obtain ⟨k, rfl⟩ : ∃ k, m = k + 1 + 1 := ⟨m - 2, by omega⟩
    have h1 := h1 k (by omega)
    have h2 := h2 k (by omega)
    have h3 := h3 k (by omega)
    simp only at h1 h2 h3
    simp only [spec_TagsOk.l0, spec_TagsOk.j1, rdTg hlt, h1, h2, Option.bind_some, e1, tagsFrom_succ ts d hlt]
    rw [if_pos (by omega), decide_eq_true (show (ts.length : Int) ≤ 30 by omega), if_pos rfl, if_pos (by omega), if_pos (by omega)]
    by_cases g1 : wordB ts[j].f0 = true
    · by_cases g2 : nameB ts[j].f1 = true
      · simp only [g1, g2, if_true, Bool.true_and]
        by_cases g3 : 0 < j
        · obtain ⟨i, rfl⟩ : ∃ i, j = i + 1 := ⟨j - 1, by omega⟩
          have hi : i < ts.length := by omega
          have e0 : wrap64 (((i + 1 : Nat) : Int) - 1) = (i : Int) := by rw [w64 (by omega) (by omega)]; omega
          rw [if_pos (by omega), e0, if_pos (by omega), if_pos (by omega), rdTg hi, ordB_succ ts hi hlt]
          cases Op.bytesLess ts[i].f0.toList ts[i + 1].f0.toList with
          | true => simp only [if_true, Bool.true_and]; exact h3
          | false => simp
        · obtain rfl : j = 0 := by omega
          rw [if_neg (by omega), ordB_zero, Bool.true_and]
          exact h3
      · rw [Bool.not_eq_true] at g2
        simp [g1, g2]
    · rw [Bool.not_eq_true] at g1
      simp [g1]
theorem spec_tags (ts : List S82) (hl : ts.length ≤ 1048576) (hs : ∀ t ∈ ts, t.f0.size ≤ 1048576 ∧ t.f1.size ≤ 1048576) : Ev (fun k => spec_TagsOk.f k ts) (tagsB ts) := by
  unfold tagsB
  by_cases h : ts.length ≤ 30
  · rw [decide_eq_true h, Bool.true_and]
    exact spec_tags_loop ts h hs ts.length 0 (by omega)
  · rw [decide_eq_false h, Bool.false_and]
    refine ⟨2, fun m hm => ?_⟩
    obtain ⟨k, rfl⟩ : ∃ k, m = k + 1 + 1 := ⟨m - 2, by omega⟩
    simp only [spec_TagsOk.f, spec_TagsOk.l0, spec_TagsOk.j1]
    rw [if_pos (by omega), decide_eq_false (by omega), if_neg (by simp)]

theorem impl_word_loop (s : ByteArray) (hs : s.size ≤ 1048576) (d : Nat) : ∀ j : Nat, j + d = s.size → Ev (fun k => impl_wordOk.l0 k s (j : Int)) (wordFrom s d j) := by
  induction d with
  | zero =>
    intro j hj
    refine Ev.step (fun k => ?_) (Ev.now _)
    simp only [impl_wordOk.l0]
    rw [if_neg (by omega)]
    rfl
  | succ d ih =>
    intro j hj
    have e1 : wrap64 ((j : Int) + 1) = ((j + 1 : Nat) : Int) := by rw [w64 (by omega) (by omega)]; omega
    simp only [wordFrom]
    cases h1 : wordC (bt s j) with
    | false =>
      rw [Bool.false_and]
      refine Ev.step (fun k => ?_) (Ev.now _)
      simp only [impl_wordOk.l0]
      rw [if_pos (by omega), if_pos (by omega), word_is, h1, if_neg (by simp)]
    | true =>
      rw [Bool.true_and]
      refine Ev.step (fun k => ?_) (ih (j + 1) (by omega))
      simp only [impl_wordOk.l0]
      rw [if_pos (by omega), if_pos (by omega), word_is, h1, if_pos rfl, e1]
theorem impl_word (s : ByteArray) (hs : s.size ≤ 1048576) : Ev (fun k => impl_wordOk.f k s) (wordB s) := by
  have h := impl_word_loop s hs s.size 0 (by omega)
  have no : Ev (fun k => impl_wordOk.j0 k s true) false := Ev.step (fun k => by simp only [impl_wordOk.j0, if_true]) (Ev.now _)
  unfold wordB impl_wordOk.f
  by_cases h1 : (s.size : Int) < 1
  · simp only [if_pos h1, decide_eq_false (show ¬ 1 ≤ s.size by omega), Bool.false_and]; exact no
  · simp only [if_neg h1, decide_eq_true (show 1 ≤ s.size by omega), Bool.true_and]
    by_cases h2 : (s.size : Int) > 40
    · simp only [decide_eq_true h2, decide_eq_false (show ¬ s.size ≤ 40 by omega), Bool.false_and]; exact no
    · simp only [decide_eq_false h2, decide_eq_true (show s.size ≤ 40 by omega), Bool.true_and]
      refine Ev.step (fun k => ?_) h
      simp only [impl_wordOk.j0, Bool.false_eq_true, if_false]
      rfl
theorem impl_val_loop (x0 x9 : List S82) (x10 x11 : Int) (u s : ByteArray) (hs : s.size ≤ 1048576) {r : Bool} (hr : Ev (fun k => impl_TagsOk.l0 k x0 x9 x10 (wrap64 (x11 + 1))) r) (d : Nat) : ∀ j : Nat, j + d = s.size → Ev (fun k => impl_TagsOk.l1 k x0 (j : Int) x9 x10 x11 u s) (nameFrom s d j && r) := by
  induction d with
  | zero =>
    intro j hj
    simp only [nameFrom, Bool.true_and]
    refine Ev.step (fun k => ?_) hr
    simp only [impl_TagsOk.l1]
    rw [if_neg (by omega)]
  | succ d ih =>
    intro j hj
    have e1 : wrap64 ((j : Int) + 1) = ((j + 1 : Nat) : Int) := by rw [w64 (by omega) (by omega)]; omega
    simp only [nameFrom]
    by_cases h1 : bt s j < 32
    · rw [if_pos h1, Bool.false_and]
      refine Ev.step (fun k => ?_) (Ev.now _)
      simp only [impl_TagsOk.l1]
      rw [if_pos (by omega), if_pos (by omega), if_pos h1]
    · rw [if_neg h1]
      by_cases h2 : bt s j > 126
      · rw [if_pos h2, Bool.false_and]
        refine Ev.step (fun k => ?_) (Ev.now _)
        simp only [impl_TagsOk.l1]
        rw [if_pos (by omega), if_pos (by omega), if_neg h1, if_pos h2]
      · rw [if_neg h2]
        refine Ev.step (fun k => ?_) (ih (j + 1) (by omega))
        simp only [impl_TagsOk.l1]
        rw [if_pos (by omega), if_pos (by omega), if_neg h1, if_neg h2, e1]
theorem impl_tags_loop (ts : List S82) (hl : ts.length ≤ 30) (hs : ∀ t ∈ ts, t.f0.size ≤ 1048576 ∧ t.f1.size ≤ 1048576) (d : Nat) : ∀ j : Nat, j + d = ts.length → Ev (fun k => impl_TagsOk.l0 k ts ts (ts.length : Int) (j : Int)) (tagsFrom ts d j) := by
  induction d with
  | zero =>
    intro j hj
    refine Ev.step (fun k => ?_) (Ev.now _)
    simp only [impl_TagsOk.l0]
    rw [if_neg (by omega)]
    rfl
  | succ d ih =>
    intro j hj
    have hlt : j < ts.length := by omega
    have e1 : wrap64 ((j : Int) + 1) = ((j + 1 : Nat) : Int) := by rw [w64 (by omega) (by omega)]; omega
    obtain ⟨s0, s1⟩ := hs _ (List.getElem_mem hlt)
    obtain ⟨K1, h1⟩ := impl_word ts[j].f0 s0
    have hnext := ih (j + 1) (by omega)
    rw [← e1] at hnext
    obtain ⟨K2, h2⟩ := impl_val_loop ts ts (ts.length : Int) (j : Int) ts[j].f0 ts[j].f1 s1 hnext ts[j].f1.size 0 (by omega)
    have no : ∀ k, impl_TagsOk.j1 (k + 1) ts ts (ts.length : Int) (j : Int) true ts[j].f0 ts[j].f1 = some false := fun k => by simp only [impl_TagsOk.j1, if_true]
    have yes : ∀ k, impl_TagsOk.j1 (k + 1) ts ts (ts.length : Int) (j : Int) false ts[j].f0 ts[j].f1 = impl_TagsOk.l1 k ts 0 ts (ts.length : Int) (j : Int) ts[j].f0 ts[j].f1 := fun k => by simp only [impl_TagsOk.j1, Bool.false_eq_true, if_false]
    refine ⟨K1 + K2 + 2, fun m hm => ?_⟩
    obtain ⟨k, rfl⟩ : ∃ k, m = k + 1 + 1 := ⟨m - 2, by omega⟩
    have h1 := h1 (k + 1) (by omega)
    have h2 := h2 k (by omega)
    simp only at h1 h2
    simp only [impl_TagsOk.l0, rdTg hlt, h1, Option.bind_some, tagsFrom_succ ts d hlt]
    rw [if_pos (by omega), if_pos (by omega), if_pos (by omega)]
    by_cases g1 : wordB ts[j].f0 = true
    · simp only [g1, if_true, Bool.true_and, nameB]
      by_cases g2 : (ts[j].f1.size : Int) < 1
      · rw [if_pos g2, no, decide_eq_false (show ¬ 1 ≤ ts[j].f1.size by omega)]; simp
      rw [if_neg g2, decide_eq_true (show 1 ≤ ts[j].f1.size by omega), Bool.true_and]
      by_cases g3 : (ts[j].f1.size : Int) > 100
      · rw [if_pos g3, no, decide_eq_false (show ¬ ts[j].f1.size ≤ 100 by omega)]; simp
      rw [if_neg g3, decide_eq_true (show ts[j].f1.size ≤ 100 by omega), Bool.true_and]
      by_cases g4 : 0 < j
      · obtain ⟨i, rfl⟩ : ∃ i, j = i + 1 := ⟨j - 1, by omega⟩
        have hi : i < ts.length := by omega
        have e0 : wrap64 (((i + 1 : Nat) : Int) - 1) = (i : Int) := by rw [w64 (by omega) (by omega)]; omega
        rw [if_pos (by omega), e0, if_pos (by omega), if_pos (by omega), rdTg hi, ordB_succ ts hi hlt]
        cases Op.bytesLess ts[i].f0.toList ts[i + 1].f0.toList with
        | true => simp only [Bool.not_true, Bool.true_and]; rw [yes]; exact h2
        | false => simp only [Bool.not_false, Bool.false_and, Bool.and_false]; rw [no]
      · obtain rfl : j = 0 := by omega
        rw [if_neg (by omega), ordB_zero, Bool.true_and, yes]
        exact h2
    · rw [Bool.not_eq_true] at g1
      simp only [g1, Bool.false_eq_true, if_false, Bool.false_and]
      rw [no]
theorem impl_tags (ts : List S82) (hs : ∀ t ∈ ts, t.f0.size ≤ 1048576 ∧ t.f1.size ≤ 1048576) : Ev (fun k => impl_TagsOk.f k ts) (tagsB ts) := by
  unfold tagsB impl_TagsOk.f
  by_cases h : (ts.length : Int) > 30
  · simp only [if_pos h, decide_eq_false (show ¬ ts.length ≤ 30 by omega), Bool.false_and]; exact Ev.now _
  · simp only [if_neg h, decide_eq_true (show ts.length ≤ 30 by omega), Bool.true_and]
    exact impl_tags_loop ts (by omega) hs ts.length 0 (by omega)

theorem FnExactTagsOk : PreFnExactTagsOk.Pure := by
  intro a wa
  suffices h : Ev (fun k => laws_FnExactTagsOk.f k a) true from h.rounds
  unfold laws_FnExactTagsOk.f
  obtain ⟨t, et, _, _, ht⟩ := sz_TagS a wa (n := 1048576) (by omega) (by omega)
  refine Ev.bind et ?_
  by_cases h : t < 0
  · simp only [if_pos h]; exact Ev.now _
  · simp only [if_neg h]
    have sa := ht (by omega)
    have ev := to_TagS a sa
    have sb' : (a.map cv81).length ≤ 1048576 ∧ ∀ y ∈ a.map cv81, sm82 y := ⟨by rw [List.length_map]; exact sa.1, fun y hy => by obtain ⟨z, hz, rfl⟩ := List.mem_map.1 hy; exact smcv81 (sa.2 z hz)⟩
    refine Ev.bind ev (Ev.bind (spec_tags _ sb'.1 sb'.2) (Ev.bind ev (Ev.bind (impl_tags _ sb'.2) ?_)))
    simp only [bne_self_eq_false, Bool.false_eq_true, if_false]
    first
      | (refine Ev.bind ev (Ev.bind (eq_TagS _ sb') ?_)
         simp only [if_true]
         exact Ev.now _)
      | (simp only [if_true]
         refine Ev.bind ev (Ev.bind (eq_TagS _ sb') ?_)
         simp only [if_true]
         exact Ev.now _)

end Go.Proofs.Ytcpgphmaibajlaa.Pure
