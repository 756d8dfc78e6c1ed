/- TagOf of the program and of the reference give the same value at every tags and key. No condition beyond the statement's own guards. -/
import Derived.Test.YtcpgphmaibajlaaPreFnExactTagOf
import Derived.Test.YtcpgphmaibajlaaWMath
namespace Go.Proofs.Ytcpgphmaibajlaa.Pure
open Go.RowKit Go.Proofs.Ytcpgphmaibajlaa.PFnExactTagOf Go.Proofs.Ytcpgphmaibajlaa.PreFnExactTagOf Go.Proofs.YtcpgphmaibajlaaW.PrintWords Go.Proofs.YtcpgphmaibajlaaW.PrintLast Go.Proofs.YtcpgphmaibajlaaW.PrintMore Go.Proofs.YtcpgphmaibajlaaW.Math
set_option linter.unusedVariables false
set_option linter.unusedSimpArgs false

theorem rdT {l : List S82} {j : Nat} (h : j < l.length) : rd_T82 l (j : Int) = l[j] := by
  unfold rd_T82
  simp [List.getD_eq_getElem?_getD, h]
theorem rdTL {l : List S81} {j : Nat} (h : j < l.length) : rd_T81 l (j : Int) = l[j] := by
  unfold rd_T81
  simp [List.getD_eq_getElem?_getD, h]
/-- A tag of the statement's, as the program's. -/
def toT (p : S81) : S82 := ⟨p.f0, p.f1⟩
/-- How many values and letters tags hold, from those on; below 0 where they are too many. -/
def tagsLeft : List S81 → Int → Int
  | [], n => n
  | t :: ts, n => if n - t.f0.size < 0 then -1 else if n - t.f0.size - t.f1.size < 0 then -1 else tagsLeft ts (n - t.f0.size - t.f1.size)
theorem tagsLeft_le (ts : List S81) (n : Int) (h : 0 ≤ n) : -1 ≤ tagsLeft ts n ∧ tagsLeft ts n ≤ n := by
  induction ts generalizing n with
  | nil => simp only [tagsLeft]; omega
  | cons t ts ih =>
    simp only [tagsLeft]
    split
    · omega
    · split
      · omega
      · have := ih (n - t.f0.size - t.f1.size) (by omega)
        omega
theorem sz_tags_loop (l : List S81) (hl : l.length ≤ 9223372036854775807) (hs : ∀ t ∈ l, t.f0.size ≤ 9223372036854775807 ∧ t.f1.size ≤ 9223372036854775807) (d : Nat) : ∀ (j : Nat) (n : Int), j + d = l.length → 0 ≤ n → n ≤ 1048576 → Ev (fun k => laws_szTagS.l0 k l n j) (tagsLeft (l.drop j) n) := by
  induction d with
  | zero =>
    intro j n hj h0 h1
    rw [List.drop_of_length_le (by omega)]
    refine Ev.step (fun k => ?_) (Ev.now _)
    simp only [laws_szTagS.l0]
    rw [if_neg (by omega)]
    rfl
  | succ d ih =>
    intro j n hj h0 h1
    have hlt : j < l.length := by omega
    obtain ⟨s0, s1⟩ := hs _ (List.getElem_mem hlt)
    rw [List.drop_eq_getElem_cons hlt]
    simp only [tagsLeft]
    by_cases c0 : n - (l[j].f0.size : Int) < 0
    · rw [if_pos c0]
      refine Ev.step (fun k => ?_) (Ev.now _)
      simp only [laws_szTagS.l0, laws_szTag.f]
      rw [if_pos (by omega), if_pos (by omega), rdTL hlt, w64 (n := n - (l[j].f0.size : Int)) (by omega) (by omega), if_pos c0]
      rfl
    · rw [if_neg c0]
      by_cases c1 : n - (l[j].f0.size : Int) - (l[j].f1.size : Int) < 0
      · rw [if_pos c1]
        refine Ev.step (fun k => ?_) (Ev.now _)
        simp only [laws_szTagS.l0, laws_szTag.f]
        rw [if_pos (by omega), if_pos (by omega), rdTL hlt, w64 (n := n - (l[j].f0.size : Int)) (by omega) (by omega), if_neg c0, w64 (n := n - (l[j].f0.size : Int) - (l[j].f1.size : Int)) (by omega) (by omega), if_pos c1]
        rfl
      · rw [if_neg c1]
        refine Ev.step (fun k => ?_) (ih (j + 1) _ (by omega) (by omega) (by omega))
        simp only [laws_szTagS.l0, laws_szTag.f]
        rw [if_pos (by omega), if_pos (by omega), rdTL hlt, w64 (n := n - (l[j].f0.size : Int)) (by omega) (by omega), if_neg c0, w64 (n := n - (l[j].f0.size : Int) - (l[j].f1.size : Int)) (by omega) (by omega), if_neg c1]
        simp only [Option.bind_some]
        rw [if_neg c1, w64 (n := (j : Int) + 1) (by omega) (by omega)]
        rfl
/-- What szTagS answers. -/
def tagsSize (l : List S81) (n : Int) : Int := if n - l.length < 0 then -1 else tagsLeft l (n - l.length)
theorem sz_tags {l : List S81} (hl : l.length ≤ 9223372036854775807) (hs : ∀ t ∈ l, t.f0.size ≤ 9223372036854775807 ∧ t.f1.size ≤ 9223372036854775807) {n : Int} (h0 : 0 ≤ n) (h1 : n ≤ 1048576) : Ev (fun k => laws_szTagS.f k l n) (tagsSize l n) := by
  unfold laws_szTagS.f tagsSize
  simp only [w64 (n := n - (l.length : Int)) (by omega) (by omega)]
  by_cases h : n - (l.length : Int) < 0
  · simp only [if_pos h]
    exact Ev.now _
  · simp only [if_neg h]
    have := sz_tags_loop l hl hs l.length 0 (n - l.length) (by omega) (by omega) (by omega)
    rw [List.drop_zero] at this
    exact this
theorem tagsSize_le (l : List S81) {n : Int} (h0 : 0 ≤ n) : -1 ≤ tagsSize l n ∧ tagsSize l n ≤ n ∧ (0 ≤ tagsSize l n → (l.length : Int) ≤ n) := by
  unfold tagsSize
  split
  · omega
  · have := tagsLeft_le l (n - l.length) (by omega)
    omega
theorem to_tags_loop (l : List S81) (hl : l.length ≤ 1048576) (d : Nat) : ∀ j : Nat, j + d = l.length → Ev (fun k => laws_toTagS.l0 k l ((l.take j).map toT ++ List.replicate d z82) j) (l.map toT) := by
  induction d with
  | zero =>
    intro j hj
    obtain rfl : j = l.length := by omega
    refine Ev.step (fun k => ?_) (Ev.now _)
    simp only [laws_toTagS.l0]
    rw [if_neg (by omega), List.take_length]
    simp
  | succ d ih =>
    intro j hj
    have hlt : j < l.length := by omega
    have hlen : ((l.take j).map toT).length = j := by rw [List.length_map, List.length_take]; omega
    refine Ev.step (fun k => ?_) (ih (j + 1) (by omega))
    simp only [laws_toTagS.l0, laws_toTag.f, Option.bind_some]
    rw [if_pos (by omega), if_pos (by omega), if_pos (by rw [List.length_append, List.length_replicate, hlen]; omega), w64 (n := (j : Int) + 1) (by omega) (by omega), rdTL hlt, Int.toNat_natCast]
    have h := fill_set ((l.take j).map toT) z82 (toT l[j]) d
    rw [hlen] at h
    have e : (⟨l[j].f0, l[j].f1⟩ : S82) = toT l[j] := rfl
    rw [e, h, take_next l hlt, List.map_append]
    rfl
theorem to_tags {l : List S81} (hl : l.length ≤ 1048576) : Ev (fun k => laws_toTagS.f k l) (l.map toT) := by
  have h := to_tags_loop l hl l.length 0 (by omega)
  refine Ev.congr (fun k => ?_) h
  unfold laws_toTagS.f
  rw [if_pos (by omega), if_pos (by simp; omega)]
  simp
theorem eq_tags_loop (l : List S82) (hl : l.length ≤ 1048576) (d : Nat) : ∀ j : Nat, j + d = l.length → Ev (fun k => laws_eqTagS.l0 k l l j) true := by
  induction d with
  | zero =>
    intro j hj
    refine Ev.step (fun k => ?_) (Ev.now _)
    simp only [laws_eqTagS.l0]
    rw [if_neg (by omega)]
  | succ d ih =>
    intro j hj
    refine Ev.step (fun k => ?_) (ih (j + 1) (by omega))
    simp only [laws_eqTagS.l0, laws_eqTag.f]
    rw [if_pos (by omega), if_pos (by omega), if_pos (by omega), w64 (n := (j : Int) + 1) (by omega) (by omega)]
    simp
theorem eq_tags {l : List S82} (hl : l.length ≤ 1048576) : Ev (fun k => laws_eqTagS.f k l l) true := by
  refine Ev.congr (fun k => ?_) (eq_tags_loop l hl l.length 0 (by omega))
  unfold laws_eqTagS.f
  rw [if_pos rfl]
  rfl

/-- The value of the first tag of that key. -/
def tagOf (key : ByteArray) : List S82 → ByteArray
  | [] => ⟨#[]⟩
  | t :: ts => if t.f0.toList = key.toList then t.f1 else tagOf key ts
theorem spec_tagOf_loop (l : List S82) (hl : l.length ≤ 1048576) (key : ByteArray) (d : Nat) : ∀ j : Nat, j + d = l.length → Ev (fun k => spec_TagOf.l0 k l key j) (tagOf key (l.drop j)) := by
  induction d with
  | zero =>
    intro j hj
    rw [List.drop_of_length_le (by omega)]
    refine Ev.step (fun k => ?_) (Ev.now _)
    simp only [spec_TagOf.l0]
    rw [if_neg (by omega)]
    rfl
  | succ d ih =>
    intro j hj
    have hlt : j < l.length := by omega
    rw [List.drop_eq_getElem_cons hlt]
    simp only [tagOf]
    by_cases c : l[j].f0.toList = key.toList
    · rw [if_pos c]
      refine Ev.step (fun k => ?_) (Ev.now _)
      simp only [spec_TagOf.l0]
      rw [if_pos (by omega), if_pos (by omega), rdT hlt, if_pos c]
    · rw [if_neg c]
      refine Ev.step (fun k => ?_) (ih (j + 1) (by omega))
      simp only [spec_TagOf.l0]
      rw [if_pos (by omega), if_pos (by omega), rdT hlt, if_neg c, w64 (n := (j : Int) + 1) (by omega) (by omega)]
      rfl
theorem impl_tagAt_loop (l : List S82) (hl : l.length ≤ 1048576) (key : ByteArray) (d : Nat) : ∀ j : Nat, j + d = l.length → ∃ i : Int, Ev (fun k => impl_tagAt.l0 k key l (l.length : Int) j) i ∧ ((i = -1 ∧ tagOf key (l.drop j) = ⟨#[]⟩) ∨ ∃ (q : Nat) (h : q < l.length), i = q ∧ tagOf key (l.drop j) = l[q].f1) := by
  induction d with
  | zero =>
    intro j hj
    refine ⟨-1, Ev.step (fun k => ?_) (Ev.now _), .inl ⟨rfl, ?_⟩⟩
    · simp only [impl_tagAt.l0]
      rw [if_neg (by omega)]
    · rw [List.drop_of_length_le (by omega)]; rfl
  | succ d ih =>
    intro j hj
    have hlt : j < l.length := by omega
    rw [List.drop_eq_getElem_cons hlt]
    simp only [tagOf]
    by_cases c : l[j].f0.toList = key.toList
    · rw [if_pos c]
      refine ⟨j, Ev.step (fun k => ?_) (Ev.now _), .inr ⟨j, hlt, rfl, rfl⟩⟩
      simp only [impl_tagAt.l0]
      rw [if_pos (by omega), if_pos (by omega), if_pos (by omega), rdT hlt, if_pos c]
    · rw [if_neg c]
      obtain ⟨i, hi, hc⟩ := ih (j + 1) (by omega)
      refine ⟨i, Ev.step (fun k => ?_) hi, hc⟩
      simp only [impl_tagAt.l0]
      rw [if_pos (by omega), if_pos (by omega), if_pos (by omega), rdT hlt, if_neg c, w64 (n := (j : Int) + 1) (by omega) (by omega)]
      rfl
theorem impl_tagOf (l : List S82) (hl : l.length ≤ 1048576) (key : ByteArray) : Ev (fun k => impl_TagOf.f k l key) (tagOf key l) := by
  obtain ⟨i, hi, hc⟩ := impl_tagAt_loop l hl key l.length 0 (by omega)
  rw [List.drop_zero] at hc
  unfold impl_TagOf.f
  refine Ev.bind (g := fun k => impl_tagAt.f k l key) hi ?_
  rcases hc with ⟨rfl, e⟩ | ⟨q, h, rfl, e⟩
  · rw [e]
    exact Ev.now _
  · rw [e]
    simp only [if_pos (show (q : Int) ≥ 0 by omega), if_pos (show (0 : Int) ≤ q by omega), if_pos (show (q : Int) < l.length by omega), rdT h]
    exact Ev.now _
theorem FnExactTagOf : PreFnExactTagOf.Pure := by
  intro l key ⟨hl, hw⟩ hk
  refine Ev.rounds (g := fun k => laws_FnExactTagOf.f k l key) ?_
  unfold laws_FnExactTagOf.f
  by_cases hbk : (key.size : Int) > 1048576
  · simp only [if_pos hbk]
    exact Ev.now _
  · simp only [if_neg hbk]
    refine Ev.bind (sz_tags hl (fun t ht => hw t ht) (by omega) (by omega)) ?_
    have hs := tagsSize_le l (n := 1048576) (by omega)
    by_cases hbig : tagsSize l 1048576 < 0
    · simp only [if_pos hbig]
      exact Ev.now _
    · simp only [if_neg hbig]
      have hle : l.length ≤ 1048576 := by omega
      have hlen : (l.map toT).length ≤ 1048576 := by rw [List.length_map]; omega
      have hspec := spec_tagOf_loop (l.map toT) hlen key (l.map toT).length 0 (by omega)
      rw [List.drop_zero] at hspec
      refine Ev.bind (to_tags hle) (Ev.bind (g := fun k => spec_TagOf.f k (l.map toT) key) hspec (Ev.bind (to_tags hle) (Ev.bind (impl_tagOf _ hlen key) ?_)))
      simp only [if_true]
      refine Ev.bind (to_tags hle) (Ev.bind (eq_tags hlen) ?_)
      simp only [if_true]
      exact Ev.now _

end Go.Proofs.Ytcpgphmaibajlaa.Pure
