/- Plain lemmas on the frame of the statement FnExactTagsOk: how its arguments are measured, turned and compared. Written by a program of ours out of the types. -/
import Derived.Test.YtcpgphmaibajlaaPreFnExactTagsOk
import Derived.Test.YtcpgphmaibajlaaVFnExactTagsOka
namespace Go.Proofs.Ytcpgphmaibajlaa.Pure
open Go.RowKit Go.Proofs.Ytcpgphmaibajlaa.PFnExactTagsOk Go.Proofs.Ytcpgphmaibajlaa.PreFnExactTagsOk Go.Proofs.YtcpgphmaibajlaaW.PrintWords Go.Proofs.YtcpgphmaibajlaaW.PrintLast Go.Proofs.YtcpgphmaibajlaaW.PrintMore Go.Proofs.YtcpgphmaibajlaaW.Math
set_option linter.unusedVariables false
set_option linter.unusedSimpArgs false

/-- No more than a statement's guard lets in. -/
def sm81 (x : S81) : Prop := x.f0.size ≤ 1048576 ∧ x.f1.size ≤ 1048576
theorem sz_Tag (v0 : ByteArray) (v1 : ByteArray) (h_v0 : v0.size ≤ 9223372036854775807) (h_v1 : v1.size ≤ 9223372036854775807) {n : Int} (h0 : 0 ≤ n) (h1 : n ≤ 1048576) : ∃ t, Ev (fun k => laws_szTag.f v0 v1 n) t ∧ -1 ≤ t ∧ t ≤ n ∧ (0 ≤ t → v0.size ≤ 1048576 ∧ v1.size ≤ 1048576) := by
  have w0 : wrap64 (n - (v0.size : Int)) = n - (v0.size : Int) := w64 (by omega) (by omega)
  by_cases g0 : n - (v0.size : Int) < 0
  · exact ⟨-1, ⟨0, fun k hk => by unfold laws_szTag.f; simp only [w0, if_pos g0]⟩, by omega, by omega, fun h => by omega⟩
  have w1 : wrap64 (n - (v0.size : Int) - (v1.size : Int)) = n - (v0.size : Int) - (v1.size : Int) := w64 (by omega) (by omega)
  by_cases g1 : n - (v0.size : Int) - (v1.size : Int) < 0
  · exact ⟨-1, ⟨0, fun k hk => by unfold laws_szTag.f; simp only [w0, if_neg g0, w1, if_pos g1]⟩, by omega, by omega, fun h => by omega⟩
  exact ⟨n - (v0.size : Int) - (v1.size : Int), ⟨0, fun k hk => by unfold laws_szTag.f; simp only [w0, if_neg g0, w1, if_neg g1]⟩, by omega, by omega, fun h => ⟨by omega, by omega⟩⟩
theorem rdAt81 {l : List S81} {j : Nat} (h : j < l.length) : rd_T81 l (j : Int) = l[j] := by
  unfold rd_T81
  simp [List.getD_eq_getElem?_getD, h]
theorem szl_TagS (l : (List S81)) (hl : l.length ≤ 9223372036854775807) (hw : ∀ y ∈ l, wf81 y) (d : Nat) : ∀ (j : Nat) (n : Int), j + d = l.length → 0 ≤ n → n ≤ 1048576 → ∃ t, Ev (fun k => laws_szTagS.l0 k l n (j : Int)) t ∧ -1 ≤ t ∧ t ≤ n ∧ (0 ≤ t → ∀ y ∈ l.drop j, sm81 y) := by
  induction d with
  | zero =>
    intro j n hj h0 h1
    refine ⟨n, Ev.step (fun k => ?_) (Ev.now _), by omega, by omega, fun _ y hy => by rw [List.drop_of_length_le (by omega)] at hy; simp at hy⟩
    simp only [laws_szTagS.l0]
    rw [if_neg (by omega)]
  | succ d ih =>
    intro j n hj h0 h1
    have hlt : j < l.length := by omega
    have hy := hw _ (List.getElem_mem hlt)
    obtain ⟨t1, ⟨K1, e1⟩, a1, b1, c1⟩ := sz_Tag l[j].f0 l[j].f1 hy.1 hy.2 (n := n) h0 h1
    by_cases g1 : t1 < 0
    · refine ⟨-1, ⟨K1 + 1, fun m hm => ?_⟩, by omega, by omega, fun h => by omega⟩
      obtain ⟨k, rfl⟩ : ∃ k, m = k + 1 := ⟨m - 1, by omega⟩
      have e1 := e1 k (by omega)
      simp only at e1
      simp only [laws_szTagS.l0]
      rw [if_pos (by omega), if_pos (by omega), rdAt81 hlt, e1]
      simp only [Option.bind_some]
      rw [if_pos g1]
    · obtain ⟨t, ⟨K2, e2⟩, a2, b2, c2⟩ := ih (j + 1) t1 (by omega) (by omega) (by omega)
      refine ⟨t, ⟨K1 + K2 + 1, fun m hm => ?_⟩, a2, by omega, fun h y hy => ?_⟩
      · obtain ⟨k, rfl⟩ : ∃ k, m = k + 1 := ⟨m - 1, by omega⟩
        have e1 := e1 k (by omega)
        have e2 := e2 k (by omega)
        simp only at e1 e2
        simp only [laws_szTagS.l0]
        rw [if_pos (by omega), if_pos (by omega), rdAt81 hlt, e1]
        simp only [Option.bind_some]
        rw [if_neg g1, w64 (n := (j : Int) + 1) (by omega) (by omega)]
        exact e2
      · rw [List.drop_eq_getElem_cons hlt] at hy
        rcases List.mem_cons.1 hy with rfl | hy
        · exact c1 (by omega)
        · exact c2 h y hy
theorem sz_TagS (l : (List S81)) (hl : (l.length ≤ 9223372036854775807 ∧ ∀ y ∈ l, wf81 y)) {n : Int} (h0 : 0 ≤ n) (h1 : n ≤ 1048576) : ∃ t, Ev (fun k => laws_szTagS.f k l n) t ∧ -1 ≤ t ∧ t ≤ n ∧ (0 ≤ t → (l.length ≤ 1048576 ∧ ∀ y ∈ l, sm81 y)) := by
  have hl1 := hl.1
  have w : wrap64 (n - (l.length : Int)) = n - (l.length : Int) := w64 (by omega) (by omega)
  by_cases g : n - (l.length : Int) < 0
  · exact ⟨-1, ⟨0, fun k _ => by simp only [laws_szTagS.f, w, if_pos g]⟩, by omega, by omega, fun h => by omega⟩
  · obtain ⟨t, ⟨K, e⟩, a, b, c⟩ := szl_TagS l hl.1 hl.2 l.length 0 (n - (l.length : Int)) (by omega) (by omega) (by omega)
    exact ⟨t, ⟨K, fun k hk => by have e := e k hk; simp only at e; simp only [laws_szTagS.f, w, if_neg g]; exact e⟩, a, by omega, fun h => ⟨by omega, by have := c h; rwa [List.drop_zero] at this⟩⟩
/-- The statement's Tag, as the program's. -/
def cv81 (x : S81) : S82 := ⟨x.f0, x.f1⟩
theorem to_Tag (v0 : ByteArray) (v1 : ByteArray) (h_v0 : v0.size ≤ 1048576) (h_v1 : v1.size ≤ 1048576) : Ev (fun k => laws_toTag.f v0 v1) (v0, v1) := by
  refine ⟨0, fun k hk => ?_⟩
  simp only [laws_toTag.f]
theorem tol_TagS (l : (List S81)) (hl : l.length ≤ 1048576) (hs : ∀ y ∈ l, sm81 y) (d : Nat) : ∀ j : Nat, j + d = l.length → Ev (fun k => laws_toTagS.l0 k l (((l.take j).map cv81) ++ List.replicate d z82) (j : Int)) ((l.map cv81)) := by
  induction d with
  | zero =>
    intro j hj
    obtain rfl : j = l.length := by omega
    refine Ev.step (fun k => ?_) (Ev.now _)
    simp only [laws_toTagS.l0]
    rw [if_neg (by omega), List.take_length]
    simp
  | succ d ih =>
    intro j hj
    have hlt : j < l.length := by omega
    have hlen : ((l.take j).map cv81).length = j := by rw [List.length_map, List.length_take]; omega
    have h := fill_set ((l.take j).map cv81) z82 (cv81 l[j]) d
    rw [hlen] at h
    have hy := hs _ (List.getElem_mem hlt)
    refine Ev.step (f := fun k => (laws_toTag.f l[j].f0 l[j].f1).bind fun b => laws_toTagS.l0 k l ((((l.take j).map cv81) ++ List.replicate (d + 1) z82).set j (⟨b.1, b.2⟩ : S82)) ((j + 1 : Nat) : Int)) (fun k => ?_) (Ev.bind (to_Tag l[j].f0 l[j].f1 hy.1 hy.2) ?_)
    · simp only [laws_toTagS.l0]
      rw [if_pos (by omega), if_pos (by omega), rdAt81 hlt, w64 (n := (j : Int) + 1) (by omega) (by omega)]
      congr 1
      funext b
      rw [if_pos (by rw [List.length_append, List.length_replicate, hlen]; omega), Int.toNat_natCast]
      rfl
    · have h2 := ih (j + 1) (by omega)
      rw [take_next l hlt, List.map_append] at h2
      refine Ev.congr (fun k => ?_) h2
      rw [show ∀ x : S82, x = cv81 l[j] → (((l.take j).map cv81) ++ List.replicate (d + 1) z82).set j x = (((l.take j).map cv81) ++ List.replicate (d + 1) z82).set j (cv81 l[j]) from fun x hx => by rw [hx]]
      rotate_left
      · rfl
      rw [h]
      rfl
theorem to_TagS (l : (List S81)) (hl : (l.length ≤ 1048576 ∧ ∀ y ∈ l, sm81 y)) : Ev (fun k => laws_toTagS.f k l) ((l.map cv81)) := by
  have h := tol_TagS l hl.1 hl.2 l.length 0 (by omega)
  refine Ev.congr (fun k => ?_) h
  unfold laws_toTagS.f
  rw [if_pos (by omega), if_pos (by have := hl.1; simp; omega)]
  simp
/-- No more than a statement's guard lets in. -/
def sm82 (x : S82) : Prop := x.f0.size ≤ 1048576 ∧ x.f1.size ≤ 1048576
theorem eq_Tag (v0 : ByteArray) (v1 : ByteArray) (h_v0 : v0.size ≤ 1048576) (h_v1 : v1.size ≤ 1048576) : Ev (fun k => laws_eqTag.f v0 v1 v0 v1) true := by
  refine ⟨0, fun k hk => ?_⟩
  simp [laws_eqTag.f]
theorem rdAt82 {l : List S82} {j : Nat} (h : j < l.length) : rd_T82 l (j : Int) = l[j] := by
  unfold rd_T82
  simp [List.getD_eq_getElem?_getD, h]
theorem eql_TagS (l : (List S82)) (hl : l.length ≤ 1048576) (hs : ∀ y ∈ l, sm82 y) (d : Nat) : ∀ j : Nat, j + d = l.length → Ev (fun k => laws_eqTagS.l0 k l l (j : Int)) true := by
  induction d with
  | zero =>
    intro j hj
    refine Ev.step (fun k => ?_) (Ev.now _)
    simp only [laws_eqTagS.l0]
    rw [if_neg (by omega)]
  | succ d ih =>
    intro j hj
    have hlt : j < l.length := by omega
    have hy := hs _ (List.getElem_mem hlt)
    obtain ⟨K1, e1⟩ := eq_Tag l[j].f0 l[j].f1 hy.1 hy.2
    obtain ⟨K2, e2⟩ := ih (j + 1) (by omega)
    refine ⟨K1 + K2 + 1, fun m hm => ?_⟩
    obtain ⟨k, rfl⟩ : ∃ k, m = k + 1 := ⟨m - 1, by omega⟩
    have e1 := e1 k (by omega)
    have e2 := e2 k (by omega)
    simp only at e1 e2
    simp only [laws_eqTagS.l0]
    rw [if_pos (by omega), if_pos (by omega), if_pos (by omega), rdAt82 hlt, e1, w64 (n := (j : Int) + 1) (by omega) (by omega)]
    simp only [Option.bind_some, if_true]
    exact e2
theorem eq_TagS (l : (List S82)) (hl : (l.length ≤ 1048576 ∧ ∀ y ∈ l, sm82 y)) : Ev (fun k => laws_eqTagS.f k l l) true := by
  refine Ev.congr (fun k => ?_) (eql_TagS l hl.1 hl.2 l.length 0 (by omega))
  unfold laws_eqTagS.f
  rw [if_pos rfl]
  rfl
theorem smcv81 {x : S81} (h : sm81 x) : sm82 (cv81 x) := ⟨h.1, h.2⟩
end Go.Proofs.Ytcpgphmaibajlaa.Pure
