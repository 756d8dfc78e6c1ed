/- Plain lemmas on the frame of the statement FnExactLinesOk: how its arguments are measured, turned and compared. Written by a program of ours out of the types. -/
import Derived.Test.YtolejglfohagnaaPreFnExactLinesOk
import Derived.Test.YtolejglfohagnaaVFnExactLinesOka
namespace Go.Proofs.Ytolejglfohagnaa.Pure
open Go.RowKit Go.Proofs.Ytolejglfohagnaa.PFnExactLinesOk Go.Proofs.Ytolejglfohagnaa.PreFnExactLinesOk Go.Proofs.YtolejglfohagnaaW.PrintWords Go.Proofs.YtolejglfohagnaaW.PrintLast Go.Proofs.YtolejglfohagnaaW.PrintMore Go.Proofs.YtolejglfohagnaaW.Math
set_option linter.unusedVariables false
set_option linter.unusedSimpArgs false

theorem rdAtStr {l : List ByteArray} {j : Nat} (h : j < l.length) : rdOf ByteArray.empty l (j : Int) = l[j] := by
  unfold rdOf
  simp [List.getD_eq_getElem?_getD, h]
theorem szl_StringS (l : (List ByteArray)) (hl : l.length ≤ 9223372036854775807) (hw : ∀ y ∈ l, y.size ≤ 9223372036854775807) (d : Nat) : ∀ (j : Nat) (n : Int), j + d = l.length → 0 ≤ n → n ≤ 1048576 → ∃ t, Ev (fun k => laws_szStringS.l0 k l n (j : Int)) t ∧ -1 ≤ t ∧ t ≤ n ∧ (0 ≤ t → ∀ y ∈ l.drop j, y.size ≤ 1048576) := by
  induction d with
  | zero =>
    intro j n hj h0 h1
    refine ⟨n, Ev.step (fun k => ?_) (Ev.now _), by omega, by omega, fun _ y hy => by rw [List.drop_of_length_le (by omega)] at hy; simp at hy⟩
    simp only [laws_szStringS.l0]
    rw [if_neg (by omega)]
  | succ d ih =>
    intro j n hj h0 h1
    have hlt : j < l.length := by omega
    have hy := hw _ (List.getElem_mem hlt)
    have w : wrap64 (n - (l[j].size : Int)) = n - (l[j].size : Int) := w64 (by omega) (by omega)
    by_cases g1 : n - (l[j].size : Int) < 0
    · refine ⟨-1, ⟨1, fun m hm => ?_⟩, by omega, by omega, fun h => by omega⟩
      obtain ⟨k, rfl⟩ : ∃ k, m = k + 1 := ⟨m - 1, by omega⟩
      simp only [laws_szStringS.l0]
      rw [if_pos (by omega), if_pos (by omega), rdAtStr hlt, w, if_pos g1]
    · obtain ⟨t, ⟨K2, e2⟩, a2, b2, c2⟩ := ih (j + 1) (n - (l[j].size : Int)) (by omega) (by omega) (by omega)
      refine ⟨t, ⟨K2 + 1, fun m hm => ?_⟩, a2, by omega, fun h y hy => ?_⟩
      · obtain ⟨k, rfl⟩ : ∃ k, m = k + 1 := ⟨m - 1, by omega⟩
        have e2 := e2 k (by omega)
        simp only at e2
        simp only [laws_szStringS.l0]
        rw [if_pos (by omega), if_pos (by omega), rdAtStr hlt, w, if_neg g1, w64 (n := (j : Int) + 1) (by omega) (by omega)]
        exact e2
      · rw [List.drop_eq_getElem_cons hlt] at hy
        rcases List.mem_cons.1 hy with rfl | hy
        · omega
        · exact c2 h y hy
theorem sz_StringS (l : (List ByteArray)) (hl : (l.length ≤ 9223372036854775807 ∧ ∀ y ∈ l, y.size ≤ 9223372036854775807)) {n : Int} (h0 : 0 ≤ n) (h1 : n ≤ 1048576) : ∃ t, Ev (fun k => laws_szStringS.f k l n) t ∧ -1 ≤ t ∧ t ≤ n ∧ (0 ≤ t → (l.length ≤ 1048576 ∧ ∀ y ∈ l, y.size ≤ 1048576)) := by
  have hl1 := hl.1
  have w : wrap64 (n - (l.length : Int)) = n - (l.length : Int) := w64 (by omega) (by omega)
  by_cases g : n - (l.length : Int) < 0
  · exact ⟨-1, ⟨0, fun k _ => by simp only [laws_szStringS.f, w, if_pos g]⟩, by omega, by omega, fun h => by omega⟩
  · obtain ⟨t, ⟨K, e⟩, a, b, c⟩ := szl_StringS l hl.1 hl.2 l.length 0 (n - (l.length : Int)) (by omega) (by omega) (by omega)
    exact ⟨t, ⟨K, fun k hk => by have e := e k hk; simp only at e; simp only [laws_szStringS.f, w, if_neg g]; exact e⟩, a, by omega, fun h => ⟨by omega, by have := c h; rwa [List.drop_zero] at this⟩⟩
theorem sz_CallS (l : (List S186)) (hl : (l.length ≤ 9223372036854775807 ∧ ∀ y ∈ l, wf186 y)) {n : Int} (h0 : 0 ≤ n) (h1 : n ≤ 1048576) : ∃ t, Ev (fun k => laws_szCallS.f l n) t ∧ -1 ≤ t ∧ t ≤ n ∧ (0 ≤ t → l.length ≤ 1048576) := by
  have hl1 := hl.1
  have w : wrap64 (n - (l.length : Int)) = n - (l.length : Int) := w64 (by omega) (by omega)
  by_cases g : n - (l.length : Int) < 0
  · exact ⟨-1, ⟨0, fun k _ => by simp only [laws_szCallS.f, w, if_pos g]⟩, by omega, by omega, fun h => by omega⟩
  · exact ⟨n - (l.length : Int), ⟨0, fun k _ => by simp only [laws_szCallS.f, w, if_neg g]⟩, by omega, by omega, fun h => by omega⟩
/-- No more than a statement's guard lets in. -/
def sm171 (x : S171) : Prop := x.f0.size ≤ 1048576 ∧ x.f2.length ≤ 1048576
theorem sz_Trip (v0 : ByteArray) (v1 : Int) (v2 : (List S186)) (h_v0 : v0.size ≤ 9223372036854775807) (h_v2 : (v2.length ≤ 9223372036854775807 ∧ ∀ y ∈ v2, wf186 y)) {n : Int} (h0 : 0 ≤ n) (h1 : n ≤ 1048576) : ∃ t, Ev (fun k => laws_szTrip.f v0 v1 v2 n) t ∧ -1 ≤ t ∧ t ≤ n ∧ (0 ≤ t → v0.size ≤ 1048576 ∧ v2.length ≤ 1048576) := by
  have w0 : wrap64 (n - (v0.size : Int)) = n - (v0.size : Int) := w64 (by omega) (by omega)
  by_cases g0 : n - (v0.size : Int) < 0
  · exact ⟨-1, ⟨0, fun k hk => by unfold laws_szTrip.f; simp only [w0, if_pos g0]⟩, by omega, by omega, fun h => by omega⟩
  obtain ⟨t1, ⟨K1, e1⟩, a1, b1, c1⟩ := sz_CallS v2 h_v2 (n := n - (v0.size : Int)) (by omega) (by omega)
  by_cases g1 : t1 < 0
  · exact ⟨-1, ⟨K1, fun k hk => by have e1 := e1 k (by omega); simp only at e1; unfold laws_szTrip.f; simp only [w0, if_neg g0, e1, Option.bind_some, if_pos g1]⟩, by omega, by omega, fun h => by omega⟩
  exact ⟨t1, ⟨K1, fun k hk => by have e1 := e1 k (by omega); simp only at e1; unfold laws_szTrip.f; simp only [w0, if_neg g0, e1, Option.bind_some, if_neg g1]⟩, by omega, by omega, fun h => ⟨by omega, (c1 (by omega))⟩⟩
theorem rdAt171 {l : List S171} {j : Nat} (h : j < l.length) : rd_T171 l (j : Int) = l[j] := by
  unfold rd_T171
  simp [List.getD_eq_getElem?_getD, h]
theorem szl_TripS (l : (List S171)) (hl : l.length ≤ 9223372036854775807) (hw : ∀ y ∈ l, wf171 y) (d : Nat) : ∀ (j : Nat) (n : Int), j + d = l.length → 0 ≤ n → n ≤ 1048576 → ∃ t, Ev (fun k => laws_szTripS.l0 k l n (j : Int)) t ∧ -1 ≤ t ∧ t ≤ n ∧ (0 ≤ t → ∀ y ∈ l.drop j, sm171 y) := by
  induction d with
  | zero =>
    intro j n hj h0 h1
    refine ⟨n, Ev.step (fun k => ?_) (Ev.now _), by omega, by omega, fun _ y hy => by rw [List.drop_of_length_le (by omega)] at hy; simp at hy⟩
    simp only [laws_szTripS.l0]
    rw [if_neg (by omega)]
  | succ d ih =>
    intro j n hj h0 h1
    have hlt : j < l.length := by omega
    have hy := hw _ (List.getElem_mem hlt)
    obtain ⟨t1, ⟨K1, e1⟩, a1, b1, c1⟩ := sz_Trip l[j].f0 l[j].f1 l[j].f2 hy.1 hy.2.2 (n := n) h0 h1
    by_cases g1 : t1 < 0
    · refine ⟨-1, ⟨K1 + 1, fun m hm => ?_⟩, by omega, by omega, fun h => by omega⟩
      obtain ⟨k, rfl⟩ : ∃ k, m = k + 1 := ⟨m - 1, by omega⟩
      have e1 := e1 k (by omega)
      simp only at e1
      simp only [laws_szTripS.l0]
      rw [if_pos (by omega), if_pos (by omega), rdAt171 hlt, e1]
      simp only [Option.bind_some]
      rw [if_pos g1]
    · obtain ⟨t, ⟨K2, e2⟩, a2, b2, c2⟩ := ih (j + 1) t1 (by omega) (by omega) (by omega)
      refine ⟨t, ⟨K1 + K2 + 1, fun m hm => ?_⟩, a2, by omega, fun h y hy => ?_⟩
      · obtain ⟨k, rfl⟩ : ∃ k, m = k + 1 := ⟨m - 1, by omega⟩
        have e1 := e1 k (by omega)
        have e2 := e2 k (by omega)
        simp only at e1 e2
        simp only [laws_szTripS.l0]
        rw [if_pos (by omega), if_pos (by omega), rdAt171 hlt, e1]
        simp only [Option.bind_some]
        rw [if_neg g1, w64 (n := (j : Int) + 1) (by omega) (by omega)]
        exact e2
      · rw [List.drop_eq_getElem_cons hlt] at hy
        rcases List.mem_cons.1 hy with rfl | hy
        · exact c1 (by omega)
        · exact c2 h y hy
theorem sz_TripS (l : (List S171)) (hl : (l.length ≤ 9223372036854775807 ∧ ∀ y ∈ l, wf171 y)) {n : Int} (h0 : 0 ≤ n) (h1 : n ≤ 1048576) : ∃ t, Ev (fun k => laws_szTripS.f k l n) t ∧ -1 ≤ t ∧ t ≤ n ∧ (0 ≤ t → (l.length ≤ 1048576 ∧ ∀ y ∈ l, sm171 y)) := by
  have hl1 := hl.1
  have w : wrap64 (n - (l.length : Int)) = n - (l.length : Int) := w64 (by omega) (by omega)
  by_cases g : n - (l.length : Int) < 0
  · exact ⟨-1, ⟨0, fun k _ => by simp only [laws_szTripS.f, w, if_pos g]⟩, by omega, by omega, fun h => by omega⟩
  · obtain ⟨t, ⟨K, e⟩, a, b, c⟩ := szl_TripS l hl.1 hl.2 l.length 0 (n - (l.length : Int)) (by omega) (by omega) (by omega)
    exact ⟨t, ⟨K, fun k hk => by have e := e k hk; simp only at e; simp only [laws_szTripS.f, w, if_neg g]; exact e⟩, a, by omega, fun h => ⟨by omega, by have := c h; rwa [List.drop_zero] at this⟩⟩
theorem sz_WalkS (l : (List S174)) (hl : (l.length ≤ 9223372036854775807 ∧ ∀ y ∈ l, wf174 y)) {n : Int} (h0 : 0 ≤ n) (h1 : n ≤ 1048576) : ∃ t, Ev (fun k => laws_szWalkS.f l n) t ∧ -1 ≤ t ∧ t ≤ n ∧ (0 ≤ t → l.length ≤ 1048576) := by
  have hl1 := hl.1
  have w : wrap64 (n - (l.length : Int)) = n - (l.length : Int) := w64 (by omega) (by omega)
  by_cases g : n - (l.length : Int) < 0
  · exact ⟨-1, ⟨0, fun k _ => by simp only [laws_szWalkS.f, w, if_pos g]⟩, by omega, by omega, fun h => by omega⟩
  · exact ⟨n - (l.length : Int), ⟨0, fun k _ => by simp only [laws_szWalkS.f, w, if_neg g]⟩, by omega, by omega, fun h => by omega⟩
theorem sz_Lines (v0 : (List ByteArray)) (v1 : (List S171)) (v2 : (List S174)) (h_v0 : (v0.length ≤ 9223372036854775807 ∧ ∀ y ∈ v0, y.size ≤ 9223372036854775807)) (h_v1 : (v1.length ≤ 9223372036854775807 ∧ ∀ y ∈ v1, wf171 y)) (h_v2 : (v2.length ≤ 9223372036854775807 ∧ ∀ y ∈ v2, wf174 y)) {n : Int} (h0 : 0 ≤ n) (h1 : n ≤ 1048576) : ∃ t, Ev (fun k => laws_szLines.f k v0 v1 v2 n) t ∧ -1 ≤ t ∧ t ≤ n ∧ (0 ≤ t → (v0.length ≤ 1048576 ∧ ∀ y ∈ v0, y.size ≤ 1048576) ∧ (v1.length ≤ 1048576 ∧ ∀ y ∈ v1, sm171 y) ∧ v2.length ≤ 1048576) := by
  obtain ⟨t0, ⟨K0, e0⟩, a0, b0, c0⟩ := sz_StringS v0 h_v0 (n := n) (by omega) (by omega)
  by_cases g0 : t0 < 0
  · exact ⟨-1, ⟨K0, fun k hk => by have e0 := e0 k (by omega); simp only at e0; unfold laws_szLines.f; simp only [e0, Option.bind_some, if_pos g0]⟩, by omega, by omega, fun h => by omega⟩
  obtain ⟨t1, ⟨K1, e1⟩, a1, b1, c1⟩ := sz_TripS v1 h_v1 (n := t0) (by omega) (by omega)
  by_cases g1 : t1 < 0
  · exact ⟨-1, ⟨K0 + K1, fun k hk => by have e0 := e0 k (by omega); simp only at e0; have e1 := e1 k (by omega); simp only at e1; unfold laws_szLines.f; simp only [e0, Option.bind_some, if_neg g0, e1, Option.bind_some, if_pos g1]⟩, by omega, by omega, fun h => by omega⟩
  obtain ⟨t2, ⟨K2, e2⟩, a2, b2, c2⟩ := sz_WalkS v2 h_v2 (n := t1) (by omega) (by omega)
  by_cases g2 : t2 < 0
  · exact ⟨-1, ⟨K0 + K1 + K2, fun k hk => by have e0 := e0 k (by omega); simp only at e0; have e1 := e1 k (by omega); simp only at e1; have e2 := e2 k (by omega); simp only at e2; unfold laws_szLines.f; simp only [e0, Option.bind_some, if_neg g0, e1, Option.bind_some, if_neg g1, e2, Option.bind_some, if_pos g2]⟩, by omega, by omega, fun h => by omega⟩
  exact ⟨t2, ⟨K0 + K1 + K2, fun k hk => by have e0 := e0 k (by omega); simp only at e0; have e1 := e1 k (by omega); simp only at e1; have e2 := e2 k (by omega); simp only at e2; unfold laws_szLines.f; simp only [e0, Option.bind_some, if_neg g0, e1, Option.bind_some, if_neg g1, e2, Option.bind_some, if_neg g2]⟩, by omega, by omega, fun h => ⟨(c0 (by omega)), (c1 (by omega)), (c2 (by omega))⟩⟩
theorem tol_StringS (l : (List ByteArray)) (hl : l.length ≤ 1048576) (hs : ∀ y ∈ l, y.size ≤ 1048576) (d : Nat) : ∀ j : Nat, j + d = l.length → Ev (fun k => laws_toStringS.l0 k l ((l.take j) ++ List.replicate d (⟨#[]⟩ : ByteArray)) (j : Int)) l := by
  induction d with
  | zero =>
    intro j hj
    obtain rfl : j = l.length := by omega
    refine Ev.step (fun k => ?_) (Ev.now _)
    simp only [laws_toStringS.l0]
    rw [if_neg (by omega), List.take_length]
    simp
  | succ d ih =>
    intro j hj
    have hlt : j < l.length := by omega
    have hlen : (l.take j).length = j := by rw [List.length_take]; omega
    have h := fill_set (l.take j) (⟨#[]⟩ : ByteArray) (l[j]) d
    rw [hlen] at h
    refine Ev.step (fun k => ?_) (ih (j + 1) (by omega))
    simp only [laws_toStringS.l0]
    rw [if_pos (by omega), if_pos (by omega), if_pos (by rw [List.length_append, List.length_replicate, hlen]; omega), rdAtStr hlt, w64 (n := (j : Int) + 1) (by omega) (by omega), Int.toNat_natCast, h, take_next l hlt]
    rfl
theorem to_StringS (l : (List ByteArray)) (hl : (l.length ≤ 1048576 ∧ ∀ y ∈ l, y.size ≤ 1048576)) : Ev (fun k => laws_toStringS.f k l) l := by
  have h := tol_StringS l hl.1 hl.2 l.length 0 (by omega)
  refine Ev.congr (fun k => ?_) h
  unfold laws_toStringS.f
  rw [if_pos (by omega), if_pos (by have := hl.1; simp; omega)]
  simp
/-- The statement's Call, as the program's. -/
def cv186 (x : S186) : S95 := ⟨x.f0, x.f1, x.f2⟩
theorem to_Call (v0 : Int) (v1 : Int) (v2 : Int)  : Ev (fun k => laws_toCall.f v0 v1 v2) (v0, v1, v2) := by
  refine ⟨0, fun k hk => ?_⟩
  simp only [laws_toCall.f]
theorem rdAt186 {l : List S186} {j : Nat} (h : j < l.length) : rd_T186 l (j : Int) = l[j] := by
  unfold rd_T186
  simp [List.getD_eq_getElem?_getD, h]
theorem tol_CallS (l : (List S186)) (hl : l.length ≤ 1048576) (d : Nat) : ∀ j : Nat, j + d = l.length → Ev (fun k => laws_toCallS.l0 k l (((l.take j).map cv186) ++ List.replicate d z95) (j : Int)) ((l.map cv186)) := by
  induction d with
  | zero =>
    intro j hj
    obtain rfl : j = l.length := by omega
    refine Ev.step (fun k => ?_) (Ev.now _)
    simp only [laws_toCallS.l0]
    rw [if_neg (by omega), List.take_length]
    simp
  | succ d ih =>
    intro j hj
    have hlt : j < l.length := by omega
    have hlen : ((l.take j).map cv186).length = j := by rw [List.length_map, List.length_take]; omega
    have h := fill_set ((l.take j).map cv186) z95 (cv186 l[j]) d
    rw [hlen] at h
    refine Ev.step (f := fun k => (laws_toCall.f l[j].f0 l[j].f1 l[j].f2).bind fun b => laws_toCallS.l0 k l ((((l.take j).map cv186) ++ List.replicate (d + 1) z95).set j (⟨b.1, b.2.1, b.2.2⟩ : S95)) ((j + 1 : Nat) : Int)) (fun k => ?_) (Ev.bind (to_Call l[j].f0 l[j].f1 l[j].f2 ) ?_)
    · simp only [laws_toCallS.l0]
      rw [if_pos (by omega), if_pos (by omega), rdAt186 hlt, w64 (n := (j : Int) + 1) (by omega) (by omega)]
      congr 1
      funext b
      rw [if_pos (by rw [List.length_append, List.length_replicate, hlen]; omega), Int.toNat_natCast]
      rfl
    · have h2 := ih (j + 1) (by omega)
      rw [take_next l hlt, List.map_append] at h2
      refine Ev.congr (fun k => ?_) h2
      rw [show ∀ x : S95, x = cv186 l[j] → (((l.take j).map cv186) ++ List.replicate (d + 1) z95).set j x = (((l.take j).map cv186) ++ List.replicate (d + 1) z95).set j (cv186 l[j]) from fun x hx => by rw [hx]]
      rotate_left
      · rfl
      rw [h]
      rfl
theorem to_CallS (l : (List S186)) (hl : l.length ≤ 1048576) : Ev (fun k => laws_toCallS.f k l) ((l.map cv186)) := by
  have h := tol_CallS l hl l.length 0 (by omega)
  refine Ev.congr (fun k => ?_) h
  unfold laws_toCallS.f
  rw [if_pos (by omega), if_pos (by have := hl; simp; omega)]
  simp
/-- The statement's Trip, as the program's. -/
def cv171 (x : S171) : S93 := ⟨x.f0, x.f1, (x.f2.map cv186)⟩
theorem to_Trip (v0 : ByteArray) (v1 : Int) (v2 : (List S186)) (h_v0 : v0.size ≤ 1048576) (h_v2 : v2.length ≤ 1048576) : Ev (fun k => laws_toTrip.f k v0 v1 v2) (v0, v1, (v2.map cv186)) := by
  obtain ⟨K0, e0⟩ := to_CallS v2 h_v2
  refine ⟨K0, fun k hk => ?_⟩
  have e0 := e0 k (by omega); simp only at e0
  simp only [laws_toTrip.f, e0, Option.bind_some]
theorem tol_TripS (l : (List S171)) (hl : l.length ≤ 1048576) (hs : ∀ y ∈ l, sm171 y) (d : Nat) : ∀ j : Nat, j + d = l.length → Ev (fun k => laws_toTripS.l0 k l (((l.take j).map cv171) ++ List.replicate d z93) (j : Int)) ((l.map cv171)) := by
  induction d with
  | zero =>
    intro j hj
    obtain rfl : j = l.length := by omega
    refine Ev.step (fun k => ?_) (Ev.now _)
    simp only [laws_toTripS.l0]
    rw [if_neg (by omega), List.take_length]
    simp
  | succ d ih =>
    intro j hj
    have hlt : j < l.length := by omega
    have hlen : ((l.take j).map cv171).length = j := by rw [List.length_map, List.length_take]; omega
    have h := fill_set ((l.take j).map cv171) z93 (cv171 l[j]) d
    rw [hlen] at h
    have hy := hs _ (List.getElem_mem hlt)
    refine Ev.step (f := fun k => (laws_toTrip.f k l[j].f0 l[j].f1 l[j].f2).bind fun b => laws_toTripS.l0 k l ((((l.take j).map cv171) ++ List.replicate (d + 1) z93).set j (⟨b.1, b.2.1, b.2.2⟩ : S93)) ((j + 1 : Nat) : Int)) (fun k => ?_) (Ev.bind (to_Trip l[j].f0 l[j].f1 l[j].f2 hy.1 hy.2) ?_)
    · simp only [laws_toTripS.l0]
      rw [if_pos (by omega), if_pos (by omega), rdAt171 hlt, w64 (n := (j : Int) + 1) (by omega) (by omega)]
      congr 1
      funext b
      rw [if_pos (by rw [List.length_append, List.length_replicate, hlen]; omega), Int.toNat_natCast]
      rfl
    · have h2 := ih (j + 1) (by omega)
      rw [take_next l hlt, List.map_append] at h2
      refine Ev.congr (fun k => ?_) h2
      rw [show ∀ x : S93, x = cv171 l[j] → (((l.take j).map cv171) ++ List.replicate (d + 1) z93).set j x = (((l.take j).map cv171) ++ List.replicate (d + 1) z93).set j (cv171 l[j]) from fun x hx => by rw [hx]]
      rotate_left
      · rfl
      rw [h]
      rfl
theorem to_TripS (l : (List S171)) (hl : (l.length ≤ 1048576 ∧ ∀ y ∈ l, sm171 y)) : Ev (fun k => laws_toTripS.f k l) ((l.map cv171)) := by
  have h := tol_TripS l hl.1 hl.2 l.length 0 (by omega)
  refine Ev.congr (fun k => ?_) h
  unfold laws_toTripS.f
  rw [if_pos (by omega), if_pos (by have := hl.1; simp; omega)]
  simp
/-- The statement's Walk, as the program's. -/
def cv174 (x : S174) : S98 := ⟨x.f0, x.f1, x.f2⟩
theorem to_Walk (v0 : Int) (v1 : Int) (v2 : Int)  : Ev (fun k => laws_toWalk.f v0 v1 v2) (v0, v1, v2) := by
  refine ⟨0, fun k hk => ?_⟩
  simp only [laws_toWalk.f]
theorem rdAt174 {l : List S174} {j : Nat} (h : j < l.length) : rd_T174 l (j : Int) = l[j] := by
  unfold rd_T174
  simp [List.getD_eq_getElem?_getD, h]
theorem tol_WalkS (l : (List S174)) (hl : l.length ≤ 1048576) (d : Nat) : ∀ j : Nat, j + d = l.length → Ev (fun k => laws_toWalkS.l0 k l (((l.take j).map cv174) ++ List.replicate d z98) (j : Int)) ((l.map cv174)) := by
  induction d with
  | zero =>
    intro j hj
    obtain rfl : j = l.length := by omega
    refine Ev.step (fun k => ?_) (Ev.now _)
    simp only [laws_toWalkS.l0]
    rw [if_neg (by omega), List.take_length]
    simp
  | succ d ih =>
    intro j hj
    have hlt : j < l.length := by omega
    have hlen : ((l.take j).map cv174).length = j := by rw [List.length_map, List.length_take]; omega
    have h := fill_set ((l.take j).map cv174) z98 (cv174 l[j]) d
    rw [hlen] at h
    refine Ev.step (f := fun k => (laws_toWalk.f l[j].f0 l[j].f1 l[j].f2).bind fun b => laws_toWalkS.l0 k l ((((l.take j).map cv174) ++ List.replicate (d + 1) z98).set j (⟨b.1, b.2.1, b.2.2⟩ : S98)) ((j + 1 : Nat) : Int)) (fun k => ?_) (Ev.bind (to_Walk l[j].f0 l[j].f1 l[j].f2 ) ?_)
    · simp only [laws_toWalkS.l0]
      rw [if_pos (by omega), if_pos (by omega), rdAt174 hlt, w64 (n := (j : Int) + 1) (by omega) (by omega)]
      congr 1
      funext b
      rw [if_pos (by rw [List.length_append, List.length_replicate, hlen]; omega), Int.toNat_natCast]
      rfl
    · have h2 := ih (j + 1) (by omega)
      rw [take_next l hlt, List.map_append] at h2
      refine Ev.congr (fun k => ?_) h2
      rw [show ∀ x : S98, x = cv174 l[j] → (((l.take j).map cv174) ++ List.replicate (d + 1) z98).set j x = (((l.take j).map cv174) ++ List.replicate (d + 1) z98).set j (cv174 l[j]) from fun x hx => by rw [hx]]
      rotate_left
      · rfl
      rw [h]
      rfl
theorem to_WalkS (l : (List S174)) (hl : l.length ≤ 1048576) : Ev (fun k => laws_toWalkS.f k l) ((l.map cv174)) := by
  have h := tol_WalkS l hl l.length 0 (by omega)
  refine Ev.congr (fun k => ?_) h
  unfold laws_toWalkS.f
  rw [if_pos (by omega), if_pos (by have := hl; simp; omega)]
  simp
theorem to_Lines (v0 : (List ByteArray)) (v1 : (List S171)) (v2 : (List S174)) (h_v0 : (v0.length ≤ 1048576 ∧ ∀ y ∈ v0, y.size ≤ 1048576)) (h_v1 : (v1.length ≤ 1048576 ∧ ∀ y ∈ v1, sm171 y)) (h_v2 : v2.length ≤ 1048576) : Ev (fun k => laws_toLines.f k v0 v1 v2) (v0, (v1.map cv171), (v2.map cv174)) := by
  obtain ⟨K0, e0⟩ := to_StringS v0 h_v0
  obtain ⟨K1, e1⟩ := to_TripS v1 h_v1
  obtain ⟨K2, e2⟩ := to_WalkS v2 h_v2
  refine ⟨K0 + K1 + K2, fun k hk => ?_⟩
  have e0 := e0 k (by omega); simp only at e0
  have e1 := e1 k (by omega); simp only at e1
  have e2 := e2 k (by omega); simp only at e2
  simp only [laws_toLines.f, e0, e1, e2, Option.bind_some]
theorem eql_StringS (l : (List ByteArray)) (hl : l.length ≤ 1048576) (hs : ∀ y ∈ l, y.size ≤ 1048576) (d : Nat) : ∀ j : Nat, j + d = l.length → Ev (fun k => laws_eqStringS.l0 k l l (j : Int)) true := by
  induction d with
  | zero =>
    intro j hj
    refine Ev.step (fun k => ?_) (Ev.now _)
    simp only [laws_eqStringS.l0]
    rw [if_neg (by omega)]
  | succ d ih =>
    intro j hj
    have hlt : j < l.length := by omega
    refine Ev.step (fun k => ?_) (ih (j + 1) (by omega))
    simp only [laws_eqStringS.l0]
    rw [if_pos (by omega), if_pos (by omega), if_pos (by omega), w64 (n := (j : Int) + 1) (by omega) (by omega)]
    simp
theorem eq_StringS (l : (List ByteArray)) (hl : (l.length ≤ 1048576 ∧ ∀ y ∈ l, y.size ≤ 1048576)) : Ev (fun k => laws_eqStringS.f k l l) true := by
  refine Ev.congr (fun k => ?_) (eql_StringS l hl.1 hl.2 l.length 0 (by omega))
  unfold laws_eqStringS.f
  rw [if_pos rfl]
  rfl
theorem eq_Call (v0 : Int) (v1 : Int) (v2 : Int)  : Ev (fun k => laws_eqCall.f v0 v1 v2 v0 v1 v2) true := by
  refine ⟨0, fun k hk => ?_⟩
  simp [laws_eqCall.f]
theorem rdAt95 {l : List S95} {j : Nat} (h : j < l.length) : rd_T95 l (j : Int) = l[j] := by
  unfold rd_T95
  simp [List.getD_eq_getElem?_getD, h]
theorem eql_CallS (l : (List S95)) (hl : l.length ≤ 1048576) (d : Nat) : ∀ j : Nat, j + d = l.length → Ev (fun k => laws_eqCallS.l0 k l l (j : Int)) true := by
  induction d with
  | zero =>
    intro j hj
    refine Ev.step (fun k => ?_) (Ev.now _)
    simp only [laws_eqCallS.l0]
    rw [if_neg (by omega)]
  | succ d ih =>
    intro j hj
    have hlt : j < l.length := by omega
    obtain ⟨K1, e1⟩ := eq_Call l[j].f0 l[j].f1 l[j].f2 
    obtain ⟨K2, e2⟩ := ih (j + 1) (by omega)
    refine ⟨K1 + K2 + 1, fun m hm => ?_⟩
    obtain ⟨k, rfl⟩ : ∃ k, m = k + 1 := ⟨m - 1, by omega⟩
    have e1 := e1 k (by omega)
    have e2 := e2 k (by omega)
    simp only at e1 e2
    simp only [laws_eqCallS.l0]
    rw [if_pos (by omega), if_pos (by omega), if_pos (by omega), rdAt95 hlt, e1, w64 (n := (j : Int) + 1) (by omega) (by omega)]
    simp only [Option.bind_some, if_true]
    exact e2
theorem eq_CallS (l : (List S95)) (hl : l.length ≤ 1048576) : Ev (fun k => laws_eqCallS.f k l l) true := by
  refine Ev.congr (fun k => ?_) (eql_CallS l hl l.length 0 (by omega))
  unfold laws_eqCallS.f
  rw [if_pos rfl]
  rfl
/-- No more than a statement's guard lets in. -/
def sm93 (x : S93) : Prop := x.f0.size ≤ 1048576 ∧ x.f2.length ≤ 1048576
theorem eq_Trip (v0 : ByteArray) (v1 : Int) (v2 : (List S95)) (h_v0 : v0.size ≤ 1048576) (h_v2 : v2.length ≤ 1048576) : Ev (fun k => laws_eqTrip.f k v0 v1 v2 v0 v1 v2) true := by
  obtain ⟨K0, e0⟩ := eq_CallS v2 h_v2
  refine ⟨K0, fun k hk => ?_⟩
  have e0 := e0 k (by omega); simp only at e0
  simp [laws_eqTrip.f, e0]
theorem rdAt93 {l : List S93} {j : Nat} (h : j < l.length) : rd_T93 l (j : Int) = l[j] := by
  unfold rd_T93
  simp [List.getD_eq_getElem?_getD, h]
theorem eql_TripS (l : (List S93)) (hl : l.length ≤ 1048576) (hs : ∀ y ∈ l, sm93 y) (d : Nat) : ∀ j : Nat, j + d = l.length → Ev (fun k => laws_eqTripS.l0 k l l (j : Int)) true := by
  induction d with
  | zero =>
    intro j hj
    refine Ev.step (fun k => ?_) (Ev.now _)
    simp only [laws_eqTripS.l0]
    rw [if_neg (by omega)]
  | succ d ih =>
    intro j hj
    have hlt : j < l.length := by omega
    have hy := hs _ (List.getElem_mem hlt)
    obtain ⟨K1, e1⟩ := eq_Trip l[j].f0 l[j].f1 l[j].f2 hy.1 hy.2
    obtain ⟨K2, e2⟩ := ih (j + 1) (by omega)
    refine ⟨K1 + K2 + 1, fun m hm => ?_⟩
    obtain ⟨k, rfl⟩ : ∃ k, m = k + 1 := ⟨m - 1, by omega⟩
    have e1 := e1 k (by omega)
    have e2 := e2 k (by omega)
    simp only at e1 e2
    simp only [laws_eqTripS.l0]
    rw [if_pos (by omega), if_pos (by omega), if_pos (by omega), rdAt93 hlt, e1, w64 (n := (j : Int) + 1) (by omega) (by omega)]
    simp only [Option.bind_some, if_true]
    exact e2
theorem eq_TripS (l : (List S93)) (hl : (l.length ≤ 1048576 ∧ ∀ y ∈ l, sm93 y)) : Ev (fun k => laws_eqTripS.f k l l) true := by
  refine Ev.congr (fun k => ?_) (eql_TripS l hl.1 hl.2 l.length 0 (by omega))
  unfold laws_eqTripS.f
  rw [if_pos rfl]
  rfl
theorem eq_Walk (v0 : Int) (v1 : Int) (v2 : Int)  : Ev (fun k => laws_eqWalk.f v0 v1 v2 v0 v1 v2) true := by
  refine ⟨0, fun k hk => ?_⟩
  simp [laws_eqWalk.f]
theorem rdAt98 {l : List S98} {j : Nat} (h : j < l.length) : rd_T98 l (j : Int) = l[j] := by
  unfold rd_T98
  simp [List.getD_eq_getElem?_getD, h]
theorem eql_WalkS (l : (List S98)) (hl : l.length ≤ 1048576) (d : Nat) : ∀ j : Nat, j + d = l.length → Ev (fun k => laws_eqWalkS.l0 k l l (j : Int)) true := by
  induction d with
  | zero =>
    intro j hj
    refine Ev.step (fun k => ?_) (Ev.now _)
    simp only [laws_eqWalkS.l0]
    rw [if_neg (by omega)]
  | succ d ih =>
    intro j hj
    have hlt : j < l.length := by omega
    obtain ⟨K1, e1⟩ := eq_Walk l[j].f0 l[j].f1 l[j].f2 
    obtain ⟨K2, e2⟩ := ih (j + 1) (by omega)
    refine ⟨K1 + K2 + 1, fun m hm => ?_⟩
    obtain ⟨k, rfl⟩ : ∃ k, m = k + 1 := ⟨m - 1, by omega⟩
    have e1 := e1 k (by omega)
    have e2 := e2 k (by omega)
    simp only at e1 e2
    simp only [laws_eqWalkS.l0]
    rw [if_pos (by omega), if_pos (by omega), if_pos (by omega), rdAt98 hlt, e1, w64 (n := (j : Int) + 1) (by omega) (by omega)]
    simp only [Option.bind_some, if_true]
    exact e2
theorem eq_WalkS (l : (List S98)) (hl : l.length ≤ 1048576) : Ev (fun k => laws_eqWalkS.f k l l) true := by
  refine Ev.congr (fun k => ?_) (eql_WalkS l hl l.length 0 (by omega))
  unfold laws_eqWalkS.f
  rw [if_pos rfl]
  rfl
theorem eq_Lines (v0 : (List ByteArray)) (v1 : (List S93)) (v2 : (List S98)) (h_v0 : (v0.length ≤ 1048576 ∧ ∀ y ∈ v0, y.size ≤ 1048576)) (h_v1 : (v1.length ≤ 1048576 ∧ ∀ y ∈ v1, sm93 y)) (h_v2 : v2.length ≤ 1048576) : Ev (fun k => laws_eqLines.f k v0 v1 v2 v0 v1 v2) true := by
  obtain ⟨K0, e0⟩ := eq_StringS v0 h_v0
  obtain ⟨K1, e1⟩ := eq_TripS v1 h_v1
  obtain ⟨K2, e2⟩ := eq_WalkS v2 h_v2
  refine ⟨K0 + K1 + K2, fun k hk => ?_⟩
  have e0 := e0 k (by omega); simp only at e0
  have e1 := e1 k (by omega); simp only at e1
  have e2 := e2 k (by omega); simp only at e2
  simp [laws_eqLines.f, e0, e1, e2]
theorem smcv171 {x : S171} (h : sm171 x) : sm93 (cv171 x) := ⟨h.1, (by show (List.map _ _).length ≤ _; rw [List.length_map]; exact h.2)⟩
end Go.Proofs.Ytolejglfohagnaa.Pure
