/- Plain lemmas on the frame of the statement FnExactCover: how its arguments are measured, turned and compared. Written by a program of ours out of the types. -/
import Derived.Test.YtolejglfohagnaaPreFnExactCover
import Derived.Test.YtolejglfohagnaaVFnExactCovera
namespace Go.Proofs.Ytolejglfohagnaa.Pure
open Go.RowKit Go.Proofs.Ytolejglfohagnaa.PFnExactCover Go.Proofs.Ytolejglfohagnaa.PreFnExactCover Go.Proofs.YtolejglfohagnaaW.PrintWords Go.Proofs.YtolejglfohagnaaW.PrintLast Go.Proofs.YtolejglfohagnaaW.PrintMore Go.Proofs.YtolejglfohagnaaW.Math
set_option linter.unusedVariables false
set_option linter.unusedSimpArgs false

theorem rdAt45 {l : List S45} {j : Nat} (h : j < l.length) : rd_T45 l (j : Int) = l[j] := by
  unfold rd_T45
  simp [List.getD_eq_getElem?_getD, h]
theorem rdMid45 {A B : List S45} {b : S45} {j : Nat} (h : A.length = j) : rd_T45 (A ++ b :: B) (j : Int) = b := by
  subst h
  unfold rd_T45
  simp [List.getD_eq_getElem?_getD]
theorem setMid {α : Type} {A B : List α} {b : α} (v : α) {j : Nat} (h : A.length = j) : (A ++ b :: B).set (j : Int).toNat v = A ++ v :: B := by
  subst h
  simp
/-- What CellS is marked with. -/
def mkVCellS (n : Int) : S45 := (⟨n, n + 1⟩ : S45)
def mkLCellS (n : Int) : Nat → List S45
  | 0 => []
  | d + 1 => mkVCellS n :: mkLCellS (n + 2) d
theorem mkl_CellS (d : Nat) : ∀ (A B : List S45) (j : Nat) (n : Int), A.length = j → B.length = d → 0 ≤ n → n + (2 + 1) * d + j ≤ 4611686018427387904 → Ev (fun k => laws_markCellS.l0 k (A ++ B) n (j : Int)) (n + 2 * d, A ++ mkLCellS n d) := by
  induction d with
  | zero =>
    intro A B j n hj hB h0 h1
    obtain rfl := List.length_eq_zero_iff.1 hB
    refine Ev.step (fun k => ?_) (Ev.now _)
    simp only [laws_markCellS.l0]
    rw [List.append_nil, if_neg (by omega)]
    simp [mkLCellS]
  | succ d ih =>
    intro A B j n hj hB h0 h1
    obtain ⟨b, B, rfl⟩ : ∃ b B', B = b :: B' := by cases B with
      | nil => simp at hB
      | cons b B => exact ⟨b, B, rfl⟩
    have hB' : B.length = d := by simpa using hB
    have e1 : wrap64 ((j : Int) + 1) = ((j + 1 : Nat) : Int) := by rw [w64 (by omega) (by omega)]; omega
    have w1 : wrap64 (n + 1) = n + 1 := w64 (by omega) (by omega)
    have w2 : wrap64 (n + 1 + 1) = n + 1 + 1 := w64 (by omega) (by omega)
    have u0 : IntKind.u64.wrap (n) = n := wu64 (by omega) (by omega)
    obtain ⟨K, h⟩ := ih (A ++ [mkVCellS n]) B (j + 1) (n + 2) (by rw [List.length_append, hj]; rfl) hB' (by omega) (by omega)
    refine ⟨K + 1, fun m hm => ?_⟩
    obtain ⟨k, rfl⟩ : ∃ k, m = k + 1 := ⟨m - 1, by omega⟩
    have h := h k (by omega)
    simp only [List.append_assoc, List.singleton_append] at h
    simp only [laws_markCellS.l0]
    have hlt : (j : Int) < ((A ++ b :: B).length : Int) := by rw [List.length_append, List.length_cons]; omega
    rw [if_pos hlt, if_pos (show 0 ≤ (j : Int) by omega)]
    simp only [Option.bind_some, rdMid45 hj, setMid _ hj, e1, w1, w2, u0]
    rw [show n + 2 * ((d + 1 : Nat) : Int) = n + 2 + 2 * (d : Int) by omega]
    rw [show (n + 1 + 1) = n + 2 by omega]
    exact h
theorem heldl_CellS (d : Nat) : ∀ (A : List S45) (j : Nat) (n : Int), A.length = j → 0 ≤ n → n + (2 + 1) * d + j ≤ 4611686018427387904 → Ev (fun k => laws_heldCellS.l0 k (A ++ mkLCellS n d) n (j : Int)) (n + 2 * d) := by
  induction d with
  | zero =>
    intro A j n hj h0 h1
    refine Ev.step (fun k => ?_) (Ev.now _)
    simp only [laws_heldCellS.l0]
    rw [if_neg (by simp [mkLCellS]; omega)]
    simp
  | succ d ih =>
    intro A j n hj h0 h1
    have e1 : wrap64 ((j : Int) + 1) = ((j + 1 : Nat) : Int) := by rw [w64 (by omega) (by omega)]; omega
    have w1 : wrap64 (n + 1) = n + 1 := w64 (by omega) (by omega)
    have w2 : wrap64 (n + 1 + 1) = n + 1 + 1 := w64 (by omega) (by omega)
    have u0 : IntKind.u64.wrap (n) = n := wu64 (by omega) (by omega)
    obtain ⟨K, h⟩ := ih (A ++ [mkVCellS n]) (j + 1) (n + 2) (by rw [List.length_append, hj]; rfl) (by omega) (by omega)
    refine ⟨K + 1, fun m hm => ?_⟩
    obtain ⟨k, rfl⟩ : ∃ k, m = k + 1 := ⟨m - 1, by omega⟩
    have h := h k (by omega)
    simp only [List.append_assoc, List.singleton_append] at h
    show laws_heldCellS.l0 (k + 1) (A ++ mkVCellS n :: mkLCellS (n + 2) d) n (j : Int) = _
    simp only [laws_heldCellS.l0]
    have hlt : (j : Int) < ((A ++ mkVCellS n :: mkLCellS (n + 2) d).length : Int) := by rw [List.length_append, List.length_cons]; omega
    rw [if_pos hlt, if_pos (show 0 ≤ (j : Int) by omega)]
    simp only [rdMid45 hj, mkVCellS, e1, w1, w2, u0, if_true]
    rw [show n + 2 * ((d + 1 : Nat) : Int) = n + 2 + 2 * (d : Int) by omega]
    rw [show (n + 1 + 1) = n + 2 by omega]
    exact h
theorem mk_CellS (l : List S45) (hl : l.length ≤ 1099511627776) {n : Int} (h0 : 0 ≤ n) (h1 : n ≤ 1099511627776) : ∃ l' m, Ev (fun k => laws_markCellS.f k l n) (m, l') ∧ Ev (fun k => laws_heldCellS.f k l' n) m ∧ n ≤ m ∧ m ≤ n + 2 * l.length ∧ l'.length = l.length := by
  have hlen : ∀ (d : Nat) (n : Int), (mkLCellS n d).length = d := by
    intro d
    induction d with
    | zero => intro n; rfl
    | succ d ih => intro n; simp [mkLCellS, ih]
  refine ⟨mkLCellS n l.length, n + 2 * l.length, mkl_CellS l.length [] l 0 n rfl rfl h0 (by omega), heldl_CellS l.length [] 0 n rfl h0 (by omega), by omega, by omega, hlen _ _⟩
theorem to_Point (v0 : Int) (v1 : Int)  : Ev (fun k => laws_toPoint.f v0 v1) (v0, v1) := by
  refine ⟨0, fun k hk => ?_⟩
  simp only [laws_toPoint.f]
theorem to_Box (v0 : Int) (v1 : Int) (v2 : Int) (v3 : Int)  : Ev (fun k => laws_toBox.f v0 v1 v2 v3) (v0, v1, v2, v3) := by
  obtain ⟨K0, e0⟩ := to_Point v0 v1 
  obtain ⟨K1, e1⟩ := to_Point v2 v3 
  refine ⟨K0 + K1, fun k hk => ?_⟩
  have e0 := e0 k (by omega); simp only at e0
  have e1 := e1 k (by omega); simp only at e1
  simp only [laws_toBox.f, e0, e1, Option.bind_some]
theorem eq_Cell (v0 : Int) (v1 : Int)  : Ev (fun k => laws_eqCell.f v0 v1 v0 v1) true := by
  refine ⟨0, fun k hk => ?_⟩
  simp [laws_eqCell.f]
theorem eql_CellS (l : (List S45)) (hl : l.length ≤ 1048576) (d : Nat) : ∀ j : Nat, j + d = l.length → Ev (fun k => laws_eqCellS.l0 k l l (j : Int)) true := by
  induction d with
  | zero =>
    intro j hj
    refine Ev.step (fun k => ?_) (Ev.now _)
    simp only [laws_eqCellS.l0]
    rw [if_neg (by omega)]
  | succ d ih =>
    intro j hj
    have hlt : j < l.length := by omega
    obtain ⟨K1, e1⟩ := eq_Cell l[j].f0 l[j].f1 
    obtain ⟨K2, e2⟩ := ih (j + 1) (by omega)
    refine ⟨K1 + K2 + 1, fun m hm => ?_⟩
    obtain ⟨k, rfl⟩ : ∃ k, m = k + 1 := ⟨m - 1, by omega⟩
    have e1 := e1 k (by omega)
    have e2 := e2 k (by omega)
    simp only at e1 e2
    simp only [laws_eqCellS.l0]
    rw [if_pos (by omega), if_pos (by omega), if_pos (by omega), rdAt45 hlt, e1, w64 (n := (j : Int) + 1) (by omega) (by omega)]
    simp only [Option.bind_some, if_true]
    exact e2
theorem eq_CellS (l : (List S45)) (hl : l.length ≤ 1048576) : Ev (fun k => laws_eqCellS.f k l l) true := by
  refine Ev.congr (fun k => ?_) (eql_CellS l hl l.length 0 (by omega))
  unfold laws_eqCellS.f
  rw [if_pos rfl]
  rfl
end Go.Proofs.Ytolejglfohagnaa.Pure
