/- What leaves memory alone: the whole lemma. Plain lemmas: no statement of the program. -/
import Derived.Test.YtolejglfohagnaaWB8
namespace Go.Proofs.YtolejglfohagnaaW.AW
open Go Go.RowKit
set_option linter.unusedVariables false
set_option linter.unusedSimpArgs false

section
variable {P : Program} {β κ : Id → Nat} {w : World} {S : Nat → Prop} {m : Mem} {e : Operand → PV} {ρ : Operand → Value} {o : Oper} {cs : List Bool} {D : Id → Prop}
theorem ofVal_ok {v : Value} : OV β κ D w S v (ofVal v) := by
  unfold ofVal
  split
  · exact .bool_mk
  · split
    · exact .int_mk (by assumption)
    · exact .rv _ _ (.und _)
  · split
    · exact .str_mk (by assumption)
    · exact .rv _ _ (.und _)
  · exact .rv _ _ .nils
  · exact .rv _ _ (.und _)
theorem zero_ok {t : TypeId} (h : (tyD P t).zok = true) : ∃ z, (∀ w, (zeroValue t).run P w = .ok z w) ∧ z.cells.size = P.cellsOf t ∧ z.cells.all (·.oneCell') = true ∧ CR β κ D w S z.cells (tyD P t).zc := by
  cases hi : P.info? t with
  | none => simp [tyD, hi] at h
  | some i =>
    cases hz : i.zero with
    | none => simp [tyD, hi, hz] at h
    | some z =>
      simp only [tyD, hi, hz, Option.bind_some, Option.map_some, Option.getD_some, Bool.and_eq_true, decide_eq_true_eq] at h
      have ez : (tyD P t).zc = z.cells.toList.map ofVal := by simp [tyD, zcells, hi, hz]
      refine ⟨z, fun w => by simp [zeroValue, typeInfo, hi, hz], h.1.2, h.1.1, CR.mk_ (by rw [ez]; simp) (fun j p hp => ?_)⟩
      rw [ez, List.getElem?_map] at hp
      obtain ⟨v, hv, rfl⟩ := Option.map_eq_some_iff.1 hp
      exact ⟨v, by simpa using hv, (Array.all_eq_true_iff_forall_mem.1 h.1.1) v (by have := List.mem_of_getElem? hv; simpa using this), ofVal_ok⟩
theorem run_places {fs : Array Field} (h : fs.all (fun f => (P.info? f.type).isSome) = true) (w : World) : (fs.mapM (fun f => do pure (f.offset, ← sizeOf f.type) : Field → Sem (Nat × Nat))).run P w = .ok (fs.map (fun f => (f.offset, P.cellsOf f.type))) w := by
  obtain ⟨l⟩ := fs
  have key : ∀ l : List Field, (∀ f ∈ l, (P.info? f.type).isSome = true) → (l.mapM (fun f => do pure (f.offset, ← sizeOf f.type) : Field → Sem (Nat × Nat))).run P w = .ok (l.map (fun f => (f.offset, P.cellsOf f.type))) w := by
    intro l
    induction l with
    | nil => intro _; simp
    | cons f r ih =>
      intro hf
      obtain ⟨i, hi⟩ := Option.isSome_iff_exists.1 (hf f (by simp))
      have := ih (fun g hg => hf g (by simp [hg]))
      simp [List.mapM_cons, sizeOf, typeInfo, hi, this, Program.cellsOf]
      simp [sizeOf, typeInfo, Program.cellsOf] at this
      simp [this]
  have := key l (fun f hf => by simpa using (Array.all_eq_true_iff_forall_mem.1 h) f (by simpa using hf))
  simp [Array.mapM_eq_mapM_toList] at *
  simp [this]
end
end Go.Proofs.YtolejglfohagnaaW.AW
