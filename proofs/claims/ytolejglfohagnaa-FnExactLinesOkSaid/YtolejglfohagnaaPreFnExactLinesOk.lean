/- What the arguments of the statement FnExactLinesOk are, opened off memory; the plain law. -/
import Derived.Test.YtolejglfohagnaaQFnExactLinesOkx9
import Derived.Test.YtolejglfohagnaaVFnExactLinesOka
namespace Go.Proofs.Ytolejglfohagnaa.PreFnExactLinesOk
open Go.RowKit Go.Proofs.Ytolejglfohagnaa.PFnExactLinesOk Go.Proofs.YtolejglfohagnaaW.PrintWords Go.Proofs.YtolejglfohagnaaW.PrintLast Go.Proofs.YtolejglfohagnaaW.Open
set_option linter.unusedVariables false
def wf186 (x : S186) : Prop := ((Lit.int .i64 x.f0).wf = true ∧ ((Lit.int .i64 x.f1).wf = true ∧ (Lit.int .i64 x.f2).wf = true))
set_option maxRecDepth 100000 in
theorem o186 : Opens Try.prog 186 k186 wf186 := opens_iso (fun x : S186 => (x.f0, x.f1, x.f2)) (fun p => ⟨p.1, p.2.1, p.2.2⟩) (fun _ => rfl) (opens_struct Try.underlying186 (by kernel_rfl) (fields_cons rfl (by kernel_rfl) (opens_int Try.underlying2) (fields_cons rfl (by kernel_rfl) (opens_int Try.underlying2) (fields_one rfl (by kernel_rfl) (opens_int Try.underlying2)))))
def wf171 (x : S171) : Prop := (x.f0.size ≤ 9223372036854775807 ∧ ((Lit.int .i64 x.f1).wf = true ∧ (x.f2.length ≤ 9223372036854775807 ∧ ∀ y ∈ x.f2, wf186 y)))
set_option maxRecDepth 100000 in
theorem o171 : Opens Try.prog 171 k171 wf171 := opens_iso (fun x : S171 => (x.f0, x.f1, x.f2)) (fun p => ⟨p.1, p.2.1, p.2.2⟩) (fun _ => rfl) (opens_struct Try.underlying171 (by kernel_rfl) (fields_cons rfl (by kernel_rfl) (opens_string Try.underlying9) (fields_cons rfl (by kernel_rfl) (opens_int Try.underlying2) (fields_one rfl (by kernel_rfl) (opens_slice 186 Try.underlying169 (by kernel_rfl) o186)))))
def wf174 (x : S174) : Prop := ((Lit.int .i64 x.f0).wf = true ∧ ((Lit.int .i64 x.f1).wf = true ∧ (Lit.int .i64 x.f2).wf = true))
set_option maxRecDepth 100000 in
theorem o174 : Opens Try.prog 174 k174 wf174 := opens_iso (fun x : S174 => (x.f0, x.f1, x.f2)) (fun p => ⟨p.1, p.2.1, p.2.2⟩) (fun _ => rfl) (opens_struct Try.underlying174 (by kernel_rfl) (fields_cons rfl (by kernel_rfl) (opens_int Try.underlying2) (fields_cons rfl (by kernel_rfl) (opens_int Try.underlying2) (fields_one rfl (by kernel_rfl) (opens_int Try.underlying2)))))
set_option maxRecDepth 100000 in
/-- Parameter 0: what it is, opened. -/
theorem open0 : Opens Try.prog 104 (Kd.pair (Kd.slice 9 Kd.string) (Kd.pair (Kd.slice 171 k171) (Kd.slice 174 k174))) (fun b => ((b.1.length ≤ 9223372036854775807 ∧ ∀ y ∈ b.1, y.size ≤ 9223372036854775807) ∧ ((b.2.1.length ≤ 9223372036854775807 ∧ ∀ y ∈ b.2.1, wf171 y) ∧ (b.2.2.length ≤ 9223372036854775807 ∧ ∀ y ∈ b.2.2, wf174 y)))) := (opens_struct Try.underlying104 (by kernel_rfl) (fields_cons rfl (by kernel_rfl) (opens_slice 9 Try.underlying81 (by kernel_rfl) (opens_string Try.underlying9)) (fields_cons rfl (by kernel_rfl) (opens_slice 171 Try.underlying101 (by kernel_rfl) o171) (fields_one rfl (by kernel_rfl) (opens_slice 174 Try.underlying102 (by kernel_rfl) o174)))))
def Pure : Prop := ∀ (l0_0 : (List ByteArray)) (l0_1 : (List S171)) (l0_2 : (List S174)), (l0_0.length ≤ 9223372036854775807 ∧ ∀ y ∈ l0_0, y.size ≤ 9223372036854775807) → (l0_1.length ≤ 9223372036854775807 ∧ ∀ y ∈ l0_1, wf171 y) → (l0_2.length ≤ 9223372036854775807 ∧ ∀ y ∈ l0_2, wf174 y) → ∃ k, laws_FnExactLinesOk.f k l0_0 l0_1 l0_2 = some true
end Go.Proofs.Ytolejglfohagnaa.PreFnExactLinesOk
