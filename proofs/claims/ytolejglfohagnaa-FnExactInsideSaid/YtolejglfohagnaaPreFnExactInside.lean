/- What the arguments of the statement FnExactInside are, opened off memory; the plain law. -/
import Derived.Test.YtolejglfohagnaaQFnExactInsidex7
import Derived.Test.YtolejglfohagnaaVFnExactInsidea
namespace Go.Proofs.Ytolejglfohagnaa.PreFnExactInside
open Go.RowKit Go.Proofs.Ytolejglfohagnaa.PFnExactInside Go.Proofs.YtolejglfohagnaaW.PrintWords Go.Proofs.YtolejglfohagnaaW.PrintLast Go.Proofs.YtolejglfohagnaaW.Open
set_option linter.unusedVariables false
def wf23 (x : S23) : Prop := ((Lit.int .i64 x.f0).wf = true ∧ (Lit.int .i64 x.f1).wf = true)
set_option maxRecDepth 100000 in
theorem o23 : Opens Try.prog 23 k23 wf23 := opens_iso (fun x : S23 => (x.f0, x.f1)) (fun p => ⟨p.1, p.2⟩) (fun _ => rfl) (opens_struct Try.underlying23 (by kernel_rfl) (fields_cons rfl (by kernel_rfl) (opens_int Try.underlying2) (fields_one rfl (by kernel_rfl) (opens_int Try.underlying2))))
def wf133 (x : S133) : Prop := ((x.f0.length ≤ 9223372036854775807 ∧ ∀ y ∈ x.f0, wf23 y) ∧ True)
set_option maxRecDepth 100000 in
theorem o133 : Opens Try.prog 133 k133 wf133 := opens_iso (fun x : S133 => (x.f0, x.f1)) (fun p => ⟨p.1, p.2⟩) (fun _ => rfl) (opens_struct Try.underlying133 (by kernel_rfl) (fields_cons rfl (by kernel_rfl) (opens_slice 23 Try.underlying49 (by kernel_rfl) o23) (fields_one rfl (by kernel_rfl) (opens_bool Try.underlying4))))
set_option maxRecDepth 100000 in
/-- Parameter 0: what it is, opened. -/
theorem open0 : Opens Try.prog 67 (Kd.slice 133 k133) (fun l => (l.length ≤ 9223372036854775807 ∧ ∀ y ∈ l, wf133 y)) := (opens_slice 133 Try.underlying67 (by kernel_rfl) o133)
set_option maxRecDepth 100000 in
/-- Parameter 1: what it is, opened. -/
theorem open1 : Opens Try.prog 23 (Kd.pair (Kd.int .i64) (Kd.int .i64)) (fun b => ((Lit.int .i64 b.1).wf = true ∧ (Lit.int .i64 b.2).wf = true)) := (opens_struct Try.underlying23 (by kernel_rfl) (fields_cons rfl (by kernel_rfl) (opens_int Try.underlying2) (fields_one rfl (by kernel_rfl) (opens_int Try.underlying2))))
def Pure : Prop := ∀ (l0 : (List S133)) (a1_0 : Int) (a1_1 : Int), (l0.length ≤ 9223372036854775807 ∧ ∀ y ∈ l0, wf133 y) → (Lit.int .i64 a1_0).wf = true → (Lit.int .i64 a1_1).wf = true → ∃ k, laws_FnExactInside.f k l0 a1_0 a1_1 = some true
end Go.Proofs.Ytolejglfohagnaa.PreFnExactInside
