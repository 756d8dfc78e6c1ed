/- What the arguments of the statement FnExactCover are, opened off memory; the plain law. -/
import Derived.Test.YtolejglfohagnaaQFnExactCoverx5
import Derived.Test.YtolejglfohagnaaVFnExactCovera
namespace Go.Proofs.Ytolejglfohagnaa.PreFnExactCover
open Go.RowKit Go.Proofs.Ytolejglfohagnaa.PFnExactCover Go.Proofs.YtolejglfohagnaaW.PrintWords Go.Proofs.YtolejglfohagnaaW.PrintLast Go.Proofs.YtolejglfohagnaaW.Open
set_option linter.unusedVariables false
set_option maxRecDepth 100000 in
/-- Parameter 0: what it is, opened. -/
theorem open0 : Opens Try.prog 25 (Kd.pair (Kd.pair (Kd.int .i64) (Kd.int .i64)) (Kd.pair (Kd.int .i64) (Kd.int .i64))) (fun b => (((Lit.int .i64 b.1.1).wf = true ∧ (Lit.int .i64 b.1.2).wf = true) ∧ ((Lit.int .i64 b.2.1).wf = true ∧ (Lit.int .i64 b.2.2).wf = true))) := (opens_struct Try.underlying25 (by kernel_rfl) (fields_cons rfl (by kernel_rfl) (opens_struct Try.underlying23 (by kernel_rfl) (fields_cons rfl (by kernel_rfl) (opens_int Try.underlying2) (fields_one rfl (by kernel_rfl) (opens_int Try.underlying2)))) (fields_one rfl (by kernel_rfl) (opens_struct Try.underlying23 (by kernel_rfl) (fields_cons rfl (by kernel_rfl) (opens_int Try.underlying2) (fields_one rfl (by kernel_rfl) (opens_int Try.underlying2)))))))
def Pure : Prop := ∀ (a0_0 : Int) (a0_1 : Int) (a0_2 : Int) (a0_3 : Int) (a1 : Int), (Lit.int .i64 a0_0).wf = true → (Lit.int .i64 a0_1).wf = true → (Lit.int .i64 a0_2).wf = true → (Lit.int .i64 a0_3).wf = true → (Lit.int .i64 a1).wf = true → ∃ k, laws_FnExactCover.f k a0_0 a0_1 a0_2 a0_3 a1 = some true
end Go.Proofs.Ytolejglfohagnaa.PreFnExactCover
