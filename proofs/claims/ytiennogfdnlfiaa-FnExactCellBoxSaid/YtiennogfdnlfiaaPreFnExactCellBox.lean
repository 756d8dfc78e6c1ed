/- What the arguments of the statement FnExactCellBox are, opened off memory; the plain law. -/
import Derived.Test.YtiennogfdnlfiaaQFnExactCellBoxx1
import Derived.Test.YtiennogfdnlfiaaWOpen
namespace Go.Proofs.Ytiennogfdnlfiaa.PreFnExactCellBox
open Go.RowKit Go.Proofs.Ytiennogfdnlfiaa.PFnExactCellBox Go.Proofs.YtiennogfdnlfiaaW.PrintWords Go.Proofs.YtiennogfdnlfiaaW.PrintLast Go.Proofs.YtiennogfdnlfiaaW.Open
set_option linter.unusedVariables false
/-- Parameter 0: what it is, opened. -/
theorem open0 : Opens Try.prog 60 (Kd.pair (Kd.int .u64) (Kd.int .i64)) (fun b => ((Lit.int .u64 b.1).wf = true ∧ (Lit.int .i64 b.2).wf = true)) := (opens_struct Try.underlying60 (by kernel_rfl) (fields_cons rfl (by kernel_rfl) (opens_int Try.underlying41) (fields_one rfl (by kernel_rfl) (opens_int Try.underlying2))))
def Pure : Prop := ∀ (a0_0 : Int) (a0_1 : Int), (Lit.int .u64 a0_0).wf = true → (Lit.int .i64 a0_1).wf = true → ∃ k, laws_FnExactCellBox.f k a0_0 a0_1 = some true
end Go.Proofs.Ytiennogfdnlfiaa.PreFnExactCellBox
