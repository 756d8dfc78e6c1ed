/- What the arguments of the statement FnExactTileBox are, opened off memory; the plain law. -/
import Derived.Test.YtiennogfdnlfiaaQFnExactTileBoxx1
import Derived.Test.YtiennogfdnlfiaaWOpen
namespace Go.Proofs.Ytiennogfdnlfiaa.PreFnExactTileBox
open Go.RowKit Go.Proofs.Ytiennogfdnlfiaa.PFnExactTileBox Go.Proofs.YtiennogfdnlfiaaW.PrintWords Go.Proofs.YtiennogfdnlfiaaW.PrintLast Go.Proofs.YtiennogfdnlfiaaW.Open
set_option linter.unusedVariables false
/-- Parameter 0: what it is, opened. -/
theorem open0 : Opens Try.prog 36 (Kd.pair (Kd.int .i64) (Kd.pair (Kd.int .i64) (Kd.int .i64))) (fun b => ((Lit.int .i64 b.1).wf = true ∧ ((Lit.int .i64 b.2.1).wf = true ∧ (Lit.int .i64 b.2.2).wf = true))) := (opens_struct Try.underlying36 (by kernel_rfl) (fields_cons rfl (by kernel_rfl) (opens_int Try.underlying2) (fields_cons rfl (by kernel_rfl) (opens_int Try.underlying2) (fields_one rfl (by kernel_rfl) (opens_int Try.underlying2)))))
def Pure : Prop := ∀ (a0_0 : Int) (a0_1 : Int) (a0_2 : Int), (Lit.int .i64 a0_0).wf = true → (Lit.int .i64 a0_1).wf = true → (Lit.int .i64 a0_2).wf = true → laws_FnExactTileBox.f a0_0 a0_1 a0_2 = some true
end Go.Proofs.Ytiennogfdnlfiaa.PreFnExactTileBox
