/- What the arguments of the statement FnExactHeading are, opened off memory; the plain law. -/
import Derived.Test.YtcpgphmaibajlaaQFnExactHeadingx4
import Derived.Test.YtcpgphmaibajlaaWOpen
namespace Go.Proofs.Ytcpgphmaibajlaa.PreFnExactHeading
open Go.RowKit Go.Proofs.Ytcpgphmaibajlaa.PFnExactHeading Go.Proofs.YtcpgphmaibajlaaW.PrintWords Go.Proofs.YtcpgphmaibajlaaW.PrintLast Go.Proofs.YtcpgphmaibajlaaW.Open
set_option linter.unusedVariables false
set_option maxRecDepth 100000 in
/-- Parameter 0: what it is, opened. -/
theorem open0 : Opens Try.prog 23 (Kd.pair (Kd.int .i64) (Kd.int .i64)) (fun b => ((Lit.int .i64 b.1).wf = true ∧ (Lit.int .i64 b.2).wf = true)) := (opens_struct Try.underlying23 (by kernel_rfl) (fields_cons rfl (by kernel_rfl) (opens_int Try.underlying2) (fields_one rfl (by kernel_rfl) (opens_int Try.underlying2))))
set_option maxRecDepth 100000 in
/-- Parameter 1: what it is, opened. -/
theorem open1 : Opens Try.prog 23 (Kd.pair (Kd.int .i64) (Kd.int .i64)) (fun b => ((Lit.int .i64 b.1).wf = true ∧ (Lit.int .i64 b.2).wf = true)) := (opens_struct Try.underlying23 (by kernel_rfl) (fields_cons rfl (by kernel_rfl) (opens_int Try.underlying2) (fields_one rfl (by kernel_rfl) (opens_int Try.underlying2))))
def Pure : Prop := ∀ (a0_0 : Int) (a0_1 : Int) (a1_0 : Int) (a1_1 : Int), (Lit.int .i64 a0_0).wf = true → (Lit.int .i64 a0_1).wf = true → (Lit.int .i64 a1_0).wf = true → (Lit.int .i64 a1_1).wf = true → ∃ k, laws_FnExactHeading.f k a0_0 a0_1 a1_0 a1_1 = some true
end Go.Proofs.Ytcpgphmaibajlaa.PreFnExactHeading
