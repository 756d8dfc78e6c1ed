/- What the statement FnExactChangeBytes asks of the program. -/
import Derived.Test.YtofaiiobggnibaaRows
import Derived.WalkKit
import Derived.ProofKit
import Derived.OpenShut
namespace Go.Proofs.Ytofaiiobggnibaa.fnExactChangeBytes
open Go Go.ChangeShapes Go.WideShapes Go.ChangeAt Go.RowKit
set_option linter.unusedVariables false
theorem joined : joinedFacts Try.pinned.checked.prog 9 Try.f9 Rows.fnExactChangeBytesSpec Rows.fnExactChangeBytesRow = true := by kernel_rfl
end Go.Proofs.Ytofaiiobggnibaa.fnExactChangeBytes
