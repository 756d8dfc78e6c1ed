/- What the statement FnExactMapOk asks of the program. -/
import Derived.Test.YtofaiiobggnibaaRows
import Derived.WalkKit
import Derived.ProofKit
import Derived.OpenShut
namespace Go.Proofs.Ytofaiiobggnibaa.fnExactMapOk
open Go Go.ChangeShapes Go.WideShapes Go.ChangeAt Go.RowKit
set_option linter.unusedVariables false
theorem joined : joinedFacts Try.pinned.checked.prog 3 Try.f3 Rows.fnExactMapOkSpec Rows.fnExactMapOkRow = true := by kernel_rfl
end Go.Proofs.Ytofaiiobggnibaa.fnExactMapOk
