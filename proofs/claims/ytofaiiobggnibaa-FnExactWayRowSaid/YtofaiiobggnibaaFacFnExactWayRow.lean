/- What the statement FnExactWayRow asks of the program. -/
import Derived.Test.YtofaiiobggnibaaRows
import Derived.WalkKit
import Derived.ProofKit
import Derived.OpenShut
namespace Go.Proofs.Ytofaiiobggnibaa.fnExactWayRow
open Go Go.ChangeShapes Go.WideShapes Go.ChangeAt Go.RowKit
set_option linter.unusedVariables false
theorem joined : joinedFacts Try.pinned.checked.prog 5 Try.f5 Rows.fnExactWayRowSpec Rows.fnExactWayRowRow = true := by kernel_rfl
end Go.Proofs.Ytofaiiobggnibaa.fnExactWayRow
