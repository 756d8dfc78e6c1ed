/- What the statement FnExactUsersOf asks of the program. -/
import Derived.Test.YtofaiiobggnibaaRows
import Derived.WalkKit
import Derived.ProofKit
import Derived.OpenShut
namespace Go.Proofs.Ytofaiiobggnibaa.fnExactUsersOf
open Go Go.ChangeShapes Go.WideShapes Go.ChangeAt Go.RowKit
set_option linter.unusedVariables false
theorem joined : joinedFacts Try.pinned.checked.prog 4 Try.f4 Rows.fnExactUsersOfSpec Rows.fnExactUsersOfRow = true := by kernel_rfl
end Go.Proofs.Ytofaiiobggnibaa.fnExactUsersOf
