/- What the statement FnExactLate asks of the program. -/
import Derived.Test.YtmmlpehfieojdaaRows
import Derived.WalkKit
import Derived.ProofKit
import Derived.OpenShut
namespace Go.Proofs.Ytmmlpehfieojdaa.fnExactLate
open Go Go.ChangeShapes Go.WideShapes Go.ChangeAt Go.RowKit
set_option linter.unusedVariables false
theorem joined : joinedFacts Try.pinned.checked.prog 10 Try.f10 Rows.fnExactLateSpec Rows.fnExactLateRow = true := by kernel_rfl
end Go.Proofs.Ytmmlpehfieojdaa.fnExactLate
