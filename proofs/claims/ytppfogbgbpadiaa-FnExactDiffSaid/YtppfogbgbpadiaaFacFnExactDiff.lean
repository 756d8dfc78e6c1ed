/- What the statement FnExactDiff asks of the program. -/
import Derived.Test.YtppfogbgbpadiaaRows
import Derived.WalkKit
import Derived.ProofKit
import Derived.OpenShut
namespace Go.Proofs.Ytppfogbgbpadiaa.fnExactDiff
open Go Go.ChangeShapes Go.WideShapes Go.ChangeAt Go.RowKit
set_option linter.unusedVariables false
theorem joined : joinedFacts Try.pinned.checked.prog 9 Try.f9 Rows.fnExactDiffSpec Rows.fnExactDiffRow = true := by kernel_rfl
end Go.Proofs.Ytppfogbgbpadiaa.fnExactDiff
