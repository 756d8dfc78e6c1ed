/- What the statement FnExactUnused asks of the program. -/
import Derived.Test.YtppfogbgbpadiaaRows
import Derived.WalkKit
import Derived.ProofKit
import Derived.OpenShut
namespace Go.Proofs.Ytppfogbgbpadiaa.fnExactUnused
open Go Go.ChangeShapes Go.WideShapes Go.ChangeAt Go.RowKit
set_option linter.unusedVariables false
theorem joined : joinedFacts Try.pinned.checked.prog 8 Try.f8 Rows.fnExactUnusedSpec Rows.fnExactUnusedRow = true := by kernel_rfl
end Go.Proofs.Ytppfogbgbpadiaa.fnExactUnused
