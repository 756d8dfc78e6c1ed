/- What the statement FnExactEarliest asks of the program. -/
import Derived.Test.YtmmlpehfieojdaaRows
import Derived.WalkKit
import Derived.ProofKit
import Derived.OpenShut
namespace Go.Proofs.Ytmmlpehfieojdaa.fnExactEarliest
open Go Go.ChangeShapes Go.WideShapes Go.ChangeAt Go.RowKit
set_option linter.unusedVariables false
theorem joined : joinedFacts Try.pinned.checked.prog 11 Try.f11 Rows.fnExactEarliestSpec Rows.fnExactEarliestRow = true := by kernel_rfl
end Go.Proofs.Ytmmlpehfieojdaa.fnExactEarliest
