/- What the statement FnExactNesting asks of the program. -/
import Derived.Test.YtolejglfohagnaaRows
import Derived.WalkKit
import Derived.ProofKit
import Derived.OpenShut
namespace Go.Proofs.Ytolejglfohagnaa.fnExactNesting
open Go Go.ChangeShapes Go.WideShapes Go.ChangeAt Go.RowKit
set_option linter.unusedVariables false
theorem joined : joinedFacts Try.pinned.checked.prog 12 Try.f12 Rows.fnExactNestingSpec Rows.fnExactNestingRow = true := by kernel_rfl
end Go.Proofs.Ytolejglfohagnaa.fnExactNesting
