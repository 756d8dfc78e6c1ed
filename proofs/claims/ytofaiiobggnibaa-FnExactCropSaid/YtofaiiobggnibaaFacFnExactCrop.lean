/- What the statement FnExactCrop asks of the program. -/
import Derived.Test.YtofaiiobggnibaaRows
import Derived.WalkKit
import Derived.ProofKit
import Derived.OpenShut
namespace Go.Proofs.Ytofaiiobggnibaa.fnExactCrop
open Go Go.ChangeShapes Go.WideShapes Go.ChangeAt Go.RowKit
set_option linter.unusedVariables false
theorem joined : joinedFacts Try.pinned.checked.prog 6 Try.f6 Rows.fnExactCropSpec Rows.fnExactCropRow = true := by kernel_rfl
end Go.Proofs.Ytofaiiobggnibaa.fnExactCrop
