/- What the statement FnExactWordsOf asks of the program. -/
import Derived.Test.YtmmlpehfieojdaaRows
import Derived.WalkKit
import Derived.ProofKit
import Derived.OpenShut
namespace Go.Proofs.Ytmmlpehfieojdaa.fnExactWordsOf
open Go Go.ChangeShapes Go.WideShapes Go.ChangeAt Go.RowKit
set_option linter.unusedVariables false
theorem joined : joinedFacts Try.pinned.checked.prog 13 Try.f13 Rows.fnExactWordsOfSpec Rows.fnExactWordsOfRow = true := by kernel_rfl
end Go.Proofs.Ytmmlpehfieojdaa.fnExactWordsOf
