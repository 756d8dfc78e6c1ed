/- What the arguments of the statement FnExactEdits are, opened off memory; the plain law. -/
import Derived.Test.YtiennogfdnlfiaaQFnExactEditsx3
import Derived.Test.YtiennogfdnlfiaaWOpen
namespace Go.Proofs.Ytiennogfdnlfiaa.PreFnExactEdits
open Go.RowKit Go.Proofs.Ytiennogfdnlfiaa.PFnExactEdits Go.Proofs.YtiennogfdnlfiaaW.PrintWords Go.Proofs.YtiennogfdnlfiaaW.PrintLast Go.Proofs.YtiennogfdnlfiaaW.Open
set_option linter.unusedVariables false
def Pure : Prop := ∀ (a0 : ByteArray) (a1 : ByteArray), a0.size ≤ 9223372036854775807 → a1.size ≤ 9223372036854775807 → ∃ k, laws_FnExactEdits.f k a0 a1 = some true
end Go.Proofs.Ytiennogfdnlfiaa.PreFnExactEdits
