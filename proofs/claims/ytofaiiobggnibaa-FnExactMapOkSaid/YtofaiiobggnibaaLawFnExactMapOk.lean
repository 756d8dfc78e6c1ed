/- The statement FnExactMapOk, out of its lifted law. -/
import Derived.Test.YtofaiiobggnibaaLerFnExactMapOk
import Derived.Test.YtofaiiobggnibaaFacFnExactMapOk
import Derived.WalkKit
import Derived.ProofKit
import Derived.OpenShut
import Derived.ShutString
import Derived.ChangeOld
import Derived.Below
import Derived.SizedLaws
import Derived.Carry
namespace Go.Proofs.Ytofaiiobggnibaa.fnExactMapOk
open Go Go.ChangeShapes Go.WideShapes Go.ChangeAt Go.RowKit
set_option linter.unusedVariables false
theorem over : Rows.fnExactMapOkRow.holds Try.pinned (OpenSpec.ofChange Rows.fnExactMapOkSpec) :=
  OpenClaim.holds_of_wide 3 Try.f3 rfl rfl rfl rfl rfl rfl rfl ⟨rfl, rfl, rfl, rfl, rfl⟩ rfl rfl rfl rfl rfl (by kernel_rfl) Try.func3 joined
    (of_decide_eq_true (by kernel_rfl)) (by unfold Func.isWrapper; first | (rw [if_pos (by decide +kernel)]; kernel_rfl) | (rw [if_neg (by decide +kernel)]; exact ⟨rfl, rfl⟩))
    (fun os started H enc _ => lifted os started H enc)
theorem proved : Rows.FnExactMapOkSaid := over
#print axioms proved
end Go.Proofs.Ytofaiiobggnibaa.fnExactMapOk
namespace Go.Proofs.Ytofaiiobggnibaa
theorem fnExactMapOk_holds : Rows.FnExactMapOkSaid := fnExactMapOk.proved
end Go.Proofs.Ytofaiiobggnibaa
