/- The statement FnExactDiff, out of its lifted law. -/
import Derived.Test.YtppfogbgbpadiaaLerFnExactDiff
import Derived.Test.YtppfogbgbpadiaaFacFnExactDiff
import Derived.WalkKit
import Derived.ProofKit
import Derived.OpenShut
import Derived.ShutString
import Derived.ChangeOld
import Derived.Below
import Derived.SizedLaws
import Derived.Carry
namespace Go.Proofs.Ytppfogbgbpadiaa.fnExactDiff
open Go Go.ChangeShapes Go.WideShapes Go.ChangeAt Go.RowKit
set_option linter.unusedVariables false
theorem over : Rows.fnExactDiffRow.holds Try.pinned (OpenSpec.ofChange Rows.fnExactDiffSpec) :=
  OpenClaim.holds_of_wide 9 Try.f9 rfl rfl rfl rfl rfl rfl rfl ⟨rfl, rfl, rfl, rfl, rfl⟩ rfl rfl rfl rfl rfl (by kernel_rfl) Try.func9 joined
    (of_decide_eq_true (by kernel_rfl)) (by unfold Func.isWrapper; first | (rw [if_pos (by decide +kernel)]; kernel_rfl) | (rw [if_neg (by decide +kernel)]; exact ⟨rfl, rfl⟩))
    (fun os started H enc _ => lifted os started H enc)
theorem proved : Rows.FnExactDiffSaid := over
#print axioms proved
end Go.Proofs.Ytppfogbgbpadiaa.fnExactDiff
namespace Go.Proofs.Ytppfogbgbpadiaa
theorem fnExactDiff_holds : Rows.FnExactDiffSaid := fnExactDiff.proved
end Go.Proofs.Ytppfogbgbpadiaa
