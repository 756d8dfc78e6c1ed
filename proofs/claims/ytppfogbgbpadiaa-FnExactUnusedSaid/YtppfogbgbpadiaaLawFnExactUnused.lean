/- The statement FnExactUnused, out of its lifted law. -/
import Derived.Test.YtppfogbgbpadiaaLerFnExactUnused
import Derived.Test.YtppfogbgbpadiaaFacFnExactUnused
import Derived.WalkKit
import Derived.ProofKit
import Derived.OpenShut
import Derived.ShutString
import Derived.ChangeOld
import Derived.Below
import Derived.SizedLaws
import Derived.Carry
namespace Go.Proofs.Ytppfogbgbpadiaa.fnExactUnused
open Go Go.ChangeShapes Go.WideShapes Go.ChangeAt Go.RowKit
set_option linter.unusedVariables false
theorem over : Rows.fnExactUnusedRow.holds Try.pinned (OpenSpec.ofChange Rows.fnExactUnusedSpec) :=
  OpenClaim.holds_of_wide 8 Try.f8 rfl rfl rfl rfl rfl rfl rfl ⟨rfl, rfl, rfl, rfl, rfl⟩ rfl rfl rfl rfl rfl (by kernel_rfl) Try.func8 joined
    (of_decide_eq_true (by kernel_rfl)) (by unfold Func.isWrapper; first | (rw [if_pos (by decide +kernel)]; kernel_rfl) | (rw [if_neg (by decide +kernel)]; exact ⟨rfl, rfl⟩))
    (fun os started H enc _ => lifted os started H enc)
theorem proved : Rows.FnExactUnusedSaid := over
#print axioms proved
end Go.Proofs.Ytppfogbgbpadiaa.fnExactUnused
namespace Go.Proofs.Ytppfogbgbpadiaa
theorem fnExactUnused_holds : Rows.FnExactUnusedSaid := fnExactUnused.proved
end Go.Proofs.Ytppfogbgbpadiaa
