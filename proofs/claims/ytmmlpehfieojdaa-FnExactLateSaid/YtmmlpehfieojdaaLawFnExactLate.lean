/- The statement FnExactLate, out of its lifted law. -/
import Derived.Test.YtmmlpehfieojdaaLerFnExactLate
import Derived.Test.YtmmlpehfieojdaaFacFnExactLate
import Derived.WalkKit
import Derived.ProofKit
import Derived.OpenShut
import Derived.ShutString
import Derived.ChangeOld
import Derived.Below
import Derived.SizedLaws
import Derived.Carry
namespace Go.Proofs.Ytmmlpehfieojdaa.fnExactLate
open Go Go.ChangeShapes Go.WideShapes Go.ChangeAt Go.RowKit
set_option linter.unusedVariables false
theorem over : Rows.fnExactLateRow.holds Try.pinned (OpenSpec.ofChange Rows.fnExactLateSpec) :=
  OpenClaim.holds_of_wide 10 Try.f10 rfl rfl rfl rfl rfl rfl rfl ⟨rfl, rfl, rfl, rfl, rfl⟩ rfl rfl rfl rfl rfl (by kernel_rfl) Try.func10 joined
    (of_decide_eq_true (by kernel_rfl)) (by unfold Func.isWrapper; first | (rw [if_pos (by decide +kernel)]; kernel_rfl) | (rw [if_neg (by decide +kernel)]; exact ⟨rfl, rfl⟩))
    (fun os started H enc _ => lifted os started H enc)
theorem proved : Rows.FnExactLateSaid := over
#print axioms proved
end Go.Proofs.Ytmmlpehfieojdaa.fnExactLate
namespace Go.Proofs.Ytmmlpehfieojdaa
theorem fnExactLate_holds : Rows.FnExactLateSaid := fnExactLate.proved
end Go.Proofs.Ytmmlpehfieojdaa
