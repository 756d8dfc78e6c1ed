/- The statement FnExactNesting, out of its lifted law. -/
import Derived.Test.YtolejglfohagnaaLerFnExactNesting
import Derived.Test.YtolejglfohagnaaFacFnExactNesting
import Derived.WalkKit
import Derived.ProofKit
import Derived.OpenShut
import Derived.ShutString
import Derived.ChangeOld
import Derived.Below
import Derived.SizedLaws
import Derived.Carry
namespace Go.Proofs.Ytolejglfohagnaa.fnExactNesting
open Go Go.ChangeShapes Go.WideShapes Go.ChangeAt Go.RowKit
set_option linter.unusedVariables false
theorem over : Rows.fnExactNestingRow.holds Try.pinned (OpenSpec.ofChange Rows.fnExactNestingSpec) :=
  OpenClaim.holds_of_wide 12 Try.f12 rfl rfl rfl rfl rfl rfl rfl ⟨rfl, rfl, rfl, rfl, rfl⟩ rfl rfl rfl rfl rfl (by kernel_rfl) Try.func12 joined
    (of_decide_eq_true (by kernel_rfl)) (by unfold Func.isWrapper; first | (rw [if_pos (by decide +kernel)]; kernel_rfl) | (rw [if_neg (by decide +kernel)]; exact ⟨rfl, rfl⟩))
    (fun os started H enc _ => lifted os started H enc)
theorem proved : Rows.FnExactNestingSaid := over
#print axioms proved
end Go.Proofs.Ytolejglfohagnaa.fnExactNesting
namespace Go.Proofs.Ytolejglfohagnaa
theorem fnExactNesting_holds : Rows.FnExactNestingSaid := fnExactNesting.proved
end Go.Proofs.Ytolejglfohagnaa
