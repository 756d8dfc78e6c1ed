/- The statement FnExactEarliest, out of its lifted law. -/
import Derived.Test.YtmmlpehfieojdaaLerFnExactEarliest
import Derived.Test.YtmmlpehfieojdaaFacFnExactEarliest
import Derived.WalkKit
import Derived.ProofKit
import Derived.OpenShut
import Derived.ShutString
import Derived.ChangeOld
import Derived.Below
import Derived.SizedLaws
import Derived.Carry
namespace Go.Proofs.Ytmmlpehfieojdaa.fnExactEarliest
open Go Go.ChangeShapes Go.WideShapes Go.ChangeAt Go.RowKit
set_option linter.unusedVariables false
theorem over : Rows.fnExactEarliestRow.holds Try.pinned (OpenSpec.ofChange Rows.fnExactEarliestSpec) :=
  OpenClaim.holds_of_wide 11 Try.f11 rfl rfl rfl rfl rfl rfl rfl ⟨rfl, rfl, rfl, rfl, rfl⟩ rfl rfl rfl rfl rfl (by kernel_rfl) Try.func11 joined
    (of_decide_eq_true (by kernel_rfl)) (by unfold Func.isWrapper; first | (rw [if_pos (by decide +kernel)]; kernel_rfl) | (rw [if_neg (by decide +kernel)]; exact ⟨rfl, rfl⟩))
    (fun os started H enc _ => lifted os started H enc)
theorem proved : Rows.FnExactEarliestSaid := over
#print axioms proved
end Go.Proofs.Ytmmlpehfieojdaa.fnExactEarliest
namespace Go.Proofs.Ytmmlpehfieojdaa
theorem fnExactEarliest_holds : Rows.FnExactEarliestSaid := fnExactEarliest.proved
end Go.Proofs.Ytmmlpehfieojdaa
