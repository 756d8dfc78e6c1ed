/- The statement FnExactCrop, out of its lifted law. -/
import Derived.Test.YtofaiiobggnibaaLerFnExactCrop
import Derived.Test.YtofaiiobggnibaaFacFnExactCrop
import Derived.WalkKit
import Derived.ProofKit
import Derived.OpenShut
import Derived.ShutString
import Derived.ChangeOld
import Derived.Below
import Derived.SizedLaws
import Derived.Carry
namespace Go.Proofs.Ytofaiiobggnibaa.fnExactCrop
open Go Go.ChangeShapes Go.WideShapes Go.ChangeAt Go.RowKit
set_option linter.unusedVariables false
theorem over : Rows.fnExactCropRow.holds Try.pinned (OpenSpec.ofChange Rows.fnExactCropSpec) :=
  OpenClaim.holds_of_wide 6 Try.f6 rfl rfl rfl rfl rfl rfl rfl ⟨rfl, rfl, rfl, rfl, rfl⟩ rfl rfl rfl rfl rfl (by kernel_rfl) Try.func6 joined
    (of_decide_eq_true (by kernel_rfl)) (by unfold Func.isWrapper; first | (rw [if_pos (by decide +kernel)]; kernel_rfl) | (rw [if_neg (by decide +kernel)]; exact ⟨rfl, rfl⟩))
    (fun os started H enc _ => lifted os started H enc)
theorem proved : Rows.FnExactCropSaid := over
#print axioms proved
end Go.Proofs.Ytofaiiobggnibaa.fnExactCrop
namespace Go.Proofs.Ytofaiiobggnibaa
theorem fnExactCrop_holds : Rows.FnExactCropSaid := fnExactCrop.proved
end Go.Proofs.Ytofaiiobggnibaa
