/- The statement FnExactChangeBytes, out of its lifted law. -/
import Derived.Test.YtofaiiobggnibaaLerFnExactChangeBytes
import Derived.Test.YtofaiiobggnibaaFacFnExactChangeBytes
import Derived.WalkKit
import Derived.ProofKit
import Derived.OpenShut
import Derived.ShutString
import Derived.ChangeOld
import Derived.Below
import Derived.SizedLaws
import Derived.Carry
namespace Go.Proofs.Ytofaiiobggnibaa.fnExactChangeBytes
open Go Go.ChangeShapes Go.WideShapes Go.ChangeAt Go.RowKit
set_option linter.unusedVariables false
theorem over : Rows.fnExactChangeBytesRow.holds Try.pinned (OpenSpec.ofChange Rows.fnExactChangeBytesSpec) :=
  OpenClaim.holds_of_wide 9 Try.f9 rfl rfl rfl rfl rfl rfl rfl ⟨rfl, rfl, rfl, rfl, rfl⟩ rfl rfl rfl rfl rfl (by kernel_rfl) Try.func9 joined
    (of_decide_eq_true (by kernel_rfl)) (by unfold Func.isWrapper; first | (rw [if_pos (by decide +kernel)]; kernel_rfl) | (rw [if_neg (by decide +kernel)]; exact ⟨rfl, rfl⟩))
    (fun os started H enc _ => lifted os started H enc)
theorem proved : Rows.FnExactChangeBytesSaid := over
#print axioms proved
end Go.Proofs.Ytofaiiobggnibaa.fnExactChangeBytes
namespace Go.Proofs.Ytofaiiobggnibaa
theorem fnExactChangeBytes_holds : Rows.FnExactChangeBytesSaid := fnExactChangeBytes.proved
end Go.Proofs.Ytofaiiobggnibaa
