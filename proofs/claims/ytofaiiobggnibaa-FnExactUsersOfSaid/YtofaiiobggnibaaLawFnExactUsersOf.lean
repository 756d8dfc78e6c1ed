/- The statement FnExactUsersOf, out of its lifted law. -/
import Derived.Test.YtofaiiobggnibaaLerFnExactUsersOf
import Derived.Test.YtofaiiobggnibaaFacFnExactUsersOf
import Derived.WalkKit
import Derived.ProofKit
import Derived.OpenShut
import Derived.ShutString
import Derived.ChangeOld
import Derived.Below
import Derived.SizedLaws
import Derived.Carry
namespace Go.Proofs.Ytofaiiobggnibaa.fnExactUsersOf
open Go Go.ChangeShapes Go.WideShapes Go.ChangeAt Go.RowKit
set_option linter.unusedVariables false
theorem over : Rows.fnExactUsersOfRow.holds Try.pinned (OpenSpec.ofChange Rows.fnExactUsersOfSpec) :=
  OpenClaim.holds_of_wide 4 Try.f4 rfl rfl rfl rfl rfl rfl rfl ⟨rfl, rfl, rfl, rfl, rfl⟩ rfl rfl rfl rfl rfl (by kernel_rfl) Try.func4 joined
    (of_decide_eq_true (by kernel_rfl)) (by unfold Func.isWrapper; first | (rw [if_pos (by decide +kernel)]; kernel_rfl) | (rw [if_neg (by decide +kernel)]; exact ⟨rfl, rfl⟩))
    (fun os started H enc _ => lifted os started H enc)
theorem proved : Rows.FnExactUsersOfSaid := over
#print axioms proved
end Go.Proofs.Ytofaiiobggnibaa.fnExactUsersOf
namespace Go.Proofs.Ytofaiiobggnibaa
theorem fnExactUsersOf_holds : Rows.FnExactUsersOfSaid := fnExactUsersOf.proved
end Go.Proofs.Ytofaiiobggnibaa
