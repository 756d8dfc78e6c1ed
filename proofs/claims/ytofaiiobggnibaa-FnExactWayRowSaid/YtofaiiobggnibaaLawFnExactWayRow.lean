/- The statement FnExactWayRow, out of its lifted law. -/
import Derived.Test.YtofaiiobggnibaaLerFnExactWayRow
import Derived.Test.YtofaiiobggnibaaFacFnExactWayRow
import Derived.WalkKit
import Derived.ProofKit
import Derived.OpenShut
import Derived.ShutString
import Derived.ChangeOld
import Derived.Below
import Derived.SizedLaws
import Derived.Carry
namespace Go.Proofs.Ytofaiiobggnibaa.fnExactWayRow
open Go Go.ChangeShapes Go.WideShapes Go.ChangeAt Go.RowKit
set_option linter.unusedVariables false
theorem over : Rows.fnExactWayRowRow.holds Try.pinned (OpenSpec.ofChange Rows.fnExactWayRowSpec) :=
  OpenClaim.holds_of_wide 5 Try.f5 rfl rfl rfl rfl rfl rfl rfl ⟨rfl, rfl, rfl, rfl, rfl⟩ rfl rfl rfl rfl rfl (by kernel_rfl) Try.func5 joined
    (of_decide_eq_true (by kernel_rfl)) (by unfold Func.isWrapper; first | (rw [if_pos (by decide +kernel)]; kernel_rfl) | (rw [if_neg (by decide +kernel)]; exact ⟨rfl, rfl⟩))
    (fun os started H enc _ => lifted os started H enc)
theorem proved : Rows.FnExactWayRowSaid := over
#print axioms proved
end Go.Proofs.Ytofaiiobggnibaa.fnExactWayRow
namespace Go.Proofs.Ytofaiiobggnibaa
theorem fnExactWayRow_holds : Rows.FnExactWayRowSaid := fnExactWayRow.proved
end Go.Proofs.Ytofaiiobggnibaa
