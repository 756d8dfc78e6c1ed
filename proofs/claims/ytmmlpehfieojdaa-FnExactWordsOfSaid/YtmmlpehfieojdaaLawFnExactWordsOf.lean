/- The statement FnExactWordsOf, out of its lifted law. -/
import Derived.Test.YtmmlpehfieojdaaLerFnExactWordsOf
import Derived.Test.YtmmlpehfieojdaaFacFnExactWordsOf
import Derived.WalkKit
import Derived.ProofKit
import Derived.OpenShut
import Derived.ShutString
import Derived.ChangeOld
import Derived.Below
import Derived.SizedLaws
import Derived.Carry
namespace Go.Proofs.Ytmmlpehfieojdaa.fnExactWordsOf
open Go Go.ChangeShapes Go.WideShapes Go.ChangeAt Go.RowKit
set_option linter.unusedVariables false
theorem over : Rows.fnExactWordsOfRow.holds Try.pinned (OpenSpec.ofChange Rows.fnExactWordsOfSpec) :=
  OpenClaim.holds_of_wide 13 Try.f13 rfl rfl rfl rfl rfl rfl rfl ⟨rfl, rfl, rfl, rfl, rfl⟩ rfl rfl rfl rfl rfl (by kernel_rfl) Try.func13 joined
    (of_decide_eq_true (by kernel_rfl)) (by unfold Func.isWrapper; first | (rw [if_pos (by decide +kernel)]; kernel_rfl) | (rw [if_neg (by decide +kernel)]; exact ⟨rfl, rfl⟩))
    (fun os started H enc _ => lifted os started H enc)
theorem proved : Rows.FnExactWordsOfSaid := over
#print axioms proved
end Go.Proofs.Ytmmlpehfieojdaa.fnExactWordsOf
namespace Go.Proofs.Ytmmlpehfieojdaa
theorem fnExactWordsOf_holds : Rows.FnExactWordsOfSaid := fnExactWordsOf.proved
end Go.Proofs.Ytmmlpehfieojdaa
