/- The row of the statement FnExactCellBox, out of its plain law and the printed contract. -/
import Derived.Test.YtiennogfdnlfiaaRows
import Derived.Test.YtiennogfdnlfiaaQFnExactCellBoxx1
import Derived.Test.YtiennogfdnlfiaaPreFnExactCellBox
import Derived.Test.YtiennogfdnlfiaaPureFnExactCellBox
import Derived.WalkKit
import Derived.ProofKit
import Derived.OpenShut
import Derived.ShutString
import Derived.ChangeOld
import Derived.Below
import Derived.SizedLaws
import Derived.Carry
namespace Go.Proofs.Ytiennogfdnlfiaa.fnExactCellBox
open Go.ChangeShapes Go.WideShapes Go.ChangeAt Go.RowKit
open Go.ChangeMaps (open_string shut_string)
open Go.Proofs.Ytiennogfdnlfiaa.PFnExactCellBox Go.Proofs.Ytiennogfdnlfiaa.PreFnExactCellBox Go.Proofs.YtiennogfdnlfiaaW.PrintWords Go.Proofs.YtiennogfdnlfiaaW.PrintLast Go.Proofs.YtiennogfdnlfiaaW.Open
set_option linter.unusedVariables false
theorem own : ownKnob Try.prog.godebug = none := by kernel_rfl
theorem laidOut : laidOutB Try.prog = true := by kernel_rfl
set_option maxRecDepth 100000 in
theorem lifted (os : Os) (started : os.Started) (H : Type) (enc : TypeId × Value → H) :
    ReturnsInHanded {} Try.checked os 14 .any (Rows.fnExactCellBoxSpec.pre6 enc Try.prog Try.f14 Rows.fnExactCellBoxRow.domain false) (Rows.fnExactCellBoxSpec.post enc Try.prog Try.f14 false true false false) := by
  refine returnsInHanded_of_change_sized (C := Try.checked) own started (by kernel_rfl) Try.func14
    (ChangeSpec.witness6 (enc := enc) (C := Try.checked) false ⟨#[], #[.agg #[.int .u64 0, .int .i64 0]], []⟩ 8 (by kernel_rfl) (by kernel_rfl) (by kernel_rfl) (by kernel_rfl)) ?_
  intro W base args ds gs before hval0 hW hcnd hsz0 _
  have hval : ∀ (j : Nat) t v, Try.f14.params[j]? = some t → args[j]? = some v → Value.okWide Try.prog W .any base t v := hval0
  have hW' := hW
  obtain ⟨p, q, hA0, hV, rfl, hfz, hnd⟩ := hW
  have hA : DataW.TrodAll enc Try.prog W 0 (fun _ => true) true Try.f14.params.toList args.toList ds p := hA0
  rw [Try.params14] at hA hval
  obtain ⟨v0, vs0, d0, ds0, p0, q0, hargs, rfl, rfl, h0, r0⟩ := trodAll_cons hA
  obtain ⟨rfl, rfl, rfl⟩ := trodAll_nil r0
  obtain rfl : args = #[v0] := by cases args; simp_all
  obtain ⟨rfl, rfl⟩ := trodVars_none hV
  have k0 := h0
  have lt0 : ∀ x ∈ p0, x.block < W.heap.size := by obtain ⟨m, hm⟩ := k0; exact DataW.trod_lt m _ _ _ hm
  obtain ⟨b0, cs0, rfl, K0, w0⟩ := open_struct_value Try.underlying60 open0 (hval 0 60 v0 rfl rfl) h0
  obtain ⟨cs0⟩ := cs0
  obtain ⟨a0_0, a0_1⟩ := b0
  have hcs0 : cs0 = [.int .u64 a0_0, .int .i64 a0_1] := by
    obtain ⟨_, _, hK0, rfl, rfl⟩ := K0
    exact hK0
  subst hcs0
  clear K0
  obtain ⟨w0_0, w0_1⟩ := w0
  clear hA0 hval0 hsz0
  obtain ⟨k, hk⟩ := Pure.FnExactCellBox a0_0 a0_1 w0_0 w0_1
  refine (laws_FnExactCellBox.calls k a0_0 a0_1 true W hk).mono fun e W' ⟨he, bel0⟩ => ?_
  have bel : Below W.heap.size W W' := bel0
  subst he
  exact ⟨_, rfl, _, _, _, [], _, [], hW', trodAll_mk1 (shut_bool Try.underlying4 _), (trodAll_cons_mk (Below.trod laidOut (by kernel_rfl) (of_decide_eq_true (by kernel_rfl)) k0 bel lt0) trodAll_mk0), rfl, bel.frame _, fun h => by cases h⟩
theorem over : Rows.fnExactCellBoxRow.holds Try.pinned (OpenSpec.ofChange Rows.fnExactCellBoxSpec) :=
  OpenClaim.holds_of_wide 14 Try.f14 rfl rfl rfl rfl rfl rfl rfl ⟨rfl, rfl, rfl, rfl, rfl⟩ rfl rfl rfl rfl rfl (by kernel_rfl) Try.func14 (by kernel_rfl)
    (of_decide_eq_true (by kernel_rfl)) (by unfold Func.isWrapper; first | (rw [if_pos (by decide +kernel)]; kernel_rfl) | (rw [if_neg (by decide +kernel)]; exact ⟨rfl, rfl⟩))
    (fun os started H enc _ => lifted os started H enc)
theorem proved : Rows.FnExactCellBoxSaid := over
#print axioms proved
end Go.Proofs.Ytiennogfdnlfiaa.fnExactCellBox
namespace Go.Proofs.Ytiennogfdnlfiaa
theorem fnExactCellBox_holds : Rows.FnExactCellBoxSaid := fnExactCellBox.proved
end Go.Proofs.Ytiennogfdnlfiaa
