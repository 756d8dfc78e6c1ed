/- The row of the statement FnExactTileBox, out of its plain law and the printed contract. -/
import Derived.Test.YtiennogfdnlfiaaRows
import Derived.Test.YtiennogfdnlfiaaQFnExactTileBoxx1
import Derived.Test.YtiennogfdnlfiaaPreFnExactTileBox
import Derived.Test.YtiennogfdnlfiaaPureFnExactTileBox
import Derived.WalkKit
import Derived.ProofKit
import Derived.OpenShut
import Derived.ShutString
import Derived.ChangeOld
import Derived.Below
import Derived.SizedLaws
import Derived.Carry
namespace Go.Proofs.Ytiennogfdnlfiaa.fnExactTileBox
open Go.ChangeShapes Go.WideShapes Go.ChangeAt Go.RowKit
open Go.ChangeMaps (open_string shut_string)
open Go.Proofs.Ytiennogfdnlfiaa.PFnExactTileBox Go.Proofs.Ytiennogfdnlfiaa.PreFnExactTileBox Go.Proofs.YtiennogfdnlfiaaW.PrintWords Go.Proofs.YtiennogfdnlfiaaW.PrintLast Go.Proofs.YtiennogfdnlfiaaW.Open
set_option linter.unusedVariables false
theorem own : ownKnob Try.prog.godebug = none := by kernel_rfl
theorem laidOut : laidOutB Try.prog = true := by kernel_rfl
set_option maxRecDepth 100000 in
theorem lifted (os : Os) (started : os.Started) (H : Type) (enc : TypeId × Value → H) :
    ReturnsInHanded {} Try.checked os 11 .any (Rows.fnExactTileBoxSpec.pre6 enc Try.prog Try.f11 Rows.fnExactTileBoxRow.domain false) (Rows.fnExactTileBoxSpec.post enc Try.prog Try.f11 false true false false) := by
  refine returnsInHanded_of_change_sized (C := Try.checked) own started (by kernel_rfl) Try.func11
    (ChangeSpec.witness6 (enc := enc) (C := Try.checked) false ⟨#[], #[.agg #[.int .i64 0, .int .i64 0, .int .i64 0]], []⟩ 8 (by kernel_rfl) (by kernel_rfl) (by kernel_rfl) (by kernel_rfl)) ?_
  intro W base args ds gs before hval0 hW hcnd hsz0 _
  have hval : ∀ (j : Nat) t v, Try.f11.params[j]? = some t → args[j]? = some v → Value.okWide Try.prog W .any base t v := hval0
  have hW' := hW
  obtain ⟨p, q, hA0, hV, rfl, hfz, hnd⟩ := hW
  have hA : DataW.TrodAll enc Try.prog W 0 (fun _ => true) true Try.f11.params.toList args.toList ds p := hA0
  rw [Try.params11] at hA hval
  obtain ⟨v0, vs0, d0, ds0, p0, q0, hargs, rfl, rfl, h0, r0⟩ := trodAll_cons hA
  obtain ⟨rfl, rfl, rfl⟩ := trodAll_nil r0
  obtain rfl : args = #[v0] := by cases args; simp_all
  obtain ⟨rfl, rfl⟩ := trodVars_none hV
  have k0 := h0
  have lt0 : ∀ x ∈ p0, x.block < W.heap.size := by obtain ⟨m, hm⟩ := k0; exact DataW.trod_lt m _ _ _ hm
  obtain ⟨b0, cs0, rfl, K0, w0⟩ := open_struct_value Try.underlying36 open0 (hval 0 36 v0 rfl rfl) h0
  obtain ⟨cs0⟩ := cs0
  obtain ⟨a0_0, ⟨a0_1, a0_2⟩⟩ := b0
  have hcs0 : cs0 = [.int .i64 a0_0, .int .i64 a0_1, .int .i64 a0_2] := by
    obtain ⟨_, _, hK0, rfl, ⟨_, _, rfl, rfl, rfl⟩⟩ := K0
    exact hK0
  subst hcs0
  clear K0
  obtain ⟨w0_0, ⟨w0_1, w0_2⟩⟩ := w0
  clear hA0 hval0 hsz0
  have hk := Pure.FnExactTileBox a0_0 a0_1 a0_2 w0_0 w0_1 w0_2
  refine (laws_FnExactTileBox.calls a0_0 a0_1 a0_2 true W hk).mono fun e W' ⟨he, bel0⟩ => ?_
  have bel : Below W.heap.size W W' := bel0
  subst he
  exact ⟨_, rfl, _, _, _, [], _, [], hW', trodAll_mk1 (shut_bool Try.underlying4 _), (trodAll_cons_mk (Below.trod laidOut (by kernel_rfl) (of_decide_eq_true (by kernel_rfl)) k0 bel lt0) trodAll_mk0), rfl, bel.frame _, fun h => by cases h⟩
theorem over : Rows.fnExactTileBoxRow.holds Try.pinned (OpenSpec.ofChange Rows.fnExactTileBoxSpec) :=
  OpenClaim.holds_of_wide 11 Try.f11 rfl rfl rfl rfl rfl rfl rfl ⟨rfl, rfl, rfl, rfl, rfl⟩ rfl rfl rfl rfl rfl (by kernel_rfl) Try.func11 (by kernel_rfl)
    (of_decide_eq_true (by kernel_rfl)) (by unfold Func.isWrapper; first | (rw [if_pos (by decide +kernel)]; kernel_rfl) | (rw [if_neg (by decide +kernel)]; exact ⟨rfl, rfl⟩))
    (fun os started H enc _ => lifted os started H enc)
theorem proved : Rows.FnExactTileBoxSaid := over
#print axioms proved
end Go.Proofs.Ytiennogfdnlfiaa.fnExactTileBox
namespace Go.Proofs.Ytiennogfdnlfiaa
theorem fnExactTileBox_holds : Rows.FnExactTileBoxSaid := fnExactTileBox.proved
end Go.Proofs.Ytiennogfdnlfiaa
