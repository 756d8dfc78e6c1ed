/- The row of the statement FnExactHeading, out of its plain law and the printed contract. -/
import Derived.Test.YtcpgphmaibajlaaRows
import Derived.Test.YtcpgphmaibajlaaQFnExactHeadingx4
import Derived.Test.YtcpgphmaibajlaaPreFnExactHeading
import Derived.Test.YtcpgphmaibajlaaPureFnExactHeading
import Derived.WalkKit
import Derived.ProofKit
import Derived.OpenShut
import Derived.ShutString
import Derived.ChangeOld
import Derived.Below
import Derived.SizedLaws
import Derived.Carry
namespace Go.Proofs.Ytcpgphmaibajlaa.fnExactHeading
open Go.ChangeShapes Go.WideShapes Go.ChangeAt Go.RowKit
open Go.ChangeMaps (open_string shut_string)
open Go.Proofs.Ytcpgphmaibajlaa.PFnExactHeading Go.Proofs.Ytcpgphmaibajlaa.PreFnExactHeading Go.Proofs.YtcpgphmaibajlaaW.PrintWords Go.Proofs.YtcpgphmaibajlaaW.PrintLast Go.Proofs.YtcpgphmaibajlaaW.Open
set_option linter.unusedVariables false
theorem own : ownKnob Try.prog.godebug = none := by kernel_rfl
theorem laidOut : laidOutB Try.prog = true := by kernel_rfl
set_option maxRecDepth 100000 in
theorem lifted (os : Os) (started : os.Started) (H : Type) (enc : TypeId × Value → H) :
    ReturnsInHanded {} Try.checked os 3 .any (Rows.fnExactHeadingSpec.pre6 enc Try.prog Try.f3 Rows.fnExactHeadingRow.domain false) (Rows.fnExactHeadingSpec.post enc Try.prog Try.f3 false true false false) := by
  refine returnsInHanded_of_change_sized (C := Try.checked) own started (by kernel_rfl) Try.func3
    (ChangeSpec.witness6 (enc := enc) (C := Try.checked) false ⟨#[], #[.agg #[.int .i64 0, .int .i64 0], .agg #[.int .i64 0, .int .i64 0]], []⟩ 8 (by kernel_rfl) (by kernel_rfl) (by kernel_rfl) (by kernel_rfl)) ?_
  intro W base args ds gs before hval0 hW hcnd hsz0 _
  have hval : ∀ (j : Nat) t v, Try.f3.params[j]? = some t → args[j]? = some v → Value.okWide Try.prog W .any base t v := hval0
  have hW' := hW
  obtain ⟨p, q, hA0, hV, rfl, hfz, hnd⟩ := hW
  have hA : DataW.TrodAll enc Try.prog W 0 (fun _ => true) true Try.f3.params.toList args.toList ds p := hA0
  rw [Try.params3] at hA hval
  obtain ⟨v0, vs0, d0, ds0, p0, q0, hargs, rfl, rfl, h0, r0⟩ := trodAll_cons hA
  obtain ⟨v1, vs1, d1, ds1, p1, q1, rfl, rfl, rfl, h1, r1⟩ := trodAll_cons r0
  obtain ⟨rfl, rfl, rfl⟩ := trodAll_nil r1
  obtain rfl : args = #[v0, v1] := by cases args; simp_all
  obtain ⟨rfl, rfl⟩ := trodVars_none hV
  have k0 := h0
  have lt0 : ∀ x ∈ p0, x.block < W.heap.size := by obtain ⟨m, hm⟩ := k0; exact DataW.trod_lt m _ _ _ hm
  have k1 := h1
  have lt1 : ∀ x ∈ p1, x.block < W.heap.size := by obtain ⟨m, hm⟩ := k1; exact DataW.trod_lt m _ _ _ hm
  obtain ⟨b0, cs0, rfl, K0, w0⟩ := open_struct_value Try.underlying23 open0 (hval 0 23 v0 rfl rfl) h0
  obtain ⟨cs0⟩ := cs0
  obtain ⟨a0_0, a0_1⟩ := b0
  have hcs0 : cs0 = [.int .i64 a0_0, .int .i64 a0_1] := by
    obtain ⟨_, _, hK0, rfl, rfl⟩ := K0
    exact hK0
  subst hcs0
  clear K0
  obtain ⟨w0_0, w0_1⟩ := w0
  obtain ⟨b1, cs1, rfl, K1, w1⟩ := open_struct_value Try.underlying23 open1 (hval 1 23 v1 rfl rfl) h1
  obtain ⟨cs1⟩ := cs1
  obtain ⟨a1_0, a1_1⟩ := b1
  have hcs1 : cs1 = [.int .i64 a1_0, .int .i64 a1_1] := by
    obtain ⟨_, _, hK1, rfl, rfl⟩ := K1
    exact hK1
  subst hcs1
  clear K1
  obtain ⟨w1_0, w1_1⟩ := w1
  clear hA0 hval0 hsz0
  obtain ⟨k, hk⟩ := Pure.FnExactHeading a0_0 a0_1 a1_0 a1_1 w0_0 w0_1 w1_0 w1_1
  refine (laws_FnExactHeading.calls k a0_0 a0_1 a1_0 a1_1 true W hk).mono fun e W' ⟨he, bel0⟩ => ?_
  have bel : Below W.heap.size W W' := bel0
  subst he
  exact ⟨_, rfl, _, _, _, [], _, [], hW', trodAll_mk1 (shut_bool Try.underlying4 _), (trodAll_cons_mk (Below.trod laidOut (by kernel_rfl) (of_decide_eq_true (by kernel_rfl)) k0 bel lt0) (trodAll_cons_mk (Below.trod laidOut (by kernel_rfl) (of_decide_eq_true (by kernel_rfl)) k1 bel lt1) trodAll_mk0)), rfl, bel.frame _, fun h => by cases h⟩
theorem over : Rows.fnExactHeadingRow.holds Try.pinned (OpenSpec.ofChange Rows.fnExactHeadingSpec) :=
  OpenClaim.holds_of_wide 3 Try.f3 rfl rfl rfl rfl rfl rfl rfl ⟨rfl, rfl, rfl, rfl, rfl⟩ rfl rfl rfl rfl rfl (by kernel_rfl) Try.func3 (by kernel_rfl)
    (of_decide_eq_true (by kernel_rfl)) (by unfold Func.isWrapper; first | (rw [if_pos (by decide +kernel)]; kernel_rfl) | (rw [if_neg (by decide +kernel)]; exact ⟨rfl, rfl⟩))
    (fun os started H enc _ => lifted os started H enc)
theorem proved : Rows.FnExactHeadingSaid := over
#print axioms proved
end Go.Proofs.Ytcpgphmaibajlaa.fnExactHeading
namespace Go.Proofs.Ytcpgphmaibajlaa
theorem fnExactHeading_holds : Rows.FnExactHeadingSaid := fnExactHeading.proved
end Go.Proofs.Ytcpgphmaibajlaa
