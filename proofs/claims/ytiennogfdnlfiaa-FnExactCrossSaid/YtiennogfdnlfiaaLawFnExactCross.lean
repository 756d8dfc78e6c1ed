/- The row of the statement FnExactCross, out of its plain law and the printed contract. -/
import Derived.Test.YtiennogfdnlfiaaRows
import Derived.Test.YtiennogfdnlfiaaPFnExactCrossx6
import Derived.Test.YtiennogfdnlfiaaPreFnExactCross
import Derived.Test.YtiennogfdnlfiaaPureFnExactCross
import Derived.WalkKit
import Derived.ProofKit
import Derived.OpenShut
import Derived.ShutString
import Derived.ChangeOld
import Derived.Below
import Derived.SizedLaws
import Derived.Carry
namespace Go.Proofs.Ytiennogfdnlfiaa.fnExactCross
open Go.ChangeShapes Go.WideShapes Go.ChangeAt Go.RowKit
open Go.ChangeMaps (open_string shut_string)
open Go.Proofs.Ytiennogfdnlfiaa.PFnExactCross Go.Proofs.Ytiennogfdnlfiaa.PreFnExactCross Go.Proofs.YtiennogfdnlfiaaW.PrintWords Go.Proofs.YtiennogfdnlfiaaW.PrintLast Go.Proofs.YtiennogfdnlfiaaW.Open
set_option linter.unusedVariables false
theorem own : ownKnob Try.prog.godebug = none := by kernel_rfl
theorem laidOut : laidOutB Try.prog = true := by kernel_rfl
set_option maxRecDepth 100000 in
theorem lifted (os : Os) (started : os.Started) (H : Type) (enc : TypeId × Value → H) :
    ReturnsInHanded {} Try.checked os 13 .any (Rows.fnExactCrossSpec.pre6 enc Try.prog Try.f13 Rows.fnExactCrossRow.domain false) (Rows.fnExactCrossSpec.post enc Try.prog Try.f13 false true false false) := by
  refine returnsInHanded_of_change_sized (C := Try.checked) own started (by kernel_rfl) Try.func13
    (ChangeSpec.witness6 (enc := enc) (C := Try.checked) false ⟨#[], #[.agg #[.int .i64 0, .int .i64 0], .agg #[.int .i64 0, .int .i64 0], .agg #[.int .i64 0, .int .i64 0], .agg #[.int .i64 0, .int .i64 0]], []⟩ 8 (by kernel_rfl) (by kernel_rfl) (by kernel_rfl) (by kernel_rfl)) ?_
  intro W base args ds gs before hval0 hW hcnd hsz0 _
  have hval : ∀ (j : Nat) t v, Try.f13.params[j]? = some t → args[j]? = some v → Value.okWide Try.prog W .any base t v := hval0
  have hW' := hW
  obtain ⟨p, q, hA0, hV, rfl, hfz, hnd⟩ := hW
  have hA : DataW.TrodAll enc Try.prog W 0 (fun _ => true) true Try.f13.params.toList args.toList ds p := hA0
  rw [Try.params13] at hA hval
  obtain ⟨v0, vs0, d0, ds0, p0, q0, hargs, rfl, rfl, h0, r0⟩ := trodAll_cons hA
  obtain ⟨v1, vs1, d1, ds1, p1, q1, rfl, rfl, rfl, h1, r1⟩ := trodAll_cons r0
  obtain ⟨v2, vs2, d2, ds2, p2, q2, rfl, rfl, rfl, h2, r2⟩ := trodAll_cons r1
  obtain ⟨v3, vs3, d3, ds3, p3, q3, rfl, rfl, rfl, h3, r3⟩ := trodAll_cons r2
  obtain ⟨rfl, rfl, rfl⟩ := trodAll_nil r3
  obtain rfl : args = #[v0, v1, v2, v3] := by cases args; simp_all
  obtain ⟨rfl, rfl⟩ := trodVars_none hV
  have k0 := h0
  have lt0 : ∀ x ∈ p0, x.block < W.heap.size := by obtain ⟨m, hm⟩ := k0; exact DataW.trod_lt m _ _ _ hm
  have k1 := h1
  have lt1 : ∀ x ∈ p1, x.block < W.heap.size := by obtain ⟨m, hm⟩ := k1; exact DataW.trod_lt m _ _ _ hm
  have k2 := h2
  have lt2 : ∀ x ∈ p2, x.block < W.heap.size := by obtain ⟨m, hm⟩ := k2; exact DataW.trod_lt m _ _ _ hm
  have k3 := h3
  have lt3 : ∀ x ∈ p3, x.block < W.heap.size := by obtain ⟨m, hm⟩ := k3; exact DataW.trod_lt m _ _ _ hm
  obtain ⟨b0, cs0, rfl, K0, w0⟩ := open_struct_value Try.underlying24 open0 (hval 0 24 v0 rfl rfl) h0
  obtain ⟨cs0⟩ := cs0
  obtain ⟨a0_0, a0_1⟩ := b0
  have hcs0 : cs0 = [.int .i64 a0_0, .int .i64 a0_1] := by
    obtain ⟨_, _, hK0, rfl, rfl⟩ := K0
    exact hK0
  subst hcs0
  clear K0
  obtain ⟨w0_0, w0_1⟩ := w0
  obtain ⟨b1, cs1, rfl, K1, w1⟩ := open_struct_value Try.underlying24 open1 (hval 1 24 v1 rfl rfl) h1
  obtain ⟨cs1⟩ := cs1
  obtain ⟨a1_0, a1_1⟩ := b1
  have hcs1 : cs1 = [.int .i64 a1_0, .int .i64 a1_1] := by
    obtain ⟨_, _, hK1, rfl, rfl⟩ := K1
    exact hK1
  subst hcs1
  clear K1
  obtain ⟨w1_0, w1_1⟩ := w1
  obtain ⟨b2, cs2, rfl, K2, w2⟩ := open_struct_value Try.underlying24 open2 (hval 2 24 v2 rfl rfl) h2
  obtain ⟨cs2⟩ := cs2
  obtain ⟨a2_0, a2_1⟩ := b2
  have hcs2 : cs2 = [.int .i64 a2_0, .int .i64 a2_1] := by
    obtain ⟨_, _, hK2, rfl, rfl⟩ := K2
    exact hK2
  subst hcs2
  clear K2
  obtain ⟨w2_0, w2_1⟩ := w2
  obtain ⟨b3, cs3, rfl, K3, w3⟩ := open_struct_value Try.underlying24 open3 (hval 3 24 v3 rfl rfl) h3
  obtain ⟨cs3⟩ := cs3
  obtain ⟨a3_0, a3_1⟩ := b3
  have hcs3 : cs3 = [.int .i64 a3_0, .int .i64 a3_1] := by
    obtain ⟨_, _, hK3, rfl, rfl⟩ := K3
    exact hK3
  subst hcs3
  clear K3
  obtain ⟨w3_0, w3_1⟩ := w3
  clear hA0 hval0 hsz0
  obtain ⟨k, hk⟩ := Pure.FnExactCross a0_0 a0_1 a1_0 a1_1 a2_0 a2_1 a3_0 a3_1 w0_0 w0_1 w1_0 w1_1 w2_0 w2_1 w3_0 w3_1
  refine (laws_FnExactCross.calls k a0_0 a0_1 a1_0 a1_1 a2_0 a2_1 a3_0 a3_1 true W hk).mono fun e W' ⟨he, bel0⟩ => ?_
  have bel : Below W.heap.size W W' := bel0
  subst he
  exact ⟨_, rfl, _, _, _, [], _, [], hW', trodAll_mk1 (shut_bool Try.underlying4 _), (trodAll_cons_mk (Below.trod laidOut (by kernel_rfl) (of_decide_eq_true (by kernel_rfl)) k0 bel lt0) (trodAll_cons_mk (Below.trod laidOut (by kernel_rfl) (of_decide_eq_true (by kernel_rfl)) k1 bel lt1) (trodAll_cons_mk (Below.trod laidOut (by kernel_rfl) (of_decide_eq_true (by kernel_rfl)) k2 bel lt2) (trodAll_cons_mk (Below.trod laidOut (by kernel_rfl) (of_decide_eq_true (by kernel_rfl)) k3 bel lt3) trodAll_mk0)))), rfl, bel.frame _, fun h => by cases h⟩
theorem over : Rows.fnExactCrossRow.holds Try.pinned (OpenSpec.ofChange Rows.fnExactCrossSpec) :=
  OpenClaim.holds_of_wide 13 Try.f13 rfl rfl rfl rfl rfl rfl rfl ⟨rfl, rfl, rfl, rfl, rfl⟩ rfl rfl rfl rfl rfl (by kernel_rfl) Try.func13 (by kernel_rfl)
    (of_decide_eq_true (by kernel_rfl)) (by unfold Func.isWrapper; first | (rw [if_pos (by decide +kernel)]; kernel_rfl) | (rw [if_neg (by decide +kernel)]; exact ⟨rfl, rfl⟩))
    (fun os started H enc _ => lifted os started H enc)
theorem proved : Rows.FnExactCrossSaid := over
#print axioms proved
end Go.Proofs.Ytiennogfdnlfiaa.fnExactCross
namespace Go.Proofs.Ytiennogfdnlfiaa
theorem fnExactCross_holds : Rows.FnExactCrossSaid := fnExactCross.proved
end Go.Proofs.Ytiennogfdnlfiaa
