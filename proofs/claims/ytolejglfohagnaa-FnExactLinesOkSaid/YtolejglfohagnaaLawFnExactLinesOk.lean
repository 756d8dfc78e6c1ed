/- The row of the statement FnExactLinesOk, out of its plain law and the printed contract. -/
import Derived.Test.YtolejglfohagnaaRows
import Derived.Test.YtolejglfohagnaaQFnExactLinesOkx9
import Derived.Test.YtolejglfohagnaaPreFnExactLinesOk
import Derived.Test.YtolejglfohagnaaPureFnExactLinesOk
import Derived.WalkKit
import Derived.ProofKit
import Derived.OpenShut
import Derived.ShutString
import Derived.ChangeOld
import Derived.Below
import Derived.SizedLaws
import Derived.Carry
namespace Go.Proofs.Ytolejglfohagnaa.fnExactLinesOk
open Go.ChangeShapes Go.WideShapes Go.ChangeAt Go.RowKit
open Go.ChangeMaps (open_string shut_string)
open Go.Proofs.Ytolejglfohagnaa.PFnExactLinesOk Go.Proofs.Ytolejglfohagnaa.PreFnExactLinesOk Go.Proofs.YtolejglfohagnaaW.PrintWords Go.Proofs.YtolejglfohagnaaW.PrintLast Go.Proofs.YtolejglfohagnaaW.Open
set_option linter.unusedVariables false
theorem own : ownKnob Try.prog.godebug = none := by kernel_rfl
theorem laidOut : laidOutB Try.prog = true := by kernel_rfl
set_option maxRecDepth 100000 in
theorem lifted (os : Os) (started : os.Started) (H : Type) (enc : TypeId × Value → H) :
    ReturnsInHanded {} Try.checked os 13 .any (Rows.fnExactLinesOkSpec.pre6 enc Try.prog Try.f13 Rows.fnExactLinesOkRow.domain false) (Rows.fnExactLinesOkSpec.post enc Try.prog Try.f13 false true false false) := by
  refine returnsInHanded_of_change_sized (C := Try.checked) own started (by kernel_rfl) Try.func13
    (ChangeSpec.witness6 (enc := enc) (C := Try.checked) false ⟨#[], #[.agg #[.slice none 0 0, .slice none 0 0, .slice none 0 0]], []⟩ 8 (by kernel_rfl) (by kernel_rfl) (by kernel_rfl) (by kernel_rfl)) ?_
  intro W base args ds gs before hval0 hW hcnd hsz0 _
  have hval : ∀ (j : Nat) t v, Try.f13.params[j]? = some t → args[j]? = some v → Value.okWide Try.prog W .any base t v := hval0
  have hW' := hW
  obtain ⟨p, q, hA0, hV, rfl, hfz, hnd⟩ := hW
  have hA : DataW.TrodAll enc Try.prog W 0 (fun _ => true) true Try.f13.params.toList args.toList ds p := hA0
  rw [Try.params13] at hA hval
  obtain ⟨v0, vs0, d0, ds0, p0, q0, hargs, rfl, rfl, h0, r0⟩ := trodAll_cons hA
  obtain ⟨rfl, rfl, rfl⟩ := trodAll_nil r0
  obtain rfl : args = #[v0] := by cases args; simp_all
  obtain ⟨rfl, rfl⟩ := trodVars_none hV
  have k0 := h0
  have lt0 : ∀ x ∈ p0, x.block < W.heap.size := by obtain ⟨m, hm⟩ := k0; exact DataW.trod_lt m _ _ _ hm
  obtain ⟨b0, cs0, rfl, K0, w0⟩ := open_struct_value Try.underlying104 open0 (hval 0 104 v0 rfl rfl) h0
  obtain ⟨cs0⟩ := cs0
  obtain ⟨l0_0, ⟨l0_1, l0_2⟩⟩ := b0
  obtain ⟨A0_0, c0_0, A0_1, c0_1, A0_2, c0_2, hcs0, l_0_0, g_0_0, l_0_1, g_0_1, l_0_2, g_0_2⟩ : ∃ A0_0 c0_0, ∃ A0_1 c0_1, ∃ A0_2 c0_2, (cs0 = [.slice A0_0 l0_0.length c0_0, .slice A0_1 l0_1.length c0_1, .slice A0_2 l0_2.length c0_2]) ∧ l0_0.length ≤ c0_0 ∧ Kd.C Kd.string W A0_0 l0_0.length l0_0 ∧ l0_1.length ≤ c0_1 ∧ Kd.C k171 W A0_1 l0_1.length l0_1 ∧ l0_2.length ≤ c0_2 ∧ Kd.C k174 W A0_2 l0_2.length l0_2 := by
    obtain ⟨_, _, hK0, ⟨A0_0, c0_0, rfl, l_0_0, g_0_0⟩, ⟨_, _, rfl, ⟨A0_1, c0_1, rfl, l_0_1, g_0_1⟩, ⟨A0_2, c0_2, rfl, l_0_2, g_0_2⟩⟩⟩ := K0
    exact ⟨A0_0, c0_0, A0_1, c0_1, A0_2, c0_2, hK0, l_0_0, g_0_0, l_0_1, g_0_1, l_0_2, g_0_2⟩
  subst hcs0
  clear K0
  obtain ⟨w0_0, ⟨w0_1, w0_2⟩⟩ := w0
  clear hA0 hval0 hsz0
  obtain ⟨k, hk⟩ := Pure.FnExactLinesOk l0_0 l0_1 l0_2 w0_0 w0_1 w0_2
  refine (laws_FnExactLinesOk.calls k A0_0 c0_0 l0_0 A0_1 c0_1 l0_1 A0_2 c0_2 l0_2 true W g_0_0 l_0_0 g_0_1 l_0_1 g_0_2 l_0_2 hk).mono fun e W' ⟨he, bel0⟩ => ?_
  have bel : Below W.heap.size W W' := bel0
  subst he
  exact ⟨_, rfl, _, _, _, [], _, [], hW', trodAll_mk1 (shut_bool Try.underlying4 _), (trodAll_cons_mk (Below.trod laidOut (by kernel_rfl) (of_decide_eq_true (by kernel_rfl)) k0 bel lt0) trodAll_mk0), rfl, bel.frame _, fun h => by cases h⟩
theorem over : Rows.fnExactLinesOkRow.holds Try.pinned (OpenSpec.ofChange Rows.fnExactLinesOkSpec) :=
  OpenClaim.holds_of_wide 13 Try.f13 rfl rfl rfl rfl rfl rfl rfl ⟨rfl, rfl, rfl, rfl, rfl⟩ rfl rfl rfl rfl rfl (by kernel_rfl) Try.func13 (by kernel_rfl)
    (of_decide_eq_true (by kernel_rfl)) (by unfold Func.isWrapper; first | (rw [if_pos (by decide +kernel)]; kernel_rfl) | (rw [if_neg (by decide +kernel)]; exact ⟨rfl, rfl⟩))
    (fun os started H enc _ => lifted os started H enc)
theorem proved : Rows.FnExactLinesOkSaid := over
#print axioms proved
end Go.Proofs.Ytolejglfohagnaa.fnExactLinesOk
namespace Go.Proofs.Ytolejglfohagnaa
theorem fnExactLinesOk_holds : Rows.FnExactLinesOkSaid := fnExactLinesOk.proved
end Go.Proofs.Ytolejglfohagnaa
