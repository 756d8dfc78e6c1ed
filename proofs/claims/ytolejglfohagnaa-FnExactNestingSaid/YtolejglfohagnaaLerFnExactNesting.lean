/- The row of the statement FnExactNesting, out of the law's contract. -/
import Derived.Test.YtolejglfohagnaaRows
import Derived.Test.YtolejglfohagnaaLN1
import Derived.Test.YtolejglfohagnaaWB27
import Derived.WalkKit
import Derived.ProofKit
import Derived.OpenShut
import Derived.ShutString
import Derived.ChangeOld
import Derived.Below
import Derived.SizedLaws
import Derived.Carry
namespace Go.Proofs.Ytolejglfohagnaa.fnExactNesting
open Go Go.ChangeShapes Go.WideShapes Go.ChangeAt Go.RowKit
open Go.ChangeMaps (open_string shut_string)
open Go.Proofs.YtolejglfohagnaaW.AW Go.Proofs.Ytolejglfohagnaa.Wd
set_option linter.unusedVariables false
theorem own : ownKnob Try.prog.godebug = none := by kernel_rfl
theorem laidOut : laidOutB Try.prog = true := by kernel_rfl
set_option maxRecDepth 100000 in
theorem op_Point : Opn Try.prog 23 2 pPoint (fun _ => True) :=
  (opn_struct Try.underlying23 (by kernel_rfl) (opn_fc (by kernel_rfl) (by kernel_rfl) (opn_int (P := Try.prog) Try.underlying2) (opn_f1 (by kernel_rfl) (by kernel_rfl) (opn_int (P := Try.prog) Try.underlying2)))).as (fun x => (x : (Int × Int))) (fun _ => rfl) (fun _ => rfl) (fun x h => trivial)
set_option maxRecDepth 100000 in
theorem op_Ring : Opn Try.prog 133 2 cRing wRing :=
  (opn_struct Try.underlying133 (by kernel_rfl) (opn_fc (by kernel_rfl) (by kernel_rfl) (opn_slice Try.underlying49 (by kernel_rfl) (by decide) op_Point) (opn_f1 (by kernel_rfl) (by kernel_rfl) (opn_bool (P := Try.prog) Try.underlying4)))).as (fun x => (x : (List (Int × Int) × Bool))) (fun _ => rfl) (fun _ => rfl) (fun x h => h.1.1)
set_option maxRecDepth 100000 in
theorem lifted (os : Os) (started : os.Started) (H : Type) (enc : TypeId × Value → H) :
    ReturnsInHanded {} Try.checked os 12 .any (Rows.fnExactNestingSpec.pre6 enc Try.prog Try.f12 Rows.fnExactNestingRow.domain false) (Rows.fnExactNestingSpec.post enc Try.prog Try.f12 false true false false) := by
  refine returnsInHanded_of_change_sized (C := Try.checked) own started (by kernel_rfl) Try.func12
    (ChangeSpec.witness6 (enc := enc) (C := Try.checked) false ⟨#[], #[.slice none 0 0], []⟩ 8 (by kernel_rfl) (by kernel_rfl) (by kernel_rfl) (by kernel_rfl)) ?_
  intro W base args ds gs before hval0 hW hcnd hsz0 _
  have hval : ∀ (j : Nat) t v, Try.f12.params[j]? = some t → args[j]? = some v → Value.okWide Try.prog W .any base t v := hval0
  have hW' := hW
  obtain ⟨p, q, hA0, hV, rfl, hfz, hnd⟩ := hW
  have hA : DataW.TrodAll enc Try.prog W 0 (fun _ => true) true Try.f12.params.toList args.toList ds p := hA0
  rw [Try.params12] at hA hval
  obtain ⟨v0, vs0, d0, ds0, p0, q0, hargs, rfl, rfl, h0, r0⟩ := trodAll_cons hA
  obtain ⟨rfl, rfl, rfl⟩ := trodAll_nil r0
  obtain rfl : args = #[v0] := by cases args; simp_all
  obtain ⟨rfl, rfl⟩ := trodVars_none hV
  have k0 := h0
  have lt0 : ∀ x ∈ p0, x.block < W.heap.size := by obtain ⟨m, hm⟩ := k0; exact DataW.trod_lt m _ _ _ hm
  obtain ⟨a0, l0, c0, hn0⟩ := okWide_slice Try.underlying67 (hval 0 67 v0 rfl rfl)
  obtain ⟨x0, g0, w0⟩ := opn_v (opn_slice Try.underlying67 (by kernel_rfl) (by decide) op_Ring) (v := v0) (by rw [hn0]; rfl) h0
  clear hA0 hval0 hsz0
  refine ((conNesting x0 w0).row rfl (fun i p hp => ?_)).mono fun e W' ⟨he, bel0⟩ => ?_
  · match i, hp with
    | 0, hp => cases hp; exact g0
  have bel : Below W.heap.size W W' := bel0
  subst he
  exact ⟨_, rfl, _, _, _, [], _, [], hW', trodAll_mk1 (shut_bool Try.underlying4 _), (trodAll_cons_mk (Below.trod laidOut (by kernel_rfl) (of_decide_eq_true (by kernel_rfl)) k0 bel lt0) trodAll_mk0), rfl, bel.frame _, fun h => by cases h⟩
end Go.Proofs.Ytolejglfohagnaa.fnExactNesting
