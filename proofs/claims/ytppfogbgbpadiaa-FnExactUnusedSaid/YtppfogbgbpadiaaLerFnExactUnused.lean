/- The row of the statement FnExactUnused, out of the law's contract. -/
import Derived.Test.YtppfogbgbpadiaaRows
import Derived.Test.YtppfogbgbpadiaaXUU6
import Derived.WalkKit
import Derived.ProofKit
import Derived.OpenShut
import Derived.ShutString
import Derived.ChangeOld
import Derived.Below
import Derived.SizedLaws
import Derived.Carry
namespace Go.Proofs.Ytppfogbgbpadiaa.fnExactUnused
open Go Go.ChangeShapes Go.WideShapes Go.ChangeAt Go.RowKit
open Go.ChangeMaps (open_string shut_string)
open Go.Proofs.YtppfogbgbpadiaaW.AW Go.Proofs.Ytppfogbgbpadiaa.Wd
set_option linter.unusedVariables false
theorem own : ownKnob Try.prog.godebug = none := by kernel_rfl
theorem laidOut : laidOutB Try.prog = true := by kernel_rfl
set_option maxRecDepth 100000 in
theorem op_Point : Opn Try.prog 48 2 pPoint (fun _ => True) :=
  (opn_struct Try.underlying48 (by kernel_rfl) (opn_fc (by kernel_rfl) (by kernel_rfl) (opn_int (P := Try.prog) Try.underlying2) (opn_f1 (by kernel_rfl) (by kernel_rfl) (opn_int (P := Try.prog) Try.underlying2)))).as (fun x => (x : (Int × Int))) (fun _ => rfl) (fun _ => rfl) (fun x h => trivial)
set_option maxRecDepth 100000 in
theorem op_Tag : Opn Try.prog 263 2 pTag wTag :=
  (opn_struct Try.underlying263 (by kernel_rfl) (opn_fc (by kernel_rfl) (by kernel_rfl) (opn_string (P := Try.prog) Try.underlying9) (opn_f1 (by kernel_rfl) (by kernel_rfl) (opn_string (P := Try.prog) Try.underlying9)))).as (fun x => (⟨x.1, x.2⟩ : Tg)) (fun _ => rfl) (fun _ => rfl) (fun x h => ⟨h.1, h.2⟩)
set_option maxRecDepth 100000 in
theorem op_Node : Opn Try.prog 157 4 cNode wNode :=
  (opn_struct Try.underlying157 (by kernel_rfl) (opn_fc (by kernel_rfl) (by kernel_rfl) (opn_int (P := Try.prog) Try.underlying2) (opn_fc (by kernel_rfl) (by kernel_rfl) (op_Point) (opn_f1 (by kernel_rfl) (by kernel_rfl) (opn_slice Try.underlying155 (by kernel_rfl) (by decide) op_Tag))))).as (fun x => (⟨x.1, x.2.1, x.2.2⟩ : Nd)) (fun _ => rfl) (fun _ => rfl) (fun x h => ⟨h.2.2.1, fun x hx => h.2.2.2 x hx⟩)
set_option maxRecDepth 100000 in
theorem op_Int64 : Opn Try.prog 2 1 (fun x => pInt64 x) (fun _ => True) := (opn_int (P := Try.prog) Try.underlying2).as id (fun _ => rfl) (fun _ => rfl) (fun _ h => trivial)
set_option maxRecDepth 100000 in
theorem op_Way : Opn Try.prog 159 3 cWay wWay :=
  (opn_struct Try.underlying159 (by kernel_rfl) (opn_fc (by kernel_rfl) (by kernel_rfl) (opn_int (P := Try.prog) Try.underlying2) (opn_fc (by kernel_rfl) (by kernel_rfl) (opn_slice Try.underlying37 (by kernel_rfl) (by decide) op_Int64) (opn_f1 (by kernel_rfl) (by kernel_rfl) (opn_slice Try.underlying155 (by kernel_rfl) (by decide) op_Tag))))).as (fun x => (⟨x.1, x.2.1, x.2.2⟩ : Wy)) (fun _ => rfl) (fun _ => rfl) (fun x h => ⟨h.2.1.1, ⟨h.2.2.1, fun x hx => h.2.2.2 x hx⟩⟩)
set_option maxRecDepth 100000 in
theorem op_Part : Opn Try.prog 266 2 pPart (fun _ => True) :=
  (opn_struct Try.underlying266 (by kernel_rfl) (opn_fc (by kernel_rfl) (by kernel_rfl) (opn_int (P := Try.prog) Try.underlying2) (opn_f1 (by kernel_rfl) (by kernel_rfl) (opn_bool (P := Try.prog) Try.underlying4)))).as (fun x => (⟨x.1, x.2⟩ : Pr)) (fun _ => rfl) (fun _ => rfl) (fun x h => trivial)
set_option maxRecDepth 100000 in
theorem op_Area : Opn Try.prog 162 3 cArea wArea :=
  (opn_struct Try.underlying162 (by kernel_rfl) (opn_fc (by kernel_rfl) (by kernel_rfl) (opn_int (P := Try.prog) Try.underlying2) (opn_fc (by kernel_rfl) (by kernel_rfl) (opn_slice Try.underlying160 (by kernel_rfl) (by decide) op_Part) (opn_f1 (by kernel_rfl) (by kernel_rfl) (opn_slice Try.underlying155 (by kernel_rfl) (by decide) op_Tag))))).as (fun x => (⟨x.1, x.2.1, x.2.2⟩ : Ar)) (fun _ => rfl) (fun _ => rfl) (fun x h => ⟨h.2.1.1, ⟨h.2.2.1, fun x hx => h.2.2.2 x hx⟩⟩)
set_option maxRecDepth 100000 in
theorem op_Map : Opn Try.prog 26 3 cMap wMap :=
  (opn_struct Try.underlying26 (by kernel_rfl) (opn_fc (by kernel_rfl) (by kernel_rfl) (opn_slice Try.underlying22 (by kernel_rfl) (by decide) op_Node) (opn_fc (by kernel_rfl) (by kernel_rfl) (opn_slice Try.underlying23 (by kernel_rfl) (by decide) op_Way) (opn_f1 (by kernel_rfl) (by kernel_rfl) (opn_slice Try.underlying24 (by kernel_rfl) (by decide) op_Area))))).as (fun x => (⟨x.1, x.2.1, x.2.2⟩ : Mp)) (fun _ => rfl) (fun _ => rfl) (fun x h => ⟨⟨h.1.1, fun x hx => h.1.2 x hx⟩, ⟨h.2.1.1, fun x hx => h.2.1.2 x hx⟩, ⟨h.2.2.1, fun x hx => h.2.2.2 x hx⟩⟩)
set_option maxRecDepth 100000 in
theorem lifted (os : Os) (started : os.Started) (H : Type) (enc : TypeId × Value → H) :
    ReturnsInHanded {} Try.checked os 8 .any (Rows.fnExactUnusedSpec.pre6 enc Try.prog Try.f8 Rows.fnExactUnusedRow.domain false) (Rows.fnExactUnusedSpec.post enc Try.prog Try.f8 false true false false) := by
  refine returnsInHanded_of_change_sized (C := Try.checked) own started (by kernel_rfl) Try.func8
    (ChangeSpec.witness6 (enc := enc) (C := Try.checked) false ⟨#[], #[.agg #[.slice none 0 0, .slice none 0 0, .slice none 0 0]], []⟩ 8 (by kernel_rfl) (by kernel_rfl) (by kernel_rfl) (by kernel_rfl)) ?_
  intro W base args ds gs before hval0 hW hcnd hsz0 _
  have hval : ∀ (j : Nat) t v, Try.f8.params[j]? = some t → args[j]? = some v → Value.okWide Try.prog W .any base t v := hval0
  have hW' := hW
  obtain ⟨p, q, hA0, hV, rfl, hfz, hnd⟩ := hW
  have hA : DataW.TrodAll enc Try.prog W 0 (fun _ => true) true Try.f8.params.toList args.toList ds p := hA0
  rw [Try.params8] at hA hval
  obtain ⟨v0, vs0, d0, ds0, p0, q0, hargs, rfl, rfl, h0, r0⟩ := trodAll_cons hA
  obtain ⟨rfl, rfl, rfl⟩ := trodAll_nil r0
  obtain rfl : args = #[v0] := by cases args; simp_all
  obtain ⟨rfl, rfl⟩ := trodVars_none hV
  have k0 := h0
  have lt0 : ∀ x ∈ p0, x.block < W.heap.size := by obtain ⟨m, hm⟩ := k0; exact DataW.trod_lt m _ _ _ hm
  obtain ⟨x0, g0, w0⟩ := opn_ag Try.underlying26 op_Map (hval 0 26 v0 rfl rfl) h0
  clear hA0 hval0 hsz0
  refine ((conUnused x0 w0).row rfl (fun i p hp => ?_)).mono fun e W' ⟨he, bel0⟩ => ?_
  · match i, hp with
    | 0, hp => cases hp; exact g0
  have bel : Below W.heap.size W W' := bel0
  subst he
  exact ⟨_, rfl, _, _, _, [], _, [], hW', trodAll_mk1 (shut_bool Try.underlying4 _), (trodAll_cons_mk (Below.trod laidOut (by kernel_rfl) (of_decide_eq_true (by kernel_rfl)) k0 bel lt0) trodAll_mk0), rfl, bel.frame _, fun h => by cases h⟩
end Go.Proofs.Ytppfogbgbpadiaa.fnExactUnused
