/- The row of the statement FnExactEarliest, out of the law's contract. -/
import Derived.Test.YtmmlpehfieojdaaRows
import Derived.Test.YtmmlpehfieojdaaXEA7
import Derived.WalkKit
import Derived.ProofKit
import Derived.OpenShut
import Derived.ShutString
import Derived.ChangeOld
import Derived.Below
import Derived.SizedLaws
import Derived.Carry
namespace Go.Proofs.Ytmmlpehfieojdaa.fnExactEarliest
open Go Go.ChangeShapes Go.WideShapes Go.ChangeAt Go.RowKit
open Go.ChangeMaps (open_string shut_string)
open Go.Proofs.YtmmlpehfieojdaaW.AW Go.Proofs.Ytmmlpehfieojdaa.Wd
set_option linter.unusedVariables false
theorem own : ownKnob Try.prog.godebug = none := by kernel_rfl
theorem laidOut : laidOutB Try.prog = true := by kernel_rfl
set_option maxRecDepth 100000 in
theorem op_String : Opn Try.prog 9 1 (fun x => pString x) (fun x => x.size ≤ 9223372036854775807) := opn_string (P := Try.prog) Try.underlying9
set_option maxRecDepth 100000 in
theorem op_Call : Opn Try.prog 192 3 pCall (fun _ => True) :=
  (opn_struct Try.underlying192 (by kernel_rfl) (opn_fc (by kernel_rfl) (by kernel_rfl) (opn_int (P := Try.prog) Try.underlying2) (opn_fc (by kernel_rfl) (by kernel_rfl) (opn_int (P := Try.prog) Try.underlying2) (opn_f1 (by kernel_rfl) (by kernel_rfl) (opn_int (P := Try.prog) Try.underlying2))))).as (fun x => (⟨x.1, x.2.1, x.2.2⟩ : Cl)) (fun _ => rfl) (fun _ => rfl) (fun x h => trivial)
set_option maxRecDepth 100000 in
theorem op_Trip : Opn Try.prog 168 3 cTrip wTrip :=
  (opn_struct Try.underlying168 (by kernel_rfl) (opn_fc (by kernel_rfl) (by kernel_rfl) (opn_string (P := Try.prog) Try.underlying9) (opn_fc (by kernel_rfl) (by kernel_rfl) (opn_int (P := Try.prog) Try.underlying2) (opn_f1 (by kernel_rfl) (by kernel_rfl) (opn_slice Try.underlying166 (by kernel_rfl) (by decide) op_Call))))).as (fun x => (⟨x.1, x.2.1, x.2.2⟩ : Tp)) (fun _ => rfl) (fun _ => rfl) (fun x h => ⟨h.1, h.2.2.1⟩)
set_option maxRecDepth 100000 in
theorem op_Walk : Opn Try.prog 172 3 pWalk (fun _ => True) :=
  (opn_struct Try.underlying172 (by kernel_rfl) (opn_fc (by kernel_rfl) (by kernel_rfl) (opn_int (P := Try.prog) Try.underlying2) (opn_fc (by kernel_rfl) (by kernel_rfl) (opn_int (P := Try.prog) Try.underlying2) (opn_f1 (by kernel_rfl) (by kernel_rfl) (opn_int (P := Try.prog) Try.underlying2))))).as (fun x => (⟨x.1, x.2.1, x.2.2⟩ : Wk_)) (fun _ => rfl) (fun _ => rfl) (fun x h => trivial)
set_option maxRecDepth 100000 in
theorem op_Lines : Opn Try.prog 97 3 cLines wLines :=
  (opn_struct Try.underlying97 (by kernel_rfl) (opn_fc (by kernel_rfl) (by kernel_rfl) (opn_slice Try.underlying24 (by kernel_rfl) (by decide) op_String) (opn_fc (by kernel_rfl) (by kernel_rfl) (opn_slice Try.underlying94 (by kernel_rfl) (by decide) op_Trip) (opn_f1 (by kernel_rfl) (by kernel_rfl) (opn_slice Try.underlying95 (by kernel_rfl) (by decide) op_Walk))))).as (fun x => (⟨x.1, x.2.1, x.2.2⟩ : Ln)) (fun _ => rfl) (fun _ => rfl) (fun x h => ⟨⟨h.1.1, fun x hx => h.1.2 x hx⟩, ⟨h.2.1.1, fun x hx => h.2.1.2 x hx⟩, h.2.2.1⟩)
set_option maxRecDepth 100000 in
theorem lifted (os : Os) (started : os.Started) (H : Type) (enc : TypeId × Value → H) :
    ReturnsInHanded {} Try.checked os 11 .any (Rows.fnExactEarliestSpec.pre6 enc Try.prog Try.f11 Rows.fnExactEarliestRow.domain false) (Rows.fnExactEarliestSpec.post enc Try.prog Try.f11 false true false false) := by
  refine returnsInHanded_of_change_sized (C := Try.checked) own started (by kernel_rfl) Try.func11
    (ChangeSpec.witness6 (enc := enc) (C := Try.checked) false ⟨#[], #[.agg #[.slice none 0 0, .slice none 0 0, .slice none 0 0], .int .i64 0, .int .i64 0, .int .i64 0], []⟩ 8 (by kernel_rfl) (by kernel_rfl) (by kernel_rfl) (by kernel_rfl)) ?_
  intro W base args ds gs before hval0 hW hcnd hsz0 _
  have hval : ∀ (j : Nat) t v, Try.f11.params[j]? = some t → args[j]? = some v → Value.okWide Try.prog W .any base t v := hval0
  have hW' := hW
  obtain ⟨p, q, hA0, hV, rfl, hfz, hnd⟩ := hW
  have hA : DataW.TrodAll enc Try.prog W 0 (fun _ => true) true Try.f11.params.toList args.toList ds p := hA0
  rw [Try.params11] at hA hval
  obtain ⟨v0, vs0, d0, ds0, p0, q0, hargs, rfl, rfl, h0, r0⟩ := trodAll_cons hA
  obtain ⟨v1, vs1, d1, ds1, p1, q1, rfl, rfl, rfl, h1, r1⟩ := trodAll_cons r0
  obtain ⟨v2, vs2, d2, ds2, p2, q2, rfl, rfl, rfl, h2, r2⟩ := trodAll_cons r1
  obtain ⟨v3, vs3, d3, ds3, p3, q3, rfl, rfl, rfl, h3, r3⟩ := trodAll_cons r2
  obtain ⟨rfl, rfl, rfl⟩ := trodAll_nil r3
  obtain rfl : args = #[v0, v1, v2, v3] := by cases args; simp_all
  obtain ⟨rfl, rfl⟩ := trodVars_none hV
  have k0 := h0
  have lt0 : ∀ x ∈ p0, x.block < W.heap.size := by obtain ⟨m, hm⟩ := k0; exact DataW.trod_lt m _ _ _ hm
  obtain ⟨x0, g0, w0⟩ := opn_ag Try.underlying97 op_Lines (hval 0 97 v0 rfl rfl) h0
  have k1 := h1
  have lt1 : ∀ x ∈ p1, x.block < W.heap.size := by obtain ⟨m, hm⟩ := k1; exact DataW.trod_lt m _ _ _ hm
  obtain ⟨n1, hn1⟩ := okWide_int Try.underlying2 (hval 1 2 v1 rfl rfl)
  obtain ⟨x1, g1, w1⟩ := opn_v (opn_int (P := Try.prog) Try.underlying2) (v := v1) (by rw [hn1]; rfl) h1
  have k2 := h2
  have lt2 : ∀ x ∈ p2, x.block < W.heap.size := by obtain ⟨m, hm⟩ := k2; exact DataW.trod_lt m _ _ _ hm
  obtain ⟨n2, hn2⟩ := okWide_int Try.underlying2 (hval 2 2 v2 rfl rfl)
  obtain ⟨x2, g2, w2⟩ := opn_v (opn_int (P := Try.prog) Try.underlying2) (v := v2) (by rw [hn2]; rfl) h2
  have k3 := h3
  have lt3 : ∀ x ∈ p3, x.block < W.heap.size := by obtain ⟨m, hm⟩ := k3; exact DataW.trod_lt m _ _ _ hm
  obtain ⟨n3, hn3⟩ := okWide_int Try.underlying2 (hval 3 2 v3 rfl rfl)
  obtain ⟨x3, g3, w3⟩ := opn_v (opn_int (P := Try.prog) Try.underlying2) (v := v3) (by rw [hn3]; rfl) h3
  clear hA0 hval0 hsz0
  refine ((conEarliest x0 x1 x2 x3 w0).row rfl (fun i p hp => ?_)).mono fun e W' ⟨he, bel0⟩ => ?_
  · match i, hp with
    | 0, hp => cases hp; exact g0
    | 1, hp => cases hp; exact g1
    | 2, hp => cases hp; exact g2
    | 3, hp => cases hp; exact g3
  have bel : Below W.heap.size W W' := bel0
  subst he
  exact ⟨_, rfl, _, _, _, [], _, [], hW', trodAll_mk1 (shut_bool Try.underlying4 _), (trodAll_cons_mk (Below.trod laidOut (by kernel_rfl) (of_decide_eq_true (by kernel_rfl)) k0 bel lt0) (trodAll_cons_mk (Below.trod laidOut (by kernel_rfl) (of_decide_eq_true (by kernel_rfl)) k1 bel lt1) (trodAll_cons_mk (Below.trod laidOut (by kernel_rfl) (of_decide_eq_true (by kernel_rfl)) k2 bel lt2) (trodAll_cons_mk (Below.trod laidOut (by kernel_rfl) (of_decide_eq_true (by kernel_rfl)) k3 bel lt3) trodAll_mk0)))), rfl, bel.frame _, fun h => by cases h⟩
end Go.Proofs.Ytmmlpehfieojdaa.fnExactEarliest
