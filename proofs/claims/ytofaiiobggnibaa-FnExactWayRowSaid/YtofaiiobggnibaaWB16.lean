/- Every operation: what the model does is what the words say. Plain lemmas: no statement of the program. -/
import Derived.Test.YtofaiiobggnibaaWB15
namespace Go.Proofs.YtofaiiobggnibaaW.AW
open Go Go.RowKit
set_option linter.unusedVariables false
set_option linter.unusedSimpArgs false

section
variable {P : Program} {β κ : Id → Nat} {A : Id → Nat → Prop} {w : World} {S : Nat → Prop} {m : Mem} {D : Id → Prop} {e : Operand → PV} {a : Act} {o : Oper} {cs : List Bool}
theorem gdv_ok {D : Id → Prop} {v : Value} {p : PV} (h : cs.all id = true → OV β κ D w S v p) (hu : cs.all id = false → v = undef) : OV β κ D w S v (gdv cs p) := by
  unfold gdv
  split
  · exact h rfl
  · exact .gd _ _ _ h hu
theorem value_ok {K : PV → Mem → Prop} {next : Act → World → Prop} {Q : Exit → Act → World → Prop} (hK : ∀ v w', Left w S D m β κ A K v w' → next (a.put o.dst v) w') {v : Value} {w' : World} (hr : (execOp a.eval o).run P w = .ok (.value v) w') (hl : Left w S D m β κ A K v w') : o.wp P a w next Q := by
  unfold Oper.wp
  rw [hr]
  exact hK v w' hl
theorem pure_left {K : PV → Mem → Prop} {v : Value} {p : PV} (hm : MRD w S D m β κ A) (hk : K p m) (hv : OV β κ D w S v p) : Left w S D m β κ A K v w := ⟨_, _, _, _, _, _, _, hk, ExtD.refl _ _ _ _ _ _ _, hm, hv, dsame⟩
theorem pure_op {K : PV → Mem → Prop} {next : Act → World → Prop} {Q : Exit → Act → World → Prop} (hm : MRD w S D m β κ A) (he : ∀ x, OV β κ D w S (a.eval x) (e x)) (hcs : cs.all id = true) {op : Op} (ho : o.op = op) (h : (cs.all id = true → (apure P cs op e m).ok) ∧ K (gdv cs (apure P cs op e m).v) m)
    (hK : ∀ v w', Left w S D m β κ A K v w' → next (a.put o.dst v) w') : o.wp P a w next Q := by
  obtain ⟨v, hr, hv⟩ := apure_ok hm he hcs ho (h.1 hcs)
  exact value_ok hK hr (pure_left hm h.2 (gdv_ok (fun _ => hv) (fun e => by rw [hcs] at e; cases e)))
theorem call_ok {K : PV → Mem → Prop} {next : Act → World → Prop} {Q : Exit → Act → World → Prop} (hcl : D = dN m.nx) (hm : MRD w S D m β κ A) (he : ∀ x, OV β κ D w S (a.eval x) (e x)) (hcs : cs.all id = true) {c : Call} {fo : Operand} {g : FuncId} {caps : List PV} (ho : o.op = .call c) (hc : c.callee = .value fo) (hf : e fo = .fn g caps)
    (h : acall P cs g (c.args.toList.map e ++ caps) m K) (hK : ∀ v w', Left w S D m β κ A K v w' → next (a.put o.dst v) w') : o.wp P a w next Q := by
  subst hcl
  obtain ⟨r, m', h1, h2, h3⟩ := h
  obtain ⟨⟨fn, f1, f2, f3⟩, h4⟩ := h1 hcs
  have hv := he fo
  rw [hf] at hv
  obtain ⟨vs, e1, e2, e3⟩ : ∃ vs : Array Value, a.eval fo = .func (.func g) #[] vs ∧ vs.size = caps.length ∧ ∀ j p, caps[j]? = some p → OV β κ (dN m.nx) w S (vs.getD j undef) p := by
    generalize a.eval fo = v at hv
    cases hv with
    | rv _ _ h => cases h
    | fn _ vs _ hl hv => exact ⟨vs, rfl, hl, hv⟩
  have hr : (execOp a.eval o).run P w = .ok (.enter g (c.args.map a.eval ++ vs)) w := by
    have f2' : fn.body ≠ none := fun e => by rw [e] at f2; cases f2
    have f3' : fn.name ≠ "runtime.NumGoroutine" := by simpa using f3
    simp [execOp, ho, resolve, hc, e1, Deferred.ofValue, invoke, callFunc, f1, f2', f3']
  unfold Oper.wp
  rw [hr, Oper.upon_enter]
  refine (h4 w _ S β κ A hm (by simp [e2]) (fun i p hp => ?_)).mono ?_
  · by_cases hi : i < c.args.size
    · rw [List.getElem?_append_left (by simpa using hi), List.getElem?_map] at hp
      obtain ⟨x, hx, rfl⟩ := Option.map_eq_some_iff.1 hp
      have hx' : c.args[i]? = some x := by simpa using hx
      have : (c.args.map a.eval ++ vs).getD i undef = a.eval x := by
        rw [Array.getD_eq_getD_getElem?, Array.getElem?_append_left (by simpa using hi)]
        simp [hx']
      rw [this]; exact he x
    · rw [List.getElem?_append_right (by simpa using hi)] at hp
      have : (c.args.map a.eval ++ vs).getD i undef = vs.getD (i - c.args.size) undef := by
        rw [Array.getD_eq_getD_getElem?, Array.getElem?_append_right (by simpa using hi)]
        simp [Array.getD_eq_getD_getElem?]
      rw [this]; exact e3 _ p (by simpa using hp)
  · rintro e w' ⟨v, S', β', κ', A', rfl, g1, g2, g3⟩
    exact hK v w' ⟨_, _, _, _, _, _, _, h3, g3, g2, gdv_ok (fun _ => g1) (fun e => by rw [hcs] at e; cases e), fun o => ⟨fun h => (Classical.em (hb o m.nx)).elim .inl (fun h2 => .inr ⟨h, h2⟩), fun h => h.elim (g3.dl o) (·.1)⟩⟩
/-- A call of a function. -/
def isCall : Op → Bool
  | .call c => match c.callee with | .value _ => true | _ => false
  | _ => false
theorem aop_ok {K : PV → Mem → Prop} {next : Act → World → Prop} {Q : Exit → Act → World → Prop} (fr : Fr D m.nx) (hm : MRD w S D m β κ A) (he : ∀ x, OV β κ D w S (a.eval x) (e x)) (hcs : cs.all id = true) {op : Op} (ho : o.op = op) (hcl : isCall op = true → D = dN m.nx) (h : aop P cs op e m K)
    (hK : ∀ v w', Left w S D m β κ A K v w' → next (a.put o.dst v) w') : o.wp P a w next Q := by
  unfold aop at h
  split at h
  · simp only [onG, if_pos hcs] at h
    split at h
    · rename_i hv
      obtain ⟨v, w', hr, hl⟩ := o_box hm he fr ho hv K h
      exact value_ok hK hr hl
    · exact h.elim
  · simp only [onG, if_pos hcs] at h
    obtain ⟨hz, h⟩ := h
    obtain ⟨v, w', hr, hl⟩ := o_alloc hm fr (ρ := a.eval) ho hz K h
    exact value_ok hK hr hl
  · simp only [onG, if_pos hcs] at h
    obtain ⟨w', hr, hl⟩ := o_store hm he ho K h
    unfold Oper.wp
    rw [hr]
    exact hK _ _ hl
  · simp only [onG, if_pos hcs] at h
    split at h
    · rename_i hcc
      obtain ⟨⟨h1, h2, h3, h4, h5⟩, hk⟩ := h
      obtain ⟨v, w', hr, hl⟩ := o_buildSlice hm he fr ho hcc h1 h2 h3 h4 h5 K hk
      exact value_ok hK hr hl
    · exact h.elim
  · simp only [onG, if_pos hcs] at h
    split at h
    · rename_i h1 h2
      obtain ⟨⟨h3, h4, h5, h6⟩, hk⟩ := h
      obtain ⟨v, w', hr, hl⟩ := o_makeSlice hm he fr ho h1 h2 h3 h4 h5 h6 K hk
      exact value_ok hK hr hl
    · exact h.elim
  · simp only [onG, if_pos hcs] at h
    obtain ⟨h1, h2, h⟩ := h
    obtain ⟨v, w', hr, hl⟩ := o_makeMap fr hm (ρ := a.eval) ho he h1 h2 K h
    exact value_ok hK hr hl
  · simp only [onG, if_pos hcs] at h
    split at h
    · rename_i hx hk
      split at h
      · rename_i hq
        obtain ⟨w', hr, hl⟩ := o_mapUpdate hm he ho hx hk hq h.1 h.2.1 K h.2.2
        unfold Oper.wp
        rw [hr]
        exact hK _ _ hl
      · exact h.elim
    · exact h.elim
  · split at h
    · rename_i hx
      split at h
      · rename_i hu8
        simp only [onG, if_pos hcs] at h
        obtain ⟨⟨h1, h2, h3⟩, h⟩ := h
        obtain ⟨v, w', hr, hl⟩ := o_toBytes hm he fr ho hx hu8 h1 h2 h3 K h
        exact value_ok hK hr hl
      · exact pure_op hm he hcs ho h hK
    · exact pure_op hm he hcs ho h hK
  · rename_i c
    split at h
    · rename_i hc
      simp only [onG, if_pos hcs] at h
      split at h
      · rename_i x k t ts ha ht
        have ha' : c.args = #[x, k] := by rw [← Array.toArray_toList (xs := c.args), ha]
        have ht' : c.argTypes = (t :: ts).toArray := by rw [← ht]
        split at h
        · rename_i hx hk
          split at h
          · rename_i hq
            have vx := he x; have vk := he k
            rw [hx] at vx; rw [hk] at vk
            obtain ⟨v, w', hr, hl⟩ := o_delete (ty := o.type) (t' := 0) hm vx vk hq h.1 K h.2
            refine value_ok hK (w' := w') (v := v) ?_ hl
            simp [execOp, ho, resolve, hc, ha', ht', invoke, builtin]
            rw [hr]; rfl
          · exact h.elim
        · exact h.elim
      · exact h.elim
    · rename_i hc
      simp only [onG, if_pos hcs] at h
      split at h
      · rename_i s x t t' ha ht
        have ha' : c.args = #[s, x] := by rw [← Array.toArray_toList (xs := c.args), ha]
        have ht' : c.argTypes = #[t, t'] := by rw [← Array.toArray_toList (xs := c.argTypes), ht]
        obtain ⟨v, w', hr, hl⟩ := o_append (ty := o.type) fr hm (he s) (he x) h.1 K h.2
        refine value_ok hK (w' := w') (v := v) ?_ hl
        simp [execOp, ho, resolve, hc, ha', ht', invoke, builtin, hr]
      · exact h.elim
    · exact pure_op hm he hcs ho h hK
    · split at h
      · rename_i hf
        rename_i hc _ _
        exact call_ok (hcl (by simp only [isCall]; split <;> simp_all)) hm he hcs ho (by assumption) hf h hK
      · exact h.elim
    · exact h.elim
  · exact pure_op hm he hcs ho h hK
end
end Go.Proofs.YtofaiiobggnibaaW.AW
