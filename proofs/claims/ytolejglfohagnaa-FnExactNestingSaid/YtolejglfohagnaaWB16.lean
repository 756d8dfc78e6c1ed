/- Every operation: what the model does is what the words say. Plain lemmas: no statement of the program. -/
import Derived.Test.YtolejglfohagnaaWB15
namespace Go.Proofs.YtolejglfohagnaaW.AW
open Go Go.RowKit
set_option linter.unusedVariables false
set_option linter.unusedSimpArgs false

section
variable {P : Program} {β κ : Id → Nat} {A : Id → Nat → Prop} {w : World} {S : Nat → Prop} {m : Mem} {D : Id → Prop} {e : Operand → PV} {a : Act} {o : Oper} {cs : List Bool}
theorem gdv_ok {D : Id → Prop} {v : Value} {p : PV} (h : cs.all id = true → OV β κ D w S v p) (hu : cs.all id = false → v = undef) : OV β κ D w S v (gdv cs p) := by
  unfold gdv
  split
  · exact h rfl
  · exact .gd _ _ _ h hu
theorem value_ok {K : PV → Mem → Prop} {next : Act → World → Prop} {Q : Exit → Act → World → Prop} (hK : ∀ v w', Left w S D m β κ A K v w' → next (a.put o.dst v) w') {v : Value} {w' : World} (hr : (execOp a.eval o).run P w = .ok (.value v) w') (hl : Left w S D m β κ A K v w') : o.wp P a w next Q := by
  unfold Oper.wp
  rw [hr]
  exact hK v w' hl
theorem pure_left {K : PV → Mem → Prop} {v : Value} {p : PV} (hm : MRD w S D m β κ A) (hk : K p m) (hv : OV β κ D w S v p) : Left w S D m β κ A K v w := ⟨_, _, _, _, _, _, _, hk, ExtD.refl _ _ _ _ _ _ _, hm, hv, dsame⟩
theorem pure_op {K : PV → Mem → Prop} {next : Act → World → Prop} {Q : Exit → Act → World → Prop} (hm : MRD w S D m β κ A) (he : ∀ x, OV β κ D w S (a.eval x) (e x)) (hcs : cs.all id = true) {op : Op} (ho : o.op = op) (h : (cs.all id = true → (apure P cs op e m).ok) ∧ K (gdv cs (apure P cs op e m).v) m)
    (hK : ∀ v w', Left w S D m β κ A K v w' → next (a.put o.dst v) w') : o.wp P a w next Q := by
  obtain ⟨v, hr, hv⟩ := apure_ok hm he hcs ho (h.1 hcs)
  exact value_ok hK hr (pure_left hm h.2 (gdv_ok (fun _ => hv) (fun e => by rw [hcs] at e; cases e)))
theorem call_ok {K : PV → Mem → Prop} {next : Act → World → Prop} {Q : Exit → Act → World → Prop} {c : Call} {fo : Operand} {g : FuncId} {caps : List PV} {r : PV} {m' : Mem} (hcd : ACD P g (c.args.toList.map e ++ caps) m r m') (tc : TC D) (fr : ∀ o, hb o m'.nx → ¬ hb o m.nx → ¬ D o) (hm : MRD w S D m β κ A) (he : ∀ x, OV β κ D w S (a.eval x) (e x)) (hcs : cs.all id = true) (ho : o.op = .call c) (hc : c.callee = .value fo) (hf : e fo = .fn g caps)
    (hk : K (gdv cs r) m') (hK : ∀ v w', Left w S D m β κ A K v w' → next (a.put o.dst v) w') : o.wp P a w next Q := by
  obtain ⟨⟨fn, f1, f2, f3⟩, h4⟩ := hcd
  have hv := he fo
  rw [hf] at hv
  obtain ⟨vs, e1, e2, e3⟩ : ∃ vs : Array Value, a.eval fo = .func (.func g) #[] vs ∧ vs.size = caps.length ∧ ∀ j p, caps[j]? = some p → OV β κ D w S (vs.getD j undef) p := by
    generalize a.eval fo = v at hv
    cases hv with
    | rv _ _ h => cases h
    | fn _ vs _ hl hv => exact ⟨vs, rfl, hl, hv⟩
  have hr : (execOp a.eval o).run P w = .ok (.enter g (c.args.map a.eval ++ vs)) w := by
    have f2' : fn.body ≠ none := fun e => by rw [e] at f2; cases f2
    have f3' : fn.name ≠ "runtime.NumGoroutine" := by simpa using f3
    simp [execOp, ho, resolve, hc, e1, Deferred.ofValue, invoke, callFunc, f1, f2', f3']
  unfold Oper.wp
  rw [hr, Oper.upon_enter]
  refine (h4 D tc fr w _ S β κ A hm (by simp [e2]) (fun i p hp => ?_)).mono ?_
  · by_cases hi : i < c.args.size
    · rw [List.getElem?_append_left (by simpa using hi), List.getElem?_map] at hp
      obtain ⟨x, hx, rfl⟩ := Option.map_eq_some_iff.1 hp
      have hx' : c.args[i]? = some x := by simpa using hx
      have : (c.args.map a.eval ++ vs).getD i undef = a.eval x := by
        rw [Array.getD_eq_getD_getElem?, Array.getElem?_append_left (by simpa using hi)]
        simp [hx']
      rw [this]; exact he x
    · rw [List.getElem?_append_right (by simpa using hi)] at hp
      have : (c.args.map a.eval ++ vs).getD i undef = vs.getD (i - c.args.size) undef := by
        rw [Array.getD_eq_getD_getElem?, Array.getElem?_append_right (by simpa using hi)]
        simp [Array.getD_eq_getD_getElem?]
      rw [this]; exact e3 _ p (by simpa using hp)
  · rintro e w' ⟨v, rfl, r', m'', S', D', β', κ', A', ⟨rfl, rfl⟩, g2, g3, g4, g5⟩
    exact hK v w' ⟨_, _, S', D', β', κ', A', hk, g2, g3, gdv_ok (fun _ => g4) (fun e => by rw [hcs] at e; cases e), g5⟩
theorem same2_eq {W : List Id} {m m' m2' : Mem} (h : Same2 W m m' m m2') : m2' = m' := by
  obtain ⟨h1, h2⟩ := h
  have : m2'.o = m'.o := funext fun o => by
    rcases h2 o with ⟨a, b⟩ | ⟨_, a⟩
    · rw [a, b]
    · exact a
  cases m2'; cases m'; simp_all
/-- A call of a function. -/
def isCall : Op → Bool
  | .call c => match c.callee with | .value _ => true | _ => false
  | _ => false
theorem aop_ok {K : PV → Mem → Prop} {next : Act → World → Prop} {Q : Exit → Act → World → Prop} (fr : ∀ r m', K r m' → m'.nx = m.nx + 1 → Fr D m.nx) (hm : MRD w S D m β κ A) (he : ∀ x, OV β κ D w S (a.eval x) (e x)) (hcs : cs.all id = true) {op : Op} (ho : o.op = op) (hcl : isCall op = true → D = dN m.nx) (h : aop P cs op e m K)
    (hK : ∀ v w', Left w S D m β κ A K v w' → next (a.put o.dst v) w') : o.wp P a w next Q := by
  unfold aop at h
  split at h
  · simp only [onG, if_pos hcs] at h
    split at h
    · rename_i hv
      obtain ⟨v, w', hr, hl⟩ := o_box hm he (fr _ _ h rfl) ho hv K h
      exact value_ok hK hr hl
    · exact h.elim
  · simp only [onG, if_pos hcs] at h
    obtain ⟨hz, h⟩ := h
    obtain ⟨v, w', hr, hl⟩ := o_alloc hm (fr _ _ h rfl) (ρ := a.eval) ho hz K h
    exact value_ok hK hr hl
  · simp only [onG, if_pos hcs] at h
    obtain ⟨w', hr, hl⟩ := o_store hm he ho K h
    unfold Oper.wp
    rw [hr]
    exact hK _ _ hl
  · simp only [onG, if_pos hcs] at h
    split at h
    · rename_i hcc
      obtain ⟨⟨h1, h2, h3, h4, h5⟩, hk⟩ := h
      obtain ⟨v, w', hr, hl⟩ := o_buildSlice hm he (fr _ _ hk rfl) ho hcc h1 h2 h3 h4 h5 K hk
      exact value_ok hK hr hl
    · exact h.elim
  · simp only [onG, if_pos hcs] at h
    split at h
    · rename_i h1 h2
      obtain ⟨⟨h3, h4, h5, h6⟩, hk⟩ := h
      obtain ⟨v, w', hr, hl⟩ := o_makeSlice hm he (fr _ _ hk rfl) ho h1 h2 h3 h4 h5 h6 K hk
      exact value_ok hK hr hl
    · exact h.elim
  · simp only [onG, if_pos hcs] at h
    obtain ⟨h1, h2, h⟩ := h
    obtain ⟨v, w', hr, hl⟩ := o_makeMap (fr _ _ h rfl) hm (ρ := a.eval) ho he h1 h2 K h
    exact value_ok hK hr hl
  · simp only [onG, if_pos hcs] at h
    split at h
    · rename_i hx hk
      split at h
      · rename_i hq
        obtain ⟨w', hr, hl⟩ := o_mapUpdate hm he ho hx hk hq h.1 h.2.1 K h.2.2
        unfold Oper.wp
        rw [hr]
        exact hK _ _ hl
      · exact h.elim
    · exact h.elim
  · split at h
    · rename_i hx
      split at h
      · rename_i hu8
        simp only [onG, if_pos hcs] at h
        obtain ⟨⟨h1, h2, h3⟩, h⟩ := h
        obtain ⟨v, w', hr, hl⟩ := o_toBytes hm he (fr _ _ h rfl) ho hx hu8 h1 h2 h3 K h
        exact value_ok hK hr hl
      · exact pure_op hm he hcs ho h hK
    · exact pure_op hm he hcs ho h hK
  · rename_i c
    split at h
    · rename_i hc
      simp only [onG, if_pos hcs] at h
      split at h
      · rename_i x k t ts ha ht
        have ha' : c.args = #[x, k] := by rw [← Array.toArray_toList (xs := c.args), ha]
        have ht' : c.argTypes = (t :: ts).toArray := by rw [← ht]
        split at h
        · rename_i hx hk
          split at h
          · rename_i hq
            have vx := he x; have vk := he k
            rw [hx] at vx; rw [hk] at vk
            obtain ⟨v, w', hr, hl⟩ := o_delete (ty := o.type) (t' := 0) hm vx vk hq h.1 K h.2
            refine value_ok hK (w' := w') (v := v) ?_ hl
            simp [execOp, ho, resolve, hc, ha', ht', invoke, builtin]
            rw [hr]; rfl
          · exact h.elim
        · exact h.elim
      · exact h.elim
    · rename_i hc
      simp only [onG, if_pos hcs] at h
      split at h
      · rename_i s x t t' ha ht
        have ha' : c.args = #[s, x] := by rw [← Array.toArray_toList (xs := c.args), ha]
        have ht' : c.argTypes = #[t, t'] := by rw [← Array.toArray_toList (xs := c.argTypes), ht]
        obtain ⟨v, w', hr, hl⟩ := o_append (ty := o.type) hm (he s) (he x) h.1 K fr h.2
        refine value_ok hK (w' := w') (v := v) ?_ hl
        simp [execOp, ho, resolve, hc, ha', ht', invoke, builtin, hr]
      · exact h.elim
    · exact pure_op hm he hcs ho h hK
    · split at h
      · rename_i hf
        rename_i hc _ _
        obtain ⟨r, m', R, W, h1, h2, h3⟩ := h
        obtain ⟨m2', hs, hd⟩ := (h1 hcs).2 m rfl (fun _ _ => rfl)
        rw [same2_eq hs] at hd
        have hD := hcl (by simp only [isCall]; split <;> simp_all)
        exact call_ok hd (by rw [hD]; exact TC_dN _) (fun o a b c => by rw [hD] at c; exact b c) hm he hcs ho (by assumption) hf h3 hK
      · exact h.elim
    · exact h.elim
  · exact pure_op hm he hcs ho h hK
end
end Go.Proofs.YtolejglfohagnaaW.AW
