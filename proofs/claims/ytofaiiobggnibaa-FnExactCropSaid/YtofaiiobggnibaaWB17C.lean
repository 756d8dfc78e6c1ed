/- Every operation: what the model does is what the words say. Plain lemmas: no statement of the program. -/
import Derived.Test.YtofaiiobggnibaaWB15
import Derived.Orders
namespace Go.Proofs.YtofaiiobggnibaaW.AW
open Go Go.RowKit
set_option linter.unusedVariables false
set_option linter.unusedSimpArgs false

section
variable {P : Program} {β κ : Id → Nat} {A : Id → Nat → Prop} {w : World} {S : Nat → Prop} {m : Mem} {D : Id → Prop} {e : Operand → PV} {a : Act} {o : Oper} {cs : List Bool}
theorem gdv_ok {D : Id → Prop} {v : Value} {p : PV} (h : cs.all id = true → OV β κ D w S v p) (hu : cs.all id = false → v = undef) : OV β κ D w S v (gdv cs p) := by
  unfold gdv
  split
  · exact h rfl
  · exact .gd _ _ _ h hu
theorem value_ok {K : PV → Mem → Prop} {next : Act → World → Prop} {Q : Exit → Act → World → Prop} (hK : ∀ v w', Left w S D m β κ A K v w' → next (a.put o.dst v) w') {v : Value} {w' : World} (hr : (execOp a.eval o).run P w = .ok (.value v) w') (hl : Left w S D m β κ A K v w') : o.wp P a w next Q := by
  unfold Oper.wp
  rw [hr]
  exact hK v w' hl
theorem pure_left {K : PV → Mem → Prop} {v : Value} {p : PV} (hm : MRD w S D m β κ A) (hk : K p m) (hv : OV β κ D w S v p) : Left w S D m β κ A K v w := ⟨_, _, _, _, _, _, _, hk, ExtD.refl _ _ _ _ _ _ _, hm, hv, dsame⟩
theorem pure_op {K : PV → Mem → Prop} {next : Act → World → Prop} {Q : Exit → Act → World → Prop} (hm : MRD w S D m β κ A) (he : ∀ x, OV β κ D w S (a.eval x) (e x)) (hcs : cs.all id = true) {op : Op} (ho : o.op = op) (h : (cs.all id = true → (apure P cs op e m).ok) ∧ K (gdv cs (apure P cs op e m).v) m)
    (hK : ∀ v w', Left w S D m β κ A K v w' → next (a.put o.dst v) w') : o.wp P a w next Q := by
  obtain ⟨v, hr, hv⟩ := apure_ok hm he hcs ho (h.1 hcs)
  exact value_ok hK hr (pure_left hm h.2 (gdv_ok (fun _ => hv) (fun e => by rw [hcs] at e; cases e)))
theorem call_ok {K : PV → Mem → Prop} {next : Act → World → Prop} {Q : Exit → Act → World → Prop} {c : Call} {fo : Operand} {g : FuncId} {caps : List PV} {r : PV} {m' : Mem} (hcd : ACD P g (c.args.toList.map e ++ caps) m r m') (tc : TC D) (fr : ∀ o, hb o m'.nx → ¬ hb o m.nx → ¬ D o) (hm : MRD w S D m β κ A) (he : ∀ x, OV β κ D w S (a.eval x) (e x)) (hcs : cs.all id = true) (ho : o.op = .call c) (hc : c.callee = .value fo) (hf : e fo = .fn g caps)
    (hk : K (gdv cs r) m') (hK : ∀ v w', Left w S D m β κ A K v w' → next (a.put o.dst v) w') : o.wp P a w next Q := by
  obtain ⟨⟨fn, f1, f2, f3⟩, h4⟩ := hcd
  have hv := he fo
  rw [hf] at hv
  obtain ⟨vs, e1, e2, e3⟩ : ∃ vs : Array Value, a.eval fo = .func (.func g) #[] vs ∧ vs.size = caps.length ∧ ∀ j p, caps[j]? = some p → OV β κ D w S (vs.getD j undef) p := by
    generalize a.eval fo = v at hv
    cases hv with
    | rv _ _ h => cases h
    | fn _ vs _ hl hv => exact ⟨vs, rfl, hl, hv⟩
  have hr : (execOp a.eval o).run P w = .ok (.enter g (c.args.map a.eval ++ vs)) w := by
    have f2' : fn.body ≠ none := fun e => by rw [e] at f2; cases f2
    have f3' : fn.name ≠ "runtime.NumGoroutine" := by simpa using f3
    simp [execOp, ho, resolve, hc, e1, Deferred.ofValue, invoke, callFunc, f1, f2', f3']
  unfold Oper.wp
  rw [hr, Oper.upon_enter]
  refine (h4 D tc fr w _ S β κ A hm (by simp [e2]) (fun i p hp => ?_)).mono ?_
  · by_cases hi : i < c.args.size
    · rw [List.getElem?_append_left (by simpa using hi), List.getElem?_map] at hp
      obtain ⟨x, hx, rfl⟩ := Option.map_eq_some_iff.1 hp
      have hx' : c.args[i]? = some x := by simpa using hx
      have : (c.args.map a.eval ++ vs).getD i undef = a.eval x := by
        rw [Array.getD_eq_getD_getElem?, Array.getElem?_append_left (by simpa using hi)]
        simp [hx']
      rw [this]; exact he x
    · rw [List.getElem?_append_right (by simpa using hi)] at hp
      have : (c.args.map a.eval ++ vs).getD i undef = vs.getD (i - c.args.size) undef := by
        rw [Array.getD_eq_getD_getElem?, Array.getElem?_append_right (by simpa using hi)]
        simp [Array.getD_eq_getD_getElem?]
      rw [this]; exact e3 _ p (by simpa using hp)
  · rintro e w' ⟨v, rfl, r', m'', S', D', β', κ', A', ⟨rfl, rfl⟩, g2, g3, g4, g5⟩
    exact hK v w' ⟨_, _, S', D', β', κ', A', hk, g2, g3, gdv_ok (fun _ => g4) (fun e => by rw [hcs] at e; cases e), g5⟩
theorem same2_eq {W : List Id} {m m' m2' : Mem} (h : Same2 W m m' m m2') : m2' = m' := by
  obtain ⟨h1, h2⟩ := h
  have : m2'.o = m'.o := funext fun o => by
    rcases h2 o with ⟨a, b⟩ | ⟨_, a⟩
    · rw [a, b]
    · exact a
  cases m2'; cases m'; simp_all
/-- A call of a function. -/
def isCall : Op → Bool
  | .call c => match c.callee with | .value _ => true | _ => false
  | _ => false
theorem aop_ok {K : PV → Mem → Prop} {next : Act → World → Prop} {Q : Exit → Act → World → Prop} (fr : ∀ r m', K r m' → m'.nx = m.nx + 1 → Fr D m.nx) (hm : MRD w S D m β κ A) (he : ∀ x, OV β κ D w S (a.eval x) (e x)) (hcs : cs.all id = true) {op : Op} (ho : o.op = op) (hcl : isCall op = true → D = dN m.nx) (h : aop P cs op e m K)
    (hK : ∀ v w', Left w S D m β κ A K v w' → next (a.put o.dst v) w') : o.wp P a w next Q := by
  unfold aop at h
  split at h
  · simp only [onG, if_pos hcs] at h
    split at h
    · rename_i hv
      obtain ⟨v, w', hr, hl⟩ := o_box hm he (fr _ _ h rfl) ho hv K h
      exact value_ok hK hr hl
    · exact h.elim
  · simp only [onG, if_pos hcs] at h
    obtain ⟨hz, h⟩ := h
    obtain ⟨v, w', hr, hl⟩ := o_alloc hm (fr _ _ h rfl) (ρ := a.eval) ho hz K h
    exact value_ok hK hr hl
  · simp only [onG, if_pos hcs] at h
    obtain ⟨w', hr, hl⟩ := o_store hm he ho K h
    unfold Oper.wp
    rw [hr]
    exact hK _ _ hl
  · simp only [onG, if_pos hcs] at h
    split at h
    · rename_i hcc
      obtain ⟨⟨h1, h2, h3, h4, h5⟩, hk⟩ := h
      obtain ⟨v, w', hr, hl⟩ := o_buildSlice hm he (fr _ _ hk rfl) ho hcc h1 h2 h3 h4 h5 K hk
      exact value_ok hK hr hl
    · exact h.elim
  · simp only [onG, if_pos hcs] at h
    split at h
    · rename_i h1 h2
      obtain ⟨⟨h3, h4, h5, h6⟩, hk⟩ := h
      obtain ⟨v, w', hr, hl⟩ := o_makeSlice hm he (fr _ _ hk rfl) ho h1 h2 h3 h4 h5 h6 K hk
      exact value_ok hK hr hl
    · exact h.elim
  · simp only [onG, if_pos hcs] at h
    obtain ⟨h1, h2, h⟩ := h
    obtain ⟨v, w', hr, hl⟩ := o_makeMap (fr _ _ h rfl) hm (ρ := a.eval) ho he h1 h2 K h
    exact value_ok hK hr hl
  · simp only [onG, if_pos hcs] at h
    split at h
    · rename_i hx hk
      split at h
      · rename_i hq
        obtain ⟨w', hr, hl⟩ := o_mapUpdate hm he ho hx hk hq h.1 h.2.1 K h.2.2
        unfold Oper.wp
        rw [hr]
        exact hK _ _ hl
      · exact h.elim
    · exact h.elim
  · split at h
    · rename_i hx
      split at h
      · rename_i hu8
        simp only [onG, if_pos hcs] at h
        obtain ⟨⟨h1, h2, h3⟩, h⟩ := h
        obtain ⟨v, w', hr, hl⟩ := o_toBytes hm he (fr _ _ h rfl) ho hx hu8 h1 h2 h3 K h
        exact value_ok hK hr hl
      · exact pure_op hm he hcs ho h hK
    · exact pure_op hm he hcs ho h hK
  · rename_i c
    split at h
    · rename_i hc
      simp only [onG, if_pos hcs] at h
      split at h
      · rename_i x k t ts ha ht
        have ha' : c.args = #[x, k] := by rw [← Array.toArray_toList (xs := c.args), ha]
        have ht' : c.argTypes = (t :: ts).toArray := by rw [← ht]
        split at h
        · rename_i hx hk
          split at h
          · rename_i hq
            have vx := he x; have vk := he k
            rw [hx] at vx; rw [hk] at vk
            obtain ⟨v, w', hr, hl⟩ := o_delete (ty := o.type) (t' := 0) hm vx vk hq h.1 K h.2
            refine value_ok hK (w' := w') (v := v) ?_ hl
            simp [execOp, ho, resolve, hc, ha', ht', invoke, builtin]
            rw [hr]; rfl
          · exact h.elim
        · exact h.elim
      · exact h.elim
    · rename_i hc
      simp only [onG, if_pos hcs] at h
      split at h
      · rename_i s x t t' ha ht
        have ha' : c.args = #[s, x] := by rw [← Array.toArray_toList (xs := c.args), ha]
        have ht' : c.argTypes = #[t, t'] := by rw [← Array.toArray_toList (xs := c.argTypes), ht]
        obtain ⟨v, w', hr, hl⟩ := o_append (ty := o.type) hm (he s) (he x) h.1 K fr h.2
        refine value_ok hK (w' := w') (v := v) ?_ hl
        simp [execOp, ho, resolve, hc, ha', ht', invoke, builtin, hr]
      · exact h.elim
    · exact pure_op hm he hcs ho h hK
    · split at h
      · rename_i hf
        rename_i hc _ _
        obtain ⟨r, m', R, W, h1, h2, h3⟩ := h
        obtain ⟨m2', hs, hd⟩ := (h1 hcs).2 m rfl (fun _ _ => rfl)
        rw [same2_eq hs] at hd
        have hD := hcl (by simp only [isCall]; split <;> simp_all)
        exact call_ok hd (by rw [hD]; exact TC_dN _) (fun o a b c => by rw [hD] at c; exact b c) hm he hcs ho (by assumption) hf h3 hK
      · exact h.elim
    · exact h.elim
  · exact pure_op hm he hcs ho h hK
end
end Go.Proofs.YtofaiiobggnibaaW.AW
namespace Go.Proofs.YtofaiiobggnibaaW.AW
open Go Go.RowKit
set_option linter.unusedVariables false
set_option linter.unusedSimpArgs false

/-- What there was at the call, and how many slots there are. -/
structure Cx where
  w0 : World
  S0 : Nat → Prop
  m0 : Mem
  β0 : Id → Nat
  κ0 : Id → Nat
  A0 : Id → Nat → Prop
  nt : Nat
def Cx.FRD (C : Cx) (D : Id → Prop) (s : AS) (a : Act) (w : World) : Prop := ∃ β κ A S, AW.FRD C.w0 C.S0 C.m0 C.β0 C.κ0 C.A0 C.nt s a w D β κ A S
def Cx.FR (C : Cx) (s : AS) (a : Act) (w : World) : Prop := ∃ β κ A S, AW.FR C.w0 C.S0 C.m0 C.β0 C.κ0 C.A0 C.nt s a w β κ A S
section
variable {P : Program} {C : Cx} {Q : Exit → AS → Prop} {s : AS} {ops : Array Oper}
theorem ev_ok {D : Id → Prop} {β κ : Id → Nat} {A : Id → Nat → Prop} {S : Nat → Prop} {a : Act} {w : World} {cs : List Bool} (h : FRD C.w0 C.S0 C.m0 C.β0 C.κ0 C.A0 C.nt s a w D β κ A S) (hcs : cs.all id = true) (x : Operand) : OV β κ D w S (a.eval x) (strip cs (s.ev x)) := by
  refine OV.strip ?_ hcs
  cases x with
  | tmp t => exact h.tv t
  | const v => exact ofVal_ok
  | global g => exact .rv _ _ (.und _)
  | func f => exact .fn f #[] [] rfl (fun j p hp => by simp at hp)
theorem OV.gd_inv {β κ : Id → Nat} {D : Id → Prop} {w : World} {S : Nat → Prop} {v : Value} {cs : List Bool} {p : PV} (h : OV β κ D w S v (.gd cs p)) : (cs.all id = true → OV β κ D w S v p) ∧ (cs.all id = false → v = undef) := by
  cases h with
  | rv _ _ h => cases h with | gd _ _ _ h hu => exact ⟨fun e => .rv _ _ (h e), hu⟩
  | gd _ _ _ h hu => exact ⟨h, hu⟩
theorem agd_ok {D : Id → Prop} {a : Act} {w : World} (h : C.FRD D s a w) {g : Option (Nat × Bool)} {cs : List Bool} (hg : agd (ops.toList.map (·.dst)) s g = some cs) {o : Oper} (ho : o.guard = g) : cs.all id = Region.wanted o (yielded ops a.tmps) := by
  obtain ⟨β, κ, A, S, h⟩ := h
  unfold agd at hg
  split at hg
  · simp only [Option.some.injEq] at hg; subst hg; simp [Region.wanted, ho]
  · rename_i j b
    simp only [Region.wanted, ho]
    split at hg
    · rename_i t ht
      have hy : ∀ v, a.tmps.getD t undef = v → yielded ops a.tmps j = match v with | .bool b => some b | _ => none := fun v hv => by
        unfold yielded
        have e : (ops[j]?).bind (·.dst) = some t := by
          simp only [gtmp, List.getElem?_map] at ht
          have e0 : ops.toList[j]? = ops[j]? := by simp
          rw [e0] at ht
          cases hq : ops[j]? with
          | none => rw [hq] at ht; cases ht
          | some o' => rw [hq] at ht; exact ht
        rw [e]
        cases hq : a.tmps[t]? with
        | none => simp [Array.getD_eq_getD_getElem?, hq] at hv; subst hv; simp [hq, undef]
        | some u => simp [Array.getD_eq_getD_getElem?, hq] at hv; subst hv; simp [hq]; cases u <;> rfl
      have hv := h.tv t
      split at hg
      · rename_i x hx
        rw [hx] at hv
        simp only [Option.some.injEq] at hg; subst hg
        rw [hy _ hv.bool_inv]
        cases x <;> cases b <;> rfl
      · rename_i cs' x hx
        rw [hx] at hv
        simp only [Option.some.injEq] at hg; subst hg
        rw [List.all_append]
        by_cases hc : cs'.all id = true
        · have e : a.tmps.getD t undef = .bool x := (hv.gd_inv.1 hc).bool_inv
          rw [hy _ e, hc]
          cases x <;> cases b <;> rfl
        · have hc' : cs'.all id = false := by simpa using hc
          have e : a.tmps.getD t undef = undef := hv.gd_inv.2 hc'
          rw [hy _ e, hc']
          cases b <;> rfl
      · cases hg
    · cases hg
theorem aop_skip {cs : List Bool} {op : Op} {e : Operand → PV} {m : Mem} {K : PV → Mem → Prop} (hcs : cs.all id = false) (h : aop P cs op e m K) : ∃ r, K (.gd cs r) m := by
  have gd_ : ∀ r, gdv cs r = .gd cs r := fun r => by
    unfold gdv; split
    · cases hcs
    · rfl
  have hcs' : ¬ cs.all id = true := by rw [hcs]; simp
  have no_ : ∀ {p : Prop}, onG cs p (K (gdv cs .und) m) → ∃ r, K (.gd cs r) m := fun h => by
    simp only [onG, if_neg hcs'] at h
    exact ⟨_, gd_ _ ▸ h⟩
  unfold aop at h
  split at h
  · exact no_ h
  · exact no_ h
  · exact no_ h
  · exact no_ h
  · exact no_ h
  · exact no_ h
  · exact no_ h
  · split at h
    · split at h
      · exact no_ h
      · exact ⟨_, gd_ _ ▸ h.2⟩
    · exact ⟨_, gd_ _ ▸ h.2⟩
  · split at h
    · exact no_ h
    · exact no_ h
    · exact ⟨_, gd_ _ ▸ h.2⟩
    · split at h
      · obtain ⟨r, m', R, W, _, h2, h3⟩ := h
        rcases h2 with h2 | rfl
        · exact absurd h2 hcs'
        · exact ⟨r, gd_ _ ▸ h3⟩
      · exact h.elim
    · exact h.elim
  · exact ⟨_, gd_ _ ▸ h.2⟩
theorem dst_lt {d : Option Tmp} {n : Nat} (h : d.all (· < n) = true) : ∀ i, d = some i → i < n := fun i e => by subst e; simpa using h
theorem arun_ok {K : AS → Prop} {Q' : Exit → Act → World → Prop} (hK : ∀ s a w, C.FR s a w → K s → Q' .normal a w) : ∀ (rest : List Oper) (s : AS) (a : Act) (w : World), C.FR s a w → arun P C.nt (ops.toList.map (·.dst)) rest K s → wpList P ops Q' rest a w
  | [], s, a, w, h, hr => hK s a w h hr
  | o :: rest, s, a, w, h, hr => by
    simp only [arun] at hr
    split at hr
    · rename_i cs hg
      obtain ⟨hd, hr⟩ := hr
      have hw := agd_ok (D := AW.dN s.m.nx) h hg rfl
      obtain ⟨β, κ, A, S, hf⟩ := h
      unfold wpList
      rw [← hw]
      by_cases hc : cs.all id = true
      · rw [if_pos hc]
        left
        refine aop_ok (fun _ _ _ _ => Fr.hd _) hf.mr (ev_ok hf hc) hc rfl (fun _ => rfl) hr (fun v w' hl => ?_)
        obtain ⟨r, m', S', D', β', κ', A', h1, h2, h3, h4, h5⟩ := hl
        have hD : D' = AW.dN m'.nx := funext fun o => propext ((h5 o).trans ⟨fun h => h.elim (fun h => hb.mono h h2.le) (·.1), fun h => (Classical.em (hb o s.m.nx)).elim .inl (fun h2 => .inr ⟨h, h2⟩)⟩)
        subst hD
        exact arun_ok hK rest _ _ _ ⟨β', κ', A', S', hf.step h2 h3 (dst_lt hd) h4⟩ h1
      · rw [if_neg hc]
        have hc' : cs.all id = false := by simpa using hc
        obtain ⟨r, h1⟩ := aop_skip hc' hr
        exact arun_ok hK rest _ _ _ ⟨β, κ, A, S, hf.step (Ext.refl _ _ _ _ _ _) hf.mr (dst_lt hd) (.gd _ _ _ (fun e => absurd e hc) (fun _ => rfl))⟩ h1
    · exact hr.elim
end
end Go.Proofs.YtofaiiobggnibaaW.AW
namespace Go.Proofs.YtofaiiobggnibaaW.AW
open Go Go.RowKit
set_option linter.unusedVariables false
set_option linter.unusedSimpArgs false

section
variable {P : Program} {cs : List Bool} {e e' : Operand → PV} {m : Mem}
theorem apure_congr (op : Op) (h : ∀ x ∈ op.operands, e x = e' x) : apure P cs op e m = apure P cs op e' m := by
  cases op <;> simp only [Op.operands] at h
  case unOp u t x => cases u <;> simp_all [apure]
  case build t ps =>
    have hp : ps.toList.map (fun x => (x.1, e x.2)) = ps.toList.map (fun x => (x.1, e' x.2)) := List.map_congr_left fun x hx => by
      rw [h x.2 (by simp; exact ⟨x.1, by simpa using hx⟩)]
    simp only [apure, hp]
  case makeFunc fn fi ca =>
    have hp : ca.toList.map e = ca.toList.map e' := List.map_congr_left fun x hx => h x (by simp at hx ⊢; exact .inr hx)
    cases fn <;> simp only [apure, hp]
  case slice t x lo hi mx => cases mx <;> cases lo <;> cases hi <;> simp_all [apure, optI]
  case call c =>
    have hc : ∀ x ∈ c.args.toList, e x = e' x := fun x hx => h x (by simp [Call.operands]; exact .inr (by simpa using hx))
    simp only [apure]
    split
    · split
      · rename_i q _; rw [hc _ (by rw [q]; simp)]
      · rfl
    · split
      · rename_i q; rw [hc _ (by rw [q]; simp), hc _ (by rw [q]; simp)]
      · rfl
    · split
      · rename_i q; rw [hc _ (by rw [q]; simp), hc _ (by rw [q]; simp)]
      · rfl
    · rfl
  all_goals (first | rfl | (simp_all [apure]; done))
theorem aop_congr (op : Op) (K : PV → Mem → Prop) (h : ∀ x ∈ op.operands, e x = e' x) : aop P cs op e m K = aop P cs op e' m K := by
  have hp := apure_congr (P := P) (cs := cs) (m := m) op h
  cases op <;> simp only [Op.operands] at h
  case buildSlice t n ps =>
    have hp : ps.toList.map (fun x => e x.2) = ps.toList.map (fun x => e' x.2) := List.map_congr_left fun x hx => by
      rw [h x.2 (by simp; exact ⟨x.1, by simpa using hx⟩)]
    simp only [aop, hp]
  case makeMap t r => cases r <;> simp_all [aop, hintOk]
  case convert s d x =>
    have hx : e x = e' x := h x (by simp)
    simp only [aop, hx, hp]
  case call c =>
    have hc : ∀ x ∈ c.args.toList, e x = e' x := fun x hx => h x (by simp [Call.operands]; exact .inr (by simpa using hx))
    have hm : c.args.toList.map e = c.args.toList.map e' := List.map_congr_left hc
    simp only [aop]
    split
    · congr 1
      split
      · rename_i q1 q2; rw [hc _ (by rw [q1]; simp), hc _ (by rw [q1]; simp)]
      · rfl
    · congr 1
      split
      · rename_i q1 q2; rw [hc _ (by rw [q1]; simp), hc _ (by rw [q1]; simp)]
      · rfl
    · rw [hp]
    · rename_i f hf
      have : e f = e' f := h f (by simp [Call.operands, hf])
      rw [this, hm]
    · rfl
  all_goals (first | rfl | (simp only [aop, hp]; done) | (simp_all [aop]; done))
theorem onG_ex {p : (PV → Mem → Prop) → Prop} {K : PV → Mem → Prop} (hp : p K → ∃ r m', K r m' ∧ p (fun q n => q = r ∧ n = m')) (h : onG cs (p K) (K (gdv cs .und) m)) : ∃ r m', K r m' ∧ onG cs (p (fun q n => q = r ∧ n = m')) (gdv cs .und = r ∧ m = m') := by
  unfold onG at h ⊢
  by_cases hc : cs.all id = true
  · rw [if_pos hc] at h
    obtain ⟨r, m', h1, h2⟩ := hp h
    exact ⟨r, m', h1, by rw [if_pos hc]; exact h2⟩
  · rw [if_neg hc] at h
    exact ⟨_, _, h, by rw [if_neg hc]; exact ⟨rfl, rfl⟩⟩
theorem astore_ex {t : TypeId} {a x : PV} {K : PV → Mem → Prop} (h : astore P t a x m K) : ∃ r m', K r m' ∧ astore P t a x m (fun q n => q = r ∧ n = m') := by
  unfold astore at h
  split at h
  · rename_i hv
    split at h
    · split at h
      · rename_i ho; exact ⟨_, _, h.2, by simp only [astore, hv, ho]; exact ⟨h.1, (by first | rfl | trivial), (by first | rfl | trivial)⟩⟩
      · exact h.elim
    · split at h
      · rename_i ho; exact ⟨_, _, h.2, by simp only [astore, hv, ho]; exact ⟨h.1, (by first | rfl | trivial), (by first | rfl | trivial)⟩⟩
      · exact h.elim
    · exact h.elim
  · exact h.elim
theorem aappend_ex {t : TypeId} {s x : PV} {K : PV → Mem → Prop} (h : aappend P t s x m K) : ∃ r m', K r m' ∧ aappend P t s x m (fun q n => q = r ∧ n = m') := by
  unfold aappend at h
  split at h
  · rename_i hs
    split at h
    · exact ⟨_, _, h.2.2, by simp only [aappend, hs]; exact ⟨h.1, h.2.1, (by first | rfl | trivial), (by first | rfl | trivial)⟩⟩
    · split at h
      · rename_i ho; exact ⟨_, _, h.2.2, by simp only [aappend, hs, ho]; exact ⟨h.1, h.2.1, (by first | rfl | trivial), (by first | rfl | trivial)⟩⟩
      · exact h.elim
    · exact h.elim
  · exact h.elim
/-- What an operation gives can be told apart from what follows. -/
theorem aop_ex {op : Op} {K : PV → Mem → Prop} (h : aop P cs op e m K) : ∃ r m', K r m' ∧ aop P cs op e m (fun q n => q = r ∧ n = m') := by
  cases op
  case box t x =>
    simp only [aop] at h ⊢
    refine onG_ex (p := fun K => match pcells (e x) with | some vs => K (.bp [m.nx] 0) (m.grow none (.box vs)) | none => False) (fun h => ?_) h
    split at h
    · rename_i hv; exact ⟨_, _, h, by simp only [hv]; exact ⟨(by first | rfl | trivial), (by first | rfl | trivial)⟩⟩
    · exact h.elim
  case alloc t =>
    simp only [aop] at h ⊢
    exact onG_ex (p := fun K => (tyD P t).zok = true ∧ K (.bp [m.nx] 0) (m.grow none (.box (tyD P t).zc))) (fun h => ⟨_, _, h.2, h.1, rfl, rfl⟩) h
  case store t a x =>
    simp only [aop] at h ⊢
    exact onG_ex (p := fun K => astore P t (e a) (e x) m K) astore_ex h
  case buildSlice t n ps =>
    simp only [aop] at h ⊢
    refine onG_ex (p := fun K => match allCells (ps.toList.map (fun x => e x.2)) with
      | some cc => ((tyD P t).eok = true ∧ okIdx 0 ps.toList = true ∧ ps.size = n ∧ (∀ c ∈ cc, c.length = (tyD P t).es) ∧ n * (tyD P t).es ≤ 16777216) ∧ K (.sl [m.nx] (tyD P t).es n 0 n) (m.grow none (.row (tyD P t).es n (fun i => cc.getD i [])))
      | none => False) (fun h => ?_) h
    split at h
    · rename_i hv; exact ⟨_, _, h.2, by simp only [hv]; exact ⟨h.1, (by first | rfl | trivial), (by first | rfl | trivial)⟩⟩
    · exact h.elim
  case makeSlice t l c =>
    simp only [aop] at h ⊢
    refine onG_ex (p := fun K => match e l, e c with
      | .int _ l, .int _ c => ((tyD P t).eok = true ∧ 0 ≤ l ∧ l ≤ c ∧ c * (tyD P t).eb ≤ 140737488355328) ∧ K (.sl [m.nx] (tyD P t).es l.toNat 0 l.toNat) (m.grow none (.row (tyD P t).es l.toNat (fun _ => (tyD P t).ez)))
      | _, _ => False) (fun h => ?_) h
    split at h
    · rename_i h1 h2; exact ⟨_, _, h.2, by simp only [h1, h2]; exact ⟨h.1, (by first | rfl | trivial), (by first | rfl | trivial)⟩⟩
    · exact h.elim
  case makeMap t r =>
    simp only [aop] at h ⊢
    exact onG_ex (p := fun K => (match (tyD P t).k with | .map _ _ => True | _ => False) ∧ hintOk e r ∧ K (.mp [m.nx]) (m.grow none (.map (fun _ => none)))) (fun h => ⟨_, _, h.2.2, h.1, h.2.1, rfl, rfl⟩) h
  case mapUpdate t x k v =>
    simp only [aop] at h ⊢
    refine onG_ex (p := fun K => match e x, e k with
      | .mp o, .int .i64 i => match m.o o with
        | some (.map f) => (match (tyD P t).k with | .map kt _ => tk P kt = .int .i64 | _ => False) ∧ (e v).clo = true ∧ K .und (m.set o (.map (upd f i (some (e v)))))
        | _ => False
      | _, _ => False) (fun h => ?_) h
    split at h
    · rename_i hx hk
      split at h
      · rename_i hq; exact ⟨_, _, h.2.2, by simp only [hx, hk, hq]; exact ⟨h.1, h.2.1, (by first | rfl | trivial), (by first | rfl | trivial)⟩⟩
      · exact h.elim
    · exact h.elim
  case convert s d x =>
    simp only [aop] at h ⊢
    split at h
    · rename_i b hx
      split at h
      · rename_i hu
        simp only [hx, if_pos hu]
        exact onG_ex (p := fun K => (tk P s = .string ∧ (tyD P d).eok = true ∧ (tyD P d).es = 1) ∧ K (.sl [m.nx] 1 b.size 0 b.size) (m.grow none (.row 1 b.size (fun i => [.int .u8 (bt b i)])))) (fun h => ⟨_, _, h.2, h.1, rfl, rfl⟩) h
      · rename_i hu; exact ⟨_, _, h.2, by simp only [hx, if_neg hu]; exact ⟨h.1, (by first | rfl | trivial), (by first | rfl | trivial)⟩⟩
    · rename_i hx
      exact ⟨_, _, h.2, h.1, rfl, rfl⟩
  case call c =>
    simp only [aop] at h ⊢
    split at h
    · rename_i hc
      refine onG_ex (p := fun K => match c.args.toList, c.argTypes.toList with
        | [x, k], t :: _ => (match e x, e k with
          | .mp o, .int .i64 i => match m.o o with
            | some (.map f) => (match (tyD P t).k with | .map kt _ => tk P kt = .int .i64 | _ => False) ∧ K (.tu []) (m.set o (.map (upd f i none)))
            | _ => False
          | _, _ => False)
        | _, _ => False) (fun h => ?_) h
      split at h
      · rename_i q1 q2
        split at h
        · rename_i hx hk
          split at h
          · rename_i hq; exact ⟨_, _, h.2, by simp only [q1, q2, hx, hk, hq]; exact ⟨h.1, (by first | rfl | trivial), (by first | rfl | trivial)⟩⟩
          · exact h.elim
        · exact h.elim
      · exact h.elim
    · rename_i hc
      refine onG_ex (p := fun K => match c.args.toList, c.argTypes.toList with | [s, x], [t, t'] => ((∃ e', P.underlying t' = some (.slice e')) ∨ P.underlying t' = some .string) ∧ aappend P t (e s) (e x) m K | _, _ => False) (fun h => ?_) h
      split at h
      · rename_i q1 q2
        obtain ⟨r, m', h1, h2⟩ := aappend_ex h.2
        exact ⟨r, m', h1, by first | exact ⟨h.1, h2⟩ | (simp only [q1, q2]; exact ⟨h.1, h2⟩)⟩
      · exact h.elim
    · rename_i hb hc
      exact ⟨_, _, h.2, h.1, rfl, rfl⟩
    · rename_i hc
      split at h
      · rename_i hf
        obtain ⟨r, m', R, W, h1, h2, h3⟩ := h
        exact ⟨_, _, h3, by first | exact ⟨r, m', R, W, h1, h2, rfl, rfl⟩ | (simp only [hf]; exact ⟨r, m', R, W, h1, h2, rfl, rfl⟩)⟩
      · exact h.elim
    · exact h.elim
  all_goals (simp only [aop] at h ⊢; exact ⟨_, _, h.2, h.1, rfl, rfl⟩)
theorem rdN_congr (op : Op) (h : ∀ x ∈ op.operands, e x = e' x) : rdN op e = rdN op e' := by
  cases op <;> simp only [Op.operands] at h
  case call c =>
    have hc : ∀ x ∈ c.args.toList, e x = e' x := fun x hx => h x (by simp [Call.operands]; exact .inr (by simpa using hx))
    simp only [rdN]
    split
    · split
      · rename_i q; rw [hc _ (by rw [q]; simp)]
      · rfl
    · rfl
  all_goals (first | rfl | (simp_all [rdN]; done))
theorem wrN_congr (op : Op) (h : ∀ x ∈ op.operands, e x = e' x) : wrN op e m = wrN op e' m := by
  cases op <;> simp only [Op.operands] at h
  case call c =>
    have hc : ∀ x ∈ c.args.toList, e x = e' x := fun x hx => h x (by simp [Call.operands]; exact .inr (by simpa using hx))
    simp only [wrN]
    split
    · split
      · rename_i q; rw [hc _ (by rw [q]; simp)]
      · rfl
    · split
      · rename_i q; rw [hc _ (by rw [q]; simp)]
      · rfl
    · rfl
  all_goals (first | rfl | (simp_all [wrN]; done))
theorem aopD_congr (op : Op) (K : PV → Mem → List Id → List Id → Prop) (h : ∀ x ∈ op.operands, e x = e' x) : aopD P cs op e m K = aopD P cs op e' m K := by
  have h1 := fun K => aop_congr (P := P) (cs := cs) (m := m) op K h
  have h2 := rdN_congr op h
  have h3 := wrN_congr (m := m) op h
  cases op
  case call c =>
    simp only [aopD]
    split
    · rename_i f hf
      simp only [Op.operands] at h
      have hc : ∀ x ∈ c.args.toList, e x = e' x := fun x hx => h x (by simp [Call.operands]; exact .inr (by simpa using hx))
      have hm : c.args.toList.map e = c.args.toList.map e' := List.map_congr_left hc
      have : e f = e' f := h f (by simp [Call.operands, hf])
      rw [this, hm]
    · rw [h1, h2, h3]
  all_goals (simp only [aopD]; rw [h1, h2, h3])
/-- What an operation gives can be told apart from what follows, its objects too. -/
theorem aopD_ex {op : Op} {K : PV → Mem → List Id → List Id → Prop} (h : aopD P cs op e m K) : ∃ r m' R W, K r m' R W ∧ aopD P cs op e m (fun q n R' W' => q = r ∧ n = m' ∧ R' = R ∧ W' = W) := by
  have fin : ∀ {K : PV → Mem → List Id → List Id → Prop} {R W : List Id}, aop P cs op e m (fun r m' => K r m' R W) → ∃ r m' R' W', K r m' R' W' ∧ aop P cs op e m (fun q n => q = r ∧ n = m' ∧ R = R' ∧ W = W') := fun {K R W} h => by
    obtain ⟨r, m', h1, h2⟩ := aop_ex h
    refine ⟨r, m', R, W, h1, ?_⟩
    have e : (fun q n => q = r ∧ n = m') = (fun (q : PV) (n : Mem) => q = r ∧ n = m' ∧ R = R ∧ W = W) := by funext q n; simp
    rw [e] at h2; exact h2
  cases op
  case call c =>
    simp only [aopD] at h ⊢
    split at h
    · split at h
      · rename_i hf
        obtain ⟨r, m', R, W, h1, h2, h3⟩ := h
        exact ⟨_, _, R, W, h3, by first | exact ⟨r, m', R, W, h1, h2, rfl, rfl, rfl, rfl⟩ | (simp only [hf]; exact ⟨r, m', R, W, h1, h2, rfl, rfl, rfl, rfl⟩)⟩
      · exact h.elim
    · exact fin h
  all_goals (simp only [aopD] at h ⊢; exact fin h)
theorem aopD_skip {op : Op} {K : PV → Mem → List Id → List Id → Prop} (hcs : cs.all id = false) (h : aopD P cs op e m K) : ∃ r R W, K (.gd cs r) m R W := by
  have fin : ∀ {K : PV → Mem → List Id → List Id → Prop} {R W : List Id}, aop P cs op e m (fun r m' => K r m' R W) → ∃ r R W, K (.gd cs r) m R W := fun h => by
    obtain ⟨r, h⟩ := aop_skip hcs h; exact ⟨r, _, _, h⟩
  cases op
  case call c =>
    simp only [aopD] at h
    split at h
    · split at h
      · obtain ⟨r, m', R, W, h1, h2, h3⟩ := h
        rcases h2 with h2 | rfl
        · rw [hcs] at h2; cases h2
        · have gd_ : gdv cs r = .gd cs r := by
            unfold gdv; split
            · cases hcs
            · rfl
          exact ⟨r, R, W, gd_ ▸ h3⟩
      · exact h.elim
    · exact fin h
  all_goals (simp only [aopD] at h; exact fin h)
end
end Go.Proofs.YtofaiiobggnibaaW.AW
namespace Go.Proofs.YtofaiiobggnibaaW.AW
open Go Go.RowKit
set_option linter.unusedVariables false
set_option linter.unusedSimpArgs false

def bds (o : Oper) : List Nat := (o.after.toList.filter (Region.binds .any ·)).map (·.on)
def nd (acc : List Nat) (o : Oper) : Nat := (bds o).foldl (fun s j => s ||| (2 ^ j ||| acc.getD j 0)) 0
/-- Whom each operation waits for, as bits. -/
def nds : List Oper → List Nat → List Nat
  | [], acc => acc
  | o :: r, acc => nds r (acc ++ [nd acc o])
def dsto (ops : Array Oper) (j : Nat) : Option Tmp := (ops[j]?).bind (·.dst)
def bdsAt (ops : Array Oper) (j : Nat) : List Nat := match ops[j]? with | some o => bds o | none => []
/-- Who is looked at is waited for, or waits; no slot is filled twice. -/
def drawOk (ops : Array Oper) : Bool := (List.range ops.size).all fun i => match ops[i]? with
  | none => true
  | some o => (bds o).all (· < i) && ((o.looksAt ops).all (fun t => (List.range ops.size).all fun j => dsto ops j != some t || ((bds o).contains j || (bdsAt ops j).contains i)) &&
      (List.range ops.size).all (fun j => j == i || (o.dst.isNone || dsto ops j != o.dst)))
/-- Nothing in common. -/
def disj (a b : List Id) : Bool := a.all (fun x => !b.contains x)
/-- Whoever stands before an operation is waited for, or has nothing to do with what it looks at and changes. -/
def evB (N : List Nat) (rd wr : List (Nat × List Id)) (i : Nat) (R W : List Id) : Bool :=
  rd.all (fun p => (N.getD i 0).testBit p.1 || disj p.2 W) && wr.all (fun p => (N.getD i 0).testBit p.1 || disj p.2 (R ++ W))
theorem disj_nil (a : List Id) : disj a [] = true := by simp [disj]
theorem evOk_p {N : List Nat} {rd : List (Nat × List Id)} {i : Nat} {R : List Id} : evB N rd [] i R [] = true := by simp [evB, disj_nil]
theorem evOk_e {N : List Nat} {rd wr : List (Nat × List Id)} {i : Nat} : evB N rd wr i [] [] = true := by simp [evB, disj_nil]
def addE (i : Nat) (l : List Id) (acc : List (Nat × List Id)) : List (Nat × List Id) := match l with | [] => acc | l => (i, l) :: acc
theorem addE_n {i : Nat} {acc : List (Nat × List Id)} : addE i [] acc = acc := rfl
theorem addE_c {i : Nat} {x : Id} {l : List Id} {acc : List (Nat × List Id)} : addE i (x :: l) acc = (i, x :: l) :: acc := rfl
theorem addE_mem {i : Nat} {l : List Id} {acc : List (Nat × List Id)} {p : Nat × List Id} (h : p ∈ acc) : p ∈ addE i l acc := by cases l <;> simp [addE, h]
theorem addE_new {i : Nat} {l : List Id} {acc : List (Nat × List Id)} : l = [] ∨ (i, l) ∈ addE i l acc := by cases l <;> simp [addE]
def arunD (P : Program) (nt : Nat) (ds : List (Option Tmp)) (N : List Nat) : Nat → List (Nat × List Id) → List (Nat × List Id) → List Oper → (AS → Prop) → AS → Prop
  | _, _, _, [], K, s => K s
  | i, rd, wr, o :: rest, K, s => match agd ds s o.guard with
    | some cs => (o.dst.all (· < nt) = true) ∧ aopD P cs o.op (fun x => strip cs (s.ev x)) s.m (fun r m' R W => evB N rd wr i R W = true ∧ arunD P nt ds N (i + 1) (addE i R rd) (addE i W wr) rest K (({ s with m := m' } : AS).put o.dst r))
    | none => False
def Stp (P : Program) (nt : Nat) (ds : List (Option Tmp)) (o : Oper) (s s' : AS) (R W : List Id) : Prop := ∃ cs r m', agd ds s o.guard = some cs ∧ o.dst.all (· < nt) = true ∧
  aopD P cs o.op (fun x => strip cs (s.ev x)) s.m (fun q n R' W' => q = r ∧ n = m' ∧ R' = R ∧ W' = W) ∧ s' = ({ s with m := m' } : AS).put o.dst r
def ordB (N : List Nat) (j i : Nat) : Prop := (N.getD i 0).testBit j = true
/-- Of two operations that the order does not tell apart neither changes what the other one looks at or changes. -/
def Apart (N : List Nat) (R W : Nat → List Id) (j i : Nat) : Prop := ordB N j i ∨ ((∀ o, o ∈ R j → o ∉ W i) ∧ (∀ o, o ∈ W j → o ∉ R i ∧ o ∉ W i))
theorem disj_spec {a b : List Id} (h : disj a b = true) : ∀ o, o ∈ a → o ∉ b := fun o h1 h2 => by
  simp only [disj, List.all_eq_true, Bool.not_eq_true', List.contains_eq_mem, decide_eq_false_iff_not] at h
  exact h o h1 h2
theorem trace {P : Program} {nt : Nat} {ds : List (Option Tmp)} {N : List Nat} {K : AS → Prop} : ∀ (l : List Oper) (i : Nat) (rd wr : List (Nat × List Id)) (s : AS), arunD P nt ds N i rd wr l K s →
    ∃ (T : Nat → AS) (R W : Nat → List Id), T i = s ∧ (∀ k o, l[k]? = some o → Stp P nt ds o (T (i + k)) (T (i + k + 1)) (R (i + k)) (W (i + k))) ∧ K (T (i + l.length)) ∧
      (∀ k, k < l.length → (∀ p ∈ rd, ordB N p.1 (i + k) ∨ ∀ o, o ∈ p.2 → o ∉ W (i + k)) ∧ (∀ p ∈ wr, ordB N p.1 (i + k) ∨ ∀ o, o ∈ p.2 → o ∉ R (i + k) ∧ o ∉ W (i + k))) ∧
      (∀ j k, j < k → k < l.length → Apart N R W (i + j) (i + k))
  | [], i, rd, wr, s, h => ⟨fun _ => s, fun _ => [], fun _ => [], rfl, fun k o hk => by simp at hk, h, fun k hk => by simp at hk, fun j k _ hk => by simp at hk⟩
  | o :: l, i, rd, wr, s, h => by
    simp only [arunD] at h
    split at h
    · rename_i cs hg
      obtain ⟨h1, h2⟩ := h
      obtain ⟨r, m', R0, W0, ⟨h3, h4⟩, h5⟩ := aopD_ex h2
      obtain ⟨T, R, W, t1, t2, t3, t4, t5⟩ := trace l (i + 1) _ _ _ h4
      simp only [evB, Bool.and_eq_true, List.all_eq_true, Bool.or_eq_true] at h3
      refine ⟨fun k => if k = i then s else T k, fun k => if k = i then R0 else R k, fun k => if k = i then W0 else W k, by simp, fun k o' hk => ?_, ?_, fun k hk => ?_, fun j k hjk hk => ?_⟩
      · cases k with
        | zero =>
          simp at hk; subst hk
          simp only [Nat.add_zero, if_true, if_neg (show i + 1 ≠ i by omega), t1]
          exact ⟨cs, r, m', hg, h1, h5, rfl⟩
        | succ k =>
          simp only [List.getElem?_cons_succ] at hk
          have := t2 k o' hk
          rw [show i + 1 + k = i + (k + 1) by omega] at this
          simp only [if_neg (show i + (k + 1) ≠ i by omega), if_neg (show i + (k + 1) + 1 ≠ i by omega)]
          exact this
      · simp only [List.length_cons, if_neg (show i + (l.length + 1) ≠ i by omega)]
        rw [show i + (l.length + 1) = i + 1 + l.length by omega]; exact t3
      · cases k with
        | zero =>
          simp only [Nat.add_zero, if_true]
          refine ⟨fun p hp => (h3.1 p hp).imp id disj_spec, fun p hp => (h3.2 p hp).imp id (fun hd o ho => ?_)⟩
          have := disj_spec hd o ho
          simpa using this
        | succ k =>
          have := t4 k (by simpa using hk)
          simp only [if_neg (show i + (k + 1) ≠ i by omega), show i + (k + 1) = i + 1 + k from by omega, if_neg (show ¬ i + 1 + k = i by omega)]
          exact ⟨fun p hp => this.1 p (addE_mem hp), fun p hp => this.2 p (addE_mem hp)⟩
      · obtain ⟨k, rfl⟩ : ∃ k', k = k' + 1 := ⟨k - 1, by omega⟩
        have hk' : k < l.length := by simpa using hk
        cases j with
        | zero =>
          have h6 := t4 k hk'
          simp only [Apart, Nat.add_zero, if_true, if_neg (show i + (k + 1) ≠ i by omega), show i + (k + 1) = i + 1 + k from by omega, if_neg (show ¬ i + 1 + k = i by omega)]
          have hR : ordB N i (i + 1 + k) ∨ ∀ o, o ∈ R0 → o ∉ W (i + 1 + k) := by
            rcases addE_new (i := i) (l := R0) (acc := rd) with h7 | h7
            · exact .inr (fun o ho => by rw [h7] at ho; cases ho)
            · exact h6.1 _ h7
          have hW : ordB N i (i + 1 + k) ∨ ∀ o, o ∈ W0 → o ∉ R (i + 1 + k) ∧ o ∉ W (i + 1 + k) := by
            rcases addE_new (i := i) (l := W0) (acc := wr) with h7 | h7
            · exact .inr (fun o ho => by rw [h7] at ho; cases ho)
            · exact h6.2 _ h7
          rcases hR with hR | hR
          · exact .inl hR
          · rcases hW with hW | hW
            · exact .inl hW
            · exact .inr ⟨hR, hW⟩
        | succ j =>
          have := t5 j k (by omega) hk'
          simp only [Apart, if_neg (show i + (k + 1) ≠ i by omega), if_neg (show i + (j + 1) ≠ i by omega), show i + (k + 1) = i + 1 + k from by omega, if_neg (show ¬ i + 1 + k = i by omega), show i + (j + 1) = i + 1 + j from by omega, if_neg (show ¬ i + 1 + j = i by omega)]
          exact this
    · exact h.elim

theorem foldl_bit (acc : List Nat) (j : Nat) : ∀ (l : List Nat) (s : Nat), (l.foldl (fun s d => s ||| (2 ^ d ||| acc.getD d 0)) s).testBit j = true → s.testBit j = true ∨ ∃ d ∈ l, j = d ∨ (acc.getD d 0).testBit j = true
  | [], s, h => .inl h
  | d :: l, s, h => by
    rcases foldl_bit acc j l _ h with h | ⟨d', h1, h2⟩
    · simp only [Nat.testBit_or, Bool.or_eq_true, Nat.testBit_two_pow, decide_eq_true_eq] at h
      rcases h with h | h | h
      · exact .inl h
      · exact .inr ⟨d, by simp, .inl h.symm⟩
      · exact .inr ⟨d, by simp, .inr h⟩
    · exact .inr ⟨d', by simp [h1], h2⟩
theorem nds_spec : ∀ (l : List Oper) (acc : List Nat), (nds l acc).length = acc.length + l.length ∧ (∀ i, i < acc.length → (nds l acc)[i]? = acc[i]?) ∧
    ∀ k o, l[k]? = some o → ∃ A : List Nat, (∀ i, i < acc.length + k → A[i]? = (nds l acc)[i]?) ∧ A.length = acc.length + k ∧ (nds l acc)[acc.length + k]? = some (nd A o)
  | [], acc => ⟨rfl, fun _ _ => rfl, fun k o h => by simp at h⟩
  | o :: l, acc => by
    obtain ⟨h1, h2, h3⟩ := nds_spec l (acc ++ [nd acc o])
    simp only [List.length_append, List.length_cons, List.length_nil] at h1 h2 h3
    refine ⟨by simp only [nds, List.length_cons]; omega, fun i hi => ?_, fun k o' hk => ?_⟩
    · simp only [nds]; rw [h2 i (by omega), List.getElem?_append_left hi]
    · cases k with
      | zero =>
        simp at hk; subst hk
        refine ⟨acc, fun i hi => ?_, rfl, ?_⟩
        · simp only [nds]; rw [h2 i (by omega), List.getElem?_append_left (by omega)]
        · simp only [nds]; rw [h2 _ (by omega)]; simp
      | succ k =>
        simp only [List.getElem?_cons_succ] at hk
        obtain ⟨A, a1, a2, a3⟩ := h3 k o' hk
        refine ⟨A, fun i hi => ?_, by omega, ?_⟩
        · exact a1 i (by omega)
        · simp only [nds]; rw [show acc.length + (k + 1) = acc.length + (0 + 1) + k by omega]; exact a3
/-- A bit of an operation: someone whom it waits for, or a bit of one of these. -/
theorem nds_bit {ops : Array Oper} {i j : Nat} (h : ((nds ops.toList []).getD i 0).testBit j = true) : ∃ o, ops[i]? = some o ∧ ∃ d ∈ bds o, j = d ∨ (d < i ∧ ((nds ops.toList []).getD d 0).testBit j = true) := by
  obtain ⟨h1, h2, h3⟩ := nds_spec ops.toList []
  cases ho : ops[i]? with
  | none =>
    have : ops.toList.length ≤ i := by simpa using ho
    rw [List.getD_eq_getElem?_getD, List.getElem?_eq_none (by rw [h1]; simpa using this)] at h
    simp at h
  | some o =>
    refine ⟨o, rfl, ?_⟩
    obtain ⟨A, a1, a2, a3⟩ := h3 i o (by simpa using ho)
    simp only [List.length_nil, Nat.zero_add] at a1 a2 a3
    rw [List.getD_eq_getElem?_getD, a3] at h
    rcases foldl_bit A j _ _ h with h | ⟨d, d1, d2⟩
    · simp at h
    · refine ⟨d, d1, d2.imp id fun d2 => ?_⟩
      by_cases hd : d < i
      · exact ⟨hd, by rw [List.getD_eq_getElem?_getD, ← a1 d hd, ← List.getD_eq_getElem?_getD]; exact d2⟩
      · rw [List.getD_eq_getElem?_getD, List.getElem?_eq_none (by omega)] at d2; simp at d2

/-- Listed: a set of operations that holds whom it waits for. -/
structure Lst (ops : Array Oper) (L : Nat → Prop) : Prop where
  dn : ∀ i o, L i → ops[i]? = some o → ∀ d ∈ bds o, L d
theorem Lst.bits {ops : Array Oper} {L : Nat → Prop} (h : Lst ops L) : ∀ (n i : Nat), i < n → (∀ o, ops[i]? = some o → ∀ d ∈ bds o, L d) → ∀ j, ((nds ops.toList []).getD i 0).testBit j = true → L j
  | n + 1, i, hi, hb, j, hj => by
    obtain ⟨o, ho, d, d1, d2⟩ := nds_bit hj
    rcases d2 with rfl | ⟨d2, d3⟩
    · exact hb o ho _ d1
    · exact h.bits n d (by omega) (fun o' ho' => h.dn d o' (hb o ho d d1) ho') j d3

section
variable {P : Program} {C : Cx} {ops : Array Oper}
theorem drawn_FR {s : AS} {a : Act} {w : World} (h : C.FR s a w) : C.FR s a { w with drawn := w.drawn + 1 } := by
  obtain ⟨β, κ, A, S, h⟩ := h
  have hx : Ext w S s.m β κ A { w with drawn := w.drawn + 1 } S s.m β κ A := ⟨rfl, rfl, rfl, Nat.le_refl _, fun _ h => h, fun _ _ => ⟨rfl, rfl⟩, fun _ _ _ => rfl, Nat.le_refl _, fun _ h => h, fun k h => .inr h, fun _ h => .inl h⟩
  refine ⟨β, κ, A, S, h.df, h.sz, fun t => (h.tv t).ext hx h.mr, ⟨fun o x ho => ?_, h.mr.ns, h.mr.dj, h.mr.nx, h.mr.lt⟩, h.ex.trans hx⟩
  exact OB.move (w := w) (w' := { w with drawn := w.drawn + 1 }) (fun _ _ => ⟨rfl, rfl⟩) (fun _ h => h) (fun _ h => h) (fun _ _ => rfl) (h.mr.nx o x ho) (fun _ _ => rfl) (h.mr.ob o x ho)
theorem drawOk_spec (h : drawOk ops = true) {i : Nat} {o : Oper} (ho : ops[i]? = some o) :
    (∀ d ∈ bds o, d < i) ∧ (∀ t ∈ o.looksAt ops, ∀ j, dsto ops j = some t → j ∈ bds o ∨ i ∈ bdsAt ops j) ∧ (∀ j t, o.dst = some t → dsto ops j = some t → j = i) := by
  have hi : i < ops.size := (Array.getElem?_eq_some_iff.1 ho).1
  have lt : ∀ j t, dsto ops j = some t → j < ops.size := fun j t hj => by
    unfold dsto at hj
    cases q : ops[j]? with
    | none => rw [q] at hj; cases hj
    | some _ => exact (Array.getElem?_eq_some_iff.1 q).1
  simp only [drawOk, List.all_eq_true, List.mem_range] at h
  have h1 := h i hi
  rw [ho] at h1
  simp only [Bool.and_eq_true, List.all_eq_true, decide_eq_true_eq, List.mem_range, Bool.or_eq_true, bne_iff_ne, beq_iff_eq, List.contains_iff_mem] at h1
  refine ⟨h1.1, fun t ht j hj => ?_, fun j t ht hj => ?_⟩
  · rcases h1.2.1 t ht j (lt j t hj) with h2 | h2 | h2
    · exact absurd hj h2
    · exact .inl h2
    · exact .inr h2
  · rcases h1.2.2 j (lt j t hj) with h2 | h2 | h2
    · exact h2
    · rw [ht] at h2; cases h2
    · exact absurd (hj.trans ht.symm) h2
theorem bit_lt (hd : drawOk ops = true) : ∀ (n i j : Nat), i < n → ((nds ops.toList []).getD i 0).testBit j = true → j < i
  | n + 1, i, j, hi, h => by
    obtain ⟨o, ho, d, d1, d2⟩ := nds_bit h
    have := (drawOk_spec hd ho).1 d d1
    rcases d2 with rfl | ⟨_, d3⟩
    · exact this
    · exact Nat.lt_trans (bit_lt hd n d j (by omega) d3) this
/-- Where an operation can be next, those that it can be told from stand as in the text. -/
theorem ready_ord (hd : drawOk ops = true) {L : Nat → Prop} (hL : Lst ops L) {i j : Nat} {o : Oper} (ho : ops[i]? = some o) (hb : ∀ d ∈ bds o, L d) (hn : ¬ L i) (key : ((nds ops.toList []).getD i 0).testBit j = true ∨ ((nds ops.toList []).getD j 0).testBit i = true) : L j ↔ j < i := by
  rcases key with k | k
  · exact ⟨fun _ => bit_lt hd _ i j (Nat.lt_succ_self _) k, fun _ => hL.bits _ i (Nat.lt_succ_self _) (fun o' ho' => by rw [ho] at ho'; cases ho'; exact hb) j k⟩
  · have hij := bit_lt hd _ j i (Nat.lt_succ_self _) k
    exact ⟨fun h => absurd (hL.bits _ j (Nat.lt_succ_self _) (fun o' ho' => hL.dn j o' h ho') i k) hn, fun h => by omega⟩

/-- The object that an operation reads. -/
def rdO (op : Op) (e : Operand → PV) : Option Id := match op with
  | .load _ x => match e x with | .bp o _ => some o | .pt o _ _ _ _ => some o | _ => none
  | .lookup _ x _ _ => match e x with | .mp o => some o | _ => none
  | .convert _ _ x => match e x with | .sl o _ _ _ _ => some o | _ => none
  | _ => none
theorem apure_mem {cs : List Bool} {op : Op} {e : Operand → PV} {m m2 : Mem} (h : ∀ o, rdO op e = some o → m2.o o = m.o o) : apure P cs op e m2 = apure P cs op e m := by
  cases op
  case load t x =>
    cases hx : e x <;> simp only [rdO, hx, Option.some.injEq, forall_eq', reduceCtorEq, false_implies, implies_true] at h <;> simp only [apure, hx, h]
  case lookup t x i ok =>
    cases hx : e x <;> simp only [rdO, hx, Option.some.injEq, forall_eq', reduceCtorEq, false_implies, implies_true] at h <;> simp only [apure, hx] <;> (generalize e i = p; cases p <;> first | rfl | (rename_i ik _; cases ik <;> first | rfl | simp only [h]))
  case convert s d x =>
    cases hx : e x <;> simp only [rdO, hx, Option.some.injEq, forall_eq', reduceCtorEq, false_implies, implies_true] at h <;> simp only [apure, aconvM, hx] <;> first | rfl | (rename_i sz n g; rcases sz with _ | _ | sz <;> rfl) | (rename_i o sz n off len; rcases sz with _ | _ | sz <;> first | rfl | (simp only [Nat.zero_add, h]))
  case unOp u t x => cases u <;> rfl
  case slice t x lo hi mx => cases mx <;> rfl
  case makeFunc f a b => cases f <;> rfl
  all_goals rfl
def slO (p : PV) : Option Id := match p with | .sl o _ _ _ _ => some o | _ => none
theorem asrc_mem {m m2 : Mem} {p : PV} (h : ∀ o, slO p = some o → m2.o o = m.o o) : asrc m2 p = asrc m p ∧ aflat m2 p = aflat m p := by
  cases p <;> first | exact ⟨rfl, rfl⟩ | (rename_i o sz n off len; have := h o rfl; simp only [asrc, aflat, this]; exact ⟨trivial, trivial⟩)
theorem same_id {W : List Id} {m m2 : Mem} (h : m2.nx = m.nx) : Same2 W m m m2 m2 := ⟨h, fun o => .inl ⟨rfl, rfl⟩⟩
theorem same_grow {m m2 : Mem} (h : m2.nx = m.nx) (x : Ob) : Same2 [[m.nx]] m (m.grow none x) m2 (m2.grow none x) := by
  refine ⟨by simp [Mem.grow, h], fun o => ?_⟩
  simp only [Mem.grow, Mem.gone, upd, h]
  by_cases e : o = [m.nx]
  · exact .inr ⟨by simp [e], by simp [e]⟩
  · exact .inl ⟨by simp [e], by simp [e]⟩
theorem same_set {m m2 : Mem} (h : m2.nx = m.nx) (q : Id) (x : Ob) : Same2 [q] m (m.set q x) m2 (m2.set q x) := by
  refine ⟨by simp [Mem.set, h], fun o => ?_⟩
  simp only [Mem.set, upd]
  by_cases e : o = q
  · exact .inr ⟨by simp [e], by simp [e]⟩
  · exact .inl ⟨by simp [e], by simp [e]⟩
theorem same_kill {m m2 : Mem} (h : m2.nx = m.nx) (q : Id) (x : Ob) : Same2 [q, [m.nx]] m (m.grow (some q) x) m2 (m2.grow (some q) x) := by
  refine ⟨by simp [Mem.grow, h], fun o => ?_⟩
  simp only [Mem.grow, Mem.gone, upd, h]
  by_cases e : o = [m.nx]
  · exact .inr ⟨by simp [e], by simp [e]⟩
  · by_cases e2 : o = q
    · exact .inr ⟨by simp [e2], by simp [e2]⟩
    · exact .inl ⟨by simp [e, e2], by simp [e, e2]⟩
theorem rdO_rdN {op : Op} {e : Operand → PV} {o : Id} (h : rdO op e = some o) : o ∈ rdN op e := by
  cases op <;> simp only [rdO] at h <;> try (cases h; done)
  all_goals
    simp only [rdN]
    split at h <;> first | (cases h; done) | (rename_i hx; cases h; simp [hx, idL])
theorem slO_idL {p : PV} {o : Id} (h : slO p = some o) : o ∈ idL p := by
  unfold slO at h
  split at h
  · cases h; simp [idL]
  · cases h
/-- An operation does the same in any memory in which its objects are the same. -/
theorem aop_tr {P : Program} {cs : List Bool} {op : Op} {e : Operand → PV} {m m' : Mem} {r : PV} (hn : isCall op = false) (hc : cs.all id = true) (h : aop P cs op e m (fun q n => q = r ∧ n = m')) :
    m.nx ≤ m'.nx ∧ ∀ m2 : Mem, m2.nx = m.nx → (∀ o ∈ rdN op e ++ wrN op e m, m2.o o = m.o o) → ∃ m2', Same2 (wrN op e m) m m' m2 m2' ∧ aop P cs op e m2 (fun q n => q = r ∧ n = m2') := by
  have fin : ∀ (op : Op) (W : List Id), ((cs.all id = true → (apure P cs op e m).ok) ∧ gdv cs (apure P cs op e m).v = r ∧ m = m') → (∀ m2 K, aop P cs op e m2 K = ((cs.all id = true → (apure P cs op e m2).ok) ∧ K (gdv cs (apure P cs op e m2).v) m2)) →
      m.nx ≤ m'.nx ∧ ∀ m2 : Mem, m2.nx = m.nx → (∀ o ∈ rdN op e ++ W, m2.o o = m.o o) → ∃ m2', Same2 W m m' m2 m2' ∧ aop P cs op e m2 (fun q n => q = r ∧ n = m2') := fun op W h1 h2 => by
    obtain ⟨a, b, rfl⟩ := h1
    refine ⟨Nat.le_refl _, fun m2 e2 hag => ⟨m2, same_id e2, ?_⟩⟩
    have : apure P cs op e m2 = apure P cs op e m := apure_mem (fun o ho => hag o (List.mem_append_left _ (rdO_rdN ho)))
    rw [h2, this]
    exact ⟨a, b, rfl⟩
  cases op
  case box t x =>
    simp only [aop, onG, if_pos hc, wrN] at h ⊢
    split at h
    · rename_i hv
      obtain ⟨rfl, rfl⟩ := h
      exact ⟨Nat.le_succ _, fun m2 e2 _ => ⟨_, same_grow e2 _, by simp only [hv, e2]; exact ⟨trivial, trivial⟩⟩⟩
    · exact h.elim
  case alloc t =>
    simp only [aop, onG, if_pos hc, wrN] at h ⊢
    obtain ⟨h1, rfl, rfl⟩ := h
    exact ⟨Nat.le_succ _, fun m2 e2 _ => ⟨_, same_grow e2 _, h1, by rw [e2], rfl⟩⟩
  case buildSlice t n ps =>
    simp only [aop, onG, if_pos hc, wrN] at h ⊢
    split at h
    · rename_i hv
      obtain ⟨h1, rfl, rfl⟩ := h
      exact ⟨Nat.le_succ _, fun m2 e2 _ => ⟨_, same_grow e2 _, by simp only [hv]; exact ⟨h1, by rw [e2], by first | rfl | trivial⟩⟩⟩
    · exact h.elim
  case makeSlice t l c =>
    simp only [aop, onG, if_pos hc, wrN] at h ⊢
    split at h
    · rename_i hl hc'
      obtain ⟨h1, rfl, rfl⟩ := h
      exact ⟨Nat.le_succ _, fun m2 e2 _ => ⟨_, same_grow e2 _, by simp only [hl, hc']; exact ⟨h1, by rw [e2], by first | rfl | trivial⟩⟩⟩
    · exact h.elim
  case makeMap t r =>
    simp only [aop, onG, if_pos hc, wrN] at h ⊢
    obtain ⟨h1, h2, rfl, rfl⟩ := h
    exact ⟨Nat.le_succ _, fun m2 e2 _ => ⟨_, same_grow e2 _, h1, h2, by rw [e2], rfl⟩⟩
  case store t a x =>
    simp only [aop, onG, if_pos hc, wrN, rdN, List.nil_append] at h ⊢
    unfold astore at h ⊢
    split at h
    · rename_i vs hv
      split at h
      · rename_i q j ha
        split at h
        · rename_i ps ho
          obtain ⟨h1, rfl, rfl⟩ := h
          refine ⟨Nat.le_refl _, fun m2 e2 hag => ⟨_, by rw [ha]; exact same_set e2 q _, ?_⟩⟩
          have := hag q (by simp [ha, idL])
          simp only [hv, ha, this, ho]
          exact ⟨h1, by first | rfl | trivial, by first | rfl | trivial⟩
        · exact h.elim
      · rename_i q sz n i j ha
        split at h
        · rename_i sz' n' g ho
          obtain ⟨h1, rfl, rfl⟩ := h
          refine ⟨Nat.le_refl _, fun m2 e2 hag => ⟨_, by rw [ha]; exact same_set e2 q _, ?_⟩⟩
          have := hag q (by simp [ha, idL])
          simp only [hv, ha, this, ho]
          exact ⟨h1, by first | rfl | trivial, by first | rfl | trivial⟩
        · exact h.elim
      · exact h.elim
    · exact h.elim
  case mapUpdate t x k v =>
    simp only [aop, onG, if_pos hc, wrN, rdN, List.nil_append] at h ⊢
    split at h
    · rename_i q i hx hk
      split at h
      · rename_i f hq
        obtain ⟨h1, h2, rfl, rfl⟩ := h
        refine ⟨Nat.le_refl _, fun m2 e2 hag => ⟨_, by rw [hx]; exact same_set e2 q _, ?_⟩⟩
        have := hag q (by simp [hx, idL])
        simp only [hx, hk, this, hq]
        exact ⟨h1, h2, by first | rfl | trivial, by first | rfl | trivial⟩
      · exact h.elim
    · exact h.elim
  case convert s d x =>
    cases hx : e x
    case str b =>
      by_cases hu : tkU8 P d
      · simp only [aop, hx, if_pos hu, onG, if_pos hc, wrN] at h ⊢
        obtain ⟨h1, rfl, rfl⟩ := h
        exact ⟨Nat.le_succ _, fun m2 e2 _ => ⟨_, same_grow e2 _, h1, by rw [e2], rfl⟩⟩
      · refine fin _ _ ?_ (fun m2 K => ?_)
        · simpa only [aop, hx, if_neg hu] using h
        · simp only [aop, hx, if_neg hu]
    all_goals
      refine fin _ _ ?_ (fun m2 K => ?_)
      · simpa only [aop, hx] using h
      · simp only [aop, hx]
  case call c =>
    simp only [isCall] at hn
    cases hcc : c.callee
    case builtin bi =>
      cases bi
      case append =>
        simp only [aop, hcc, onG, if_pos hc, wrN, rdN] at h ⊢
        split at h
        · rename_i s x t t' ha ht
          obtain ⟨h0, h⟩ := h
          simp only [ha, ht]
          unfold aappend at h
          split at h
          · rename_i k gs sz hs
            split at h
            · rename_i hes
              obtain ⟨h1, h2, rfl, rfl⟩ := h
              refine ⟨Nat.le_succ _, fun m2 e2 hag => ⟨_, by simp only [hes, idL, List.nil_append]; exact same_grow e2 _, h0, ?_⟩⟩
              have := asrc_mem (m := m) (m2 := m2) (p := e x) (fun o ho => hag o (List.mem_append_left _ (slO_idL ho)))
              simp only [aappend, hes, this.1, this.2, hs]
              exact ⟨h1, h2, by rw [e2], by first | rfl | trivial⟩
            · rename_i q sz0 n off len hes
              split at h
              · rename_i sz' n' g ho
                obtain ⟨h1, h2, rfl, rfl⟩ := h
                refine ⟨Nat.le_succ _, fun m2 e2 hag => ⟨_, by simp only [hes, idL, List.cons_append, List.nil_append]; exact same_kill e2 q _, h0, ?_⟩⟩
                have := asrc_mem (m := m) (m2 := m2) (p := e x) (fun o ho => hag o (List.mem_append_left _ (slO_idL ho)))
                have hq := hag q (by simp [hes, idL])
                simp only [aappend, hes, this.1, this.2, hs, hq, ho]
                exact ⟨h1, h2, by rw [e2], by first | rfl | trivial⟩
              · exact h.elim
            · exact h.elim
          · exact h.elim
        · exact h.elim
      case delete =>
        simp only [aop, hcc, onG, if_pos hc, wrN, rdN, List.nil_append] at h ⊢
        split at h
        · rename_i x k t ts ha ht
          simp only [ha, ht]
          split at h
          · rename_i q i hx hk
            split at h
            · rename_i f hq
              obtain ⟨h1, rfl, rfl⟩ := h
              refine ⟨Nat.le_refl _, fun m2 e2 hag => ⟨_, by rw [hx]; exact same_set e2 q _, ?_⟩⟩
              have := hag q (by simp [hx, idL])
              simp only [hx, hk, this, hq]
              exact ⟨h1, by first | rfl | trivial, by first | rfl | trivial⟩
            · exact h.elim
          · exact h.elim
        · exact h.elim
      all_goals
        refine fin _ _ ?_ (fun m2 K => ?_)
        · simpa only [aop, hcc] using h
        · simp only [aop, hcc]
    case value f => rw [hcc] at hn; cases hn
    case invoke a b => simp only [aop, hcc] at h
  all_goals exact fin _ _ h (fun m2 K => rfl)
theorem put_at (s : AS) (d : Option Tmp) (v : PV) (t : Tmp) : (s.put d v).t t = if d = some t then v else s.t t := by
  cases d with
  | none => rfl
  | some d =>
    show upd s.t d v t = _
    unfold upd
    by_cases e : t = d
    · subst e; simp
    · rw [if_neg e, if_neg (fun q => e (by injection q with q; exact q.symm))]
theorem put_m (s : AS) (d : Option Tmp) (v : PV) : (s.put d v).m = s.m := by cases d <;> rfl
theorem AS.ext' {s s' : AS} (h1 : ∀ t, s.t t = s'.t t) (h2 : s.m = s'.m) : s = s' := by
  cases s; cases s'
  simp only [AS.mk.injEq]
  exact ⟨funext h1, h2⟩

/-- What one run of an operation does where its objects are as in the text's order. -/
theorem aopD_run {cs : List Bool} {op : Op} {e : Operand → PV} {m m' : Mem} {r : PV} {R W : List Id} (hc : cs.all id = true) (h : aopD P cs op e m (fun q n R' W' => q = r ∧ n = m' ∧ R' = R ∧ W' = W)) :
    m.nx ≤ m'.nx ∧ ∀ m2 : Mem, m2.nx = m.nx → (∀ o ∈ R ++ W, m2.o o = m.o o) → ∃ m2', Same2 W m m' m2 m2' ∧
      ∀ {D : Id → Prop} {w : World} {S : Nat → Prop} {β κ : Id → Nat} {A : Id → Nat → Prop} {a : Act} {o : Oper} {next : Act → World → Prop} {Q : Exit → Act → World → Prop}, TC D → (∀ o, hb o m'.nx → ¬ hb o m.nx → ¬ D o) → MRD w S D m2 β κ A → (∀ x, OV β κ D w S (a.eval x) (e x)) → o.op = op →
        (∀ v w', Left w S D m2 β κ A (fun q n => q = r ∧ n = m2') v w' → next (a.put o.dst v) w') → o.wp P a w next Q := by
  have fin : ∀ (op : Op), isCall op = false → aop P cs op e m (fun r' m'' => r' = r ∧ m'' = m' ∧ rdN op e = R ∧ wrN op e m = W) → m.nx ≤ m'.nx ∧ ∀ m2 : Mem, m2.nx = m.nx → (∀ o ∈ R ++ W, m2.o o = m.o o) → ∃ m2', Same2 W m m' m2 m2' ∧
      ∀ {D : Id → Prop} {w : World} {S : Nat → Prop} {β κ : Id → Nat} {A : Id → Nat → Prop} {a : Act} {o : Oper} {next : Act → World → Prop} {Q : Exit → Act → World → Prop}, TC D → (∀ o, hb o m'.nx → ¬ hb o m.nx → ¬ D o) → MRD w S D m2 β κ A → (∀ x, OV β κ D w S (a.eval x) (e x)) → o.op = op →
        (∀ v w', Left w S D m2 β κ A (fun q n => q = r ∧ n = m2') v w' → next (a.put o.dst v) w') → o.wp P a w next Q := fun op hn h => by
    obtain ⟨r1, m1, ⟨rfl, rfl, rfl, rfl⟩, h9⟩ := aop_ex h
    obtain ⟨h1, h2⟩ := aop_tr hn hc h9
    refine ⟨h1, fun m2 e2 hag => ?_⟩
    obtain ⟨m2', hs, ha⟩ := h2 m2 e2 hag
    refine ⟨m2', hs, fun tc fr hm he ho hk => ?_⟩
    refine aop_ok (fun q n hqn hnx => ?_) hm he hc ho (fun hcl => by rw [hn] at hcl; cases hcl) ha hk
    obtain ⟨rfl, rfl⟩ := hqn
    intro o h3 h4
    rw [e2] at h3 h4
    exact fr o (by rw [← hs.1, hnx, e2]; exact h3) h4
  cases op
  case call c =>
    cases hcc : c.callee
    case value f =>
      simp only [aopD, hcc] at h
      split at h
      · rename_i g caps hf
        obtain ⟨r1, m1, R1, W1, h1, h2, rfl, rfl, rfl, rfl⟩ := h
        obtain ⟨h3, h4⟩ := h1 hc
        refine ⟨h3, fun m2 e2 hag => ?_⟩
        obtain ⟨m2', hs, hd⟩ := h4 m2 e2 hag
        refine ⟨m2', hs, fun tc fr hm he ho hk => ?_⟩
        exact call_ok hd tc (fun o a b => fr o (by rw [← hs.1]; exact a) (by rw [← e2]; exact b)) hm he hc ho hcc hf ⟨rfl, rfl⟩ hk
      · exact h.elim
    all_goals
      refine fin _ (by simp only [isCall, hcc]) ?_
      simp only [aopD, hcc] at h
      exact h
  all_goals exact fin _ rfl h
section draw
variable {T : Nat → AS} {R W : Nat → List Id} (hd : drawOk ops = true) (hT : ∀ k o, ops[k]? = some o → Stp P C.nt (ops.toList.map (·.dst)) o (T k) (T (k + 1)) (R k) (W k))
include hd hT
theorem T_dst (j : Nat) (t : Tmp) (hj : dsto ops j = some t) : ∀ k, j < k → k ≤ ops.size → (T k).t t = (T (j + 1)).t t
  | k + 1, h1, h2 => by
    by_cases e : k = j
    · subst e; rfl
    · rw [← T_dst j t hj k (by omega) (by omega)]
      have hk : ops[k]? = some ops[k] := by simp
      obtain ⟨cs, r, m', _, _, _, hs⟩ := hT k _ hk
      rw [hs, put_at, if_neg]
      intro hdst
      exact e ((drawOk_spec hd hk).2.2 j t hdst hj).symm
omit hd in
theorem T_old (t : Tmp) : ∀ k, k ≤ ops.size → (∀ j, j < k → dsto ops j ≠ some t) → (T k).t t = (T 0).t t
  | 0, _, _ => rfl
  | k + 1, h2, h => by
    rw [← T_old t k (by omega) (fun j hj => h j (by omega))]
    have hk : ops[k]? = some ops[k] := by simp
    obtain ⟨cs, r, m', _, _, _, hs⟩ := hT k _ hk
    rw [hs, put_at, if_neg]
    intro hdst
    exact h k (by omega) (by unfold dsto; rw [hk]; exact hdst)
omit hd in
/-- Names are not given back; what is not told of is not changed. -/
theorem T_step {k : Nat} (hk : k < ops.size) : (T k).m.nx ≤ (T (k + 1)).m.nx ∧ ∀ o, (T (k + 1)).m.o o ≠ (T k).m.o o → o ∈ W k := by
  have hk : ops[k]? = some ops[k] := by simp
  obtain ⟨cs, r, m', _, _, h, hs⟩ := hT k _ hk
  rw [hs, put_m]
  show (T k).m.nx ≤ m'.nx ∧ ∀ o, m'.o o ≠ (T k).m.o o → o ∈ W k
  by_cases hc : cs.all id = true
  · obtain ⟨h1, h2⟩ := aopD_run hc h
    refine ⟨h1, fun o ho => ?_⟩
    obtain ⟨m2', h3, _⟩ := h2 (T k).m rfl (fun _ _ => rfl)
    rcases h3.2 o with ⟨_, h4⟩ | ⟨h4, _⟩
    · exact absurd h4 ho
    · exact h4
  · obtain ⟨r', R', W', h1, h2, _⟩ := aopD_skip (by simpa using hc) h
    rw [h2]
    exact ⟨Nat.le_refl _, fun o ho => absurd rfl ho⟩
end draw

def lsd (listed : Array Bool) (j : Nat) : Prop := listed.getD j false = true
theorem lsd_set {listed : Array Bool} {i j : Nat} (hi : i < listed.size) : lsd (listed.setIfInBounds i true) j ↔ lsd listed j ∨ j = i := by
  unfold lsd
  simp only [Array.getD_eq_getD_getElem?, Array.getElem?_setIfInBounds]
  by_cases e : i = j
  · subst e; simp [hi]
  · simp [e, Ne.symm e]
theorem filter_lt {α : Type} {p p' : α → Bool} (x : α) (h : ∀ y, p' y = true → p y = true) (h1 : p x = true) (h2 : p' x = false) : ∀ l : List α, x ∈ l → (l.filter p').length < (l.filter p).length
  | y :: l, hx => by
    have le : ∀ l : List α, (l.filter p').length ≤ (l.filter p).length := fun l => by
      induction l with
      | nil => simp
      | cons z l ih =>
        simp only [List.filter_cons]
        cases hz : p' z with
        | true => simp [h z hz, ih]
        | false => cases hz' : p z <;> simp <;> omega
    simp only [List.filter_cons]
    by_cases e : x = y
    · subst e
      simp [h1, h2]
      have := le l; omega
    · have ih := filter_lt x h h1 h2 l (by simpa [e] using hx)
      cases hz : p' y with
      | true => simp [h y hz, ih]
      | false => cases hz' : p y <;> simp <;> omega
theorem all_listed (hd : drawOk ops = true) {listed : Array Bool} (hs : listed.size = ops.size) (hr : Region.ready .any ops listed = []) : ∀ n i, i < n → i < ops.size → lsd listed i
  | n + 1, i, hn, hi => by
    by_cases hl : lsd listed i
    · exact hl
    have ho : ops[i]? = some ops[i] := by simp
    have : i ∈ Region.ready .any ops listed := by
      rw [mem_ready]
      refine ⟨?_, _, ho, fun e he hb => ?_⟩
      · unfold lsd at hl
        have h' : i < listed.size := by omega
        simpa [Array.getD, h'] using hl
      · have hd' : e.on ∈ bds ops[i] := by simp only [bds, List.mem_map, List.mem_filter]; exact ⟨e, ⟨by simpa using he, hb⟩, rfl⟩
        have hlt := (drawOk_spec hd ho).1 _ hd'
        exact all_listed hd hs hr n e.on (by omega) (by omega)
    rw [hr] at this; simp at this
theorem ev_same {s s' : AS} {o : Oper} (h : ∀ t ∈ o.looksAt ops, s.t t = s'.t t) {x : Operand} (hx : x ∈ o.op.operands) : s.ev x = s'.ev x := by
  cases x with
  | tmp t => exact h t (List.mem_append_left _ (List.mem_filterMap.2 ⟨.tmp t, by simpa using hx, rfl⟩))
  | _ => rfl
theorem agd_same {s s' : AS} {o : Oper} (h : ∀ t ∈ o.looksAt ops, s.t t = s'.t t) : agd (ops.toList.map (·.dst)) s o.guard = agd (ops.toList.map (·.dst)) s' o.guard := by
  cases hg : o.guard with
  | none => rfl
  | some g =>
    obtain ⟨j, b⟩ := g
    unfold agd
    cases ht : gtmp (ops.toList.map (·.dst)) j with
    | none => simp only [ht]
    | some t =>
      have : t ∈ o.looksAt ops := by
        refine List.mem_append_right _ ?_
        rw [hg]
        have : (ops[j]?).bind (·.dst) = some t := by
          simp only [gtmp, List.getElem?_map] at ht
          have e0 : ops.toList[j]? = ops[j]? := by simp
          rw [e0] at ht
          cases hq : ops[j]? with
          | none => rw [hq] at ht; cases ht
          | some o' => rw [hq] at ht; exact ht
        simp [this]
      simp only [ht, h t this]
theorem T_eqo {T : Nat → AS} (o : Id) (i : Nat) : ∀ q, i ≤ q → (∀ j, i ≤ j → j < q → (T (j + 1)).m.o o = (T j).m.o o) → (T q).m.o o = (T i).m.o o
  | 0, h, _ => by rw [show i = 0 by omega]
  | q + 1, h, h2 => by
    by_cases e : i = q + 1
    · rw [e]
    · rw [h2 q (by omega) (by omega)]; exact T_eqo o i q (by omega) (fun j a b => h2 j a (by omega))
theorem T_mono {T : Nat → AS} {q : Nat} (h : ∀ k, k < q → (T k).m.nx ≤ (T (k + 1)).m.nx) (i : Nat) : ∀ j, i ≤ j → j ≤ q → (T i).m.nx ≤ (T j).m.nx
  | 0, hi, _ => by rw [show i = 0 by omega]; exact Nat.le_refl _
  | j + 1, hi, hj => by
    by_cases e : i = j + 1
    · rw [e]; exact Nat.le_refl _
    · exact Nat.le_trans (T_mono h i j (by omega) (by omega)) (h j (by omega))
/-- A name is in use from the start, or someone gave it out. -/
theorem tele {T : Nat → AS} (o : Id) : ∀ n, (∀ k, k < n → (T k).m.nx ≤ (T (k + 1)).m.nx) → (hb o (T n).m.nx ↔ hb o (T 0).m.nx ∨ ∃ j, j < n ∧ hb o (T (j + 1)).m.nx ∧ ¬ hb o (T j).m.nx)
  | 0, _ => ⟨.inl, fun h => h.elim id (fun ⟨j, h, _⟩ => absurd h (Nat.not_lt_zero _))⟩
  | n + 1, h => by
    have ih := tele o n (fun k hk => h k (by omega))
    constructor
    · intro h1
      by_cases h2 : hb o (T n).m.nx
      · rcases ih.1 h2 with h3 | ⟨j, h3, h4⟩
        · exact .inl h3
        · exact .inr ⟨j, by omega, h4⟩
      · exact .inr ⟨n, Nat.lt_succ_self _, h1, h2⟩
    · rintro (h1 | ⟨j, h1, h2, h3⟩)
      · exact (ih.2 (.inl h1)).mono (h n (by omega))
      · by_cases e : j = n
        · subst e; exact h2
        · exact (ih.2 (.inr ⟨j, by omega, h2, h3⟩)).mono (h n (by omega))
/-- Operation j changes object o. -/
def Chg (T : Nat → AS) (j : Nat) (o : Id) : Prop := (T (j + 1)).m.o o ≠ (T j).m.o o
/-- What is known once some of the operations are carried out. -/
structure Inv (C : Cx) (ops : Array Oper) (T : Nat → AS) (s0 : AS) (L : Nat → Prop) (a : Act) (w : World) (s : AS) (D : Id → Prop) : Prop where
  fr : C.FRD D s a w
  tA : ∀ j t, dsto ops j = some t → L j → s.t t = (T (j + 1)).t t
  tB : ∀ t, (∀ j, dsto ops j = some t → ¬ L j) → s.t t = s0.t t
  dd : ∀ o, D o ↔ hb o (T 0).m.nx ∨ ∃ j, j < ops.size ∧ L j ∧ hb o (T (j + 1)).m.nx ∧ ¬ hb o (T j).m.nx
  mm : ∀ o, ∃ q, q ≤ ops.size ∧ s.m.o o = (T q).m.o o ∧ ∀ j, j < ops.size → Chg T j o → (L j ↔ j < q)
theorem Cx.FRD.nx {D : Id → Prop} {t : Nat → PV} {m : Mem} {a : Act} {w : World} (h : C.FRD D ⟨t, m⟩ a w) {m2 : Mem} (ho : m2.o = m.o) (hn : C.m0.nx ≤ m2.nx) : C.FRD D ⟨t, m2⟩ a w := by
  obtain ⟨β, κ, A, S, h⟩ := h
  obtain ⟨mo, mn⟩ := m
  obtain ⟨mo2, mn2⟩ := m2
  simp only at ho
  subst ho
  exact ⟨β, κ, A, S, h.df, h.sz, h.tv, ⟨h.mr.ob, h.mr.ns, h.mr.dj, h.mr.nx, h.mr.lt⟩, ⟨h.ex.os, h.ex.tape, h.ex.output, h.ex.size, h.ex.sub, h.ex.be, h.ex.keep, hn, h.ex.dl, h.ex.new, h.ex.snew⟩⟩
/-- THE RULE of a region that draws its order: the walk in the order of the text serves. -/
theorem draw_ok {K : AS → Prop} {Q' : Exit → Act → World → Prop} (hd : drawOk ops = true) (hK : ∀ s a w, C.FR s a w → K s → Q' .normal a w) (s0 : AS)
    (h : arunD P C.nt (ops.toList.map (·.dst)) (nds ops.toList []) 0 [] [] ops.toList K s0) (a : Act) (w : World) (hf : C.FR s0 a w) : wpAny P .any ops Q' ops.size (Array.replicate ops.size false) a w := by
  obtain ⟨T, R, W, t0, hT, tK, _, hap⟩ := trace _ _ _ _ _ h
  simp only [Nat.zero_add, Array.length_toList] at hT tK hap
  replace hT : ∀ k o, ops[k]? = some o → Stp P C.nt (ops.toList.map (·.dst)) o (T k) (T (k + 1)) (R k) (W k) := fun k o hk => hT k o (by simpa using hk)
  have mono : ∀ k, k < ops.size → (T k).m.nx ≤ (T (k + 1)).m.nx := fun k hk => (T_step hT hk).1
  have chg : ∀ {j o}, j < ops.size → Chg T j o → o ∈ W j := fun hj hc => (T_step hT hj).2 _ hc
  have n0 : C.m0.nx ≤ (T 0).m.nx := by
    rw [t0]; obtain ⟨_, _, _, _, hf⟩ := hf; exact hf.ex.le
  have key : ∀ (fuel : Nat) (listed : Array Bool) (a : Act) (w : World), listed.size = ops.size → Lst ops (lsd listed) → ((List.range ops.size).filter fun j => !listed.getD j false).length ≤ fuel →
      (∃ s D, Inv C ops T s0 (lsd listed) a w s D) → wpAny P .any ops Q' fuel listed a w := by
    intro fuel
    have done : ∀ (listed : Array Bool) (a : Act) (w : World), listed.size = ops.size → (∃ s D, Inv C ops T s0 (lsd listed) a w s D) → (∀ i, i < ops.size → lsd listed i) → Q' .normal a w := by
      intro listed a w hsz ⟨s, D, I⟩ hall
      have hD : ∀ o, D o ↔ hb o (T ops.size).m.nx := fun o => by
        rw [I.dd, tele o ops.size mono]
        exact or_congr Iff.rfl ⟨fun ⟨j, h1, _, h2⟩ => ⟨j, h1, h2⟩, fun ⟨j, h1, h2⟩ => ⟨j, h1, hall j h1, h2⟩⟩
      have ho : (T ops.size).m.o = s.m.o := funext fun o => by
        obtain ⟨q, hq, h1, h2⟩ := I.mm o
        rw [h1]
        refine T_eqo o q ops.size hq (fun j a b => ?_)
        by_cases hc : (T (j + 1)).m.o o = (T j).m.o o
        · exact hc
        · exfalso; have := (h2 j b hc).1 (hall j b); omega
      have : (⟨s.t, (T ops.size).m⟩ : AS) = T ops.size := by
        refine AS.ext' (fun t => ?_) rfl
        by_cases ht : ∃ j, dsto ops j = some t
        · obtain ⟨j, hj⟩ := ht
          have hlt : j < ops.size := by
            unfold dsto at hj
            cases e : ops[j]? with
            | none => rw [e] at hj; cases hj
            | some _ => exact (Array.getElem?_eq_some_iff.1 e).1
          show s.t t = _
          rw [I.tA j t hj (hall j hlt), T_dst hd hT j t hj ops.size hlt (Nat.le_refl _)]
        · have hno : ∀ j, dsto ops j ≠ some t := fun j hj => ht ⟨j, hj⟩
          show s.t t = _
          rw [I.tB t (fun j hj => absurd hj (hno j)), T_old hT t ops.size (Nat.le_refl _) (fun j _ => hno j), t0]
      have hf := Cx.FRD.nx (t := s.t) (m := s.m) I.fr (m2 := (T ops.size).m) ho (Nat.le_trans n0 (T_mono mono 0 ops.size (Nat.zero_le _) (Nat.le_refl _)))
      rw [this, show D = AW.dN (T ops.size).m.nx from funext fun o => propext (hD o)] at hf
      exact hK _ _ _ hf tK
    induction fuel with
    | zero =>
      intro listed a w hsz hL hc hI
      have hall : ∀ i, i < ops.size → lsd listed i := fun i hi => by
        have h0 : (List.range ops.size).filter (fun j => !listed.getD j false) = [] := List.length_eq_zero_iff.1 (by omega)
        rw [List.filter_eq_nil_iff] at h0
        simpa [lsd] using h0 i (by simpa using hi)
      refine ⟨?_, done listed a w hsz hI hall⟩
      cases hr : Region.ready .any ops listed with
      | nil => rfl
      | cons i r =>
        have hi : i ∈ Region.ready .any ops listed := by rw [hr]; simp
        rw [mem_ready] at hi
        obtain ⟨h1, o, ho, _⟩ := hi
        have hlt := (Array.getElem?_eq_some_iff.1 ho).1
        have := hall i hlt
        unfold lsd at this
        have h' : i < listed.size := by omega
        simp [Array.getD, h'] at this h1
        rw [this] at h1; cases h1
    | succ fuel ih =>
      intro listed a w hsz hL hc hI
      refine ⟨fun hr => done listed a w hsz hI (fun i hi => all_listed hd hsz hr _ i (Nat.lt_succ_self _) hi), fun i hi => ?_⟩
      obtain ⟨s, D, I⟩ := hI
      rw [mem_ready] at hi
      obtain ⟨h1, o, ho, hb⟩ := hi
      have hlt := (Array.getElem?_eq_some_iff.1 ho).1
      have h' : i < listed.size := by omega
      have hnl : ¬ lsd listed i := by unfold lsd; simp [Array.getD, h'] at h1 ⊢; exact h1
      have hb' : ∀ d ∈ bds o, lsd listed d := fun d hd' => by
        simp only [bds, List.mem_map, List.mem_filter] at hd'
        obtain ⟨e, ⟨he, hbe⟩, rfl⟩ := hd'
        exact hb e (by simpa using he) hbe
      obtain ⟨hp1, hp2, hp3⟩ := drawOk_spec hd ho
      have hlook : ∀ t ∈ o.looksAt ops, (T i).t t = s.t t := fun t ht => by
        by_cases hj : ∃ j, dsto ops j = some t ∧ j ∈ bds o
        · obtain ⟨j, hj, hd'⟩ := hj
          rw [I.tA j t hj (hb' j hd'), T_dst hd hT j t hj i (hp1 j hd') (by omega)]
        · have hno : ∀ j, dsto ops j = some t → ¬ lsd listed j ∧ ¬ j < i := fun j hj' => by
            have hbj := (hp2 t ht j hj').resolve_left (fun h => hj ⟨j, hj', h⟩)
            unfold bdsAt at hbj
            cases hoj : ops[j]? with
            | none => rw [hoj] at hbj; simp at hbj
            | some p =>
              rw [hoj] at hbj
              have := (drawOk_spec hd hoj).1 i hbj
              exact ⟨fun hl => hnl (hL.dn j p hl hoj i hbj), by omega⟩
          rw [I.tB t (fun j hj => (hno j hj).1), T_old hT t i (by omega) (fun j hji hj => (hno j hj).2 hji), t0]
      obtain ⟨cs, r, m', hg, hdst, hop, hTs⟩ := hT i o ho
      rw [agd_same hlook] at hg
      have hTm : (T (i + 1)).m = m' := by rw [hTs, put_m]
      have hops : aopD P cs o.op (fun x => strip cs (s.ev x)) (T i).m (fun q n R' W' => q = r ∧ n = m' ∧ R' = R i ∧ W' = W i) := by
        rw [← aopD_congr (e := fun x => strip cs ((T i).ev x))]
        · exact hop
        · intro x hx; simp only [ev_same hlook hx]
      -- whoever changes what this one looks at or changes stands as in the text
      have hord : ∀ j x, j < ops.size → j ≠ i → Chg T j x → x ∈ R i ++ W i → (lsd listed j ↔ j < i) := fun j x hj hji hcj hx => by
        have hxj := chg hj hcj
        rw [List.mem_append] at hx
        refine ready_ord hd hL ho hb' hnl ?_
        rcases Nat.lt_or_ge j i with hlt' | hge
        · rcases hap j i hlt' hlt with h2 | ⟨_, h2⟩
          · exact .inl h2
          · have := h2 x hxj
            rcases hx with hx | hx
            · exact absurd hx this.1
            · exact absurd hx this.2
        · rcases hap i j (by omega) hj with h2 | ⟨h2, h3⟩
          · exact .inr h2
          · rcases hx with hx | hx
            · exact absurd hxj (h2 x hx)
            · exact absurd hxj (h3 x hx).2
      have hsame : ∀ x ∈ R i ++ W i, s.m.o x = (T i).m.o x := fun x hx => by
        obtain ⟨q, hq, h2, h3⟩ := I.mm x
        rw [h2]
        rcases Nat.le_total i q with hiq | hiq
        · refine T_eqo x i q hiq (fun j a b => ?_)
          by_cases hcj : (T (j + 1)).m.o x = (T j).m.o x
          · exact hcj
          · exfalso
            have hl := (h3 j (by omega) hcj).2 b
            by_cases hji : j = i
            · subst hji; exact hnl hl
            · have := (hord j x (by omega) hji hcj hx).1 hl; omega
        · refine (T_eqo x q i hiq (fun j a b => ?_)).symm
          by_cases hcj : (T (j + 1)).m.o x = (T j).m.o x
          · exact hcj
          · exfalso
            have hl := (hord j x (by omega) (by omega) hcj hx).2 b
            have := (h3 j (by omega) hcj).1 hl; omega
      have fin : ∀ (mN : Mem) (D' : Id → Prop) (a' : Act) (w' : World), C.FRD D' (({ s with m := mN } : AS).put o.dst r) a' w' →
          (∀ o, D' o ↔ AW.hb o (T 0).m.nx ∨ ∃ j, j < ops.size ∧ (lsd listed j ∨ j = i) ∧ AW.hb o (T (j + 1)).m.nx ∧ ¬ AW.hb o (T j).m.nx) → (∀ o, ∃ q, q ≤ ops.size ∧ mN.o o = (T q).m.o o ∧ ∀ j, j < ops.size → Chg T j o → ((lsd listed j ∨ j = i) ↔ j < q)) →
          wpAny P .any ops Q' fuel (listed.setIfInBounds i true) a' w' := fun mN D' a' w' hf' f6 f7 => by
        refine ih _ a' w' (by simp [hsz]) ⟨fun j o' hj ho' d hd' => ?_⟩ ?_ ⟨_, D', hf', ?_, ?_, fun x => ?_, fun x => ?_⟩
        · rw [lsd_set h'] at hj ⊢
          rcases hj with hj | rfl
          · exact .inl (hL.dn j o' hj ho' d hd')
          · rw [ho] at ho'; cases ho'; exact .inl (hb' d hd')
        · have := filter_lt (p := fun j => !listed.getD j false) (p' := fun j => !(listed.setIfInBounds i true).getD j false) i (fun y hy => by
            have hy' : ¬ lsd (listed.setIfInBounds i true) y := by unfold lsd; simpa using hy
            rw [lsd_set h'] at hy'
            have : ¬ lsd listed y := fun q => hy' (.inl q)
            unfold lsd at this; simpa using this) (by unfold lsd at hnl; simpa using hnl) (by
            have : lsd (listed.setIfInBounds i true) i := (lsd_set h').2 (.inr rfl)
            unfold lsd at this; simp [this]) (List.range ops.size) (by simpa using hlt)
          omega
        · intro j t hj hl
          rw [put_at]
          rw [lsd_set h'] at hl
          by_cases e : o.dst = some t
          · rw [if_pos e]
            have := hp3 j t e hj
            subst this
            rw [hTs, put_at, if_pos e]
          · rw [if_neg e]
            rcases hl with hl | rfl
            · exact I.tA j t hj hl
            · unfold dsto at hj; rw [ho] at hj; exact absurd hj e
        · intro t ht
          rw [put_at, if_neg]
          · exact I.tB t (fun j hj hl => ht j hj ((lsd_set h').2 (.inl hl)))
          · intro e; exact ht i (by unfold dsto; rw [ho]; exact e) ((lsd_set h').2 (.inr rfl))
        · rw [f6 x]
          exact or_congr Iff.rfl (exists_congr fun j => and_congr Iff.rfl (and_congr (lsd_set h').symm Iff.rfl))
        · obtain ⟨q, h1, h2, h3⟩ := f7 x
          exact ⟨q, h1, by rw [put_m]; exact h2, fun j hj hcj => by rw [lsd_set h']; exact h3 j hj hcj⟩
      have hw := agd_ok I.fr hg rfl
      unfold wpOp
      rw [ho]
      simp only
      rw [← hw]
      by_cases hc' : cs.all id = true
      case neg =>
        rw [if_neg hc']
        obtain ⟨r', R', W', h1, h2, _⟩ := aopD_skip (by simpa using hc') hops
        obtain ⟨β, κ, A, S, hf⟩ := I.fr
        refine fin s.m D _ _ ⟨β, κ, A, S, hf.step (ExtD.refl _ _ _ _ _ _ _) hf.mr (dst_lt hdst) (h1 ▸ .gd _ _ _ (fun e => absurd e hc') (fun _ => rfl))⟩ (fun x => ?_) (fun x => ?_)
        · rw [I.dd]
          refine or_congr Iff.rfl (exists_congr fun j => and_congr Iff.rfl ⟨fun h => ⟨.inl h.1, h.2⟩, fun h => ⟨?_, h.2⟩⟩)
          rcases h.1 with h1 | rfl
          · exact h1
          · exact absurd (by have := h.2.1; rwa [hTm, ← h2] at this) h.2.2
        · obtain ⟨q, g1, g2, g3⟩ := I.mm x
          refine ⟨q, g1, g2, fun j hj hcj => ?_⟩
          have hji : j ≠ i := fun e => hcj (by rw [e, hTm, ← h2])
          simp only [hji, or_false]
          exact g3 j hj hcj
      rw [if_pos hc']
      left
      obtain ⟨_, hrun⟩ := aopD_run hc' hops
      obtain ⟨m2', hs, hrun⟩ := hrun ⟨s.m.o, (T i).m.nx⟩ rfl hsame
      obtain ⟨β, κ, A, S, hf⟩ := Cx.FRD.nx (t := s.t) (m := s.m) I.fr (m2 := ⟨s.m.o, (T i).m.nx⟩) rfl (Nat.le_trans n0 (T_mono mono 0 i (Nat.zero_le _) (by omega)))
      have tc : TC D := fun x q hx hDx => by
        rw [I.dd] at hDx ⊢
        rcases hDx with h1 | ⟨j, h1, h2, h3, h4⟩
        · exact .inl ((hb_app hx).2 h1)
        · exact .inr ⟨j, h1, h2, (hb_app hx).2 h3, fun h5 => h4 ((hb_app hx).1 h5)⟩
      refine hrun tc (fun x hx1 hx2 hDx => ?_) hf.mr (fun x => ev_ok (s := ⟨s.t, ⟨s.m.o, (T i).m.nx⟩⟩) hf hc' x) rfl (fun v w' hl => ?_)
      · rw [← hTm] at hx1
        rcases (I.dd x).1 hDx with h2 | ⟨j, h2, h3, h4, h5⟩
        · exact hx2 (h2.mono (T_mono mono 0 i (Nat.zero_le _) (by omega)))
        · rcases Nat.lt_trichotomy j i with hji | hji | hji
          · exact hx2 (h4.mono (T_mono mono (j + 1) i hji (by omega)))
          · subst hji; exact hnl h3
          · exact h5 (hx1.mono (T_mono mono (i + 1) j hji (by omega)))
      · obtain ⟨r', m'', S', D', β', κ', A', ⟨rfl, rfl⟩, g2, g3, g4, g5⟩ := hl
        refine fin _ D' _ _ ⟨β', κ', A', S', hf.step g2 g3 (dst_lt hdst) g4⟩ (fun x => ?_) (fun x => ?_)
        · rw [g5, I.dd, hs.1]
          constructor
          · rintro ((h1 | ⟨j, h1, h2, h3⟩) | h1)
            · exact .inl h1
            · exact .inr ⟨j, h1, .inl h2, h3⟩
            · exact .inr ⟨i, hlt, .inr rfl, by rw [hTm]; exact h1⟩
          · rintro (h1 | ⟨j, h1, h2 | h2, h3⟩)
            · exact .inl (.inl h1)
            · exact .inl (.inr ⟨j, h1, h2, h3⟩)
            · rw [h2, hTm] at h3; exact .inr h3
        · rcases hs.2 x with ⟨k1, k2⟩ | ⟨k1, k2⟩
          · obtain ⟨q, g1, g2, g3⟩ := I.mm x
            refine ⟨q, g1, k1.trans g2, fun j hj hcj => ?_⟩
            have hji : j ≠ i := fun e => hcj (by rw [e, hTm]; exact k2)
            simp only [hji, or_false]
            exact g3 j hj hcj
          · refine ⟨i + 1, hlt, by rw [hTm]; exact k2, fun j hj hcj => ?_⟩
            by_cases hji : j = i
            · simp [hji]
            · simp only [hji, or_false]
              rw [hord j x hj hji hcj (List.mem_append_right _ k1)]
              omega
  refine key ops.size _ a w (by simp) ⟨fun i o hi => ?_⟩ ?_ ⟨s0, AW.dN s0.m.nx, hf, fun j t _ hl => ?_, fun _ _ => rfl, fun o => ?_, fun o => ⟨0, Nat.zero_le _, by rw [t0], fun j _ _ => ⟨fun hl => ?_, fun h => absurd h (Nat.not_lt_zero _)⟩⟩⟩
  · exfalso; unfold lsd at hi; simp [Array.getD] at hi
  · have := List.length_filter_le (fun j => !(Array.replicate ops.size false).getD j false) (List.range ops.size)
    simpa using this
  · exfalso; unfold lsd at hl; simp [Array.getD] at hl
  · rw [t0]
    refine ⟨.inl, fun h => h.elim id (fun ⟨j, _, hl, _⟩ => ?_)⟩
    exfalso; unfold lsd at hl; simp [Array.getD] at hl
  · exfalso; unfold lsd at hl; simp [Array.getD] at hl
end
end Go.Proofs.YtofaiiobggnibaaW.AW
