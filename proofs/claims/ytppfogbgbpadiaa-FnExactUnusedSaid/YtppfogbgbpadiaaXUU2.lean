/- What the proof of FnExactUnused stands on, part 2: plain lemmas and contracts. -/
import Derived.Orders
import Derived.Test.YtppfogbgbpadiaaXUU1
namespace Go.Proofs.YtppfogbgbpadiaaW.AW
open Go Go.RowKit
set_option linter.unusedVariables false
set_option linter.unusedSimpArgs false
section
variable {P : Program} {β κ : Id → Nat} {A : Id → Nat → Prop} {w : World} {S : Nat → Prop} {m : Mem} {D : Id → Prop} {e : Operand → PV} {a : Act} {o : Oper} {cs : List Bool}
theorem gdv_ok {D : Id → Prop} {v : Value} {p : PV} (h : cs.all id = true → OV β κ D w S v p) (hu : cs.all id = false → v = undef) : OV β κ D w S v (gdv cs p) := by
  unfold gdv
  split
  · exact h rfl
  · exact .gd _ _ _ h hu
theorem value_ok {K : PV → Mem → Prop} {next : Act → World → Prop} {Q : Exit → Act → World → Prop} (hK : ∀ v w', Left w S D m β κ A K v w' → next (a.put o.dst v) w') {v : Value} {w' : World} (hr : (execOp a.eval o).run P w = .ok (.value v) w') (hl : Left w S D m β κ A K v w') : o.wp P a w next Q := by
  unfold Oper.wp
  rw [hr]
  exact hK v w' hl
theorem pure_left {K : PV → Mem → Prop} {v : Value} {p : PV} (hm : MRD w S D m β κ A) (hk : K p m) (hv : OV β κ D w S v p) : Left w S D m β κ A K v w := ⟨_, _, _, _, _, _, _, hk, ExtD.refl _ _ _ _ _ _ _, hm, hv, dsame⟩
theorem pure_op {K : PV → Mem → Prop} {next : Act → World → Prop} {Q : Exit → Act → World → Prop} (hm : MRD w S D m β κ A) (he : ∀ x, OV β κ D w S (a.eval x) (e x)) (hcs : cs.all id = true) {op : Op} (ho : o.op = op) (h : (cs.all id = true → (apure P cs op e m).ok) ∧ K (gdv cs (apure P cs op e m).v) m)
    (hK : ∀ v w', Left w S D m β κ A K v w' → next (a.put o.dst v) w') : o.wp P a w next Q := by
  obtain ⟨v, hr, hv⟩ := apure_ok hm he hcs ho (h.1 hcs)
  exact value_ok hK hr (pure_left hm h.2 (gdv_ok (fun _ => hv) (fun e => by rw [hcs] at e; cases e)))
theorem call_ok {K : PV → Mem → Prop} {next : Act → World → Prop} {Q : Exit → Act → World → Prop} {c : Call} {fo : Operand} {g : FuncId} {caps : List PV} {r : PV} {m' : Mem} (hcd : ACD P g (c.args.toList.map e ++ caps) m r m') (tc : TC D) (fr : ∀ o, hb o m'.nx → ¬ hb o m.nx → ¬ D o) (hm : MRD w S D m β κ A) (he : ∀ x, OV β κ D w S (a.eval x) (e x)) (hcs : cs.all id = true) (ho : o.op = .call c) (hc : c.callee = .value fo) (hf : e fo = .fn g caps)
    (hk : K (gdv cs r) m') (hK : ∀ v w', Left w S D m β κ A K v w' → next (a.put o.dst v) w') : o.wp P a w next Q := by
  obtain ⟨⟨fn, f1, f2, f3⟩, h4⟩ := hcd
  have hv := he fo
  rw [hf] at hv
  obtain ⟨vs, e1, e2, e3⟩ : ∃ vs : Array Value, a.eval fo = .func (.func g) #[] vs ∧ vs.size = caps.length ∧ ∀ j p, caps[j]? = some p → OV β κ D w S (vs.getD j undef) p := by
    generalize a.eval fo = v at hv
    cases hv with
    | rv _ _ h => cases h
    | fn _ vs _ hl hv => exact ⟨vs, rfl, hl, hv⟩
  have hr : (execOp a.eval o).run P w = .ok (.enter g (c.args.map a.eval ++ vs)) w := by
    have f2' : fn.body ≠ none := fun e => by rw [e] at f2; cases f2
    have f3' : fn.name ≠ "runtime.NumGoroutine" := by simpa using f3
    simp [execOp, ho, resolve, hc, e1, Deferred.ofValue, invoke, callFunc, f1, f2', f3']
  unfold Oper.wp
  rw [hr, Oper.upon_enter]
  refine (h4 D tc fr w _ S β κ A hm (by simp [e2]) (fun i p hp => ?_)).mono ?_
  · by_cases hi : i < c.args.size
    · rw [List.getElem?_append_left (by simpa using hi), List.getElem?_map] at hp
      obtain ⟨x, hx, rfl⟩ := Option.map_eq_some_iff.1 hp
      have hx' : c.args[i]? = some x := by simpa using hx
      have : (c.args.map a.eval ++ vs).getD i undef = a.eval x := by
        rw [Array.getD_eq_getD_getElem?, Array.getElem?_append_left (by simpa using hi)]
        simp [hx']
      rw [this]; exact he x
    · rw [List.getElem?_append_right (by simpa using hi)] at hp
      have : (c.args.map a.eval ++ vs).getD i undef = vs.getD (i - c.args.size) undef := by
        rw [Array.getD_eq_getD_getElem?, Array.getElem?_append_right (by simpa using hi)]
        simp [Array.getD_eq_getD_getElem?]
      rw [this]; exact e3 _ p (by simpa using hp)
  · rintro e w' ⟨v, rfl, r', m'', S', D', β', κ', A', ⟨rfl, rfl⟩, g2, g3, g4, g5⟩
    exact hK v w' ⟨_, _, S', D', β', κ', A', hk, g2, g3, gdv_ok (fun _ => g4) (fun e => by rw [hcs] at e; cases e), g5⟩
theorem call_okY {K : PV → Mem → Prop} {next : Act → World → Prop} {Q : Exit → Act → World → Prop} {c : Call} {fo : Operand} {g : FuncId} {caps : List PV} {Ψ : PV → Mem → Prop} (hcd : ACY P g (c.args.toList.map e ++ caps) m Ψ) (hD : D = dN m.nx) (hm : MRD w S D m β κ A) (he : ∀ x, OV β κ D w S (a.eval x) (e x)) (ho : o.op = .call c) (hc : c.callee = .value fo) (hf : e fo = .fn g caps)
    (hk : ∀ r m', Ψ r m' → K r m') (hK : ∀ v w', Left w S D m β κ A K v w' → next (a.put o.dst v) w') : o.wp P a w next Q := by
  subst hD
  obtain ⟨⟨fn, f1, f2, f3⟩, h4⟩ := hcd
  have hv := he fo
  rw [hf] at hv
  obtain ⟨vs, e1, e2, e3⟩ : ∃ vs : Array Value, a.eval fo = .func (.func g) #[] vs ∧ vs.size = caps.length ∧ ∀ j p, caps[j]? = some p → OV β κ (dN m.nx) w S (vs.getD j undef) p := by
    generalize a.eval fo = v at hv
    cases hv with
    | rv _ _ h => cases h
    | fn _ vs _ hl hv => exact ⟨vs, rfl, hl, hv⟩
  have hr : (execOp a.eval o).run P w = .ok (.enter g (c.args.map a.eval ++ vs)) w := by
    have f2' : fn.body ≠ none := fun e => by rw [e] at f2; cases f2
    have f3' : fn.name ≠ "runtime.NumGoroutine" := by simpa using f3
    simp [execOp, ho, resolve, hc, e1, Deferred.ofValue, invoke, callFunc, f1, f2', f3']
  unfold Oper.wp
  rw [hr, Oper.upon_enter]
  refine (h4 w _ S β κ A hm (by simp [e2]) (fun i p hp => ?_)).mono ?_
  · by_cases hi : i < c.args.size
    · rw [List.getElem?_append_left (by simpa using hi), List.getElem?_map] at hp
      obtain ⟨x, hx, rfl⟩ := Option.map_eq_some_iff.1 hp
      have hx' : c.args[i]? = some x := by simpa using hx
      have : (c.args.map a.eval ++ vs).getD i undef = a.eval x := by
        rw [Array.getD_eq_getD_getElem?, Array.getElem?_append_left (by simpa using hi)]
        simp [hx']
      rw [this]; exact he x
    · rw [List.getElem?_append_right (by simpa using hi)] at hp
      have : (c.args.map a.eval ++ vs).getD i undef = vs.getD (i - c.args.size) undef := by
        rw [Array.getD_eq_getD_getElem?, Array.getElem?_append_right (by simpa using hi)]
        simp [Array.getD_eq_getD_getElem?]
      rw [this]; exact e3 _ p (by simpa using hp)
  · rintro e w' ⟨v, rfl, r', m'', S', D', β', κ', A', g1, g2, g3, g4, g5⟩
    exact hK v w' ⟨_, _, S', D', β', κ', A', hk _ _ g1, g2, g3, g4, g5⟩
theorem same2_eq {W : List Id} {m m' m2' : Mem} (h : Same2 W m m' m m2') : m2' = m' := by
  obtain ⟨h1, h2⟩ := h
  have : m2'.o = m'.o := funext fun o => by
    rcases h2 o with ⟨a, b⟩ | ⟨_, a⟩
    · rw [a, b]
    · exact a
  cases m2'; cases m'; simp_all
/-- A call of a function. -/
def isCall : Op → Bool
  | .call c => match c.callee with | .value _ => true | _ => false
  | _ => false
theorem aop_ok {K : PV → Mem → Prop} {next : Act → World → Prop} {Q : Exit → Act → World → Prop} (fr : ∀ r m', K r m' → m'.nx = m.nx + 1 → Fr D m.nx) (hm : MRD w S D m β κ A) (he : ∀ x, OV β κ D w S (a.eval x) (e x)) (hcs : cs.all id = true) {op : Op} (ho : o.op = op) (hcl : isCall op = true → D = dN m.nx) (h : aop P cs op e m K)
    (hK : ∀ v w', Left w S D m β κ A K v w' → next (a.put o.dst v) w') : o.wp P a w next Q := by
  unfold aop at h
  split at h
  · simp only [onG, if_pos hcs] at h
    split at h
    · rename_i hv
      obtain ⟨v, w', hr, hl⟩ := o_box hm he (fr _ _ h rfl) ho hv K h
      exact value_ok hK hr hl
    · exact h.elim
  · simp only [onG, if_pos hcs] at h
    obtain ⟨hz, h⟩ := h
    obtain ⟨v, w', hr, hl⟩ := o_alloc hm (fr _ _ h rfl) (ρ := a.eval) ho hz K h
    exact value_ok hK hr hl
  · simp only [onG, if_pos hcs] at h
    obtain ⟨w', hr, hl⟩ := o_store hm he ho K h
    unfold Oper.wp
    rw [hr]
    exact hK _ _ hl
  · simp only [onG, if_pos hcs] at h
    split at h
    · rename_i hcc
      obtain ⟨⟨h1, h2, h3, h4, h5⟩, hk⟩ := h
      obtain ⟨v, w', hr, hl⟩ := o_buildSlice hm he (fr _ _ hk rfl) ho hcc h1 h2 h3 h4 h5 K hk
      exact value_ok hK hr hl
    · exact h.elim
  · simp only [onG, if_pos hcs] at h
    split at h
    · rename_i h1 h2
      obtain ⟨⟨h3, h4, h5, h6⟩, hk⟩ := h
      obtain ⟨v, w', hr, hl⟩ := o_makeSlice hm he (fr _ _ hk rfl) ho h1 h2 h3 h4 h5 h6 K hk
      exact value_ok hK hr hl
    · exact h.elim
  · simp only [onG, if_pos hcs] at h
    obtain ⟨h1, h2, h⟩ := h
    obtain ⟨v, w', hr, hl⟩ := o_makeMap (fr _ _ h rfl) hm (ρ := a.eval) ho he h1 h2 K h
    exact value_ok hK hr hl
  · simp only [onG, if_pos hcs] at h
    split at h
    · rename_i hx hk
      split at h
      · rename_i hq
        obtain ⟨w', hr, hl⟩ := o_mapUpdate hm he ho hx hk hq h.1 h.2.1 K h.2.2
        unfold Oper.wp
        rw [hr]
        exact hK _ _ hl
      · exact h.elim
    · exact h.elim
  · split at h
    · rename_i hx
      split at h
      · rename_i hu8
        simp only [onG, if_pos hcs] at h
        obtain ⟨⟨h1, h2, h3⟩, h⟩ := h
        obtain ⟨v, w', hr, hl⟩ := o_toBytes hm he (fr _ _ h rfl) ho hx hu8 h1 h2 h3 K h
        exact value_ok hK hr hl
      · exact pure_op hm he hcs ho h hK
    · rename_i hx
      split at h
      · rename_i hsd
        simp only [onG, if_pos hcs] at h
        split at h
        · rename_i hq
          obtain ⟨⟨h1, rfl, rfl, rfl, h2, h3⟩, h⟩ := h
          subst hsd
          obtain ⟨v, w', hr, hl⟩ := o_bytesSelf hm he ho hx h1 hq h2 h3 K h
          exact value_ok hK hr hl
        · exact h.elim
      · exact pure_op hm he hcs ho h hK
    · exact pure_op hm he hcs ho h hK
  · rename_i c
    split at h
    · rename_i hc
      simp only [onG, if_pos hcs] at h
      split at h
      · rename_i x k t ts ha ht
        have ha' : c.args = #[x, k] := by rw [← Array.toArray_toList (xs := c.args), ha]
        have ht' : c.argTypes = (t :: ts).toArray := by rw [← ht]
        split at h
        · rename_i hx hk
          split at h
          · rename_i hq
            have vx := he x; have vk := he k
            rw [hx] at vx; rw [hk] at vk
            obtain ⟨v, w', hr, hl⟩ := o_delete (ty := o.type) (t' := 0) hm vx vk hq h.1 K h.2
            refine value_ok hK (w' := w') (v := v) ?_ hl
            simp [execOp, ho, resolve, hc, ha', ht', invoke, builtin]
            rw [hr]; rfl
          · exact h.elim
        · exact h.elim
      · exact h.elim
    · rename_i hc
      simp only [onG, if_pos hcs] at h
      split at h
      · rename_i s x t t' ha ht
        have ha' : c.args = #[s, x] := by rw [← Array.toArray_toList (xs := c.args), ha]
        have ht' : c.argTypes = #[t, t'] := by rw [← Array.toArray_toList (xs := c.argTypes), ht]
        obtain ⟨v, w', hr, hl⟩ := o_append (ty := o.type) hm (he s) (he x) h.1 K fr h.2
        refine value_ok hK (w' := w') (v := v) ?_ hl
        simp [execOp, ho, resolve, hc, ha', ht', invoke, builtin, hr]
      · exact h.elim
    · exact pure_op hm he hcs ho h hK
    · split at h
      · rename_i hf
        rename_i hc _ _
        rcases h with ⟨r, m', R, W, h1, h2, h3⟩ | ⟨_, hcs0, Ψ, h1, h2⟩
        case inr =>
          have hD := hcl (by simp only [isCall]; split <;> simp_all)
          subst hcs0
          exact call_okY h1 hD hm he ho (by assumption) hf (fun r m' h => h2 r m' h) hK
        obtain ⟨m2', hs, hd⟩ := (h1 hcs).2 m rfl (fun _ _ => rfl)
        rw [same2_eq hs] at hd
        have hD := hcl (by simp only [isCall]; split <;> simp_all)
        exact call_ok hd (by rw [hD]; exact TC_dN _) (fun o a b c => by rw [hD] at c; exact b c) hm he hcs ho (by assumption) hf h3 hK
      · exact h.elim
    · exact h.elim
  · exact pure_op hm he hcs ho h hK
end
end Go.Proofs.YtppfogbgbpadiaaW.AW
namespace Go.Proofs.YtppfogbgbpadiaaW.AW
open Go Go.RowKit
set_option linter.unusedVariables false
set_option linter.unusedSimpArgs false
/-- What there was at the call, and how many slots there are. -/
structure Cx where
  w0 : World
  S0 : Nat → Prop
  m0 : Mem
  β0 : Id → Nat
  κ0 : Id → Nat
  A0 : Id → Nat → Prop
  nt : Nat
def Cx.FRD (C : Cx) (D : Id → Prop) (s : AS) (a : Act) (w : World) : Prop := ∃ β κ A S, AW.FRD C.w0 C.S0 C.m0 C.β0 C.κ0 C.A0 C.nt s a w D β κ A S
def Cx.FR (C : Cx) (s : AS) (a : Act) (w : World) : Prop := ∃ β κ A S, AW.FR C.w0 C.S0 C.m0 C.β0 C.κ0 C.A0 C.nt s a w β κ A S
section
variable {P : Program} {C : Cx} {Q : Exit → AS → Prop} {s : AS} {ops : Array Oper}
theorem ev_ok {D : Id → Prop} {β κ : Id → Nat} {A : Id → Nat → Prop} {S : Nat → Prop} {a : Act} {w : World} {cs : List Bool} (h : FRD C.w0 C.S0 C.m0 C.β0 C.κ0 C.A0 C.nt s a w D β κ A S) (hcs : cs.all id = true) (x : Operand) : OV β κ D w S (a.eval x) (strip cs (s.ev x)) := by
  refine OV.strip ?_ hcs
  cases x with
  | tmp t => exact h.tv t
  | const v => exact ofVal_ok
  | global g => exact .rv _ _ (.und _)
  | func f => exact .fn f #[] [] rfl (fun j p hp => by simp at hp)
theorem OV.gd_inv {β κ : Id → Nat} {D : Id → Prop} {w : World} {S : Nat → Prop} {v : Value} {cs : List Bool} {p : PV} (h : OV β κ D w S v (.gd cs p)) : (cs.all id = true → OV β κ D w S v p) ∧ (cs.all id = false → v = undef) := by
  cases h with
  | rv _ _ h => cases h with | gd _ _ _ h hu => exact ⟨fun e => .rv _ _ (h e), hu⟩
  | gd _ _ _ h hu => exact ⟨h, hu⟩
theorem agd_ok {D : Id → Prop} {a : Act} {w : World} (h : C.FRD D s a w) {g : Option (Nat × Bool)} {cs : List Bool} (hg : agd (ops.toList.map (·.dst)) s g = some cs) {o : Oper} (ho : o.guard = g) : cs.all id = Region.wanted o (yielded ops a.tmps) := by
  obtain ⟨β, κ, A, S, h⟩ := h
  unfold agd at hg
  split at hg
  · simp only [Option.some.injEq] at hg; subst hg; simp [Region.wanted, ho]
  · rename_i j b
    simp only [Region.wanted, ho]
    split at hg
    · rename_i t ht
      have hy : ∀ v, a.tmps.getD t undef = v → yielded ops a.tmps j = match v with | .bool b => some b | _ => none := fun v hv => by
        unfold yielded
        have e : (ops[j]?).bind (·.dst) = some t := by
          simp only [gtmp, List.getElem?_map] at ht
          have e0 : ops.toList[j]? = ops[j]? := by simp
          rw [e0] at ht
          cases hq : ops[j]? with
          | none => rw [hq] at ht; cases ht
          | some o' => rw [hq] at ht; exact ht
        rw [e]
        cases hq : a.tmps[t]? with
        | none => simp [Array.getD_eq_getD_getElem?, hq] at hv; subst hv; simp [hq, undef]
        | some u => simp [Array.getD_eq_getD_getElem?, hq] at hv; subst hv; simp [hq]; cases u <;> rfl
      have hv := h.tv t
      split at hg
      · rename_i x hx
        rw [hx] at hv
        simp only [Option.some.injEq] at hg; subst hg
        rw [hy _ hv.bool_inv]
        cases x <;> cases b <;> rfl
      · rename_i cs' x hx
        rw [hx] at hv
        simp only [Option.some.injEq] at hg; subst hg
        rw [List.all_append]
        by_cases hc : cs'.all id = true
        · have e : a.tmps.getD t undef = .bool x := (hv.gd_inv.1 hc).bool_inv
          rw [hy _ e, hc]
          cases x <;> cases b <;> rfl
        · have hc' : cs'.all id = false := by simpa using hc
          have e : a.tmps.getD t undef = undef := hv.gd_inv.2 hc'
          rw [hy _ e, hc']
          cases b <;> rfl
      · cases hg
    · cases hg
theorem aop_skip {cs : List Bool} {op : Op} {e : Operand → PV} {m : Mem} {K : PV → Mem → Prop} (hcs : cs.all id = false) (h : aop P cs op e m K) : ∃ r, K (.gd cs r) m := by
  have gd_ : ∀ r, gdv cs r = .gd cs r := fun r => by
    unfold gdv; split
    · cases hcs
    · rfl
  have hcs' : ¬ cs.all id = true := by rw [hcs]; simp
  have no_ : ∀ {p : Prop}, onG cs p (K (gdv cs .und) m) → ∃ r, K (.gd cs r) m := fun h => by
    simp only [onG, if_neg hcs'] at h
    exact ⟨_, gd_ _ ▸ h⟩
  unfold aop at h
  split at h
  · exact no_ h
  · exact no_ h
  · exact no_ h
  · exact no_ h
  · exact no_ h
  · exact no_ h
  · exact no_ h
  · split at h
    · split at h
      · exact no_ h
      · exact ⟨_, gd_ _ ▸ h.2⟩
    · split at h
      · exact no_ h
      · exact ⟨_, gd_ _ ▸ h.2⟩
    · exact ⟨_, gd_ _ ▸ h.2⟩
  · split at h
    · exact no_ h
    · exact no_ h
    · exact ⟨_, gd_ _ ▸ h.2⟩
    · split at h
      · rcases h with ⟨r, m', R, W, _, h2, h3⟩ | ⟨_, h2, _⟩
        case inr => rw [h2] at hcs; cases hcs
        rcases h2 with h2 | rfl
        · exact absurd h2 hcs'
        · exact ⟨r, gd_ _ ▸ h3⟩
      · exact h.elim
    · exact h.elim
  · exact ⟨_, gd_ _ ▸ h.2⟩
theorem dst_lt {d : Option Tmp} {n : Nat} (h : d.all (· < n) = true) : ∀ i, d = some i → i < n := fun i e => by subst e; simpa using h
theorem arun_ok {K : AS → Prop} {Q' : Exit → Act → World → Prop} (hK : ∀ s a w, C.FR s a w → K s → Q' .normal a w) : ∀ (rest : List Oper) (s : AS) (a : Act) (w : World), C.FR s a w → arun P C.nt (ops.toList.map (·.dst)) rest K s → wpList P ops Q' rest a w
  | [], s, a, w, h, hr => hK s a w h hr
  | o :: rest, s, a, w, h, hr => by
    simp only [arun] at hr
    split at hr
    · rename_i cs hg
      obtain ⟨hd, hr⟩ := hr
      have hw := agd_ok (D := AW.dN s.m.nx) h hg rfl
      obtain ⟨β, κ, A, S, hf⟩ := h
      unfold wpList
      rw [← hw]
      by_cases hc : cs.all id = true
      · rw [if_pos hc]
        left
        refine aop_ok (fun _ _ _ _ => Fr.hd _) hf.mr (ev_ok hf hc) hc rfl (fun _ => rfl) hr (fun v w' hl => ?_)
        obtain ⟨r, m', S', D', β', κ', A', h1, h2, h3, h4, h5⟩ := hl
        have hD : D' = AW.dN m'.nx := funext fun o => propext ((h5 o).trans ⟨fun h => h.elim (fun h => hb.mono h h2.le) (·.1), fun h => (Classical.em (hb o s.m.nx)).elim .inl (fun h2 => .inr ⟨h, h2⟩)⟩)
        subst hD
        exact arun_ok hK rest _ _ _ ⟨β', κ', A', S', hf.step h2 h3 (dst_lt hd) h4⟩ h1
      · rw [if_neg hc]
        have hc' : cs.all id = false := by simpa using hc
        obtain ⟨r, h1⟩ := aop_skip hc' hr
        exact arun_ok hK rest _ _ _ ⟨β, κ, A, S, hf.step (Ext.refl _ _ _ _ _ _) hf.mr (dst_lt hd) (.gd _ _ _ (fun e => absurd e hc) (fun _ => rfl))⟩ h1
    · exact hr.elim
end
end Go.Proofs.YtppfogbgbpadiaaW.AW
namespace Go.Proofs.YtppfogbgbpadiaaW.AW
open Go Go.RowKit
set_option linter.unusedVariables false
set_option linter.unusedSimpArgs false
section
variable {P : Program} {cs : List Bool} {e e' : Operand → PV} {m : Mem}
theorem apure_congr (op : Op) (h : ∀ x ∈ op.operands, e x = e' x) : apure P cs op e m = apure P cs op e' m := by
  cases op <;> simp only [Op.operands] at h
  case unOp u t x => cases u <;> simp_all [apure]
  case build t ps =>
    have hp : ps.toList.map (fun x => (x.1, e x.2)) = ps.toList.map (fun x => (x.1, e' x.2)) := List.map_congr_left fun x hx => by
      rw [h x.2 (by simp; exact ⟨x.1, by simpa using hx⟩)]
    simp only [apure, hp]
  case makeFunc fn fi ca =>
    have hp : ca.toList.map e = ca.toList.map e' := List.map_congr_left fun x hx => h x (by simp at hx ⊢; exact .inr hx)
    cases fn <;> simp only [apure, hp]
  case slice t x lo hi mx => cases mx <;> cases lo <;> cases hi <;> simp_all [apure, optI]
  case call c =>
    have hc : ∀ x ∈ c.args.toList, e x = e' x := fun x hx => h x (by simp [Call.operands]; exact .inr (by simpa using hx))
    simp only [apure]
    split
    · split
      · rename_i q _; rw [hc _ (by rw [q]; simp)]
      · rfl
    · split
      · rename_i q; rw [hc _ (by rw [q]; simp), hc _ (by rw [q]; simp)]
      · rfl
    · split
      · rename_i q; rw [hc _ (by rw [q]; simp), hc _ (by rw [q]; simp)]
      · rfl
    · rfl
  all_goals (first | rfl | (simp_all [apure]; done))
theorem aop_congr (op : Op) (K : PV → Mem → Prop) (h : ∀ x ∈ op.operands, e x = e' x) : aop P cs op e m K = aop P cs op e' m K := by
  have hp := apure_congr (P := P) (cs := cs) (m := m) op h
  cases op <;> simp only [Op.operands] at h
  case buildSlice t n ps =>
    have hp : ps.toList.map (fun x => e x.2) = ps.toList.map (fun x => e' x.2) := List.map_congr_left fun x hx => by
      rw [h x.2 (by simp; exact ⟨x.1, by simpa using hx⟩)]
    simp only [aop, hp]
  case makeMap t r => cases r <;> simp_all [aop, hintOk]
  case convert s d x =>
    have hx : e x = e' x := h x (by simp)
    simp only [aop, hx, hp]
  case call c =>
    have hc : ∀ x ∈ c.args.toList, e x = e' x := fun x hx => h x (by simp [Call.operands]; exact .inr (by simpa using hx))
    have hm : c.args.toList.map e = c.args.toList.map e' := List.map_congr_left hc
    simp only [aop]
    split
    · congr 1
      split
      · rename_i q1 q2; rw [hc _ (by rw [q1]; simp), hc _ (by rw [q1]; simp)]
      · rfl
    · congr 1
      split
      · rename_i q1 q2; rw [hc _ (by rw [q1]; simp), hc _ (by rw [q1]; simp)]
      · rfl
    · rw [hp]
    · rename_i f hf
      have : e f = e' f := h f (by simp [Call.operands, hf])
      rw [this, hm]
    · rfl
  all_goals (first | rfl | (simp only [aop, hp]; done) | (simp_all [aop]; done))
theorem onG_ex {p : (PV → Mem → Prop) → Prop} {K : PV → Mem → Prop} (hp : p K → ∃ r m', K r m' ∧ p (fun q n => q = r ∧ n = m')) (h : onG cs (p K) (K (gdv cs .und) m)) : ∃ r m', K r m' ∧ onG cs (p (fun q n => q = r ∧ n = m')) (gdv cs .und = r ∧ m = m') := by
  unfold onG at h ⊢
  by_cases hc : cs.all id = true
  · rw [if_pos hc] at h
    obtain ⟨r, m', h1, h2⟩ := hp h
    exact ⟨r, m', h1, by rw [if_pos hc]; exact h2⟩
  · rw [if_neg hc] at h
    exact ⟨_, _, h, by rw [if_neg hc]; exact ⟨rfl, rfl⟩⟩
theorem astore_ex {t : TypeId} {a x : PV} {K : PV → Mem → Prop} (h : astore P t a x m K) : ∃ r m', K r m' ∧ astore P t a x m (fun q n => q = r ∧ n = m') := by
  unfold astore at h
  split at h
  · rename_i hv
    split at h
    · split at h
      · rename_i ho; exact ⟨_, _, h.2, by simp only [astore, hv, ho]; exact ⟨h.1, (by first | rfl | trivial), (by first | rfl | trivial)⟩⟩
      · exact h.elim
    · split at h
      · rename_i ho; exact ⟨_, _, h.2, by simp only [astore, hv, ho]; exact ⟨h.1, (by first | rfl | trivial), (by first | rfl | trivial)⟩⟩
      · exact h.elim
    · exact h.elim
  · exact h.elim
theorem aappend_ex {t : TypeId} {s x : PV} {K : PV → Mem → Prop} (h : aappend P t s x m K) : ∃ r m', K r m' ∧ aappend P t s x m (fun q n => q = r ∧ n = m') := by
  unfold aappend at h
  split at h
  · rename_i hs
    split at h
    · exact ⟨_, _, h.2.2, by simp only [aappend, hs]; exact ⟨h.1, h.2.1, (by first | rfl | trivial), (by first | rfl | trivial)⟩⟩
    · split at h
      · rename_i ho; exact ⟨_, _, h.2.2, by simp only [aappend, hs, ho]; exact ⟨h.1, h.2.1, (by first | rfl | trivial), (by first | rfl | trivial)⟩⟩
      · exact h.elim
    · exact h.elim
  · exact h.elim
/-- What an operation gives can be told apart from what follows. -/
theorem aop_ex {op : Op} {K : PV → Mem → Prop} (hn : isCall op = false) (h : aop P cs op e m K) : ∃ r m', K r m' ∧ aop P cs op e m (fun q n => q = r ∧ n = m') := by
  cases op
  case box t x =>
    simp only [aop] at h ⊢
    refine onG_ex (p := fun K => match pcells (e x) with | some vs => K (.bp [m.nx] 0) (m.grow none (.box vs)) | none => False) (fun h => ?_) h
    split at h
    · rename_i hv; exact ⟨_, _, h, by simp only [hv]; exact ⟨(by first | rfl | trivial), (by first | rfl | trivial)⟩⟩
    · exact h.elim
  case alloc t =>
    simp only [aop] at h ⊢
    exact onG_ex (p := fun K => (tyD P t).zok = true ∧ K (.bp [m.nx] 0) (m.grow none (.box (tyD P t).zc))) (fun h => ⟨_, _, h.2, h.1, rfl, rfl⟩) h
  case store t a x =>
    simp only [aop] at h ⊢
    exact onG_ex (p := fun K => astore P t (e a) (e x) m K) astore_ex h
  case buildSlice t n ps =>
    simp only [aop] at h ⊢
    refine onG_ex (p := fun K => match allCells (ps.toList.map (fun x => e x.2)) with
      | some cc => ((tyD P t).eok = true ∧ okIdx 0 ps.toList = true ∧ ps.size = n ∧ (∀ c ∈ cc, c.length = (tyD P t).es) ∧ n * (tyD P t).es ≤ 16777216) ∧ K (.sl [m.nx] (tyD P t).es n 0 n) (m.grow none (.row (tyD P t).es n (fun i => cc.getD i [])))
      | none => False) (fun h => ?_) h
    split at h
    · rename_i hv; exact ⟨_, _, h.2, by simp only [hv]; exact ⟨h.1, (by first | rfl | trivial), (by first | rfl | trivial)⟩⟩
    · exact h.elim
  case makeSlice t l c =>
    simp only [aop] at h ⊢
    refine onG_ex (p := fun K => match e l, e c with
      | .int _ l, .int _ c => ((tyD P t).eok = true ∧ 0 ≤ l ∧ l ≤ c ∧ c * (tyD P t).eb ≤ 140737488355328) ∧ K (.sl [m.nx] (tyD P t).es l.toNat 0 l.toNat) (m.grow none (.row (tyD P t).es l.toNat (fun _ => (tyD P t).ez)))
      | _, _ => False) (fun h => ?_) h
    split at h
    · rename_i h1 h2; exact ⟨_, _, h.2, by simp only [h1, h2]; exact ⟨h.1, (by first | rfl | trivial), (by first | rfl | trivial)⟩⟩
    · exact h.elim
  case makeMap t r =>
    simp only [aop] at h ⊢
    exact onG_ex (p := fun K => (match (tyD P t).k with | .map _ _ => True | _ => False) ∧ hintOk e r ∧ K (.mp [m.nx]) (m.grow none (.map (fun _ => none)))) (fun h => ⟨_, _, h.2.2, h.1, h.2.1, rfl, rfl⟩) h
  case mapUpdate t x k v =>
    simp only [aop] at h ⊢
    refine onG_ex (p := fun K => match e x, e k with
      | .mp o, .int .i64 i => match m.o o with
        | some (.map f) => (match (tyD P t).k with | .map kt _ => tk P kt = .int .i64 | _ => False) ∧ (e v).clo = true ∧ K .und (m.set o (.map (upd f i (some (e v)))))
        | _ => False
      | _, _ => False) (fun h => ?_) h
    split at h
    · rename_i hx hk
      split at h
      · rename_i hq; exact ⟨_, _, h.2.2, by simp only [hx, hk, hq]; exact ⟨h.1, h.2.1, (by first | rfl | trivial), (by first | rfl | trivial)⟩⟩
      · exact h.elim
    · exact h.elim
  case convert s d x =>
    simp only [aop] at h ⊢
    split at h
    · rename_i b hx
      split at h
      · rename_i hu
        simp only [hx, if_pos hu]
        exact onG_ex (p := fun K => (tk P s = .string ∧ (tyD P d).eok = true ∧ (tyD P d).es = 1) ∧ K (.sl [m.nx] 1 b.size 0 b.size) (m.grow none (.row 1 b.size (fun i => [.int .u8 (bt b i)])))) (fun h => ⟨_, _, h.2, h.1, rfl, rfl⟩) h
      · rename_i hu; exact ⟨_, _, h.2, by simp only [hx, if_neg hu]; exact ⟨h.1, (by first | rfl | trivial), (by first | rfl | trivial)⟩⟩
    · rename_i o sz n off len hx
      split at h
      · rename_i hu
        simp only [hx, if_pos hu]
        refine onG_ex (p := fun K => match m.o o with
          | some (.row sz' n' g) => (tkU8 P d ∧ sz' = 1 ∧ sz = 1 ∧ n' = n ∧ 0 < len ∧ rowU8 n g) ∧ K (.sl o sz n off len) (m.set o (.row sz' n' g))
          | _ => False) (fun h => ?_) h
        split at h
        · rename_i hq; exact ⟨_, _, h.2, by simp only [hq]; exact ⟨h.1, (by first | rfl | trivial), (by first | rfl | trivial)⟩⟩
        · exact h.elim
      · rename_i hu; exact ⟨_, _, h.2, by simp only [hx, if_neg hu]; exact ⟨h.1, (by first | rfl | trivial), (by first | rfl | trivial)⟩⟩
    · rename_i hx
      exact ⟨_, _, h.2, h.1, rfl, rfl⟩
  case call c =>
    simp only [aop] at h ⊢
    split at h
    · rename_i hc
      refine onG_ex (p := fun K => match c.args.toList, c.argTypes.toList with
        | [x, k], t :: _ => (match e x, e k with
          | .mp o, .int .i64 i => match m.o o with
            | some (.map f) => (match (tyD P t).k with | .map kt _ => tk P kt = .int .i64 | _ => False) ∧ K (.tu []) (m.set o (.map (upd f i none)))
            | _ => False
          | _, _ => False)
        | _, _ => False) (fun h => ?_) h
      split at h
      · rename_i q1 q2
        split at h
        · rename_i hx hk
          split at h
          · rename_i hq; exact ⟨_, _, h.2, by simp only [q1, q2, hx, hk, hq]; exact ⟨h.1, (by first | rfl | trivial), (by first | rfl | trivial)⟩⟩
          · exact h.elim
        · exact h.elim
      · exact h.elim
    · rename_i hc
      refine onG_ex (p := fun K => match c.args.toList, c.argTypes.toList with | [s, x], [t, t'] => ((∃ e', P.underlying t' = some (.slice e')) ∨ P.underlying t' = some .string) ∧ aappend P t (e s) (e x) m K | _, _ => False) (fun h => ?_) h
      split at h
      · rename_i q1 q2
        obtain ⟨r, m', h1, h2⟩ := aappend_ex h.2
        exact ⟨r, m', h1, by first | exact ⟨h.1, h2⟩ | (simp only [q1, q2]; exact ⟨h.1, h2⟩)⟩
      · exact h.elim
    · rename_i hb hc
      exact ⟨_, _, h.2, h.1, rfl, rfl⟩
    · rename_i hc
      simp [isCall, hc] at hn
    · exact h.elim
  all_goals (simp only [aop] at h ⊢; exact ⟨_, _, h.2, h.1, rfl, rfl⟩)
theorem rdN_congr (op : Op) (h : ∀ x ∈ op.operands, e x = e' x) : rdN op e = rdN op e' := by
  cases op <;> simp only [Op.operands] at h
  case call c =>
    have hc : ∀ x ∈ c.args.toList, e x = e' x := fun x hx => h x (by simp [Call.operands]; exact .inr (by simpa using hx))
    simp only [rdN]
    split
    · split
      · rename_i q; rw [hc _ (by rw [q]; simp)]
      · rfl
    · rfl
  all_goals (first | rfl | (simp_all [rdN]; done))
theorem wrN_congr (op : Op) (h : ∀ x ∈ op.operands, e x = e' x) : wrN op e m = wrN op e' m := by
  cases op <;> simp only [Op.operands] at h
  case call c =>
    have hc : ∀ x ∈ c.args.toList, e x = e' x := fun x hx => h x (by simp [Call.operands]; exact .inr (by simpa using hx))
    simp only [wrN]
    split
    · split
      · rename_i q; rw [hc _ (by rw [q]; simp)]
      · rfl
    · split
      · rename_i q; rw [hc _ (by rw [q]; simp)]
      · rfl
    · rfl
  all_goals (first | rfl | (simp_all [wrN]; done))
theorem aopD_congr (op : Op) (K : PV → Mem → List Id → List Id → Prop) (h : ∀ x ∈ op.operands, e x = e' x) : aopD P cs op e m K = aopD P cs op e' m K := by
  have h1 := fun K => aop_congr (P := P) (cs := cs) (m := m) op K h
  have h2 := rdN_congr op h
  have h3 := wrN_congr (m := m) op h
  cases op
  case call c =>
    simp only [aopD]
    split
    · rename_i f hf
      simp only [Op.operands] at h
      have hc : ∀ x ∈ c.args.toList, e x = e' x := fun x hx => h x (by simp [Call.operands]; exact .inr (by simpa using hx))
      have hm : c.args.toList.map e = c.args.toList.map e' := List.map_congr_left hc
      have : e f = e' f := h f (by simp [Call.operands, hf])
      rw [this, hm]
    · rw [h1, h2, h3]
  all_goals (simp only [aopD]; rw [h1, h2, h3])
/-- What an operation gives can be told apart from what follows, its objects too. -/
theorem aopD_ex {op : Op} {K : PV → Mem → List Id → List Id → Prop} (h : aopD P cs op e m K) : ∃ r m' R W, K r m' R W ∧ aopD P cs op e m (fun q n R' W' => q = r ∧ n = m' ∧ R' = R ∧ W' = W) := by
  have fin : isCall op = false → ∀ {K : PV → Mem → List Id → List Id → Prop} {R W : List Id}, aop P cs op e m (fun r m' => K r m' R W) → ∃ r m' R' W', K r m' R' W' ∧ aop P cs op e m (fun q n => q = r ∧ n = m' ∧ R = R' ∧ W = W') := fun hn {K R W} h => by
    obtain ⟨r, m', h1, h2⟩ := aop_ex hn h
    refine ⟨r, m', R, W, h1, ?_⟩
    have e : (fun q n => q = r ∧ n = m') = (fun (q : PV) (n : Mem) => q = r ∧ n = m' ∧ R = R ∧ W = W) := by funext q n; simp
    rw [e] at h2; exact h2
  cases op
  case call c =>
    simp only [aopD] at h ⊢
    split at h
    · split at h
      · rename_i hf
        rcases h with ⟨r, m', R, W, h1, h2, h3⟩ | ⟨hh, _⟩
        case inr => cases hh
        exact ⟨_, _, R, W, h3, by first | exact .inl ⟨r, m', R, W, h1, h2, rfl, rfl, rfl, rfl⟩ | (simp only [hf]; exact .inl ⟨r, m', R, W, h1, h2, rfl, rfl, rfl, rfl⟩)⟩
      · exact h.elim
    · rename_i hc
      exact fin (by simp only [isCall]) h
  all_goals (simp only [aopD] at h ⊢; exact fin rfl h)
theorem aopD_skip {op : Op} {K : PV → Mem → List Id → List Id → Prop} (hcs : cs.all id = false) (h : aopD P cs op e m K) : ∃ r R W, K (.gd cs r) m R W := by
  have fin : ∀ {K : PV → Mem → List Id → List Id → Prop} {R W : List Id}, aop P cs op e m (fun r m' => K r m' R W) → ∃ r R W, K (.gd cs r) m R W := fun h => by
    obtain ⟨r, h⟩ := aop_skip hcs h; exact ⟨r, _, _, h⟩
  cases op
  case call c =>
    simp only [aopD] at h
    split at h
    · split at h
      · rcases h with ⟨r, m', R, W, h1, h2, h3⟩ | ⟨hh, _⟩
        case inr => cases hh
        rcases h2 with h2 | rfl
        · rw [hcs] at h2; cases h2
        · have gd_ : gdv cs r = .gd cs r := by
            unfold gdv; split
            · cases hcs
            · rfl
          exact ⟨r, R, W, gd_ ▸ h3⟩
      · exact h.elim
    · exact fin h
  all_goals (simp only [aopD] at h; exact fin h)
end
end Go.Proofs.YtppfogbgbpadiaaW.AW
namespace Go.Proofs.YtppfogbgbpadiaaW.AW
open Go Go.RowKit
set_option linter.unusedVariables false
set_option linter.unusedSimpArgs false
def bds (o : Oper) : List Nat := (o.after.toList.filter (Region.binds .any ·)).map (·.on)
def nd (acc : List Nat) (o : Oper) : Nat := (bds o).foldl (fun s j => s ||| (2 ^ j ||| acc.getD j 0)) 0
/-- Whom each operation waits for, as bits. -/
def nds : List Oper → List Nat → List Nat
  | [], acc => acc
  | o :: r, acc => nds r (acc ++ [nd acc o])
def dsto (ops : Array Oper) (j : Nat) : Option Tmp := (ops[j]?).bind (·.dst)
def bdsAt (ops : Array Oper) (j : Nat) : List Nat := match ops[j]? with | some o => bds o | none => []
/-- Who is looked at is waited for, or waits; no slot is filled twice. -/
def drawOk (ops : Array Oper) : Bool := (List.range ops.size).all fun i => match ops[i]? with
  | none => true
  | some o => (bds o).all (· < i) && ((o.looksAt ops).all (fun t => (List.range ops.size).all fun j => dsto ops j != some t || ((bds o).contains j || (bdsAt ops j).contains i)) &&
      (List.range ops.size).all (fun j => j == i || (o.dst.isNone || dsto ops j != o.dst)))
/-- Nothing in common. -/
def disj (a b : List Id) : Bool := a.all (fun x => !b.contains x)
/-- Whoever stands before an operation is waited for, or has nothing to do with what it looks at and changes. -/
def evB (N : List Nat) (rd wr : List (Nat × List Id)) (i : Nat) (R W : List Id) : Bool :=
  rd.all (fun p => (N.getD i 0).testBit p.1 || disj p.2 W) && wr.all (fun p => (N.getD i 0).testBit p.1 || disj p.2 (R ++ W))
theorem disj_nil (a : List Id) : disj a [] = true := by simp [disj]
theorem evOk_p {N : List Nat} {rd : List (Nat × List Id)} {i : Nat} {R : List Id} : evB N rd [] i R [] = true := by simp [evB, disj_nil]
theorem evOk_e {N : List Nat} {rd wr : List (Nat × List Id)} {i : Nat} : evB N rd wr i [] [] = true := by simp [evB, disj_nil]
def addE (i : Nat) (l : List Id) (acc : List (Nat × List Id)) : List (Nat × List Id) := match l with | [] => acc | l => (i, l) :: acc
theorem addE_n {i : Nat} {acc : List (Nat × List Id)} : addE i [] acc = acc := rfl
theorem addE_c {i : Nat} {x : Id} {l : List Id} {acc : List (Nat × List Id)} : addE i (x :: l) acc = (i, x :: l) :: acc := rfl
theorem addE_mem {i : Nat} {l : List Id} {acc : List (Nat × List Id)} {p : Nat × List Id} (h : p ∈ acc) : p ∈ addE i l acc := by cases l <;> simp [addE, h]
theorem addE_new {i : Nat} {l : List Id} {acc : List (Nat × List Id)} : l = [] ∨ (i, l) ∈ addE i l acc := by cases l <;> simp [addE]
def arunD (P : Program) (nt : Nat) (ds : List (Option Tmp)) (N : List Nat) : Nat → List (Nat × List Id) → List (Nat × List Id) → List Oper → (AS → Prop) → AS → Prop
  | _, _, _, [], K, s => K s
  | i, rd, wr, o :: rest, K, s => match agd ds s o.guard with
    | some cs => (o.dst.all (· < nt) = true) ∧ aopD P cs o.op (fun x => strip cs (s.ev x)) s.m (fun r m' R W => evB N rd wr i R W = true ∧ arunD P nt ds N (i + 1) (addE i R rd) (addE i W wr) rest K (({ s with m := m' } : AS).put o.dst r))
    | none => False
def Stp (P : Program) (nt : Nat) (ds : List (Option Tmp)) (o : Oper) (s s' : AS) (R W : List Id) : Prop := ∃ cs r m', agd ds s o.guard = some cs ∧ o.dst.all (· < nt) = true ∧
  aopD P cs o.op (fun x => strip cs (s.ev x)) s.m (fun q n R' W' => q = r ∧ n = m' ∧ R' = R ∧ W' = W) ∧ s' = ({ s with m := m' } : AS).put o.dst r
def ordB (N : List Nat) (j i : Nat) : Prop := (N.getD i 0).testBit j = true
/-- Of two operations that the order does not tell apart neither changes what the other one looks at or changes. -/
def Apart (N : List Nat) (R W : Nat → List Id) (j i : Nat) : Prop := ordB N j i ∨ ((∀ o, o ∈ R j → o ∉ W i) ∧ (∀ o, o ∈ W j → o ∉ R i ∧ o ∉ W i))
theorem disj_spec {a b : List Id} (h : disj a b = true) : ∀ o, o ∈ a → o ∉ b := fun o h1 h2 => by
  simp only [disj, List.all_eq_true, Bool.not_eq_true', List.contains_eq_mem, decide_eq_false_iff_not] at h
  exact h o h1 h2
theorem trace {P : Program} {nt : Nat} {ds : List (Option Tmp)} {N : List Nat} {K : AS → Prop} : ∀ (l : List Oper) (i : Nat) (rd wr : List (Nat × List Id)) (s : AS), arunD P nt ds N i rd wr l K s →
    ∃ (T : Nat → AS) (R W : Nat → List Id), T i = s ∧ (∀ k o, l[k]? = some o → Stp P nt ds o (T (i + k)) (T (i + k + 1)) (R (i + k)) (W (i + k))) ∧ K (T (i + l.length)) ∧
      (∀ k, k < l.length → (∀ p ∈ rd, ordB N p.1 (i + k) ∨ ∀ o, o ∈ p.2 → o ∉ W (i + k)) ∧ (∀ p ∈ wr, ordB N p.1 (i + k) ∨ ∀ o, o ∈ p.2 → o ∉ R (i + k) ∧ o ∉ W (i + k))) ∧
      (∀ j k, j < k → k < l.length → Apart N R W (i + j) (i + k))
  | [], i, rd, wr, s, h => ⟨fun _ => s, fun _ => [], fun _ => [], rfl, fun k o hk => by simp at hk, h, fun k hk => by simp at hk, fun j k _ hk => by simp at hk⟩
  | o :: l, i, rd, wr, s, h => by
    simp only [arunD] at h
    split at h
    · rename_i cs hg
      obtain ⟨h1, h2⟩ := h
      obtain ⟨r, m', R0, W0, ⟨h3, h4⟩, h5⟩ := aopD_ex h2
      obtain ⟨T, R, W, t1, t2, t3, t4, t5⟩ := trace l (i + 1) _ _ _ h4
      simp only [evB, Bool.and_eq_true, List.all_eq_true, Bool.or_eq_true] at h3
      refine ⟨fun k => if k = i then s else T k, fun k => if k = i then R0 else R k, fun k => if k = i then W0 else W k, by simp, fun k o' hk => ?_, ?_, fun k hk => ?_, fun j k hjk hk => ?_⟩
      · cases k with
        | zero =>
          simp at hk; subst hk
          simp only [Nat.add_zero, if_true, if_neg (show i + 1 ≠ i by omega), t1]
          exact ⟨cs, r, m', hg, h1, h5, rfl⟩
        | succ k =>
          simp only [List.getElem?_cons_succ] at hk
          have := t2 k o' hk
          rw [show i + 1 + k = i + (k + 1) by omega] at this
          simp only [if_neg (show i + (k + 1) ≠ i by omega), if_neg (show i + (k + 1) + 1 ≠ i by omega)]
          exact this
      · simp only [List.length_cons, if_neg (show i + (l.length + 1) ≠ i by omega)]
        rw [show i + (l.length + 1) = i + 1 + l.length by omega]; exact t3
      · cases k with
        | zero =>
          simp only [Nat.add_zero, if_true]
          refine ⟨fun p hp => (h3.1 p hp).imp id disj_spec, fun p hp => (h3.2 p hp).imp id (fun hd o ho => ?_)⟩
          have := disj_spec hd o ho
          simpa using this
        | succ k =>
          have := t4 k (by simpa using hk)
          simp only [if_neg (show i + (k + 1) ≠ i by omega), show i + (k + 1) = i + 1 + k from by omega, if_neg (show ¬ i + 1 + k = i by omega)]
          exact ⟨fun p hp => this.1 p (addE_mem hp), fun p hp => this.2 p (addE_mem hp)⟩
      · obtain ⟨k, rfl⟩ : ∃ k', k = k' + 1 := ⟨k - 1, by omega⟩
        have hk' : k < l.length := by simpa using hk
        cases j with
        | zero =>
          have h6 := t4 k hk'
          simp only [Apart, Nat.add_zero, if_true, if_neg (show i + (k + 1) ≠ i by omega), show i + (k + 1) = i + 1 + k from by omega, if_neg (show ¬ i + 1 + k = i by omega)]
          have hR : ordB N i (i + 1 + k) ∨ ∀ o, o ∈ R0 → o ∉ W (i + 1 + k) := by
            rcases addE_new (i := i) (l := R0) (acc := rd) with h7 | h7
            · exact .inr (fun o ho => by rw [h7] at ho; cases ho)
            · exact h6.1 _ h7
          have hW : ordB N i (i + 1 + k) ∨ ∀ o, o ∈ W0 → o ∉ R (i + 1 + k) ∧ o ∉ W (i + 1 + k) := by
            rcases addE_new (i := i) (l := W0) (acc := wr) with h7 | h7
            · exact .inr (fun o ho => by rw [h7] at ho; cases ho)
            · exact h6.2 _ h7
          rcases hR with hR | hR
          · exact .inl hR
          · rcases hW with hW | hW
            · exact .inl hW
            · exact .inr ⟨hR, hW⟩
        | succ j =>
          have := t5 j k (by omega) hk'
          simp only [Apart, if_neg (show i + (k + 1) ≠ i by omega), if_neg (show i + (j + 1) ≠ i by omega), show i + (k + 1) = i + 1 + k from by omega, if_neg (show ¬ i + 1 + k = i by omega), show i + (j + 1) = i + 1 + j from by omega, if_neg (show ¬ i + 1 + j = i by omega)]
          exact this
    · exact h.elim
theorem foldl_bit (acc : List Nat) (j : Nat) : ∀ (l : List Nat) (s : Nat), (l.foldl (fun s d => s ||| (2 ^ d ||| acc.getD d 0)) s).testBit j = true → s.testBit j = true ∨ ∃ d ∈ l, j = d ∨ (acc.getD d 0).testBit j = true
  | [], s, h => .inl h
  | d :: l, s, h => by
    rcases foldl_bit acc j l _ h with h | ⟨d', h1, h2⟩
    · simp only [Nat.testBit_or, Bool.or_eq_true, Nat.testBit_two_pow, decide_eq_true_eq] at h
      rcases h with h | h | h
      · exact .inl h
      · exact .inr ⟨d, by simp, .inl h.symm⟩
      · exact .inr ⟨d, by simp, .inr h⟩
    · exact .inr ⟨d', by simp [h1], h2⟩
theorem nds_spec : ∀ (l : List Oper) (acc : List Nat), (nds l acc).length = acc.length + l.length ∧ (∀ i, i < acc.length → (nds l acc)[i]? = acc[i]?) ∧
    ∀ k o, l[k]? = some o → ∃ A : List Nat, (∀ i, i < acc.length + k → A[i]? = (nds l acc)[i]?) ∧ A.length = acc.length + k ∧ (nds l acc)[acc.length + k]? = some (nd A o)
  | [], acc => ⟨rfl, fun _ _ => rfl, fun k o h => by simp at h⟩
  | o :: l, acc => by
    obtain ⟨h1, h2, h3⟩ := nds_spec l (acc ++ [nd acc o])
    simp only [List.length_append, List.length_cons, List.length_nil] at h1 h2 h3
    refine ⟨by simp only [nds, List.length_cons]; omega, fun i hi => ?_, fun k o' hk => ?_⟩
    · simp only [nds]; rw [h2 i (by omega), List.getElem?_append_left hi]
    · cases k with
      | zero =>
        simp at hk; subst hk
        refine ⟨acc, fun i hi => ?_, rfl, ?_⟩
        · simp only [nds]; rw [h2 i (by omega), List.getElem?_append_left (by omega)]
        · simp only [nds]; rw [h2 _ (by omega)]; simp
      | succ k =>
        simp only [List.getElem?_cons_succ] at hk
        obtain ⟨A, a1, a2, a3⟩ := h3 k o' hk
        refine ⟨A, fun i hi => ?_, by omega, ?_⟩
        · exact a1 i (by omega)
        · simp only [nds]; rw [show acc.length + (k + 1) = acc.length + (0 + 1) + k by omega]; exact a3
/-- A bit of an operation: someone whom it waits for, or a bit of one of these. -/
theorem nds_bit {ops : Array Oper} {i j : Nat} (h : ((nds ops.toList []).getD i 0).testBit j = true) : ∃ o, ops[i]? = some o ∧ ∃ d ∈ bds o, j = d ∨ (d < i ∧ ((nds ops.toList []).getD d 0).testBit j = true) := by
  obtain ⟨h1, h2, h3⟩ := nds_spec ops.toList []
  cases ho : ops[i]? with
  | none =>
    have : ops.toList.length ≤ i := by simpa using ho
    rw [List.getD_eq_getElem?_getD, List.getElem?_eq_none (by rw [h1]; simpa using this)] at h
    simp at h
  | some o =>
    refine ⟨o, rfl, ?_⟩
    obtain ⟨A, a1, a2, a3⟩ := h3 i o (by simpa using ho)
    simp only [List.length_nil, Nat.zero_add] at a1 a2 a3
    rw [List.getD_eq_getElem?_getD, a3] at h
    rcases foldl_bit A j _ _ h with h | ⟨d, d1, d2⟩
    · simp at h
    · refine ⟨d, d1, d2.imp id fun d2 => ?_⟩
      by_cases hd : d < i
      · exact ⟨hd, by rw [List.getD_eq_getElem?_getD, ← a1 d hd, ← List.getD_eq_getElem?_getD]; exact d2⟩
      · rw [List.getD_eq_getElem?_getD, List.getElem?_eq_none (by omega)] at d2; simp at d2
/-- Listed: a set of operations that holds whom it waits for. -/
structure Lst (ops : Array Oper) (L : Nat → Prop) : Prop where
  dn : ∀ i o, L i → ops[i]? = some o → ∀ d ∈ bds o, L d
theorem Lst.bits {ops : Array Oper} {L : Nat → Prop} (h : Lst ops L) : ∀ (n i : Nat), i < n → (∀ o, ops[i]? = some o → ∀ d ∈ bds o, L d) → ∀ j, ((nds ops.toList []).getD i 0).testBit j = true → L j
  | n + 1, i, hi, hb, j, hj => by
    obtain ⟨o, ho, d, d1, d2⟩ := nds_bit hj
    rcases d2 with rfl | ⟨d2, d3⟩
    · exact hb o ho _ d1
    · exact h.bits n d (by omega) (fun o' ho' => h.dn d o' (hb o ho d d1) ho') j d3
section
variable {P : Program} {C : Cx} {ops : Array Oper}
theorem drawn_FR {s : AS} {a : Act} {w : World} (h : C.FR s a w) : C.FR s a { w with drawn := w.drawn + 1 } := by
  obtain ⟨β, κ, A, S, h⟩ := h
  have hx : Ext w S s.m β κ A { w with drawn := w.drawn + 1 } S s.m β κ A := ⟨rfl, rfl, rfl, Nat.le_refl _, fun _ h => h, fun _ _ => ⟨rfl, rfl⟩, fun _ _ _ => rfl, Nat.le_refl _, fun _ h => h, fun k h => .inr h, fun _ h => .inl h⟩
  refine ⟨β, κ, A, S, h.df, h.sz, fun t => (h.tv t).ext hx h.mr, ⟨fun o x ho => ?_, h.mr.ns, h.mr.dj, h.mr.nx, h.mr.lt⟩, h.ex.trans hx⟩
  exact OB.move (w := w) (w' := { w with drawn := w.drawn + 1 }) (fun _ _ => ⟨rfl, rfl⟩) (fun _ h => h) (fun _ h => h) (fun _ _ => rfl) (h.mr.nx o x ho) (fun _ _ => rfl) (h.mr.ob o x ho)
theorem drawOk_spec (h : drawOk ops = true) {i : Nat} {o : Oper} (ho : ops[i]? = some o) :
    (∀ d ∈ bds o, d < i) ∧ (∀ t ∈ o.looksAt ops, ∀ j, dsto ops j = some t → j ∈ bds o ∨ i ∈ bdsAt ops j) ∧ (∀ j t, o.dst = some t → dsto ops j = some t → j = i) := by
  have hi : i < ops.size := (Array.getElem?_eq_some_iff.1 ho).1
  have lt : ∀ j t, dsto ops j = some t → j < ops.size := fun j t hj => by
    unfold dsto at hj
    cases q : ops[j]? with
    | none => rw [q] at hj; cases hj
    | some _ => exact (Array.getElem?_eq_some_iff.1 q).1
  simp only [drawOk, List.all_eq_true, List.mem_range] at h
  have h1 := h i hi
  rw [ho] at h1
  simp only [Bool.and_eq_true, List.all_eq_true, decide_eq_true_eq, List.mem_range, Bool.or_eq_true, bne_iff_ne, beq_iff_eq, List.contains_iff_mem] at h1
  refine ⟨h1.1, fun t ht j hj => ?_, fun j t ht hj => ?_⟩
  · rcases h1.2.1 t ht j (lt j t hj) with h2 | h2 | h2
    · exact absurd hj h2
    · exact .inl h2
    · exact .inr h2
  · rcases h1.2.2 j (lt j t hj) with h2 | h2 | h2
    · exact h2
    · rw [ht] at h2; cases h2
    · exact absurd (hj.trans ht.symm) h2
theorem bit_lt (hd : drawOk ops = true) : ∀ (n i j : Nat), i < n → ((nds ops.toList []).getD i 0).testBit j = true → j < i
  | n + 1, i, j, hi, h => by
    obtain ⟨o, ho, d, d1, d2⟩ := nds_bit h
    have := (drawOk_spec hd ho).1 d d1
    rcases d2 with rfl | ⟨_, d3⟩
    · exact this
    · exact Nat.lt_trans (bit_lt hd n d j (by omega) d3) this
/-- Where an operation can be next, those that it can be told from stand as in the text. -/
theorem ready_ord (hd : drawOk ops = true) {L : Nat → Prop} (hL : Lst ops L) {i j : Nat} {o : Oper} (ho : ops[i]? = some o) (hb : ∀ d ∈ bds o, L d) (hn : ¬ L i) (key : ((nds ops.toList []).getD i 0).testBit j = true ∨ ((nds ops.toList []).getD j 0).testBit i = true) : L j ↔ j < i := by
  rcases key with k | k
  · exact ⟨fun _ => bit_lt hd _ i j (Nat.lt_succ_self _) k, fun _ => hL.bits _ i (Nat.lt_succ_self _) (fun o' ho' => by rw [ho] at ho'; cases ho'; exact hb) j k⟩
  · have hij := bit_lt hd _ j i (Nat.lt_succ_self _) k
    exact ⟨fun h => absurd (hL.bits _ j (Nat.lt_succ_self _) (fun o' ho' => hL.dn j o' h ho') i k) hn, fun h => by omega⟩
/-- The object that an operation reads. -/
def rdO (op : Op) (e : Operand → PV) : Option Id := match op with
  | .load _ x => match e x with | .bp o _ => some o | .pt o _ _ _ _ => some o | _ => none
  | .lookup _ x _ _ => match e x with | .mp o => some o | _ => none
  | .convert _ _ x => match e x with | .sl o _ _ _ _ => some o | _ => none
  | _ => none
theorem apure_mem {cs : List Bool} {op : Op} {e : Operand → PV} {m m2 : Mem} (h : ∀ o, rdO op e = some o → m2.o o = m.o o) : apure P cs op e m2 = apure P cs op e m := by
  cases op
  case load t x =>
    cases hx : e x <;> simp only [rdO, hx, Option.some.injEq, forall_eq', reduceCtorEq, false_implies, implies_true] at h <;> simp only [apure, hx, h]
  case lookup t x i ok =>
    cases hx : e x <;> simp only [rdO, hx, Option.some.injEq, forall_eq', reduceCtorEq, false_implies, implies_true] at h <;> simp only [apure, hx] <;> (generalize e i = p; cases p <;> first | rfl | (rename_i ik _; cases ik <;> first | rfl | simp only [h]))
  case convert s d x =>
    cases hx : e x <;> simp only [rdO, hx, Option.some.injEq, forall_eq', reduceCtorEq, false_implies, implies_true] at h <;> simp only [apure, aconvM, hx] <;> first | rfl | (rename_i sz n g; rcases sz with _ | _ | sz <;> rfl) | (rename_i o sz n off len; rcases sz with _ | _ | sz <;> first | rfl | (simp only [Nat.zero_add, h]))
  case unOp u t x => cases u <;> rfl
  case slice t x lo hi mx => cases mx <;> rfl
  case makeFunc f a b => cases f <;> rfl
  all_goals rfl
def slO (p : PV) : Option Id := match p with | .sl o _ _ _ _ => some o | _ => none
theorem asrc_mem {m m2 : Mem} {p : PV} (h : ∀ o, slO p = some o → m2.o o = m.o o) : asrc m2 p = asrc m p ∧ aflat m2 p = aflat m p := by
  cases p <;> first | exact ⟨rfl, rfl⟩ | (rename_i o sz n off len; have := h o rfl; simp only [asrc, aflat, this]; exact ⟨trivial, trivial⟩)
theorem same_id {W : List Id} {m m2 : Mem} (h : m2.nx = m.nx) : Same2 W m m m2 m2 := ⟨h, fun o => .inl ⟨rfl, rfl⟩⟩
theorem same_grow {m m2 : Mem} (h : m2.nx = m.nx) (x : Ob) : Same2 [[m.nx]] m (m.grow none x) m2 (m2.grow none x) := by
  refine ⟨by simp [Mem.grow, h], fun o => ?_⟩
  simp only [Mem.grow, Mem.gone, upd, h]
  by_cases e : o = [m.nx]
  · exact .inr ⟨by simp [e], by simp [e]⟩
  · exact .inl ⟨by simp [e], by simp [e]⟩
theorem same_set {m m2 : Mem} (h : m2.nx = m.nx) (q : Id) (x : Ob) : Same2 [q] m (m.set q x) m2 (m2.set q x) := by
  refine ⟨by simp [Mem.set, h], fun o => ?_⟩
  simp only [Mem.set, upd]
  by_cases e : o = q
  · exact .inr ⟨by simp [e], by simp [e]⟩
  · exact .inl ⟨by simp [e], by simp [e]⟩
theorem same_kill {m m2 : Mem} (h : m2.nx = m.nx) (q : Id) (x : Ob) : Same2 [q, [m.nx]] m (m.grow (some q) x) m2 (m2.grow (some q) x) := by
  refine ⟨by simp [Mem.grow, h], fun o => ?_⟩
  simp only [Mem.grow, Mem.gone, upd, h]
  by_cases e : o = [m.nx]
  · exact .inr ⟨by simp [e], by simp [e]⟩
  · by_cases e2 : o = q
    · exact .inr ⟨by simp [e2], by simp [e2]⟩
    · exact .inl ⟨by simp [e, e2], by simp [e, e2]⟩
theorem rdO_rdN {op : Op} {e : Operand → PV} {o : Id} (h : rdO op e = some o) : o ∈ rdN op e := by
  cases op <;> simp only [rdO] at h <;> try (cases h; done)
  all_goals
    simp only [rdN]
    split at h <;> first | (cases h; done) | (rename_i hx; cases h; simp [hx, idL])
theorem slO_idL {p : PV} {o : Id} (h : slO p = some o) : o ∈ idL p := by
  unfold slO at h
  split at h
  · cases h; simp [idL]
  · cases h
/-- An operation does the same in any memory in which its objects are the same. -/
theorem aop_tr {P : Program} {cs : List Bool} {op : Op} {e : Operand → PV} {m m' : Mem} {r : PV} (hn : isCall op = false) (hc : cs.all id = true) (h : aop P cs op e m (fun q n => q = r ∧ n = m')) :
    m.nx ≤ m'.nx ∧ ∀ m2 : Mem, m2.nx = m.nx → (∀ o ∈ rdN op e ++ wrN op e m, m2.o o = m.o o) → ∃ m2', Same2 (wrN op e m) m m' m2 m2' ∧ aop P cs op e m2 (fun q n => q = r ∧ n = m2') := by
  have fin : ∀ (op : Op) (W : List Id), ((cs.all id = true → (apure P cs op e m).ok) ∧ gdv cs (apure P cs op e m).v = r ∧ m = m') → (∀ m2 K, aop P cs op e m2 K = ((cs.all id = true → (apure P cs op e m2).ok) ∧ K (gdv cs (apure P cs op e m2).v) m2)) →
      m.nx ≤ m'.nx ∧ ∀ m2 : Mem, m2.nx = m.nx → (∀ o ∈ rdN op e ++ W, m2.o o = m.o o) → ∃ m2', Same2 W m m' m2 m2' ∧ aop P cs op e m2 (fun q n => q = r ∧ n = m2') := fun op W h1 h2 => by
    obtain ⟨a, b, rfl⟩ := h1
    refine ⟨Nat.le_refl _, fun m2 e2 hag => ⟨m2, same_id e2, ?_⟩⟩
    have : apure P cs op e m2 = apure P cs op e m := apure_mem (fun o ho => hag o (List.mem_append_left _ (rdO_rdN ho)))
    rw [h2, this]
    exact ⟨a, b, rfl⟩
  cases op
  case box t x =>
    simp only [aop, onG, if_pos hc, wrN] at h ⊢
    split at h
    · rename_i hv
      obtain ⟨rfl, rfl⟩ := h
      exact ⟨Nat.le_succ _, fun m2 e2 _ => ⟨_, same_grow e2 _, by simp only [hv, e2]; exact ⟨trivial, trivial⟩⟩⟩
    · exact h.elim
  case alloc t =>
    simp only [aop, onG, if_pos hc, wrN] at h ⊢
    obtain ⟨h1, rfl, rfl⟩ := h
    exact ⟨Nat.le_succ _, fun m2 e2 _ => ⟨_, same_grow e2 _, h1, by rw [e2], rfl⟩⟩
  case buildSlice t n ps =>
    simp only [aop, onG, if_pos hc, wrN] at h ⊢
    split at h
    · rename_i hv
      obtain ⟨h1, rfl, rfl⟩ := h
      exact ⟨Nat.le_succ _, fun m2 e2 _ => ⟨_, same_grow e2 _, by simp only [hv]; exact ⟨h1, by rw [e2], by first | rfl | trivial⟩⟩⟩
    · exact h.elim
  case makeSlice t l c =>
    simp only [aop, onG, if_pos hc, wrN] at h ⊢
    split at h
    · rename_i hl hc'
      obtain ⟨h1, rfl, rfl⟩ := h
      exact ⟨Nat.le_succ _, fun m2 e2 _ => ⟨_, same_grow e2 _, by simp only [hl, hc']; exact ⟨h1, by rw [e2], by first | rfl | trivial⟩⟩⟩
    · exact h.elim
  case makeMap t r =>
    simp only [aop, onG, if_pos hc, wrN] at h ⊢
    obtain ⟨h1, h2, rfl, rfl⟩ := h
    exact ⟨Nat.le_succ _, fun m2 e2 _ => ⟨_, same_grow e2 _, h1, h2, by rw [e2], rfl⟩⟩
  case store t a x =>
    simp only [aop, onG, if_pos hc, wrN, rdN, List.nil_append] at h ⊢
    unfold astore at h ⊢
    split at h
    · rename_i vs hv
      split at h
      · rename_i q j ha
        split at h
        · rename_i ps ho
          obtain ⟨h1, rfl, rfl⟩ := h
          refine ⟨Nat.le_refl _, fun m2 e2 hag => ⟨_, by rw [ha]; exact same_set e2 q _, ?_⟩⟩
          have := hag q (by simp [ha, idL])
          simp only [hv, ha, this, ho]
          exact ⟨h1, by first | rfl | trivial, by first | rfl | trivial⟩
        · exact h.elim
      · rename_i q sz n i j ha
        split at h
        · rename_i sz' n' g ho
          obtain ⟨h1, rfl, rfl⟩ := h
          refine ⟨Nat.le_refl _, fun m2 e2 hag => ⟨_, by rw [ha]; exact same_set e2 q _, ?_⟩⟩
          have := hag q (by simp [ha, idL])
          simp only [hv, ha, this, ho]
          exact ⟨h1, by first | rfl | trivial, by first | rfl | trivial⟩
        · exact h.elim
      · exact h.elim
    · exact h.elim
  case mapUpdate t x k v =>
    simp only [aop, onG, if_pos hc, wrN, rdN, List.nil_append] at h ⊢
    split at h
    · rename_i q i hx hk
      split at h
      · rename_i f hq
        obtain ⟨h1, h2, rfl, rfl⟩ := h
        refine ⟨Nat.le_refl _, fun m2 e2 hag => ⟨_, by rw [hx]; exact same_set e2 q _, ?_⟩⟩
        have := hag q (by simp [hx, idL])
        simp only [hx, hk, this, hq]
        exact ⟨h1, h2, by first | rfl | trivial, by first | rfl | trivial⟩
      · exact h.elim
    · exact h.elim
  case convert s d x =>
    cases hx : e x
    case str b =>
      by_cases hu : tkU8 P d
      · simp only [aop, hx, if_pos hu, onG, if_pos hc, wrN] at h ⊢
        obtain ⟨h1, rfl, rfl⟩ := h
        exact ⟨Nat.le_succ _, fun m2 e2 _ => ⟨_, same_grow e2 _, h1, by rw [e2], rfl⟩⟩
      · refine fin _ _ ?_ (fun m2 K => ?_)
        · simpa only [aop, hx, if_neg hu] using h
        · simp only [aop, hx, if_neg hu]
    case sl q sz n off len =>
      by_cases hu : s = d
      · simp only [aop, hx, if_pos hu, onG, if_pos hc, wrN, rdN] at h ⊢
        split at h
        · rename_i sz' n' g hq
          obtain ⟨h1, rfl, rfl⟩ := h
          refine ⟨Nat.le_refl _, fun m2 e2 hag => ⟨_, same_set e2 q _, ?_⟩⟩
          have := hag q (by simp [hx, idL])
          simp only [this, hq]
          exact ⟨h1, by first | rfl | trivial, by first | rfl | trivial⟩
        · exact h.elim
      · refine fin _ _ ?_ (fun m2 K => ?_)
        · simpa only [aop, hx, if_neg hu] using h
        · simp only [aop, hx, if_neg hu]
    all_goals
      refine fin _ _ ?_ (fun m2 K => ?_)
      · simpa only [aop, hx] using h
      · simp only [aop, hx]
  case call c =>
    simp only [isCall] at hn
    cases hcc : c.callee
    case builtin bi =>
      cases bi
      case append =>
        simp only [aop, hcc, onG, if_pos hc, wrN, rdN] at h ⊢
        split at h
        · rename_i s x t t' ha ht
          obtain ⟨h0, h⟩ := h
          simp only [ha, ht]
          unfold aappend at h
          split at h
          · rename_i k gs sz hs
            split at h
            · rename_i hes
              obtain ⟨h1, h2, rfl, rfl⟩ := h
              refine ⟨Nat.le_succ _, fun m2 e2 hag => ⟨_, by simp only [hes, idL, List.nil_append]; exact same_grow e2 _, h0, ?_⟩⟩
              have := asrc_mem (m := m) (m2 := m2) (p := e x) (fun o ho => hag o (List.mem_append_left _ (slO_idL ho)))
              simp only [aappend, hes, this.1, this.2, hs]
              exact ⟨h1, h2, by rw [e2], by first | rfl | trivial⟩
            · rename_i q sz0 n off len hes
              split at h
              · rename_i sz' n' g ho
                obtain ⟨h1, h2, rfl, rfl⟩ := h
                refine ⟨Nat.le_succ _, fun m2 e2 hag => ⟨_, by simp only [hes, idL, List.cons_append, List.nil_append]; exact same_kill e2 q _, h0, ?_⟩⟩
                have := asrc_mem (m := m) (m2 := m2) (p := e x) (fun o ho => hag o (List.mem_append_left _ (slO_idL ho)))
                have hq := hag q (by simp [hes, idL])
                simp only [aappend, hes, this.1, this.2, hs, hq, ho]
                exact ⟨h1, h2, by rw [e2], by first | rfl | trivial⟩
              · exact h.elim
            · exact h.elim
          · exact h.elim
        · exact h.elim
      case delete =>
        simp only [aop, hcc, onG, if_pos hc, wrN, rdN, List.nil_append] at h ⊢
        split at h
        · rename_i x k t ts ha ht
          simp only [ha, ht]
          split at h
          · rename_i q i hx hk
            split at h
            · rename_i f hq
              obtain ⟨h1, rfl, rfl⟩ := h
              refine ⟨Nat.le_refl _, fun m2 e2 hag => ⟨_, by rw [hx]; exact same_set e2 q _, ?_⟩⟩
              have := hag q (by simp [hx, idL])
              simp only [hx, hk, this, hq]
              exact ⟨h1, by first | rfl | trivial, by first | rfl | trivial⟩
            · exact h.elim
          · exact h.elim
        · exact h.elim
      all_goals
        refine fin _ _ ?_ (fun m2 K => ?_)
        · simpa only [aop, hcc] using h
        · simp only [aop, hcc]
    case value f => rw [hcc] at hn; cases hn
    case invoke a b => simp only [aop, hcc] at h
  all_goals exact fin _ _ h (fun m2 K => rfl)
theorem put_at (s : AS) (d : Option Tmp) (v : PV) (t : Tmp) : (s.put d v).t t = if d = some t then v else s.t t := by
  cases d with
  | none => rfl
  | some d =>
    show upd s.t d v t = _
    unfold upd
    by_cases e : t = d
    · subst e; simp
    · rw [if_neg e, if_neg (fun q => e (by injection q with q; exact q.symm))]
theorem put_m (s : AS) (d : Option Tmp) (v : PV) : (s.put d v).m = s.m := by cases d <;> rfl
theorem AS.ext' {s s' : AS} (h1 : ∀ t, s.t t = s'.t t) (h2 : s.m = s'.m) : s = s' := by
  cases s; cases s'
  simp only [AS.mk.injEq]
  exact ⟨funext h1, h2⟩
/-- What one run of an operation does where its objects are as in the text's order. -/
theorem aopD_run {cs : List Bool} {op : Op} {e : Operand → PV} {m m' : Mem} {r : PV} {R W : List Id} (hc : cs.all id = true) (h : aopD P cs op e m (fun q n R' W' => q = r ∧ n = m' ∧ R' = R ∧ W' = W)) :
    m.nx ≤ m'.nx ∧ ∀ m2 : Mem, m2.nx = m.nx → (∀ o ∈ R ++ W, m2.o o = m.o o) → ∃ m2', Same2 W m m' m2 m2' ∧
      ∀ {D : Id → Prop} {w : World} {S : Nat → Prop} {β κ : Id → Nat} {A : Id → Nat → Prop} {a : Act} {o : Oper} {next : Act → World → Prop} {Q : Exit → Act → World → Prop}, TC D → (∀ o, hb o m'.nx → ¬ hb o m.nx → ¬ D o) → MRD w S D m2 β κ A → (∀ x, OV β κ D w S (a.eval x) (e x)) → o.op = op →
        (∀ v w', Left w S D m2 β κ A (fun q n => q = r ∧ n = m2') v w' → next (a.put o.dst v) w') → o.wp P a w next Q := by
  have fin : ∀ (op : Op), isCall op = false → aop P cs op e m (fun r' m'' => r' = r ∧ m'' = m' ∧ rdN op e = R ∧ wrN op e m = W) → m.nx ≤ m'.nx ∧ ∀ m2 : Mem, m2.nx = m.nx → (∀ o ∈ R ++ W, m2.o o = m.o o) → ∃ m2', Same2 W m m' m2 m2' ∧
      ∀ {D : Id → Prop} {w : World} {S : Nat → Prop} {β κ : Id → Nat} {A : Id → Nat → Prop} {a : Act} {o : Oper} {next : Act → World → Prop} {Q : Exit → Act → World → Prop}, TC D → (∀ o, hb o m'.nx → ¬ hb o m.nx → ¬ D o) → MRD w S D m2 β κ A → (∀ x, OV β κ D w S (a.eval x) (e x)) → o.op = op →
        (∀ v w', Left w S D m2 β κ A (fun q n => q = r ∧ n = m2') v w' → next (a.put o.dst v) w') → o.wp P a w next Q := fun op hn h => by
    obtain ⟨r1, m1, ⟨rfl, rfl, rfl, rfl⟩, h9⟩ := aop_ex hn h
    obtain ⟨h1, h2⟩ := aop_tr hn hc h9
    refine ⟨h1, fun m2 e2 hag => ?_⟩
    obtain ⟨m2', hs, ha⟩ := h2 m2 e2 hag
    refine ⟨m2', hs, fun tc fr hm he ho hk => ?_⟩
    refine aop_ok (fun q n hqn hnx => ?_) hm he hc ho (fun hcl => by rw [hn] at hcl; cases hcl) ha hk
    obtain ⟨rfl, rfl⟩ := hqn
    intro o h3 h4
    rw [e2] at h3 h4
    exact fr o (by rw [← hs.1, hnx, e2]; exact h3) h4
  cases op
  case call c =>
    cases hcc : c.callee
    case value f =>
      simp only [aopD, hcc] at h
      split at h
      · rename_i g caps hf
        rcases h with ⟨r1, m1, R1, W1, h1, h2, rfl, rfl, rfl, rfl⟩ | ⟨hh, _⟩
        case inr => cases hh
        obtain ⟨h3, h4⟩ := h1 hc
        refine ⟨h3, fun m2 e2 hag => ?_⟩
        obtain ⟨m2', hs, hd⟩ := h4 m2 e2 hag
        refine ⟨m2', hs, fun tc fr hm he ho hk => ?_⟩
        exact call_ok hd tc (fun o a b => fr o (by rw [← hs.1]; exact a) (by rw [← e2]; exact b)) hm he hc ho hcc hf ⟨rfl, rfl⟩ hk
      · exact h.elim
    all_goals
      refine fin _ (by simp only [isCall, hcc]) ?_
      simp only [aopD, hcc] at h
      exact h
  all_goals exact fin _ rfl h
section draw
variable {T : Nat → AS} {R W : Nat → List Id} (hd : drawOk ops = true) (hT : ∀ k o, ops[k]? = some o → Stp P C.nt (ops.toList.map (·.dst)) o (T k) (T (k + 1)) (R k) (W k))
include hd hT
theorem T_dst (j : Nat) (t : Tmp) (hj : dsto ops j = some t) : ∀ k, j < k → k ≤ ops.size → (T k).t t = (T (j + 1)).t t
  | k + 1, h1, h2 => by
    by_cases e : k = j
    · subst e; rfl
    · rw [← T_dst j t hj k (by omega) (by omega)]
      have hk : ops[k]? = some ops[k] := by simp
      obtain ⟨cs, r, m', _, _, _, hs⟩ := hT k _ hk
      rw [hs, put_at, if_neg]
      intro hdst
      exact e ((drawOk_spec hd hk).2.2 j t hdst hj).symm
omit hd in
theorem T_old (t : Tmp) : ∀ k, k ≤ ops.size → (∀ j, j < k → dsto ops j ≠ some t) → (T k).t t = (T 0).t t
  | 0, _, _ => rfl
  | k + 1, h2, h => by
    rw [← T_old t k (by omega) (fun j hj => h j (by omega))]
    have hk : ops[k]? = some ops[k] := by simp
    obtain ⟨cs, r, m', _, _, _, hs⟩ := hT k _ hk
    rw [hs, put_at, if_neg]
    intro hdst
    exact h k (by omega) (by unfold dsto; rw [hk]; exact hdst)
omit hd in
/-- Names are not given back; what is not told of is not changed. -/
theorem T_step {k : Nat} (hk : k < ops.size) : (T k).m.nx ≤ (T (k + 1)).m.nx ∧ ∀ o, (T (k + 1)).m.o o ≠ (T k).m.o o → o ∈ W k := by
  have hk : ops[k]? = some ops[k] := by simp
  obtain ⟨cs, r, m', _, _, h, hs⟩ := hT k _ hk
  rw [hs, put_m]
  show (T k).m.nx ≤ m'.nx ∧ ∀ o, m'.o o ≠ (T k).m.o o → o ∈ W k
  by_cases hc : cs.all id = true
  · obtain ⟨h1, h2⟩ := aopD_run hc h
    refine ⟨h1, fun o ho => ?_⟩
    obtain ⟨m2', h3, _⟩ := h2 (T k).m rfl (fun _ _ => rfl)
    rcases h3.2 o with ⟨_, h4⟩ | ⟨h4, _⟩
    · exact absurd h4 ho
    · exact h4
  · obtain ⟨r', R', W', h1, h2, _⟩ := aopD_skip (by simpa using hc) h
    rw [h2]
    exact ⟨Nat.le_refl _, fun o ho => absurd rfl ho⟩
end draw
def lsd (listed : Array Bool) (j : Nat) : Prop := listed.getD j false = true
theorem lsd_set {listed : Array Bool} {i j : Nat} (hi : i < listed.size) : lsd (listed.setIfInBounds i true) j ↔ lsd listed j ∨ j = i := by
  unfold lsd
  simp only [Array.getD_eq_getD_getElem?, Array.getElem?_setIfInBounds]
  by_cases e : i = j
  · subst e; simp [hi]
  · simp [e, Ne.symm e]
theorem filter_lt {α : Type} {p p' : α → Bool} (x : α) (h : ∀ y, p' y = true → p y = true) (h1 : p x = true) (h2 : p' x = false) : ∀ l : List α, x ∈ l → (l.filter p').length < (l.filter p).length
  | y :: l, hx => by
    have le : ∀ l : List α, (l.filter p').length ≤ (l.filter p).length := fun l => by
      induction l with
      | nil => simp
      | cons z l ih =>
        simp only [List.filter_cons]
        cases hz : p' z with
        | true => simp [h z hz, ih]
        | false => cases hz' : p z <;> simp <;> omega
    simp only [List.filter_cons]
    by_cases e : x = y
    · subst e
      simp [h1, h2]
      have := le l; omega
    · have ih := filter_lt x h h1 h2 l (by simpa [e] using hx)
      cases hz : p' y with
      | true => simp [h y hz, ih]
      | false => cases hz' : p y <;> simp <;> omega
theorem all_listed (hd : drawOk ops = true) {listed : Array Bool} (hs : listed.size = ops.size) (hr : Region.ready .any ops listed = []) : ∀ n i, i < n → i < ops.size → lsd listed i
  | n + 1, i, hn, hi => by
    by_cases hl : lsd listed i
    · exact hl
    have ho : ops[i]? = some ops[i] := by simp
    have : i ∈ Region.ready .any ops listed := by
      rw [mem_ready]
      refine ⟨?_, _, ho, fun e he hb => ?_⟩
      · unfold lsd at hl
        have h' : i < listed.size := by omega
        simpa [Array.getD, h'] using hl
      · have hd' : e.on ∈ bds ops[i] := by simp only [bds, List.mem_map, List.mem_filter]; exact ⟨e, ⟨by simpa using he, hb⟩, rfl⟩
        have hlt := (drawOk_spec hd ho).1 _ hd'
        exact all_listed hd hs hr n e.on (by omega) (by omega)
    rw [hr] at this; simp at this
theorem ev_same {s s' : AS} {o : Oper} (h : ∀ t ∈ o.looksAt ops, s.t t = s'.t t) {x : Operand} (hx : x ∈ o.op.operands) : s.ev x = s'.ev x := by
  cases x with
  | tmp t => exact h t (List.mem_append_left _ (List.mem_filterMap.2 ⟨.tmp t, by simpa using hx, rfl⟩))
  | _ => rfl
theorem agd_same {s s' : AS} {o : Oper} (h : ∀ t ∈ o.looksAt ops, s.t t = s'.t t) : agd (ops.toList.map (·.dst)) s o.guard = agd (ops.toList.map (·.dst)) s' o.guard := by
  cases hg : o.guard with
  | none => rfl
  | some g =>
    obtain ⟨j, b⟩ := g
    unfold agd
    cases ht : gtmp (ops.toList.map (·.dst)) j with
    | none => simp only [ht]
    | some t =>
      have : t ∈ o.looksAt ops := by
        refine List.mem_append_right _ ?_
        rw [hg]
        have : (ops[j]?).bind (·.dst) = some t := by
          simp only [gtmp, List.getElem?_map] at ht
          have e0 : ops.toList[j]? = ops[j]? := by simp
          rw [e0] at ht
          cases hq : ops[j]? with
          | none => rw [hq] at ht; cases ht
          | some o' => rw [hq] at ht; exact ht
        simp [this]
      simp only [ht, h t this]
theorem T_eqo {T : Nat → AS} (o : Id) (i : Nat) : ∀ q, i ≤ q → (∀ j, i ≤ j → j < q → (T (j + 1)).m.o o = (T j).m.o o) → (T q).m.o o = (T i).m.o o
  | 0, h, _ => by rw [show i = 0 by omega]
  | q + 1, h, h2 => by
    by_cases e : i = q + 1
    · rw [e]
    · rw [h2 q (by omega) (by omega)]; exact T_eqo o i q (by omega) (fun j a b => h2 j a (by omega))
theorem T_mono {T : Nat → AS} {q : Nat} (h : ∀ k, k < q → (T k).m.nx ≤ (T (k + 1)).m.nx) (i : Nat) : ∀ j, i ≤ j → j ≤ q → (T i).m.nx ≤ (T j).m.nx
  | 0, hi, _ => by rw [show i = 0 by omega]; exact Nat.le_refl _
  | j + 1, hi, hj => by
    by_cases e : i = j + 1
    · rw [e]; exact Nat.le_refl _
    · exact Nat.le_trans (T_mono h i j (by omega) (by omega)) (h j (by omega))
/-- A name is in use from the start, or someone gave it out. -/
theorem tele {T : Nat → AS} (o : Id) : ∀ n, (∀ k, k < n → (T k).m.nx ≤ (T (k + 1)).m.nx) → (hb o (T n).m.nx ↔ hb o (T 0).m.nx ∨ ∃ j, j < n ∧ hb o (T (j + 1)).m.nx ∧ ¬ hb o (T j).m.nx)
  | 0, _ => ⟨.inl, fun h => h.elim id (fun ⟨j, h, _⟩ => absurd h (Nat.not_lt_zero _))⟩
  | n + 1, h => by
    have ih := tele o n (fun k hk => h k (by omega))
    constructor
    · intro h1
      by_cases h2 : hb o (T n).m.nx
      · rcases ih.1 h2 with h3 | ⟨j, h3, h4⟩
        · exact .inl h3
        · exact .inr ⟨j, by omega, h4⟩
      · exact .inr ⟨n, Nat.lt_succ_self _, h1, h2⟩
    · rintro (h1 | ⟨j, h1, h2, h3⟩)
      · exact (ih.2 (.inl h1)).mono (h n (by omega))
      · by_cases e : j = n
        · subst e; exact h2
        · exact (ih.2 (.inr ⟨j, by omega, h2, h3⟩)).mono (h n (by omega))
/-- Operation j changes object o. -/
def Chg (T : Nat → AS) (j : Nat) (o : Id) : Prop := (T (j + 1)).m.o o ≠ (T j).m.o o
/-- What is known once some of the operations are carried out. -/
structure Inv (C : Cx) (ops : Array Oper) (T : Nat → AS) (s0 : AS) (L : Nat → Prop) (a : Act) (w : World) (s : AS) (D : Id → Prop) : Prop where
  fr : C.FRD D s a w
  tA : ∀ j t, dsto ops j = some t → L j → s.t t = (T (j + 1)).t t
  tB : ∀ t, (∀ j, dsto ops j = some t → ¬ L j) → s.t t = s0.t t
  dd : ∀ o, D o ↔ hb o (T 0).m.nx ∨ ∃ j, j < ops.size ∧ L j ∧ hb o (T (j + 1)).m.nx ∧ ¬ hb o (T j).m.nx
  mm : ∀ o, ∃ q, q ≤ ops.size ∧ s.m.o o = (T q).m.o o ∧ ∀ j, j < ops.size → Chg T j o → (L j ↔ j < q)
theorem Cx.FRD.nx {D : Id → Prop} {t : Nat → PV} {m : Mem} {a : Act} {w : World} (h : C.FRD D ⟨t, m⟩ a w) {m2 : Mem} (ho : m2.o = m.o) (hn : C.m0.nx ≤ m2.nx) : C.FRD D ⟨t, m2⟩ a w := by
  obtain ⟨β, κ, A, S, h⟩ := h
  obtain ⟨mo, mn⟩ := m
  obtain ⟨mo2, mn2⟩ := m2
  simp only at ho
  subst ho
  exact ⟨β, κ, A, S, h.df, h.sz, h.tv, ⟨h.mr.ob, h.mr.ns, h.mr.dj, h.mr.nx, h.mr.lt⟩, ⟨h.ex.os, h.ex.tape, h.ex.output, h.ex.size, h.ex.sub, h.ex.be, h.ex.keep, hn, h.ex.dl, h.ex.new, h.ex.snew⟩⟩
/-- THE RULE of a region that draws its order: the walk in the order of the text serves. -/
theorem draw_ok {K : AS → Prop} {Q' : Exit → Act → World → Prop} (hd : drawOk ops = true) (hK : ∀ s a w, C.FR s a w → K s → Q' .normal a w) (s0 : AS)
    (h : arunD P C.nt (ops.toList.map (·.dst)) (nds ops.toList []) 0 [] [] ops.toList K s0) (a : Act) (w : World) (hf : C.FR s0 a w) : wpAny P .any ops Q' ops.size (Array.replicate ops.size false) a w := by
  obtain ⟨T, R, W, t0, hT, tK, _, hap⟩ := trace _ _ _ _ _ h
  simp only [Nat.zero_add, Array.length_toList] at hT tK hap
  replace hT : ∀ k o, ops[k]? = some o → Stp P C.nt (ops.toList.map (·.dst)) o (T k) (T (k + 1)) (R k) (W k) := fun k o hk => hT k o (by simpa using hk)
  have mono : ∀ k, k < ops.size → (T k).m.nx ≤ (T (k + 1)).m.nx := fun k hk => (T_step hT hk).1
  have chg : ∀ {j o}, j < ops.size → Chg T j o → o ∈ W j := fun hj hc => (T_step hT hj).2 _ hc
  have n0 : C.m0.nx ≤ (T 0).m.nx := by
    rw [t0]; obtain ⟨_, _, _, _, hf⟩ := hf; exact hf.ex.le
  have key : ∀ (fuel : Nat) (listed : Array Bool) (a : Act) (w : World), listed.size = ops.size → Lst ops (lsd listed) → ((List.range ops.size).filter fun j => !listed.getD j false).length ≤ fuel →
      (∃ s D, Inv C ops T s0 (lsd listed) a w s D) → wpAny P .any ops Q' fuel listed a w := by
    intro fuel
    have done : ∀ (listed : Array Bool) (a : Act) (w : World), listed.size = ops.size → (∃ s D, Inv C ops T s0 (lsd listed) a w s D) → (∀ i, i < ops.size → lsd listed i) → Q' .normal a w := by
      intro listed a w hsz ⟨s, D, I⟩ hall
      have hD : ∀ o, D o ↔ hb o (T ops.size).m.nx := fun o => by
        rw [I.dd, tele o ops.size mono]
        exact or_congr Iff.rfl ⟨fun ⟨j, h1, _, h2⟩ => ⟨j, h1, h2⟩, fun ⟨j, h1, h2⟩ => ⟨j, h1, hall j h1, h2⟩⟩
      have ho : (T ops.size).m.o = s.m.o := funext fun o => by
        obtain ⟨q, hq, h1, h2⟩ := I.mm o
        rw [h1]
        refine T_eqo o q ops.size hq (fun j a b => ?_)
        by_cases hc : (T (j + 1)).m.o o = (T j).m.o o
        · exact hc
        · exfalso; have := (h2 j b hc).1 (hall j b); omega
      have : (⟨s.t, (T ops.size).m⟩ : AS) = T ops.size := by
        refine AS.ext' (fun t => ?_) rfl
        by_cases ht : ∃ j, dsto ops j = some t
        · obtain ⟨j, hj⟩ := ht
          have hlt : j < ops.size := by
            unfold dsto at hj
            cases e : ops[j]? with
            | none => rw [e] at hj; cases hj
            | some _ => exact (Array.getElem?_eq_some_iff.1 e).1
          show s.t t = _
          rw [I.tA j t hj (hall j hlt), T_dst hd hT j t hj ops.size hlt (Nat.le_refl _)]
        · have hno : ∀ j, dsto ops j ≠ some t := fun j hj => ht ⟨j, hj⟩
          show s.t t = _
          rw [I.tB t (fun j hj => absurd hj (hno j)), T_old hT t ops.size (Nat.le_refl _) (fun j _ => hno j), t0]
      have hf := Cx.FRD.nx (t := s.t) (m := s.m) I.fr (m2 := (T ops.size).m) ho (Nat.le_trans n0 (T_mono mono 0 ops.size (Nat.zero_le _) (Nat.le_refl _)))
      rw [this, show D = AW.dN (T ops.size).m.nx from funext fun o => propext (hD o)] at hf
      exact hK _ _ _ hf tK
    induction fuel with
    | zero =>
      intro listed a w hsz hL hc hI
      have hall : ∀ i, i < ops.size → lsd listed i := fun i hi => by
        have h0 : (List.range ops.size).filter (fun j => !listed.getD j false) = [] := List.length_eq_zero_iff.1 (by omega)
        rw [List.filter_eq_nil_iff] at h0
        simpa [lsd] using h0 i (by simpa using hi)
      refine ⟨?_, done listed a w hsz hI hall⟩
      cases hr : Region.ready .any ops listed with
      | nil => rfl
      | cons i r =>
        have hi : i ∈ Region.ready .any ops listed := by rw [hr]; simp
        rw [mem_ready] at hi
        obtain ⟨h1, o, ho, _⟩ := hi
        have hlt := (Array.getElem?_eq_some_iff.1 ho).1
        have := hall i hlt
        unfold lsd at this
        have h' : i < listed.size := by omega
        simp [Array.getD, h'] at this h1
        rw [this] at h1; cases h1
    | succ fuel ih =>
      intro listed a w hsz hL hc hI
      refine ⟨fun hr => done listed a w hsz hI (fun i hi => all_listed hd hsz hr _ i (Nat.lt_succ_self _) hi), fun i hi => ?_⟩
      obtain ⟨s, D, I⟩ := hI
      rw [mem_ready] at hi
      obtain ⟨h1, o, ho, hb⟩ := hi
      have hlt := (Array.getElem?_eq_some_iff.1 ho).1
      have h' : i < listed.size := by omega
      have hnl : ¬ lsd listed i := by unfold lsd; simp [Array.getD, h'] at h1 ⊢; exact h1
      have hb' : ∀ d ∈ bds o, lsd listed d := fun d hd' => by
        simp only [bds, List.mem_map, List.mem_filter] at hd'
        obtain ⟨e, ⟨he, hbe⟩, rfl⟩ := hd'
        exact hb e (by simpa using he) hbe
      obtain ⟨hp1, hp2, hp3⟩ := drawOk_spec hd ho
      have hlook : ∀ t ∈ o.looksAt ops, (T i).t t = s.t t := fun t ht => by
        by_cases hj : ∃ j, dsto ops j = some t ∧ j ∈ bds o
        · obtain ⟨j, hj, hd'⟩ := hj
          rw [I.tA j t hj (hb' j hd'), T_dst hd hT j t hj i (hp1 j hd') (by omega)]
        · have hno : ∀ j, dsto ops j = some t → ¬ lsd listed j ∧ ¬ j < i := fun j hj' => by
            have hbj := (hp2 t ht j hj').resolve_left (fun h => hj ⟨j, hj', h⟩)
            unfold bdsAt at hbj
            cases hoj : ops[j]? with
            | none => rw [hoj] at hbj; simp at hbj
            | some p =>
              rw [hoj] at hbj
              have := (drawOk_spec hd hoj).1 i hbj
              exact ⟨fun hl => hnl (hL.dn j p hl hoj i hbj), by omega⟩
          rw [I.tB t (fun j hj => (hno j hj).1), T_old hT t i (by omega) (fun j hji hj => (hno j hj).2 hji), t0]
      obtain ⟨cs, r, m', hg, hdst, hop, hTs⟩ := hT i o ho
      rw [agd_same hlook] at hg
      have hTm : (T (i + 1)).m = m' := by rw [hTs, put_m]
      have hops : aopD P cs o.op (fun x => strip cs (s.ev x)) (T i).m (fun q n R' W' => q = r ∧ n = m' ∧ R' = R i ∧ W' = W i) := by
        rw [← aopD_congr (e := fun x => strip cs ((T i).ev x))]
        · exact hop
        · intro x hx; simp only [ev_same hlook hx]
      -- whoever changes what this one looks at or changes stands as in the text
      have hord : ∀ j x, j < ops.size → j ≠ i → Chg T j x → x ∈ R i ++ W i → (lsd listed j ↔ j < i) := fun j x hj hji hcj hx => by
        have hxj := chg hj hcj
        rw [List.mem_append] at hx
        refine ready_ord hd hL ho hb' hnl ?_
        rcases Nat.lt_or_ge j i with hlt' | hge
        · rcases hap j i hlt' hlt with h2 | ⟨_, h2⟩
          · exact .inl h2
          · have := h2 x hxj
            rcases hx with hx | hx
            · exact absurd hx this.1
            · exact absurd hx this.2
        · rcases hap i j (by omega) hj with h2 | ⟨h2, h3⟩
          · exact .inr h2
          · rcases hx with hx | hx
            · exact absurd hxj (h2 x hx)
            · exact absurd hxj (h3 x hx).2
      have hsame : ∀ x ∈ R i ++ W i, s.m.o x = (T i).m.o x := fun x hx => by
        obtain ⟨q, hq, h2, h3⟩ := I.mm x
        rw [h2]
        rcases Nat.le_total i q with hiq | hiq
        · refine T_eqo x i q hiq (fun j a b => ?_)
          by_cases hcj : (T (j + 1)).m.o x = (T j).m.o x
          · exact hcj
          · exfalso
            have hl := (h3 j (by omega) hcj).2 b
            by_cases hji : j = i
            · subst hji; exact hnl hl
            · have := (hord j x (by omega) hji hcj hx).1 hl; omega
        · refine (T_eqo x q i hiq (fun j a b => ?_)).symm
          by_cases hcj : (T (j + 1)).m.o x = (T j).m.o x
          · exact hcj
          · exfalso
            have hl := (hord j x (by omega) (by omega) hcj hx).2 b
            have := (h3 j (by omega) hcj).1 hl; omega
      have fin : ∀ (mN : Mem) (D' : Id → Prop) (a' : Act) (w' : World), C.FRD D' (({ s with m := mN } : AS).put o.dst r) a' w' →
          (∀ o, D' o ↔ AW.hb o (T 0).m.nx ∨ ∃ j, j < ops.size ∧ (lsd listed j ∨ j = i) ∧ AW.hb o (T (j + 1)).m.nx ∧ ¬ AW.hb o (T j).m.nx) → (∀ o, ∃ q, q ≤ ops.size ∧ mN.o o = (T q).m.o o ∧ ∀ j, j < ops.size → Chg T j o → ((lsd listed j ∨ j = i) ↔ j < q)) →
          wpAny P .any ops Q' fuel (listed.setIfInBounds i true) a' w' := fun mN D' a' w' hf' f6 f7 => by
        refine ih _ a' w' (by simp [hsz]) ⟨fun j o' hj ho' d hd' => ?_⟩ ?_ ⟨_, D', hf', ?_, ?_, fun x => ?_, fun x => ?_⟩
        · rw [lsd_set h'] at hj ⊢
          rcases hj with hj | rfl
          · exact .inl (hL.dn j o' hj ho' d hd')
          · rw [ho] at ho'; cases ho'; exact .inl (hb' d hd')
        · have := filter_lt (p := fun j => !listed.getD j false) (p' := fun j => !(listed.setIfInBounds i true).getD j false) i (fun y hy => by
            have hy' : ¬ lsd (listed.setIfInBounds i true) y := by unfold lsd; simpa using hy
            rw [lsd_set h'] at hy'
            have : ¬ lsd listed y := fun q => hy' (.inl q)
            unfold lsd at this; simpa using this) (by unfold lsd at hnl; simpa using hnl) (by
            have : lsd (listed.setIfInBounds i true) i := (lsd_set h').2 (.inr rfl)
            unfold lsd at this; simp [this]) (List.range ops.size) (by simpa using hlt)
          omega
        · intro j t hj hl
          rw [put_at]
          rw [lsd_set h'] at hl
          by_cases e : o.dst = some t
          · rw [if_pos e]
            have := hp3 j t e hj
            subst this
            rw [hTs, put_at, if_pos e]
          · rw [if_neg e]
            rcases hl with hl | rfl
            · exact I.tA j t hj hl
            · unfold dsto at hj; rw [ho] at hj; exact absurd hj e
        · intro t ht
          rw [put_at, if_neg]
          · exact I.tB t (fun j hj hl => ht j hj ((lsd_set h').2 (.inl hl)))
          · intro e; exact ht i (by unfold dsto; rw [ho]; exact e) ((lsd_set h').2 (.inr rfl))
        · rw [f6 x]
          exact or_congr Iff.rfl (exists_congr fun j => and_congr Iff.rfl (and_congr (lsd_set h').symm Iff.rfl))
        · obtain ⟨q, h1, h2, h3⟩ := f7 x
          exact ⟨q, h1, by rw [put_m]; exact h2, fun j hj hcj => by rw [lsd_set h']; exact h3 j hj hcj⟩
      have hw := agd_ok I.fr hg rfl
      unfold wpOp
      rw [ho]
      simp only
      rw [← hw]
      by_cases hc' : cs.all id = true
      case neg =>
        rw [if_neg hc']
        obtain ⟨r', R', W', h1, h2, _⟩ := aopD_skip (by simpa using hc') hops
        obtain ⟨β, κ, A, S, hf⟩ := I.fr
        refine fin s.m D _ _ ⟨β, κ, A, S, hf.step (ExtD.refl _ _ _ _ _ _ _) hf.mr (dst_lt hdst) (h1 ▸ .gd _ _ _ (fun e => absurd e hc') (fun _ => rfl))⟩ (fun x => ?_) (fun x => ?_)
        · rw [I.dd]
          refine or_congr Iff.rfl (exists_congr fun j => and_congr Iff.rfl ⟨fun h => ⟨.inl h.1, h.2⟩, fun h => ⟨?_, h.2⟩⟩)
          rcases h.1 with h1 | rfl
          · exact h1
          · exact absurd (by have := h.2.1; rwa [hTm, ← h2] at this) h.2.2
        · obtain ⟨q, g1, g2, g3⟩ := I.mm x
          refine ⟨q, g1, g2, fun j hj hcj => ?_⟩
          have hji : j ≠ i := fun e => hcj (by rw [e, hTm, ← h2])
          simp only [hji, or_false]
          exact g3 j hj hcj
      rw [if_pos hc']
      left
      obtain ⟨_, hrun⟩ := aopD_run hc' hops
      obtain ⟨m2', hs, hrun⟩ := hrun ⟨s.m.o, (T i).m.nx⟩ rfl hsame
      obtain ⟨β, κ, A, S, hf⟩ := Cx.FRD.nx (t := s.t) (m := s.m) I.fr (m2 := ⟨s.m.o, (T i).m.nx⟩) rfl (Nat.le_trans n0 (T_mono mono 0 i (Nat.zero_le _) (by omega)))
      have tc : TC D := fun x q hx hDx => by
        rw [I.dd] at hDx ⊢
        rcases hDx with h1 | ⟨j, h1, h2, h3, h4⟩
        · exact .inl ((hb_app hx).2 h1)
        · exact .inr ⟨j, h1, h2, (hb_app hx).2 h3, fun h5 => h4 ((hb_app hx).1 h5)⟩
      refine hrun tc (fun x hx1 hx2 hDx => ?_) hf.mr (fun x => ev_ok (s := ⟨s.t, ⟨s.m.o, (T i).m.nx⟩⟩) hf hc' x) rfl (fun v w' hl => ?_)
      · rw [← hTm] at hx1
        rcases (I.dd x).1 hDx with h2 | ⟨j, h2, h3, h4, h5⟩
        · exact hx2 (h2.mono (T_mono mono 0 i (Nat.zero_le _) (by omega)))
        · rcases Nat.lt_trichotomy j i with hji | hji | hji
          · exact hx2 (h4.mono (T_mono mono (j + 1) i hji (by omega)))
          · subst hji; exact hnl h3
          · exact h5 (hx1.mono (T_mono mono (i + 1) j hji (by omega)))
      · obtain ⟨r', m'', S', D', β', κ', A', ⟨rfl, rfl⟩, g2, g3, g4, g5⟩ := hl
        refine fin _ D' _ _ ⟨β', κ', A', S', hf.step g2 g3 (dst_lt hdst) g4⟩ (fun x => ?_) (fun x => ?_)
        · rw [g5, I.dd, hs.1]
          constructor
          · rintro ((h1 | ⟨j, h1, h2, h3⟩) | h1)
            · exact .inl h1
            · exact .inr ⟨j, h1, .inl h2, h3⟩
            · exact .inr ⟨i, hlt, .inr rfl, by rw [hTm]; exact h1⟩
          · rintro (h1 | ⟨j, h1, h2 | h2, h3⟩)
            · exact .inl (.inl h1)
            · exact .inl (.inr ⟨j, h1, h2, h3⟩)
            · rw [h2, hTm] at h3; exact .inr h3
        · rcases hs.2 x with ⟨k1, k2⟩ | ⟨k1, k2⟩
          · obtain ⟨q, g1, g2, g3⟩ := I.mm x
            refine ⟨q, g1, k1.trans g2, fun j hj hcj => ?_⟩
            have hji : j ≠ i := fun e => hcj (by rw [e, hTm]; exact k2)
            simp only [hji, or_false]
            exact g3 j hj hcj
          · refine ⟨i + 1, hlt, by rw [hTm]; exact k2, fun j hj hcj => ?_⟩
            by_cases hji : j = i
            · simp [hji]
            · simp only [hji, or_false]
              rw [hord j x hj hji hcj (List.mem_append_right _ k1)]
              omega
  refine key ops.size _ a w (by simp) ⟨fun i o hi => ?_⟩ ?_ ⟨s0, AW.dN s0.m.nx, hf, fun j t _ hl => ?_, fun _ _ => rfl, fun o => ?_, fun o => ⟨0, Nat.zero_le _, by rw [t0], fun j _ _ => ⟨fun hl => ?_, fun h => absurd h (Nat.not_lt_zero _)⟩⟩⟩
  · exfalso; unfold lsd at hi; simp [Array.getD] at hi
  · have := List.length_filter_le (fun j => !(Array.replicate ops.size false).getD j false) (List.range ops.size)
    simpa using this
  · exfalso; unfold lsd at hl; simp [Array.getD] at hl
  · rw [t0]
    refine ⟨.inl, fun h => h.elim id (fun ⟨j, _, hl, _⟩ => ?_)⟩
    exfalso; unfold lsd at hl; simp [Array.getD] at hl
  · exfalso; unfold lsd at hl; simp [Array.getD] at hl
end
end Go.Proofs.YtppfogbgbpadiaaW.AW
namespace Go.Proofs.YtppfogbgbpadiaaW.AW
open Go Go.RowKit
set_option linter.unusedVariables false
set_option linter.unusedSimpArgs false
/-- The model's post of the words' post. -/
def Cx.post (C : Cx) (Q : Exit → AS → Prop) (e : Exit) (a : Act) (w : World) : Prop := ∃ s, C.FR s a w ∧ Q e s
/-- THE JUDGEMENT: from every frame that s tells of the code comes to one that Q tells of. -/
def AW (C : Cx) (P : Program) (c : Code) (Q : Exit → AS → Prop) (s : AS) : Prop := ∀ a w, C.FR s a w → c.wp P (C.post Q) a w
def thenA (K : AS → Prop) (Q : Exit → AS → Prop) : Exit → AS → Prop
  | .normal, s => K s
  | e, s => Q e s
def blockA (id : Nat) (Q : Exit → AS → Prop) : Exit → AS → Prop
  | .exit n, s => if n = id then Q .normal s else Q (.exit n) s
  | e, s => Q e s
/-- From a loop's head on. -/
def AL (C : Cx) (P : Program) (c : Code) (Q : Exit → AS → Prop) (s : AS) : Prop := ∀ a w, C.FR s a w → ∀ (b : Frame) (k : List Item) (cs : List Frame), ∃ e a' w', C.post Q e a' w' ∧ Arrives P (lone (b.at a (.code c :: .inLoop c :: k)) cs w) b k cs e a' w'
section
variable {P : Program} {C : Cx} {Q : Exit → AS → Prop} {s : AS} {ops : Array Oper}
/-- What code asks of the state that it is come to in. -/
def vc (C : Cx) (P : Program) : Code → (Exit → AS → Prop) → AS → Prop
  | .skip, Q, s => Q .normal s
  | .ret, Q, s => Q .ret s
  | .exit n, Q, s => Q (.exit n) s
  | .seq a b, Q, s => vc C P a (thenA (vc C P b Q) Q) s
  | .block id c, Q, s => vc C P c (blockA id Q) s
  | .cond c a b, Q, s => match s.ev c with | .bool t => (t = true → vc C P a Q s) ∧ (t = false → vc C P b Q s) | _ => False
  | .region _ ops false, Q, s => arun P C.nt (ops.toList.map (·.dst)) ops.toList (Q .normal) s
  | .region id ops true, Q, s => P.follows .mixedOrders = true ∧ drawOk ops = true ∧ arunD P C.nt (ops.toList.map (·.dst)) (nds ops.toList []) 0 [] [] ops.toList (Q .normal) s
  | .loop c, Q, s => AL C P c Q s
  | c, Q, s => AW C P c Q s
theorem AW.mono {c : Code} {Q' : Exit → AS → Prop} (h : AW C P c Q s) (hq : ∀ e s, Q e s → Q' e s) : AW C P c Q' s := fun a w hf => wp_mono (h a w hf) (fun e a w ⟨s', h1, h2⟩ => ⟨s', h1, hq e s' h2⟩)
theorem AW_loop {c : Code} (h : AL C P c Q s) : AW C P (.loop c) Q s := fun a w hf b k cs => by
  obtain ⟨e, a', w', hq, hr⟩ := h a w hf b k cs
  exact ⟨e, a', w', hq, .of_steps (.one step_loop) hr⟩
/-- One round of a loop. -/
theorem AL_round {c : Code} (h : AW C P c (thenA (AL C P c Q) Q) s) : AL C P c Q s := fun a w hf b k cs => by
  obtain ⟨e, a₁, w₁, ⟨s', hs, hq⟩, harr⟩ := h a w hf b (.inLoop c :: k) cs
  cases e with
  | normal =>
    obtain ⟨e₂, a₂, w₂, hq₂, harr₂⟩ := hq a₁ w₁ hs b k cs
    exact ⟨e₂, a₂, w₂, hq₂, .of_steps (Steps.trans harr (.one step_inLoop)) harr₂⟩
  | exit id => exact ⟨_, a₁, w₁, ⟨s', hs, hq⟩, .pass (x := .inLoop c) rfl (fun _ _ => .inl (by simp)) harr⟩
  | goto l => exact ⟨_, a₁, w₁, ⟨s', hs, hq⟩, .pass (x := .inLoop c) rfl (fun _ _ => .inl (by simp)) harr⟩
  | ret => exact ⟨_, a₁, w₁, ⟨s', hs, hq⟩, .pass (x := .inLoop c) rfl (fun _ _ => .inl (by simp)) harr⟩
  | panic ch => exact ⟨_, a₁, w₁, ⟨s', hs, hq⟩, .pass (x := .inLoop c) rfl (fun _ _ => .inl (by simp)) harr⟩
  | outgrown => exact ⟨_, a₁, w₁, ⟨s', hs, hq⟩, .pass (x := .inLoop c) rfl (fun _ _ => .inl (by simp)) harr⟩
theorem vc_ok : ∀ (c : Code) (Q : Exit → AS → Prop) (s : AS), vc C P c Q s → AW C P c Q s
  | .skip, Q, s, h => fun a w hf => wp_skip ⟨s, hf, h⟩
  | .ret, Q, s, h => fun a w hf => wp_ret ⟨s, hf, h⟩
  | .exit n, Q, s, h => fun a w hf => wp_exit ⟨s, hf, h⟩
  | .seq x y, Q, s, h => fun a w hf => by
    refine wp_seq (wp_mono (vc_ok x _ s h a w hf) (fun e a' w' hq => ?_))
    obtain ⟨s', h1, h2⟩ := hq
    cases e with
    | normal => exact vc_ok y Q s' h2 a' w' h1
    | _ => exact ⟨s', h1, h2⟩
  | .block id c, Q, s, h => fun a w hf => by
    refine wp_block (wp_mono (vc_ok c _ s h a w hf) (fun e a' w' hq => ?_))
    obtain ⟨s', h1, h2⟩ := hq
    cases e with
    | exit n =>
      simp only [Exit.inBlock, blockA] at h2 ⊢
      split <;> rename_i hn
      · rw [if_pos hn] at h2; exact ⟨s', h1, h2⟩
      · rw [if_neg hn] at h2; exact ⟨s', h1, h2⟩
    | _ => exact ⟨s', h1, h2⟩
  | .cond c x y, Q, s, h => fun a w hf => by
    simp only [vc] at h
    split at h
    · rename_i t ht
      have hv : a.eval c = .bool t := by
        obtain ⟨β, κ, A, S, hf'⟩ := hf
        have := ev_ok (cs := []) hf' rfl c
        rw [ht] at this
        exact this.bool_inv
      refine wp_cond_split hv (fun e => vc_ok x Q s (h.1 e) a w hf) (fun e => vc_ok y Q s (h.2 e) a w hf)
    · exact h.elim
  | .region id ops false, Q, s, h => fun a w hf => wp_region_list (arun_ok (fun s' a' w' h1 h2 => ⟨s', h1, h2⟩) _ s a w hf h)
  | .region id ops true, Q, s, h => fun a w hf => wp_region_any h.1 (draw_ok h.2.1 (fun s' a' w' h1 h2 => ⟨s', h1, h2⟩) s h.2.2 a _ (drawn_FR hf))
  | .loop c, Q, s, h => AW_loop h
  | .rangeFunc _ _ _ _, Q, s, h => h
  | .scope _, Q, s, h => h
  | .label _, Q, s, h => h
  | .goto _, Q, s, h => h
  | .refuse _, Q, s, h => h
end
end Go.Proofs.YtppfogbgbpadiaaW.AW
namespace Go.Proofs.YtppfogbgbpadiaaW.AW
open Go Go.RowKit
set_option linter.unusedVariables false
set_option linter.unusedSimpArgs false
/-- A value told as one that is only read: objects of F are written no more. -/
inductive Wc (m : Mem) (F : Id → Prop) : PV → PV → Prop
  | und (p) : Wc m F p .und
  | bool (b) : Wc m F (.bool b) (.bool b)
  | int (k n) : Wc m F (.int k n) (.int k n)
  | str (s) : Wc m F (.str s) (.str s)
  | nils : Wc m F .nils .nils
  | nilc (sz g) : Wc m F .nils (.cl sz 0 g)
  | cl (sz n g g') (h : ∀ i, i < n → g' i = g i) : Wc m F (.cl sz n g) (.cl sz n g')
  | close (o sz n off len g g') (hF : F o) (ho : m.o o = some (.row sz n g)) (hl : ∀ i, i < len → (g' i).length = (g (off + i)).length)
      (h : ∀ (i j : Nat) (p p' : PV), i < len → (g (off + i))[j]? = some p → (g' i)[j]? = some p' → Wc m F p p') : Wc m F (.sl o sz n off len) (.cl sz len g')
  | ow (sz n g g') (hl : ∀ i, i < n → (g' i).length = (g i).length) (h : ∀ (i j : Nat) (p p' : PV), i < n → (g i)[j]? = some p → (g' i)[j]? = some p' → Wc m F p p') : Wc m F (.ow sz n g) (.cl sz n g')
  | ag (ps qs) (hl : qs.length = ps.length) (h : ∀ (j : Nat) (p q : PV), ps[j]? = some p → qs[j]? = some q → Wc m F p q) : Wc m F (.ag ps) (.ag qs)
  | tu (ps qs) (hl : qs.length = ps.length) (h : ∀ (j : Nat) (p q : PV), ps[j]? = some p → qs[j]? = some q → Wc m F p q) : Wc m F (.tu ps) (.tu qs)
  | pc (ps) : Wc m F (.pc ps) (.pc ps)
/-- A value told anew: object o is elder ρ o. -/
inductive Wk (m : Mem) (F : Id → Prop) (ρ : Id → Id) (nx : Nat) : PV → PV → Prop
  | c (p q) (h : Wc m F p q) : Wk m F ρ nx p q
  | sl (o sz n off len) (hx : hb o nx) : Wk m F ρ nx (.sl (ρ o) sz n off len) (.sl o sz n off len)
  | bp (o j) (hx : hb o nx) : Wk m F ρ nx (.bp (ρ o) j) (.bp o j)
  | pt (o sz n i j) (hx : hb o nx) : Wk m F ρ nx (.pt (ρ o) sz n i j) (.pt o sz n i j)
  | mp (o) (hx : hb o nx) : Wk m F ρ nx (.mp (ρ o)) (.mp o)
  | ag (ps qs) (hl : qs.length = ps.length) (h : ∀ (j : Nat) (p q : PV), ps[j]? = some p → qs[j]? = some q → Wk m F ρ nx p q) : Wk m F ρ nx (.ag ps) (.ag qs)
  | tu (ps qs) (hl : qs.length = ps.length) (h : ∀ (j : Nat) (p q : PV), ps[j]? = some p → qs[j]? = some q → Wk m F ρ nx p q) : Wk m F ρ nx (.tu ps) (.tu qs)
  | fn (f ps qs) (hl : qs.length = ps.length) (h : ∀ (j : Nat) (p q : PV), ps[j]? = some p → qs[j]? = some q → Wk m F ρ nx p q) : Wk m F ρ nx (.fn f ps) (.fn f qs)
/-- A cell told anew. -/
inductive Wx (m : Mem) (F : Id → Prop) (ρ : Id → Id) (nx : Nat) : PV → PV → Prop
  | k (p q) (h0 : p.isOw = false) (h : Wk m F ρ nx p q) : Wx m F ρ nx p q
  | ow (sz n g g') (h : ∀ i, i < n → g' i = g i) : Wx m F ρ nx (.ow sz n g) (.ow sz n g')
/-- An object told anew. -/
def WkO (m : Mem) (F : Id → Prop) (ρ : Id → Id) (nx : Nat) : Ob → Ob → Prop
  | .box ps, .box qs => qs.length = ps.length ∧ ∀ (j : Nat) (p q : PV), ps[j]? = some p → qs[j]? = some q → Wx m F ρ nx p q
  | .row sz n g, .row sz' n' g' => sz' = sz ∧ n' = n ∧ ∀ i, i < n → (g' i).length = (g i).length ∧ ∀ (j : Nat) (p q : PV), (g i)[j]? = some p → (g' i)[j]? = some q → Wx m F ρ nx p q
  | .map f, .map f' => f' = f
  | .it es, .it es' => es' = es
  | _, _ => False
structure WkM (n0 : Nat) (m : Mem) (F : Id → Prop) (ρ : Id → Id) (m' : Mem) : Prop where
  ob : ∀ o x', m'.o o = some x' → hb o m'.nx ∧ ¬ F (ρ o) ∧ ∃ x, m.o (ρ o) = some x ∧ WkO m F ρ m'.nx x x'
  inj : ∀ o o' x x', m'.o o = some x → m'.o o' = some x' → ρ o = ρ o' → o = o'
  fix : ∀ o, hb o n0 → ρ o = o
  le : n0 ≤ m'.nx
/-- S and the blocks of F's objects. -/
def Sf (S : Nat → Prop) (m : Mem) (A : Id → Nat → Prop) (F : Id → Prop) (k : Nat) : Prop := S k ∨ ∃ o x, F o ∧ m.o o = some x ∧ A o k
section
variable {β κ : Id → Nat} {A : Id → Nat → Prop} {w : World} {S : Nat → Prop} {m : Mem} {F : Id → Prop} {ρ : Id → Id}
theorem OV.tu_inv {D : Id → Prop} {v : Value} {ps : List PV} (h : OV β κ D w S v (.tu ps)) : ∃ vs : Array Value, v = .tuple vs ∧ vs.size = ps.length ∧ ∀ j p, ps[j]? = some p → OV β κ D w S (vs.getD j undef) p := by
  cases h with
  | rv _ _ h => cases h with | tu vs _ hl hv => exact ⟨vs, rfl, hl, fun j p hp => .rv _ _ (hv j p hp)⟩
  | tu vs _ hl hv => exact ⟨vs, rfl, hl, hv⟩
theorem OV.fn_inv {D : Id → Prop} {v : Value} {f : FuncId} {ps : List PV} (h : OV β κ D w S v (.fn f ps)) : ∃ vs : Array Value, v = .func (.func f) #[] vs ∧ vs.size = ps.length ∧ ∀ j p, ps[j]? = some p → OV β κ D w S (vs.getD j undef) p := by
  cases h with
  | rv _ _ h => cases h
  | fn _ vs _ hl hv => exact ⟨vs, rfl, hl, hv⟩
theorem getq {ps qs : List PV} (hl : qs.length = ps.length) {j : Nat} {q : PV} (hq : qs[j]? = some q) : ∃ p, ps[j]? = some p :=
  ⟨_, List.getElem?_eq_getElem (by rw [← hl]; exact (List.getElem?_eq_some_iff.1 hq).1)⟩
theorem CV.ow_inv {G : Nat → Prop} {v : Value} {sz n : Nat} {g : Nat → List PV} (h : CV w S G v (.ow sz n g)) : (∃ Ad, v = .slice Ad 0 0 ∧ n = 0 ∧ ∀ k, ¬ G k) ∨
    ∃ b c, v = .slice (some ⟨b, 0, none⟩) n c ∧ 0 < c ∧ n ≤ c ∧ c ≤ 9223372036854775807 ∧ 0 < sz ∧ ∃ (cur : Array Value) (e : TypeId) (fz : Nat × Nat) (F : Nat → Nat → Nat → Prop), w.heap[b]? = some (.cells cur e fz) ∧ fzOk fz cur.size ∧ cur.size = c * sz ∧ (∀ i, i < n → (g i).length = sz) ∧ Fp n sz b F G ∧
      ∀ i j p, i < n → (g i)[j]? = some p → (cur.getD (i * sz + j) undef).oneCell' = true ∧ CV w S (F i j) (cur.getD (i * sz + j) undef) p := by
  cases h with
  | rv _ _ _ h _ => cases h
  | no _ Ad _ _ h0 => exact .inl ⟨Ad, rfl, rfl, h0⟩
  | ow _ b _ c _ _ cur e fz F hz hp hn hm h0 hh hs hl hF h1 hv => exact .inr ⟨b, c, rfl, hp, hn, hm, h0, cur, e, fz, F, hh, hz, hs, hl, hF, fun i j p hi hp => ⟨h1 i j p hi hp, hv i j p hi hp⟩⟩
theorem TV.ow {D : Id → Prop} {G : Nat → Prop} {v : Value} {sz n : Nat} {g : Nat → List PV} (h : TV β κ D w S G v (.ow sz n g)) : CV w S G v (.ow sz n g) := by
  rcases h with ⟨h, _⟩ | h
  · cases h with | rv _ _ h => cases h
  · exact h
/-- Cells of a block, read closed. -/
theorem cl_of_block {S' : Nat → Prop} {b c sz n : Nat} {g g' : Nat → List PV} {cur : Array Value} {e : TypeId} {fz : Nat × Nat} (hS : S' b) (hn : n ≤ c) (hm : c ≤ 9223372036854775807) (hh : w.heap[b]? = some (.cells cur e fz)) (hs : cur.size = c * sz) (hl : ∀ i, i < n → (g i).length = sz) (hl' : ∀ i, i < n → (g' i).length = (g i).length)
    (h : ∀ i j p q, i < n → (g i)[j]? = some p → (g' i)[j]? = some q → (cur.getD (i * sz + j) undef).oneCell' = true ∧ RV w S' (cur.getD (i * sz + j) undef) q) : RV w S' (.slice (some ⟨b, 0, none⟩) n c) (.cl sz n g') := by
  refine RV.cl_mk hn (fun hp => ⟨hm, _, rfl, hS, fun i hi => ⟨by rw [hl' i hi]; exact hl i hi, fun j q hq => ?_⟩⟩)
  obtain ⟨p, hp⟩ := getq (hl' i hi) hq
  have hj : j < sz := by rw [← hl i hi]; exact (List.getElem?_eq_some_iff.1 hp).1
  have hlt : i * sz + j < cur.size := by
    rw [hs]
    have : (i + 1) * sz ≤ c * sz := Nat.mul_le_mul_right _ (by omega)
    rw [Nat.succ_mul] at this
    omega
  refine ⟨cur.getD (i * sz + j) undef, ?_, h i j p q hi hp hq⟩
  rw [Addr.add_lit, Nat.zero_add, cell_of_row w b _ cur e fz hh]
  simp [Array.getD, hlt]
theorem Wc.ok {D : Id → Prop} (hm : MRD w S D m β κ A) {p q : PV} (h : Wc m F p q) : ∀ {v : Value} {G : Nat → Prop}, TV β κ D w S G v p → (∀ k, G k → Sf S m A F k) → RV w (Sf S m A F) v q := by
  have up : ∀ k, S k → Sf S m A F k := fun k hk => .inl hk
  induction h with
  | und p => exact fun _ _ => .und _
  | bool b => exact fun hv _ => by rw [(hv.ov rfl).bool_inv]; exact .bool _
  | int k n => exact fun hv _ => by obtain ⟨rfl, h⟩ := (hv.ov rfl).int_inv; exact .int _ _ h
  | str s => exact fun hv _ => by obtain ⟨rfl, h⟩ := (hv.ov rfl).str_inv; exact .str _ h
  | nils => exact fun hv _ => by rw [(hv.ov rfl).nils_inv]; exact .nils
  | nilc sz g => exact fun hv _ => by rw [(hv.ov rfl).nils_inv]; exact .cl0 _ _ _ _
  | cl sz n g g' h =>
    intro v G hv _
    obtain ⟨Ad, c, rfl, hn, H⟩ := (hv.ov rfl).cl_inv
    refine RV.cl_mk hn (fun hp => ?_)
    obtain ⟨hc, a, rfl, hS, hg⟩ := H hp
    exact ⟨hc, a, rfl, up _ hS, fun i hi => by rw [h i hi]; exact ⟨(hg i hi).1, fun j p hp => by obtain ⟨u, a1, a2, a3⟩ := (hg i hi).2 j p hp; exact ⟨u, a1, a2, a3.move up (fun _ _ => rfl)⟩⟩⟩
  | close o sz n off len g g' hF ho hl h ih =>
    intro v G hv _
    obtain ⟨Ad, c, rfl, hx, hlc, hn, hkk, hc, hA⟩ := (hv.ov rfl).sl_inv
    refine RV.cl_mk hlc (fun hp => ?_)
    obtain rfl := hA (by omega)
    rcases hm.ob o _ ho with ⟨hz, _⟩ | ⟨q1, q2, q3, hblk⟩
    · omega
    obtain ⟨cur, e, fz, Fo, g1, gz, g2, g3, g6, gF, g7⟩ := hblk
    refine ⟨by omega, _, rfl, .inr ⟨o, _, hF, ho, (gF.eq _).2 (.inl rfl)⟩, fun i hi => ⟨by rw [hl i hi]; exact g6 _ (by omega), fun j p' hp' => ?_⟩⟩
    obtain ⟨p0, hp0⟩ := getq (hl i hi) hp'
    obtain ⟨a2, a3⟩ := g7 (off + i) j p0 (by omega) hp0
    have hj : j < sz := by rw [← g6 (off + i) (by omega)]; exact (List.getElem?_eq_some_iff.1 hp0).1
    have hlt : (off + i) * sz + j < cur.size := by
      rw [g2]
      have : (off + i + 1) * sz ≤ κ o * sz := Nat.mul_le_mul_right _ (by omega)
      rw [Nat.succ_mul] at this
      omega
    refine ⟨_, ?_, a2, ih i j p0 p' hi hp0 hp' a3 (fun k hk => .inr ⟨o, _, hF, ho, (gF.eq k).2 (.inr ⟨_, _, hk⟩)⟩)⟩
    rw [Addr.add_lit, ← Nat.add_assoc, ← Nat.add_mul, cell_of_row w _ _ cur e fz g1]
    simp [Array.getD, hlt]
  | ow sz n g g' hl h ih =>
    intro v G hv hG
    rcases hv.ow.ow_inv with ⟨Ad, rfl, rfl, _⟩ | ⟨b, c, rfl, hp, hn, hmx, h0, cur, e, fz, Fo, hh, hz, hs, hlg, hF, hcell⟩
    · exact .cl0 _ _ _ _
    · exact cl_of_block (hG b ((hF.eq b).2 (.inl rfl))) hn hmx hh hs hlg hl (fun i j p q hi hp hq => ⟨(hcell i j p hi hp).1, ih i j p q hi hp hq (.inr (hcell i j p hi hp).2) (fun k hk => hG k ((hF.eq k).2 (.inr ⟨i, j, hk⟩)))⟩)
  | ag ps qs hl h ih =>
    intro v G hv _
    obtain ⟨vs, rfl, h2, h3⟩ := (hv.ov rfl).ag_inv
    refine .ag vs qs (h2.trans hl.symm) (fun j q hq => ?_) (fun j q hq => ?_)
    · obtain ⟨p, hp⟩ := getq hl hq; exact (h3 j p hp).1
    · obtain ⟨p, hp⟩ := getq hl hq; exact ih j p q hp hq (G := fun _ => False) (.inl ⟨(h3 j p hp).2, fun _ h => h⟩) (fun _ h => h.elim)
  | tu ps qs hl h ih =>
    intro v G hv _
    obtain ⟨vs, rfl, h2, h3⟩ := (hv.ov rfl).tu_inv
    refine .tu vs qs (h2.trans hl.symm) (fun j q hq => ?_)
    obtain ⟨p, hp⟩ := getq hl hq; exact ih j p q hp hq (G := fun _ => False) (.inl ⟨h3 j p hp, fun _ h => h⟩) (fun _ h => h.elim)
  | pc ps =>
    intro v G hv _
    have hv := hv.ov rfl
    cases hv with | rv _ _ h => exact h.move up (fun _ _ => rfl)
theorem Wc.okV {D : Id → Prop} (hm : MRD w S D m β κ A) {p q : PV} (h : Wc m F p q) {v : Value} (hv : OV β κ D w S v p) : RV w (Sf S m A F) v q := h.ok hm (G := fun _ => False) (.inl ⟨hv, fun _ h => h⟩) (fun _ h => h.elim)
theorem Wk.ok {D : Id → Prop} (hm : MRD w S D m β κ A) {nx : Nat} {p q : PV} (h : Wk m F ρ nx p q) : ∀ {v : Value}, OV β κ D w S v p → OV (fun o => β (ρ o)) (fun o => κ (ρ o)) (dN nx) w (Sf S m A F) v q := by
  induction h with
  | c p q h => exact fun hv => .rv _ _ (h.okV hm hv)
  | sl o sz n off len hx =>
    intro v hv
    obtain ⟨Ad, c, rfl, _, hlc, hn, hkk, hc, hA⟩ := hv.sl_inv
    exact .sl _ _ _ _ _ _ _ hx hlc hn hkk hc hA
  | bp o j hx => exact fun hv => by rw [hv.bp_inv.1]; exact .bp (β := fun o => β (ρ o)) o j hx
  | pt o sz n i j hx => exact fun hv => by rw [hv.pt_inv.1]; exact .pt (β := fun o => β (ρ o)) o sz n i j hx hv.pt_inv.2.2
  | mp o hx => exact fun hv => by rw [hv.mp_inv.1]; exact .mp (β := fun o => β (ρ o)) o hx
  | ag ps qs hl h ih =>
    intro v hv
    obtain ⟨vs, rfl, h2, h3⟩ := hv.ag_inv
    refine .ag vs qs (h2.trans hl.symm) (fun j q hq => ?_) (fun j q hq => ?_)
    · obtain ⟨p, hp⟩ := getq hl hq; exact (h3 j p hp).1
    · obtain ⟨p, hp⟩ := getq hl hq; exact ih j p q hp hq (h3 j p hp).2
  | tu ps qs hl h ih =>
    intro v hv
    obtain ⟨vs, rfl, h2, h3⟩ := hv.tu_inv
    refine .tu vs qs (h2.trans hl.symm) (fun j q hq => ?_)
    obtain ⟨p, hp⟩ := getq hl hq; exact ih j p q hp hq (h3 j p hp)
  | fn f ps qs hl h ih =>
    intro v hv
    obtain ⟨vs, rfl, h2, h3⟩ := hv.fn_inv
    refine .fn f vs qs (h2.trans hl.symm) (fun j q hq => ?_)
    obtain ⟨p, hp⟩ := getq hl hq; exact ih j p q hp hq (h3 j p hp)
theorem CV.same {S' : Nat → Prop} (hS : ∀ k, S k → S' k) {G : Nat → Prop} {v : Value} {sz n : Nat} {g g' : Nat → List PV} (h : CV w S G v (.ow sz n g)) (hg : ∀ i, i < n → g' i = g i) : CV w S' G v (.ow sz n g') := by
  rcases h.ow_inv with ⟨Ad, rfl, rfl, h0⟩ | ⟨b, c, rfl, hp, hn, hmx, h0, cur, e, fz, Fo, hh, hz, hs, hlg, hF, hcell⟩
  · exact .no _ _ _ _ h0
  · exact .ow _ b n c sz g' cur e fz Fo hz hp hn hmx h0 hh hs (fun i hi => by rw [hg i hi]; exact hlg i hi) hF (fun i j p hi hp => by rw [hg i hi] at hp; exact (hcell i j p hi hp).1) (fun i j p hi hp => by rw [hg i hi] at hp; exact (hcell i j p hi hp).2.move hS (fun _ _ => rfl) (fun _ _ => rfl))
theorem Wx.ok {D : Id → Prop} (hm : MRD w S D m β κ A) {nx : Nat} {p q : PV} (h : Wx m F ρ nx p q) {v : Value} {G : Nat → Prop} (hv : TV β κ D w S G v p) : TV (fun o => β (ρ o)) (fun o => κ (ρ o)) (dN nx) w (Sf S m A F) G v q := by
  cases h with
  | k _ _ h0 h =>
    rcases hv with ⟨hv, hG⟩ | hv
    · exact .inl ⟨h.ok hm hv, hG⟩
    · cases hv with
      | rv _ _ _ hr hG => exact .inl ⟨h.ok hm (.rv _ _ hr), hG⟩
      | no => cases h0
      | ow => cases h0
  | ow sz n g g' h => exact .inr (hv.ow.same (fun k hk => .inl hk) h)
theorem WkM.ok {n0 : Nat} {m' : Mem} (h : WkM n0 m F ρ m') {D : Id → Prop} (hm : MRD w S D m β κ A) : MR w (Sf S m A F) m' (fun o => β (ρ o)) (fun o => κ (ρ o)) (fun o => A (ρ o)) := by
  refine ⟨fun o x' ho => ?_, fun o x' k ho hk hs => ?_, fun o o' x x' k h1 h2 h3 h4 => ?_, fun o x' ho => (h.ob o x' ho).1, fun k hk => ?_⟩
  · obtain ⟨_, hF, x, h1, h2⟩ := h.ob o x' ho
    have hob := hm.ob _ _ h1
    cases x <;> cases x' <;> simp only [WkO] at h2
    · obtain ⟨cur, e, fz, Fo, g1, gz, g2, g3, g4, g5, g6⟩ := hob
      show Blk _ _ _ _ _ _ _ _ _ _ _
      rw [h2.1]
      exact ⟨cur, e, fz, Fo, g1, gz, g2, g3, fun i hi => h2.1, g5, fun i j q hi hq => by obtain ⟨p, hp⟩ := getq h2.1 hq; exact ⟨(g6 i j p hi hp).1, (h2.2 j p q hp hq).ok hm (g6 i j p hi hp).2⟩⟩
    · obtain ⟨rfl, rfl, h3⟩ := h2
      rcases hob with hz | ⟨q1, q2, q3, cur, e, fz, Fo, g1, gz, g2, g3, g4, g5, g6⟩
      · exact .inl hz
      · exact .inr ⟨q1, q2, q3, cur, e, fz, Fo, g1, gz, g2, g3, fun i hi => by rw [(h3 i hi).1]; exact g4 i hi, g5, fun i j q hi hq => by
          obtain ⟨p, hp⟩ := getq (h3 i hi).1 hq
          exact ⟨(g6 i j p hi hp).1, ((h3 i hi).2 j p q hp hq).ok hm (g6 i j p hi hp).2⟩⟩
    · subst h2
      obtain ⟨a1, ents, clock, a2, a3⟩ := hob
      exact ⟨a1, ents, clock, a2, a3.move (fun _ hk => .inl hk) (fun _ _ => rfl)⟩
    · subst h2
      obtain ⟨b, ents, clock, seen, f, a1, a2, a3, a4, a5, a6⟩ := hob
      exact ⟨b, ents, clock, seen, f, a1, a2, a3, a4, a5.move (fun _ hk => .inl hk) (fun _ _ => rfl), a6⟩
  · obtain ⟨_, hF, x, h1, h2⟩ := h.ob o x' ho
    rcases hs with hs | ⟨o', y, hF', h4, h5⟩
    · exact hm.ns _ x k h1 hk hs
    · have := hm.dj _ _ _ _ k h1 h4 hk h5
      rw [this] at hF; exact hF hF'
  · obtain ⟨_, _, y, a1, a2⟩ := h.ob o x h1
    obtain ⟨_, _, y', b1, b2⟩ := h.ob o' x' h2
    exact h.inj o o' x x' h1 h2 (hm.dj _ _ _ _ k a1 b1 h3 h4)
  · rcases hk with hk | ⟨o, x, _, h1, h2⟩
    · exact hm.lt k hk
    · exact (hm.ob o x h1).lt h2
theorem WkM.own {n0 : Nat} {m' : Mem} (h : WkM n0 m F ρ m') {k : Nat} (hk : own m' (fun o => A (ρ o)) k) : own m A k := by
  obtain ⟨o, x', h1, h2⟩ := hk
  obtain ⟨_, _, x, c, d⟩ := h.ob o x' h1
  exact ⟨ρ o, x, c, h2⟩
theorem WkM.ext {C : Cx} {m' : Mem} (h : WkM C.m0.nx m F ρ m') (hm : MR w S m β κ A) (hx : Ext C.w0 C.S0 C.m0 C.β0 C.κ0 C.A0 w S m β κ A) : Ext C.w0 C.S0 C.m0 C.β0 C.κ0 C.A0 w (Sf S m A F) m' (fun o => β (ρ o)) (fun o => κ (ρ o)) (fun o => A (ρ o)) := by
  refine ⟨hx.os, hx.tape, hx.output, hx.size, fun k hk => .inl (hx.sub k hk), fun o ho => by simp only [h.fix o ho]; exact hx.be o ho, hx.keep, h.le, fun o ho => ho.mono h.le, fun k hk => hx.new k (h.own hk), fun k hk => ?_⟩
  rcases hk with hk | ⟨o, x, _, h1, h2⟩
  · exact hx.snew k hk
  · rcases hx.new k ⟨o, x, h1, h2⟩ with h4 | h4
    · exact .inr (.inl h4)
    · exact .inr (.inr h4)
/-- A state told anew. -/
structure Weak (n0 : Nat) (s : AS) (F : Id → Prop) (ρ : Id → Id) (s' : AS) : Prop where
  tv : ∀ t, Wk s.m F ρ s'.m.nx (s.t t) (s'.t t)
  mr : WkM n0 s.m F ρ s'.m
theorem Weak.ok {C : Cx} {s s' : AS} (h : Weak C.m0.nx s F ρ s') {a : Act} (hf : C.FR s a w) : C.FR s' a w := by
  obtain ⟨β, κ, A, S, hf⟩ := hf
  exact ⟨_, _, _, _, hf.df, hf.sz, fun t => (h.tv t).ok hf.mr (hf.tv t), h.mr.ok hf.mr, h.mr.ext hf.mr hf.ex⟩
end
end Go.Proofs.YtppfogbgbpadiaaW.AW
namespace Go.Proofs.YtppfogbgbpadiaaW.AW
open Go Go.RowKit
set_option linter.unusedVariables false
set_option linter.unusedSimpArgs false
def ares1 (P : Program) (s : AS) : ResultVar → PR
  | .tmp t => ⟨True, s.t t⟩
  | .cell a t => match s.t a with
    | .bp o j => match s.m.o o with | some (.box cs) => ldo (tyD P t) (cs.drop j) | _ => no
    | _ => no
def ares (P : Program) (s : AS) : List ResultVar → PR
  | [r] => ares1 P s r
  | rs => ⟨∀ r ∈ rs, (ares1 P s r).ok, .tu (rs.map (fun r => (ares1 P s r).v))⟩
/-- What a body is to end in. -/
def RetQ (P : Program) (rs : List ResultVar) (n0 : Nat) (r : PV) (m' : Mem) (e : Exit) (s : AS) : Prop :=
  (e = .ret ∨ e = .normal) ∧ (ares P s rs).ok ∧ ∃ F ρ, Wk s.m F ρ m'.nx (ares P s rs).v r ∧ WkM n0 s.m F ρ m'
def startA (args : List PV) (m : Mem) : AS := ⟨fun t => args.getD t .und, m⟩
section
variable {P : Program}
theorem ares1_ok {C : Cx} {s : AS} {a : Act} {w : World} {β κ : Id → Nat} {A : Id → Nat → Prop} {S : Nat → Prop} (hf : FR C.w0 C.S0 C.m0 C.β0 C.κ0 C.A0 C.nt s a w β κ A S) {r : ResultVar} (h : (ares1 P s r).ok) :
    ∃ v, ((match r with | .tmp t => pure (a.tmps.getD t undef) | .cell x t => do loadVar t (← asAddr (a.tmps.getD x undef)) : Sem Value)).run P w = .ok v w ∧ OV β κ (dN s.m.nx) w S v (ares1 P s r).v := by
  cases r with
  | tmp t => exact ⟨_, rfl, hf.tv t⟩
  | cell x t =>
    simp only [ares1] at h ⊢
    have hv := hf.tv x
    split at h
    · rename_i o j hx
      rw [hx] at hv
      obtain ⟨e1, h1⟩ := hv.bp_inv
      split at h
      · rename_i cs hb
        obtain ⟨v, hr, ho⟩ := ok_ld (P := P) (box_cells hf.mr hb j) h
        exact ⟨v, by simp [e1, asAddr, hr], ho⟩
      · exact h.elim
    · exact h.elim
theorem run_mapM {f : ResultVar → Sem Value} {w : World} : ∀ (rs : List ResultVar), (∀ r ∈ rs, ∃ v, (f r).run P w = .ok v w) → ∃ vs : List Value, (rs.mapM f).run P w = .ok vs w ∧ vs.length = rs.length ∧ ∀ (j : Nat) (r : ResultVar), rs[j]? = some r → ∃ v, vs[j]? = some v ∧ (f r).run P w = .ok v w
  | [], _ => ⟨[], by simp, rfl, fun j r h => by simp at h⟩
  | r :: rs, h => by
    obtain ⟨v, hv⟩ := h r (by simp)
    obtain ⟨vs, h1, h2, h3⟩ := run_mapM rs (fun r hr => h r (by simp [hr]))
    refine ⟨v :: vs, by simp [List.mapM_cons, hv, h1], by simp [h2], fun j q hq => ?_⟩
    cases j with
    | zero => simp only [List.getElem?_cons_zero, Option.some.injEq] at hq; subst hq; exact ⟨v, rfl, hv⟩
    | succ j => exact h3 j q hq
theorem ares_ok {C : Cx} {s : AS} {a : Act} {w : World} {β κ : Id → Nat} {A : Id → Nat → Prop} {S : Nat → Prop} (hf : FR C.w0 C.S0 C.m0 C.β0 C.κ0 C.A0 C.nt s a w β κ A S) {fn : Func} {rs : List ResultVar} (hr : fn.results = rs.toArray) (h : (ares P s rs).ok) :
    ∃ v, (results fn a.tmps).run P w = .ok v w ∧ OV β κ (dN s.m.nx) w S v (ares P s rs).v := by
  have all_ : ∀ r ∈ rs, (ares1 P s r).ok := by
    match rs, h with
    | [r], h => exact fun q hq => by simp only [List.mem_singleton] at hq; subst hq; exact h
    | [], h => exact h
    | _ :: _ :: _, h => exact h
  obtain ⟨vs, h1, h2, h3⟩ := run_mapM (P := P) (w := w) (f := fun r => match r with | .tmp t => pure (a.tmps.getD t undef) | .cell x t => do loadVar t (← asAddr (a.tmps.getD x undef))) rs (fun r hr => by
    obtain ⟨v, hv, _⟩ := ares1_ok hf (all_ r hr); exact ⟨v, hv⟩)
  have at_ : ∀ (j : Nat) (r : ResultVar), rs[j]? = some r → ∃ v, vs[j]? = some v ∧ OV β κ (dN s.m.nx) w S v (ares1 P s r).v := fun j r hj => by
    obtain ⟨v, a1, a2⟩ := h3 j r hj
    obtain ⟨v', b1, b2⟩ := ares1_ok hf (all_ r (List.mem_of_getElem? hj))
    rw [a2] at b1
    cases b1
    exact ⟨v, a1, b2⟩
  have hrun : (results fn a.tmps).run P w = .ok (if h : vs.length = 1 then vs[0] else .tuple vs.toArray) w := by
    have e : (fn.results.mapM (fun r => match r with | .tmp t => pure (a.tmps.getD t undef) | .cell x t => do loadVar t (← asAddr (a.tmps.getD x undef)) : ResultVar → Sem Value)).run P w = .ok vs.toArray w := by
      rw [hr, Array.mapM_eq_mapM_toList]
      have h1' := h1
      simp only [Array.getD_eq_getD_getElem?] at h1'
      simp [h1']
    unfold results
    rw [Sem.run_bind]
    erw [e]
    simp only [Result.andThen_ok, List.size_toArray]
    split <;> rfl
  match rs, h, h2, at_ with
  | [r], h, h2, at_ =>
    obtain ⟨v, a1, a2⟩ := at_ 0 r rfl
    refine ⟨_, hrun, ?_⟩
    have h2' : vs.length = 1 := h2
    rw [dif_pos h2']
    have : vs[0]? = some vs[0] := List.getElem?_eq_getElem (by simp [h2])
    rw [this] at a1; cases a1
    exact a2
  | [], h, h2, at_ =>
    refine ⟨_, hrun, ?_⟩
    rw [dif_neg (by rw [h2]; simp)]
    exact .tu _ _ (by simp [h2]) (fun j p hp => by simp [ares] at hp)
  | r :: r' :: rs, h, h2, at_ =>
    refine ⟨_, hrun, ?_⟩
    rw [dif_neg (by rw [h2]; simp)]
    refine .tu _ _ (by simp [h2]) (fun j p hp => ?_)
    rw [List.getElem?_map] at hp
    obtain ⟨q, hq, rfl⟩ := Option.map_eq_some_iff.1 hp
    obtain ⟨v, a1, a2⟩ := at_ j q hq
    have : vs.toArray.getD j undef = v := by simp [Array.getD_eq_getD_getElem?, a1]
    rw [this]; exact a2
/-- THE CONTRACT OUT OF THE BODY. -/
theorem AC.of_body {f : FuncId} {fn : Func} {c : Code} {args : List PV} {m m' : Mem} {r : PV} {rs : List ResultVar} (hf : P.funcs[f]? = some fn) (hb : fn.body = some c) (hn : (fn.name == "runtime.NumGoroutine") = false) (hl : args.length ≤ fn.ntmps) (hr : fn.results = rs.toArray)
    (h : ∀ C : Cx, C.nt = fn.ntmps → C.m0 = m → AW C P c (RetQ P rs m.nx r m') (startA args m)) : AC P f args m r m' := by
  refine ⟨⟨fn, hf, by rw [hb]; rfl, hn⟩, fun w vs S β κ A hm hvs hv => calls_of_wp hf hb ?_⟩
  have hlt : vs.size ≤ fn.ntmps := by rw [hvs]; exact hl
  refine wp_mono (h ⟨w, S, m, β, κ, A, fn.ntmps⟩ rfl rfl _ w ⟨β, κ, A, S, rfl, by simp; omega, fun t => ?_, hm, Ext.refl _ _ _ _ _ _⟩) (fun e a' w' hq => ?_)
  · show OV _ _ _ _ _ ((vs ++ Array.replicate (fn.ntmps - vs.size) undef).getD t undef) (args.getD t .und)
    by_cases ht : t < vs.size
    · have e1 : (vs ++ Array.replicate (fn.ntmps - vs.size) undef).getD t undef = vs.getD t undef := by
        simp only [Array.getD_eq_getD_getElem?, Array.getElem?_append_left ht]
      have ha : args[t]? = some (args.getD t .und) := by
        have : t < args.length := by omega
        simp [List.getD, this]
      rw [e1]; exact hv t _ ha
    · have : args.getD t .und = .und := by
        have : ¬ t < args.length := by omega
        simp [List.getD, this]
      rw [this]; exact .rv _ _ (.und _)
  · obtain ⟨s, ⟨β', κ', A', S', hfr⟩, he, hok, F, ρ, hk, hkm⟩ := hq
    obtain ⟨v, h1, h2⟩ := ares_ok hfr hr hok
    have done : a'.defers = [] ∧ ∃ v, (results fn a'.tmps).run P w' = .ok v w' ∧ ∃ v_1 S' β' κ' A', Ending.returned v = .returned v_1 ∧ OV β' κ' (dN m'.nx) w' S' v_1 r ∧ MR w' S' m' β' κ' A' ∧ Ext w S m β κ A w' S' m' β' κ' A' :=
      ⟨hfr.df, v, h1, v, _, _, _, _, rfl, hk.ok hfr.mr h2, hkm.ok hfr.mr, WkM.ext (C := ⟨w, S, m, β, κ, A, fn.ntmps⟩) hkm hfr.mr hfr.ex⟩
    rcases he with rfl | rfl
    · exact done
    · exact done
end
end Go.Proofs.YtppfogbgbpadiaaW.AW
namespace Go.Proofs.YtppfogbgbpadiaaW.AW
open Go Go.RowKit
set_option linter.unusedVariables false
set_option linter.unusedSimpArgs false
/-- It leads into no closed memory. -/
inductive NR : PV → Prop
  | und : NR .und
  | bool (b) : NR (.bool b)
  | int (k n) : NR (.int k n)
  | str (s) : NR (.str s)
  | nils : NR .nils
  | cl0 (sz g) : NR (.cl sz 0 g)
  | sl (o sz n off len) : NR (.sl o sz n off len)
  | ow (sz n g) (h : ∀ i, i < n → ∀ p ∈ g i, NR p) : NR (.ow sz n g)
  | bp (o j) : NR (.bp o j)
  | pt (o sz n i j) : NR (.pt o sz n i j)
  | mp (o) : NR (.mp o)
  | ag (ps) (h : ∀ p ∈ ps, NR p) : NR (.ag ps)
  | tu (ps) (h : ∀ p ∈ ps, NR p) : NR (.tu ps)
  | fn (f ps) (h : ∀ p ∈ ps, NR p) : NR (.fn f ps)
def NRO : Ob → Prop
  | .no => True
  | .box ps => ∀ p ∈ ps, NR p
  | .row _ n g => ∀ i, i < n → ∀ p ∈ g i, NR p
  | .map f => ∀ k p, f k = some p → NR p
  | .it _ => False
section
variable {P : Program} {β κ : Id → Nat} {w : World} {S : Nat → Prop}
theorem OV.nr {nx : Nat} {S' : Nat → Prop} {v : Value} {p : PV} (h : OV β κ (dN nx) w S v p) (hn : NR p) : OV β κ (dN nx) w S' v p := by
  induction hn generalizing v with
  | und => exact .rv _ _ (.und _)
  | bool b => rw [h.bool_inv]; exact .bool_mk
  | int k n => obtain ⟨rfl, h2⟩ := h.int_inv; exact .int_mk h2
  | str s => obtain ⟨rfl, h2⟩ := h.str_inv; exact .str_mk h2
  | nils => rw [h.nils_inv]; exact .rv _ _ .nils
  | cl0 sz g => obtain ⟨A, c, rfl, _⟩ := h.cl_inv; exact .rv _ _ (.cl0 _ _ _ _)
  | sl o sz n off len => obtain ⟨A, c, rfl, a, b, c', d, e, f⟩ := h.sl_inv; exact .sl _ _ _ _ _ _ _ a b c' d e f
  | ow => cases h with | rv _ _ h => cases h
  | bp o j => rw [h.bp_inv.1]; exact .bp _ _ h.bp_inv.2
  | pt o sz n i j => rw [h.pt_inv.1]; exact .pt _ _ _ _ _ h.pt_inv.2.1 h.pt_inv.2.2
  | mp o => rw [h.mp_inv.1]; exact .mp _ h.mp_inv.2
  | ag ps hp ih =>
    obtain ⟨vs, rfl, h2, h3⟩ := h.ag_inv
    exact .ag vs ps h2 (fun j p hj => (h3 j p hj).1) (fun j p hj => ih p (List.mem_of_getElem? hj) (h3 j p hj).2)
  | tu ps hp ih =>
    obtain ⟨vs, rfl, h2, h3⟩ := h.tu_inv
    exact .tu vs ps h2 (fun j p hj => ih p (List.mem_of_getElem? hj) (h3 j p hj))
  | fn f ps hp ih =>
    obtain ⟨vs, rfl, h2, h3⟩ := h.fn_inv
    exact .fn f vs ps h2 (fun j p hj => ih p (List.mem_of_getElem? hj) (h3 j p hj))
theorem RV.nr {S' : Nat → Prop} {v : Value} {p : PV} (h : RV w S v p) (hn : NR p) : RV w S' v p := by
  induction hn generalizing v with
  | und => exact .und _
  | bool b => cases h; exact .bool _
  | int k n => cases h; rename_i h; exact .int _ _ h
  | str s => cases h; rename_i h; exact .str _ h
  | nils => cases h; exact .nils
  | cl0 sz g => cases h <;> exact .cl0 _ _ _ _
  | sl => cases h
  | ow => cases h
  | bp => cases h
  | pt => cases h
  | mp => cases h
  | ag ps hp ih => cases h with | ag vs _ hl h1 hv => exact .ag vs ps hl h1 (fun j p hj => ih p (List.mem_of_getElem? hj) (hv j p hj))
  | tu ps hp ih => cases h with | tu vs _ hl hv => exact .tu vs ps hl (fun j p hj => ih p (List.mem_of_getElem? hj) (hv j p hj))
  | fn => cases h
theorem CV.nr {S' : Nat → Prop} {G : Nat → Prop} {v : Value} {p : PV} (h : CV w S G v p) (hn : NR p) : CV w S' G v p := by
  induction h with
  | rv F v p h h0 => exact .rv F v p (h.nr hn) h0
  | no F A sz g h0 => exact .no F A sz g h0
  | ow A b n c sz g cur e fz F hz hp hn' hm h0 hh hs hl hF h1 hv ih =>
    cases hn with
    | ow _ _ _ hq => exact .ow A b n c sz g cur e fz F hz hp hn' hm h0 hh hs hl hF h1 (fun i j p hi hp => ih i j p hi hp (hq i hi p (List.mem_of_getElem? hp)))
theorem TV.nr {nx : Nat} {S' : Nat → Prop} {G : Nat → Prop} {v : Value} {p : PV} (h : TV β κ (dN nx) w S G v p) (hn : NR p) : TV β κ (dN nx) w S' G v p := by
  rcases h with ⟨h, h0⟩ | h
  · exact .inl ⟨h.nr hn, h0⟩
  · exact .inr (h.nr hn)
end
end Go.Proofs.YtppfogbgbpadiaaW.AW
namespace Go.Proofs.YtppfogbgbpadiaaW.AW
open Go Go.RowKit
set_option linter.unusedVariables false
set_option linter.unusedSimpArgs false
/-- Slots by a list. -/
def ofL : List (Nat × PV) → Nat → PV
  | [], _ => .und
  | (k, v) :: r, t => if t = k then v else ofL r t
theorem ofL_n {t : Nat} : ofL [] t = .und := rfl
theorem ofL_c {k t : Nat} {v : PV} {r : List (Nat × PV)} : ofL ((k, v) :: r) t = if t = k then v else ofL r t := rfl
theorem mi64 : IntKind.i64.min = -9223372036854775808 := rfl
theorem ma64 : IntKind.i64.max = 9223372036854775807 := rfl
theorem miu8 : IntKind.u8.min = 0 := rfl
theorem mau8 : IntKind.u8.max = 255 := rfl
theorem miu64 : IntKind.u64.min = 0 := rfl
theorem mau64 : IntKind.u64.max = 18446744073709551615 := rfl
theorem pick_or {t y : Bool} : (bif t then true else y) = (t || y) := by cases t <;> rfl
theorem pick_and {t y : Bool} : (bif t then y else false) = (t && y) := by cases t <;> rfl
theorem w64 {n : Int} (h0 : -9223372036854775808 ≤ n := by omega) (h1 : n ≤ 9223372036854775807 := by omega) : IntKind.i64.wrap n = n := by rw [IntKind.wrap_i64]; omega
theorem ofL_of {Q : PV → PV → Prop} (hu : ∀ p, Q p .und) {f : Nat → PV} : ∀ {l : List (Nat × PV)}, (∀ kp ∈ l, Q (f kp.1) kp.2) → ∀ t, Q (f t) (ofL l t)
  | [], _, t => hu _
  | (k, v) :: r, h, t => by
    unfold ofL
    by_cases e : t = k
    · rw [if_pos e, e]; exact h (k, v) (by simp)
    · rw [if_neg e]; exact ofL_of hu (fun kp hkp => h kp (by simp [hkp])) t
section
variable {C : Cx} {P : Program} {c : Code} {Q : Exit → AS → Prop} {s : AS}
end
/-- The frame's tests, the code's forms: for simp. -/
theorem vc_seq {C : Cx} {P : Program} {a b : Code} {Q : Exit → AS → Prop} {s : AS} : vc C P (.seq a b) Q s = vc C P a (thenA (vc C P b Q) Q) s := rfl
end Go.Proofs.YtppfogbgbpadiaaW.AW
namespace Go.Proofs.YtppfogbgbpadiaaW.AW
open Go Go.RowKit
set_option linter.unusedVariables false
set_option linter.unusedSimpArgs false
def PV.flat : PV → Bool
  | .und | .bool _ | .int _ _ | .str _ | .nils | .cl _ _ _ | .pc _ => true
  | _ => false
/-- Told with other names of objects. -/
inductive Rn (τ : Id → Id) : PV → PV → Prop
  | same (p : PV) (h : p.flat = true) : Rn τ p p
  | sl (o sz n off len) : Rn τ (.sl o sz n off len) (.sl (τ o) sz n off len)
  | bp (o j) : Rn τ (.bp o j) (.bp (τ o) j)
  | pt (o sz n i j) : Rn τ (.pt o sz n i j) (.pt (τ o) sz n i j)
  | mp (o) : Rn τ (.mp o) (.mp (τ o))
  | ow (sz n g) : Rn τ (.ow sz n g) (.ow sz n g)
  | ag (ps qs) (hl : qs.length = ps.length) (h : ∀ (j : Nat) (p q : PV), ps[j]? = some p → qs[j]? = some q → Rn τ p q) : Rn τ (.ag ps) (.ag qs)
  | tu (ps qs) (hl : qs.length = ps.length) (h : ∀ (j : Nat) (p q : PV), ps[j]? = some p → qs[j]? = some q → Rn τ p q) : Rn τ (.tu ps) (.tu qs)
def RnO (τ : Id → Id) : Ob → Ob → Prop
  | .box ps, .box qs => qs.length = ps.length ∧ ∀ (j : Nat) (p q : PV), ps[j]? = some p → qs[j]? = some q → Rn τ p q
  | .row sz m g, .row sz' m' g' => sz' = sz ∧ m' = m ∧ ∀ i, i < m → (g' i).length = (g i).length ∧ ∀ (j : Nat) (p q : PV), (g i)[j]? = some p → (g' i)[j]? = some q → Rn τ p q
  | .map f, .map f' => f' = f
  | .it es, .it es' => es' = es
  | _, _ => False
section
variable {P : Program} {β κ : Id → Nat} {A : Id → Nat → Prop} {w : World} {S : Nat → Prop}
theorem Rn.ok {τ : Id → Id} {D D' : Id → Prop} {B K : Id → Nat} (hβ : ∀ o, D o → B (τ o) = β o ∧ K (τ o) = κ o ∧ D' (τ o)) {p q : PV} (h : Rn τ p q) : ∀ {v : Value}, OV β κ D w S v p → OV B K D' w S v q := by
  induction h with
  | same p h =>
    intro v hv
    cases hv with
    | rv _ _ hv => exact .rv _ _ hv
    | _ => simp [PV.flat] at h
  | sl o sz m off len =>
    intro v hv
    obtain ⟨A, c, rfl, a, b, c', d, e, f⟩ := hv.sl_inv
    obtain ⟨h1, h2, h3⟩ := hβ o a
    exact .sl _ _ _ _ _ _ _ h3 b c' (by rw [h2]; exact d) (by rw [h2]; exact e) (by rw [h1]; exact f)
  | bp o j =>
    intro v hv
    obtain ⟨rfl, a⟩ := hv.bp_inv
    rw [← (hβ o a).1]; exact .bp _ _ (hβ o a).2.2
  | pt o sz m i j =>
    intro v hv
    obtain ⟨rfl, a, b⟩ := hv.pt_inv
    rw [← (hβ o a).1]; exact .pt _ _ _ _ _ (hβ o a).2.2 b
  | mp o =>
    intro v hv
    obtain ⟨rfl, a⟩ := hv.mp_inv
    rw [← (hβ o a).1]; exact .mp _ (hβ o a).2.2
  | ow sz n g => intro v hv; cases hv with | rv _ _ h => cases h
  | ag ps qs hl h ih =>
    intro v hv
    obtain ⟨vs, rfl, h2, h3⟩ := hv.ag_inv
    refine .ag vs qs (h2.trans hl.symm) (fun j q hq => ?_) (fun j q hq => ?_)
    · obtain ⟨p, hp⟩ := getq hl hq; exact (h3 j p hp).1
    · obtain ⟨p, hp⟩ := getq hl hq; exact ih j p q hp hq (h3 j p hp).2
  | tu ps qs hl h ih =>
    intro v hv
    obtain ⟨vs, rfl, h2, h3⟩ := hv.tu_inv
    refine .tu vs qs (h2.trans hl.symm) (fun j q hq => ?_)
    obtain ⟨p, hp⟩ := getq hl hq; exact ih j p q hp hq (h3 j p hp)
theorem Rn.okT {τ : Id → Id} {D D' : Id → Prop} {B K : Id → Nat} (hβ : ∀ o, D o → B (τ o) = β o ∧ K (τ o) = κ o ∧ D' (τ o)) {p q : PV} (h : Rn τ p q) {v : Value} {G : Nat → Prop} (hv : TV β κ D w S G v p) : TV B K D' w S G v q := by
  rcases hv with ⟨hv, h0⟩ | hv
  · exact .inl ⟨h.ok hβ hv, h0⟩
  · cases hv with
    | rv _ _ _ hr h0 => exact .inl ⟨h.ok hβ (.rv _ _ hr), h0⟩
    | no _ Ad sz g h0 => cases h with
      | same _ h => cases h
      | ow => exact .inr (.no _ _ _ _ h0)
    | ow G b n c sz g cur e fz F a1 a2 a3 a4 a5 a6 a7 a8 a9 a10 a11 => cases h with
      | same _ h => cases h
      | ow => exact .inr (.ow G b n c sz g cur e fz F a1 a2 a3 a4 a5 a6 a7 a8 a9 a10 a11)
/-- A call's end, as the caller tells it. -/
theorem gen_core {r1 r : PV} {m m' m1 m1' : Mem} (F : Id → Prop) (σ τ dn : Id → Id)
    (hM : WkM 0 m F σ m1) (hσD : ∀ D : Id → Prop, TC D → (∀ o x, m.o o = some x → D o) → ∀ o, hb o m1.nx → D (σ o)) (hστ : ∀ o, hb o m1.nx → τ o = σ o) (hτ : ∀ o, hb o m1'.nx → ¬ hb o m1.nx → hb (τ o) m'.nx ∧ ¬ hb (τ o) m.nx ∧ dn (τ o) = o) (hle : m.nx ≤ m'.nx)
    (hr : Rn τ r1 r) (hgood : (∀ o, ¬ F o) ∨ (NR r1 ∧ ∀ o y, m1'.o o = some y → NRO y))
    (hm' : ∀ o y, m'.o o = some y → (m.o o = some y ∧ ∀ o1 x1, m1.o o1 = some x1 → σ o1 ≠ o) ∨ ∃ o1 y1, o = τ o1 ∧ m1'.o o1 = some y1 ∧ RnO τ y1 y ∧ (hb o1 m1.nx → ∃ x1, m1.o o1 = some x1))
    {D : Id → Prop} (tc : TC D) (fr : ∀ o, hb o m'.nx → ¬ hb o m.nx → ¬ D o) {w w' : World} {S S' : Nat → Prop} {β κ β' κ' : Id → Nat} {A A' : Id → Nat → Prop} {v : Value} (hm : MRD w S D m β κ A)
    (g1 : OV β' κ' (dN m1'.nx) w' S' v r1) (g2 : MR w' S' m1' β' κ' A') (g3 : Ext w (Sf S m A F) m1 (fun o => β (σ o)) (fun o => κ (σ o)) (fun o => A (σ o)) w' S' m1' β' κ' A') : Left w S D m β κ A (fun q n => q = r ∧ n = m') v w' := by
  have hσ : ∀ o, hb o m1.nx → D (σ o) ∧ τ o = σ o := fun o ho => ⟨hσD D tc hm.nx o ho, hστ o ho⟩
  replace hτ : ∀ o, hb o m1'.nx → ¬ hb o m1.nx → (hb (τ o) m'.nx ∧ ¬ hb (τ o) m.nx) ∧ ¬ D (τ o) ∧ dn (τ o) = o := fun o h1 h2 => ⟨⟨(hτ o h1 h2).1, (hτ o h1 h2).2.1⟩, fr _ (hτ o h1 h2).1 (hτ o h1 h2).2.1, (hτ o h1 h2).2.2⟩
  let D' : Id → Prop := fun o => D o ∨ (hb o m'.nx ∧ ¬ hb o m.nx)
  have hm1 : MR w (Sf S m A F) m1 (fun o => β (σ o)) (fun o => κ (σ o)) (fun o => A (σ o)) := hM.ok hm
  · skip
    -- the caller's names
    let B : Id → Nat := fun o => open Classical in if D o then β o else β' (dn o)
    let K : Id → Nat := fun o => open Classical in if D o then κ o else κ' (dn o)
    have hB : ∀ o, D o → B o = β o ∧ K o = κ o := fun o ho => ⟨if_pos ho, if_pos ho⟩
    have hBτ : ∀ o, hb o m1'.nx → B (τ o) = β' o ∧ K (τ o) = κ' o ∧ D' (τ o) := fun o ho => by
      by_cases h1 : hb o m1.nx
      · obtain ⟨h2, h3⟩ := hσ o h1
        obtain ⟨h4, h5⟩ := g3.be o h1
        obtain ⟨h6, h7⟩ := hB (σ o) h2
        exact ⟨by rw [h3, h6, h4], by rw [h3, h7, h5], by rw [h3]; exact .inl h2⟩
      · obtain ⟨h2, h3, h4⟩ := hτ o ho h1
        exact ⟨by simp only [B, if_neg h3, h4], by simp only [K, if_neg h3, h4], .inr h2⟩
    -- objects of the callee's that the caller has then
    let T : Id → Prop := fun o1 => (∃ y1, m1'.o o1 = some y1) ∧ (hb o1 m1.nx → ∃ x1, m1.o o1 = some x1)
    have τinj : ∀ o1 o2, T o1 → T o2 → τ o1 = τ o2 → o1 = o2 := fun o1 o2 ⟨⟨y1, t1⟩, t2⟩ ⟨⟨y2, u1⟩, u2⟩ e => by
      have b1 := g2.nx o1 y1 t1
      have b2 := g2.nx o2 y2 u1
      by_cases h1 : hb o1 m1.nx <;> by_cases h2 : hb o2 m1.nx
      · obtain ⟨x1, hx1⟩ := t2 h1
        obtain ⟨x2, hx2⟩ := u2 h2
        exact hM.inj o1 o2 x1 x2 hx1 hx2 (by rw [← (hσ o1 h1).2, ← (hσ o2 h2).2]; exact e)
      · exact absurd (by rw [← e, (hσ o1 h1).2]; exact (hσ o1 h1).1) (hτ o2 b2 h2).2.1
      · exact absurd (by rw [e, (hσ o2 h2).2]; exact (hσ o2 h2).1) (hτ o1 b1 h1).2.1
      · rw [← (hτ o1 b1 h1).2.2, ← (hτ o2 b2 h2).2.2, e]
    let A2 : Id → Nat → Prop := fun o k => (∃ o1, T o1 ∧ τ o1 = o ∧ A' o1 k) ∨ ((∀ o1 x1, m1.o o1 = some x1 → σ o1 ≠ o) ∧ D o ∧ A o k)
    have hAτ : ∀ o1, T o1 → A2 (τ o1) = A' o1 := fun o1 ht => by
      funext k
      refine propext ⟨fun hk => ?_, fun hk => .inl ⟨o1, ht, rfl, hk⟩⟩
      rcases hk with ⟨o2, ht2, e, hk⟩ | ⟨h1, h2, _⟩
      · rw [τinj o2 o1 ht2 ht e] at hk; exact hk
      · exfalso
        obtain ⟨⟨y1, t1⟩, t2⟩ := ht
        have b1 := g2.nx o1 y1 t1
        by_cases h3 : hb o1 m1.nx
        · obtain ⟨x1, hx1⟩ := t2 h3
          exact h1 o1 x1 hx1 (hσ o1 h3).2.symm
        · exact (hτ o1 b1 h3).2.1 h2
    have hAo : ∀ o, D o → (∀ o1 x1, m1.o o1 = some x1 → σ o1 ≠ o) → A2 o = A o := fun o ho hno => by
      funext k
      refine propext ⟨fun hk => ?_, fun hk => .inr ⟨hno, ho, hk⟩⟩
      rcases hk with ⟨o2, ⟨⟨y2, t1⟩, t2⟩, e, hk⟩ | ⟨_, _, hk⟩
      · exfalso
        have b2 := g2.nx o2 y2 t1
        by_cases h3 : hb o2 m1.nx
        · obtain ⟨x1, hx1⟩ := t2 h3
          exact hno o2 x1 hx1 (by rw [← (hσ o2 h3).2]; exact e)
        · exact (hτ o2 b2 h3).2.1 (e ▸ ho)
      · exact hk
    have own1 : ∀ k, own m1 (fun o => A (σ o)) k → own m A k := fun k hk => hM.own hk
    have new1 : ∀ k, own m1' A' k → w.heap.size ≤ k ∨ own m A k := fun k hk => by
      rcases g3.new k hk with h1 | h1
      · exact .inl h1
      · exact .inr (own1 k h1)
    have keep1 := g3.keep
    have hS0 : ∀ k, S k → w'.heap[k]? = w.heap[k]? := fun k hk => keep1 k (hm.lt k hk) (fun e => by
      obtain ⟨o, x, h1, h2⟩ := own1 k e; exact hm.ns o x k h1 h2 hk)
    -- what stays closed
    let S2 : Nat → Prop := fun k => S k ∨ ((∀ o, ¬ F o) ∧ S' k)
    have mv : ∀ {nx : Nat} {u : Value} {p : PV} {G : Nat → Prop}, ((∀ o, ¬ F o) ∨ NR p) → TV β' κ' (dN nx) w' S' G u p → TV β' κ' (dN nx) w' S2 G u p := fun hp hu => by
      rcases hp with hp | hp
      · exact hu.move (fun _ _ => ⟨rfl, rfl⟩) (fun _ h => h) (fun k hk => .inr ⟨hp, hk⟩) (fun _ _ => rfl) (fun _ _ => rfl)
      · exact hu.nr hp
    have mvO : ∀ {nx : Nat} {u : Value} {p : PV}, ((∀ o, ¬ F o) ∨ NR p) → OV β' κ' (dN nx) w' S' u p → OV β' κ' (dN nx) w' S2 u p := fun hp hu => by
      rcases hp with hp | hp
      · exact hu.move (fun _ _ => ⟨rfl, rfl⟩) (fun _ h => h) (fun k hk => .inr ⟨hp, hk⟩) (fun _ _ => rfl)
      · exact hu.nr hp
    -- an object of the caller's that was not handed over
    have frame : ∀ o y k, m.o o = some y → (∀ o1 x1, m1.o o1 = some x1 → σ o1 ≠ o) → A o k → ¬ own m1 (fun o => A (σ o)) k := by
      rintro o y k h1 h2 h3 ⟨o1, x1, h4, h5⟩
      obtain ⟨_, _, x, h7, h8⟩ := hM.ob o1 x1 h4
      exact h2 o1 x1 h4 (hm.dj _ _ _ _ k h7 h1 h5 h3)
    have at_ : ∀ o y, m'.o o = some y → (D o ∧ m.o o = some y ∧ (∀ o1 x1, m1.o o1 = some x1 → σ o1 ≠ o) ∧ A2 o = A o) ∨ ∃ o1 y1, o = τ o1 ∧ m1'.o o1 = some y1 ∧ RnO τ y1 y ∧ T o1 ∧ A2 o = A' o1 := fun o y h1 => by
      rcases hm' o y h1 with ⟨h5, h6⟩ | ⟨o1, y1, rfl, h5, h6, h7⟩
      · have h4 := hm.nx o y h5
        exact .inl ⟨h4, h5, h6, hAo o h4 h6⟩
      · exact .inr ⟨o1, y1, rfl, h5, h6, ⟨⟨y1, h5⟩, h7⟩, hAτ o1 ⟨⟨y1, h5⟩, h7⟩⟩
    have hv1 : OV B K D' w' S2 v r := Rn.ok hBτ hr (mvO (by rcases hgood with h1 | h1; exact .inl h1; exact .inr h1.1) g1)
    suffices hx : MRD w' S2 D' m' B K A2 ∧ ExtD w S D m β κ A w' S2 D' m' B K A2 from ⟨r, m', S2, D', B, K, A2, ⟨rfl, rfl⟩, hx.2, hx.1, hv1, fun _ => Iff.rfl⟩
    refine ⟨⟨fun o y ho => ?_, fun o y k ho hk hs => ?_, fun o o' y y' k h1 h2 h3 h4 => ?_, fun o y ho => ?_, fun k hk => ?_⟩, ⟨g3.os, g3.tape, g3.output, g3.size, fun _ h => .inl h, hB, fun k hk hn => keep1 k hk (fun e => hn (own1 k e)), hle, fun _ h => .inl h, fun k hk => ?_, fun k hk => ?_⟩⟩
    · rcases at_ o y ho with ⟨h4, h5, h6, h7⟩ | ⟨o1, y1, rfl, h5, h7, h8, h9⟩
      · rw [h7]
        exact (hm.ob o y h5).move hB (fun _ h => .inl h) (fun _ h => .inl h) hS0 h4 (fun k hk => keep1 k ((hm.ob o y h5).lt hk) (frame o y k h5 h6 hk))
      · rw [h9]
        have h4 := g2.nx o1 y1 h5
        have hob := g2.ob o1 y1 h5
        have hg : ∀ p, (NRO y1 → NR p) → ((∀ o, ¬ F o) ∨ NR p) := fun p hp => by
          rcases hgood with h1 | h1
          · exact .inl h1
          · exact .inr (hp (h1.2 o1 y1 h5))
        have hE : ∀ {ents clock f}, (NRO y1 → ∀ k p, f k = some p → NR p) → Ents w' S' ents clock f → Ents w' S2 ents clock f := fun {ents clock f} hp he => by
          rcases hgood with h1 | h1
          · exact he.move (fun k hk => .inr ⟨h1, hk⟩) (fun _ _ => rfl)
          · exact ⟨he.st, fun e he' => by obtain ⟨k, p, a1, a2, a3, a4⟩ := he.key e he'; exact ⟨k, p, a1, a2, a3, a4.nr (hp (h1.2 o1 y1 h5) k p a3)⟩, he.all⟩
        cases y1 <;> cases y <;> simp only [RnO] at h7
        · obtain ⟨cur, e, fz, Fo, a1, az, a2, a3, a4, a5, a6⟩ := hob
          show Blk _ _ _ _ _ _ _ _ _ _ _
          rw [(hBτ o1 h4).1, h7.1]
          refine ⟨cur, e, fz, Fo, a1, az, a2, a3, fun i hi => h7.1, a5, fun i j q hi hq => ?_⟩
          obtain ⟨p, hp⟩ := getq h7.1 hq
          exact ⟨(a6 i j p hi hp).1, Rn.okT hBτ (h7.2 j p q hp hq) (mv (hg p (fun hn => hn p (List.mem_of_getElem? hp))) (a6 i j p hi hp).2)⟩
        · obtain ⟨rfl, rfl, h8⟩ := h7
          simp only [OB, (hBτ o1 h4).1, (hBτ o1 h4).2.1] at hob ⊢
          rcases hob with hz | ⟨q1, q2, q3, cur, e, fz, Fo, a1, az, a2, a3, a4, a5, a6⟩
          · exact .inl hz
          · refine .inr ⟨q1, q2, q3, cur, e, fz, Fo, a1, az, a2, a3, fun i hi => by rw [(h8 i hi).1]; exact a4 i hi, a5, fun i j q hi hq => ?_⟩
            obtain ⟨p, hp⟩ := getq (h8 i hi).1 hq
            exact ⟨(a6 i j p hi hp).1, Rn.okT hBτ ((h8 i hi).2 j p q hp hq) (mv (hg p (fun hn => hn i hi p (List.mem_of_getElem? hp))) (a6 i j p hi hp).2)⟩
        · subst h7
          simp only [OB, (hBτ o1 h4).1] at hob ⊢
          obtain ⟨a1, ents, clock, a2, a3⟩ := hob
          exact ⟨a1, ents, clock, a2, hE (fun hn => hn) a3⟩
        · subst h7
          rename_i es
          simp only [OB, (hBτ o1 h4).1] at hob ⊢
          obtain ⟨b, ents, clock, seen, f, a1, a2, a3, a4, a5, a6⟩ := hob
          rcases hgood with h1 | h1
          · exact ⟨b, ents, clock, seen, f, a1, a2, a3, a4, a5.move (fun k hk => .inr ⟨h1, hk⟩) (fun _ _ => rfl), a6⟩
          · exact (h1.2 o1 _ h5).elim
    · rcases at_ o y ho with ⟨a1, a2, a3, a4⟩ | ⟨o1, y1, rfl, a2, a3, a4, a5⟩
      · rw [a4] at hk
        rcases hs with hs | ⟨hF, hs⟩
        · exact hm.ns o y k a2 hk hs
        · rcases g3.snew k hs with h2 | h2 | h2
          · rcases h2 with h2 | ⟨o', _, hF', _⟩
            · exact hm.ns o y k a2 hk h2
            · exact hF o' hF'
          · have := (hm.ob o y a2).lt hk; omega
          · exact frame o y k a2 a3 hk h2
      · rw [a5] at hk
        rcases hs with hs | ⟨hF, hs⟩
        · exact g2.ns o1 y1 k a2 hk (g3.sub k (.inl hs))
        · exact g2.ns o1 y1 k a2 hk hs
    · rcases at_ o y h1 with ⟨a1, a2, a3, a4⟩ | ⟨o1, y1, rfl, a2, a3, a4, a5⟩ <;> rcases at_ o' y' h2 with ⟨b1, b2, b3, b4⟩ | ⟨o1', y1', rfl, b2, b3, b4, b5⟩
      · rw [a4] at h3; rw [b4] at h4
        exact hm.dj o o' y y' k a2 b2 h3 h4
      · rw [a4] at h3; rw [b5] at h4
        have k1 := (hm.ob o y a2).lt h3
        rcases g3.new k ⟨o1', y1', b2, h4⟩ with h5 | h5
        · omega
        · exact absurd h5 (frame o y k a2 a3 h3)
      · rw [a5] at h3; rw [b4] at h4
        have k1 := (hm.ob o' y' b2).lt h4
        rcases g3.new k ⟨o1, y1, a2, h3⟩ with h5 | h5
        · omega
        · exact absurd h5 (frame o' y' k b2 b3 h4)
      · rw [a5] at h3; rw [b5] at h4
        rw [g2.dj o1 o1' y1 y1' k a2 b2 h3 h4]
    · rcases at_ o y ho with ⟨h4, _⟩ | ⟨o1, y1, rfl, h5, _⟩
      · exact .inl h4
      · exact (hBτ o1 (g2.nx o1 y1 h5)).2.2
    · rcases hk with hk | ⟨_, hk⟩
      · exact Nat.lt_of_lt_of_le (hm.lt k hk) g3.size
      · exact g2.lt k hk
    · obtain ⟨o, y, ho, hk⟩ := hk
      rcases at_ o y ho with ⟨a1, a2, a3, a4⟩ | ⟨o1, y1, rfl, a2, a3, a4, a5⟩
      · rw [a4] at hk; exact .inr ⟨o, y, a2, hk⟩
      · rw [a5] at hk; exact new1 k ⟨o1, y1, a2, hk⟩
    · rcases hk with hk | ⟨hF, hk⟩
      · exact .inl hk
      · rcases g3.snew k hk with h2 | h2 | h2
        · rcases h2 with h2 | ⟨o', _, hF', _⟩
          · exact .inl h2
          · exact absurd hF' (hF o')
        · exact .inr (.inl h2)
        · exact .inr (.inr (own1 k h2))
/-- THE CALL. σ: the callee's names of the objects that it is handed; τ: of all that it hands back (σ's among them); F: objects that it is lent to read. -/
theorem AC.gen {f : FuncId} {args args1 : List PV} {r1 r : PV} {m m' m1 m1' : Mem} (F : Id → Prop) (σ τ dn : Id → Id) (h : AC P f args1 m1 r1 m1') (hl : args1.length = args.length) (ha : ∀ (i : Nat) (p q : PV), args[i]? = some p → args1[i]? = some q → Wk m F σ m1.nx p q)
    (hM : WkM 0 m F σ m1) (hσD : ∀ D : Id → Prop, TC D → (∀ o x, m.o o = some x → D o) → ∀ o, hb o m1.nx → D (σ o)) (hστ : ∀ o, hb o m1.nx → τ o = σ o) (hτ : ∀ o, hb o m1'.nx → ¬ hb o m1.nx → hb (τ o) m'.nx ∧ ¬ hb (τ o) m.nx ∧ dn (τ o) = o) (hle : m.nx ≤ m'.nx)
    (hr : Rn τ r1 r) (hgood : (∀ o, ¬ F o) ∨ (NR r1 ∧ ∀ o y, m1'.o o = some y → NRO y))
    (hm' : ∀ o y, m'.o o = some y → (m.o o = some y ∧ ∀ o1 x1, m1.o o1 = some x1 → σ o1 ≠ o) ∨ ∃ o1 y1, o = τ o1 ∧ m1'.o o1 = some y1 ∧ RnO τ y1 y ∧ (hb o1 m1.nx → ∃ x1, m1.o o1 = some x1)) : ACD P f args m r m' := by
  refine ⟨h.1, fun D tc fr w vs S β κ A hm hvs hv => ?_⟩
  refine (h.2 w vs _ _ _ _ (hM.ok hm) (hvs.trans hl.symm) (fun i q hq => ?_)).mono ?_
  · obtain ⟨p, hp⟩ := getq hl hq
    exact (ha i p q hp hq).ok hm (hv i p hp)
  · rintro e w' ⟨v, S', β', κ', A', rfl, g1, g2, g3⟩
    exact ⟨v, rfl, gen_core F σ τ dn hM hσD hστ hτ hle hr hgood hm' tc fr hm g1 g2 g3⟩
end
end Go.Proofs.YtppfogbgbpadiaaW.AW
