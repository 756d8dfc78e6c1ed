/- Regions in the order of the text. Plain lemmas: no statement of the program. -/
import Derived.Test.YtolejglfohagnaaWB16
namespace Go.Proofs.YtolejglfohagnaaW.AW
open Go Go.RowKit
set_option linter.unusedVariables false
set_option linter.unusedSimpArgs false

/-- What there was at the call, and how many slots there are. -/
structure Cx where
  w0 : World
  S0 : Nat → Prop
  m0 : Mem
  β0 : Id → Nat
  κ0 : Id → Nat
  A0 : Id → Nat → Prop
  nt : Nat
def Cx.FRD (C : Cx) (D : Id → Prop) (s : AS) (a : Act) (w : World) : Prop := ∃ β κ A S, AW.FRD C.w0 C.S0 C.m0 C.β0 C.κ0 C.A0 C.nt s a w D β κ A S
def Cx.FR (C : Cx) (s : AS) (a : Act) (w : World) : Prop := ∃ β κ A S, AW.FR C.w0 C.S0 C.m0 C.β0 C.κ0 C.A0 C.nt s a w β κ A S
section
variable {P : Program} {C : Cx} {Q : Exit → AS → Prop} {s : AS} {ops : Array Oper}
theorem ev_ok {D : Id → Prop} {β κ : Id → Nat} {A : Id → Nat → Prop} {S : Nat → Prop} {a : Act} {w : World} {cs : List Bool} (h : FRD C.w0 C.S0 C.m0 C.β0 C.κ0 C.A0 C.nt s a w D β κ A S) (hcs : cs.all id = true) (x : Operand) : OV β κ D w S (a.eval x) (strip cs (s.ev x)) := by
  refine OV.strip ?_ hcs
  cases x with
  | tmp t => exact h.tv t
  | const v => exact ofVal_ok
  | global g => exact .rv _ _ (.und _)
  | func f => exact .fn f #[] [] rfl (fun j p hp => by simp at hp)
theorem OV.gd_inv {β κ : Id → Nat} {D : Id → Prop} {w : World} {S : Nat → Prop} {v : Value} {cs : List Bool} {p : PV} (h : OV β κ D w S v (.gd cs p)) : (cs.all id = true → OV β κ D w S v p) ∧ (cs.all id = false → v = undef) := by
  cases h with
  | rv _ _ h => cases h with | gd _ _ _ h hu => exact ⟨fun e => .rv _ _ (h e), hu⟩
  | gd _ _ _ h hu => exact ⟨h, hu⟩
theorem agd_ok {D : Id → Prop} {a : Act} {w : World} (h : C.FRD D s a w) {g : Option (Nat × Bool)} {cs : List Bool} (hg : agd (ops.toList.map (·.dst)) s g = some cs) {o : Oper} (ho : o.guard = g) : cs.all id = Region.wanted o (yielded ops a.tmps) := by
  obtain ⟨β, κ, A, S, h⟩ := h
  unfold agd at hg
  split at hg
  · simp only [Option.some.injEq] at hg; subst hg; simp [Region.wanted, ho]
  · rename_i j b
    simp only [Region.wanted, ho]
    split at hg
    · rename_i t ht
      have hy : ∀ v, a.tmps.getD t undef = v → yielded ops a.tmps j = match v with | .bool b => some b | _ => none := fun v hv => by
        unfold yielded
        have e : (ops[j]?).bind (·.dst) = some t := by
          simp only [gtmp, List.getElem?_map] at ht
          have e0 : ops.toList[j]? = ops[j]? := by simp
          rw [e0] at ht
          cases hq : ops[j]? with
          | none => rw [hq] at ht; cases ht
          | some o' => rw [hq] at ht; exact ht
        rw [e]
        cases hq : a.tmps[t]? with
        | none => simp [Array.getD_eq_getD_getElem?, hq] at hv; subst hv; simp [hq, undef]
        | some u => simp [Array.getD_eq_getD_getElem?, hq] at hv; subst hv; simp [hq]; cases u <;> rfl
      have hv := h.tv t
      split at hg
      · rename_i x hx
        rw [hx] at hv
        simp only [Option.some.injEq] at hg; subst hg
        rw [hy _ hv.bool_inv]
        cases x <;> cases b <;> rfl
      · rename_i cs' x hx
        rw [hx] at hv
        simp only [Option.some.injEq] at hg; subst hg
        rw [List.all_append]
        by_cases hc : cs'.all id = true
        · have e : a.tmps.getD t undef = .bool x := (hv.gd_inv.1 hc).bool_inv
          rw [hy _ e, hc]
          cases x <;> cases b <;> rfl
        · have hc' : cs'.all id = false := by simpa using hc
          have e : a.tmps.getD t undef = undef := hv.gd_inv.2 hc'
          rw [hy _ e, hc']
          cases b <;> rfl
      · cases hg
    · cases hg
theorem aop_skip {cs : List Bool} {op : Op} {e : Operand → PV} {m : Mem} {K : PV → Mem → Prop} (hcs : cs.all id = false) (h : aop P cs op e m K) : ∃ r, K (.gd cs r) m := by
  have gd_ : ∀ r, gdv cs r = .gd cs r := fun r => by
    unfold gdv; split
    · cases hcs
    · rfl
  have hcs' : ¬ cs.all id = true := by rw [hcs]; simp
  have no_ : ∀ {p : Prop}, onG cs p (K (gdv cs .und) m) → ∃ r, K (.gd cs r) m := fun h => by
    simp only [onG, if_neg hcs'] at h
    exact ⟨_, gd_ _ ▸ h⟩
  unfold aop at h
  split at h
  · exact no_ h
  · exact no_ h
  · exact no_ h
  · exact no_ h
  · exact no_ h
  · exact no_ h
  · exact no_ h
  · split at h
    · split at h
      · exact no_ h
      · exact ⟨_, gd_ _ ▸ h.2⟩
    · exact ⟨_, gd_ _ ▸ h.2⟩
  · split at h
    · exact no_ h
    · exact no_ h
    · exact ⟨_, gd_ _ ▸ h.2⟩
    · split at h
      · obtain ⟨r, m', R, W, _, h2, h3⟩ := h
        rcases h2 with h2 | rfl
        · exact absurd h2 hcs'
        · exact ⟨r, gd_ _ ▸ h3⟩
      · exact h.elim
    · exact h.elim
  · exact ⟨_, gd_ _ ▸ h.2⟩
theorem dst_lt {d : Option Tmp} {n : Nat} (h : d.all (· < n) = true) : ∀ i, d = some i → i < n := fun i e => by subst e; simpa using h
theorem arun_ok {K : AS → Prop} {Q' : Exit → Act → World → Prop} (hK : ∀ s a w, C.FR s a w → K s → Q' .normal a w) : ∀ (rest : List Oper) (s : AS) (a : Act) (w : World), C.FR s a w → arun P C.nt (ops.toList.map (·.dst)) rest K s → wpList P ops Q' rest a w
  | [], s, a, w, h, hr => hK s a w h hr
  | o :: rest, s, a, w, h, hr => by
    simp only [arun] at hr
    split at hr
    · rename_i cs hg
      obtain ⟨hd, hr⟩ := hr
      have hw := agd_ok (D := AW.dN s.m.nx) h hg rfl
      obtain ⟨β, κ, A, S, hf⟩ := h
      unfold wpList
      rw [← hw]
      by_cases hc : cs.all id = true
      · rw [if_pos hc]
        left
        refine aop_ok (fun _ _ _ _ => Fr.hd _) hf.mr (ev_ok hf hc) hc rfl (fun _ => rfl) hr (fun v w' hl => ?_)
        obtain ⟨r, m', S', D', β', κ', A', h1, h2, h3, h4, h5⟩ := hl
        have hD : D' = AW.dN m'.nx := funext fun o => propext ((h5 o).trans ⟨fun h => h.elim (fun h => hb.mono h h2.le) (·.1), fun h => (Classical.em (hb o s.m.nx)).elim .inl (fun h2 => .inr ⟨h, h2⟩)⟩)
        subst hD
        exact arun_ok hK rest _ _ _ ⟨β', κ', A', S', hf.step h2 h3 (dst_lt hd) h4⟩ h1
      · rw [if_neg hc]
        have hc' : cs.all id = false := by simpa using hc
        obtain ⟨r, h1⟩ := aop_skip hc' hr
        exact arun_ok hK rest _ _ _ ⟨β, κ, A, S, hf.step (Ext.refl _ _ _ _ _ _) hf.mr (dst_lt hd) (.gd _ _ _ (fun e => absurd e hc) (fun _ => rfl))⟩ h1
    · exact hr.elim
end
end Go.Proofs.YtolejglfohagnaaW.AW
