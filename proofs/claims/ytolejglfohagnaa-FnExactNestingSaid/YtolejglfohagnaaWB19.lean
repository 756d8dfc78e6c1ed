/- A function's contract out of its body; a call's memory beside other memory. Plain lemmas: no statement of the program. -/
import Derived.Test.YtolejglfohagnaaWB18
namespace Go.Proofs.YtolejglfohagnaaW.AW
open Go Go.RowKit
set_option linter.unusedVariables false
set_option linter.unusedSimpArgs false

def ares1 (P : Program) (s : AS) : ResultVar → PR
  | .tmp t => ⟨True, s.t t⟩
  | .cell a t => match s.t a with
    | .bp o j => match s.m.o o with | some (.box cs) => ldo (tyD P t) (cs.drop j) | _ => no
    | _ => no
def ares (P : Program) (s : AS) : List ResultVar → PR
  | [r] => ares1 P s r
  | rs => ⟨∀ r ∈ rs, (ares1 P s r).ok, .tu (rs.map (fun r => (ares1 P s r).v))⟩
/-- What a body is to end in. -/
def RetQ (P : Program) (rs : List ResultVar) (n0 : Nat) (r : PV) (m' : Mem) (e : Exit) (s : AS) : Prop :=
  (e = .ret ∨ e = .normal) ∧ (ares P s rs).ok ∧ ∃ F ρ, Wk s.m F ρ m'.nx (ares P s rs).v r ∧ WkM n0 s.m F ρ m'
def startA (args : List PV) (m : Mem) : AS := ⟨fun t => args.getD t .und, m⟩
section
variable {P : Program}
theorem ares1_ok {C : Cx} {s : AS} {a : Act} {w : World} {β κ : Id → Nat} {A : Id → Nat → Prop} {S : Nat → Prop} (hf : FR C.w0 C.S0 C.m0 C.β0 C.κ0 C.A0 C.nt s a w β κ A S) {r : ResultVar} (h : (ares1 P s r).ok) :
    ∃ v, ((match r with | .tmp t => pure (a.tmps.getD t undef) | .cell x t => do loadVar t (← asAddr (a.tmps.getD x undef)) : Sem Value)).run P w = .ok v w ∧ OV β κ (dN s.m.nx) w S v (ares1 P s r).v := by
  cases r with
  | tmp t => exact ⟨_, rfl, hf.tv t⟩
  | cell x t =>
    simp only [ares1] at h ⊢
    have hv := hf.tv x
    split at h
    · rename_i o j hx
      rw [hx] at hv
      obtain ⟨e1, h1⟩ := hv.bp_inv
      split at h
      · rename_i cs hb
        obtain ⟨v, hr, ho⟩ := ok_ld (P := P) (box_cells hf.mr hb j) h
        exact ⟨v, by simp [e1, asAddr, hr], ho⟩
      · exact h.elim
    · exact h.elim
theorem run_mapM {f : ResultVar → Sem Value} {w : World} : ∀ (rs : List ResultVar), (∀ r ∈ rs, ∃ v, (f r).run P w = .ok v w) → ∃ vs : List Value, (rs.mapM f).run P w = .ok vs w ∧ vs.length = rs.length ∧ ∀ (j : Nat) (r : ResultVar), rs[j]? = some r → ∃ v, vs[j]? = some v ∧ (f r).run P w = .ok v w
  | [], _ => ⟨[], by simp, rfl, fun j r h => by simp at h⟩
  | r :: rs, h => by
    obtain ⟨v, hv⟩ := h r (by simp)
    obtain ⟨vs, h1, h2, h3⟩ := run_mapM rs (fun r hr => h r (by simp [hr]))
    refine ⟨v :: vs, by simp [List.mapM_cons, hv, h1], by simp [h2], fun j q hq => ?_⟩
    cases j with
    | zero => simp only [List.getElem?_cons_zero, Option.some.injEq] at hq; subst hq; exact ⟨v, rfl, hv⟩
    | succ j => exact h3 j q hq
theorem ares_ok {C : Cx} {s : AS} {a : Act} {w : World} {β κ : Id → Nat} {A : Id → Nat → Prop} {S : Nat → Prop} (hf : FR C.w0 C.S0 C.m0 C.β0 C.κ0 C.A0 C.nt s a w β κ A S) {fn : Func} {rs : List ResultVar} (hr : fn.results = rs.toArray) (h : (ares P s rs).ok) :
    ∃ v, (results fn a.tmps).run P w = .ok v w ∧ OV β κ (dN s.m.nx) w S v (ares P s rs).v := by
  have all_ : ∀ r ∈ rs, (ares1 P s r).ok := by
    match rs, h with
    | [r], h => exact fun q hq => by simp only [List.mem_singleton] at hq; subst hq; exact h
    | [], h => exact h
    | _ :: _ :: _, h => exact h
  obtain ⟨vs, h1, h2, h3⟩ := run_mapM (P := P) (w := w) (f := fun r => match r with | .tmp t => pure (a.tmps.getD t undef) | .cell x t => do loadVar t (← asAddr (a.tmps.getD x undef))) rs (fun r hr => by
    obtain ⟨v, hv, _⟩ := ares1_ok hf (all_ r hr); exact ⟨v, hv⟩)
  have at_ : ∀ (j : Nat) (r : ResultVar), rs[j]? = some r → ∃ v, vs[j]? = some v ∧ OV β κ (dN s.m.nx) w S v (ares1 P s r).v := fun j r hj => by
    obtain ⟨v, a1, a2⟩ := h3 j r hj
    obtain ⟨v', b1, b2⟩ := ares1_ok hf (all_ r (List.mem_of_getElem? hj))
    rw [a2] at b1
    cases b1
    exact ⟨v, a1, b2⟩
  have hrun : (results fn a.tmps).run P w = .ok (if h : vs.length = 1 then vs[0] else .tuple vs.toArray) w := by
    have e : (fn.results.mapM (fun r => match r with | .tmp t => pure (a.tmps.getD t undef) | .cell x t => do loadVar t (← asAddr (a.tmps.getD x undef)) : ResultVar → Sem Value)).run P w = .ok vs.toArray w := by
      rw [hr, Array.mapM_eq_mapM_toList]
      have h1' := h1
      simp only [Array.getD_eq_getD_getElem?] at h1'
      simp [h1']
    unfold results
    rw [Sem.run_bind]
    erw [e]
    simp only [Result.andThen_ok, List.size_toArray]
    split <;> rfl
  match rs, h, h2, at_ with
  | [r], h, h2, at_ =>
    obtain ⟨v, a1, a2⟩ := at_ 0 r rfl
    refine ⟨_, hrun, ?_⟩
    have h2' : vs.length = 1 := h2
    rw [dif_pos h2']
    have : vs[0]? = some vs[0] := List.getElem?_eq_getElem (by simp [h2])
    rw [this] at a1; cases a1
    exact a2
  | [], h, h2, at_ =>
    refine ⟨_, hrun, ?_⟩
    rw [dif_neg (by rw [h2]; simp)]
    exact .tu _ _ (by simp [h2]) (fun j p hp => by simp [ares] at hp)
  | r :: r' :: rs, h, h2, at_ =>
    refine ⟨_, hrun, ?_⟩
    rw [dif_neg (by rw [h2]; simp)]
    refine .tu _ _ (by simp [h2]) (fun j p hp => ?_)
    rw [List.getElem?_map] at hp
    obtain ⟨q, hq, rfl⟩ := Option.map_eq_some_iff.1 hp
    obtain ⟨v, a1, a2⟩ := at_ j q hq
    have : vs.toArray.getD j undef = v := by simp [Array.getD_eq_getD_getElem?, a1]
    rw [this]; exact a2
/-- THE CONTRACT OUT OF THE BODY. -/
theorem AC.of_body {f : FuncId} {fn : Func} {c : Code} {args : List PV} {m m' : Mem} {r : PV} {rs : List ResultVar} (hf : P.funcs[f]? = some fn) (hb : fn.body = some c) (hn : (fn.name == "runtime.NumGoroutine") = false) (hl : args.length ≤ fn.ntmps) (hr : fn.results = rs.toArray)
    (h : ∀ C : Cx, C.nt = fn.ntmps → C.m0 = m → AW C P c (RetQ P rs m.nx r m') (startA args m)) : AC P f args m r m' := by
  refine ⟨⟨fn, hf, by rw [hb]; rfl, hn⟩, fun w vs S β κ A hm hvs hv => calls_of_wp hf hb ?_⟩
  have hlt : vs.size ≤ fn.ntmps := by rw [hvs]; exact hl
  refine wp_mono (h ⟨w, S, m, β, κ, A, fn.ntmps⟩ rfl rfl _ w ⟨β, κ, A, S, rfl, by simp; omega, fun t => ?_, hm, Ext.refl _ _ _ _ _ _⟩) (fun e a' w' hq => ?_)
  · show OV _ _ _ _ _ ((vs ++ Array.replicate (fn.ntmps - vs.size) undef).getD t undef) (args.getD t .und)
    by_cases ht : t < vs.size
    · have e1 : (vs ++ Array.replicate (fn.ntmps - vs.size) undef).getD t undef = vs.getD t undef := by
        simp only [Array.getD_eq_getD_getElem?, Array.getElem?_append_left ht]
      have ha : args[t]? = some (args.getD t .und) := by
        have : t < args.length := by omega
        simp [List.getD, this]
      rw [e1]; exact hv t _ ha
    · have : args.getD t .und = .und := by
        have : ¬ t < args.length := by omega
        simp [List.getD, this]
      rw [this]; exact .rv _ _ (.und _)
  · obtain ⟨s, ⟨β', κ', A', S', hfr⟩, he, hok, F, ρ, hk, hkm⟩ := hq
    obtain ⟨v, h1, h2⟩ := ares_ok hfr hr hok
    have done : a'.defers = [] ∧ ∃ v, (results fn a'.tmps).run P w' = .ok v w' ∧ ∃ v_1 S' β' κ' A', Ending.returned v = .returned v_1 ∧ OV β' κ' (dN m'.nx) w' S' v_1 r ∧ MR w' S' m' β' κ' A' ∧ Ext w S m β κ A w' S' m' β' κ' A' :=
      ⟨hfr.df, v, h1, v, _, _, _, _, rfl, hk.ok hfr.mr h2, hkm.ok hfr.mr, WkM.ext (C := ⟨w, S, m, β, κ, A, fn.ntmps⟩) hkm hfr.mr hfr.ex⟩
    rcases he with rfl | rfl
    · exact done
    · exact done
end
end Go.Proofs.YtolejglfohagnaaW.AW
