/- What the proof of FnExactWordsOf stands on, part 4: plain lemmas and contracts. -/
import Derived.Test.YtmmlpehfieojdaaXWO3
namespace Go.Proofs.YtmmlpehfieojdaaW.AW
open Go Go.RowKit
set_option linter.unusedVariables false
set_option linter.unusedSimpArgs false
/-- THE CONTRACT of a function that answers as Φ tells. -/
def ACX (P : Program) (f : FuncId) (args : List PV) (o1 : List Ob) (Φ : PV → List Ob → Prop) : Prop := (∃ fn, P.funcs[f]? = some fn ∧ fn.body.isNone = false ∧ (fn.name == "runtime.NumGoroutine") = false) ∧
  ∀ (w : World) (vs : Array Value) (S : Nat → Prop) (β κ : Id → Nat) (A : Id → Nat → Prop), MR w S (ML o1) β κ A → vs.size = args.length → (∀ i p, args[i]? = some p → OV β κ (dN (ML o1).nx) w S (vs.getD i undef) p) →
    Calls P f vs w fun e w' => ∃ r o2 v S' β' κ' A', Φ r o2 ∧ e = .returned v ∧ OV β' κ' (dN (ML o2).nx) w' S' v r ∧ MR w' S' (ML o2) β' κ' A' ∧ Ext w S (ML o1) β κ A w' S' (ML o2) β' κ' A'
section
variable {P : Program}
theorem AC.x {f : FuncId} {args : List PV} {o1 o2 : List Ob} {r : PV} (h : AC P f args (ML o1) r (ML o2)) {Φ : PV → List Ob → Prop} (hΦ : Φ r o2) : ACX P f args o1 Φ :=
  ⟨h.1, fun w vs S β κ A hm hl hv => (h.2 w vs S β κ A hm hl hv).mono fun e w' ⟨v, S', β', κ', A', h1, h2, h3, h4⟩ => ⟨r, o2, v, S', β', κ', A', hΦ, h1, h2, h3, h4⟩⟩
theorem ACX.mono {f : FuncId} {args : List PV} {o1 : List Ob} {Φ Ψ : PV → List Ob → Prop} (h : ACX P f args o1 Φ) (hΦ : ∀ r o2, Φ r o2 → Ψ r o2) : ACX P f args o1 Ψ :=
  ⟨h.1, fun w vs S β κ A hm hl hv => (h.2 w vs S β κ A hm hl hv).mono fun e w' ⟨r, o2, v, S', β', κ', A', h0, h1, h2, h3, h4⟩ => ⟨r, o2, v, S', β', κ', A', hΦ _ _ h0, h1, h2, h3, h4⟩⟩
/-- An answer, one of those that Φ tells of. -/
def RetX (C : Cx) (P : Program) (rs : List ResultVar) (n0 : Nat) (Φ : PV → List Ob → Prop) (e : Exit) (s : AS) : Prop := ∃ r o2, Φ r o2 ∧ RetT C P rs n0 r (ML o2) e s
theorem RetX.of {C : Cx} {rs : List ResultVar} {n0 : Nat} {Φ : PV → List Ob → Prop} {e : Exit} {s : AS} (r : PV) (o2 : List Ob) (hΦ : Φ r o2) (h : RetT C P rs n0 r (ML o2) e s) : RetX C P rs n0 Φ e s := ⟨r, o2, hΦ, h⟩
theorem RetX.told {C : Cx} {rs : List ResultVar} {n0 : Nat} {Φ : PV → List Ob → Prop} {e : Exit} {s s' : AS} (h : Told C s s') (k : RetX C P rs n0 Φ e s') : RetX C P rs n0 Φ e s := by
  obtain ⟨r, o2, h1, h2⟩ := k; exact ⟨r, o2, h1, RetT.told h h2⟩
theorem ACX.of {f : FuncId} {fn : Func} {c : Code} {args : List PV} {o1 : List Ob} {Φ : PV → List Ob → Prop} {rs : List ResultVar} (hf : P.funcs[f]? = some fn) (hb : fn.body = some c) (hn : (fn.name == "runtime.NumGoroutine") = false) (hl : args.length ≤ fn.ntmps) (hr : fn.results = rs.toArray)
    (h : ∀ C : Cx, C.nt = fn.ntmps → C.m0 = ML o1 → vc C P c (RetX C P rs (ML o1).nx Φ) (startA args (ML o1))) : ACX P f args o1 Φ := by
  refine ⟨⟨fn, hf, by rw [hb]; rfl, hn⟩, fun w vs S β κ A hm hvs hv => calls_of_wp hf hb ?_⟩
  have hlt : vs.size ≤ fn.ntmps := by rw [hvs]; exact hl
  refine wp_mono (vc_ok _ _ _ (h ⟨w, S, ML o1, β, κ, A, fn.ntmps⟩ rfl rfl) _ w ⟨β, κ, A, S, rfl, by simp; omega, fun t => ?_, hm, Ext.refl _ _ _ _ _ _⟩) (fun e a' w' hq => ?_)
  · show OV _ _ _ _ _ ((vs ++ Array.replicate (fn.ntmps - vs.size) undef).getD t undef) (args.getD t .und)
    by_cases ht : t < vs.size
    · have e1 : (vs ++ Array.replicate (fn.ntmps - vs.size) undef).getD t undef = vs.getD t undef := by
        simp only [Array.getD_eq_getD_getElem?, Array.getElem?_append_left ht]
      have ha : args[t]? = some (args.getD t .und) := by
        have : t < args.length := by omega
        simp [List.getD, this]
      rw [e1]; exact hv t _ ha
    · have : args.getD t .und = .und := by
        have : ¬ t < args.length := by omega
        simp [List.getD, this]
      rw [this]; exact .rv _ _ (.und _)
  · obtain ⟨s0, hfr0, r, o2, hΦ, s, ht, he, hok, F, ρ, hk, hkm⟩ := hq
    obtain ⟨β', κ', A', S', hfr⟩ := ht _ _ hfr0
    obtain ⟨v, h1, h2⟩ := ares_ok hfr hr hok
    have done : a'.defers = [] ∧ ∃ v, (results fn a'.tmps).run P w' = .ok v w' ∧ ∃ r o2 v_1 S' β' κ' A', Φ r o2 ∧ Ending.returned v = .returned v_1 ∧ OV β' κ' (dN (ML o2).nx) w' S' v_1 r ∧ MR w' S' (ML o2) β' κ' A' ∧ Ext w S (ML o1) β κ A w' S' (ML o2) β' κ' A' :=
      ⟨hfr.df, v, h1, r, o2, v, _, _, _, _, hΦ, rfl, hk.ok hfr.mr h2, hkm.ok hfr.mr, WkM.ext (C := ⟨w, S, ML o1, β, κ, A, fn.ntmps⟩) hkm hfr.mr hfr.ex⟩
    rcases he with rfl | rfl
    · exact done
    · exact done
variable {m : Mem} {K : PV → Mem → List Id → List Id → Prop} {g : FuncId} {args : List PV}
/-- A call whose answer is left open. -/
theorem ACX.go (b : Bool) (src : List Id) {o1 : List Ob} {Φ : PV → List Ob → Prop} {args1 : List PV} (h : ACX P g args1 o1 Φ) (ha : argsT b m src o1.length args args1) (hT : obsT m src src o1) (hok1 : ∀ x ∈ o1, okO o1.length x)
    (hx : ∀ o ∈ src, AW.hb o m.nx) (hnn : ∀ k : Nat, o1[k]? ≠ some .no) (hnd : src.Nodup)
    (hr : ∀ r1 o2, Φ r1 o2 → o1.length ≤ o2.length ∧ (okP o2.length r1 ∧ noFn r1) ∧ (∀ x ∈ o2, okO o2.length x) ∧ (b = false ∨ (NR r1 ∧ ∀ x ∈ o2, NRO x))) :
    ACY P g args m (fun r m' => ∃ r1 o2, Φ r1 o2 ∧ r = reP (nams m.nx src o2) r1 ∧ m' = m.aft (nams m.nx src o2) src o2) := by
  obtain ⟨a1, a2⟩ := argsT_wk ha
  have hsl := (obsT_spec hT).1
  have hw : WkM 0 m (lF b src) (srcI src) (ML o1) := WkM_go o1 (Nat.zero_le _) hT hok1 (fun o ho hf => hf.2 ho) (fun k hk => by omega) hnd
  refine ⟨h.1, fun w vs S β κ A hm hvs hv => ?_⟩
  refine (h.2 w vs _ _ _ _ (hw.ok hm) (hvs.trans a1.symm) (fun i q hq => ?_)).mono ?_
  · obtain ⟨p, hp⟩ := getq a1 hq
    exact (a2 i p q hp hq).ok hm (hv i p hp)
  rintro e w' ⟨r1, o2, v, S', β', κ', A', hΦ, rfl, g1, g2, g3⟩
  obtain ⟨hl, hr, hok, hn⟩ := hr r1 o2 hΦ
  refine ⟨v, rfl, ?_⟩
  suffices hL : Left w S (dN m.nx) m β κ A (fun q n => q = reP (nams m.nx src o2) r1 ∧ n = m.aft (nams m.nx src o2) src o2) v w' by
    obtain ⟨q, n, S2, D2, β2, κ2, A2, ⟨rfl, rfl⟩, l2, l3, l4, l5⟩ := hL
    exact ⟨_, _, S2, D2, β2, κ2, A2, ⟨r1, o2, hΦ, rfl, rfl⟩, l2, l3, l4, l5⟩
  obtain ⟨n1, n2, n3⟩ := nams_spec src o2 m.nx (by omega)
  generalize hns : nams m.nx src o2 = ns at *
  have at1 : ∀ k, k < o1.length → ns[k]? = some (srcI src [k]) := fun k hk => by rw [n2 k (by omega)]; exact srcI_eq (by omega)
  have at2 : ∀ k, o1.length ≤ k → k < o2.length → srcI ns [k] = [m.nx + (k - o1.length)] := fun k h1 h2 => by
    have := n3 k (by omega) h2
    simp only [srcI, List.getD_eq_getElem?_getD, this, Option.getD_some, hsl]
  have e1 : ∀ k, k < o1.length → srcI ns [k] = srcI src [k] := fun k hk => by
    have := at1 k hk
    simp only [srcI, List.getD_eq_getElem?_getD] at this ⊢
    rw [this]; rfl
  have split_ : ∀ (l : List Id) k q, srcI l (k :: q) = srcI l [k] ++ q := fun l k q => by
    cases q with
    | nil => simp
    | cons c q => simp [srcI]
  have srcne : ∀ k, k < o1.length → srcI src [k] ≠ [] ∧ AW.hb (srcI src [k]) m.nx := fun k hk => by
    have := hx _ (List.mem_of_getElem? (srcI_eq (src := src) (k := k) (by omega)))
    refine ⟨fun e => ?_, this⟩
    rw [e] at this; exact this
  let dn : Id → Id := fun o => match o with | [] => [] | k :: q => (k - m.nx + o1.length) :: q
  refine gen_core (lF b src) (srcI src) (srcI ns) dn hw (fun D tc hD o ho => ?_) (fun o ho => ?_) (fun o ho hno => ?_) (by rw [aft_nx _ _ _ _ (by omega)]; omega) (rn_P hr.1 hr.2) ?_ (fun o y ho => ?_) (TC_dN _) (fun _ _ h => h) hm g1 g2 g3
  · match o, ho with
    | k :: q, ho =>
      have ho : k < o1.length := ho
      obtain ⟨s1, s2⟩ := srcne k ho
      rw [split_ src k q]
      have hx1 : o1[k]? = some o1[k] := by simp [ho]
      have hno : o1[k] ≠ .no := fun e => hnn k (by rw [hx1, e])
      obtain ⟨_, _, x, h7, _⟩ := hw.ob [k] o1[k] (by
        simp only [ML_at, hx1]
        split
        · rename_i hh; exact absurd (Option.some.inj hh) hno
        · rfl)
      exact tc _ q s1 (hD _ x h7)
  · match o, ho with
    | k :: q, ho =>
      have ho : k < o1.length := ho
      rw [split_ src k q, split_ ns k q, e1 k ho]
  · match o, ho with
    | k :: q, ho =>
      have ho : k < o2.length := ho
      have hno : ¬ k < o1.length := hno
      rw [split_ ns k q, at2 k (by omega) ho, aft_nx _ _ _ _ (by omega)]
      simp only [AW.hb, List.cons_append, List.nil_append, dn]
      refine ⟨by omega, by omega, ?_⟩
      congr 1; omega
  · rcases hn with hn | ⟨h1, h2⟩
    · exact .inl (fun o hF => by rw [hn] at hF; cases hF.1)
    · exact .inr ⟨h1, fun o y hy => by obtain ⟨k, _, hy, _⟩ := ML_get hy; exact h2 y (List.mem_of_getElem? hy)⟩
  · rcases aft_at ns src o2 m (by omega) o y ho with ⟨h1, h2⟩ | ⟨k, x, h1, h2, h3, rfl⟩
    · refine .inl ⟨h1, fun o1' x1 h3 e => h2 ?_⟩
      obtain ⟨k, rfl, h4, _⟩ := ML_get h3
      rw [← e]
      exact List.mem_of_getElem? (srcI_eq (by have := (List.getElem?_eq_some_iff.1 h4).1; omega))
    · rw [hns] at h1
      have hk : k < o2.length := (List.getElem?_eq_some_iff.1 h2).1
      refine .inr ⟨[k], x, ?_, ?_, ?_, fun h4 => ?_⟩
      · simp [srcI, h1]
      · simp only [ML_at, h2]
        cases x <;> first | rfl | exact absurd rfl h3
      · rcases rn_O (ns := ns) (hok x (List.mem_of_getElem? h2)) with h5 | h5
        · exact h5
        · exact absurd h5 h3
      · have h4 : k < o1.length := h4
        have hx1 : o1[k]? = some o1[k] := by simp [h4]
        refine ⟨o1[k], ?_⟩
        simp only [ML_at, hx1]
        have hne : o1[k] ≠ .no := fun e => hnn k (by rw [hx1, e])
        split
        · rename_i hh; exact absurd (Option.some.inj hh) hne
        · rfl
end
section
variable {m : Mem} {F : Id → Prop} {n : Nat} {src : List Id}
end
end Go.Proofs.YtmmlpehfieojdaaW.AW
