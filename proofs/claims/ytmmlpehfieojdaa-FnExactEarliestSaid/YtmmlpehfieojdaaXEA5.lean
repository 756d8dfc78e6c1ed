/- What the proof of FnExactEarliest stands on, part 5: plain lemmas and contracts. -/
import Derived.Test.YtmmlpehfieojdaaXEA4
namespace Go.Proofs.YtmmlpehfieojdaaW.AW
open Go Go.RowKit
set_option linter.unusedVariables false
set_option linter.unusedSimpArgs false
/-- THE CONTRACT of a function that answers as Φ tells. -/
def ACX (P : Program) (f : FuncId) (args : List PV) (o1 : List Ob) (Φ : PV → List Ob → Prop) : Prop := (∃ fn, P.funcs[f]? = some fn ∧ fn.body.isNone = false ∧ (fn.name == "runtime.NumGoroutine") = false) ∧
  ∀ (w : World) (vs : Array Value) (S : Nat → Prop) (β κ : Id → Nat) (A : Id → Nat → Prop), MR w S (ML o1) β κ A → vs.size = args.length → (∀ i p, args[i]? = some p → OV β κ (dN (ML o1).nx) w S (vs.getD i undef) p) →
    Calls P f vs w fun e w' => ∃ r o2 v S' β' κ' A', Φ r o2 ∧ e = .returned v ∧ OV β' κ' (dN (ML o2).nx) w' S' v r ∧ MR w' S' (ML o2) β' κ' A' ∧ Ext w S (ML o1) β κ A w' S' (ML o2) β' κ' A'
section
variable {P : Program}
theorem AC.x {f : FuncId} {args : List PV} {o1 o2 : List Ob} {r : PV} (h : AC P f args (ML o1) r (ML o2)) {Φ : PV → List Ob → Prop} (hΦ : Φ r o2) : ACX P f args o1 Φ :=
  ⟨h.1, fun w vs S β κ A hm hl hv => (h.2 w vs S β κ A hm hl hv).mono fun e w' ⟨v, S', β', κ', A', h1, h2, h3, h4⟩ => ⟨r, o2, v, S', β', κ', A', hΦ, h1, h2, h3, h4⟩⟩
theorem ACX.mono {f : FuncId} {args : List PV} {o1 : List Ob} {Φ Ψ : PV → List Ob → Prop} (h : ACX P f args o1 Φ) (hΦ : ∀ r o2, Φ r o2 → Ψ r o2) : ACX P f args o1 Ψ :=
  ⟨h.1, fun w vs S β κ A hm hl hv => (h.2 w vs S β κ A hm hl hv).mono fun e w' ⟨r, o2, v, S', β', κ', A', h0, h1, h2, h3, h4⟩ => ⟨r, o2, v, S', β', κ', A', hΦ _ _ h0, h1, h2, h3, h4⟩⟩
/-- An answer, one of those that Φ tells of. -/
def RetX (C : Cx) (P : Program) (rs : List ResultVar) (n0 : Nat) (Φ : PV → List Ob → Prop) (e : Exit) (s : AS) : Prop := ∃ r o2, Φ r o2 ∧ RetT C P rs n0 r (ML o2) e s
theorem RetX.of {C : Cx} {rs : List ResultVar} {n0 : Nat} {Φ : PV → List Ob → Prop} {e : Exit} {s : AS} (r : PV) (o2 : List Ob) (hΦ : Φ r o2) (h : RetT C P rs n0 r (ML o2) e s) : RetX C P rs n0 Φ e s := ⟨r, o2, hΦ, h⟩
theorem RetX.told {C : Cx} {rs : List ResultVar} {n0 : Nat} {Φ : PV → List Ob → Prop} {e : Exit} {s s' : AS} (h : Told C s s') (k : RetX C P rs n0 Φ e s') : RetX C P rs n0 Φ e s := by
  obtain ⟨r, o2, h1, h2⟩ := k; exact ⟨r, o2, h1, RetT.told h h2⟩
theorem ACX.of {f : FuncId} {fn : Func} {c : Code} {args : List PV} {o1 : List Ob} {Φ : PV → List Ob → Prop} {rs : List ResultVar} (hf : P.funcs[f]? = some fn) (hb : fn.body = some c) (hn : (fn.name == "runtime.NumGoroutine") = false) (hl : args.length ≤ fn.ntmps) (hr : fn.results = rs.toArray)
    (h : ∀ C : Cx, C.nt = fn.ntmps → C.m0 = ML o1 → vc C P c (RetX C P rs (ML o1).nx Φ) (startA args (ML o1))) : ACX P f args o1 Φ := by
  refine ⟨⟨fn, hf, by rw [hb]; rfl, hn⟩, fun w vs S β κ A hm hvs hv => calls_of_wp hf hb ?_⟩
  have hlt : vs.size ≤ fn.ntmps := by rw [hvs]; exact hl
  refine wp_mono (vc_ok _ _ _ (h ⟨w, S, ML o1, β, κ, A, fn.ntmps⟩ rfl rfl) _ w ⟨β, κ, A, S, rfl, by simp; omega, fun t => ?_, hm, Ext.refl _ _ _ _ _ _⟩) (fun e a' w' hq => ?_)
  · show OV _ _ _ _ _ ((vs ++ Array.replicate (fn.ntmps - vs.size) undef).getD t undef) (args.getD t .und)
    by_cases ht : t < vs.size
    · have e1 : (vs ++ Array.replicate (fn.ntmps - vs.size) undef).getD t undef = vs.getD t undef := by
        simp only [Array.getD_eq_getD_getElem?, Array.getElem?_append_left ht]
      have ha : args[t]? = some (args.getD t .und) := by
        have : t < args.length := by omega
        simp [List.getD, this]
      rw [e1]; exact hv t _ ha
    · have : args.getD t .und = .und := by
        have : ¬ t < args.length := by omega
        simp [List.getD, this]
      rw [this]; exact .rv _ _ (.und _)
  · obtain ⟨s0, hfr0, r, o2, hΦ, s, ht, he, hok, F, ρ, hk, hkm⟩ := hq
    obtain ⟨β', κ', A', S', hfr⟩ := ht _ _ hfr0
    obtain ⟨v, h1, h2⟩ := ares_ok hfr hr hok
    have done : a'.defers = [] ∧ ∃ v, (results fn a'.tmps).run P w' = .ok v w' ∧ ∃ r o2 v_1 S' β' κ' A', Φ r o2 ∧ Ending.returned v = .returned v_1 ∧ OV β' κ' (dN (ML o2).nx) w' S' v_1 r ∧ MR w' S' (ML o2) β' κ' A' ∧ Ext w S (ML o1) β κ A w' S' (ML o2) β' κ' A' :=
      ⟨hfr.df, v, h1, r, o2, v, _, _, _, _, hΦ, rfl, hk.ok hfr.mr h2, hkm.ok hfr.mr, WkM.ext (C := ⟨w, S, ML o1, β, κ, A, fn.ntmps⟩) hkm hfr.mr hfr.ex⟩
    rcases he with rfl | rfl
    · exact done
    · exact done
variable {m : Mem} {K : PV → Mem → List Id → List Id → Prop} {g : FuncId} {args : List PV}
/-- A call under a guard that is false. -/
theorem acall_skip {cs : List Bool} (r : PV) (h : cs.all id = false) (hk : K (gdv cs r) m [] []) {dr : Bool} : acall dr P cs g args m K := .inl ⟨r, m, [], [], (fun q => by rw [h] at q; cases q), .inr rfl, hk⟩
/-- A call whose answer is left open. -/
theorem ACX.go (b : Bool) (src : List Id) {o1 : List Ob} {Φ : PV → List Ob → Prop} {args1 : List PV} (h : ACX P g args1 o1 Φ) (ha : argsT b m src o1.length args args1) (hT : obsT m src src o1) (hok1 : ∀ x ∈ o1, okO o1.length x)
    (hx : ∀ o ∈ src, AW.hb o m.nx) (hnn : ∀ k : Nat, o1[k]? ≠ some .no) (hnd : src.Nodup)
    (hr : ∀ r1 o2, Φ r1 o2 → o1.length ≤ o2.length ∧ (okP o2.length r1 ∧ noFn r1) ∧ (∀ x ∈ o2, okO o2.length x) ∧ (b = false ∨ (NR r1 ∧ ∀ x ∈ o2, NRO x))) :
    ACY P g args m (fun r m' => ∃ r1 o2, Φ r1 o2 ∧ r = reP (nams m.nx src o2) r1 ∧ m' = m.aft (nams m.nx src o2) src o2) := by
  obtain ⟨a1, a2⟩ := argsT_wk ha
  have hsl := (obsT_spec hT).1
  have hw : WkM 0 m (lF b src) (srcI src) (ML o1) := WkM_go o1 (Nat.zero_le _) hT hok1 (fun o ho hf => hf.2 ho) (fun k hk => by omega) hnd
  refine ⟨h.1, fun w vs S β κ A hm hvs hv => ?_⟩
  refine (h.2 w vs _ _ _ _ (hw.ok hm) (hvs.trans a1.symm) (fun i q hq => ?_)).mono ?_
  · obtain ⟨p, hp⟩ := getq a1 hq
    exact (a2 i p q hp hq).ok hm (hv i p hp)
  rintro e w' ⟨r1, o2, v, S', β', κ', A', hΦ, rfl, g1, g2, g3⟩
  obtain ⟨hl, hr, hok, hn⟩ := hr r1 o2 hΦ
  refine ⟨v, rfl, ?_⟩
  suffices hL : Left w S (dN m.nx) m β κ A (fun q n => q = reP (nams m.nx src o2) r1 ∧ n = m.aft (nams m.nx src o2) src o2) v w' by
    obtain ⟨q, n, S2, D2, β2, κ2, A2, ⟨rfl, rfl⟩, l2, l3, l4, l5⟩ := hL
    exact ⟨_, _, S2, D2, β2, κ2, A2, ⟨r1, o2, hΦ, rfl, rfl⟩, l2, l3, l4, l5⟩
  obtain ⟨n1, n2, n3⟩ := nams_spec src o2 m.nx (by omega)
  generalize hns : nams m.nx src o2 = ns at *
  have at1 : ∀ k, k < o1.length → ns[k]? = some (srcI src [k]) := fun k hk => by rw [n2 k (by omega)]; exact srcI_eq (by omega)
  have at2 : ∀ k, o1.length ≤ k → k < o2.length → srcI ns [k] = [m.nx + (k - o1.length)] := fun k h1 h2 => by
    have := n3 k (by omega) h2
    simp only [srcI, List.getD_eq_getElem?_getD, this, Option.getD_some, hsl]
  have e1 : ∀ k, k < o1.length → srcI ns [k] = srcI src [k] := fun k hk => by
    have := at1 k hk
    simp only [srcI, List.getD_eq_getElem?_getD] at this ⊢
    rw [this]; rfl
  have split_ : ∀ (l : List Id) k q, srcI l (k :: q) = srcI l [k] ++ q := fun l k q => by
    cases q with
    | nil => simp
    | cons c q => simp [srcI]
  have srcne : ∀ k, k < o1.length → srcI src [k] ≠ [] ∧ AW.hb (srcI src [k]) m.nx := fun k hk => by
    have := hx _ (List.mem_of_getElem? (srcI_eq (src := src) (k := k) (by omega)))
    refine ⟨fun e => ?_, this⟩
    rw [e] at this; exact this
  let dn : Id → Id := fun o => match o with | [] => [] | k :: q => (k - m.nx + o1.length) :: q
  refine gen_core (lF b src) (srcI src) (srcI ns) dn hw (fun D tc hD o ho => ?_) (fun o ho => ?_) (fun o ho hno => ?_) (by rw [aft_nx _ _ _ _ (by omega)]; omega) (rn_P hr.1 hr.2) ?_ (fun o y ho => ?_) (TC_dN _) (fun _ _ h => h) hm g1 g2 g3
  · match o, ho with
    | k :: q, ho =>
      have ho : k < o1.length := ho
      obtain ⟨s1, s2⟩ := srcne k ho
      rw [split_ src k q]
      have hx1 : o1[k]? = some o1[k] := by simp [ho]
      have hno : o1[k] ≠ .no := fun e => hnn k (by rw [hx1, e])
      obtain ⟨_, _, x, h7, _⟩ := hw.ob [k] o1[k] (by
        simp only [ML_at, hx1]
        split
        · rename_i hh; exact absurd (Option.some.inj hh) hno
        · rfl)
      exact tc _ q s1 (hD _ x h7)
  · match o, ho with
    | k :: q, ho =>
      have ho : k < o1.length := ho
      rw [split_ src k q, split_ ns k q, e1 k ho]
  · match o, ho with
    | k :: q, ho =>
      have ho : k < o2.length := ho
      have hno : ¬ k < o1.length := hno
      rw [split_ ns k q, at2 k (by omega) ho, aft_nx _ _ _ _ (by omega)]
      simp only [AW.hb, List.cons_append, List.nil_append, dn]
      refine ⟨by omega, by omega, ?_⟩
      congr 1; omega
  · rcases hn with hn | ⟨h1, h2⟩
    · exact .inl (fun o hF => by rw [hn] at hF; cases hF.1)
    · exact .inr ⟨h1, fun o y hy => by obtain ⟨k, _, hy, _⟩ := ML_get hy; exact h2 y (List.mem_of_getElem? hy)⟩
  · rcases aft_at ns src o2 m (by omega) o y ho with ⟨h1, h2⟩ | ⟨k, x, h1, h2, h3, rfl⟩
    · refine .inl ⟨h1, fun o1' x1 h3 e => h2 ?_⟩
      obtain ⟨k, rfl, h4, _⟩ := ML_get h3
      rw [← e]
      exact List.mem_of_getElem? (srcI_eq (by have := (List.getElem?_eq_some_iff.1 h4).1; omega))
    · rw [hns] at h1
      have hk : k < o2.length := (List.getElem?_eq_some_iff.1 h2).1
      refine .inr ⟨[k], x, ?_, ?_, ?_, fun h4 => ?_⟩
      · simp [srcI, h1]
      · simp only [ML_at, h2]
        cases x <;> first | rfl | exact absurd rfl h3
      · rcases rn_O (ns := ns) (hok x (List.mem_of_getElem? h2)) with h5 | h5
        · exact h5
        · exact absurd h5 h3
      · have h4 : k < o1.length := h4
        have hx1 : o1[k]? = some o1[k] := by simp [h4]
        refine ⟨o1[k], ?_⟩
        simp only [ML_at, hx1]
        have hne : o1[k] ≠ .no := fun e => hnn k (by rw [hx1, e])
        split
        · rename_i hh; exact absurd (Option.some.inj hh) hne
        · rfl
end
section
variable {m : Mem} {F : Id → Prop} {n : Nat} {src : List Id}
/-- Rows whose cells name objects. -/
def okR (n : Nat) : Ob → Prop
  | .row _ k g => ∀ i, i < k → ∀ p ∈ g i, okD n p
  | x => okO n x
def obR (m : Mem) (src : List Id) (o : Id) : Ob → Prop
  | .row sz n g => match m.o o with | some (.row sz' n' g') => sz' = sz ∧ n' = n ∧ ∀ i, i < n → g' i = (g i).map (reC src) | _ => False
  | x => obT m src o x
def obsR (m : Mem) (src : List Id) : List Id → List Ob → Prop
  | o :: os, x :: xs => obR m src o x ∧ obsR m src os xs
  | [], [] => True
  | _, _ => False
theorem reC_nl {p : PV} (h : p.nl = true) : reC src p = p := by cases p <;> first | rfl | (cases h; done)
theorem map_nl {l : List PV} (h : Nl l) : l.map (reC src) = l := by
  induction l with
  | nil => rfl
  | cons p r ih => rw [Nl_cons] at h; rw [List.map_cons, reC_nl h.1, ih h.2]
theorem okD_nl {l : List PV} (h : Nl l) : ∀ p ∈ l, okD n p := fun p hp => by
  have := h p hp
  cases p <;> first | trivial | (cases this; done)
theorem obsR_spec {s0 : List Id} : ∀ {src : List Id} {obs : List Ob}, obsR m s0 src obs → src.length = obs.length ∧ ∀ (k : Nat) (o : Id) (x' : Ob), src[k]? = some o → obs[k]? = some x' → obR m s0 o x'
  | [], [], _ => ⟨rfl, fun k o x' h => by simp at h⟩
  | o :: os, x :: xs, ⟨h1, h2⟩ => by
    obtain ⟨h3, h4⟩ := obsR_spec h2
    refine ⟨by simp [h3], fun k o' x' a b => ?_⟩
    cases k with
    | zero => simp at a b; subst a; subst b; exact h1
    | succ k => exact h4 k o' x' (by simpa using a) (by simpa using b)
theorem obR_wk {o : Id} {x : Ob} (h : obR m src o x) (hn : x ≠ .no) (hok : okR n x) : ∃ y, m.o o = some y ∧ WkO m F (srcI src) n y x := by
  cases x with
  | row sz k g =>
    simp only [obR] at h
    split at h
    · rename_i sz' k' g' ho
      obtain ⟨rfl, rfl, h3⟩ := h
      refine ⟨_, ho, rfl, rfl, fun i hi => ⟨by rw [h3 i hi, List.length_map], fun j p q hp hq => ?_⟩⟩
      rw [h3 i hi, List.getElem?_map, hq] at hp
      cases hp
      exact wx_D (hok i hi q (List.mem_of_getElem? hq))
    · exact h.elim
  | no => exact absurd rfl hn
  | box qs => exact obT_wk h hn hok
  | map f => exact obT_wk h hn hok
  | it es => exact obT_wk h hn hok
theorem WkM_goR {n0 : Nat} (obs : List Ob) (h0 : n0 ≤ obs.length) (hT : obsR m src src obs) (hok : ∀ x ∈ obs, okR obs.length x) (hF : ∀ o ∈ src, ¬ F o) (hfix : ∀ k, k < n0 → src[k]? = some [k]) (hnd : src.Nodup) : WkM n0 m F (srcI src) (ML obs) := by
  obtain ⟨hl, hT⟩ := obsR_spec hT
  refine ⟨fun o x' h => ?_, fun o o' x x' h h' e => ?_, fun o ho => ?_, h0⟩
  · obtain ⟨k, rfl, h2, h3⟩ := ML_get h
    have hk := (List.getElem?_eq_some_iff.1 h2).1
    have hs := srcI_eq (src := src) (k := k) (by omega)
    exact ⟨hk, hF _ (List.mem_of_getElem? hs), obR_wk (hT k _ x' hs h2) h3 (hok x' (List.mem_of_getElem? h2))⟩
  · obtain ⟨k, rfl, h2, _⟩ := ML_get h
    obtain ⟨k', rfl, h2', _⟩ := ML_get h'
    have hk := (List.getElem?_eq_some_iff.1 h2).1
    have hk' := (List.getElem?_eq_some_iff.1 h2').1
    have hs := srcI_eq (src := src) (k := k) (by omega)
    have hs' := srcI_eq (src := src) (k := k') (by omega)
    rw [e] at hs
    rw [(List.getElem?_inj (by omega) hnd).1 (hs.trans hs'.symm)]
  · match o, ho with
    | [k], ho =>
      have := hfix k ho
      simp [srcI, this]
    | k :: b :: q, ho =>
      have := hfix k ho
      simp [srcI, this]
theorem okR_nl {N sz k : Nat} {g : Nat → List PV} (h : ∀ i, Nl (g i)) : okR N (.row sz k g) := fun i _ => okD_nl (h i)
theorem okR_upd {N sz k i0 : Nat} {g : Nat → List PV} {cs : List PV} (h : ∀ i, Nl (g i)) (hc : ∀ p ∈ cs, okD N p) : okR N (.row sz k (upd g i0 cs)) := fun i _ => by
  unfold upd
  split
  · exact hc
  · exact okD_nl (h i)
theorem obR_nl {o : Id} {sz k : Nat} {g g' : Nat → List PV} (ho : m.o o = some (.row sz k g')) (h : ∀ i, Nl (g i)) (e : ∀ i, i < k → g' i = g i) : obR m src o (.row sz k g) := by
  unfold obR
  rw [ho]
  exact ⟨rfl, rfl, fun i hi => by rw [map_nl (h i)]; exact e i hi⟩
theorem obR_upd {o : Id} {sz k i0 : Nat} {g g' : Nat → List PV} {cs : List PV} (ho : m.o o = some (.row sz k g')) (h : ∀ i, Nl (g i)) (e : ∀ i, i < k → i ≠ i0 → g' i = g i) (ec : g' i0 = cs.map (reC src)) : obR m src o (.row sz k (upd g i0 cs)) := by
  unfold obR
  rw [ho]
  refine ⟨rfl, rfl, fun i hi => ?_⟩
  unfold upd
  by_cases q : i = i0
  · subst q; rw [if_pos rfl]; exact ec
  · rw [if_neg q, map_nl (h i)]; exact e i hi q
/-- A state told anew: rows may name objects. -/
theorem Told_goR {C : Cx} {s : AS} {n0 : Nat} (hn : C.m0.nx = n0) (src : List Id) {l : List (Nat × PV)} {obs : List Ob} (ht : ∀ kp ∈ l, s.t kp.1 = reP src kp.2 ∧ okP obs.length kp.2) (hT : obsR s.m src src obs) (hok : ∀ x ∈ obs, okR obs.length x)
    (h0 : n0 ≤ obs.length := by simp) (hfix : ∀ k, k < n0 → src[k]? = some [k] := by decide) (hnd : src.Nodup := by decide) : Told C s ⟨ofL l, ML obs⟩ := fun a w hf => by
  subst hn
  refine Weak.ok (F := fun _ => False) (ρ := srcI src) ⟨?_, WkM_goR obs h0 hT hok (fun _ _ h => h) hfix hnd⟩ hf
  refine ofL_of (fun p => .c _ _ (.und p)) (fun kp hkp => ?_)
  obtain ⟨h2, h3⟩ := ht _ hkp
  rw [h2]
  exact wk_P h3
end
end Go.Proofs.YtmmlpehfieojdaaW.AW
