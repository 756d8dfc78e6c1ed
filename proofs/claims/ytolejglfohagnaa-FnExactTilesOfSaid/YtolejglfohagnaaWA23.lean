/- Heads of loops and answers that hold objects; the empty row; pure calls. Plain lemmas: no statement of the program. -/
import Derived.Test.YtolejglfohagnaaWA22
namespace Go.Proofs.YtolejglfohagnaaW.AW
open Go Go.RowKit
set_option linter.unusedVariables false
set_option linter.unusedSimpArgs false

/-- What s tells of, s' tells of too. -/
def Told (C : Cx) (s s' : AS) : Prop := ∀ a w, C.FR s a w → C.FR s' a w
section
variable {C : Cx} {P : Program} {c : Code} {Q Q' : Exit → AS → Prop} {s s' s'' : AS}
theorem Told.refl : Told C s s := fun _ _ h => h
theorem Told.trans (h : Told C s s') (k : Told C s' s'') : Told C s s'' := fun a w hf => k a w (h a w hf)
theorem AW.told (h : Told C s s') (hw : AW C P c Q s') : AW C P c Q s := fun a w hf => hw a w (h a w hf)
theorem AL.told (h : Told C s s') (hw : AL C P c Q s') : AL C P c Q s := fun a w hf => hw a w (h a w hf)
/-- No slice: a row of no elements. -/
theorem Told.nil (k : Nat) (sz : Nat) (g : Nat → List PV) (hk : s.t k = .nils) : Told C s ⟨upd s.t k (.sl [s.m.nx] sz 0 0 0), s.m.grow none (.row sz 0 g)⟩ := fun a w hf => by
  obtain ⟨β, κ, S, hf⟩ := hf
  have hno : ¬ real (upd κ [s.m.nx] 0) [s.m.nx] (.row sz 0 g) := by simp [real, upd]
  obtain ⟨h1, h2⟩ := hf.mr.grow (w' := w) none (x := .row sz 0 g) (g := 0) (K := 0) rfl rfl rfl (Nat.le_refl _) (.inr (.inr hno)) (fun _ _ _ => rfl) (.inl ⟨by simp [upd], rfl⟩)
  refine ⟨_, _, S, hf.df, hf.sz, fun t => ?_, h2, hf.ex.trans h1⟩
  show OV _ _ _ _ _ _ (upd s.t k _ t)
  unfold upd
  by_cases e : t = k
  · subst e
    rw [if_pos rfl]
    have := hf.tv t
    rw [hk] at this
    rw [this.nils_inv]
    refine .sl _ _ _ _ _ _ _ (by simp [hb, Mem.grow]) (Nat.le_refl _) (Nat.le_refl _) (by simp) (by simp) (fun h => absurd h (by simp))
  · rw [if_neg e]; exact (hf.tv t).ext h1 hf.mr
/-- An answer, told as one likes. -/
def RetT (C : Cx) (P : Program) (rs : List ResultVar) (n0 : Nat) (r : PV) (m' : Mem) (e : Exit) (s : AS) : Prop := ∃ s', Told C s s' ∧ RetQ P rs n0 r m' e s'
theorem RetT.of {rs : List ResultVar} {n0 : Nat} {r : PV} {m' : Mem} {e : Exit} (h : RetQ P rs n0 r m' e s) : RetT C P rs n0 r m' e s := ⟨s, .refl, h⟩
end
theorem AC.of {P : Program} {f : FuncId} {fn : Func} {c : Code} {args : List PV} {m m' : Mem} {r : PV} {rs : List ResultVar} (hf : P.funcs[f]? = some fn) (hb : fn.body = some c) (hn : (fn.name == "runtime.NumGoroutine") = false) (hl : args.length ≤ fn.ntmps) (hr : fn.results = rs.toArray)
    (h : ∀ C : Cx, C.nt = fn.ntmps → C.m0 = m → vc C P c (RetT C P rs m.nx r m') (startA args m)) : AC P f args m r m' :=
  AC.of_body hf hb hn hl hr (fun C h1 h2 a w hfr => wp_mono (vc_ok _ _ _ (h C h1 h2) a w hfr) (fun e a' w' ⟨s, hs, s', ht, hq⟩ => ⟨s', ht _ _ hs, hq⟩))
/-- One's own memory, a list of objects. -/
def ML (l : List Ob) : Mem := ⟨fun o => match o with | [k] => l[k]? | _ => none, l.length⟩
theorem ML_nx {l : List Ob} : (ML l).nx = l.length := rfl
theorem ML_at {l : List Ob} {k : Nat} : (ML l).o [k] = l[k]? := rfl
/-- Objects that stand as they stood, of closed values. -/
def ObC : Ob → Ob → Prop
  | .box a, .box b => b = a ∧ ∀ p ∈ a, Clo p
  | .row sz n g, .row sz' n' g' => sz' = sz ∧ n' = n ∧ ∀ i, i < n → g' i = g i ∧ ∀ p ∈ g i, Clo p
  | _, _ => False
/-- A value in terms of the objects' places in a list. -/
inductive Own where
  | sl (j sz n off len : Nat)
  | bp (j c : Nat)
  | v (p : PV)
def Own.pv (f : Nat → Id) : Own → PV
  | .sl j sz n off len => .sl (f j) sz n off len
  | .bp j c => .bp (f j) c
  | .v p => p
def Own.ok (n : Nat) : Own → Prop
  | .sl j _ _ _ _ => j < n
  | .bp j _ => j < n
  | .v p => Clo p
def srcI (src : List Id) : Id → Id
  | [] => []
  | [k] => src.getD k [k]
  | k :: q => src.getD k [k] ++ q
theorem ObC.ok {m : Mem} {F : Id → Prop} {ρ : Id → Id} {nx : Nat} : ∀ {x x' : Ob}, ObC x x' → WkO m F ρ nx x x'
  | .box a, .box b, ⟨h1, h2⟩ => by subst h1; exact ⟨rfl, fun j p q hp hq => by rw [hp] at hq; cases hq; exact .c _ _ (h2 p (List.mem_of_getElem? hp) _ _)⟩
  | .row _ _ _, .row _ _ _, ⟨h1, h2, h3⟩ => ⟨h1, h2, fun i hi => ⟨by rw [(h3 i hi).1], fun j p q hp hq => by rw [(h3 i hi).1, hp] at hq; cases hq; exact .c _ _ ((h3 i hi).2 p (List.mem_of_getElem? hp) _ _)⟩⟩
theorem WkM_L {n0 : Nat} {m : Mem} (src : List Id) (obs : List Ob) (h0 : n0 ≤ obs.length) (hl : src.length = obs.length) (hfix : ∀ k, k < n0 → src[k]? = some [k]) (hnd : src.Nodup) (hob : ∀ (k : Nat) (o : Id) (x' : Ob), src[k]? = some o → obs[k]? = some x' → ∃ x, m.o o = some x ∧ ObC x x') :
    WkM n0 m (fun _ => False) (srcI src) (ML obs) := by
  have at_ : ∀ o x', (ML obs).o o = some x' → ∃ k, o = [k] ∧ obs[k]? = some x' ∧ src[k]? = some (srcI src o) := fun o x' h => by
    match o, h with
    | [k], h =>
      have h : obs[k]? = some x' := h
      have hk : k < src.length := by rw [hl]; exact (List.getElem?_eq_some_iff.1 h).1
      exact ⟨k, rfl, h, by simp [srcI, hk]⟩
  refine ⟨fun o x' h => ?_, fun o o' x x' h h' e => ?_, fun o ho => ?_, h0⟩
  · obtain ⟨k, rfl, h2, h3⟩ := at_ o x' h
    obtain ⟨x, h4, h5⟩ := hob k _ x' h3 h2
    exact ⟨(List.getElem?_eq_some_iff.1 h2).1, fun e => e, x, h4, h5.ok⟩
  · obtain ⟨k, rfl, h2, h3⟩ := at_ o x h
    obtain ⟨k', rfl, h2', h3'⟩ := at_ o' x' h'
    rw [e] at h3
    have hk := (List.getElem?_eq_some_iff.1 h3).1
    have := (List.getElem?_inj hk hnd).1 (h3.trans h3'.symm)
    rw [this]
  · match o, ho with
    | [k], ho =>
      have ho : k < n0 := ho
      have := hfix k ho
      simp [srcI, this]
    | k :: b :: q, ho =>
      have ho : k < n0 := ho
      have := hfix k ho
      simp [srcI, this]
section
variable {C : Cx} {P : Program} {c : Code} {Q : Exit → AS → Prop} {s : AS}
/-- A state told anew: slots by a list, objects by a list (src: where they stood). -/
theorem Told_L (l : List (Nat × Own)) (src : List Id) (obs : List Ob) (h0 : C.m0.nx ≤ obs.length) (hl : src.length = obs.length) (hfix : ∀ k, k < C.m0.nx → src[k]? = some [k]) (hnd : src.Nodup)
    (hob : ∀ (k : Nat) (o : Id) (x' : Ob), src[k]? = some o → obs[k]? = some x' → ∃ x, s.m.o o = some x ∧ ObC x x') (ht : ∀ kp ∈ l, s.t kp.1 = kp.2.pv (fun j => src.getD j [j]) ∧ kp.2.ok obs.length) :
    Told C s ⟨ofL (l.map (fun kp => (kp.1, kp.2.pv (fun j => [j])))), ML obs⟩ := fun a w hf => by
  refine Weak.ok (F := fun _ => False) (ρ := srcI src) ⟨?_, WkM_L src obs h0 hl hfix hnd hob⟩ hf
  refine ofL_of (fun p => .c _ _ (.und p)) (fun kp hkp => ?_)
  rw [List.mem_map] at hkp
  obtain ⟨⟨k, x⟩, h1, rfl⟩ := hkp
  obtain ⟨h2, h3⟩ := ht _ h1
  simp only at h2 h3 ⊢
  rw [h2]
  cases x with
  | sl j sz n off len => exact .sl [j] sz n off len h3
  | bp j q => exact .bp [j] q h3
  | v p => exact .c _ _ (h3 _ _)
/-- An answer with its objects. -/
theorem Ret_L {rs : List ResultVar} {n0 : Nat} {e : Exit} (r : Own) (src : List Id) (obs : List Ob) (he : e = .ret ∨ e = .normal) (hok : (ares P s rs).ok) (hv : (ares P s rs).v = r.pv (fun j => src.getD j [j])) (hr : r.ok obs.length) (h0 : n0 ≤ obs.length) (hl : src.length = obs.length) (hfix : ∀ k, k < n0 → src[k]? = some [k]) (hnd : src.Nodup)
    (hob : ∀ (k : Nat) (o : Id) (x' : Ob), src[k]? = some o → obs[k]? = some x' → ∃ x, s.m.o o = some x ∧ ObC x x') : RetT C P rs n0 (r.pv (fun j => [j])) (ML obs) e s := by
  refine .of ⟨he, hok, fun _ => False, srcI src, ?_, WkM_L src obs h0 hl hfix hnd hob⟩
  rw [hv]
  cases r with
  | sl j sz n off len => exact .sl [j] sz n off len hr
  | bp j q => exact .bp [j] q hr
  | v p => exact .c _ _ (hr _ _)
end
theorem Clo_ag_iff {ps : List PV} : Clo (.ag ps) ↔ ∀ p ∈ ps, Clo p := ⟨fun h p hp m F => by
  cases h m F with
  | ag _ _ _ hq => obtain ⟨j, hj⟩ := List.getElem?_of_mem hp; exact hq j p p hj hj, Clo_ag⟩
theorem Clo_tu_iff {ps : List PV} : Clo (.tu ps) ↔ ∀ p ∈ ps, Clo p := ⟨fun h p hp m F => by
  cases h m F with
  | tu _ _ _ hq => obtain ⟨j, hj⟩ := List.getElem?_of_mem hp; exact hq j p p hj hj, Clo_tu⟩
theorem Rn_same {τ : Id → Id} {m : Mem} {F : Id → Prop} (hF : ∀ o, ¬ F o) {p q : PV} (h : Wc m F p q) : q = p → Rn τ p p := by
  induction h with
  | und p => intro e; subst e; exact .same _ rfl
  | bool b => intro _; exact .same _ rfl
  | int k n => intro _; exact .same _ rfl
  | str s => intro _; exact .same _ rfl
  | nils => intro _; exact .same _ rfl
  | nilc _ _ => intro _; exact .same _ rfl
  | cl _ _ _ _ _ => intro _; exact .same _ rfl
  | close _ _ _ _ _ _ _ hf => exact absurd hf (hF _)
  | ag ps qs hl h ih => intro e; cases e; exact .ag _ _ rfl (fun j p q h1 h2 => by rw [h1] at h2; cases h2; exact ih j p p h1 h1 rfl)
  | tu ps qs hl h ih => intro e; cases e; exact .tu _ _ rfl (fun j p q h1 h2 => by rw [h1] at h2; cases h2; exact ih j p p h1 h1 rfl)
  | pc ps => intro _; exact .same _ rfl
theorem Rn_clo {τ : Id → Id} {p : PV} (h : Clo p) : Rn τ p p := Rn_same (m := E 0) (F := fun _ => False) (fun _ h => h) (h _ _) rfl
section
variable {P : Program} {m : Mem} {K : PV → Mem → Prop} {cs : List Bool} {g : FuncId} {args : List PV} {r : PV}
theorem AC.hb {m' : Mem} (h : (∀ o x, m.o o = some x → AW.hb o m.nx) → AC P g args m r m') (hg : ∃ fn, P.funcs[g]? = some fn ∧ fn.body.isNone = false ∧ (fn.name == "runtime.NumGoroutine") = false) : AC P g args m r m' :=
  ⟨hg, fun w vs S β κ hm => (h hm.nx).2 w vs S β κ hm⟩
/-- Closed values in and out, whatever the caller holds. -/
theorem AC.pure (h : AC P g args (E 0) r (E 0)) (ha : ∀ p ∈ args, Clo p) (hr : Clo r) : AC P g args m r m := by
  refine AC.hb (fun hhb => ?_) h.1
  refine AC.gen (fun _ => False) id id id h rfl (fun i p q h1 h2 => ?_) (WkM_E (Nat.le_refl 0)) (fun o ho => ?_) (fun o ho => ?_) (Nat.le_refl _) (Rn_clo hr) (.inl fun _ h => h) (fun o y ho => .inl ⟨hhb o y ho, ho, fun _ _ h => by simp [E] at h⟩)
  · rw [h1] at h2; cases h2; exact .c _ _ (ha p (List.mem_of_getElem? h1) _ _)
  · cases o <;> simp [AW.hb, E] at ho
  · cases o <;> simp [AW.hb, E] at ho
theorem acall_p (h : AC P g args (E 0) r (E 0)) (ha : ∀ p ∈ args, Clo p) (hr : Clo r) (hk : K (gdv cs r) m) : acall P cs g args m K :=
  ⟨r, m, fun _ => h.pure ha hr, .inr rfl, hk⟩
/-- What one holds is lent to be read. -/
theorem acall_f (args1 : List PV) (F : Id → Prop) (h : AC P g args1 (E 0) r (E 0)) (hl : args1.length = args.length) (ha : ∀ (i : Nat) (p q : PV), args[i]? = some p → args1[i]? = some q → Wc m F p q) (hr : Clo r) (hn : NR r) (hk : K (gdv cs r) m) : acall P cs g args m K := by
  refine ⟨r, m, fun _ => AC.hb (fun hhb => ?_) h.1, .inr rfl, hk⟩
  refine AC.gen F id id id h hl (fun i p q h1 h2 => .c _ _ (ha i p q h1 h2)) ⟨fun o x h => by simp [E] at h, fun o o' x x' h => by simp [E] at h, fun _ _ => rfl, Nat.le_refl _⟩ (fun o ho => ?_) (fun o ho => ?_) (Nat.le_refl _) (Rn_clo hr) (.inr ⟨hn, fun o y h => by simp [E] at h⟩) (fun o y ho => .inl ⟨hhb o y ho, ho, fun _ _ h => by simp [E] at h⟩)
  · cases o <;> simp [AW.hb, E] at ho
  · cases o <;> simp [AW.hb, E] at ho
end
end Go.Proofs.YtolejglfohagnaaW.AW
