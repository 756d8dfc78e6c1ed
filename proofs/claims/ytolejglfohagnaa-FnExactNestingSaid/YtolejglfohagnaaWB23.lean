/- States told by lists of slots and of objects; answers; loops; calls. Plain lemmas: no statement of the program. -/
import Derived.Test.YtolejglfohagnaaWB22
namespace Go.Proofs.YtolejglfohagnaaW.AW
open Go Go.RowKit
set_option linter.unusedVariables false
set_option linter.unusedSimpArgs false

/-- What s tells of, s' tells of too. -/
def Told (C : Cx) (s s' : AS) : Prop := ∀ a w, C.FR s a w → C.FR s' a w
section
variable {C : Cx} {P : Program} {c : Code} {Q Q' : Exit → AS → Prop} {s s' s'' : AS}
theorem Told.refl : Told C s s := fun _ _ h => h
theorem Told.trans (h : Told C s s') (k : Told C s' s'') : Told C s s'' := fun a w hf => k a w (h a w hf)
theorem AW.told (h : Told C s s') (hw : AW C P c Q s') : AW C P c Q s := fun a w hf => hw a w (h a w hf)
theorem AL.told (h : Told C s s') (hw : AL C P c Q s') : AL C P c Q s := fun a w hf => hw a w (h a w hf)
theorem AW_seq {a b : Code} (h : AW C P a (thenA (AW C P b Q) Q) s) : AW C P (.seq a b) Q s := fun x w hf => by
  refine wp_seq (wp_mono (h x w hf) (fun e a' w' hq => ?_))
  obtain ⟨s', h1, h2⟩ := hq
  cases e with
  | normal => exact h2 a' w' h1
  | _ => exact ⟨s', h1, h2⟩
/-- Code up to a point, told on from there. -/
theorem AW_cut {a b : Code} (h : vc C P a (thenA (AW C P b Q) Q) s) : AW C P (.seq a b) Q s := AW_seq (vc_ok _ _ _ h)
/-- An answer, told as one likes. -/
def RetT (C : Cx) (P : Program) (rs : List ResultVar) (n0 : Nat) (r : PV) (m' : Mem) (e : Exit) (s : AS) : Prop := ∃ s', Told C s s' ∧ RetQ P rs n0 r m' e s'
theorem RetT.of {rs : List ResultVar} {n0 : Nat} {r : PV} {m' : Mem} {e : Exit} (h : RetQ P rs n0 r m' e s) : RetT C P rs n0 r m' e s := ⟨s, .refl, h⟩
theorem RetT.told {rs : List ResultVar} {n0 : Nat} {r : PV} {m' : Mem} {e : Exit} (h : Told C s s') (k : RetT C P rs n0 r m' e s') : RetT C P rs n0 r m' e s := by
  obtain ⟨s2, h1, h2⟩ := k; exact ⟨s2, h.trans h1, h2⟩
end
/-- THE CONTRACT OUT OF THE BODY. -/
theorem AC.ofA {P : Program} {f : FuncId} {fn : Func} {c : Code} {args : List PV} {m m' : Mem} {r : PV} {rs : List ResultVar} (hf : P.funcs[f]? = some fn) (hb : fn.body = some c) (hn : (fn.name == "runtime.NumGoroutine") = false) (hl : args.length ≤ fn.ntmps) (hr : fn.results = rs.toArray)
    (h : ∀ C : Cx, C.nt = fn.ntmps → C.m0 = m → AW C P c (RetT C P rs m.nx r m') (startA args m)) : AC P f args m r m' :=
  AC.of_body hf hb hn hl hr (fun C h1 h2 a w hfr => wp_mono (h C h1 h2 a w hfr) (fun e a' w' ⟨s, hs, s', ht, hq⟩ => ⟨s', ht _ _ hs, hq⟩))
theorem AC.of {P : Program} {f : FuncId} {fn : Func} {c : Code} {args : List PV} {m m' : Mem} {r : PV} {rs : List ResultVar} (hf : P.funcs[f]? = some fn) (hb : fn.body = some c) (hn : (fn.name == "runtime.NumGoroutine") = false) (hl : args.length ≤ fn.ntmps) (hr : fn.results = rs.toArray)
    (h : ∀ C : Cx, C.nt = fn.ntmps → C.m0 = m → vc C P c (RetT C P rs m.nx r m') (startA args m)) : AC P f args m r m' :=
  AC.ofA hf hb hn hl hr (fun C h1 h2 => vc_ok _ _ _ (h C h1 h2))
/-- Rounds, by a measure: slots and objects at the head by lists. -/
theorem AL.go {C : Cx} {P : Program} {c : Code} {Q : Exit → AS → Prop} {s : AS} {X : Type} (st : X → AS) (μ : X → Nat) (I : X → Prop) (x0 : X) (h0 : I x0) (ht : Told C s (st x0))
    (h : ∀ x, I x → AW C P c (thenA (fun s' => ∃ y, I y ∧ μ y < μ x ∧ Told C s' (st y)) Q) (st x)) : AL C P c Q s := by
  have key : ∀ n x, μ x = n → I x → AL C P c Q (st x) := by
    intro n
    induction n using Nat.strongRecOn with
    | _ n ih =>
      intro x hn hx
      refine AL_round (AW.mono (h x hx) (fun e s' hq => ?_))
      cases e with
      | normal =>
        obtain ⟨y, h1, h2, h3⟩ := hq
        exact AL.told h3 (ih (μ y) (hn ▸ h2) y rfl h1)
      | _ => exact hq
  exact AL.told ht (key _ x0 rfl h0)

/-- A cell without names of objects. -/
def PV.nl : PV → Bool
  | .und | .bool _ | .int _ _ | .str _ | .nils | .cl _ _ _ | .pc _ | .ow _ _ _ => true
  | _ => false
def Nl (cs : List PV) : Prop := ∀ p ∈ cs, p.nl = true
def okI (n : Nat) : Id → Prop
  | [k] => k < n
  | _ => False
/-- A cell's names are among the first n. -/
def okC (n : Nat) : PV → Prop
  | .sl o _ _ _ _ => okI n o
  | .bp o _ => okI n o
  | .pt o _ _ _ _ => okI n o
  | .mp o => okI n o
  | .ag _ | .tu _ | .fn _ _ | .gd _ _ | .ow _ _ _ => False
  | _ => True
def okD (n : Nat) : PV → Prop
  | .ow _ _ _ => True
  | p => okC n p
def okA (n : Nat) : PV → Prop
  | .ag cs => ∀ p ∈ cs, okC n p
  | .fn _ cs => ∀ p ∈ cs, okC n p
  | p => okC n p
def okP (n : Nat) : PV → Prop
  | .tu vs => ∀ p ∈ vs, okA n p
  | p => okA n p
def srcI (src : List Id) : Id → Id
  | [] => []
  | [k] => src.getD k [k]
  | k :: q => src.getD k [k] ++ q
/-- Names told by a list. -/
def reC (src : List Id) : PV → PV
  | .sl o sz n off len => .sl (srcI src o) sz n off len
  | .bp o j => .bp (srcI src o) j
  | .pt o sz n i j => .pt (srcI src o) sz n i j
  | .mp o => .mp (srcI src o)
  | p => p
def reA (src : List Id) : PV → PV
  | .ag cs => .ag (cs.map (reC src))
  | .fn f cs => .fn f (cs.map (reC src))
  | p => reC src p
def reP (src : List Id) : PV → PV
  | .tu vs => .tu (vs.map (reA src))
  | p => reA src p
/-- One's own memory, a list of objects (no: none at this place). -/
def ML (l : List Ob) : Mem := ⟨fun o => match o with | [k] => (match l[k]? with | some .no => none | x => x) | _ => none, l.length⟩
theorem ML_nx {l : List Ob} : (ML l).nx = l.length := rfl
theorem ML_at {l : List Ob} {k : Nat} : (ML l).o [k] = match l[k]? with | some .no => none | x => x := rfl
theorem ML_get {l : List Ob} {o : Id} {y : Ob} (h : (ML l).o o = some y) : ∃ k, o = [k] ∧ l[k]? = some y ∧ y ≠ .no := by
  match o, h with
  | [k], h =>
    simp only [ML_at] at h
    split at h
    · cases h
    · rename_i hne; exact ⟨k, rfl, h, fun e => by subst e; exact hne h⟩
def okO (n : Nat) : Ob → Prop
  | .no => True
  | .row _ k g => ∀ i, i < k → Nl (g i)
  | .box qs => ∀ q ∈ qs, okD n q
  | .map _ => True
  | .it _ => True
/-- At name o there stands x (names of x by src). -/
def obT (m : Mem) (src : List Id) (o : Id) : Ob → Prop
  | .no => True
  | .row sz n g => match m.o o with | some (.row sz' n' g') => sz' = sz ∧ n' = n ∧ ∀ i, i < n → g' i = g i ∧ Nl (g i) | _ => False
  | .box qs => match m.o o with | some (.box ps) => ps = qs.map (reC src) | _ => False
  | .map f => match m.o o with | some (.map f') => f' = f | _ => False
  | .it es => match m.o o with | some (.it es') => es' = es | _ => False
def obsT (m : Mem) (src : List Id) : List Id → List Ob → Prop
  | o :: os, x :: xs => obT m src o x ∧ obsT m src os xs
  | [], [] => True
  | _, _ => False
theorem obsT_spec {m : Mem} {s0 : List Id} : ∀ {src : List Id} {obs : List Ob}, obsT m s0 src obs → src.length = obs.length ∧ ∀ (k : Nat) (o : Id) (x' : Ob), src[k]? = some o → obs[k]? = some x' → obT m s0 o x'
  | [], [], _ => ⟨rfl, fun k o x' h => by simp at h⟩
  | o :: os, x :: xs, ⟨h1, h2⟩ => by
    obtain ⟨h3, h4⟩ := obsT_spec h2
    refine ⟨by simp [h3], fun k o' x' a b => ?_⟩
    cases k with
    | zero => simp at a b; subst a; subst b; exact h1
    | succ k => exact h4 k o' x' (by simpa using a) (by simpa using b)
section
variable {m : Mem} {F : Id → Prop} {n : Nat} {src : List Id}
theorem wk_C {q : PV} (h : okC n q) : Wk m F (srcI src) n (reC src q) q := by
  have key : ∀ o, okI n o → hb o n := fun o ho => by
    match o, ho with
    | [k], ho => exact ho
  cases q with
  | sl o sz k off len => exact .sl o sz k off len (key o h)
  | bp o j => exact .bp o j (key o h)
  | pt o sz k i j => exact .pt o sz k i j (key o h)
  | mp o => exact .mp o (key o h)
  | und => exact .c _ _ (.und _)
  | bool b => exact .c _ _ (.bool b)
  | int k x => exact .c _ _ (.int k x)
  | str x => exact .c _ _ (.str x)
  | nils => exact .c _ _ .nils
  | cl sz k g => exact .c _ _ (.cl sz k g g (fun _ _ => rfl))
  | pc ps => exact .c _ _ (.pc ps)
  | ag _ => exact h.elim
  | tu _ => exact h.elim
  | fn _ _ => exact h.elim
  | gd _ _ => exact h.elim
  | ow _ _ _ => exact h.elim
theorem wk_map {f : PV → PV} {cs : List PV} (h : ∀ p ∈ cs, Wk m F (srcI src) n (f p) p) : cs.length = (cs.map f).length ∧ ∀ (j : Nat) (p q : PV), (cs.map f)[j]? = some p → cs[j]? = some q → Wk m F (srcI src) n p q :=
  ⟨by simp, fun j p q hp hq => by rw [List.getElem?_map, hq] at hp; cases hp; exact h q (List.mem_of_getElem? hq)⟩
theorem notA (src : List Id) (n : Nat) (q : PV) : (∃ cs, q = .ag cs) ∨ (∃ f cs, q = .fn f cs) ∨ (reA src q = reC src q ∧ okA n q = okC n q) := by
  cases q with
  | ag cs => exact .inl ⟨cs, rfl⟩
  | fn f cs => exact .inr (.inl ⟨f, cs, rfl⟩)
  | _ => exact .inr (.inr ⟨rfl, rfl⟩)
theorem notP (src : List Id) (n : Nat) (q : PV) : (∃ cs, q = .tu cs) ∨ (reP src q = reA src q ∧ okP n q = okA n q) := by
  cases q with
  | tu cs => exact .inl ⟨cs, rfl⟩
  | _ => exact .inr ⟨rfl, rfl⟩
theorem wk_A {q : PV} (h : okA n q) : Wk m F (srcI src) n (reA src q) q := by
  rcases notA src n q with ⟨cs, rfl⟩ | ⟨f, cs, rfl⟩ | ⟨h1, h2⟩
  · obtain ⟨a, b⟩ := wk_map (fun p hp => wk_C (m := m) (F := F) (src := src) (h p hp)); exact .ag _ _ a b
  · obtain ⟨a, b⟩ := wk_map (fun p hp => wk_C (m := m) (F := F) (src := src) (h p hp)); exact .fn f _ _ a b
  · rw [h1]; rw [h2] at h; exact wk_C h
theorem wk_P {q : PV} (h : okP n q) : Wk m F (srcI src) n (reP src q) q := by
  rcases notP src n q with ⟨cs, rfl⟩ | ⟨h1, h2⟩
  · obtain ⟨a, b⟩ := wk_map (fun p hp => wk_A (m := m) (F := F) (src := src) (h p hp)); exact .tu _ _ a b
  · rw [h1]; rw [h2] at h; exact wk_A h
theorem wx_nl {p : PV} (h : p.nl = true) : Wx m F (srcI src) n p p := by
  cases p with
  | ow sz k g => exact .ow sz k g g (fun _ _ => rfl)
  | und => exact .k _ _ rfl (.c _ _ (.und _))
  | bool b => exact .k _ _ rfl (.c _ _ (.bool b))
  | int k x => exact .k _ _ rfl (.c _ _ (.int k x))
  | str x => exact .k _ _ rfl (.c _ _ (.str x))
  | nils => exact .k _ _ rfl (.c _ _ .nils)
  | cl sz k g => exact .k _ _ rfl (.c _ _ (.cl sz k g g (fun _ _ => rfl)))
  | pc ps => exact .k _ _ rfl (.c _ _ (.pc ps))
  | _ => cases h
theorem wx_D {q : PV} (h : okD n q) : Wx m F (srcI src) n (reC src q) q := by
  cases q with
  | ow sz k g => exact .ow sz k g g (fun _ _ => rfl)
  | ag _ => exact h.elim
  | tu _ => exact h.elim
  | fn _ _ => exact h.elim
  | gd _ _ => exact h.elim
  | sl o sz k off len => exact .k _ _ rfl (wk_C (q := .sl o sz k off len) h)
  | bp o j => exact .k _ _ rfl (wk_C (q := .bp o j) h)
  | pt o sz k i j => exact .k _ _ rfl (wk_C (q := .pt o sz k i j) h)
  | mp o => exact .k _ _ rfl (wk_C (q := .mp o) h)
  | und => exact wx_nl rfl
  | bool b => exact wx_nl rfl
  | int k x => exact wx_nl rfl
  | str x => exact wx_nl rfl
  | nils => exact wx_nl rfl
  | cl sz k g => exact wx_nl rfl
  | pc ps => exact wx_nl rfl
theorem obT_wk {o : Id} {x : Ob} (h : obT m src o x) (hn : x ≠ .no) (hok : okO n x) : ∃ y, m.o o = some y ∧ WkO m F (srcI src) n y x := by
  cases x with
  | no => exact absurd rfl hn
  | row sz k g =>
    simp only [obT] at h
    split at h
    · rename_i sz' k' g' ho
      obtain ⟨rfl, rfl, h3⟩ := h
      refine ⟨_, ho, rfl, rfl, fun i hi => ⟨by rw [(h3 i hi).1], fun j p q hp hq => ?_⟩⟩
      rw [(h3 i hi).1, hq] at hp; cases hp
      exact wx_nl ((h3 i hi).2 _ (List.mem_of_getElem? hq))
    · exact h.elim
  | box qs =>
    simp only [obT] at h
    split at h
    · rename_i ps ho
      subst h
      refine ⟨_, ho, by simp, fun j p q hp hq => ?_⟩
      rw [List.getElem?_map, hq, Option.map_some, Option.some.injEq] at hp
      rw [← hp]
      exact wx_D (hok q (List.mem_of_getElem? hq))
    · exact h.elim
  | map f =>
    simp only [obT] at h
    split at h
    · rename_i f' ho; exact ⟨_, ho, h.symm⟩
    · exact h.elim
  | it es =>
    simp only [obT] at h
    split at h
    · rename_i f' ho; exact ⟨_, ho, h.symm⟩
    · exact h.elim
theorem srcI_eq {src : List Id} {k : Nat} (h : k < src.length) : src[k]? = some (srcI src [k]) := by simp [srcI, h]
theorem WkM_go {n0 : Nat} (obs : List Ob) (h0 : n0 ≤ obs.length) (hT : obsT m src src obs) (hok : ∀ x ∈ obs, okO obs.length x) (hF : ∀ o ∈ src, ¬ F o) (hfix : ∀ k, k < n0 → src[k]? = some [k]) (hnd : src.Nodup) : WkM n0 m F (srcI src) (ML obs) := by
  obtain ⟨hl, hT⟩ := obsT_spec hT
  refine ⟨fun o x' h => ?_, fun o o' x x' h h' e => ?_, fun o ho => ?_, h0⟩
  · obtain ⟨k, rfl, h2, h3⟩ := ML_get h
    have hk := (List.getElem?_eq_some_iff.1 h2).1
    have hs := srcI_eq (src := src) (k := k) (by omega)
    exact ⟨hk, hF _ (List.mem_of_getElem? hs), obT_wk (hT k _ x' hs h2) h3 (hok x' (List.mem_of_getElem? h2))⟩
  · obtain ⟨k, rfl, h2, _⟩ := ML_get h
    obtain ⟨k', rfl, h2', _⟩ := ML_get h'
    have hk := (List.getElem?_eq_some_iff.1 h2).1
    have hk' := (List.getElem?_eq_some_iff.1 h2').1
    have hs := srcI_eq (src := src) (k := k) (by omega)
    have hs' := srcI_eq (src := src) (k := k') (by omega)
    rw [e] at hs
    rw [(List.getElem?_inj (by omega) hnd).1 (hs.trans hs'.symm)]
  · match o, ho with
    | [k], ho =>
      have := hfix k ho
      simp [srcI, this]
    | k :: b :: q, ho =>
      have := hfix k ho
      simp [srcI, this]
end
section
variable {C : Cx} {P : Program} {c : Code} {Q : Exit → AS → Prop} {s : AS}
/-- A state told anew: slots by a list, objects by a list (src: where they stood). -/
theorem Told_go {n0 : Nat} (hn : C.m0.nx = n0) (src : List Id) {l : List (Nat × PV)} {obs : List Ob} (ht : ∀ kp ∈ l, s.t kp.1 = reP src kp.2 ∧ okP obs.length kp.2) (hT : obsT s.m src src obs) (hok : ∀ x ∈ obs, okO obs.length x)
    (h0 : n0 ≤ obs.length := by simp) (hfix : ∀ k, k < n0 → src[k]? = some [k] := by decide) (hnd : src.Nodup := by decide) : Told C s ⟨ofL l, ML obs⟩ := fun a w hf => by
  subst hn
  refine Weak.ok (F := fun _ => False) (ρ := srcI src) ⟨?_, WkM_go obs h0 hT hok (fun _ _ h => h) hfix hnd⟩ hf
  refine ofL_of (fun p => .c _ _ (.und p)) (fun kp hkp => ?_)
  obtain ⟨h2, h3⟩ := ht _ hkp
  rw [h2]
  exact wk_P h3
/-- An answer with its objects. -/
theorem Ret_go {rs : List ResultVar} {n0 : Nat} {e : Exit} (src : List Id) {r : PV} {obs : List Ob} (hv : (ares P s rs).ok ∧ (ares P s rs).v = reP src r ∧ okP obs.length r) (hT : obsT s.m src src obs) (hok : ∀ x ∈ obs, okO obs.length x)
    (h0 : n0 ≤ obs.length := by simp) (hfix : ∀ k, k < n0 → src[k]? = some [k] := by decide) (hnd : src.Nodup := by decide) (he : e = .ret ∨ e = .normal := by first | exact .inl rfl | exact .inr rfl) : RetT C P rs n0 r (ML obs) e s := by
  refine .of ⟨he, hv.1, fun _ => False, srcI src, ?_, WkM_go obs h0 hT hok (fun _ _ h => h) hfix hnd⟩
  rw [hv.2.1]
  exact wk_P hv.2.2
/-- An answer that closes all that the function made: nothing of it is written again. -/
theorem Ret_cl {rs : List ResultVar} {e : Exit} {r : PV} (hok : (ares P s rs).ok) (h : ∀ F : Id → Prop, (∀ o, F o) → Wc s.m F (ares P s rs).v r) (he : e = .ret ∨ e = .normal := by first | exact .inl rfl | exact .inr rfl) : RetT C P rs 0 r (ML []) e s :=
  .of ⟨he, hok, fun _ => True, id, .c _ _ (h _ (fun _ => trivial)), ⟨fun o x h => by obtain ⟨k, _, h2, _⟩ := ML_get h; simp at h2, fun o o' x x' h => by obtain ⟨k, _, h2, _⟩ := ML_get h; simp at h2, fun _ _ => rfl, Nat.zero_le _⟩⟩
end
end Go.Proofs.YtolejglfohagnaaW.AW
