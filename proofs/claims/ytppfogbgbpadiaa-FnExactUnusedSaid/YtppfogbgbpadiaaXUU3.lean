/- What the proof of FnExactUnused stands on, part 3: plain lemmas and contracts. -/
import Derived.Deep.Slices
import Derived.DataElems
import Derived.ChangeArms
import Derived.WideShapes
import Derived.ChangeShapes
import Derived.Test.YtppfogbgbpadiaaXUU2
namespace Go.Proofs.YtppfogbgbpadiaaW.AW
open Go Go.RowKit
set_option linter.unusedVariables false
set_option linter.unusedSimpArgs false
/-- What s tells of, s' tells of too. -/
def Told (C : Cx) (s s' : AS) : Prop := ∀ a w, C.FR s a w → C.FR s' a w
section
variable {C : Cx} {P : Program} {c : Code} {Q Q' : Exit → AS → Prop} {s s' s'' : AS}
theorem Told.refl : Told C s s := fun _ _ h => h
theorem Told.trans (h : Told C s s') (k : Told C s' s'') : Told C s s'' := fun a w hf => k a w (h a w hf)
theorem AW.told (h : Told C s s') (hw : AW C P c Q s') : AW C P c Q s := fun a w hf => hw a w (h a w hf)
theorem AL.told (h : Told C s s') (hw : AL C P c Q s') : AL C P c Q s := fun a w hf => hw a w (h a w hf)
/-- An answer, told as one likes. -/
def RetT (C : Cx) (P : Program) (rs : List ResultVar) (n0 : Nat) (r : PV) (m' : Mem) (e : Exit) (s : AS) : Prop := ∃ s', Told C s s' ∧ RetQ P rs n0 r m' e s'
theorem RetT.of {rs : List ResultVar} {n0 : Nat} {r : PV} {m' : Mem} {e : Exit} (h : RetQ P rs n0 r m' e s) : RetT C P rs n0 r m' e s := ⟨s, .refl, h⟩
theorem RetT.told {rs : List ResultVar} {n0 : Nat} {r : PV} {m' : Mem} {e : Exit} (h : Told C s s') (k : RetT C P rs n0 r m' e s') : RetT C P rs n0 r m' e s := by
  obtain ⟨s2, h1, h2⟩ := k; exact ⟨s2, h.trans h1, h2⟩
end
/-- THE CONTRACT OUT OF THE BODY. -/
theorem AC.ofA {P : Program} {f : FuncId} {fn : Func} {c : Code} {args : List PV} {m m' : Mem} {r : PV} {rs : List ResultVar} (hf : P.funcs[f]? = some fn) (hb : fn.body = some c) (hn : (fn.name == "runtime.NumGoroutine") = false) (hl : args.length ≤ fn.ntmps) (hr : fn.results = rs.toArray)
    (h : ∀ C : Cx, C.nt = fn.ntmps → C.m0 = m → AW C P c (RetT C P rs m.nx r m') (startA args m)) : AC P f args m r m' :=
  AC.of_body hf hb hn hl hr (fun C h1 h2 a w hfr => wp_mono (h C h1 h2 a w hfr) (fun e a' w' ⟨s, hs, s', ht, hq⟩ => ⟨s', ht _ _ hs, hq⟩))
theorem AC.of {P : Program} {f : FuncId} {fn : Func} {c : Code} {args : List PV} {m m' : Mem} {r : PV} {rs : List ResultVar} (hf : P.funcs[f]? = some fn) (hb : fn.body = some c) (hn : (fn.name == "runtime.NumGoroutine") = false) (hl : args.length ≤ fn.ntmps) (hr : fn.results = rs.toArray)
    (h : ∀ C : Cx, C.nt = fn.ntmps → C.m0 = m → vc C P c (RetT C P rs m.nx r m') (startA args m)) : AC P f args m r m' :=
  AC.ofA hf hb hn hl hr (fun C h1 h2 => vc_ok _ _ _ (h C h1 h2))
/-- Rounds, by a measure: slots and objects at the head by lists. -/
theorem AL.go {C : Cx} {P : Program} {c : Code} {Q : Exit → AS → Prop} {s : AS} {X : Type} (st : X → AS) (μ : X → Nat) (I : X → Prop) (x0 : X) (h0 : I x0) (ht : Told C s (st x0))
    (h : ∀ x, I x → AW C P c (thenA (fun s' => ∃ y, I y ∧ μ y < μ x ∧ Told C s' (st y)) Q) (st x)) : AL C P c Q s := by
  have key : ∀ n x, μ x = n → I x → AL C P c Q (st x) := by
    intro n
    induction n using Nat.strongRecOn with
    | _ n ih =>
      intro x hn hx
      refine AL_round (AW.mono (h x hx) (fun e s' hq => ?_))
      cases e with
      | normal =>
        obtain ⟨y, h1, h2, h3⟩ := hq
        exact AL.told h3 (ih (μ y) (hn ▸ h2) y rfl h1)
      | _ => exact hq
  exact AL.told ht (key _ x0 rfl h0)
/-- A cell without names of objects. -/
def PV.nl : PV → Bool
  | .und | .bool _ | .int _ _ | .str _ | .nils | .cl _ _ _ | .pc _ | .ow _ _ _ => true
  | _ => false
def Nl (cs : List PV) : Prop := ∀ p ∈ cs, p.nl = true
def okI (n : Nat) : Id → Prop
  | [k] => k < n
  | _ => False
/-- A cell's names are among the first n. -/
def okC (n : Nat) : PV → Prop
  | .sl o _ _ _ _ => okI n o
  | .bp o _ => okI n o
  | .pt o _ _ _ _ => okI n o
  | .mp o => okI n o
  | .ag _ | .tu _ | .fn _ _ | .ifs _ _ | .gd _ _ | .ow _ _ _ => False
  | _ => True
def okD (n : Nat) : PV → Prop
  | .ow _ _ _ => True
  | p => okC n p
def okA (n : Nat) : PV → Prop
  | .ag cs => ∀ p ∈ cs, okC n p
  | .fn _ cs => ∀ p ∈ cs, okC n p
  | p => okC n p
def okP (n : Nat) : PV → Prop
  | .tu vs => ∀ p ∈ vs, okA n p
  | p => okA n p
def srcI (src : List Id) : Id → Id
  | [] => []
  | [k] => src.getD k [k]
  | k :: q => src.getD k [k] ++ q
/-- Names told by a list. -/
def reC (src : List Id) : PV → PV
  | .sl o sz n off len => .sl (srcI src o) sz n off len
  | .bp o j => .bp (srcI src o) j
  | .pt o sz n i j => .pt (srcI src o) sz n i j
  | .mp o => .mp (srcI src o)
  | p => p
def reA (src : List Id) : PV → PV
  | .ag cs => .ag (cs.map (reC src))
  | .fn f cs => .fn f (cs.map (reC src))
  | p => reC src p
def reP (src : List Id) : PV → PV
  | .tu vs => .tu (vs.map (reA src))
  | p => reA src p
/-- One's own memory, a list of objects (no: none at this place). -/
def ML (l : List Ob) : Mem := ⟨fun o => match o with | [k] => (match l[k]? with | some .no => none | x => x) | _ => none, l.length⟩
theorem ML_nx {l : List Ob} : (ML l).nx = l.length := rfl
theorem ML_at {l : List Ob} {k : Nat} : (ML l).o [k] = match l[k]? with | some .no => none | x => x := rfl
theorem ML_get {l : List Ob} {o : Id} {y : Ob} (h : (ML l).o o = some y) : ∃ k, o = [k] ∧ l[k]? = some y ∧ y ≠ .no := by
  match o, h with
  | [k], h =>
    simp only [ML_at] at h
    split at h
    · cases h
    · rename_i hne; exact ⟨k, rfl, h, fun e => by subst e; exact hne h⟩
def okO (n : Nat) : Ob → Prop
  | .no => True
  | .row _ k g => ∀ i, i < k → Nl (g i)
  | .box qs => ∀ q ∈ qs, okD n q
  | .map _ => True
  | .it _ => True
/-- At name o there stands x (names of x by src). -/
def obT (m : Mem) (src : List Id) (o : Id) : Ob → Prop
  | .no => True
  | .row sz n g => match m.o o with | some (.row sz' n' g') => sz' = sz ∧ n' = n ∧ ∀ i, i < n → g' i = g i ∧ Nl (g i) | _ => False
  | .box qs => match m.o o with | some (.box ps) => ps = qs.map (reC src) | _ => False
  | .map f => match m.o o with | some (.map f') => f' = f | _ => False
  | .it es => match m.o o with | some (.it es') => es' = es | _ => False
def obsT (m : Mem) (src : List Id) : List Id → List Ob → Prop
  | o :: os, x :: xs => obT m src o x ∧ obsT m src os xs
  | [], [] => True
  | _, _ => False
theorem obsT_spec {m : Mem} {s0 : List Id} : ∀ {src : List Id} {obs : List Ob}, obsT m s0 src obs → src.length = obs.length ∧ ∀ (k : Nat) (o : Id) (x' : Ob), src[k]? = some o → obs[k]? = some x' → obT m s0 o x'
  | [], [], _ => ⟨rfl, fun k o x' h => by simp at h⟩
  | o :: os, x :: xs, ⟨h1, h2⟩ => by
    obtain ⟨h3, h4⟩ := obsT_spec h2
    refine ⟨by simp [h3], fun k o' x' a b => ?_⟩
    cases k with
    | zero => simp at a b; subst a; subst b; exact h1
    | succ k => exact h4 k o' x' (by simpa using a) (by simpa using b)
section
variable {m : Mem} {F : Id → Prop} {n : Nat} {src : List Id}
theorem wk_C {q : PV} (h : okC n q) : Wk m F (srcI src) n (reC src q) q := by
  have key : ∀ o, okI n o → hb o n := fun o ho => by
    match o, ho with
    | [k], ho => exact ho
  cases q with
  | sl o sz k off len => exact .sl o sz k off len (key o h)
  | bp o j => exact .bp o j (key o h)
  | pt o sz k i j => exact .pt o sz k i j (key o h)
  | mp o => exact .mp o (key o h)
  | und => exact .c _ _ (.und _)
  | bool b => exact .c _ _ (.bool b)
  | int k x => exact .c _ _ (.int k x)
  | str x => exact .c _ _ (.str x)
  | nils => exact .c _ _ .nils
  | cl sz k g => exact .c _ _ (.cl sz k g g (fun _ _ => rfl))
  | pc ps => exact .c _ _ (.pc ps)
  | ag _ => exact h.elim
  | tu _ => exact h.elim
  | fn _ _ => exact h.elim
  | ifs _ _ => exact h.elim
  | gd _ _ => exact h.elim
  | ow _ _ _ => exact h.elim
theorem wk_map {f : PV → PV} {cs : List PV} (h : ∀ p ∈ cs, Wk m F (srcI src) n (f p) p) : cs.length = (cs.map f).length ∧ ∀ (j : Nat) (p q : PV), (cs.map f)[j]? = some p → cs[j]? = some q → Wk m F (srcI src) n p q :=
  ⟨by simp, fun j p q hp hq => by rw [List.getElem?_map, hq] at hp; cases hp; exact h q (List.mem_of_getElem? hq)⟩
theorem notA (src : List Id) (n : Nat) (q : PV) : (∃ cs, q = .ag cs) ∨ (∃ f cs, q = .fn f cs) ∨ (reA src q = reC src q ∧ okA n q = okC n q) := by
  cases q with
  | ag cs => exact .inl ⟨cs, rfl⟩
  | fn f cs => exact .inr (.inl ⟨f, cs, rfl⟩)
  | _ => exact .inr (.inr ⟨rfl, rfl⟩)
theorem notP (src : List Id) (n : Nat) (q : PV) : (∃ cs, q = .tu cs) ∨ (reP src q = reA src q ∧ okP n q = okA n q) := by
  cases q with
  | tu cs => exact .inl ⟨cs, rfl⟩
  | _ => exact .inr ⟨rfl, rfl⟩
theorem wk_A {q : PV} (h : okA n q) : Wk m F (srcI src) n (reA src q) q := by
  rcases notA src n q with ⟨cs, rfl⟩ | ⟨f, cs, rfl⟩ | ⟨h1, h2⟩
  · obtain ⟨a, b⟩ := wk_map (fun p hp => wk_C (m := m) (F := F) (src := src) (h p hp)); exact .ag _ _ a b
  · obtain ⟨a, b⟩ := wk_map (fun p hp => wk_C (m := m) (F := F) (src := src) (h p hp)); exact .fn f _ _ a b
  · rw [h1]; rw [h2] at h; exact wk_C h
theorem wk_P {q : PV} (h : okP n q) : Wk m F (srcI src) n (reP src q) q := by
  rcases notP src n q with ⟨cs, rfl⟩ | ⟨h1, h2⟩
  · obtain ⟨a, b⟩ := wk_map (fun p hp => wk_A (m := m) (F := F) (src := src) (h p hp)); exact .tu _ _ a b
  · rw [h1]; rw [h2] at h; exact wk_A h
theorem wx_nl {p : PV} (h : p.nl = true) : Wx m F (srcI src) n p p := by
  cases p with
  | ow sz k g => exact .ow sz k g g (fun _ _ => rfl)
  | und => exact .k _ _ rfl (.c _ _ (.und _))
  | bool b => exact .k _ _ rfl (.c _ _ (.bool b))
  | int k x => exact .k _ _ rfl (.c _ _ (.int k x))
  | str x => exact .k _ _ rfl (.c _ _ (.str x))
  | nils => exact .k _ _ rfl (.c _ _ .nils)
  | cl sz k g => exact .k _ _ rfl (.c _ _ (.cl sz k g g (fun _ _ => rfl)))
  | pc ps => exact .k _ _ rfl (.c _ _ (.pc ps))
  | _ => cases h
theorem wx_D {q : PV} (h : okD n q) : Wx m F (srcI src) n (reC src q) q := by
  cases q with
  | ow sz k g => exact .ow sz k g g (fun _ _ => rfl)
  | ag _ => exact h.elim
  | tu _ => exact h.elim
  | fn _ _ => exact h.elim
  | ifs _ _ => exact h.elim
  | gd _ _ => exact h.elim
  | sl o sz k off len => exact .k _ _ rfl (wk_C (q := .sl o sz k off len) h)
  | bp o j => exact .k _ _ rfl (wk_C (q := .bp o j) h)
  | pt o sz k i j => exact .k _ _ rfl (wk_C (q := .pt o sz k i j) h)
  | mp o => exact .k _ _ rfl (wk_C (q := .mp o) h)
  | und => exact wx_nl rfl
  | bool b => exact wx_nl rfl
  | int k x => exact wx_nl rfl
  | str x => exact wx_nl rfl
  | nils => exact wx_nl rfl
  | cl sz k g => exact wx_nl rfl
  | pc ps => exact wx_nl rfl
theorem obT_wk {o : Id} {x : Ob} (h : obT m src o x) (hn : x ≠ .no) (hok : okO n x) : ∃ y, m.o o = some y ∧ WkO m F (srcI src) n y x := by
  cases x with
  | no => exact absurd rfl hn
  | row sz k g =>
    simp only [obT] at h
    split at h
    · rename_i sz' k' g' ho
      obtain ⟨rfl, rfl, h3⟩ := h
      refine ⟨_, ho, rfl, rfl, fun i hi => ⟨by rw [(h3 i hi).1], fun j p q hp hq => ?_⟩⟩
      rw [(h3 i hi).1, hq] at hp; cases hp
      exact wx_nl ((h3 i hi).2 _ (List.mem_of_getElem? hq))
    · exact h.elim
  | box qs =>
    simp only [obT] at h
    split at h
    · rename_i ps ho
      subst h
      refine ⟨_, ho, by simp, fun j p q hp hq => ?_⟩
      rw [List.getElem?_map, hq, Option.map_some, Option.some.injEq] at hp
      rw [← hp]
      exact wx_D (hok q (List.mem_of_getElem? hq))
    · exact h.elim
  | map f =>
    simp only [obT] at h
    split at h
    · rename_i f' ho; exact ⟨_, ho, h.symm⟩
    · exact h.elim
  | it es =>
    simp only [obT] at h
    split at h
    · rename_i f' ho; exact ⟨_, ho, h.symm⟩
    · exact h.elim
theorem srcI_eq {src : List Id} {k : Nat} (h : k < src.length) : src[k]? = some (srcI src [k]) := by simp [srcI, h]
theorem WkM_go {n0 : Nat} (obs : List Ob) (h0 : n0 ≤ obs.length) (hT : obsT m src src obs) (hok : ∀ x ∈ obs, okO obs.length x) (hF : ∀ o ∈ src, ¬ F o) (hfix : ∀ k, k < n0 → src[k]? = some [k]) (hnd : src.Nodup) : WkM n0 m F (srcI src) (ML obs) := by
  obtain ⟨hl, hT⟩ := obsT_spec hT
  refine ⟨fun o x' h => ?_, fun o o' x x' h h' e => ?_, fun o ho => ?_, h0⟩
  · obtain ⟨k, rfl, h2, h3⟩ := ML_get h
    have hk := (List.getElem?_eq_some_iff.1 h2).1
    have hs := srcI_eq (src := src) (k := k) (by omega)
    exact ⟨hk, hF _ (List.mem_of_getElem? hs), obT_wk (hT k _ x' hs h2) h3 (hok x' (List.mem_of_getElem? h2))⟩
  · obtain ⟨k, rfl, h2, _⟩ := ML_get h
    obtain ⟨k', rfl, h2', _⟩ := ML_get h'
    have hk := (List.getElem?_eq_some_iff.1 h2).1
    have hk' := (List.getElem?_eq_some_iff.1 h2').1
    have hs := srcI_eq (src := src) (k := k) (by omega)
    have hs' := srcI_eq (src := src) (k := k') (by omega)
    rw [e] at hs
    rw [(List.getElem?_inj (by omega) hnd).1 (hs.trans hs'.symm)]
  · match o, ho with
    | [k], ho =>
      have := hfix k ho
      simp [srcI, this]
    | k :: b :: q, ho =>
      have := hfix k ho
      simp [srcI, this]
end
section
variable {C : Cx} {P : Program} {c : Code} {Q : Exit → AS → Prop} {s : AS}
/-- A state told anew: slots by a list, objects by a list (src: where they stood). -/
theorem Told_go {n0 : Nat} (hn : C.m0.nx = n0) (src : List Id) {l : List (Nat × PV)} {obs : List Ob} (ht : ∀ kp ∈ l, s.t kp.1 = reP src kp.2 ∧ okP obs.length kp.2) (hT : obsT s.m src src obs) (hok : ∀ x ∈ obs, okO obs.length x)
    (h0 : n0 ≤ obs.length := by simp) (hfix : ∀ k, k < n0 → src[k]? = some [k] := by decide) (hnd : src.Nodup := by decide) : Told C s ⟨ofL l, ML obs⟩ := fun a w hf => by
  subst hn
  refine Weak.ok (F := fun _ => False) (ρ := srcI src) ⟨?_, WkM_go obs h0 hT hok (fun _ _ h => h) hfix hnd⟩ hf
  refine ofL_of (fun p => .c _ _ (.und p)) (fun kp hkp => ?_)
  obtain ⟨h2, h3⟩ := ht _ hkp
  rw [h2]
  exact wk_P h3
/-- An answer with its objects. -/
theorem Ret_go {rs : List ResultVar} {n0 : Nat} {e : Exit} (src : List Id) {r : PV} {obs : List Ob} (hv : (ares P s rs).ok ∧ (ares P s rs).v = reP src r ∧ okP obs.length r) (hT : obsT s.m src src obs) (hok : ∀ x ∈ obs, okO obs.length x)
    (h0 : n0 ≤ obs.length := by simp) (hfix : ∀ k, k < n0 → src[k]? = some [k] := by decide) (hnd : src.Nodup := by decide) (he : e = .ret ∨ e = .normal := by first | exact .inl rfl | exact .inr rfl) : RetT C P rs n0 r (ML obs) e s := by
  refine .of ⟨he, hv.1, fun _ => False, srcI src, ?_, WkM_go obs h0 hT hok (fun _ _ h => h) hfix hnd⟩
  rw [hv.2.1]
  exact wk_P hv.2.2
end
end Go.Proofs.YtppfogbgbpadiaaW.AW
namespace Go.Proofs.YtppfogbgbpadiaaW.AW
open Go Go.RowKit
set_option linter.unusedVariables false
set_option linter.unusedSimpArgs false
section
variable {β κ : Id → Nat} {A : Id → Nat → Prop} {w : World} {S : Nat → Prop} {m : Mem} {nx : Nat}
theorem Blk.congr {B : Nat → Prop} {b sz n c : Nat} {g g' : Nat → List PV} (h : Blk β κ (dN nx) w S B b sz n c g) (e : ∀ i, i < n → g' i = g i) : Blk β κ (dN nx) w S B b sz n c g' := by
  obtain ⟨cur, el, fz, F, h1, hz, h2, h3, h4, h5, h6⟩ := h
  exact ⟨cur, el, fz, F, h1, hz, h2, h3, fun i hi => by rw [e i hi]; exact h4 i hi, h5, fun i j p hi hp => h6 i j p hi (by rw [← e i hi]; exact hp)⟩
theorem Blk.own {B : Nat → Prop} {b sz n c : Nat} {g : Nat → List PV} (h : Blk β κ (dN nx) w S B b sz n c g) : B b := by
  obtain ⟨_, _, _, _, _, _, _, _, _, h5, _⟩ := h; exact (h5.eq b).2 (.inl rfl)
/-- One cell of a block, told anew. -/
theorem Blk.cell {B : Nat → Prop} {b sz n c : Nat} {g : Nat → List PV} (h : Blk β κ (dN nx) w S B b sz n c g) {i j : Nat} {p : PV} (hi : i < n) (hp : (g i)[j]? = some p) :
    ∃ v G, v.oneCell' = true ∧ TV β κ (dN nx) w S G v p ∧ (∀ k, G k → B k) ∧ ¬ G b ∧ ∀ (β' κ' : Id → Nat) (nx' : Nat) (q : PV) (G' : Nat → Prop), (∀ o, hb o nx → β' o = β o ∧ κ' o = κ o) → nx ≤ nx' → TV β' κ' (dN nx') w S G' v q → ¬ G' b → (∀ k, G' k → B k → G k) →
      Blk β' κ' (dN nx') w S (fun k => (B k ∧ ¬ G k) ∨ G' k) b sz n c (upd g i ((g i).set j q)) := by
  obtain ⟨cur, el, fz, F, h1, hz, h2, h3, h4, h5, h6⟩ := h
  have hj : j < (g i).length := (List.getElem?_eq_some_iff.1 hp).1
  refine ⟨_, F i j, (h6 i j p hi hp).1, (h6 i j p hi hp).2, fun k hk => (h5.eq k).2 (.inr ⟨i, j, hk⟩), h5.nb i j, fun β' κ' nx' q G' hβ hn hq hb' hd => ?_⟩
  refine ⟨cur, el, fz, fun i' j' k => if i' = i ∧ j' = j then G' k else F i' j' k, h1, hz, h2, h3, fun i' hi' => ?_, ⟨fun i' j' => ?_, fun i1 j1 i2 j2 k a1 a2 => ?_, fun i' j' k hk => ?_, fun k => ?_⟩, fun i' j' p' hi' hp' => ?_⟩
  · unfold upd; split
    · rename_i e; rw [List.length_set]; exact h4 i hi
    · exact h4 i' hi'
  · by_cases e : i' = i ∧ j' = j
    · simp only [if_pos e]; exact hb'
    · simp only [if_neg e]; exact h5.nb i' j'
  · by_cases e1 : i1 = i ∧ j1 = j <;> by_cases e2 : i2 = i ∧ j2 = j
    · exact ⟨e1.1.trans e2.1.symm, e1.2.trans e2.2.symm⟩
    · simp only [if_pos e1, if_neg e2] at a1 a2
      have := hd k a1 ((h5.eq k).2 (.inr ⟨i2, j2, a2⟩))
      exact absurd (h5.dj _ _ _ _ k a2 this) e2
    · simp only [if_neg e1, if_pos e2] at a1 a2
      have := hd k a2 ((h5.eq k).2 (.inr ⟨i1, j1, a1⟩))
      exact absurd (h5.dj _ _ _ _ k a1 this) e1
    · simp only [if_neg e1, if_neg e2] at a1 a2
      exact h5.dj _ _ _ _ k a1 a2
  · by_cases e : i' = i ∧ j' = j
    · obtain ⟨rfl, rfl⟩ := e; exact ⟨hi, by rw [← h4 i' hi]; exact hj⟩
    · simp only [if_neg e] at hk; exact h5.dm i' j' k hk
  · constructor
    · rintro (⟨hk, hg⟩ | hk)
      · rcases (h5.eq k).1 hk with rfl | ⟨i', j', hk⟩
        · exact .inl rfl
        · refine .inr ⟨i', j', ?_⟩
          rw [if_neg (fun e => hg (by obtain ⟨rfl, rfl⟩ := e; exact hk))]; exact hk
      · exact .inr ⟨i, j, by rw [if_pos ⟨rfl, rfl⟩]; exact hk⟩
    · rintro (rfl | ⟨i', j', hk⟩)
      · exact .inl ⟨(h5.eq _).2 (.inl rfl), h5.nb i j⟩
      · by_cases e : i' = i ∧ j' = j
        · rw [if_pos e] at hk; exact .inr hk
        · rw [if_neg e] at hk
          exact .inl ⟨(h5.eq k).2 (.inr ⟨i', j', hk⟩), fun hg => e (h5.dj _ _ _ _ k hk hg)⟩
  · have mvd : ∀ p'', i' < n → (g i')[j']? = some p'' → ¬ (i' = i ∧ j' = j) → (cur.getD (i' * sz + j') undef).oneCell' = true ∧ TV β' κ' (dN nx') w S (fun k => if i' = i ∧ j' = j then G' k else F i' j' k) (cur.getD (i' * sz + j') undef) p'' := fun p'' a1 a2 e => by
      have e3 : (fun k => if i' = i ∧ j' = j then G' k else F i' j' k) = F i' j' := by funext k; rw [if_neg e]
      rw [e3]
      exact ⟨(h6 i' j' p'' a1 a2).1, (h6 i' j' p'' a1 a2).2.move hβ (fun _ h => hb.mono h hn) (fun _ h => h) (fun _ _ => rfl) (fun _ _ => rfl)⟩
    unfold upd at hp'
    by_cases e : i' = i
    · subst e
      rw [if_pos rfl] at hp'
      by_cases e2 : j' = j
      · subst e2
        rw [List.getElem?_set_self hj] at hp'
        cases hp'
        have e3 : (fun k => if i' = i' ∧ j' = j' then G' k else F i' j' k) = G' := by funext k; rw [if_pos ⟨rfl, rfl⟩]
        show _ ∧ TV β' κ' (dN nx') w S (fun k => if i' = i' ∧ j' = j' then G' k else F i' j' k) _ _
        rw [e3]
        exact ⟨(h6 i' j' p hi hp).1, hq⟩
      · rw [List.getElem?_set_ne (Ne.symm e2)] at hp'
        exact mvd p' hi' hp' (fun e => e2 e.2)
    · rw [if_neg e] at hp'
      exact mvd p' hi' hp' (fun e' => e e'.1)
/-- An object with cells. -/
def obG : Ob → Option (Nat × Nat × (Nat → List PV))
  | .box cs => some (cs.length, 1, fun _ => cs)
  | .row sz n g => some (sz, n, g)
  | _ => none
def setG (i j : Nat) (q : PV) : Ob → Ob
  | .box cs => .box (cs.set j q)
  | .row sz n g => .row sz n (upd g i ((g i).set j q))
  | x => x
theorem ob_blk {B : Nat → Prop} {o : Id} {x : Ob} {sz n : Nat} {g : Nat → List PV} (h : OB β κ (dN nx) w S B o x) (hx : obG x = some (sz, n, g)) {i : Nat} (hi : i < n) : ∃ c, Blk β κ (dN nx) w S B (β o) sz n c g ∧ ∀ (β' κ' : Id → Nat) (nx' : Nat) (B' : Nat → Prop) (j : Nat) (q : PV), β' o = β o ∧ κ' o = κ o → Blk β' κ' (dN nx') w S B' (β o) sz n c (upd g i ((g i).set j q)) → OB β' κ' (dN nx') w S B' o (setG i j q x) := by
  cases x with
  | box cs =>
    simp only [obG, Option.some.injEq, Prod.mk.injEq] at hx
    obtain ⟨rfl, rfl, rfl⟩ := hx
    obtain rfl : i = 0 := by omega
    refine ⟨1, h, fun β' κ' nx' B' j q e hb => ?_⟩
    show Blk _ _ _ _ _ _ _ _ _ _ _
    rw [List.length_set, e.1]
    exact hb.congr (fun i hi => by obtain rfl : i = 0 := by omega
                                   simp [upd])
  | row s' n' g' =>
    simp only [obG, Option.some.injEq, Prod.mk.injEq] at hx
    obtain ⟨rfl, rfl, rfl⟩ := hx
    rcases h with ⟨_, h0, _⟩ | ⟨h1, h2, h3, h4⟩
    · omega
    refine ⟨κ o, h4, fun β' κ' nx' B' j q e hb => .inr ?_⟩
    rw [e.1, e.2]
    exact ⟨h1, h2, h3, hb⟩
  | _ => cases hx
theorem ghost {C : Cx} {s s' : AS} (ht : s'.t = s.t) (hle : s.m.nx ≤ s'.m.nx) (h : ∀ w S β κ A, MR w S s.m β κ A → ∃ β' κ' A', (∀ o, hb o s.m.nx → β' o = β o ∧ κ' o = κ o) ∧ MR w S s'.m β' κ' A' ∧ ∀ k, AW.own s'.m A' k → AW.own s.m A k) : Told C s s' := fun a w hf => by
  obtain ⟨β, κ, A, S, hf⟩ := hf
  obtain ⟨β', κ', A', h1, h2, h3⟩ := h w S β κ A hf.mr
  have hx : Ext w S s.m β κ A w S s'.m β' κ' A' := ⟨rfl, rfl, rfl, Nat.le_refl _, fun _ h => h, h1, fun _ _ _ => rfl, hle, fun _ h => hb.mono h hle, fun k hk => .inr (h3 k hk), fun _ h => .inl h⟩
  exact ⟨β', κ', A', S, hf.df, hf.sz, fun t => by rw [ht]; exact (hf.tv t).ext hx hf.mr, h2, hf.ex.trans hx⟩
theorem nl_cv {G : Nat → Prop} {v : Value} {p : PV} (h : TV β κ (dN nx) w S G v p) (hp : p.nl = true) : CV w S G v p := by
  rcases h with ⟨h, h0⟩ | h
  · cases h with
    | rv _ _ h => exact .rv _ _ _ h h0
    | _ => cases hp
  · exact h
/-- A row that a cell owns, taken out: it is object [nx] then. -/
theorem Told_open {C : Cx} {s : AS} (o : Id) (i j : Nat) {x : Ob} {sz0 n0 sz n : Nat} {g0 g : Nat → List PV} (h : s.m.o o = some x) (hx : obG x = some (sz0, n0, g0)) (hi : i < n0) (hc : (g0 i)[j]? = some (.ow sz n g)) :
    Told C s ⟨s.t, (s.m.set o (setG i j (.sl [s.m.nx] sz n 0 n) x)).grow none (.row sz n g)⟩ := by
  refine ghost rfl (Nat.le_succ _) (fun w S β κ A hm => ?_)
  have hon := hm.nx o x h
  have hne := hb_ne hon
  obtain ⟨c0, hb0, hset⟩ := ob_blk (hm.ob o x h) hx hi
  obtain ⟨v, G, _, hv, hGB, hGb, hcell⟩ := hb0.cell hi hc
  have at_ : ∀ o' y, ((s.m.set o (setG i j (.sl [s.m.nx] sz n 0 n) x)).grow none (.row sz n g)).o o' = some y → (o' = [s.m.nx] ∧ y = .row sz n g) ∨ (o' = o ∧ y = setG i j (.sl [s.m.nx] sz n 0 n) x) ∨ (o' ≠ [s.m.nx] ∧ o' ≠ o ∧ s.m.o o' = some y) := fun o' y hy => by
    simp only [Mem.grow, Mem.set, Mem.gone, upd] at hy
    by_cases e1 : o' = [s.m.nx]
    · rw [if_pos e1] at hy; cases hy; exact .inl ⟨e1, rfl⟩
    · rw [if_neg e1] at hy
      by_cases e2 : o' = o
      · rw [if_pos e2] at hy; cases hy; exact .inr (.inl ⟨e2, rfl⟩)
      · rw [if_neg e2] at hy; exact .inr (.inr ⟨e1, e2, hy⟩)
  -- the row's own block
  obtain ⟨b, c, hbc⟩ : ∃ b c, OV (upd β [s.m.nx] b) (upd κ [s.m.nx] c) (dN (s.m.nx + 1)) w S v (.sl [s.m.nx] sz n 0 n) ∧ OB (upd β [s.m.nx] b) (upd κ [s.m.nx] c) (dN (s.m.nx + 1)) w S G [s.m.nx] (.row sz n g) := by
    rcases hv.ow.ow_inv with ⟨Ad, rfl, rfl, h0⟩ | ⟨b, c, rfl, hp, hn, hmx, h0, cur, e, fz, Fo, hh, hz, hs, hlg, hF, hcl⟩
    · refine ⟨0, 0, .sl _ _ _ _ _ _ _ (by simp [AW.hb]) (Nat.le_refl _) (Nat.le_refl _) (by simp [upd]) (by simp [upd]) (fun h => absurd h (by omega)), .inl ⟨by simp [upd], rfl, h0⟩⟩
    · refine ⟨b, c, .sl _ _ _ _ _ _ _ (by simp [AW.hb]) hn (by omega) (by simp [upd]) (by simp [upd]; exact hmx) (fun _ => by simp [upd]), .inr ⟨by simp [upd]; exact hp, by simp [upd]; exact hmx, h0, ?_⟩⟩
      have e1 : upd β [s.m.nx] b [s.m.nx] = b := by simp [upd]
      have e2 : upd κ [s.m.nx] c [s.m.nx] = c := by simp [upd]
      rw [e1, e2]
      exact ⟨cur, e, fz, Fo, hh, hz, hs, hn, hlg, hF, fun i j p hi hp => ⟨(hcl i j p hi hp).1, .inr (hcl i j p hi hp).2⟩⟩
  have hβ : ∀ o', hb o' s.m.nx → upd β [s.m.nx] b o' = β o' ∧ upd κ [s.m.nx] c o' = κ o' := fun o' ho' => by simp [upd, hb_ne ho']
  let A' : Id → Nat → Prop := fun o' k => if o' = [s.m.nx] then G k else if o' = o then (A o k ∧ ¬ G k) else A o' k
  have a1 : A' [s.m.nx] = G := by funext k; simp [A']
  have a2 : A' o = fun k => A o k ∧ ¬ G k := by funext k; simp [A', hne]
  have a3 : ∀ o', o' ≠ [s.m.nx] → o' ≠ o → A' o' = A o' := fun o' e1 e2 => by funext k; simp [A', e1, e2]
  have sub : ∀ o' y k, ((s.m.set o (setG i j (.sl [s.m.nx] sz n 0 n) x)).grow none (.row sz n g)).o o' = some y → A' o' k → ∃ o2 y2, s.m.o o2 = some y2 ∧ A o2 k ∧ (o' = [s.m.nx] → o2 = o ∧ G k) ∧ (o' ≠ [s.m.nx] → o2 = o' ∧ (o' = o → ¬ G k)) := fun o' y k hy hk => by
    rcases at_ o' y hy with ⟨rfl, _⟩ | ⟨rfl, _⟩ | ⟨e1, e2, hy⟩
    · rw [a1] at hk; exact ⟨o, x, h, hGB k hk, fun _ => ⟨rfl, hk⟩, fun e => absurd rfl e⟩
    · rw [a2] at hk; exact ⟨_, x, h, hk.1, fun e => absurd e hne, fun _ => ⟨rfl, fun _ => hk.2⟩⟩
    · rw [a3 o' e1 e2] at hk; exact ⟨o', y, hy, hk, fun e => absurd e e1, fun _ => ⟨rfl, fun e => absurd e e2⟩⟩
  refine ⟨_, _, A', hβ, ⟨fun o' y hy => ?_, fun o' y k hy hk hs => ?_, fun o1 o2 y1 y2 k h1 h2 k1 k2 => ?_, fun o' y hy => ?_, hm.lt⟩, fun k ⟨o', y, hy, hk⟩ => ?_⟩
  · rcases at_ o' y hy with ⟨rfl, rfl⟩ | ⟨rfl, rfl⟩ | ⟨e1, e2, hy⟩
    · rw [a1]; exact hbc.2
    · rw [a2]
      have := hset (upd β [s.m.nx] b) (upd κ [s.m.nx] c) (s.m.nx + 1) (fun k => A o' k ∧ ¬ G k) j (.sl [s.m.nx] sz n 0 n) (hβ _ hon) (by
        have := hcell (upd β [s.m.nx] b) (upd κ [s.m.nx] c) (s.m.nx + 1) (.sl [s.m.nx] sz n 0 n) (fun _ => False) hβ (Nat.le_succ _) (.inl ⟨hbc.1, fun _ h => h⟩) (fun h => h) (fun _ h => h.elim)
        simpa using this)
      exact this
    · rw [a3 o' e1 e2]
      exact (hm.ob o' y hy).move hβ (fun _ h => hb.mono h (Nat.le_succ _)) (fun _ h => h) (fun _ _ => rfl) (hm.nx o' y hy) (fun _ _ => rfl)
  · obtain ⟨o2, y2, h1, h2, _⟩ := sub o' y k hy hk
    exact hm.ns o2 y2 k h1 h2 hs
  · obtain ⟨p1, z1, b1, c1, d1, e1⟩ := sub o1 y1 k h1 k1
    obtain ⟨p2, z2, b2, c2, d2, e2⟩ := sub o2 y2 k h2 k2
    have hp := hm.dj p1 p2 z1 z2 k b1 b2 c1 c2
    by_cases q1 : o1 = [s.m.nx] <;> by_cases q2 : o2 = [s.m.nx]
    · rw [q1, q2]
    · obtain ⟨f1, f2⟩ := d1 q1
      obtain ⟨f3, f4⟩ := e2 q2
      exact absurd f2 (f4 (by rw [← f3, ← hp, f1]))
    · obtain ⟨f1, f2⟩ := d2 q2
      obtain ⟨f3, f4⟩ := e1 q1
      exact absurd f2 (f4 (by rw [← f3, hp, f1]))
    · rw [← (e1 q1).1, ← (e2 q2).1, hp]
  · rcases at_ o' y hy with ⟨rfl, _⟩ | ⟨rfl, _⟩ | ⟨_, _, hy⟩
    · simp [hb, Mem.grow, Mem.set]
    · exact hon.mono (Nat.le_succ _)
    · exact (hm.nx o' y hy).mono (Nat.le_succ _)
  · obtain ⟨o2, y2, h1, h2, _⟩ := sub o' y k hy hk
    exact ⟨o2, y2, h1, h2⟩
def Mem.drop (m : Mem) (q : Id) : Mem := ⟨upd m.o q none, m.nx⟩
/-- An object's row is owned by a cell from now on. -/
theorem Told_fold {C : Cx} {s : AS} (o : Id) (i j : Nat) (q : Id) {x : Ob} {sz0 n0 sz n len : Nat} {g0 g : Nat → List PV} (h : s.m.o o = some x) (hx : obG x = some (sz0, n0, g0)) (hi : i < n0) (hc : (g0 i)[j]? = some (.sl q sz n 0 len)) (hq : s.m.o q = some (.row sz n g)) (hn : len ≤ n) (hg : ∀ i, i < len → Nl (g i)) (hne : q ≠ o) :
    Told C s ⟨s.t, (s.m.set o (setG i j (.ow sz len g) x)).drop q⟩ := by
  refine ghost rfl (Nat.le_refl _) (fun w S β κ A hm => ?_)
  have hon := hm.nx o x h
  obtain ⟨c0, hb0, hset⟩ := ob_blk (hm.ob o x h) hx hi
  obtain ⟨v, G, _, hv, hGB, hGb, hcell⟩ := hb0.cell hi hc
  have hov := hv.ov rfl
  have hG0 : ∀ k, ¬ G k := by
    rcases hv with ⟨_, h0⟩ | hv
    · exact h0
    · cases hv with | rv _ _ _ _ h0 => exact h0
  -- what the cell owns then
  obtain ⟨G', hG', hcv⟩ : ∃ G' : Nat → Prop, (∀ k, G' k → A q k) ∧ CV w S G' v (.ow sz len g) := by
    obtain ⟨Ad, c, rfl, _, hl, hn', hk, hmx, hA⟩ := hov.sl_inv
    rw [Nat.zero_add] at hk hn'
    subst hk
    rcases hm.ob q _ hq with ⟨h0, h1, _⟩ | ⟨q1, q2, q3, cur, e, fz, Fo, hh, hz, hs, hnc, hlg, hF, hcl⟩
    · have : len = 0 := by omega
      subst this
      rw [h0]; exact ⟨fun _ => False, fun _ h => h.elim, .no _ _ _ _ (fun _ h => h)⟩
    · obtain rfl := hA q1
      rw [Nat.zero_mul]
      refine ⟨fun k => k = β q ∨ ∃ i j, i < len ∧ Fo i j k, fun k hk => ?_, .ow _ (β q) len (κ q) sz g cur e fz (fun i j k => i < len ∧ Fo i j k) hz q1 hl q2 q3 hh hs (fun i hi => hlg i (by omega)) ⟨fun i j h => hF.nb i j h.2, fun i j i' j' k a b => hF.dj i j i' j' k a.2 b.2, fun i j k h => ⟨h.1, (hF.dm i j k h.2).2⟩, fun k => Iff.rfl⟩ (fun i j p hi hp => (hcl i j p (by omega) hp).1) (fun i j p hi hp => ?_)⟩
      · rcases hk with rfl | ⟨i, j, _, hk⟩
        · exact (hF.eq _).2 (.inl rfl)
        · exact (hF.eq _).2 (.inr ⟨i, j, hk⟩)
      · have e1 : (fun k => i < len ∧ Fo i j k) = Fo i j := by funext k; simp [hi]
        show CV w S (fun k => i < len ∧ Fo i j k) _ _
        rw [e1]
        exact nl_cv (hcl i j p (by omega) hp).2 (hg i hi p (List.mem_of_getElem? hp))
  have hdis : ∀ k, G' k → ¬ A o k := fun k hk ho => hne (hm.dj q o _ _ k hq h (hG' k hk) ho)
  have at_ : ∀ o' y, ((s.m.set o (setG i j (.ow sz len g) x)).drop q).o o' = some y → o' ≠ q ∧ ((o' = o ∧ y = setG i j (.ow sz len g) x) ∨ (o' ≠ o ∧ s.m.o o' = some y)) := fun o' y hy => by
    simp only [Mem.drop, Mem.set, upd] at hy
    by_cases e1 : o' = q
    · rw [if_pos e1] at hy; cases hy
    · rw [if_neg e1] at hy
      by_cases e2 : o' = o
      · rw [if_pos e2] at hy; cases hy; exact ⟨e1, .inl ⟨e2, rfl⟩⟩
      · rw [if_neg e2] at hy; exact ⟨e1, .inr ⟨e2, hy⟩⟩
  let A' : Id → Nat → Prop := fun o' k => if o' = o then (A o k ∨ G' k) else A o' k
  have a2 : A' o = fun k => A o k ∨ G' k := by funext k; simp [A']
  have a3 : ∀ o', o' ≠ o → A' o' = A o' := fun o' e2 => by funext k; simp [A', e2]
  have sub : ∀ o' y k, ((s.m.set o (setG i j (.ow sz len g) x)).drop q).o o' = some y → A' o' k → o' ≠ q ∧ ∃ o2 y2, s.m.o o2 = some y2 ∧ A o2 k ∧ (o2 = o' ∨ (o' = o ∧ o2 = q)) := fun o' y k hy hk => by
    obtain ⟨e0, hy⟩ := at_ o' y hy
    refine ⟨e0, ?_⟩
    rcases hy with ⟨rfl, _⟩ | ⟨e2, hy⟩
    · rw [a2] at hk
      rcases hk with hk | hk
      · exact ⟨_, x, h, hk, .inl rfl⟩
      · exact ⟨q, _, hq, hG' k hk, .inr ⟨rfl, rfl⟩⟩
    · rw [a3 o' e2] at hk; exact ⟨o', y, hy, hk, .inl rfl⟩
  refine ⟨β, κ, A', fun _ _ => ⟨rfl, rfl⟩, ⟨fun o' y hy => ?_, fun o' y k hy hk hs => ?_, fun o1 o2 y1 y2 k h1 h2 k1 k2 => ?_, fun o' y hy => ?_, hm.lt⟩, fun k ⟨o', y, hy, hk⟩ => ?_⟩
  · obtain ⟨e0, hy⟩ := at_ o' y hy
    rcases hy with ⟨rfl, rfl⟩ | ⟨e2, hy⟩
    · rw [a2]
      refine hset β κ s.m.nx (fun k => A o' k ∨ G' k) j (.ow sz len g) ⟨rfl, rfl⟩ ?_
      have := hcell β κ s.m.nx (.ow sz len g) G' (fun _ _ => ⟨rfl, rfl⟩) (Nat.le_refl _) (.inr hcv) (fun hb => hdis _ hb hb0.own) (fun k hk ho => absurd ho (hdis k hk))
      simpa [hG0] using this
    · rw [a3 o' e2]; exact hm.ob o' y hy
  · obtain ⟨_, o2, y2, h1, h2, _⟩ := sub o' y k hy hk
    exact hm.ns o2 y2 k h1 h2 hs
  · obtain ⟨n1, p1, z1, b1, c1, d1⟩ := sub o1 y1 k h1 k1
    obtain ⟨n2, p2, z2, b2, c2, d2⟩ := sub o2 y2 k h2 k2
    have hp := hm.dj p1 p2 z1 z2 k b1 b2 c1 c2
    rcases d1 with d1 | ⟨d1, d1'⟩ <;> rcases d2 with d2 | ⟨d2, d2'⟩
    · rw [← d1, ← d2, hp]
    · exact absurd (by rw [← d1, hp, d2']) n1
    · exact absurd (by rw [← d2, ← hp, d1']) n2
    · rw [d1, d2]
  · obtain ⟨e0, hy⟩ := at_ o' y hy
    rcases hy with ⟨rfl, _⟩ | ⟨_, hy⟩
    · exact hon
    · exact hm.nx o' y hy
  · obtain ⟨_, o2, y2, h1, h2, _⟩ := sub o' y k hy hk
    exact ⟨o2, y2, h1, h2⟩
/-- A cell that holds no slice owns a row of no elements. -/
theorem Told_foldn {C : Cx} {s : AS} (o : Id) (i j : Nat) (sz : Nat) (g : Nat → List PV) {x : Ob} {sz0 n0 : Nat} {g0 : Nat → List PV} (h : s.m.o o = some x) (hx : obG x = some (sz0, n0, g0)) (hi : i < n0) (hc : (g0 i)[j]? = some .nils) :
    Told C s ⟨s.t, s.m.set o (setG i j (.ow sz 0 g) x)⟩ := by
  refine ghost rfl (Nat.le_refl _) (fun w S β κ A hm => ?_)
  have hon := hm.nx o x h
  obtain ⟨c0, hb0, hset⟩ := ob_blk (hm.ob o x h) hx hi
  obtain ⟨v, G, _, hv, hGB, hGb, hcell⟩ := hb0.cell hi hc
  have hov := hv.ov rfl
  have hG0 : ∀ k, ¬ G k := by
    rcases hv with ⟨_, h0⟩ | hv
    · exact h0
    · cases hv with | rv _ _ _ _ h0 => exact h0
  have hcv : CV w S (fun _ => False) v (.ow sz 0 g) := by rw [hov.nils_inv]; exact .no _ _ _ _ (fun _ h => h)
  have at_ : ∀ o' y, (s.m.set o (setG i j (.ow sz 0 g) x)).o o' = some y → (o' = o ∧ y = setG i j (.ow sz 0 g) x) ∨ s.m.o o' = some y := fun o' y hy => by
    simp only [Mem.set, upd] at hy
    by_cases e2 : o' = o
    · rw [if_pos e2] at hy; cases hy; exact .inl ⟨e2, rfl⟩
    · rw [if_neg e2] at hy; exact .inr hy
  have ex_ : ∀ o' y, (s.m.set o (setG i j (.ow sz 0 g) x)).o o' = some y → ∃ y', s.m.o o' = some y' := fun o' y hy => by
    rcases at_ o' y hy with ⟨rfl, _⟩ | hy
    · exact ⟨x, h⟩
    · exact ⟨y, hy⟩
  refine ⟨β, κ, A, fun _ _ => ⟨rfl, rfl⟩, ⟨fun o' y hy => ?_, fun o' y k hy hk hs => ?_, fun o1 o2 y1 y2 k h1 h2 k1 k2 => ?_, fun o' y hy => ?_, hm.lt⟩, fun k ⟨o', y, hy, hk⟩ => ?_⟩
  · by_cases e : o' = o
    · subst e
      simp only [Mem.set, upd, if_true, Option.some.injEq] at hy
      subst hy
      refine hset β κ s.m.nx (A o') j (.ow sz 0 g) ⟨rfl, rfl⟩ ?_
      have := hcell β κ s.m.nx (.ow sz 0 g) (fun _ => False) (fun _ _ => ⟨rfl, rfl⟩) (Nat.le_refl _) (.inr hcv) (fun hb => hb) (fun k hk ho => hk.elim)
      simpa [hG0] using this
    · rcases at_ o' y hy with ⟨e', _⟩ | hy
      · exact absurd e' e
      · exact hm.ob o' y hy
  · obtain ⟨y', hy'⟩ := ex_ o' y hy; exact hm.ns o' y' k hy' hk hs
  · obtain ⟨y1', hy1⟩ := ex_ o1 y1 h1
    obtain ⟨y2', hy2⟩ := ex_ o2 y2 h2
    exact hm.dj o1 o2 _ _ k hy1 hy2 k1 k2
  · obtain ⟨y', hy'⟩ := ex_ o' y hy; exact hm.nx o' y' hy'
  · obtain ⟨y', hy'⟩ := ex_ o' y hy; exact ⟨o', y', hy', hk⟩
/-- No slice: a row of no elements. -/
theorem Told_nil {C : Cx} {s : AS} (k : Nat) (sz : Nat) (g : Nat → List PV) (hk : s.t k = .nils) : Told C s ⟨upd s.t k (.sl [s.m.nx] sz 0 0 0), s.m.grow none (.row sz 0 g)⟩ := fun a w hf => by
  obtain ⟨β, κ, A, S, hf⟩ := hf
  obtain ⟨h1, h2⟩ := hf.mr.grow (w' := w) (Fr.hd _) none (x := .row sz 0 g) (g := 0) (K := 0) (B := fun _ => False) rfl rfl rfl (Nat.le_refl _) (fun _ h => h.elim) (fun _ _ _ => rfl) (.inl ⟨by simp [upd], rfl, fun _ h => h⟩)
  rw [gdN_dN] at h1 h2
  refine ⟨_, _, _, S, hf.df, hf.sz, fun t => ?_, h2, hf.ex.trans h1⟩
  show OV _ _ _ _ _ _ (upd s.t k _ t)
  unfold upd
  by_cases e : t = k
  · subst e
    rw [if_pos rfl]
    have := hf.tv t
    rw [hk] at this
    rw [this.nils_inv]
    refine .sl _ _ _ _ _ _ _ (by simp [hb, Mem.grow]) (Nat.le_refl _) (Nat.le_refl _) (by simp) (by simp) (fun h => absurd h (by simp))
  · rw [if_neg e]; exact (hf.tv t).ext h1 hf.mr
end
/-- What a cell owns is taken out. -/
def openC (m : Mem) (o : Id) (i j : Nat) (K : Mem → Prop) : Prop := match m.o o with
  | some x => match obG x with
    | some (_, n0, g0) => i < n0 ∧ (match (g0 i)[j]? with | some (.ow sz n g) => K ((m.set o (setG i j (.sl [m.nx] sz n 0 n) x)).grow none (.row sz n g)) | _ => False)
    | none => False
  | none => False
/-- An object is put into a cell. -/
def foldC (m : Mem) (o : Id) (i j : Nat) (q : Id) (K : Mem → Prop) : Prop := match m.o o with
  | some x => match obG x with
    | some (_, n0, g0) => i < n0 ∧ (match (g0 i)[j]? with
      | some (.sl q' sz' n' off len) => (match m.o q with
        | some (.row sz n g) => (q' = q ∧ sz' = sz ∧ n' = n ∧ off = 0 ∧ len ≤ n ∧ q ≠ o) ∧ (∀ k, k < len → Nl (g k)) ∧ K ((m.set o (setG i j (.ow sz len g) x)).drop q)
        | _ => False)
      | _ => False)
    | none => False
  | none => False
def foldN (m : Mem) (o : Id) (i j sz : Nat) (K : Mem → Prop) : Prop := match m.o o with
  | some x => match obG x with
    | some (_, n0, g0) => i < n0 ∧ (match (g0 i)[j]? with
      | some .nils => K (m.set o (setG i j (.ow sz 0 (fun _ => [])) x))
      | _ => False)
    | none => False
  | none => False
section
variable {C : Cx} {P : Program} {c : Code} {Q : Exit → AS → Prop} {s : AS}
theorem foldN_ok {o : Id} {i j sz : Nat} {K : Mem → Prop} (h : foldN s.m o i j sz K) : ∃ m', K m' ∧ Told C s ⟨s.t, m'⟩ := by
  unfold foldN at h
  split at h
  · rename_i x hx
    split at h
    · rename_i sz0 n0 g0 hg
      obtain ⟨hi, h⟩ := h
      split at h
      · rename_i hc; exact ⟨_, h, Told_foldn o i j sz _ hx hg hi hc⟩
      · exact h.elim
    · exact h.elim
  · exact h.elim
theorem T_foldn (o : Id) (i j sz : Nat) {s2 : AS} (h : foldN s.m o i j sz (fun m' => Told C ⟨s.t, m'⟩ s2)) : Told C s s2 := by obtain ⟨m', h1, h2⟩ := foldN_ok (C := C) h; exact h2.trans h1
theorem openC_ok {o : Id} {i j : Nat} {K : Mem → Prop} (h : openC s.m o i j K) : ∃ m', K m' ∧ Told C s ⟨s.t, m'⟩ := by
  unfold openC at h
  split at h
  · rename_i x hx
    split at h
    · rename_i sz0 n0 g0 hg
      obtain ⟨hi, h⟩ := h
      split at h
      · rename_i hc; exact ⟨_, h, Told_open o i j hx hg hi hc⟩
      · exact h.elim
    · exact h.elim
  · exact h.elim
theorem foldC_ok {o q : Id} {i j : Nat} {K : Mem → Prop} (h : foldC s.m o i j q K) : ∃ m', K m' ∧ Told C s ⟨s.t, m'⟩ := by
  unfold foldC at h
  split at h
  · rename_i x hx
    split at h
    · rename_i sz0 n0 g0 hg
      obtain ⟨hi, h⟩ := h
      split at h
      · rename_i hc
        split at h
        · rename_i hq
          obtain ⟨⟨rfl, rfl, rfl, rfl, h5, h6⟩, h7, h8⟩ := h
          exact ⟨_, h8, Told_fold o i j _ hx hg hi hc hq h5 h7 h6⟩
        · exact h.elim
      · exact h.elim
    · exact h.elim
  · exact h.elim
theorem AW_open (o : Id) (i j : Nat) (h : openC s.m o i j (fun m' => AW C P c Q ⟨s.t, m'⟩)) : AW C P c Q s := by obtain ⟨m', h1, h2⟩ := openC_ok (C := C) h; exact AW.told h2 h1
theorem T_fold (o : Id) (i j : Nat) (q : Id) {s2 : AS} (h : foldC s.m o i j q (fun m' => Told C ⟨s.t, m'⟩ s2)) : Told C s s2 := by obtain ⟨m', h1, h2⟩ := foldC_ok (C := C) h; exact h2.trans h1
end
end Go.Proofs.YtppfogbgbpadiaaW.AW
namespace Go.Proofs.YtppfogbgbpadiaaW.AW
open Go Go.RowKit
set_option linter.unusedVariables false
set_option linter.unusedSimpArgs false
/-- A cell read closed. -/
def Cv (p q : PV) : Prop := ∀ m F, Wc m F p q
def Cvl : List PV → List PV → Prop
  | p :: ps, q :: qs => Cv p q ∧ Cvl ps qs
  | [], [] => True
  | _, _ => False
theorem Cvl_spec : ∀ {ps qs : List PV}, Cvl ps qs ↔ qs.length = ps.length ∧ ∀ (j : Nat) (p q : PV), ps[j]? = some p → qs[j]? = some q → Cv p q
  | [], [] => ⟨fun _ => ⟨rfl, fun j p q h => by simp at h⟩, fun _ => trivial⟩
  | [], _ :: _ => ⟨fun h => h.elim, fun h => by simp at h⟩
  | _ :: _, [] => ⟨fun h => h.elim, fun h => by simp at h⟩
  | p :: ps, q :: qs => by
    simp only [Cvl]
    rw [Cvl_spec (ps := ps) (qs := qs)]
    constructor
    · rintro ⟨h1, h2, h3⟩
      refine ⟨by simp [h2], fun j a b ha hb => ?_⟩
      cases j with
      | zero => simp at ha hb; subst ha; subst hb; exact h1
      | succ j => exact h3 j a b (by simpa using ha) (by simpa using hb)
    · rintro ⟨h1, h2⟩
      exact ⟨h2 0 p q rfl rfl, by simpa using h1, fun j a b ha hb => h2 (j + 1) a b (by simpa using ha) (by simpa using hb)⟩
theorem Cv_bool {b} : Cv (.bool b) (.bool b) ↔ True := ⟨fun _ => trivial, fun _ _ _ => .bool b⟩
theorem Cv_int {k n} : Cv (.int k n) (.int k n) ↔ True := ⟨fun _ => trivial, fun _ _ _ => .int k n⟩
theorem Cv_str {s} : Cv (.str s) (.str s) ↔ True := ⟨fun _ => trivial, fun _ _ _ => .str s⟩
theorem Cv_nils : Cv .nils .nils ↔ True := ⟨fun _ => trivial, fun _ _ _ => .nils⟩
theorem Cv_nilc {sz n g} : Cv .nils (.cl sz n g) ↔ n = 0 := ⟨fun h => by cases h ⟨fun _ => none, 0⟩ (fun _ => False); rfl, fun h _ _ => by subst h; exact .nilc sz g⟩
theorem Cv_cl {sz n g} : Cv (.cl sz n g) (.cl sz n g) ↔ True := ⟨fun _ => trivial, fun _ _ _ => .cl sz n g g (fun _ _ => rfl)⟩
theorem Cv_ow {sz n g sz' n' g'} : Cv (.ow sz n g) (.cl sz' n' g') ↔ sz' = sz ∧ n' = n ∧ ∀ i, i < n → Cvl (g i) (g' i) := by
  constructor
  · intro h
    have h0 := h ⟨fun _ => none, 0⟩ (fun _ => False)
    cases h0 with
    | ow _ _ _ _ hl hc =>
      refine ⟨rfl, rfl, fun i hi => Cvl_spec.2 ⟨hl i hi, fun j p q hp hq m F => ?_⟩⟩
      cases h m F with
      | ow _ _ _ _ hl hc => exact hc i j p q hi hp hq
  · rintro ⟨rfl, rfl, h⟩ m F
    exact .ow _ _ _ _ (fun i hi => (Cvl_spec.1 (h i hi)).1) (fun i j p q hi hp hq => (Cvl_spec.1 (h i hi)).2 j p q hp hq m F)
/-- An argument as the callee has it: names, or (where b) what one holds, lent to be read. -/
def lendT (b : Bool) (m : Mem) (src : List Id) (n : Nat) : PV → PV → Prop
  | .sl o sz k off len, .cl sz' len' g' => b = true ∧ sz' = sz ∧ len' = len ∧ o ∉ src ∧ (match m.o o with | some (.row sz2 k2 g) => sz2 = sz ∧ k2 = k ∧ ∀ i, i < len → Cvl (g (off + i)) (g' i) | _ => False)
  | .nils, .cl _ n' _ => n' = 0
  | .cl sz k g, .cl sz' k' g' => sz' = sz ∧ k' = k ∧ ∀ i, i < k → g' i = g i
  | p, q => p = reC src q ∧ okC n q
def lendL (b : Bool) (m : Mem) (src : List Id) (n : Nat) : List PV → List PV → Prop
  | p :: ps, q :: qs => lendT b m src n p q ∧ lendL b m src n ps qs
  | [], [] => True
  | _, _ => False
def lendA (b : Bool) (m : Mem) (src : List Id) (n : Nat) : PV → PV → Prop
  | .ag ps, .ag qs => lendL b m src n ps qs
  | .fn f ps, .fn f' qs => f' = f ∧ lendL b m src n ps qs
  | p, q => lendT b m src n p q
def argsT (b : Bool) (m : Mem) (src : List Id) (n : Nat) : List PV → List PV → Prop
  | p :: ps, q :: qs => lendA b m src n p q ∧ argsT b m src n ps qs
  | [], [] => True
  | _, _ => False
section
variable {b : Bool} {m : Mem} {src : List Id} {n : Nat}
def lF (b : Bool) (src : List Id) (o : Id) : Prop := b = true ∧ o ∉ src
theorem lendT_wk {p q : PV} (h : lendT b m src n p q) : Wk m (lF b src) (srcI src) n p q := by
  unfold lendT at h
  split at h
  · rename_i o sz k off len sz' len' g'
    obtain ⟨h1, rfl, rfl, h4, h5⟩ := h
    split at h5
    · rename_i sz2 k2 g ho
      obtain ⟨rfl, rfl, h6⟩ := h5
      exact .c _ _ (.close o _ _ off _ g g' ⟨h1, h4⟩ ho (fun i hi => (Cvl_spec.1 (h6 i hi)).1) (fun i j p q hi hp hq => (Cvl_spec.1 (h6 i hi)).2 j p q hp hq m _))
    · exact h5.elim
  · subst h; exact .c _ _ (.nilc _ _)
  · obtain ⟨rfl, rfl, h3⟩ := h; exact .c _ _ (.cl _ _ _ _ h3)
  · rw [h.1]; exact wk_C h.2
theorem lendL_wk : ∀ {ps qs : List PV}, lendL b m src n ps qs → qs.length = ps.length ∧ ∀ (j : Nat) (p q : PV), ps[j]? = some p → qs[j]? = some q → Wk m (lF b src) (srcI src) n p q
  | [], [], _ => ⟨rfl, fun j p q h => by simp at h⟩
  | p :: ps, q :: qs, ⟨h1, h2⟩ => by
    obtain ⟨h3, h4⟩ := lendL_wk h2
    refine ⟨by simp [h3], fun j a c ha hc => ?_⟩
    cases j with
    | zero => simp at ha hc; subst ha; subst hc; exact lendT_wk h1
    | succ j => exact h4 j a c (by simpa using ha) (by simpa using hc)
theorem lendA_wk {p q : PV} (h : lendA b m src n p q) : Wk m (lF b src) (srcI src) n p q := by
  unfold lendA at h
  split at h
  · obtain ⟨h1, h2⟩ := lendL_wk h; exact .ag _ _ h1 h2
  · obtain ⟨rfl, h⟩ := h; obtain ⟨h1, h2⟩ := lendL_wk h; exact .fn _ _ _ h1 h2
  · exact lendT_wk h
theorem argsT_wk : ∀ {ps qs : List PV}, argsT b m src n ps qs → qs.length = ps.length ∧ ∀ (j : Nat) (p q : PV), ps[j]? = some p → qs[j]? = some q → Wk m (lF b src) (srcI src) n p q
  | [], [], _ => ⟨rfl, fun j p q h => by simp at h⟩
  | p :: ps, q :: qs, ⟨h1, h2⟩ => by
    obtain ⟨h3, h4⟩ := argsT_wk h2
    refine ⟨by simp [h3], fun j a c ha hc => ?_⟩
    cases j with
    | zero => simp at ha hc; subst ha; subst hc; exact lendA_wk h1
    | succ j => exact h4 j a c (by simpa using ha) (by simpa using hc)
end
/-- The names of what a call hands back: those that it was handed, then new ones. -/
def nams (nx : Nat) : List Id → List Ob → List Id
  | o :: src, _ :: l => o :: nams nx src l
  | [], _ :: l => [nx] :: nams (nx + 1) [] l
  | _, [] => []
def reO (ns : List Id) : Ob → Ob
  | .box qs => .box (qs.map (reC ns))
  | x => x
def Mem.setN (m : Mem) (o : Id) : Ob → Mem
  | .no => m.drop o
  | x => m.set o x
def Mem.growN (m : Mem) : Ob → Mem
  | .no => ⟨m.o, m.nx + 1⟩
  | x => m.grow none x
def Mem.aft (ns : List Id) : Mem → List Id → List Ob → Mem
  | m, o :: src, x :: l => Mem.aft ns (m.setN o (reO ns x)) src l
  | m, [], x :: l => Mem.aft ns (m.growN (reO ns x)) [] l
  | m, _, [] => m
theorem setN_nx (m : Mem) (o : Id) (x : Ob) : (m.setN o x).nx = m.nx := by cases x <;> rfl
theorem growN_nx (m : Mem) (x : Ob) : (m.growN x).nx = m.nx + 1 := by cases x <;> rfl
theorem setN_at {m : Mem} {o o' : Id} {x y : Ob} (h : (m.setN o x).o o' = some y) : (o' = o ∧ y = x ∧ x ≠ .no) ∨ (o' ≠ o ∧ m.o o' = some y) := by
  cases x <;> simp only [Mem.setN, Mem.drop, Mem.set, upd] at h <;> split at h <;> rename_i e <;> first | cases h | skip
  all_goals first
    | exact .inr ⟨e, h⟩
    | exact .inl ⟨e, rfl, fun h => by cases h⟩
theorem growN_at {m : Mem} {o' : Id} {x y : Ob} (h : (m.growN x).o o' = some y) : (o' = [m.nx] ∧ y = x ∧ x ≠ .no) ∨ m.o o' = some y := by
  cases x <;> simp only [Mem.growN, Mem.grow, Mem.gone, upd] at h <;> first | exact .inr h | (split at h <;> rename_i e <;> first | (cases h; exact .inl ⟨e, rfl, fun h => by cases h⟩) | exact .inr h)
theorem nams_spec : ∀ (src : List Id) (l : List Ob) (nx : Nat), src.length ≤ l.length → (nams nx src l).length = l.length ∧ (∀ k, k < src.length → (nams nx src l)[k]? = src[k]?) ∧ ∀ k, src.length ≤ k → k < l.length → (nams nx src l)[k]? = some [nx + (k - src.length)]
  | [], [], nx, _ => ⟨rfl, fun k h => by simp at h, fun k _ h => by simp at h⟩
  | [], x :: l, nx, _ => by
    obtain ⟨h1, _, h3⟩ := nams_spec [] l (nx + 1) (Nat.zero_le _)
    refine ⟨by simp [nams, h1], fun k h => by simp at h, fun k _ h => ?_⟩
    cases k with
    | zero => simp [nams]
    | succ k =>
      have := h3 k (Nat.zero_le _) (by simpa using h)
      simp only [nams, List.getElem?_cons_succ, this]
      simp; omega
  | _ :: _, [], _, h => by simp at h
  | o :: src, x :: l, nx, h => by
    obtain ⟨h1, h2, h3⟩ := nams_spec src l nx (by simpa using h)
    refine ⟨by simp [nams, h1], fun k hk => ?_, fun k hk h => ?_⟩
    · cases k with
      | zero => simp [nams]
      | succ k => simpa [nams] using h2 k (by simpa using hk)
    · cases k with
      | zero => simp at hk
      | succ k =>
        have := h3 k (by simpa using hk) (by simpa using h)
        simp only [nams, List.getElem?_cons_succ, this, List.length_cons]
        simp
theorem aft_nx (ns : List Id) : ∀ (src : List Id) (l : List Ob) (m : Mem), src.length ≤ l.length → (m.aft ns src l).nx = m.nx + (l.length - src.length)
  | [], [], m, _ => rfl
  | [], x :: l, m, _ => by simp only [Mem.aft]; rw [aft_nx ns [] l _ (Nat.zero_le _), growN_nx]; simp; omega
  | _ :: _, [], _, h => by simp at h
  | o :: src, x :: l, m, h => by simp only [Mem.aft]; rw [aft_nx ns src l _ (by simpa using h), setN_nx]; simp
theorem aft_at (ns : List Id) : ∀ (src : List Id) (l : List Ob) (m : Mem), src.length ≤ l.length → ∀ o y, (m.aft ns src l).o o = some y → (m.o o = some y ∧ o ∉ src) ∨ ∃ (k : Nat) (x : Ob), (nams m.nx src l)[k]? = some o ∧ l[k]? = some x ∧ x ≠ .no ∧ y = reO ns x
  | [], [], m, _, o, y, h => .inl ⟨h, by simp⟩
  | [], x :: l, m, _, o, y, h => by
    simp only [Mem.aft] at h
    rcases aft_at ns [] l _ (Nat.zero_le _) o y h with ⟨h1, _⟩ | ⟨k, x', h1, h2, h3, h4⟩
    · rcases growN_at h1 with ⟨rfl, rfl, h5⟩ | h1
      · exact .inr ⟨0, x, rfl, rfl, fun e => h5 (by rw [e]; rfl), rfl⟩
      · exact .inl ⟨h1, by simp⟩
    · rw [growN_nx] at h1
      exact .inr ⟨k + 1, x', by simpa [nams] using h1, by simpa using h2, h3, h4⟩
  | _ :: _, [], _, h, _, _, _ => by simp at h
  | p :: src, x :: l, m, hl, o, y, h => by
    simp only [Mem.aft] at h
    rcases aft_at ns src l _ (by simpa using hl) o y h with ⟨h1, h2⟩ | ⟨k, x', h1, h2, h3, h4⟩
    · rcases setN_at h1 with ⟨rfl, rfl, h5⟩ | ⟨h5, h6⟩
      · exact .inr ⟨0, x, rfl, rfl, fun e => h5 (by rw [e]; rfl), rfl⟩
      · exact .inl ⟨h6, by simp [h2, h5]⟩
    · rw [setN_nx] at h1
      exact .inr ⟨k + 1, x', by simpa [nams] using h1, by simpa using h2, h3, h4⟩
section
variable {ns : List Id} {τ : Id → Id} {n : Nat}
theorem rn_C {q : PV} (h : okC n q) : Rn (srcI ns) q (reC ns q) := by
  cases q with
  | sl o sz k off len => exact .sl o sz k off len
  | bp o j => exact .bp o j
  | pt o sz k i j => exact .pt o sz k i j
  | mp o => exact .mp o
  | ag _ => exact h.elim
  | tu _ => exact h.elim
  | fn _ _ => exact h.elim
  | ifs _ _ => exact h.elim
  | gd _ _ => exact h.elim
  | ow _ _ _ => exact h.elim
  | _ => exact .same _ rfl
theorem rn_D {q : PV} (h : okD n q) : Rn (srcI ns) q (reC ns q) := by
  cases q with
  | ow sz k g => exact .ow sz k g
  | sl o sz k off len => exact .sl o sz k off len
  | bp o j => exact .bp o j
  | pt o sz k i j => exact .pt o sz k i j
  | mp o => exact .mp o
  | ag _ => exact h.elim
  | tu _ => exact h.elim
  | fn _ _ => exact h.elim
  | ifs _ _ => exact h.elim
  | gd _ _ => exact h.elim
  | _ => exact .same _ rfl
theorem rn_nl {q : PV} (h : q.nl = true) : Rn (srcI ns) q q := by
  cases q with
  | ow sz k g => exact .ow sz k g
  | sl => cases h
  | bp => cases h
  | pt => cases h
  | mp => cases h
  | ag _ => cases h
  | tu _ => cases h
  | fn _ _ => cases h
  | ifs _ _ => cases h
  | gd _ _ => cases h
  | _ => exact .same _ rfl
theorem okA_fn {q : PV} (h : okA n q) : (∃ cs, q = .ag cs ∧ ∀ p ∈ cs, okC n p) ∨ (∃ f cs, q = .fn f cs) ∨ (reA ns q = reC ns q ∧ okC n q) := by
  rcases notA ns n q with ⟨cs, rfl⟩ | h1 | ⟨h1, h2⟩
  · exact .inl ⟨cs, rfl, h⟩
  · exact .inr (.inl h1)
  · exact .inr (.inr ⟨h1, by rw [← h2]; exact h⟩)
def PV.noF : PV → Prop
  | .fn _ _ => False
  | _ => True
/-- Answers are no functions. -/
def noFn : PV → Prop
  | .fn _ _ => False
  | .tu vs => ∀ p ∈ vs, p.noF
  | _ => True
theorem rn_map {f : PV → PV} {cs : List PV} (h : ∀ p ∈ cs, Rn (srcI ns) p (f p)) : (cs.map f).length = cs.length ∧ ∀ (j : Nat) (p q : PV), cs[j]? = some p → (cs.map f)[j]? = some q → Rn (srcI ns) p q :=
  ⟨by simp, fun j p q hp hq => by rw [List.getElem?_map, hp] at hq; cases hq; exact h p (List.mem_of_getElem? hp)⟩
theorem rn_A {q : PV} (h : okA n q) (hf : q.noF) : Rn (srcI ns) q (reA ns q) := by
  rcases okA_fn (ns := ns) h with ⟨cs, rfl, h1⟩ | ⟨f, cs, rfl⟩ | ⟨h1, h2⟩
  · obtain ⟨a, b⟩ := rn_map (fun p hp => rn_C (ns := ns) (h1 p hp)); exact .ag _ _ a b
  · exact hf.elim
  · rw [h1]; exact rn_C h2
theorem rn_P {q : PV} (h : okP n q) (hf : noFn q) : Rn (srcI ns) q (reP ns q) := by
  rcases notP ns n q with ⟨cs, rfl⟩ | ⟨h1, h2⟩
  · obtain ⟨a, b⟩ := rn_map (fun p hp => rn_A (ns := ns) (h p hp) (hf p hp)); exact .tu _ _ a b
  · rw [h1]; rw [h2] at h
    refine rn_A h ?_
    cases q <;> first | trivial | exact hf
theorem rn_O {x : Ob} (h : okO n x) : RnO (srcI ns) x (reO ns x) ∨ x = .no := by
  cases x with
  | no => exact .inr rfl
  | box qs => exact .inl (rn_map (fun p hp => rn_D (ns := ns) (h p hp)))
  | row sz k g => exact .inl ⟨rfl, rfl, fun i hi => ⟨rfl, fun j p q hp hq => by
      have e : p = q := by rw [hp] at hq; exact Option.some.inj hq
      subst e; exact rn_nl (h i hi p (List.mem_of_getElem? hp))⟩⟩
  | map f => exact .inl rfl
  | it es => exact .inl rfl
end
/-- Names that a call's arguments hold. -/
def idA : PV → List Id
  | .ag ps => ps.flatMap idL
  | .fn _ ps => ps.flatMap idL
  | p => idL p
theorem lendT_agree {b : Bool} {m m2 : Mem} {src : List Id} {n : Nat} {p q : PV} (h : lendT b m src n p q) (ha : ∀ o ∈ idL p, m2.o o = m.o o) : lendT b m2 src n p q := by
  unfold lendT at h
  split at h
  · rename_i o sz k off len sz' len' g'
    have := ha o (by simp [idL])
    simp only [lendT, this]
    exact h
  · exact h
  · exact h
  · rename_i h1 h2 h3
    unfold lendT
    split
    · exact (h1 _ _ _ _ _ _ _ _ rfl rfl).elim
    · exact (h2 _ _ _ rfl rfl).elim
    · exact (h3 _ _ _ _ _ _ rfl rfl).elim
    · exact h
theorem lendL_agree {b : Bool} {m m2 : Mem} {src : List Id} {n : Nat} : ∀ {ps qs : List PV}, lendL b m src n ps qs → (∀ o ∈ ps.flatMap idL, m2.o o = m.o o) → lendL b m2 src n ps qs
  | [], [], h, _ => trivial
  | [], _ :: _, h, _ => h.elim
  | _ :: _, [], h, _ => h.elim
  | p :: ps, q :: qs, ⟨h1, h2⟩, ha => by
    simp only [List.flatMap_cons, List.mem_append] at ha
    exact ⟨lendT_agree h1 (fun o ho => ha o (.inl ho)), lendL_agree h2 (fun o ho => ha o (.inr ho))⟩
theorem lendA_agree {b : Bool} {m m2 : Mem} {src : List Id} {n : Nat} {p q : PV} (h : lendA b m src n p q) (ha : ∀ o ∈ idA p, m2.o o = m.o o) : lendA b m2 src n p q := by
  unfold lendA at h
  split at h
  · exact lendL_agree h ha
  · exact ⟨h.1, lendL_agree h.2 ha⟩
  · rename_i h1 h2
    unfold lendA
    split
    · exact (h1 _ _ rfl rfl).elim
    · exact (h2 _ _ _ _ rfl rfl).elim
    · refine lendT_agree h (fun o ho => ha o ?_)
      cases p <;> first | exact ho | (cases ho; done)
theorem argsT_agree {b : Bool} {m m2 : Mem} {src : List Id} {n : Nat} : ∀ {ps qs : List PV}, argsT b m src n ps qs → (∀ o ∈ ps.flatMap idA, m2.o o = m.o o) → argsT b m2 src n ps qs
  | [], [], h, _ => trivial
  | [], _ :: _, h, _ => h.elim
  | _ :: _, [], h, _ => h.elim
  | p :: ps, q :: qs, ⟨h1, h2⟩, ha => by
    simp only [List.flatMap_cons, List.mem_append] at ha
    exact ⟨lendA_agree h1 (fun o ho => ha o (.inl ho)), argsT_agree h2 (fun o ho => ha o (.inr ho))⟩
theorem obT_agree {m m2 : Mem} {src : List Id} {o : Id} {x : Ob} (h : obT m src o x) (ha : m2.o o = m.o o) : obT m2 src o x := by
  cases x <;> simp only [obT, ha] at h ⊢ <;> exact h
theorem obsT_agree {m m2 : Mem} {src : List Id} : ∀ {os : List Id} {xs : List Ob}, obsT m src os xs → (∀ o ∈ os, m2.o o = m.o o) → obsT m2 src os xs
  | [], [], h, _ => trivial
  | [], _ :: _, h, _ => h.elim
  | _ :: _, [], h, _ => h.elim
  | o :: os, x :: xs, ⟨h1, h2⟩, ha => ⟨obT_agree h1 (ha o (by simp)), obsT_agree h2 (fun q hq => ha q (by simp [hq]))⟩
theorem same2_trans {W1 W2 : List Id} {m m1 m2 n n1 n2 : Mem} (h1 : Same2 W1 m m1 n n1) (h2 : Same2 W2 m1 m2 n1 n2) : Same2 (W1 ++ W2) m m2 n n2 := by
  refine ⟨h2.1, fun o => ?_⟩
  rcases h2.2 o with ⟨a, b⟩ | ⟨a, b⟩
  · rcases h1.2 o with ⟨c, d⟩ | ⟨c, d⟩
    · exact .inl ⟨a.trans c, b.trans d⟩
    · exact .inr ⟨List.mem_append_left _ c, by rw [a, b, d]⟩
  · exact .inr ⟨List.mem_append_right _ a, b⟩
theorem setN_same {m m2 : Mem} (h : m2.nx = m.nx) (q : Id) (x : Ob) : Same2 [q] m (m.setN q x) m2 (m2.setN q x) := by
  cases x <;> simp only [Mem.setN]
  case no =>
    refine ⟨h, fun o => ?_⟩
    simp only [Mem.drop, upd]
    by_cases e : o = q
    · exact .inr ⟨by simp [e], by simp [e]⟩
    · exact .inl ⟨by simp [e], by simp [e]⟩
  all_goals exact same_set h q _
theorem growN_same {m m2 : Mem} (h : m2.nx = m.nx) (x : Ob) : Same2 [[m.nx]] m (m.growN x) m2 (m2.growN x) := by
  cases x <;> simp only [Mem.growN]
  case no => exact ⟨by simp [h], fun o => .inl ⟨rfl, rfl⟩⟩
  all_goals exact same_grow h _
theorem aft_same (ns : List Id) : ∀ (src : List Id) (l : List Ob) (m m2 : Mem), m2.nx = m.nx → src.length ≤ l.length → Same2 (nams m.nx src l) m (m.aft ns src l) m2 (m2.aft ns src l)
  | [], [], m, m2, h, _ => same_id h
  | [], x :: l, m, m2, h, _ => by
    have := aft_same ns [] l (m.growN (reO ns x)) (m2.growN (reO ns x)) (by rw [growN_nx, growN_nx, h]) (Nat.zero_le _)
    rw [growN_nx] at this
    exact same2_trans (growN_same h (reO ns x)) this
  | _ :: _, [], _, _, _, h => by simp at h
  | o :: src, x :: l, m, m2, h, hl => by
    have := aft_same ns src l (m.setN o (reO ns x)) (m2.setN o (reO ns x)) (by rw [setN_nx, setN_nx, h]) (by simpa using hl)
    rw [setN_nx] at this
    exact same2_trans (setN_same h o (reO ns x)) this
/-- Each object that is handed over is one. -/
def noN : List Ob → Prop
  | .no :: _ => False
  | _ :: xs => noN xs
  | [] => True
theorem noN_spec : ∀ {l : List Ob}, noN l → ∀ k : Nat, l[k]? ≠ some .no
  | [], _, k, h => by simp at h
  | x :: xs, h, k, hk => by
    have hr : noN xs := by cases x <;> first | exact h.elim | exact h
    cases k with
    | zero => simp at hk; subst hk; exact h
    | succ k => exact noN_spec hr k (by simpa using hk)
section
variable {P : Program} {m : Mem} {K : PV → Mem → List Id → List Id → Prop} {g : FuncId} {args : List PV} {cs : List Bool}
/-- A call: what is handed (src), what is lent, what comes back. -/
theorem AC.go (b : Bool) (src : List Id) {o1 o2 : List Ob} {r1 : PV} {args1 : List PV} (h : AC P g args1 (ML o1) r1 (ML o2)) (ha : argsT b m src o1.length args args1) (hT : obsT m src src o1) (hok1 : ∀ x ∈ o1, okO o1.length x)
    (hx : ∀ o ∈ src, AW.hb o m.nx) (hl : o1.length ≤ o2.length) (hr : okP o2.length r1 ∧ noFn r1) (hok : ∀ x ∈ o2, okO o2.length x) (hn : b = false ∨ (NR r1 ∧ ∀ x ∈ o2, NRO x)) (hnn : ∀ k : Nat, o1[k]? ≠ some .no) (hnd : src.Nodup) :
    ACD P g args m (reP (nams m.nx src o2) r1) (m.aft (nams m.nx src o2) src o2) := by
  obtain ⟨a1, a2⟩ := argsT_wk ha
  have hsl := (obsT_spec hT).1
  obtain ⟨n1, n2, n3⟩ := nams_spec src o2 m.nx (by omega)
  generalize hns : nams m.nx src o2 = ns at *
  have hw : WkM 0 m (lF b src) (srcI src) (ML o1) := WkM_go o1 (Nat.zero_le _) hT hok1 (fun o ho hf => hf.2 ho) (fun k hk => by omega) hnd
  have at1 : ∀ k, k < o1.length → ns[k]? = some (srcI src [k]) := fun k hk => by rw [n2 k (by omega)]; exact srcI_eq (by omega)
  have at2 : ∀ k, o1.length ≤ k → k < o2.length → srcI ns [k] = [m.nx + (k - o1.length)] := fun k h1 h2 => by
    have := n3 k (by omega) h2
    simp only [srcI, List.getD_eq_getElem?_getD, this, Option.getD_some, hsl]
  have e1 : ∀ k, k < o1.length → srcI ns [k] = srcI src [k] := fun k hk => by
    have := at1 k hk
    simp only [srcI, List.getD_eq_getElem?_getD] at this ⊢
    rw [this]; rfl
  have split_ : ∀ (l : List Id) k q, srcI l (k :: q) = srcI l [k] ++ q := fun l k q => by
    cases q with
    | nil => simp
    | cons c q => simp [srcI]
  have hbapp : ∀ (u : Id) q n, u ≠ [] → (AW.hb (u ++ q) n ↔ AW.hb u n) := fun u q n hu => by
    cases u with
    | nil => exact absurd rfl hu
    | cons c u => exact Iff.rfl
  have srcne : ∀ k, k < o1.length → srcI src [k] ≠ [] ∧ AW.hb (srcI src [k]) m.nx := fun k hk => by
    have := hx _ (List.mem_of_getElem? (srcI_eq (src := src) (k := k) (by omega)))
    refine ⟨fun e => ?_, this⟩
    rw [e] at this; exact this
  let dn : Id → Id := fun o => match o with | [] => [] | k :: q => (k - m.nx + o1.length) :: q
  refine AC.gen (lF b src) (srcI src) (srcI ns) dn h a1 a2 hw (fun D tc hD o ho => ?_) (fun o ho => ?_) (fun o ho hno => ?_) (by rw [aft_nx _ _ _ _ (by omega)]; omega) (rn_P hr.1 hr.2) ?_ (fun o y ho => ?_)
  · match o, ho with
    | k :: q, ho =>
      have ho : k < o1.length := ho
      obtain ⟨s1, s2⟩ := srcne k ho
      rw [split_ src k q]
      have hx1 : o1[k]? = some o1[k] := by simp [ho]
      have hno : o1[k] ≠ .no := fun e => hnn k (by rw [hx1, e])
      obtain ⟨_, _, x, h7, _⟩ := hw.ob [k] o1[k] (by
        simp only [ML_at, hx1]
        split
        · rename_i hh; exact absurd (Option.some.inj hh) hno
        · rfl)
      exact tc _ q s1 (hD _ x h7)
  · match o, ho with
    | k :: q, ho =>
      have ho : k < o1.length := ho
      rw [split_ src k q, split_ ns k q, e1 k ho]
  · match o, ho with
    | k :: q, ho =>
      have ho : k < o2.length := ho
      have hno : ¬ k < o1.length := hno
      rw [split_ ns k q, at2 k (by omega) ho, aft_nx _ _ _ _ (by omega)]
      simp only [AW.hb, List.cons_append, List.nil_append, dn]
      refine ⟨by omega, by omega, ?_⟩
      congr 1; omega
  · rcases hn with hn | ⟨h1, h2⟩
    · exact .inl (fun o hF => by rw [hn] at hF; cases hF.1)
    · exact .inr ⟨h1, fun o y hy => by obtain ⟨k, _, hy, _⟩ := ML_get hy; exact h2 y (List.mem_of_getElem? hy)⟩
  · rcases aft_at ns src o2 m (by omega) o y ho with ⟨h1, h2⟩ | ⟨k, x, h1, h2, h3, rfl⟩
    · refine .inl ⟨h1, fun o1' x1 h3 e => h2 ?_⟩
      obtain ⟨k, rfl, h4, _⟩ := ML_get h3
      rw [← e]
      exact List.mem_of_getElem? (srcI_eq (by have := (List.getElem?_eq_some_iff.1 h4).1; omega))
    · rw [hns] at h1
      have hk : k < o2.length := (List.getElem?_eq_some_iff.1 h2).1
      refine .inr ⟨[k], x, ?_, ?_, ?_, fun h4 => ?_⟩
      · simp [srcI, h1]
      · simp only [ML_at, h2]
        cases x <;> first | rfl | exact absurd rfl h3
      · rcases rn_O (ns := ns) (hok x (List.mem_of_getElem? h2)) with h5 | h5
        · exact h5
        · exact absurd h5 h3
      · have h4 : k < o1.length := h4
        have hx1 : o1[k]? = some o1[k] := by simp [h4]
        refine ⟨o1[k], ?_⟩
        simp only [ML_at, hx1]
        have hne : o1[k] ≠ .no := fun e => hnn k (by rw [hx1, e])
        split
        · rename_i hh; exact absurd (Option.some.inj hh) hne
        · rfl
/-- A call looks at its arguments' objects alone. -/
theorem AC.goT (b : Bool) (src : List Id) {o1 o2 : List Ob} {r1 : PV} {args1 : List PV} (h : AC P g args1 (ML o1) r1 (ML o2)) (ha : argsT b m src o1.length args args1) (hT : obsT m src src o1) (hok1 : ∀ x ∈ o1, okO o1.length x)
    (hx : ∀ o ∈ src, AW.hb o m.nx) (hl : o1.length ≤ o2.length) (hr : okP o2.length r1 ∧ noFn r1) (hok : ∀ x ∈ o2, okO o2.length x) (hn : b = false ∨ (NR r1 ∧ ∀ x ∈ o2, NRO x)) (hnn : ∀ k : Nat, o1[k]? ≠ some .no) (hnd : src.Nodup) :
    ACT P g args m (reP (nams m.nx src o2) r1) (m.aft (nams m.nx src o2) src o2) (args.flatMap idA) (nams m.nx src o2) := by
  have hsl := (obsT_spec hT).1
  have hs2 : src.length ≤ o2.length := by omega
  obtain ⟨n1, n2, n3⟩ := nams_spec src o2 m.nx hs2
  refine ⟨by rw [aft_nx _ _ _ _ hs2]; omega, fun m2 e2 hag => ⟨m2.aft (nams m.nx src o2) src o2, aft_same _ src o2 m m2 e2 hs2, ?_⟩⟩
  have hsrc : ∀ o ∈ src, m2.o o = m.o o := fun o ho => hag o (List.mem_append_right _ (by
    obtain ⟨k, hk⟩ := List.getElem?_of_mem ho
    have hlt := (List.getElem?_eq_some_iff.1 hk).1
    exact List.mem_of_getElem? ((n2 k hlt).trans hk)))
  have := AC.go (m := m2) b src h (argsT_agree ha (fun o ho => hag o (List.mem_append_left _ ho))) (obsT_agree hT hsrc) hok1 (by rw [e2]; exact hx) hl hr hok hn hnn hnd
  rwa [e2] at this
theorem acall_go (b : Bool) (src : List Id) {o1 o2 : List Ob} {r1 : PV} {args1 : List PV} (h : AC P g args1 (ML o1) r1 (ML o2)) (ha : argsT b m src o1.length args args1) (hT : obsT m src src o1) (hok1 : ∀ x ∈ o1, okO o1.length x)
    (hx : ∀ o ∈ src, AW.hb o m.nx) (hr : okP o2.length r1 ∧ noFn r1) (hok : ∀ x ∈ o2, okO o2.length x) (hn : b = false ∨ (NR r1 ∧ ∀ x ∈ o2, NRO x)) (hk : K (reP (nams m.nx src o2) r1) (m.aft (nams m.nx src o2) src o2) (args.flatMap idA) (nams m.nx src o2))
    (hl : o1.length ≤ o2.length := by simp) (hnn : noN o1 := by simp [noN]) (hnd : src.Nodup := by decide) {dr : Bool} : acall dr P [] g args m K :=
  .inl ⟨_, _, _, _, fun _ => AC.goT b src h ha hT hok1 hx hl hr hok hn (noN_spec hnn) hnd, .inl rfl, hk⟩
/-- A call that leaves memory alone. -/
theorem acall_p (b : Bool) {r1 : PV} {args1 : List PV} (h : AC P g args1 (ML []) r1 (ML [])) (ha : argsT b m [] 0 args args1) (hr : okP 0 r1 ∧ noFn r1) (hn : b = false ∨ NR r1) (hk : K (gdv cs (reP [] r1)) m (args.flatMap idA) []) {dr : Bool} : acall dr P cs g args m K :=
  .inl ⟨_, _, _, _, fun _ => AC.goT b [] h ha trivial (fun x hx => by simp at hx) (fun o ho => by simp at ho) (Nat.le_refl _) hr (fun x hx => by simp at hx) (hn.imp id fun h => ⟨h, fun x hx => by simp at hx⟩) (by simp) (by simp), .inr rfl, hk⟩
end
end Go.Proofs.YtppfogbgbpadiaaW.AW
namespace Go.Proofs.YtppfogbgbpadiaaW.AW
open Go Go.RowKit
set_option linter.unusedVariables false
set_option linter.unusedSimpArgs false
theorem vc_skip {C : Cx} {P : Program} {Q : Exit → AS → Prop} {s : AS} : vc C P .skip Q s = Q .normal s := rfl
theorem vc_ret {C : Cx} {P : Program} {Q : Exit → AS → Prop} {s : AS} : vc C P .ret Q s = Q .ret s := rfl
theorem vc_exit {C : Cx} {P : Program} {Q : Exit → AS → Prop} {s : AS} {n : Nat} : vc C P (.exit n) Q s = Q (.exit n) s := rfl
theorem vc_block {C : Cx} {P : Program} {Q : Exit → AS → Prop} {s : AS} {n : Nat} {c : Code} : vc C P (.block n c) Q s = vc C P c (blockA n Q) s := rfl
theorem vc_cond {C : Cx} {P : Program} {Q : Exit → AS → Prop} {s : AS} {x : Operand} {a b : Code} : vc C P (.cond x a b) Q s = match s.ev x with | .bool t => (t = true → vc C P a Q s) ∧ (t = false → vc C P b Q s) | _ => False := rfl
theorem vc_region {C : Cx} {P : Program} {Q : Exit → AS → Prop} {s : AS} {n : Nat} {ops : Array Oper} : vc C P (.region n ops false) Q s = arun P C.nt (ops.toList.map (·.dst)) ops.toList (Q .normal) s := rfl
theorem vc_drawn {C : Cx} {P : Program} {Q : Exit → AS → Prop} {s : AS} {n : Nat} {ops : Array Oper} : vc C P (.region n ops true) Q s = (P.follows .mixedOrders = true ∧ drawOk ops = true ∧ arunD P C.nt (ops.toList.map (·.dst)) (nds ops.toList []) 0 [] [] ops.toList (Q .normal) s) := rfl
theorem vc_loop {C : Cx} {P : Program} {Q : Exit → AS → Prop} {s : AS} {c : Code} : vc C P (.loop c) Q s = AL C P c Q s := rfl
theorem thenA_n {K : AS → Prop} {Q : Exit → AS → Prop} {s : AS} : thenA K Q .normal s = K s := rfl
theorem thenA_r {K : AS → Prop} {Q : Exit → AS → Prop} {s : AS} : thenA K Q .ret s = Q .ret s := rfl
theorem thenA_e {K : AS → Prop} {Q : Exit → AS → Prop} {s : AS} {n : Nat} : thenA K Q (.exit n) s = Q (.exit n) s := rfl
theorem blockA_n {Q : Exit → AS → Prop} {s : AS} {n : Nat} : blockA n Q .normal s = Q .normal s := rfl
theorem blockA_r {Q : Exit → AS → Prop} {s : AS} {n : Nat} : blockA n Q .ret s = Q .ret s := rfl
theorem blockA_e {Q : Exit → AS → Prop} {s : AS} {n k : Nat} : blockA n Q (.exit k) s = if k = n then Q .normal s else Q (.exit k) s := rfl
theorem AS_t {t : Nat → PV} {m : Mem} : (⟨t, m⟩ : AS).t = t := rfl
theorem AS_m {t : Nat → PV} {m : Mem} : (⟨t, m⟩ : AS).m = m := rfl
theorem grow_nx {m : Mem} {q : Option Id} {x : Ob} : (m.grow q x).nx = m.nx + 1 := rfl
theorem grow_o {m : Mem} {q : Option Id} {x : Ob} : (m.grow q x).o = upd (m.gone q) [m.nx] (some x) := rfl
theorem gone_n {m : Mem} : m.gone none = m.o := rfl
theorem gone_s {m : Mem} {o : Id} : m.gone (some o) = upd m.o o none := rfl
theorem set_nx {m : Mem} {o : Id} {x : Ob} : (m.set o x).nx = m.nx := rfl
theorem set_o {m : Mem} {o : Id} {x : Ob} : (m.set o x).o = upd m.o o (some x) := rfl
theorem drop_nx {m : Mem} {o : Id} : (m.drop o).nx = m.nx := rfl
theorem drop_o {m : Mem} {o : Id} : (m.drop o).o = upd m.o o none := rfl
theorem growN_b {m : Mem} {cs : List PV} : m.growN (.box cs) = m.grow none (.box cs) := rfl
theorem growN_r {m : Mem} {sz n : Nat} {g : Nat → List PV} : m.growN (.row sz n g) = m.grow none (.row sz n g) := rfl
theorem growN_m {m : Mem} {f : Int → Option PV} : m.growN (.map f) = m.grow none (.map f) := rfl
theorem growN_n {m : Mem} : m.growN .no = ⟨m.o, m.nx + 1⟩ := rfl
theorem setN_b {m : Mem} {o : Id} {cs : List PV} : m.setN o (.box cs) = m.set o (.box cs) := rfl
theorem setN_r {m : Mem} {o : Id} {sz n : Nat} {g : Nat → List PV} : m.setN o (.row sz n g) = m.set o (.row sz n g) := rfl
theorem setN_m {m : Mem} {o : Id} {f : Int → Option PV} : m.setN o (.map f) = m.set o (.map f) := rfl
theorem setN_n {m : Mem} {o : Id} : m.setN o .no = m.drop o := rfl
theorem aft_c {ns : List Id} {m : Mem} {o : Id} {src : List Id} {x : Ob} {l : List Ob} : Mem.aft ns m (o :: src) (x :: l) = Mem.aft ns (m.setN o (reO ns x)) src l := rfl
theorem aft_g {ns : List Id} {m : Mem} {x : Ob} {l : List Ob} : Mem.aft ns m [] (x :: l) = Mem.aft ns (m.growN (reO ns x)) [] l := rfl
theorem aft_n {ns : List Id} {m : Mem} : Mem.aft ns m [] [] = m := rfl
theorem aft_e {ns : List Id} {m : Mem} {o : Id} {src : List Id} : Mem.aft ns m (o :: src) [] = m := rfl
theorem wr64 {n : Int} (h0 : -9223372036854775808 ≤ n) (h1 : n ≤ 9223372036854775807) : IntKind.i64.wrap n = n := w64
/-- What follows an operation, shut till its answer is told. -/
def nxt (P : Program) (nt : Nat) (ds : List (Option Tmp)) (rest : List Oper) (K : AS → Prop) (s : AS) (d : Option Tmp) (r : PV) (m' : Mem) : Prop := arun P nt ds rest K (({ s with m := m' } : AS).put d r)
def nxtD (P : Program) (nt : Nat) (ds : List (Option Tmp)) (N : List Nat) (i : Nat) (rd wr : List (Nat × List Id)) (rest : List Oper) (K : AS → Prop) (s : AS) (d : Option Tmp) (r : PV) (m' : Mem) (R W : List Id) : Prop := evB N rd wr i R W = true ∧ arunD P nt ds N (i + 1) (addE i R rd) (addE i W wr) rest K (({ s with m := m' } : AS).put d r)
theorem k2_is {K : PV → Mem → Prop} {r : PV} {m' : Mem} {R W : List Id} : k2 K r m' R W = K r m' := rfl
theorem kD_is {K : PV → Mem → List Id → List Id → Prop} {r : PV} {m' : Mem} {R W : List Id} : kD K R W r m' = K r m' R W := rfl
theorem nxt_is {P : Program} {nt : Nat} {ds : List (Option Tmp)} {rest : List Oper} {K : AS → Prop} {s : AS} {d : Option Tmp} {r : PV} {m' : Mem} : nxt P nt ds rest K s d r m' = arun P nt ds rest K (({ s with m := m' } : AS).put d r) := rfl
theorem nxtD_is {P : Program} {nt : Nat} {ds : List (Option Tmp)} {N : List Nat} {i : Nat} {rd wr : List (Nat × List Id)} {rest : List Oper} {K : AS → Prop} {s : AS} {d : Option Tmp} {r : PV} {m' : Mem} {R W : List Id} : nxtD P nt ds N i rd wr rest K s d r m' R W = (evB N rd wr i R W = true ∧ arunD P nt ds N (i + 1) (addE i R rd) (addE i W wr) rest K (({ s with m := m' } : AS).put d r)) := rfl
theorem arun_n {P : Program} {nt : Nat} {ds : List (Option Tmp)} {o : Oper} {rest : List Oper} {K : AS → Prop} {s : AS} : arun P nt ds (o :: rest) K s = match agd ds s o.guard with
    | some cs => (o.dst.all (· < nt) = true) ∧ aop P cs o.op (fun x => strip cs (s.ev x)) s.m (nxt P nt ds rest K s o.dst)
    | none => False := rfl
theorem arunD_n {P : Program} {nt : Nat} {ds : List (Option Tmp)} {N : List Nat} {i : Nat} {rd wr : List (Nat × List Id)} {o : Oper} {rest : List Oper} {K : AS → Prop} {s : AS} : arunD P nt ds N i rd wr (o :: rest) K s = match agd ds s o.guard with
    | some cs => (o.dst.all (· < nt) = true) ∧ aopD P cs o.op (fun x => strip cs (s.ev x)) s.m (nxtD P nt ds N i rd wr rest K s o.dst)
    | none => False := rfl
theorem VS : type_of% (And.intro @vc_skip <| And.intro @vc_ret <| And.intro @vc_exit <| And.intro @vc_seq <| And.intro @vc_block <| And.intro @vc_cond <| And.intro @vc_region <| And.intro @vc_loop <| And.intro @thenA_n <| And.intro @thenA_r <| And.intro @thenA_e <| And.intro @blockA_n <| And.intro @blockA_r <| And.intro @blockA_e <| And.intro @AS_t <| And.intro @AS_m <| And.intro @grow_nx <| And.intro @grow_o <| And.intro @gone_n <| And.intro @gone_s <| And.intro @set_nx <| And.intro @set_o <| And.intro @drop_nx <| And.intro @drop_o <| And.intro @growN_b <| And.intro @growN_r <| And.intro @growN_m <| And.intro @growN_n <| And.intro @setN_b <| And.intro @setN_r <| And.intro @setN_m <| And.intro @setN_n <| And.intro @aft_c <| And.intro @aft_g <| And.intro @aft_n <| And.intro @aft_e <| And.intro @ML_nx <| And.intro @ML_at <| And.intro @arun.eq_1 <| And.intro @arun_n <| And.intro @vc_drawn <| And.intro @arunD.eq_1 <| And.intro @arunD_n <| And.intro @nxt_is <| And.intro @nxtD_is <| And.intro @agd.eq_1 @agd.eq_2) :=
  And.intro @vc_skip <| And.intro @vc_ret <| And.intro @vc_exit <| And.intro @vc_seq <| And.intro @vc_block <| And.intro @vc_cond <| And.intro @vc_region <| And.intro @vc_loop <| And.intro @thenA_n <| And.intro @thenA_r <| And.intro @thenA_e <| And.intro @blockA_n <| And.intro @blockA_r <| And.intro @blockA_e <| And.intro @AS_t <| And.intro @AS_m <| And.intro @grow_nx <| And.intro @grow_o <| And.intro @gone_n <| And.intro @gone_s <| And.intro @set_nx <| And.intro @set_o <| And.intro @drop_nx <| And.intro @drop_o <| And.intro @growN_b <| And.intro @growN_r <| And.intro @growN_m <| And.intro @growN_n <| And.intro @setN_b <| And.intro @setN_r <| And.intro @setN_m <| And.intro @setN_n <| And.intro @aft_c <| And.intro @aft_g <| And.intro @aft_n <| And.intro @aft_e <| And.intro @ML_nx <| And.intro @ML_at <| And.intro @arun.eq_1 <| And.intro @arun_n <| And.intro @vc_drawn <| And.intro @arunD.eq_1 <| And.intro @arunD_n <| And.intro @nxt_is <| And.intro @nxtD_is <| And.intro @agd.eq_1 @agd.eq_2
/-- Told of data: what is nameless, what leads into no closed memory, what is lent. -/
theorem NR_iff : (NR .und ↔ True) ∧ (∀ b, NR (.bool b) ↔ True) ∧ (∀ k n, NR (.int k n) ↔ True) ∧ (∀ s, NR (.str s) ↔ True) ∧ (NR .nils ↔ True) ∧ (∀ o sz n off len, NR (.sl o sz n off len) ↔ True) ∧ (∀ o j, NR (.bp o j) ↔ True) ∧
    (∀ sz n g, NR (.ow sz n g) ↔ ∀ i, i < n → ∀ p ∈ g i, NR p) ∧ (∀ ps, NR (.ag ps) ↔ ∀ p ∈ ps, NR p) ∧ (∀ ps, NR (.tu ps) ↔ ∀ p ∈ ps, NR p) :=
  ⟨⟨fun _ => trivial, fun _ => .und⟩, fun b => ⟨fun _ => trivial, fun _ => .bool b⟩, fun k n => ⟨fun _ => trivial, fun _ => .int k n⟩, fun s => ⟨fun _ => trivial, fun _ => .str s⟩, ⟨fun _ => trivial, fun _ => .nils⟩, fun o sz n off len => ⟨fun _ => trivial, fun _ => .sl o sz n off len⟩, fun o j => ⟨fun _ => trivial, fun _ => .bp o j⟩,
    fun sz n g => ⟨fun h => by cases h; assumption, fun h => .ow sz n g h⟩, fun ps => ⟨fun h => by cases h; assumption, fun h => .ag ps h⟩, fun ps => ⟨fun h => by cases h; assumption, fun h => .tu ps h⟩⟩
theorem Nl_nil : Nl [] ↔ True := ⟨fun _ => trivial, fun _ p h => by simp at h⟩
theorem Nl_cons {p : PV} {r : List PV} : Nl (p :: r) ↔ p.nl = true ∧ Nl r := by simp [Nl]
theorem Cvl_nil : Cvl [] [] ↔ True := Iff.rfl
theorem Cvl_cons {p q : PV} {r s : List PV} : Cvl (p :: r) (q :: s) ↔ Cv p q ∧ Cvl r s := Iff.rfl
/-- The elements of a list, as a slice's. -/
def lpv {X : Type} (pv : X → List PV) (xs : List X) (i : Nat) : List PV := match xs[i]? with | some x => pv x | none => []
theorem lpv_at {X : Type} {pv : X → List PV} {xs : List X} {i : Nat} (h : i < xs.length) : lpv pv xs i = pv xs[i] := by simp [lpv, h]
theorem lpv_mem {X : Type} {pv : X → List PV} {xs : List X} {i : Nat} {p : PV} (h : p ∈ lpv pv xs i) : ∃ x ∈ xs, p ∈ pv x := by
  unfold lpv at h
  split at h
  · rename_i x hx; exact ⟨x, List.mem_of_getElem? hx, h⟩
  · simp at h
theorem Nl_lpv {X : Type} {pv : X → List PV} {xs : List X} {i : Nat} (h : ∀ x, Nl (pv x)) : Nl (lpv pv xs i) := fun p hp => by obtain ⟨x, _, hx⟩ := lpv_mem hp; exact h x p hx
theorem NR_lpv {X : Type} {pv : X → List PV} {xs : List X} {i : Nat} (h : ∀ x, ∀ p ∈ pv x, NR p) : ∀ p ∈ lpv pv xs i, NR p := fun p hp => by obtain ⟨x, _, hx⟩ := lpv_mem hp; exact h x p hx
theorem Cvl_lpv {X : Type} {pv qv : X → List PV} {xs : List X} {i : Nat} (h : ∀ x, Cvl (pv x) (qv x)) : Cvl (lpv pv xs i) (lpv qv xs i) := by
  unfold lpv
  cases xs[i]? with
  | none => trivial
  | some x => exact h x
/-- f up to i, g from there on. -/
def upto {X : Type} (i : Nat) (f g : Nat → X) (j : Nat) : X := if j < i then f j else g j
theorem upto_self {X : Type} {i : Nat} {f g : Nat → X} : upto i f g i = g i := by simp [upto]
theorem upto_0 {X : Type} {f g : Nat → X} {j : Nat} : upto 0 f g j = g j := by simp [upto]
theorem upto_eq {X : Type} {i : Nat} {f g : Nat → X} : upto (i + 1) f g i = f i := by simp [upto]
theorem upto_ne {X : Type} {i j : Nat} {f g : Nat → X} (h : j ≠ i) : upto (i + 1) f g j = upto i f g j := by
  unfold upto
  by_cases q : j < i
  · rw [if_pos q, if_pos (by omega)]
  · rw [if_neg q, if_neg (by omega)]
theorem upto_lt {X : Type} {i j : Nat} {f g : Nat → X} (h : j < i) : upto i f g j = f j := by simp [upto, h]
theorem Nl_upto {i j : Nat} {f g : Nat → List PV} (hf : ∀ j, Nl (f j)) (hg : ∀ j, Nl (g j)) : Nl (upto i f g j) := by
  unfold upto; split
  · exact hf j
  · exact hg j
theorem sz_mk (l : List UInt8) : (ByteArray.mk l.toArray).size = l.length := by simp [ByteArray.size]
/-- Lean's own equations, in one. -/
theorem VZ : type_of% (And.intro (@upto_self (List PV)) <| And.intro @pickv_t <| And.intro @pickv_f <| And.intro @pickv_bb <| And.intro @pickv_gb <| And.intro @pickv_bg <| And.intro @pickv_gg <| And.intro (@upd_at Id (Option Ob) _) <| And.intro (@upd_at Nat PV _) <| And.intro (@upd_at Int (Option PV) _) <| And.intro (@upd_at Nat (List PV) _) <| And.intro @mi64 <| And.intro @ma64 <| And.intro @miu8 <| And.intro @mau8 <| And.intro @miu64 <| And.intro @mau64 <| And.intro @and_self <| And.intro @and_true <| And.intro @true_and <| And.intro @and_false <| And.intro @false_and <| And.intro @if_true.{1} <| And.intro @if_false.{1} <| And.intro @List.getD_cons_zero.{0} <| And.intro @List.getD_cons_succ.{0} <| And.intro @List.map_cons.{0, 0} <| And.intro @List.map_nil.{0, 0} <| And.intro @List.getElem?_cons_succ.{0} <| And.intro @List.getElem?_cons_zero.{0} <| And.intro @List.getElem?_nil.{0} <| And.intro @Option.bind_some.{0, 0} <| And.intro @id_eq.{1} <| And.intro @List.all_nil.{0} <| And.intro @forall_const.{1} <| And.intro @forall_const.{0} <| And.intro @Option.all_some.{0} <| And.intro @Option.all_none.{0} <| And.intro @Option.getD_none.{0} <| And.intro @Option.getD_some.{0} <| And.intro @Nat.sub_self <| And.intro @Nat.lt_irrefl <| And.intro @Nat.zero_add <| And.intro @Nat.add_zero <| And.intro @decide_true <| And.intro @decide_false <| And.intro @implies_true.{1} <| And.intro @implies_true.{0} <| And.intro @List.nil_append.{0} <| And.intro @List.append_nil.{0} <| And.intro @List.cons_append.{0} <| And.intro @cond_false.{1} <| And.intro @cond_true.{1} <| And.intro @List.all_cons.{0} <| And.intro @Bool.and_true <| And.intro @Bool.not_true <| And.intro @Bool.not_false <| And.intro @List.drop_zero.{0} <| And.intro @List.drop_succ_cons.{0} <| And.intro @List.take_zero.{0} <| And.intro @List.take_succ_cons.{0} <| And.intro @List.drop_nil.{0} <| And.intro @List.take_nil.{0} <| And.intro @List.length_cons.{0} <| And.intro @List.length_nil.{0} <| And.intro @ne_eq.{1} <| And.intro @not_false_eq_true <| And.intro @not_true_eq_false <| And.intro @Nat.one_ne_zero <| And.intro @Nat.add_one_ne_zero <| And.intro @true_or <| And.intro @or_true <| And.intro @or_self <| And.intro @beq_self_eq_true.{0} <| And.intro @List.size_toArray.{0} <| And.intro @List.mem_cons.{0} <| And.intro @List.not_mem_nil.{0} <| And.intro @or_false <| And.intro @forall_eq.{1} <| And.intro @forall_eq_or_imp.{1} <| And.intro @Int.toNat_natCast <| And.intro @Option.map_some.{0, 0} <| And.intro @Option.bind_none.{0, 0} <| And.intro @Option.map_none.{0, 0} <| And.intro @List.set_cons_zero.{0} <| And.intro @List.set_cons_succ.{0} <| And.intro @Option.isSome_some.{0} <| And.intro @Option.isSome_none.{0} <| And.intro @eq_self.{1} <| And.intro @true_implies <| And.intro @false_implies <| And.intro @Bool.false_eq_true <| And.intro @Bool.true_eq_false <| And.intro @sz_mk <| And.intro @k2_is <| And.intro @kD_is <| And.intro @evOk_p <| And.intro @evOk_e <| And.intro @addE_n <| And.intro @addE_c <| And.intro @List.flatMap_cons.{0, 0} <| And.intro @List.flatMap_nil.{0, 0} @Bool.not_not) :=
  And.intro (@upto_self (List PV)) <| And.intro @pickv_t <| And.intro @pickv_f <| And.intro @pickv_bb <| And.intro @pickv_gb <| And.intro @pickv_bg <| And.intro @pickv_gg <| And.intro (@upd_at Id (Option Ob) _) <| And.intro (@upd_at Nat PV _) <| And.intro (@upd_at Int (Option PV) _) <| And.intro (@upd_at Nat (List PV) _) <| And.intro @mi64 <| And.intro @ma64 <| And.intro @miu8 <| And.intro @mau8 <| And.intro @miu64 <| And.intro @mau64 <| And.intro @and_self <| And.intro @and_true <| And.intro @true_and <| And.intro @and_false <| And.intro @false_and <| And.intro @if_true.{1} <| And.intro @if_false.{1} <| And.intro @List.getD_cons_zero.{0} <| And.intro @List.getD_cons_succ.{0} <| And.intro @List.map_cons.{0, 0} <| And.intro @List.map_nil.{0, 0} <| And.intro @List.getElem?_cons_succ.{0} <| And.intro @List.getElem?_cons_zero.{0} <| And.intro @List.getElem?_nil.{0} <| And.intro @Option.bind_some.{0, 0} <| And.intro @id_eq.{1} <| And.intro @List.all_nil.{0} <| And.intro @forall_const.{1} <| And.intro @forall_const.{0} <| And.intro @Option.all_some.{0} <| And.intro @Option.all_none.{0} <| And.intro @Option.getD_none.{0} <| And.intro @Option.getD_some.{0} <| And.intro @Nat.sub_self <| And.intro @Nat.lt_irrefl <| And.intro @Nat.zero_add <| And.intro @Nat.add_zero <| And.intro @decide_true <| And.intro @decide_false <| And.intro @implies_true.{1} <| And.intro @implies_true.{0} <| And.intro @List.nil_append.{0} <| And.intro @List.append_nil.{0} <| And.intro @List.cons_append.{0} <| And.intro @cond_false.{1} <| And.intro @cond_true.{1} <| And.intro @List.all_cons.{0} <| And.intro @Bool.and_true <| And.intro @Bool.not_true <| And.intro @Bool.not_false <| And.intro @List.drop_zero.{0} <| And.intro @List.drop_succ_cons.{0} <| And.intro @List.take_zero.{0} <| And.intro @List.take_succ_cons.{0} <| And.intro @List.drop_nil.{0} <| And.intro @List.take_nil.{0} <| And.intro @List.length_cons.{0} <| And.intro @List.length_nil.{0} <| And.intro @ne_eq.{1} <| And.intro @not_false_eq_true <| And.intro @not_true_eq_false <| And.intro @Nat.one_ne_zero <| And.intro @Nat.add_one_ne_zero <| And.intro @true_or <| And.intro @or_true <| And.intro @or_self <| And.intro @beq_self_eq_true.{0} <| And.intro @List.size_toArray.{0} <| And.intro @List.mem_cons.{0} <| And.intro @List.not_mem_nil.{0} <| And.intro @or_false <| And.intro @forall_eq.{1} <| And.intro @forall_eq_or_imp.{1} <| And.intro @Int.toNat_natCast <| And.intro @Option.map_some.{0, 0} <| And.intro @Option.bind_none.{0, 0} <| And.intro @Option.map_none.{0, 0} <| And.intro @List.set_cons_zero.{0} <| And.intro @List.set_cons_succ.{0} <| And.intro @Option.isSome_some.{0} <| And.intro @Option.isSome_none.{0} <| And.intro @eq_self.{1} <| And.intro @true_implies <| And.intro @false_implies <| And.intro @Bool.false_eq_true <| And.intro @Bool.true_eq_false <| And.intro @sz_mk <| And.intro @k2_is <| And.intro @kD_is <| And.intro @evOk_p <| And.intro @evOk_e <| And.intro @addE_n <| And.intro @addE_c <| And.intro @List.flatMap_cons.{0, 0} <| And.intro @List.flatMap_nil.{0, 0} @Bool.not_not
/-- So much taken off, or -1. -/
def lessBy (left : Int) (n : Nat) : Int := if left - n < 0 then -1 else left - n
theorem lessBy_m1 {l : Int} {n : Nat} (h : l - n < 0) : lessBy l n = -1 := if_pos h
theorem lessBy_ok {l : Int} {n : Nat} (h : ¬ l - n < 0) : lessBy l n = l - n := if_neg h
theorem lessBy_cases (l : Int) (n : Nat) : (l - n < 0 ∧ lessBy l n = -1) ∨ (0 ≤ l - n ∧ lessBy l n = l - n) := by unfold lessBy; split <;> omega
end Go.Proofs.YtppfogbgbpadiaaW.AW
namespace Go.Proofs.YtppfogbgbpadiaaW.AW
open Go Go.RowKit Go.ChangeShapes Go.WideShapes
set_option linter.unusedVariables false
set_option linter.unusedSimpArgs false
def hS (W : World) (k : Nat) : Prop := k < W.heap.size
def CellsOk (W : World) (cs : List Value) (ps : List PV) : Prop := cs.length = ps.length ∧ ∀ (j : Nat) (p : PV), ps[j]? = some p → (cs.getD j undef).oneCell' = true ∧ RV W (hS W) (cs.getD j undef) p
/-- Cells at type t that read as data are told by pv of something, which is as wf says. -/
structure Opn (P : Program) (t : TypeId) {X : Type} (n : Nat) (pv : X → List PV) (wf : X → Prop) : Prop where
  len : ∀ x, (pv x).length = n
  op : ∀ (H : Type) (enc : TypeId × Value → H) (W : World) (fuel : Nat) (cs : List Value) (x : DataW H × List MemPlace), DataW.trod enc P W 0 (fun _ => true) true fuel t cs = some x → ∃ a, CellsOk W cs (pv a) ∧ wf a
theorem cells_one {W : World} {v : Value} {p : PV} (h1 : v.oneCell' = true) (h : RV W (hS W) v p) : CellsOk W [v] [p] := ⟨rfl, fun j q hq => by
  cases j with
  | zero => simp at hq; subst hq; exact ⟨h1, h⟩
  | succ j => simp at hq⟩
section
variable {P : Program} {t e : TypeId}
theorem opn_int {k : IntKind} (ht : P.underlying t = some (.int k)) : Opn P t 1 (fun n => [.int k n]) (fun n => k.min ≤ n ∧ n ≤ k.max) := ⟨fun _ => rfl, by
  intro H enc W fuel cs x h
  obtain ⟨n, rfl, rfl, hw⟩ := DataW.trod_int ht h
  have hw : k.min ≤ n ∧ n ≤ k.max := by simpa [Lit.wf] using hw
  exact ⟨n, cells_one rfl (.int k n hw), hw⟩⟩
theorem opn_bool (ht : P.underlying t = some .bool) : Opn P t 1 (fun b => [.bool b]) (fun _ => True) := ⟨fun _ => rfl, by
  intro H enc W fuel cs x h
  obtain ⟨n, rfl, rfl⟩ := DataW.trod_bool ht h
  exact ⟨n, cells_one rfl (.bool n), trivial⟩⟩
theorem opn_string (ht : P.underlying t = some .string) : Opn P t 1 (fun s => [.str s]) (fun s => s.size ≤ 9223372036854775807) := ⟨fun _ => rfl, by
  intro H enc W fuel cs x h
  obtain ⟨n, rfl, rfl, hw⟩ := DataW.trod_string ht h
  exact ⟨n, cells_one rfl (.str n hw), hw⟩⟩
theorem list_of {X : Type} {Q : Nat → X → Prop} : ∀ n, (∀ i, i < n → ∃ a, Q i a) → ∃ xs : List X, xs.length = n ∧ ∀ i x, xs[i]? = some x → Q i x
  | 0, _ => ⟨[], rfl, fun i x h => by simp at h⟩
  | n + 1, h => by
    obtain ⟨xs, hl, hx⟩ := list_of n (fun i hi => h i (by omega))
    obtain ⟨a, ha⟩ := h n (by omega)
    refine ⟨xs ++ [a], by rw [List.length_append, hl]; rfl, fun i x hi => ?_⟩
    rcases Nat.lt_or_ge i xs.length with hlt | hge
    · rw [List.getElem?_append_left hlt] at hi
      exact hx i x hi
    · have : i = xs.length := by
        have := (List.getElem?_eq_some_iff.1 hi).1
        rw [List.length_append, List.length_singleton] at this
        omega
      subst this
      have : a = x := by simpa using hi
      subst this
      rw [hl]; exact ha
theorem cell_lt {w : World} {a : Addr} {v : Value} (h : w.cell? a = some v) : a.block < w.heap.size := by
  unfold World.cell? at h
  cases hb : w.heap[a.block]? with
  | none => rw [hb] at h; simp at h
  | some _ => exact (Array.getElem?_eq_some_iff.1 hb).1
theorem opn_slice {X : Type} {n : Nat} {pv : X → List PV} {wf : X → Prop} (ht : P.underlying t = some (.slice e)) (hc : P.cellsOf e = n) (hn : 0 < n) (h : Opn P e n pv wf) :
    Opn P t 1 (fun xs => [.cl n xs.length (lpv pv xs)]) (fun xs => xs.length ≤ 9223372036854775807 ∧ ∀ x ∈ xs, wf x) := ⟨fun _ => rfl, by
  intro H enc W fuel cs x hx
  rcases Deep.open_slice ht hx with ⟨rfl, _⟩ | ⟨a, len, cap, m, k, D, Pl, rfl, _, hl, hm, hmm, _, hel⟩
  · exact ⟨[], cells_one rfl (.cl0 _ _ _ _), by simp, fun x hx => by simp at hx⟩
  · have hm' : m = cap := by simpa using hmm
    subst hm'
    have hmax : m ≤ 9223372036854775807 := hm
    obtain ⟨xs, hxl, hxs⟩ := list_of (Q := fun i (y : X) => ∃ c, CellsOk W c (pv y) ∧ wf y ∧ ∀ j u, c[j]? = some u → W.cell? (a.add (i * n + j)) = some u) len (fun i hi => by
      obtain ⟨cs', hcs, htr⟩ := hel i (by omega)
      obtain ⟨y, hK, hw⟩ := h.op H enc W k cs' _ htr
      refine ⟨y, cs', hK, hw, fun j u hu => ?_⟩
      obtain ⟨_, hlen, hget⟩ := World.cells?_some hcs
      have hj : j < P.cellsOf e := by
        have := (List.getElem?_eq_some_iff.1 hu).1
        omega
      have := hget j hj
      rw [hu, Addr.add_add, hc] at this
      exact this)
    subst hxl
    have at_ : ∀ i, i < xs.length → ∃ y, xs[i]? = some y ∧ lpv pv xs i = pv y := fun i hi => ⟨xs[i], by simp [hi], by simp [lpv, hi]⟩
    refine ⟨xs, ?_, by omega, fun y hy => ?_⟩
    · rcases Nat.eq_zero_or_pos xs.length with h0 | h0
      · refine cells_one rfl ?_
        rw [h0]; exact .cl0 _ _ _ _
      · refine cells_one rfl (.cl a xs.length m n _ (fun i j => ((W.cell? (a.add (i * n + j))).getD undef)) hl hmax ?_ (fun i hi => ?_) (fun i j p hi hp => ?_) (fun i j p hi hp => ?_) (fun i j p hi hp => ?_))
        · obtain ⟨y, hy, _⟩ := at_ 0 h0
          obtain ⟨c, h1, _, h3⟩ := hxs 0 y hy
          have hlc : 0 < c.length := by rw [h1.1, h.len]; exact hn
          have := cell_lt (h3 0 c[0] (by simp))
          rwa [aadd_block] at this
        · obtain ⟨y, _, hy2⟩ := at_ i hi
          rw [hy2, h.len]
        all_goals
          obtain ⟨y, hy, hy2⟩ := at_ i hi
          rw [hy2] at hp
          obtain ⟨c, h1, _, h3⟩ := hxs i y hy
          have hj : j < c.length := by rw [h1.1]; exact (List.getElem?_eq_some_iff.1 hp).1
          have hcell := h3 j c[j] (by simp)
          have hg : c.getD j undef = c[j] := by simp [List.getD, hj]
        · rw [hcell]; rfl
        · rw [hcell]; have := (h1.2 j p hp).1; rw [hg] at this; exact this
        · rw [hcell]; have := (h1.2 j p hp).2; rw [hg] at this; exact this
    · obtain ⟨i, hi⟩ := List.getElem?_of_mem hy
      obtain ⟨c, _, hw, _⟩ := hxs i y hi
      exact hw⟩
/-- The same cells, told otherwise. -/
theorem Opn.as {X Y : Type} {n : Nat} {pv : X → List PV} {wf : X → Prop} {pv' : Y → List PV} {wf' : Y → Prop} (h : Opn P t n pv wf) (f : X → Y) (hp : ∀ x, pv x = pv' (f x)) (hl : ∀ y, (pv' y).length = n) (hw : ∀ x, wf x → wf' (f x)) : Opn P t n pv' wf' := ⟨hl, by
  intro H enc W fuel cs x hx
  obtain ⟨a, h1, h2⟩ := h.op H enc W fuel cs x hx
  exact ⟨f a, hp a ▸ h1, hw a h2⟩⟩
/-- The fields from off on. -/
structure OpnFs (P : Program) (fs : List Field) (off : Nat) {X : Type} (n : Nat) (pv : X → List PV) (wf : X → Prop) : Prop where
  len : ∀ x, (pv x).length = n
  op : ∀ (H : Type) (enc : TypeId × Value → H) (W : World) (k : Nat) (cs : List Value), off + n = cs.length →
    (∀ f ∈ fs, ∃ y, DataW.trod enc P W 0 (fun _ => true) true k f.type ((cs.drop f.offset).take (P.cellsOf f.type)) = some y) → ∃ a, CellsOk W (cs.drop off) (pv a) ∧ wf a
theorem opn_f1 {X : Type} {n : Nat} {pv : X → List PV} {wf : X → Prop} {f : Field} {off : Nat} (ho : f.offset = off) (hc : P.cellsOf f.type = n) (h : Opn P f.type n pv wf) : OpnFs P [f] off n pv wf := ⟨h.len, by
  intro H enc W k cs hl hf
  obtain ⟨y, hy⟩ := hf f (by simp)
  rw [ho, hc, List.take_of_length_le (by rw [List.length_drop]; omega)] at hy
  exact h.op H enc W k _ y hy⟩
theorem opn_fc {X Y : Type} {n n' : Nat} {pv : X → List PV} {pv' : Y → List PV} {wf : X → Prop} {wf' : Y → Prop} {f : Field} {fs : List Field} {off : Nat} (ho : f.offset = off) (hc : P.cellsOf f.type = n) (h : Opn P f.type n pv wf) (hs : OpnFs P fs (off + n) n' pv' wf') :
    OpnFs P (f :: fs) off (n + n') (fun x : X × Y => pv x.1 ++ pv' x.2) (fun x => wf x.1 ∧ wf' x.2) := ⟨fun x => by rw [List.length_append, h.len, hs.len], by
  intro H enc W k cs hl hf
  obtain ⟨y, hy⟩ := hf f (by simp)
  rw [ho, hc] at hy
  obtain ⟨a, hK, hw⟩ := h.op H enc W k _ y hy
  obtain ⟨b, hK', hw'⟩ := hs.op H enc W k cs (by omega) (fun g hg => hf g (by simp [hg]))
  refine ⟨(a, b), ⟨?_, fun j p hp => ?_⟩, hw, hw'⟩
  · have := hK.1; have := hK'.1
    simp only [List.length_append, List.length_drop, List.length_take] at *
    have := h.len a; have := hs.len b
    omega
  · rcases Nat.lt_or_ge j n with hj | hj
    · rw [List.getElem?_append_left (by rw [h.len]; exact hj)] at hp
      have := hK.2 j p hp
      have e : ((cs.drop off).take n).getD j undef = (cs.drop off).getD j undef := by simp [List.getD, List.getElem?_take, hj]
      rw [e] at this; exact this
    · rw [List.getElem?_append_right (by rw [h.len]; exact hj), h.len] at hp
      have := hK'.2 _ p hp
      have e : (cs.drop (off + n)).getD (j - n) undef = (cs.drop off).getD j undef := by
        simp only [List.getD, List.getElem?_drop]
        rw [show off + n + (j - n) = off + j by omega]
      rw [e] at this; exact this⟩
theorem opn_struct {X : Type} {n : Nat} {pv : X → List PV} {wf : X → Prop} {fs : Array Field} (ht : P.underlying t = some (.struct fs)) (hc : P.cellsOf t = n) (h : OpnFs P fs.toList 0 n pv wf) : Opn P t n pv wf := ⟨h.len, by
  intro H enc W fuel cs x hx
  obtain ⟨xs, k, _, _, hl, hxl, hf⟩ := DataW.trod_struct ht hx
  obtain ⟨a, hK, hw⟩ := h.op H enc W k cs (by omega) (fun f hf' => by
    obtain ⟨i, hi⟩ := List.getElem?_of_mem hf'
    have hi' : fs[i]? = some f := by simpa using hi
    have hlt : i < xs.length := by
      have := (Array.getElem?_eq_some_iff.1 hi').1
      omega
    exact ⟨xs[i], by rw [hf i f hi', List.getElem?_eq_getElem hlt]⟩)
  exact ⟨a, by simpa using hK, hw⟩⟩
/-- A struct handed in by value. -/
theorem opn_ag {X : Type} {n : Nat} {pv : X → List PV} {wf : X → Prop} {fs : Array Field} (ht : P.underlying t = some (.struct fs)) (h : Opn P t n pv wf) {H : Type} {enc : TypeId × Value → H} {W : World} {r : Reach} {b0 : Nat} {v : Value} {x : DataW H} {p : List MemPlace}
    (hok : Value.okWide P W r b0 t v) (hv : DataW.Trod enc P W 0 (fun _ => true) true t v x p) : ∃ a, RV W (hS W) v (.ag (pv a)) ∧ wf a := by
  obtain ⟨cs, rfl, _⟩ := okWide_struct ht hok
  obtain ⟨fuel, hf⟩ := hv
  obtain ⟨a, hK, hw⟩ := h.op H enc W fuel _ _ hf
  have hK : CellsOk W cs.toList (pv a) := hK
  refine ⟨a, .ag cs _ (by simpa using hK.1) (fun j q hq => ?_) (fun j q hq => ?_), hw⟩
  · have := (hK.2 j q hq).1; simpa [List.getD, Array.getD_eq_getD_getElem?] using this
  · have := (hK.2 j q hq).2; simpa [List.getD, Array.getD_eq_getD_getElem?] using this
end
/-- The whole: a contract on closed values alone leaves what there was. -/
theorem AC.row {P : Program} {f : FuncId} {args : List PV} {b : Bool} (h : AC P f args (ML []) (.bool b) (ML [])) {W : World} {vs : Array Value} (hl : vs.size = args.length) (hv : ∀ (i : Nat) (p : PV), args[i]? = some p → RV W (hS W) (vs.getD i undef) p) :
    Calls P f vs W fun e W' => e = .returned (.bool b) ∧ Below W.heap.size W W' := by
  have hm : MR W (hS W) (ML []) (fun _ => 0) (fun _ => 0) (fun _ _ => False) := ⟨fun o x h => by obtain ⟨k, _, h2, _⟩ := ML_get h; simp at h2, fun o x k _ h => h.elim, fun o o' x x' k _ _ h => h.elim, fun o x h => by obtain ⟨k, _, h2, _⟩ := ML_get h; simp at h2, fun _ h => h⟩
  refine (h.2 W vs (hS W) (fun _ => 0) (fun _ => 0) _ hm hl (fun i p hp => .rv _ _ (hv i p hp))).mono ?_
  rintro e W' ⟨v, S', β', κ', A', rfl, h1, h2, h3⟩
  rw [h1.bool_inv]
  exact ⟨rfl, h3.os, h3.tape, h3.output, h3.size, fun k hk => h3.keep k hk (fun ⟨_, _, _, h⟩ => h)⟩
end Go.Proofs.YtppfogbgbpadiaaW.AW
