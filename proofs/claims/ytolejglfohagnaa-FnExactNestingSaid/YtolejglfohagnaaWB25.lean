/- Calls by contract. Plain lemmas: no statement of the program. -/
import Derived.Test.YtolejglfohagnaaWB24
namespace Go.Proofs.YtolejglfohagnaaW.AW
open Go Go.RowKit
set_option linter.unusedVariables false
set_option linter.unusedSimpArgs false

/-- A cell read closed. -/
def Cv (p q : PV) : Prop := ∀ m F, Wc m F p q
def Cvl : List PV → List PV → Prop
  | p :: ps, q :: qs => Cv p q ∧ Cvl ps qs
  | [], [] => True
  | _, _ => False
theorem Cvl_spec : ∀ {ps qs : List PV}, Cvl ps qs ↔ qs.length = ps.length ∧ ∀ (j : Nat) (p q : PV), ps[j]? = some p → qs[j]? = some q → Cv p q
  | [], [] => ⟨fun _ => ⟨rfl, fun j p q h => by simp at h⟩, fun _ => trivial⟩
  | [], _ :: _ => ⟨fun h => h.elim, fun h => by simp at h⟩
  | _ :: _, [] => ⟨fun h => h.elim, fun h => by simp at h⟩
  | p :: ps, q :: qs => by
    simp only [Cvl]
    rw [Cvl_spec (ps := ps) (qs := qs)]
    constructor
    · rintro ⟨h1, h2, h3⟩
      refine ⟨by simp [h2], fun j a b ha hb => ?_⟩
      cases j with
      | zero => simp at ha hb; subst ha; subst hb; exact h1
      | succ j => exact h3 j a b (by simpa using ha) (by simpa using hb)
    · rintro ⟨h1, h2⟩
      exact ⟨h2 0 p q rfl rfl, by simpa using h1, fun j a b ha hb => h2 (j + 1) a b (by simpa using ha) (by simpa using hb)⟩
theorem Cv_bool {b} : Cv (.bool b) (.bool b) ↔ True := ⟨fun _ => trivial, fun _ _ _ => .bool b⟩
theorem Cv_int {k n} : Cv (.int k n) (.int k n) ↔ True := ⟨fun _ => trivial, fun _ _ _ => .int k n⟩
theorem Cv_str {s} : Cv (.str s) (.str s) ↔ True := ⟨fun _ => trivial, fun _ _ _ => .str s⟩
theorem Cv_nils : Cv .nils .nils ↔ True := ⟨fun _ => trivial, fun _ _ _ => .nils⟩
theorem Cv_nilc {sz n g} : Cv .nils (.cl sz n g) ↔ n = 0 := ⟨fun h => by cases h ⟨fun _ => none, 0⟩ (fun _ => False); rfl, fun h _ _ => by subst h; exact .nilc sz g⟩
theorem Cv_cl {sz n g} : Cv (.cl sz n g) (.cl sz n g) ↔ True := ⟨fun _ => trivial, fun _ _ _ => .cl sz n g g (fun _ _ => rfl)⟩
theorem Cv_und {p} : Cv p .und ↔ True := ⟨fun _ => trivial, fun _ _ _ => .und p⟩
theorem Cv_ow {sz n g sz' n' g'} : Cv (.ow sz n g) (.cl sz' n' g') ↔ sz' = sz ∧ n' = n ∧ ∀ i, i < n → Cvl (g i) (g' i) := by
  constructor
  · intro h
    have h0 := h ⟨fun _ => none, 0⟩ (fun _ => False)
    cases h0 with
    | ow _ _ _ _ hl hc =>
      refine ⟨rfl, rfl, fun i hi => Cvl_spec.2 ⟨hl i hi, fun j p q hp hq m F => ?_⟩⟩
      cases h m F with
      | ow _ _ _ _ hl hc => exact hc i j p q hi hp hq
  · rintro ⟨rfl, rfl, h⟩ m F
    exact .ow _ _ _ _ (fun i hi => (Cvl_spec.1 (h i hi)).1) (fun i j p q hi hp hq => (Cvl_spec.1 (h i hi)).2 j p q hp hq m F)
/-- An argument as the callee has it: names, or (where b) what one holds, lent to be read. -/
def lendT (b : Bool) (m : Mem) (src : List Id) (n : Nat) : PV → PV → Prop
  | .sl o sz k off len, .cl sz' len' g' => b = true ∧ sz' = sz ∧ len' = len ∧ o ∉ src ∧ (match m.o o with | some (.row sz2 k2 g) => sz2 = sz ∧ k2 = k ∧ ∀ i, i < len → Cvl (g (off + i)) (g' i) | _ => False)
  | .nils, .cl _ n' _ => n' = 0
  | .cl sz k g, .cl sz' k' g' => sz' = sz ∧ k' = k ∧ ∀ i, i < k → g' i = g i
  | p, q => p = reC src q ∧ okC n q
def lendL (b : Bool) (m : Mem) (src : List Id) (n : Nat) : List PV → List PV → Prop
  | p :: ps, q :: qs => lendT b m src n p q ∧ lendL b m src n ps qs
  | [], [] => True
  | _, _ => False
def lendA (b : Bool) (m : Mem) (src : List Id) (n : Nat) : PV → PV → Prop
  | .ag ps, .ag qs => lendL b m src n ps qs
  | .fn f ps, .fn f' qs => f' = f ∧ lendL b m src n ps qs
  | p, q => lendT b m src n p q
def argsT (b : Bool) (m : Mem) (src : List Id) (n : Nat) : List PV → List PV → Prop
  | p :: ps, q :: qs => lendA b m src n p q ∧ argsT b m src n ps qs
  | [], [] => True
  | _, _ => False
section
variable {b : Bool} {m : Mem} {src : List Id} {n : Nat}
def lF (b : Bool) (src : List Id) (o : Id) : Prop := b = true ∧ o ∉ src
theorem lendT_wk {p q : PV} (h : lendT b m src n p q) : Wk m (lF b src) (srcI src) n p q := by
  unfold lendT at h
  split at h
  · rename_i o sz k off len sz' len' g'
    obtain ⟨h1, rfl, rfl, h4, h5⟩ := h
    split at h5
    · rename_i sz2 k2 g ho
      obtain ⟨rfl, rfl, h6⟩ := h5
      exact .c _ _ (.close o _ _ off _ g g' ⟨h1, h4⟩ ho (fun i hi => (Cvl_spec.1 (h6 i hi)).1) (fun i j p q hi hp hq => (Cvl_spec.1 (h6 i hi)).2 j p q hp hq m _))
    · exact h5.elim
  · subst h; exact .c _ _ (.nilc _ _)
  · obtain ⟨rfl, rfl, h3⟩ := h; exact .c _ _ (.cl _ _ _ _ h3)
  · rw [h.1]; exact wk_C h.2
theorem lendL_wk : ∀ {ps qs : List PV}, lendL b m src n ps qs → qs.length = ps.length ∧ ∀ (j : Nat) (p q : PV), ps[j]? = some p → qs[j]? = some q → Wk m (lF b src) (srcI src) n p q
  | [], [], _ => ⟨rfl, fun j p q h => by simp at h⟩
  | p :: ps, q :: qs, ⟨h1, h2⟩ => by
    obtain ⟨h3, h4⟩ := lendL_wk h2
    refine ⟨by simp [h3], fun j a c ha hc => ?_⟩
    cases j with
    | zero => simp at ha hc; subst ha; subst hc; exact lendT_wk h1
    | succ j => exact h4 j a c (by simpa using ha) (by simpa using hc)
theorem lendA_wk {p q : PV} (h : lendA b m src n p q) : Wk m (lF b src) (srcI src) n p q := by
  unfold lendA at h
  split at h
  · obtain ⟨h1, h2⟩ := lendL_wk h; exact .ag _ _ h1 h2
  · obtain ⟨rfl, h⟩ := h; obtain ⟨h1, h2⟩ := lendL_wk h; exact .fn _ _ _ h1 h2
  · exact lendT_wk h
theorem argsT_wk : ∀ {ps qs : List PV}, argsT b m src n ps qs → qs.length = ps.length ∧ ∀ (j : Nat) (p q : PV), ps[j]? = some p → qs[j]? = some q → Wk m (lF b src) (srcI src) n p q
  | [], [], _ => ⟨rfl, fun j p q h => by simp at h⟩
  | p :: ps, q :: qs, ⟨h1, h2⟩ => by
    obtain ⟨h3, h4⟩ := argsT_wk h2
    refine ⟨by simp [h3], fun j a c ha hc => ?_⟩
    cases j with
    | zero => simp at ha hc; subst ha; subst hc; exact lendA_wk h1
    | succ j => exact h4 j a c (by simpa using ha) (by simpa using hc)
end
/-- The names of what a call hands back: those that it was handed, then new ones. -/
def nams (nx : Nat) : List Id → List Ob → List Id
  | o :: src, _ :: l => o :: nams nx src l
  | [], _ :: l => [nx] :: nams (nx + 1) [] l
  | _, [] => []
def reO (ns : List Id) : Ob → Ob
  | .box qs => .box (qs.map (reC ns))
  | x => x
def Mem.setN (m : Mem) (o : Id) : Ob → Mem
  | .no => m.drop o
  | x => m.set o x
def Mem.growN (m : Mem) : Ob → Mem
  | .no => ⟨m.o, m.nx + 1⟩
  | x => m.grow none x
def Mem.aft (ns : List Id) : Mem → List Id → List Ob → Mem
  | m, o :: src, x :: l => Mem.aft ns (m.setN o (reO ns x)) src l
  | m, [], x :: l => Mem.aft ns (m.growN (reO ns x)) [] l
  | m, _, [] => m
theorem setN_nx (m : Mem) (o : Id) (x : Ob) : (m.setN o x).nx = m.nx := by cases x <;> rfl
theorem growN_nx (m : Mem) (x : Ob) : (m.growN x).nx = m.nx + 1 := by cases x <;> rfl
theorem setN_at {m : Mem} {o o' : Id} {x y : Ob} (h : (m.setN o x).o o' = some y) : (o' = o ∧ y = x ∧ x ≠ .no) ∨ (o' ≠ o ∧ m.o o' = some y) := by
  cases x <;> simp only [Mem.setN, Mem.drop, Mem.set, upd] at h <;> split at h <;> rename_i e <;> first | cases h | skip
  all_goals first
    | exact .inr ⟨e, h⟩
    | exact .inl ⟨e, rfl, fun h => by cases h⟩
theorem growN_at {m : Mem} {o' : Id} {x y : Ob} (h : (m.growN x).o o' = some y) : (o' = [m.nx] ∧ y = x ∧ x ≠ .no) ∨ m.o o' = some y := by
  cases x <;> simp only [Mem.growN, Mem.grow, Mem.gone, upd] at h <;> first | exact .inr h | (split at h <;> rename_i e <;> first | (cases h; exact .inl ⟨e, rfl, fun h => by cases h⟩) | exact .inr h)
theorem nams_spec : ∀ (src : List Id) (l : List Ob) (nx : Nat), src.length ≤ l.length → (nams nx src l).length = l.length ∧ (∀ k, k < src.length → (nams nx src l)[k]? = src[k]?) ∧ ∀ k, src.length ≤ k → k < l.length → (nams nx src l)[k]? = some [nx + (k - src.length)]
  | [], [], nx, _ => ⟨rfl, fun k h => by simp at h, fun k _ h => by simp at h⟩
  | [], x :: l, nx, _ => by
    obtain ⟨h1, _, h3⟩ := nams_spec [] l (nx + 1) (Nat.zero_le _)
    refine ⟨by simp [nams, h1], fun k h => by simp at h, fun k _ h => ?_⟩
    cases k with
    | zero => simp [nams]
    | succ k =>
      have := h3 k (Nat.zero_le _) (by simpa using h)
      simp only [nams, List.getElem?_cons_succ, this]
      simp; omega
  | _ :: _, [], _, h => by simp at h
  | o :: src, x :: l, nx, h => by
    obtain ⟨h1, h2, h3⟩ := nams_spec src l nx (by simpa using h)
    refine ⟨by simp [nams, h1], fun k hk => ?_, fun k hk h => ?_⟩
    · cases k with
      | zero => simp [nams]
      | succ k => simpa [nams] using h2 k (by simpa using hk)
    · cases k with
      | zero => simp at hk
      | succ k =>
        have := h3 k (by simpa using hk) (by simpa using h)
        simp only [nams, List.getElem?_cons_succ, this, List.length_cons]
        simp
theorem aft_nx (ns : List Id) : ∀ (src : List Id) (l : List Ob) (m : Mem), src.length ≤ l.length → (m.aft ns src l).nx = m.nx + (l.length - src.length)
  | [], [], m, _ => rfl
  | [], x :: l, m, _ => by simp only [Mem.aft]; rw [aft_nx ns [] l _ (Nat.zero_le _), growN_nx]; simp; omega
  | _ :: _, [], _, h => by simp at h
  | o :: src, x :: l, m, h => by simp only [Mem.aft]; rw [aft_nx ns src l _ (by simpa using h), setN_nx]; simp
theorem aft_at (ns : List Id) : ∀ (src : List Id) (l : List Ob) (m : Mem), src.length ≤ l.length → ∀ o y, (m.aft ns src l).o o = some y → (m.o o = some y ∧ o ∉ src) ∨ ∃ (k : Nat) (x : Ob), (nams m.nx src l)[k]? = some o ∧ l[k]? = some x ∧ x ≠ .no ∧ y = reO ns x
  | [], [], m, _, o, y, h => .inl ⟨h, by simp⟩
  | [], x :: l, m, _, o, y, h => by
    simp only [Mem.aft] at h
    rcases aft_at ns [] l _ (Nat.zero_le _) o y h with ⟨h1, _⟩ | ⟨k, x', h1, h2, h3, h4⟩
    · rcases growN_at h1 with ⟨rfl, rfl, h5⟩ | h1
      · exact .inr ⟨0, x, rfl, rfl, fun e => h5 (by rw [e]; rfl), rfl⟩
      · exact .inl ⟨h1, by simp⟩
    · rw [growN_nx] at h1
      exact .inr ⟨k + 1, x', by simpa [nams] using h1, by simpa using h2, h3, h4⟩
  | _ :: _, [], _, h, _, _, _ => by simp at h
  | p :: src, x :: l, m, hl, o, y, h => by
    simp only [Mem.aft] at h
    rcases aft_at ns src l _ (by simpa using hl) o y h with ⟨h1, h2⟩ | ⟨k, x', h1, h2, h3, h4⟩
    · rcases setN_at h1 with ⟨rfl, rfl, h5⟩ | ⟨h5, h6⟩
      · exact .inr ⟨0, x, rfl, rfl, fun e => h5 (by rw [e]; rfl), rfl⟩
      · exact .inl ⟨h6, by simp [h2, h5]⟩
    · rw [setN_nx] at h1
      exact .inr ⟨k + 1, x', by simpa [nams] using h1, by simpa using h2, h3, h4⟩
section
variable {ns : List Id} {τ : Id → Id} {n : Nat}
theorem rn_C {q : PV} (h : okC n q) : Rn (srcI ns) q (reC ns q) := by
  cases q with
  | sl o sz k off len => exact .sl o sz k off len
  | bp o j => exact .bp o j
  | pt o sz k i j => exact .pt o sz k i j
  | mp o => exact .mp o
  | ag _ => exact h.elim
  | tu _ => exact h.elim
  | fn _ _ => exact h.elim
  | gd _ _ => exact h.elim
  | ow _ _ _ => exact h.elim
  | _ => exact .same _ rfl
theorem rn_D {q : PV} (h : okD n q) : Rn (srcI ns) q (reC ns q) := by
  cases q with
  | ow sz k g => exact .ow sz k g
  | sl o sz k off len => exact .sl o sz k off len
  | bp o j => exact .bp o j
  | pt o sz k i j => exact .pt o sz k i j
  | mp o => exact .mp o
  | ag _ => exact h.elim
  | tu _ => exact h.elim
  | fn _ _ => exact h.elim
  | gd _ _ => exact h.elim
  | _ => exact .same _ rfl
theorem rn_nl {q : PV} (h : q.nl = true) : Rn (srcI ns) q q := by
  cases q with
  | ow sz k g => exact .ow sz k g
  | sl => cases h
  | bp => cases h
  | pt => cases h
  | mp => cases h
  | ag _ => cases h
  | tu _ => cases h
  | fn _ _ => cases h
  | gd _ _ => cases h
  | _ => exact .same _ rfl
theorem okA_fn {q : PV} (h : okA n q) : (∃ cs, q = .ag cs ∧ ∀ p ∈ cs, okC n p) ∨ (∃ f cs, q = .fn f cs) ∨ (reA ns q = reC ns q ∧ okC n q) := by
  rcases notA ns n q with ⟨cs, rfl⟩ | h1 | ⟨h1, h2⟩
  · exact .inl ⟨cs, rfl, h⟩
  · exact .inr (.inl h1)
  · exact .inr (.inr ⟨h1, by rw [← h2]; exact h⟩)
def PV.noF : PV → Prop
  | .fn _ _ => False
  | _ => True
/-- Answers are no functions. -/
def noFn : PV → Prop
  | .fn _ _ => False
  | .tu vs => ∀ p ∈ vs, p.noF
  | _ => True
theorem rn_map {f : PV → PV} {cs : List PV} (h : ∀ p ∈ cs, Rn (srcI ns) p (f p)) : (cs.map f).length = cs.length ∧ ∀ (j : Nat) (p q : PV), cs[j]? = some p → (cs.map f)[j]? = some q → Rn (srcI ns) p q :=
  ⟨by simp, fun j p q hp hq => by rw [List.getElem?_map, hp] at hq; cases hq; exact h p (List.mem_of_getElem? hp)⟩
theorem rn_A {q : PV} (h : okA n q) (hf : q.noF) : Rn (srcI ns) q (reA ns q) := by
  rcases okA_fn (ns := ns) h with ⟨cs, rfl, h1⟩ | ⟨f, cs, rfl⟩ | ⟨h1, h2⟩
  · obtain ⟨a, b⟩ := rn_map (fun p hp => rn_C (ns := ns) (h1 p hp)); exact .ag _ _ a b
  · exact hf.elim
  · rw [h1]; exact rn_C h2
theorem rn_P {q : PV} (h : okP n q) (hf : noFn q) : Rn (srcI ns) q (reP ns q) := by
  rcases notP ns n q with ⟨cs, rfl⟩ | ⟨h1, h2⟩
  · obtain ⟨a, b⟩ := rn_map (fun p hp => rn_A (ns := ns) (h p hp) (hf p hp)); exact .tu _ _ a b
  · rw [h1]; rw [h2] at h
    refine rn_A h ?_
    cases q <;> first | trivial | exact hf
theorem rn_O {x : Ob} (h : okO n x) : RnO (srcI ns) x (reO ns x) ∨ x = .no := by
  cases x with
  | no => exact .inr rfl
  | box qs => exact .inl (rn_map (fun p hp => rn_D (ns := ns) (h p hp)))
  | row sz k g => exact .inl ⟨rfl, rfl, fun i hi => ⟨rfl, fun j p q hp hq => by
      have e : p = q := by rw [hp] at hq; exact Option.some.inj hq
      subst e; exact rn_nl (h i hi p (List.mem_of_getElem? hp))⟩⟩
  | map f => exact .inl rfl
  | it es => exact .inl rfl
end
/-- Names that a call's arguments hold. -/
def idA : PV → List Id
  | .ag ps => ps.flatMap idL
  | .fn _ ps => ps.flatMap idL
  | p => idL p
theorem lendT_agree {b : Bool} {m m2 : Mem} {src : List Id} {n : Nat} {p q : PV} (h : lendT b m src n p q) (ha : ∀ o ∈ idL p, m2.o o = m.o o) : lendT b m2 src n p q := by
  unfold lendT at h
  split at h
  · rename_i o sz k off len sz' len' g'
    have := ha o (by simp [idL])
    simp only [lendT, this]
    exact h
  · exact h
  · exact h
  · rename_i h1 h2 h3
    unfold lendT
    split
    · exact (h1 _ _ _ _ _ _ _ _ rfl rfl).elim
    · exact (h2 _ _ _ rfl rfl).elim
    · exact (h3 _ _ _ _ _ _ rfl rfl).elim
    · exact h
theorem lendL_agree {b : Bool} {m m2 : Mem} {src : List Id} {n : Nat} : ∀ {ps qs : List PV}, lendL b m src n ps qs → (∀ o ∈ ps.flatMap idL, m2.o o = m.o o) → lendL b m2 src n ps qs
  | [], [], h, _ => trivial
  | [], _ :: _, h, _ => h.elim
  | _ :: _, [], h, _ => h.elim
  | p :: ps, q :: qs, ⟨h1, h2⟩, ha => by
    simp only [List.flatMap_cons, List.mem_append] at ha
    exact ⟨lendT_agree h1 (fun o ho => ha o (.inl ho)), lendL_agree h2 (fun o ho => ha o (.inr ho))⟩
theorem lendA_agree {b : Bool} {m m2 : Mem} {src : List Id} {n : Nat} {p q : PV} (h : lendA b m src n p q) (ha : ∀ o ∈ idA p, m2.o o = m.o o) : lendA b m2 src n p q := by
  unfold lendA at h
  split at h
  · exact lendL_agree h ha
  · exact ⟨h.1, lendL_agree h.2 ha⟩
  · rename_i h1 h2
    unfold lendA
    split
    · exact (h1 _ _ rfl rfl).elim
    · exact (h2 _ _ _ _ rfl rfl).elim
    · refine lendT_agree h (fun o ho => ha o ?_)
      cases p <;> first | exact ho | (cases ho; done)
theorem argsT_agree {b : Bool} {m m2 : Mem} {src : List Id} {n : Nat} : ∀ {ps qs : List PV}, argsT b m src n ps qs → (∀ o ∈ ps.flatMap idA, m2.o o = m.o o) → argsT b m2 src n ps qs
  | [], [], h, _ => trivial
  | [], _ :: _, h, _ => h.elim
  | _ :: _, [], h, _ => h.elim
  | p :: ps, q :: qs, ⟨h1, h2⟩, ha => by
    simp only [List.flatMap_cons, List.mem_append] at ha
    exact ⟨lendA_agree h1 (fun o ho => ha o (.inl ho)), argsT_agree h2 (fun o ho => ha o (.inr ho))⟩
theorem obT_agree {m m2 : Mem} {src : List Id} {o : Id} {x : Ob} (h : obT m src o x) (ha : m2.o o = m.o o) : obT m2 src o x := by
  cases x <;> simp only [obT, ha] at h ⊢ <;> exact h
theorem obsT_agree {m m2 : Mem} {src : List Id} : ∀ {os : List Id} {xs : List Ob}, obsT m src os xs → (∀ o ∈ os, m2.o o = m.o o) → obsT m2 src os xs
  | [], [], h, _ => trivial
  | [], _ :: _, h, _ => h.elim
  | _ :: _, [], h, _ => h.elim
  | o :: os, x :: xs, ⟨h1, h2⟩, ha => ⟨obT_agree h1 (ha o (by simp)), obsT_agree h2 (fun q hq => ha q (by simp [hq]))⟩
theorem same2_trans {W1 W2 : List Id} {m m1 m2 n n1 n2 : Mem} (h1 : Same2 W1 m m1 n n1) (h2 : Same2 W2 m1 m2 n1 n2) : Same2 (W1 ++ W2) m m2 n n2 := by
  refine ⟨h2.1, fun o => ?_⟩
  rcases h2.2 o with ⟨a, b⟩ | ⟨a, b⟩
  · rcases h1.2 o with ⟨c, d⟩ | ⟨c, d⟩
    · exact .inl ⟨a.trans c, b.trans d⟩
    · exact .inr ⟨List.mem_append_left _ c, by rw [a, b, d]⟩
  · exact .inr ⟨List.mem_append_right _ a, b⟩
theorem setN_same {m m2 : Mem} (h : m2.nx = m.nx) (q : Id) (x : Ob) : Same2 [q] m (m.setN q x) m2 (m2.setN q x) := by
  cases x <;> simp only [Mem.setN]
  case no =>
    refine ⟨h, fun o => ?_⟩
    simp only [Mem.drop, upd]
    by_cases e : o = q
    · exact .inr ⟨by simp [e], by simp [e]⟩
    · exact .inl ⟨by simp [e], by simp [e]⟩
  all_goals exact same_set h q _
theorem growN_same {m m2 : Mem} (h : m2.nx = m.nx) (x : Ob) : Same2 [[m.nx]] m (m.growN x) m2 (m2.growN x) := by
  cases x <;> simp only [Mem.growN]
  case no => exact ⟨by simp [h], fun o => .inl ⟨rfl, rfl⟩⟩
  all_goals exact same_grow h _
theorem aft_same (ns : List Id) : ∀ (src : List Id) (l : List Ob) (m m2 : Mem), m2.nx = m.nx → src.length ≤ l.length → Same2 (nams m.nx src l) m (m.aft ns src l) m2 (m2.aft ns src l)
  | [], [], m, m2, h, _ => same_id h
  | [], x :: l, m, m2, h, _ => by
    have := aft_same ns [] l (m.growN (reO ns x)) (m2.growN (reO ns x)) (by rw [growN_nx, growN_nx, h]) (Nat.zero_le _)
    rw [growN_nx] at this
    exact same2_trans (growN_same h (reO ns x)) this
  | _ :: _, [], _, _, _, h => by simp at h
  | o :: src, x :: l, m, m2, h, hl => by
    have := aft_same ns src l (m.setN o (reO ns x)) (m2.setN o (reO ns x)) (by rw [setN_nx, setN_nx, h]) (by simpa using hl)
    rw [setN_nx] at this
    exact same2_trans (setN_same h o (reO ns x)) this
/-- Each object that is handed over is one. -/
def noN : List Ob → Prop
  | .no :: _ => False
  | _ :: xs => noN xs
  | [] => True
theorem noN_spec : ∀ {l : List Ob}, noN l → ∀ k : Nat, l[k]? ≠ some .no
  | [], _, k, h => by simp at h
  | x :: xs, h, k, hk => by
    have hr : noN xs := by cases x <;> first | exact h.elim | exact h
    cases k with
    | zero => simp at hk; subst hk; exact h
    | succ k => exact noN_spec hr k (by simpa using hk)
section
variable {P : Program} {m : Mem} {K : PV → Mem → List Id → List Id → Prop} {g : FuncId} {args : List PV} {cs : List Bool}
/-- A call: what is handed (src), what is lent, what comes back. -/
theorem AC.go (b : Bool) (src : List Id) {o1 o2 : List Ob} {r1 : PV} {args1 : List PV} (h : AC P g args1 (ML o1) r1 (ML o2)) (ha : argsT b m src o1.length args args1) (hT : obsT m src src o1) (hok1 : ∀ x ∈ o1, okO o1.length x)
    (hx : ∀ o ∈ src, AW.hb o m.nx) (hl : o1.length ≤ o2.length) (hr : okP o2.length r1 ∧ noFn r1) (hok : ∀ x ∈ o2, okO o2.length x) (hn : b = false ∨ (NR r1 ∧ ∀ x ∈ o2, NRO x)) (hnn : ∀ k : Nat, o1[k]? ≠ some .no) (hnd : src.Nodup) :
    ACD P g args m (reP (nams m.nx src o2) r1) (m.aft (nams m.nx src o2) src o2) := by
  obtain ⟨a1, a2⟩ := argsT_wk ha
  have hsl := (obsT_spec hT).1
  obtain ⟨n1, n2, n3⟩ := nams_spec src o2 m.nx (by omega)
  generalize hns : nams m.nx src o2 = ns at *
  have hw : WkM 0 m (lF b src) (srcI src) (ML o1) := WkM_go o1 (Nat.zero_le _) hT hok1 (fun o ho hf => hf.2 ho) (fun k hk => by omega) hnd
  have at1 : ∀ k, k < o1.length → ns[k]? = some (srcI src [k]) := fun k hk => by rw [n2 k (by omega)]; exact srcI_eq (by omega)
  have at2 : ∀ k, o1.length ≤ k → k < o2.length → srcI ns [k] = [m.nx + (k - o1.length)] := fun k h1 h2 => by
    have := n3 k (by omega) h2
    simp only [srcI, List.getD_eq_getElem?_getD, this, Option.getD_some, hsl]
  have e1 : ∀ k, k < o1.length → srcI ns [k] = srcI src [k] := fun k hk => by
    have := at1 k hk
    simp only [srcI, List.getD_eq_getElem?_getD] at this ⊢
    rw [this]; rfl
  have split_ : ∀ (l : List Id) k q, srcI l (k :: q) = srcI l [k] ++ q := fun l k q => by
    cases q with
    | nil => simp
    | cons c q => simp [srcI]
  have hbapp : ∀ (u : Id) q n, u ≠ [] → (AW.hb (u ++ q) n ↔ AW.hb u n) := fun u q n hu => by
    cases u with
    | nil => exact absurd rfl hu
    | cons c u => exact Iff.rfl
  have srcne : ∀ k, k < o1.length → srcI src [k] ≠ [] ∧ AW.hb (srcI src [k]) m.nx := fun k hk => by
    have := hx _ (List.mem_of_getElem? (srcI_eq (src := src) (k := k) (by omega)))
    refine ⟨fun e => ?_, this⟩
    rw [e] at this; exact this
  let dn : Id → Id := fun o => match o with | [] => [] | k :: q => (k - m.nx + o1.length) :: q
  refine AC.gen (lF b src) (srcI src) (srcI ns) dn h a1 a2 hw (fun D tc hD o ho => ?_) (fun o ho => ?_) (fun o ho hno => ?_) (by rw [aft_nx _ _ _ _ (by omega)]; omega) (rn_P hr.1 hr.2) ?_ (fun o y ho => ?_)
  · match o, ho with
    | k :: q, ho =>
      have ho : k < o1.length := ho
      obtain ⟨s1, s2⟩ := srcne k ho
      rw [split_ src k q]
      have hx1 : o1[k]? = some o1[k] := by simp [ho]
      have hno : o1[k] ≠ .no := fun e => hnn k (by rw [hx1, e])
      obtain ⟨_, _, x, h7, _⟩ := hw.ob [k] o1[k] (by
        simp only [ML_at, hx1]
        split
        · rename_i hh; exact absurd (Option.some.inj hh) hno
        · rfl)
      exact tc _ q s1 (hD _ x h7)
  · match o, ho with
    | k :: q, ho =>
      have ho : k < o1.length := ho
      rw [split_ src k q, split_ ns k q, e1 k ho]
  · match o, ho with
    | k :: q, ho =>
      have ho : k < o2.length := ho
      have hno : ¬ k < o1.length := hno
      rw [split_ ns k q, at2 k (by omega) ho, aft_nx _ _ _ _ (by omega)]
      simp only [AW.hb, List.cons_append, List.nil_append, dn]
      refine ⟨by omega, by omega, ?_⟩
      congr 1; omega
  · rcases hn with hn | ⟨h1, h2⟩
    · exact .inl (fun o hF => by rw [hn] at hF; cases hF.1)
    · exact .inr ⟨h1, fun o y hy => by obtain ⟨k, _, hy, _⟩ := ML_get hy; exact h2 y (List.mem_of_getElem? hy)⟩
  · rcases aft_at ns src o2 m (by omega) o y ho with ⟨h1, h2⟩ | ⟨k, x, h1, h2, h3, rfl⟩
    · refine .inl ⟨h1, fun o1' x1 h3 e => h2 ?_⟩
      obtain ⟨k, rfl, h4, _⟩ := ML_get h3
      rw [← e]
      exact List.mem_of_getElem? (srcI_eq (by have := (List.getElem?_eq_some_iff.1 h4).1; omega))
    · rw [hns] at h1
      have hk : k < o2.length := (List.getElem?_eq_some_iff.1 h2).1
      refine .inr ⟨[k], x, ?_, ?_, ?_, fun h4 => ?_⟩
      · simp [srcI, h1]
      · simp only [ML_at, h2]
        cases x <;> first | rfl | exact absurd rfl h3
      · rcases rn_O (ns := ns) (hok x (List.mem_of_getElem? h2)) with h5 | h5
        · exact h5
        · exact absurd h5 h3
      · have h4 : k < o1.length := h4
        have hx1 : o1[k]? = some o1[k] := by simp [h4]
        refine ⟨o1[k], ?_⟩
        simp only [ML_at, hx1]
        have hne : o1[k] ≠ .no := fun e => hnn k (by rw [hx1, e])
        split
        · rename_i hh; exact absurd (Option.some.inj hh) hne
        · rfl
/-- A call looks at its arguments' objects alone. -/
theorem AC.goT (b : Bool) (src : List Id) {o1 o2 : List Ob} {r1 : PV} {args1 : List PV} (h : AC P g args1 (ML o1) r1 (ML o2)) (ha : argsT b m src o1.length args args1) (hT : obsT m src src o1) (hok1 : ∀ x ∈ o1, okO o1.length x)
    (hx : ∀ o ∈ src, AW.hb o m.nx) (hl : o1.length ≤ o2.length) (hr : okP o2.length r1 ∧ noFn r1) (hok : ∀ x ∈ o2, okO o2.length x) (hn : b = false ∨ (NR r1 ∧ ∀ x ∈ o2, NRO x)) (hnn : ∀ k : Nat, o1[k]? ≠ some .no) (hnd : src.Nodup) :
    ACT P g args m (reP (nams m.nx src o2) r1) (m.aft (nams m.nx src o2) src o2) (args.flatMap idA) (nams m.nx src o2) := by
  have hsl := (obsT_spec hT).1
  have hs2 : src.length ≤ o2.length := by omega
  obtain ⟨n1, n2, n3⟩ := nams_spec src o2 m.nx hs2
  refine ⟨by rw [aft_nx _ _ _ _ hs2]; omega, fun m2 e2 hag => ⟨m2.aft (nams m.nx src o2) src o2, aft_same _ src o2 m m2 e2 hs2, ?_⟩⟩
  have hsrc : ∀ o ∈ src, m2.o o = m.o o := fun o ho => hag o (List.mem_append_right _ (by
    obtain ⟨k, hk⟩ := List.getElem?_of_mem ho
    have hlt := (List.getElem?_eq_some_iff.1 hk).1
    exact List.mem_of_getElem? ((n2 k hlt).trans hk)))
  have := AC.go (m := m2) b src h (argsT_agree ha (fun o ho => hag o (List.mem_append_left _ ho))) (obsT_agree hT hsrc) hok1 (by rw [e2]; exact hx) hl hr hok hn hnn hnd
  rwa [e2] at this
theorem acall_go (b : Bool) (src : List Id) {o1 o2 : List Ob} {r1 : PV} {args1 : List PV} (h : AC P g args1 (ML o1) r1 (ML o2)) (ha : argsT b m src o1.length args args1) (hT : obsT m src src o1) (hok1 : ∀ x ∈ o1, okO o1.length x)
    (hx : ∀ o ∈ src, AW.hb o m.nx) (hr : okP o2.length r1 ∧ noFn r1) (hok : ∀ x ∈ o2, okO o2.length x) (hn : b = false ∨ (NR r1 ∧ ∀ x ∈ o2, NRO x)) (hk : K (reP (nams m.nx src o2) r1) (m.aft (nams m.nx src o2) src o2) (args.flatMap idA) (nams m.nx src o2))
    (hl : o1.length ≤ o2.length := by simp) (hnn : noN o1 := by simp [noN]) (hnd : src.Nodup := by decide) : acall P [] g args m K :=
  ⟨_, _, _, _, fun _ => AC.goT b src h ha hT hok1 hx hl hr hok hn (noN_spec hnn) hnd, .inl rfl, hk⟩
/-- A call that leaves memory alone. -/
theorem acall_p (b : Bool) {r1 : PV} {args1 : List PV} (h : AC P g args1 (ML []) r1 (ML [])) (ha : argsT b m [] 0 args args1) (hr : okP 0 r1 ∧ noFn r1) (hn : b = false ∨ NR r1) (hk : K (gdv cs (reP [] r1)) m (args.flatMap idA) []) : acall P cs g args m K :=
  ⟨_, _, _, _, fun _ => AC.goT b [] h ha trivial (fun x hx => by simp at hx) (fun o ho => by simp at ho) (Nat.le_refl _) hr (fun x hx => by simp at hx) (hn.imp id fun h => ⟨h, fun x hx => by simp at hx⟩) (by simp) (by simp), .inr rfl, hk⟩
end
end Go.Proofs.YtolejglfohagnaaW.AW
