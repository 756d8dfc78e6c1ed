/- New objects, stores. Plain lemmas: no statement of the program. -/
import Derived.Test.YtolejglfohagnaaWA10
namespace Go.Proofs.YtolejglfohagnaaW.AW
open Go Go.RowKit
set_option linter.unusedVariables false
set_option linter.unusedSimpArgs false

/-- A new object (q's memory may be taken up by it: q is no more). -/
def Mem.gone (m : Mem) (q : Option Id) : Id → Option Ob := match q with | none => m.o | some o => upd m.o o none
def Mem.grow (m : Mem) (q : Option Id) (x : Ob) : Mem := ⟨upd (m.gone q) [m.nx] (some x), m.nx + 1⟩
def Mem.set (m : Mem) (o : Id) (x : Ob) : Mem := ⟨upd m.o o (some x), m.nx⟩
section
variable {P : Program} {β κ : Id → Nat} {w w' : World} {S : Nat → Prop} {m : Mem}
theorem gone_at {q : Option Id} {o : Id} {x : Ob} (h : m.gone q o = some x) : m.o o = some x ∧ q ≠ some o := by
  cases q with
  | none => exact ⟨h, by simp⟩
  | some p =>
    simp only [Mem.gone, upd] at h
    split at h
    · cases h
    · exact ⟨h, fun e => by cases e; contradiction⟩
theorem hb_ne {o : Id} {n : Nat} (h : hb o n) : o ≠ [n] := fun e => by subst e; simp [hb] at h
theorem OB.lt {nx : Nat} {o : Id} {x : Ob} (h : OB β κ nx w S o x) (hr : real κ o x) : β o < w.heap.size := by
  cases x with
  | box cs => obtain ⟨cur, e, h1, _⟩ := h; exact (Array.getElem?_eq_some_iff.1 h1).1
  | row sz n g =>
    rcases h with ⟨h0, _⟩ | ⟨cur, e, h1, _⟩
    · exact absurd hr (by simp [real, h0])
    · exact (Array.getElem?_eq_some_iff.1 h1).1
theorem MR.grow (hm : MR w S m β κ) (q : Option Id) {x : Ob} {g K : Nat} (hos : w'.os = w.os) (ht : w'.tape = w.tape) (hout : w'.output = w.output) (hsz : w.heap.size ≤ w'.heap.size)
    (hg : w.heap.size ≤ g ∨ (∃ o x0, q = some o ∧ m.o o = some x0 ∧ real κ o x0 ∧ β o = g) ∨ ¬ real (upd κ [m.nx] K) [m.nx] x)
    (hold : ∀ k, k < w.heap.size → (∀ o x0, q = some o → m.o o = some x0 → real κ o x0 → β o ≠ k) → w'.heap[k]? = w.heap[k]?)
    (hOB : OB (upd β [m.nx] g) (upd κ [m.nx] K) (m.nx + 1) w' S [m.nx] x) :
    Ext w S m β κ w' S (m.grow q x) (upd β [m.nx] g) (upd κ [m.nx] K) ∧ MR w' S (m.grow q x) (upd β [m.nx] g) (upd κ [m.nx] K) := by
  have hβ : ∀ o, hb o m.nx → upd β [m.nx] g o = β o ∧ upd κ [m.nx] K o = κ o := fun o ho => by simp [upd, hb_ne ho]
  have hS : ∀ k, S k → w'.heap[k]? = w.heap[k]? := fun k hk => hold k (hm.lt k hk) (fun o x0 _ h1 h2 e => hm.ns k ⟨o, x0, h1, h2, e⟩ hk)
  have old : ∀ o y, (m.grow q x).o o = some y → o ≠ [m.nx] → m.o o = some y ∧ q ≠ some o := fun o y h hne => by
    simp only [Mem.grow, upd, if_neg hne] at h; exact gone_at h
  have new_ : ∀ y, (m.grow q x).o [m.nx] = some y → y = x := fun y h => by simp [Mem.grow, upd] at h; exact h.symm
  have hreal : ∀ o y, hb o m.nx → real (upd κ [m.nx] K) o y → real κ o y := fun o y ho hr => by
    cases y with
    | box _ => trivial
    | row _ _ _ => simpa [real, (hβ o ho).2] using hr
  -- the new block against what stays
  have gne : ∀ o y, m.o o = some y → q ≠ some o → real κ o y → real (upd κ [m.nx] K) [m.nx] x → β o ≠ g := fun o y h1 h2 h3 h4 e => by
    rcases hg with hg | ⟨o', x0, h5, h6, h7, h8⟩ | hg
    · have := (hm.ob o y h1).lt h3; omega
    · have := hm.inj o o' y x0 h1 h6 h3 h7 (e.trans h8.symm); subst this; exact h2 h5
    · exact hg h4
  have mainN : ∀ k, main (m.grow q x) (upd β [m.nx] g) (upd κ [m.nx] K) k → (k = g ∧ real (upd κ [m.nx] K) [m.nx] x) ∨ ∃ o y, m.o o = some y ∧ q ≠ some o ∧ real κ o y ∧ β o = k := by
    rintro k ⟨o, y, h1, h2, h3⟩
    by_cases e : o = [m.nx]
    · subst e
      have := new_ y h1; subst this
      exact .inl ⟨by rw [← h3]; simp [upd], h2⟩
    · obtain ⟨h4, h5⟩ := old o y h1 e
      have ho := hm.nx o y h4
      exact .inr ⟨o, y, h4, h5, hreal o y ho h2, by rw [← h3, (hβ o ho).1]⟩
  refine ⟨⟨hos, ht, hout, hsz, fun _ h => h, hβ, fun k hk hn => hold k hk (fun o x0 _ h1 h2 e => hn ⟨o, x0, h1, h2, e⟩), Nat.le_succ _, fun k hk => ?_, fun k hk => .inl hk⟩, ⟨fun o y h => ?_, fun k hk => ?_, fun o o' y y' h h' hr hr' he => ?_, fun o y h => ?_, fun k hk => Nat.lt_of_lt_of_le (hm.lt k hk) hsz⟩⟩
  · rcases mainN k hk with ⟨rfl, hr⟩ | ⟨o, y, h1, _, h3, h4⟩
    · rcases hg with hg | ⟨o', x0, h5, h6, h7, h8⟩ | hg
      · exact .inl hg
      · exact .inr ⟨o', x0, h6, h7, h8⟩
      · exact absurd hr hg
    · exact .inr ⟨o, y, h1, h3, h4⟩
  · by_cases e : o = [m.nx]
    · subst e
      have := new_ y h; subst this
      exact hOB
    · obtain ⟨h4, h5⟩ := old o y h e
      have ho := hm.nx o y h4
      exact (hm.ob o y h4).move hβ (Nat.le_succ _) (fun _ h => h) hS ho (fun hr => hold _ ((hm.ob o y h4).lt hr) (fun o' x0 e1 h6 h7 e2 => h5 (by
        have := hm.inj o' o x0 y h6 h4 h7 hr e2; rw [← this]; exact e1)))
  · rcases mainN k hk with ⟨rfl, hr⟩ | ⟨o, y, h1, _, h3, h4⟩
    · rcases hg with hg | ⟨o', x0, h5, h6, h7, h8⟩ | hg
      · exact fun hs => by have := hm.lt k hs; omega
      · exact hm.ns k ⟨o', x0, h6, h7, h8⟩
      · exact absurd hr hg
    · exact hm.ns k ⟨o, y, h1, h3, h4⟩
  · by_cases e : o = [m.nx] <;> by_cases e' : o' = [m.nx]
    · rw [e, e']
    · subst e
      have := new_ y h; subst this
      obtain ⟨h4, h5⟩ := old o' y' h' e'
      have ho := hm.nx o' y' h4
      rw [(hβ o' ho).1] at he
      exact absurd (by rw [← he]; simp [upd]) (gne o' y' h4 h5 (hreal o' y' ho hr') hr)
    · subst e'
      have := new_ y' h'; subst this
      obtain ⟨h4, h5⟩ := old o y h e
      have ho := hm.nx o y h4
      rw [(hβ o ho).1] at he
      exact absurd (by rw [he]; simp [upd]) (gne o y h4 h5 (hreal o y ho hr) hr')
    · obtain ⟨h4, h5⟩ := old o y h e
      obtain ⟨h6, h7⟩ := old o' y' h' e'
      have ho := hm.nx o y h4
      have ho' := hm.nx o' y' h6
      rw [(hβ o ho).1, (hβ o' ho').1] at he
      exact hm.inj o o' y y' h4 h6 (hreal o y ho hr) (hreal o' y' ho' hr') he
  · by_cases e : o = [m.nx]
    · subst e; simp [hb, Mem.grow]
    · exact (hm.nx o y (old o y h e).1).mono (Nat.le_succ _)
/-- An object's cells are written. -/
theorem MR.put (hm : MR w S m β κ) {i : Id} {x x' : Ob} (h : m.o i = some x) (hr : real κ i x) (hr' : real κ i x') (hos : w'.os = w.os) (ht : w'.tape = w.tape) (hout : w'.output = w.output) (hsz : w'.heap.size = w.heap.size)
    (hold : ∀ k, k ≠ β i → w'.heap[k]? = w.heap[k]?) (hOB : OB β κ m.nx w' S i x') :
    Ext w S m β κ w' S (m.set i x') β κ ∧ MR w' S (m.set i x') β κ := by
  have hS : ∀ k, S k → w'.heap[k]? = w.heap[k]? := fun k hk => hold k (fun e => hm.ns k ⟨i, x, h, hr, e.symm⟩ hk)
  have at_ : ∀ o y, (m.set i x').o o = some y → (o = i ∧ y = x') ∨ (o ≠ i ∧ m.o o = some y) := fun o y ho => by
    simp only [Mem.set, upd] at ho
    by_cases e : o = i
    · rw [if_pos e] at ho; cases ho; exact .inl ⟨e, rfl⟩
    · rw [if_neg e] at ho; exact .inr ⟨e, ho⟩
  have mainN : ∀ k, main (m.set i x') β κ k → main m β κ k := by
    rintro k ⟨o, y, h1, h2, h3⟩
    rcases at_ o y h1 with ⟨rfl, rfl⟩ | ⟨_, h4⟩
    · exact ⟨o, x, h, hr, h3⟩
    · exact ⟨o, y, h4, h2, h3⟩
  have old : ∀ o y, (m.set i x').o o = some y → real κ o y → ∃ y', m.o o = some y' ∧ real κ o y' := fun o y ho hy => by
    rcases at_ o y ho with ⟨rfl, rfl⟩ | ⟨_, h4⟩
    · exact ⟨x, h, hr⟩
    · exact ⟨y, h4, hy⟩
  refine ⟨⟨hos, ht, hout, Nat.le_of_eq hsz.symm, fun _ h => h, fun _ _ => ⟨rfl, rfl⟩, fun k hk hn => hold k (fun e => hn ⟨i, x, h, hr, e.symm⟩), Nat.le_refl _, fun k hk => .inr (mainN k hk), fun k hk => .inl hk⟩, ⟨fun o y ho => ?_, fun k hk => hm.ns k (mainN k hk), fun o o' y y' h1 h2 h3 h4 he => ?_, fun o y ho => ?_, fun k hk => by rw [hsz]; exact hm.lt k hk⟩⟩
  · rcases at_ o y ho with ⟨rfl, rfl⟩ | ⟨hne, h4⟩
    · exact hOB
    · exact (hm.ob o y h4).move (fun _ _ => ⟨rfl, rfl⟩) (Nat.le_refl _) (fun _ h => h) hS (hm.nx o y h4) (fun hy => hold _ (fun e => hne (hm.inj o i y x h4 h hy hr e)))
  · obtain ⟨z, a1, a2⟩ := old o y h1 h3
    obtain ⟨z', b1, b2⟩ := old o' y' h2 h4
    exact hm.inj o o' z z' a1 b1 a2 b2 he
  · rcases at_ o y ho with ⟨rfl, rfl⟩ | ⟨_, h4⟩
    · exact hm.nx o x h
    · exact hm.nx o y h4
end
end Go.Proofs.YtolejglfohagnaaW.AW
