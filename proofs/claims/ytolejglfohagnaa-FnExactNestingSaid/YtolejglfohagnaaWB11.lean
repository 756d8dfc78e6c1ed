/- New objects, stores. Plain lemmas: no statement of the program. -/
import Derived.Test.YtolejglfohagnaaWB10
namespace Go.Proofs.YtolejglfohagnaaW.AW
open Go Go.RowKit
set_option linter.unusedVariables false
set_option linter.unusedSimpArgs false

/-- A new object (q's memory may be taken up by it: q is no more). -/
def Mem.gone (m : Mem) (q : Option Id) : Id → Option Ob := match q with | none => m.o | some o => upd m.o o none
def Mem.grow (m : Mem) (q : Option Id) (x : Ob) : Mem := ⟨upd (m.gone q) [m.nx] (some x), m.nx + 1⟩
def Mem.set (m : Mem) (o : Id) (x : Ob) : Mem := ⟨upd m.o o (some x), m.nx⟩
section
variable {P : Program} {β κ : Id → Nat} {A : Id → Nat → Prop} {w w' : World} {S : Nat → Prop} {m : Mem} {D : Id → Prop}
theorem gone_at {q : Option Id} {o : Id} {x : Ob} (h : m.gone q o = some x) : m.o o = some x ∧ q ≠ some o := by
  cases q with
  | none => exact ⟨h, by simp⟩
  | some p =>
    simp only [Mem.gone, upd] at h
    split at h
    · cases h
    · exact ⟨h, fun e => by cases e; contradiction⟩
theorem hb_ne {o : Id} {n : Nat} (h : hb o n) : o ≠ [n] := fun e => by subst e; simp [hb] at h
theorem MRD.keepS (hm : MRD w S D m β κ A) (hold : ∀ k, k < w.heap.size → ¬ own m A k → w'.heap[k]? = w.heap[k]?) : ∀ k, S k → w'.heap[k]? = w.heap[k]? :=
  fun k hk => hold k (hm.lt k hk) (fun ⟨o, x, h1, h2⟩ => hm.ns o x k h1 h2 hk)
/-- The next name is in use by nobody. -/
def Fr (D : Id → Prop) (n : Nat) : Prop := ∀ o, hb o (n + 1) → ¬ hb o n → ¬ D o
/-- One more name in use. -/
abbrev gdN (D : Id → Prop) (n : Nat) : Id → Prop := fun o => D o ∨ (hb o (n + 1) ∧ ¬ hb o n)
theorem Fr.hd (n : Nat) : Fr (dN n) n := fun o _ h h2 => h h2
theorem Fr.ne {n : Nat} (fr : Fr D n) {o : Id} (h : D o) : o ≠ [n] := fun e => fr [n] (by simp [hb]) (by simp [hb]) (e ▸ h)
theorem gdN_dN (n : Nat) : gdN (dN n) n = dN (n + 1) := funext fun o => propext ⟨fun h => h.elim (fun h => hb.mono h (Nat.le_succ _)) (·.1), fun h => (Classical.em (hb o n)).elim .inl (fun h2 => .inr ⟨h, h2⟩)⟩
theorem gd_new (n : Nat) : gdN D n [n] := .inr ⟨by simp [hb], by simp [hb]⟩
theorem MRD.grow (fr : Fr D m.nx) (hm : MRD w S D m β κ A) (q : Option Id) {x : Ob} {g K : Nat} {B : Nat → Prop} (hos : w'.os = w.os) (ht : w'.tape = w.tape) (hout : w'.output = w.output) (hsz : w.heap.size ≤ w'.heap.size)
    (hB : ∀ k, B k → w.heap.size ≤ k ∨ ∃ o x0, q = some o ∧ m.o o = some x0 ∧ A o k)
    (hold : ∀ k, k < w.heap.size → (∀ o x0, q = some o → m.o o = some x0 → ¬ A o k) → w'.heap[k]? = w.heap[k]?)
    (hOB : OB (upd β [m.nx] g) (upd κ [m.nx] K) (gdN D m.nx) w' S B [m.nx] x) :
    ExtD w S D m β κ A w' S (gdN D m.nx) (m.grow q x) (upd β [m.nx] g) (upd κ [m.nx] K) (upd A [m.nx] B) ∧ MRD w' S (gdN D m.nx) (m.grow q x) (upd β [m.nx] g) (upd κ [m.nx] K) (upd A [m.nx] B) := by
  have hβ : ∀ o, D o → upd β [m.nx] g o = β o ∧ upd κ [m.nx] K o = κ o := fun o ho => by simp [upd, fr.ne ho]
  have hA : ∀ o, D o → upd A [m.nx] B o = A o := fun o ho => by simp [upd, fr.ne ho]
  have hAn : upd A [m.nx] B [m.nx] = B := by simp [upd]
  have hold' : ∀ k, k < w.heap.size → ¬ own m A k → w'.heap[k]? = w.heap[k]? := fun k hk hn => hold k hk (fun o x0 _ h1 h2 => hn ⟨o, x0, h1, h2⟩)
  have hS := hm.keepS hold'
  have at_ : ∀ o y, (m.grow q x).o o = some y → (o = [m.nx] ∧ y = x) ∨ (D o ∧ m.o o = some y ∧ q ≠ some o) := fun o y h => by
    by_cases e : o = [m.nx]
    · subst e; simp [Mem.grow, upd] at h; exact .inl ⟨rfl, h.symm⟩
    · simp only [Mem.grow, upd, if_neg e] at h
      obtain ⟨h1, h2⟩ := gone_at h
      exact .inr ⟨hm.nx o y h1, h1, h2⟩
  refine ⟨⟨hos, ht, hout, hsz, fun _ h => h, hβ, hold', Nat.le_succ _, fun _ h => .inl h, ?_, fun k hk => .inl hk⟩, ⟨fun o y h => ?_, fun o y k h hk hs => ?_, fun o o' y y' k h h' hk hk' => ?_, fun o y h => ?_, fun k hk => Nat.lt_of_lt_of_le (hm.lt k hk) hsz⟩⟩
  · rintro k ⟨o, y, h, hk⟩
    rcases at_ o y h with ⟨rfl, rfl⟩ | ⟨h1, h2, _⟩
    · rw [hAn] at hk
      rcases hB k hk with h1 | ⟨o', x0, _, h1, h2⟩
      · exact .inl h1
      · exact .inr ⟨o', x0, h1, h2⟩
    · rw [hA o h1] at hk; exact .inr ⟨o, y, h2, hk⟩
  · rcases at_ o y h with ⟨rfl, rfl⟩ | ⟨h1, h2, h3⟩
    · rw [hAn]; exact hOB
    · rw [hA o h1]
      exact (hm.ob o y h2).move hβ (fun _ h => .inl h) (fun _ h => h) hS h1 (fun k hk => hold k ((hm.ob o y h2).lt hk) (fun o' x0 e h4 h5 => h3 (by rw [hm.dj o o' y x0 k h2 h4 hk h5]; exact e)))
  · rcases at_ o y h with ⟨rfl, rfl⟩ | ⟨h1, h2, h3⟩
    · rw [hAn] at hk
      rcases hB k hk with h1 | ⟨o', x0, _, h1, h2⟩
      · have := hm.lt k hs; omega
      · exact hm.ns o' x0 k h1 h2 hs
    · rw [hA o h1] at hk; exact hm.ns o y k h2 hk hs
  · rcases at_ o y h with ⟨rfl, rfl⟩ | ⟨h1, h2, h3⟩ <;> rcases at_ o' y' h' with ⟨rfl, rfl⟩ | ⟨h1', h2', h3'⟩
    · rfl
    · rw [hAn] at hk; rw [hA o' h1'] at hk'
      rcases hB k hk with h4 | ⟨o2, x0, e, h4, h5⟩
      · have := (hm.ob o' y' h2').lt hk'; omega
      · have := hm.dj o' o2 y' x0 k h2' h4 hk' h5; subst this; exact absurd e h3'
    · rw [hAn] at hk'; rw [hA o h1] at hk
      rcases hB k hk' with h4 | ⟨o2, x0, e, h4, h5⟩
      · have := (hm.ob o y h2).lt hk; omega
      · have := hm.dj o o2 y x0 k h2 h4 hk h5; subst this; exact absurd e h3
    · rw [hA o h1] at hk; rw [hA o' h1'] at hk'
      exact hm.dj o o' y y' k h2 h2' hk hk'
  · rcases at_ o y h with ⟨rfl, rfl⟩ | ⟨h1, _⟩
    · exact gd_new _
    · exact .inl h1
/-- An object's cells are written. -/
theorem MRD.put (hm : MRD w S D m β κ A) {i : Id} {x x' : Ob} {B : Nat → Prop} (h : m.o i = some x) (hos : w'.os = w.os) (ht : w'.tape = w.tape) (hout : w'.output = w.output) (hsz : w'.heap.size = w.heap.size)
    (hB : ∀ k, B k → A i k) (hold : ∀ k, ¬ A i k → w'.heap[k]? = w.heap[k]?) (hOB : OB β κ D w' S B i x') :
    ExtD w S D m β κ A w' S D (m.set i x') β κ (upd A i B) ∧ MRD w' S D (m.set i x') β κ (upd A i B) := by
  have hold' : ∀ k, k < w.heap.size → ¬ own m A k → w'.heap[k]? = w.heap[k]? := fun k hk hn => hold k (fun h2 => hn ⟨i, x, h, h2⟩)
  have hS := hm.keepS hold'
  have at_ : ∀ o y, (m.set i x').o o = some y → (o = i ∧ y = x') ∨ (o ≠ i ∧ m.o o = some y) := fun o y ho => by
    simp only [Mem.set, upd] at ho
    by_cases e : o = i
    · rw [if_pos e] at ho; cases ho; exact .inl ⟨e, rfl⟩
    · rw [if_neg e] at ho; exact .inr ⟨e, ho⟩
  have hA : ∀ o, o ≠ i → upd A i B o = A o := fun o ho => by simp [upd, ho]
  have hAi : upd A i B i = B := by simp [upd]
  have old : ∀ o y k, (m.set i x').o o = some y → upd A i B o k → ∃ y', m.o o = some y' ∧ A o k := fun o y k ho hk => by
    rcases at_ o y ho with ⟨rfl, rfl⟩ | ⟨h1, h2⟩
    · rw [hAi] at hk; exact ⟨x, h, hB k hk⟩
    · rw [hA o h1] at hk; exact ⟨y, h2, hk⟩
  refine ⟨⟨hos, ht, hout, Nat.le_of_eq hsz.symm, fun _ h => h, fun _ _ => ⟨rfl, rfl⟩, hold', Nat.le_refl _, fun _ h => h, ?_, fun k hk => .inl hk⟩, ⟨fun o y ho => ?_, fun o y k ho hk hs => ?_, fun o o' y y' k h1 h2 h3 h4 => ?_, fun o y ho => ?_, fun k hk => by rw [hsz]; exact hm.lt k hk⟩⟩
  · rintro k ⟨o, y, ho, hk⟩
    obtain ⟨y', h1, h2⟩ := old o y k ho hk
    exact .inr ⟨o, y', h1, h2⟩
  · rcases at_ o y ho with ⟨rfl, rfl⟩ | ⟨h1, h2⟩
    · rw [hAi]; exact hOB
    · rw [hA o h1]
      exact (hm.ob o y h2).move (fun _ _ => ⟨rfl, rfl⟩) (fun _ h => h) (fun _ h => h) hS (hm.nx o y h2) (fun k hk => hold k (fun h3 => h1 (hm.dj o i y x k h2 h hk h3)))
  · obtain ⟨y', h1, h2⟩ := old o y k ho hk
    exact hm.ns o y' k h1 h2 hs
  · obtain ⟨z, a1, a2⟩ := old o y k h1 h3
    obtain ⟨z', b1, b2⟩ := old o' y' k h2 h4
    exact hm.dj o o' z z' k a1 b1 a2 b2
  · rcases at_ o y ho with ⟨rfl, rfl⟩ | ⟨_, h4⟩
    · exact hm.nx o x h
    · exact hm.nx o y h4
end
end Go.Proofs.YtolejglfohagnaaW.AW
