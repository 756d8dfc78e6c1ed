/- Calls that hand back objects, calls that are handed some. Plain lemmas: no statement of the program. -/
import Derived.Test.YtolejglfohagnaaWA23
namespace Go.Proofs.YtolejglfohagnaaW.AW
open Go Go.RowKit
set_option linter.unusedVariables false
set_option linter.unusedSimpArgs false

def Mem.adds (m : Mem) : List Ob → Mem
  | [] => m
  | x :: r => (m.grow none x).adds r
def Mem.puts (m : Mem) : List Id → List Ob → Mem
  | o :: os, x :: xs => (m.set o x).puts os xs
  | _, _ => m
theorem adds_nx : ∀ (l : List Ob) (m : Mem), (m.adds l).nx = m.nx + l.length
  | [], m => rfl
  | x :: l, m => by rw [Mem.adds, adds_nx l]; simp [Mem.grow]; omega
theorem adds_at : ∀ (l : List Ob) (m : Mem) (o : Id) (y : Ob), (m.adds l).o o = some y → m.o o = some y ∨ ∃ j, o = [m.nx + j] ∧ l[j]? = some y
  | [], m, o, y, h => .inl h
  | x :: l, m, o, y, h => by
    rcases adds_at l _ o y h with h | ⟨j, h1, h2⟩
    · simp only [Mem.grow, Mem.gone, upd] at h
      split at h
      · rename_i e; exact .inr ⟨0, by simpa using e, by simpa using h⟩
      · exact .inl h
    · exact .inr ⟨j + 1, by rw [h1]; simp [Mem.grow]; omega, by simpa using h2⟩
theorem puts_nx : ∀ (os : List Id) (l : List Ob) (m : Mem), (m.puts os l).nx = m.nx
  | [], [], m => rfl
  | [], _ :: _, m => rfl
  | _ :: _, [], m => rfl
  | o :: os, x :: l, m => by rw [Mem.puts, puts_nx os l]; rfl
theorem puts_at : ∀ (os : List Id) (l : List Ob) (m : Mem), os.length = l.length → ∀ (o : Id) (y : Ob), (m.puts os l).o o = some y → (m.o o = some y ∧ o ∉ os) ∨ ∃ j : Nat, os[j]? = some o ∧ l[j]? = some y
  | [], [], m, _, o, y, h => .inl ⟨h, by simp⟩
  | p :: os, x :: l, m, hl, o, y, h => by
    rcases puts_at os l _ (by simpa using hl) o y h with ⟨h, h2⟩ | ⟨j, h1, h2⟩
    · simp only [Mem.set, upd] at h
      split at h
      · rename_i e; exact .inr ⟨0, by simpa using e.symm, by simpa using h⟩
      · rename_i e; exact .inl ⟨h, by simp [h2, e]⟩
    · exact .inr ⟨j + 1, by simpa using h1, by simpa using h2⟩
theorem ML_get {l : List Ob} {o : Id} {y : Ob} (h : (ML l).o o = some y) : ∃ j, o = [j] ∧ l[j]? = some y := by
  match o, h with
  | [k], h => exact ⟨k, rfl, h⟩
theorem RnO_c {τ : Id → Id} : ∀ {x : Ob}, ObC x x → RnO τ x x
  | .box a, ⟨_, h2⟩ => ⟨rfl, fun j p q hp hq => by rw [hp] at hq; cases hq; exact Rn_clo (h2 p (List.mem_of_getElem? hp))⟩
  | .row sz n g, ⟨_, _, h3⟩ => ⟨rfl, rfl, fun i hi => ⟨rfl, fun j p q hp hq => by rw [hp] at hq; cases hq; exact Rn_clo ((h3 i hi).2 p (List.mem_of_getElem? hp))⟩⟩
theorem Own.rn {τ : Id → Id} {f f' : Nat → Id} (hf : ∀ j, τ (f j) = f' j) : ∀ {n : Nat} {r : Own}, r.ok n → Rn τ (r.pv f) (r.pv f')
  | n, .sl j sz k off len, _ => by simp only [Own.pv]; rw [← hf j]; exact .sl _ _ _ _ _
  | n, .bp j c, _ => by simp only [Own.pv]; rw [← hf j]; exact .bp _ _
  | n, .v p, h => Rn_clo h
section
variable {P : Program} {m : Mem} {K : PV → Mem → Prop} {g : FuncId} {args : List PV}
/-- A call that hands back objects of its own. -/
theorem acall_L {r : Own} {obs : List Ob} (args1 : List PV) (F : Id → Prop) (h : AC P g args1 (E 0) (r.pv (fun j => [j])) (ML obs)) (hl : args1.length = args.length) (ha : ∀ (i : Nat) (p q : PV), args[i]? = some p → args1[i]? = some q → Wc m F p q)
    (hr : r.ok obs.length) (hc : ∀ x ∈ obs, ObC x x) (hn : (∀ o, ¬ F o) ∨ (NR (r.pv (fun j => [j])) ∧ ∀ x ∈ obs, NRO x)) (hk : K (r.pv (fun j => [m.nx + j])) (m.adds obs)) : acall P [] g args m K := by
  refine ⟨_, _, fun _ => AC.hb (fun hhb => ?_) h.1, .inl rfl, hk⟩
  have nb : ∀ o : Id, ¬ hb o (E 0).nx := fun o ho => by cases o <;> simp [AW.hb, E] at ho
  refine AC.gen F id (shI m.nx) (dnI m.nx) h hl (fun i p q h1 h2 => .c _ _ (ha i p q h1 h2)) ⟨fun o x h => by simp [E] at h, fun o o' x x' h => by simp [E] at h, fun _ _ => rfl, Nat.le_refl _⟩ (fun o ho => absurd ho (nb o)) (fun o ho _ => ?_) (by rw [adds_nx]; omega) (Own.rn (fun j => rfl) hr)
    (hn.imp id fun hn => ⟨hn.1, fun o y ho => ?_⟩) (fun o y ho => ?_)
  · rw [adds_nx]
    cases o with
    | nil => exact ho.elim
    | cons k q =>
      simp only [AW.hb, ML_nx, shI, dnI] at ho ⊢
      exact ⟨by omega, by omega, by simp⟩
  · obtain ⟨j, rfl, h2⟩ := ML_get ho
    exact hn.2 y (List.mem_of_getElem? h2)
  · rcases adds_at _ _ _ _ ho with h1 | ⟨j, rfl, h2⟩
    · exact .inl ⟨hhb o y h1, h1, fun _ _ h => by simp [E] at h⟩
    · exact .inr ⟨[j], y, rfl, h2, RnO_c (hc y (List.mem_of_getElem? h2)), fun h => absurd h (nb _)⟩
/-- A call that is handed objects and leaves these in their places. -/
theorem acall_h {r : Own} {o1 o2 : List Ob} (src : List Id) (args1 : List Own) (h : AC P g (args1.map (Own.pv (fun j => [j]))) (ML o1) (r.pv (fun j => [j])) (ML o2)) (ha : args = args1.map (Own.pv (fun j => src.getD j [j]))) (hok : ∀ x ∈ args1, x.ok o1.length)
    (h12 : o2.length = o1.length) (hl : src.length = o1.length) (hnd : src.Nodup) (hx : ∀ o ∈ src, hb o m.nx) (hob : ∀ (k : Nat) (o : Id) (x' : Ob), src[k]? = some o → o1[k]? = some x' → ∃ x, m.o o = some x ∧ ObC x x') (hr : r.ok o2.length) (hc : ∀ x ∈ o2, ObC x x)
    (hk : K (r.pv (fun j => src.getD j [j])) (m.puts src o2)) : acall P [] g args m K := by
  refine ⟨_, _, fun _ => AC.hb (fun hhb => ?_) h.1, .inl rfl, hk⟩
  have hw := WkM_L (n0 := 0) (m := m) src o1 (Nat.zero_le _) hl (fun k hk => by omega) hnd hob
  have hin : ∀ k, k < o1.length → src.getD k [k] ∈ src := fun k hk => by
    have : k < src.length := by omega
    simp [List.getD, this]
  have hsrc : ∀ o, hb o (ML o1).nx → hb (srcI src o) m.nx := fun o ho => by
    match o, ho with
    | [k], ho => exact hx _ (hin k ho)
    | k :: b :: q, ho =>
      have h1 := hx _ (hin k ho)
      simp only [srcI]
      generalize src.getD k [k] = u at h1
      cases u with
      | nil => exact h1.elim
      | cons a u => exact h1
  refine AC.gen (fun _ => False) (srcI src) (srcI src) id h (by rw [ha]; simp) (fun i p q h1 h2 => ?_) hw (fun o ho => ⟨hsrc o ho, rfl⟩) (fun o ho hn => ?_) (by rw [puts_nx]; exact Nat.le_refl _) (Own.rn (fun j => rfl) hr) (.inl fun _ h => h) (fun o y ho => ?_)
  · rw [ha, List.getElem?_map] at h1
    rw [List.getElem?_map] at h2
    obtain ⟨x, hx1, rfl⟩ := Option.map_eq_some_iff.1 h1
    rw [hx1] at h2; cases h2
    have := hok x (List.mem_of_getElem? hx1)
    cases x with
    | sl j sz n off len => exact .sl [j] sz n off len this
    | bp j q => exact .bp [j] q this
    | v p => exact .c _ _ (this _ _)
  · refine absurd ?_ hn
    rw [ML_nx] at ho ⊢; rw [← h12]; exact ho
  · rcases puts_at src o2 m (by omega) o y ho with ⟨h1, h2⟩ | ⟨j, h1, h2⟩
    · refine .inl ⟨hhb o y h1, h1, fun o1' x1 h3 e => h2 ?_⟩
      obtain ⟨k, rfl, h4⟩ := ML_get h3
      rw [← e]; exact hin k (List.getElem?_eq_some_iff.1 h4).1
    · refine .inr ⟨[j], y, ?_, h2, RnO_c (hc y (List.mem_of_getElem? h2)), fun h => ?_⟩
      · simp [srcI, h1]
      · have : j < o1.length := h
        exact ⟨o1[j], by show o1[j]? = _; simp [this]⟩
end
end Go.Proofs.YtolejglfohagnaaW.AW
