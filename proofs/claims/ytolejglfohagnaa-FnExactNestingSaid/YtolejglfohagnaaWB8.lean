/- What leaves memory alone: built values; the whole lemma. Plain lemmas: no statement of the program. -/
import Derived.Test.YtolejglfohagnaaWB7
namespace Go.Proofs.YtolejglfohagnaaW.AW
open Go Go.RowKit
set_option linter.unusedVariables false
set_option linter.unusedSimpArgs false

theorem fold_at (off : Nat) : ∀ (vs : List Value) (k : Nat) (cells : Array Value), ((vs.zipIdx k).foldl (fun cs (x : Value × Nat) => cs.setIfInBounds (off + x.2) x.1) cells).size = cells.size ∧
    ∀ x, ((vs.zipIdx k).foldl (fun cs (x : Value × Nat) => cs.setIfInBounds (off + x.2) x.1) cells)[x]? = if off + k ≤ x ∧ x < off + k + vs.length ∧ x < cells.size then vs[x - (off + k)]? else cells[x]?
  | [], k, cells => by
    refine ⟨rfl, fun x => ?_⟩
    rw [if_neg (by simp; omega)]; rfl
  | v :: r, k, cells => by
    obtain ⟨h1, h2⟩ := fold_at off r (k + 1) (cells.setIfInBounds (off + k) v)
    simp only [List.zipIdx_cons, List.foldl_cons]
    refine ⟨by rw [h1, Array.size_setIfInBounds], fun x => ?_⟩
    rw [h2 x, Array.size_setIfInBounds, List.length_cons]
    by_cases hx : off + k = x
    · subst hx
      rw [if_neg (by omega), Array.getElem?_setIfInBounds, if_pos rfl]
      by_cases hs : off + k < cells.size
      · rw [if_pos hs, if_pos (by omega), Nat.sub_self]; rfl
      · rw [if_neg hs, if_neg (by omega)]; simp; omega
    · by_cases hin : off + (k + 1) ≤ x ∧ x < off + (k + 1) + r.length ∧ x < cells.size
      · rw [if_pos hin, if_pos (by omega), show x - (off + k) = (x - (off + (k + 1))) + 1 by omega, List.getElem?_cons_succ]
      · rw [if_neg hin, if_neg (by omega), Array.getElem?_setIfInBounds, if_neg hx]

section
variable {P : Program} {β κ : Id → Nat} {w : World} {S : Nat → Prop} {m : Mem} {e : Operand → PV} {ρ : Operand → Value} {o : Oper} {cs : List Bool} {D : Id → Prop}
/-- Cells, one by one. -/
def CR (β κ : Id → Nat) (D : Id → Prop) (w : World) (S : Nat → Prop) (vs : Array Value) (ps : List PV) : Prop := vs.size = ps.length ∧ ∀ j p, ps[j]? = some p → (vs.getD j undef).oneCell' = true ∧ OV β κ D w S (vs.getD j undef) p
theorem CR.one {v : Value} {p : PV} (h : OV β κ D w S v p) (h1 : v.oneCell' = true) (hc : v.cells = #[v]) : CR β κ D w S v.cells [p] := by
  rw [hc]
  refine ⟨rfl, fun j q hq => ?_⟩
  cases j with
  | zero => simp only [List.getElem?_cons_zero, Option.some.injEq] at hq; subst hq; exact ⟨h1, h⟩
  | succ j => simp at hq
theorem CR.of {v : Value} {p : PV} {qs : List PV} (h : OV β κ D w S v p) (hp : pcells p = some qs) : CR β κ D w S v.cells qs := by
  cases p with
  | und => cases hp
  | gd _ _ => cases hp
  | tu _ => cases hp
  | ag ps => simp only [pcells, Option.some.injEq] at hp; subst hp; obtain ⟨vs, rfl, hl, hv⟩ := h.ag_inv; exact ⟨hl, hv⟩
  | bool b => simp only [pcells, Option.some.injEq] at hp; subst hp; have e := h.bool_inv; subst e; exact CR.one h rfl rfl
  | int k n => simp only [pcells, Option.some.injEq] at hp; subst hp; have e := h.int_inv.1; subst e; exact CR.one h rfl rfl
  | str s => simp only [pcells, Option.some.injEq] at hp; subst hp; have e := h.str_inv.1; subst e; exact CR.one h rfl rfl
  | nils => simp only [pcells, Option.some.injEq] at hp; subst hp; have e := h.nils_inv; subst e; exact CR.one h rfl rfl
  | cl sz n g => simp only [pcells, Option.some.injEq] at hp; subst hp; obtain ⟨A, c, rfl, _⟩ := h.cl_inv; exact CR.one h rfl rfl
  | sl i sz n off len => simp only [pcells, Option.some.injEq] at hp; subst hp; obtain ⟨A, c, rfl, _⟩ := h.sl_inv; exact CR.one h rfl rfl
  | pc qs => simp only [pcells, Option.some.injEq] at hp; subst hp; obtain ⟨a, rfl, _⟩ := h.pc_inv; exact CR.one h rfl rfl
  | bp i j => simp only [pcells, Option.some.injEq] at hp; subst hp; have e := h.bp_inv.1; subst e; exact CR.one h rfl rfl
  | pt i sz n k j => simp only [pcells, Option.some.injEq] at hp; subst hp; have e := h.pt_inv.1; subst e; exact CR.one h rfl rfl
  | mp i => simp only [pcells, Option.some.injEq] at hp; subst hp; have e := h.mp_inv.1; subst e; exact CR.one h rfl rfl
  | ow _ _ _ => cases hp
  | fn f ps => 
    simp only [pcells, Option.some.injEq] at hp; subst hp
    have e : ∃ vs, v = .func (.func f) #[] vs := by
      cases h with
      | rv _ _ h => cases h
      | fn _ vs _ _ _ => exact ⟨vs, rfl⟩
    obtain ⟨vs, rfl⟩ := e
    exact CR.one h rfl rfl
theorem CR.at_ {vs : Array Value} {ps : List PV} (h : CR β κ D w S vs ps) {j : Nat} {p : PV} (hp : ps[j]? = some p) : ∃ v, vs[j]? = some v ∧ v.oneCell' = true ∧ OV β κ D w S v p := by
  have hj : j < vs.size := by rw [h.1]; exact (List.getElem?_eq_some_iff.1 hp).1
  obtain ⟨h1, h2⟩ := h.2 j p hp
  exact ⟨vs.getD j undef, by simp [Array.getD, hj], h1, h2⟩
theorem CR.mk_ {vs : Array Value} {ps : List PV} (hl : vs.size = ps.length) (h : ∀ (j : Nat) (p : PV), ps[j]? = some p → ∃ v, vs[j]? = some v ∧ v.oneCell' = true ∧ OV β κ D w S v p) : CR β κ D w S vs ps := by
  refine ⟨hl, fun j p hp => ?_⟩
  obtain ⟨v, h1, h2⟩ := h j p hp
  have : vs.getD j undef = v := by simp [Array.getD_eq_getD_getElem?, h1]
  rw [this]; exact h2
theorem CR.splice {cur vs : Array Value} {ps qs : List PV} (h : CR β κ D w S cur ps) (hv : CR β κ D w S vs qs) {off : Nat} (hf : off + qs.length ≤ ps.length) {new : Array Value} (hs : new.size = cur.size)
    (hn : ∀ x, new[x]? = if off ≤ x ∧ x < off + vs.size ∧ x < cur.size then vs[x - off]? else cur[x]?) : CR β κ D w S new (ps.take off ++ qs ++ ps.drop (off + qs.length)) := by
  have hl : (ps.take off).length = off := by rw [List.length_take]; omega
  refine CR.mk_ (by simp only [List.length_append, hl, List.length_drop]; rw [hs, h.1]; omega) (fun j p hp => ?_)
  have hj := (List.getElem?_eq_some_iff.1 hp).1
  simp only [List.length_append, hl, List.length_drop] at hj
  rw [hn j]
  rw [List.append_assoc, List.getElem?_append] at hp
  by_cases h1 : j < off
  · rw [if_pos (by omega), List.getElem?_take, if_pos h1] at hp
    rw [if_neg (by omega)]
    exact h.at_ hp
  · rw [if_neg (by omega), hl, List.getElem?_append] at hp
    by_cases h2 : j - off < qs.length
    · rw [if_pos h2] at hp
      rw [if_pos (by rw [hv.1, h.1]; omega)]
      exact hv.at_ hp
    · rw [if_neg h2, List.getElem?_drop] at hp
      rw [if_neg (by rw [hv.1]; omega)]
      exact h.at_ (by rw [← hp]; congr 1; omega)
theorem fill_ok (place : Nat → Option (Nat × Nat)) (fs : List (Nat × Nat × Nat)) (hp : ∀ i off sz ft, fs[i]? = some (off, sz, ft) → place i = some (off, sz)) : ∀ (parts : List (Nat × Value)) (qs : List (Nat × PV)) (cells : Array Value) (ps rs : List PV),
    parts.length = qs.length → (∀ (j i : Nat) (q : PV), qs[j]? = some (i, q) → ∃ v, parts[j]? = some (i, v) ∧ OV β κ D w S v q) → CR β κ D w S cells ps → afill fs ps qs = some rs → ∃ cs', Instr.fill place cells parts = some cs' ∧ CR β κ D w S cs' rs
  | [], qs, cells, ps, rs, hl, _, hc, ha => by
    cases qs with
    | nil => simp only [afill, Option.some.injEq] at ha; subst ha; exact ⟨cells, rfl, hc⟩
    | cons _ _ => cases hl
  | (i, v) :: r, qs, cells, ps, rs, hl, hq, hc, ha => by
    cases qs with
    | nil => cases hl
    | cons x qs =>
      obtain ⟨i', q⟩ := x
      obtain ⟨v', h1, h2⟩ := hq 0 i' q rfl
      simp only [List.getElem?_cons_zero, Option.some.injEq, Prod.mk.injEq] at h1
      obtain ⟨rfl, rfl⟩ := h1
      simp only [afill] at ha
      split at ha
      · rename_i off sz ft us hf hu
        split at ha
        · rename_i hsz
          have hv := CR.of h2 hu
          have hpl := hp _ _ _ _ hf
          obtain ⟨g1, g2⟩ := fold_at off v.cells.toList 0 cells
          have hz : v.cells.size = sz := by rw [hv.1]; exact hsz.1
          have e : v.cells.zipIdx.foldl (fun cs (x : Value × Nat) => cs.setIfInBounds (off + x.2) x.1) cells = (v.cells.toList.zipIdx 0).foldl (fun cs (x : Value × Nat) => cs.setIfInBounds (off + x.2) x.1) cells := by
            rw [← Array.foldl_toList]; simp
          have hc2 := CR.splice hc hv (off := off) (by rw [hsz.1]; exact hsz.2) g1 (fun x => by rw [g2 x]; simp)
          rw [hsz.1] at hc2
          obtain ⟨cs', h3, h4⟩ := fill_ok place fs hp r qs _ _ rs (by simpa using hl) (fun j i q hj => hq (j + 1) i q hj) hc2 ha
          refine ⟨cs', ?_, h4⟩
          simp only [Instr.fill, hpl]
          rw [if_neg (by rw [hz, hc.1]; simp; omega)]
          exact e ▸ h3
        · cases ha
      · cases ha
end
end Go.Proofs.YtolejglfohagnaaW.AW
