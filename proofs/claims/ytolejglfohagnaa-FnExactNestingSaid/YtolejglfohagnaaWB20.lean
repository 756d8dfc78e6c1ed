/- A call beside the caller's memory. Plain lemmas: no statement of the program. -/
import Derived.Test.YtolejglfohagnaaWB19
namespace Go.Proofs.YtolejglfohagnaaW.AW
open Go Go.RowKit
set_option linter.unusedVariables false
set_option linter.unusedSimpArgs false

/-- No memory of one's own, the next object is number n. -/
def E (n : Nat) : Mem := ⟨fun _ => none, n⟩
/-- It leads into no closed memory. -/
inductive NR : PV → Prop
  | und : NR .und
  | bool (b) : NR (.bool b)
  | int (k n) : NR (.int k n)
  | str (s) : NR (.str s)
  | nils : NR .nils
  | cl0 (sz g) : NR (.cl sz 0 g)
  | sl (o sz n off len) : NR (.sl o sz n off len)
  | ow (sz n g) (h : ∀ i, i < n → ∀ p ∈ g i, NR p) : NR (.ow sz n g)
  | bp (o j) : NR (.bp o j)
  | pt (o sz n i j) : NR (.pt o sz n i j)
  | mp (o) : NR (.mp o)
  | ag (ps) (h : ∀ p ∈ ps, NR p) : NR (.ag ps)
  | tu (ps) (h : ∀ p ∈ ps, NR p) : NR (.tu ps)
  | fn (f ps) (h : ∀ p ∈ ps, NR p) : NR (.fn f ps)
def NRO : Ob → Prop
  | .no => True
  | .box ps => ∀ p ∈ ps, NR p
  | .row _ n g => ∀ i, i < n → ∀ p ∈ g i, NR p
  | .map f => ∀ k p, f k = some p → NR p
  | .it _ => False
/-- Objects of a call, as the caller numbers them: from n on. -/
def shI (n : Nat) : Id → Id
  | [] => []
  | k :: q => (n + k) :: q
def dnI (n : Nat) : Id → Id
  | [] => []
  | k :: q => (k - n) :: q
section
variable {P : Program} {β κ : Id → Nat} {w : World} {S : Nat → Prop}
theorem OV.nr {nx : Nat} {S' : Nat → Prop} {v : Value} {p : PV} (h : OV β κ (dN nx) w S v p) (hn : NR p) : OV β κ (dN nx) w S' v p := by
  induction hn generalizing v with
  | und => exact .rv _ _ (.und _)
  | bool b => rw [h.bool_inv]; exact .bool_mk
  | int k n => obtain ⟨rfl, h2⟩ := h.int_inv; exact .int_mk h2
  | str s => obtain ⟨rfl, h2⟩ := h.str_inv; exact .str_mk h2
  | nils => rw [h.nils_inv]; exact .rv _ _ .nils
  | cl0 sz g => obtain ⟨A, c, rfl, _⟩ := h.cl_inv; exact .rv _ _ (.cl0 _ _ _ _)
  | sl o sz n off len => obtain ⟨A, c, rfl, a, b, c', d, e, f⟩ := h.sl_inv; exact .sl _ _ _ _ _ _ _ a b c' d e f
  | ow => cases h with | rv _ _ h => cases h
  | bp o j => rw [h.bp_inv.1]; exact .bp _ _ h.bp_inv.2
  | pt o sz n i j => rw [h.pt_inv.1]; exact .pt _ _ _ _ _ h.pt_inv.2.1 h.pt_inv.2.2
  | mp o => rw [h.mp_inv.1]; exact .mp _ h.mp_inv.2
  | ag ps hp ih =>
    obtain ⟨vs, rfl, h2, h3⟩ := h.ag_inv
    exact .ag vs ps h2 (fun j p hj => (h3 j p hj).1) (fun j p hj => ih p (List.mem_of_getElem? hj) (h3 j p hj).2)
  | tu ps hp ih =>
    obtain ⟨vs, rfl, h2, h3⟩ := h.tu_inv
    exact .tu vs ps h2 (fun j p hj => ih p (List.mem_of_getElem? hj) (h3 j p hj))
  | fn f ps hp ih =>
    obtain ⟨vs, rfl, h2, h3⟩ := h.fn_inv
    exact .fn f vs ps h2 (fun j p hj => ih p (List.mem_of_getElem? hj) (h3 j p hj))
theorem RV.nr {S' : Nat → Prop} {v : Value} {p : PV} (h : RV w S v p) (hn : NR p) : RV w S' v p := by
  induction hn generalizing v with
  | und => exact .und _
  | bool b => cases h; exact .bool _
  | int k n => cases h; rename_i h; exact .int _ _ h
  | str s => cases h; rename_i h; exact .str _ h
  | nils => cases h; exact .nils
  | cl0 sz g => cases h <;> exact .cl0 _ _ _ _
  | sl => cases h
  | ow => cases h
  | bp => cases h
  | pt => cases h
  | mp => cases h
  | ag ps hp ih => cases h with | ag vs _ hl h1 hv => exact .ag vs ps hl h1 (fun j p hj => ih p (List.mem_of_getElem? hj) (hv j p hj))
  | tu ps hp ih => cases h with | tu vs _ hl hv => exact .tu vs ps hl (fun j p hj => ih p (List.mem_of_getElem? hj) (hv j p hj))
  | fn => cases h
theorem CV.nr {S' : Nat → Prop} {G : Nat → Prop} {v : Value} {p : PV} (h : CV w S G v p) (hn : NR p) : CV w S' G v p := by
  induction h with
  | rv F v p h h0 => exact .rv F v p (h.nr hn) h0
  | no F A sz g h0 => exact .no F A sz g h0
  | ow A b n c sz g cur e fz F hz hp hn' hm h0 hh hs hl hF h1 hv ih =>
    cases hn with
    | ow _ _ _ hq => exact .ow A b n c sz g cur e fz F hz hp hn' hm h0 hh hs hl hF h1 (fun i j p hi hp => ih i j p hi hp (hq i hi p (List.mem_of_getElem? hp)))
theorem TV.nr {nx : Nat} {S' : Nat → Prop} {G : Nat → Prop} {v : Value} {p : PV} (h : TV β κ (dN nx) w S G v p) (hn : NR p) : TV β κ (dN nx) w S' G v p := by
  rcases h with ⟨h, h0⟩ | h
  · exact .inl ⟨h.nr hn, h0⟩
  · exact .inr (h.nr hn)
theorem hb_sh {n k : Nat} {o : Id} (h : hb o k) : hb (shI n o) (n + k) := by
  cases o with
  | nil => exact h
  | cons a q => simp only [hb, shI] at h ⊢; omega
theorem E_MR {n : Nat} {A : Id → Nat → Prop} (hS : ∀ k, S k → k < w.heap.size) : MR w S (E n) β κ A :=
  ⟨fun o x h => by simp [E] at h, fun o x k h => by simp [E] at h, fun o o' x x' k h => by simp [E] at h, fun o x h => by simp [E] at h, hS⟩
theorem E_own {n k : Nat} {A : Id → Nat → Prop} : ¬ own (E n) A k := fun ⟨o, x, h, _⟩ => by simp [E] at h
end
end Go.Proofs.YtolejglfohagnaaW.AW
