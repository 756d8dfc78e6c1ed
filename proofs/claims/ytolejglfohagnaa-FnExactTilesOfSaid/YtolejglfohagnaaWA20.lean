/- A call beside the caller's memory. Plain lemmas: no statement of the program. -/
import Derived.Test.YtolejglfohagnaaWA19
namespace Go.Proofs.YtolejglfohagnaaW.AW
open Go Go.RowKit
set_option linter.unusedVariables false
set_option linter.unusedSimpArgs false

/-- No memory of one's own, the next object is number n. -/
def E (n : Nat) : Mem := ⟨fun _ => none, n⟩
/-- It leads into no closed memory. -/
inductive NR : PV → Prop
  | und : NR .und
  | bool (b) : NR (.bool b)
  | int (k n) : NR (.int k n)
  | str (s) : NR (.str s)
  | nils : NR .nils
  | cl0 (sz g) : NR (.cl sz 0 g)
  | sl (o sz n off len) : NR (.sl o sz n off len)
  | bp (o j) : NR (.bp o j)
  | pt (o sz n i j) : NR (.pt o sz n i j)
  | ag (ps) (h : ∀ p ∈ ps, NR p) : NR (.ag ps)
  | tu (ps) (h : ∀ p ∈ ps, NR p) : NR (.tu ps)
  | fn (f ps) (h : ∀ p ∈ ps, NR p) : NR (.fn f ps)
def NRO : Ob → Prop
  | .box ps => ∀ p ∈ ps, NR p
  | .row _ n g => ∀ i, i < n → ∀ p ∈ g i, NR p
/-- Objects of a call, as the caller numbers them: from n on. -/
def shI (n : Nat) : Id → Id
  | [] => []
  | k :: q => (n + k) :: q
def dnI (n : Nat) : Id → Id
  | [] => []
  | k :: q => (k - n) :: q
inductive Sh (n : Nat) : PV → PV → Prop
  | same (p) (h : NR p) (h2 : ∀ o sz m off len, p ≠ .sl o sz m off len) (h3 : ∀ o j, p ≠ .bp o j) (h4 : ∀ o sz m i j, p ≠ .pt o sz m i j) (h5 : ∀ ps, p ≠ .ag ps) (h6 : ∀ ps, p ≠ .tu ps) (h7 : ∀ f ps, p ≠ .fn f ps) : Sh n p p
  | sl (o sz m off len) : Sh n (.sl o sz m off len) (.sl (shI n o) sz m off len)
  | bp (o j) : Sh n (.bp o j) (.bp (shI n o) j)
  | pt (o sz m i j) : Sh n (.pt o sz m i j) (.pt (shI n o) sz m i j)
  | ag (ps qs) (hl : qs.length = ps.length) (h : ∀ (j : Nat) (p q : PV), ps[j]? = some p → qs[j]? = some q → Sh n p q) : Sh n (.ag ps) (.ag qs)
  | tu (ps qs) (hl : qs.length = ps.length) (h : ∀ (j : Nat) (p q : PV), ps[j]? = some p → qs[j]? = some q → Sh n p q) : Sh n (.tu ps) (.tu qs)
def ShO (n : Nat) : Ob → Ob → Prop
  | .box ps, .box qs => qs.length = ps.length ∧ ∀ (j : Nat) (p q : PV), ps[j]? = some p → qs[j]? = some q → Sh n p q
  | .row sz m g, .row sz' m' g' => sz' = sz ∧ m' = m ∧ ∀ i, i < m → (g' i).length = (g i).length ∧ ∀ (j : Nat) (p q : PV), (g i)[j]? = some p → (g' i)[j]? = some q → Sh n p q
  | _, _ => False
section
variable {P : Program} {β κ : Id → Nat} {w : World} {S : Nat → Prop}
theorem OV.nr {nx : Nat} {S' : Nat → Prop} {v : Value} {p : PV} (h : OV β κ nx w S v p) (hn : NR p) : OV β κ nx w S' v p := by
  induction hn generalizing v with
  | und => exact .rv _ _ (.und _)
  | bool b => rw [h.bool_inv]; exact .bool_mk
  | int k n => obtain ⟨rfl, h2⟩ := h.int_inv; exact .int_mk h2
  | str s => obtain ⟨rfl, h2⟩ := h.str_inv; exact .str_mk h2
  | nils => rw [h.nils_inv]; exact .rv _ _ .nils
  | cl0 sz g => obtain ⟨A, c, rfl, _⟩ := h.cl_inv; exact .rv _ _ (.cl0 _ _ _ _)
  | sl o sz n off len => obtain ⟨A, c, rfl, a, b, c', d, e, f⟩ := h.sl_inv; exact .sl _ _ _ _ _ _ _ a b c' d e f
  | bp o j => rw [h.bp_inv.1]; exact .bp _ _ h.bp_inv.2
  | pt o sz n i j => rw [h.pt_inv.1]; exact .pt _ _ _ _ _ h.pt_inv.2.1 h.pt_inv.2.2
  | ag ps hp ih =>
    obtain ⟨vs, rfl, h2, h3⟩ := h.ag_inv
    exact .ag vs ps h2 (fun j p hj => (h3 j p hj).1) (fun j p hj => ih p (List.mem_of_getElem? hj) (h3 j p hj).2)
  | tu ps hp ih =>
    obtain ⟨vs, rfl, h2, h3⟩ := h.tu_inv
    exact .tu vs ps h2 (fun j p hj => ih p (List.mem_of_getElem? hj) (h3 j p hj))
  | fn f ps hp ih =>
    obtain ⟨vs, rfl, h2, h3⟩ := h.fn_inv
    exact .fn f vs ps h2 (fun j p hj => ih p (List.mem_of_getElem? hj) (h3 j p hj))
theorem hb_sh {n k : Nat} {o : Id} (h : hb o k) : hb (shI n o) (n + k) := by
  cases o with
  | nil => exact h
  | cons a q => simp only [hb, shI] at h ⊢; omega
/-- The answer, as the caller numbers it. -/
theorem Sh.ok {n nx : Nat} {β' κ' : Id → Nat} (hβ : ∀ o, hb o nx → β' (shI n o) = β o ∧ κ' (shI n o) = κ o) {p q : PV} (h : Sh n p q) : ∀ {v : Value}, OV β κ nx w S v p → OV β' κ' (n + nx) w S v q := by
  induction h with
  | same p h h2 h3 h4 h5 h6 h7 =>
    intro v hv
    cases hv with
    | rv _ _ hv => exact .rv _ _ hv
    | sl => exact absurd rfl (h2 _ _ _ _ _)
    | bp => exact absurd rfl (h3 _ _)
    | pt => exact absurd rfl (h4 _ _ _ _ _)
    | ag => exact absurd rfl (h5 _)
    | tu => exact absurd rfl (h6 _)
    | fn => exact absurd rfl (h7 _ _)
    | gd => cases h
  | sl o sz m off len =>
    intro v hv
    obtain ⟨A, c, rfl, a, b, c', d, e, f⟩ := hv.sl_inv
    obtain ⟨h1, h2⟩ := hβ o a
    exact .sl _ _ _ _ _ _ _ (hb_sh a) b c' (by rw [h2]; exact d) (by rw [h2]; exact e) (by rw [h1]; exact f)
  | bp o j =>
    intro v hv
    obtain ⟨rfl, a⟩ := hv.bp_inv
    rw [← (hβ o a).1]; exact .bp _ _ (hb_sh a)
  | pt o sz m i j =>
    intro v hv
    obtain ⟨rfl, a, b⟩ := hv.pt_inv
    rw [← (hβ o a).1]; exact .pt _ _ _ _ _ (hb_sh a) b
  | ag ps qs hl h ih =>
    intro v hv
    obtain ⟨vs, rfl, h2, h3⟩ := hv.ag_inv
    refine .ag vs qs (h2.trans hl.symm) (fun j q hq => ?_) (fun j q hq => ?_)
    · obtain ⟨p, hp⟩ := getq hl hq; exact (h3 j p hp).1
    · obtain ⟨p, hp⟩ := getq hl hq; exact ih j p q hp hq (h3 j p hp).2
  | tu ps qs hl h ih =>
    intro v hv
    obtain ⟨vs, rfl, h2, h3⟩ := hv.tu_inv
    refine .tu vs qs (h2.trans hl.symm) (fun j q hq => ?_)
    obtain ⟨p, hp⟩ := getq hl hq; exact ih j p q hp hq (h3 j p hp)
theorem E_MR {n : Nat} (hS : ∀ k, S k → k < w.heap.size) : MR w S (E n) β κ :=
  ⟨fun o x h => by simp [E] at h, fun k ⟨o, x, h, _⟩ => by simp [E] at h, fun o o' x x' h => by simp [E] at h, fun o x h => by simp [E] at h, hS⟩
theorem E_main {n k : Nat} : ¬ main (E n) β κ k := fun ⟨o, x, h, _⟩ => by simp [E] at h
/-- The memory behind a call that made objects: x ids from the caller's next on. -/
def Mem.join (m : Mem) (x : Id → Option Ob) (n : Nat) : Mem := ⟨fun o => if o.headD 0 < m.nx then m.o o else x o, m.nx + n⟩
/-- A CALL that is given closed values alone (what it is lent, F, among them): it leaves the caller's memory, and hands back objects of its own. -/
theorem AC.call {f : FuncId} {args args1 : List PV} {r1 r : PV} {m : Mem} {m1 : Mem} {x : Id → Option Ob} (F : Id → Prop) (h : AC P f args1 (E 0) r1 m1) (hl : args1.length = args.length) (ha : ∀ (i : Nat) (p q : PV), args[i]? = some p → args1[i]? = some q → Wc m F p q)
    (hr : Sh m.nx r1 r) (hnr : NR r1) (hx : ∀ o y, x o = some y → m.nx ≤ o.headD 0 ∧ ∃ y1, m1.o (dnI m.nx o) = some y1 ∧ o = shI m.nx (dnI m.nx o) ∧ NRO y1 ∧ ShO m.nx y1 y) : AC P f args m r (m.join x m1.nx) := by
  refine ⟨h.1, fun w vs S β κ hm hvs hv => ?_⟩
  -- while the call runs nothing of what stands is written
  have hS2 : ∀ k, (Sf S m β κ F k ∨ False) → k < w.heap.size := fun k hk => by
    rcases hk with (hk | ⟨o, y, _, h1, h2, rfl⟩) | hk
    · exact hm.lt k hk
    · exact (hm.ob o y h1).lt h2
    · exact hk.elim
  have hm1 : MR w (Sf S m β κ F) (E 0) β κ := E_MR (fun k hk => hS2 k (.inl hk))
  refine (h.2 w vs (Sf S m β κ F) β κ hm1 (hvs.trans hl.symm) (fun i q hq => ?_)).mono ?_
  · obtain ⟨p, hp⟩ := getq hl hq
    exact .rv _ _ ((ha i p q hp hq).ok hm (hv i p hp))
  · rintro e w' ⟨v, S', β', κ', rfl, g1, g2, g3⟩
    have hold : ∀ k, k < w.heap.size → w'.heap[k]? = w.heap[k]? := fun k hk => g3.keep k hk E_main
    -- the caller's names
    let B : Id → Nat := fun o => if o.headD 0 < m.nx then β o else β' (dnI m.nx o)
    let Kp : Id → Nat := fun o => if o.headD 0 < m.nx then κ o else κ' (dnI m.nx o)
    have hB : ∀ o, hb o m.nx → B o = β o ∧ Kp o = κ o := fun o ho => by
      cases o with
      | nil => exact ho.elim
      | cons a q => exact ⟨if_pos ho, if_pos ho⟩
    have hBs : ∀ o : Id, o ≠ [] → B (shI m.nx o) = β' o ∧ Kp (shI m.nx o) = κ' o := fun o ho => by
      cases o with
      | nil => exact absurd rfl ho
      | cons a q =>
        have h0 : ¬ m.nx + a < m.nx := by omega
        simp [B, Kp, shI, dnI, h0]
    have nn : ∀ o n, hb o n → o ≠ [] := fun o n h e => by subst e; exact h
    have new1 : ∀ k, main m1 β' κ' k → w.heap.size ≤ k := fun k hk => by
      rcases g3.new k hk with h1 | h1
      · exact h1
      · exact absurd h1 E_main
    -- S as the caller has it behind the call
    let S2 : Nat → Prop := fun k => S k
    have hSu : ∀ k, S k → w'.heap[k]? = w.heap[k]? := fun k hk => hold k (hm.lt k hk)
    have hsh : ∀ o, hb o m1.nx → B (shI m.nx o) = β' o ∧ Kp (shI m.nx o) = κ' o := fun o ho => hBs o (nn o _ ho)
    have at_ : ∀ o y, (m.join x m1.nx).o o = some y → (hb o m.nx ∧ m.o o = some y) ∨ (∃ o1 y1, o = shI m.nx o1 ∧ hb o1 m1.nx ∧ m1.o o1 = some y1 ∧ NRO y1 ∧ ShO m.nx y1 y) := fun o y h => by
      simp only [Mem.join] at h
      split at h
      · exact .inl ⟨hm.nx o y h, h⟩
      · obtain ⟨_, y1, h2, h3, h4, h5⟩ := hx o y h
        exact .inr ⟨_, y1, h3, g2.nx _ y1 h2, h2, h4, h5⟩
    have realS : ∀ o1 y1 y, hb o1 m1.nx → ShO m.nx y1 y → real Kp (shI m.nx o1) y → real κ' o1 y1 := fun o1 y1 y ho hs hr => by
      cases y1 <;> cases y <;> simp only [ShO] at hs <;> first | trivial | exact hs.elim | (simp only [real] at hr ⊢; rwa [(hsh o1 ho).2] at hr)
    have realO : ∀ o y, hb o m.nx → real Kp o y → real κ o y := fun o y ho hr => by
      cases y with
      | box _ => trivial
      | row _ _ _ => simpa [real, (hB o ho).2] using hr
    have mainJ : ∀ k, main (m.join x m1.nx) B Kp k → main m β κ k ∨ main m1 β' κ' k := by
      rintro k ⟨o, y, h1, h2, h3⟩
      rcases at_ o y h1 with ⟨h4, h5⟩ | ⟨o1, y1, rfl, h4, h5, _, h6⟩
      · exact .inl ⟨o, y, h5, realO o y h4 h2, by rw [← h3, (hB o h4).1]⟩
      · exact .inr ⟨o1, y1, h5, realS o1 y1 y h4 h6 h2, by rw [← h3, (hsh o1 h4).1]⟩
    have hv1 : OV B Kp (m.nx + m1.nx) w' S v r := Sh.ok hsh hr (g1.nr hnr)
    refine ⟨v, S, B, Kp, rfl, hv1, ⟨fun o y ho => ?_, fun k hk hs => ?_, fun o o' y y' h1 h2 h3 h4 he => ?_, fun o y ho => ?_, fun k hk => Nat.lt_of_lt_of_le (hm.lt k hk) g3.size⟩, ⟨g3.os, g3.tape, g3.output, g3.size, fun _ h => h, hB, fun k hk _ => hold k hk, Nat.le_add_right _ _, fun k hk => ?_, fun k hk => .inl hk⟩⟩
    · rcases at_ o y ho with ⟨h4, h5⟩ | ⟨o1, y1, rfl, h4, h5, h6, h7⟩
      · exact (hm.ob o y h5).move hB (Nat.le_add_right _ _) (fun _ h => h) hSu h4 (fun hr => hold _ ((hm.ob o y h5).lt hr))
      · have hob := g2.ob o1 y1 h5
        have mv : ∀ u p q, NR p → Sh m.nx p q → OV β' κ' m1.nx w' S' u p → OV B Kp (m.nx + m1.nx) w' S u q := fun u p q hp hq hu => Sh.ok hsh hq (hu.nr hp)
        cases y1 <;> cases y <;> simp only [ShO] at h7
        · obtain ⟨cur, e, a1, a2, a3⟩ := hob
          refine ⟨cur, e, by rw [(hsh o1 h4).1]; exact a1, a2.trans h7.1.symm, fun j q hq => ?_⟩
          obtain ⟨p, hp⟩ := getq h7.1 hq
          exact ⟨(a3 j p hp).1, mv _ p q (h6 p (List.mem_of_getElem? hp)) (h7.2 j p q hp hq) (a3 j p hp).2⟩
        · obtain ⟨rfl, rfl, h8⟩ := h7
          rcases hob with ⟨z1, z2⟩ | ⟨cur, e, a1, a2, a3, a4, a5, a6, a7⟩
          · exact .inl ⟨by rw [(hsh o1 h4).2]; exact z1, z2⟩
          · refine .inr ⟨cur, e, by rw [(hsh o1 h4).1]; exact a1, by rw [(hsh o1 h4).2]; exact a2, by rw [(hsh o1 h4).2]; exact a3, by rw [(hsh o1 h4).2]; exact a4, a5, fun i hi => by rw [(h8 i hi).1]; exact a6 i hi, fun i j q hi hq => ?_⟩
            obtain ⟨p, hp⟩ := getq (h8 i hi).1 hq
            exact ⟨(a7 i j p hi hp).1, mv _ p q (h6 i hi p (List.mem_of_getElem? hp)) ((h8 i hi).2 j p q hp hq) (a7 i j p hi hp).2⟩
    · rcases mainJ k hk with h1 | h1
      · exact hm.ns k h1 hs
      · have := new1 k h1; have := hm.lt k hs; omega
    · rcases at_ o y h1 with ⟨a1, a2⟩ | ⟨o1, y1, rfl, a1, a2, _, a3⟩ <;> rcases at_ o' y' h2 with ⟨b1, b2⟩ | ⟨o1', y1', rfl, b1, b2, _, b3⟩
      · rw [(hB o a1).1, (hB o' b1).1] at he
        exact hm.inj o o' y y' a2 b2 (realO o y a1 h3) (realO o' y' b1 h4) he
      · rw [(hB o a1).1, (hsh o1' b1).1] at he
        have k1 := (hm.ob o y a2).lt (realO o y a1 h3)
        have k2 := new1 _ ⟨o1', y1', b2, realS o1' y1' y' b1 b3 h4, rfl⟩
        omega
      · rw [(hsh o1 a1).1, (hB o' b1).1] at he
        have k1 := (hm.ob o' y' b2).lt (realO o' y' b1 h4)
        have k2 := new1 _ ⟨o1, y1, a2, realS o1 y1 y a1 a3 h3, rfl⟩
        omega
      · rw [(hsh o1 a1).1, (hsh o1' b1).1] at he
        rw [g2.inj o1 o1' y1 y1' a2 b2 (realS o1 y1 y a1 a3 h3) (realS o1' y1' y' b1 b3 h4) he]
    · rcases at_ o y ho with ⟨h4, _⟩ | ⟨o1, y1, rfl, h4, _⟩
      · exact h4.mono (Nat.le_add_right _ _)
      · exact hb_sh h4
    · rcases mainJ k hk with h1 | h1
      · exact .inr h1
      · exact .inl (new1 k h1)
end
end Go.Proofs.YtolejglfohagnaaW.AW
