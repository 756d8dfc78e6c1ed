/- A call that is handed objects of the caller's. Plain lemmas: no statement of the program. -/
import Derived.Test.YtolejglfohagnaaWA21
namespace Go.Proofs.YtolejglfohagnaaW.AW
open Go Go.RowKit
set_option linter.unusedVariables false
set_option linter.unusedSimpArgs false

def PV.flat : PV → Bool
  | .und | .bool _ | .int _ _ | .str _ | .nils | .cl _ _ _ | .pc _ => true
  | _ => false
/-- Told with other names of objects. -/
inductive Rn (τ : Id → Id) : PV → PV → Prop
  | same (p : PV) (h : p.flat = true) : Rn τ p p
  | sl (o sz n off len) : Rn τ (.sl o sz n off len) (.sl (τ o) sz n off len)
  | bp (o j) : Rn τ (.bp o j) (.bp (τ o) j)
  | pt (o sz n i j) : Rn τ (.pt o sz n i j) (.pt (τ o) sz n i j)
  | ag (ps qs) (hl : qs.length = ps.length) (h : ∀ (j : Nat) (p q : PV), ps[j]? = some p → qs[j]? = some q → Rn τ p q) : Rn τ (.ag ps) (.ag qs)
  | tu (ps qs) (hl : qs.length = ps.length) (h : ∀ (j : Nat) (p q : PV), ps[j]? = some p → qs[j]? = some q → Rn τ p q) : Rn τ (.tu ps) (.tu qs)
def RnO (τ : Id → Id) : Ob → Ob → Prop
  | .box ps, .box qs => qs.length = ps.length ∧ ∀ (j : Nat) (p q : PV), ps[j]? = some p → qs[j]? = some q → Rn τ p q
  | .row sz m g, .row sz' m' g' => sz' = sz ∧ m' = m ∧ ∀ i, i < m → (g' i).length = (g i).length ∧ ∀ (j : Nat) (p q : PV), (g i)[j]? = some p → (g' i)[j]? = some q → Rn τ p q
  | _, _ => False
section
variable {P : Program} {β κ : Id → Nat} {w : World} {S : Nat → Prop}
theorem Rn.ok {τ : Id → Id} {nx nx' : Nat} {B K : Id → Nat} (hβ : ∀ o, hb o nx → B (τ o) = β o ∧ K (τ o) = κ o ∧ hb (τ o) nx') {p q : PV} (h : Rn τ p q) : ∀ {v : Value}, OV β κ nx w S v p → OV B K nx' w S v q := by
  induction h with
  | same p h =>
    intro v hv
    cases hv with
    | rv _ _ hv => exact .rv _ _ hv
    | _ => simp [PV.flat] at h
  | sl o sz m off len =>
    intro v hv
    obtain ⟨A, c, rfl, a, b, c', d, e, f⟩ := hv.sl_inv
    obtain ⟨h1, h2, h3⟩ := hβ o a
    exact .sl _ _ _ _ _ _ _ h3 b c' (by rw [h2]; exact d) (by rw [h2]; exact e) (by rw [h1]; exact f)
  | bp o j =>
    intro v hv
    obtain ⟨rfl, a⟩ := hv.bp_inv
    rw [← (hβ o a).1]; exact .bp _ _ (hβ o a).2.2
  | pt o sz m i j =>
    intro v hv
    obtain ⟨rfl, a, b⟩ := hv.pt_inv
    rw [← (hβ o a).1]; exact .pt _ _ _ _ _ (hβ o a).2.2 b
  | ag ps qs hl h ih =>
    intro v hv
    obtain ⟨vs, rfl, h2, h3⟩ := hv.ag_inv
    refine .ag vs qs (h2.trans hl.symm) (fun j q hq => ?_) (fun j q hq => ?_)
    · obtain ⟨p, hp⟩ := getq hl hq; exact (h3 j p hp).1
    · obtain ⟨p, hp⟩ := getq hl hq; exact ih j p q hp hq (h3 j p hp).2
  | tu ps qs hl h ih =>
    intro v hv
    obtain ⟨vs, rfl, h2, h3⟩ := hv.tu_inv
    refine .tu vs qs (h2.trans hl.symm) (fun j q hq => ?_)
    obtain ⟨p, hp⟩ := getq hl hq; exact ih j p q hp hq (h3 j p hp)
/-- THE CALL. σ: the callee's names of the objects that it is handed; τ: of all that it hands back (σ's among them); F: objects that it is lent to read. -/
theorem AC.gen {f : FuncId} {args args1 : List PV} {r1 r : PV} {m m' m1 m1' : Mem} (F : Id → Prop) (σ τ dn : Id → Id) (h : AC P f args1 m1 r1 m1') (hl : args1.length = args.length) (ha : ∀ (i : Nat) (p q : PV), args[i]? = some p → args1[i]? = some q → Wk m F σ m1.nx p q)
    (hM : WkM 0 m F σ m1) (hσ : ∀ o, hb o m1.nx → hb (σ o) m.nx ∧ τ o = σ o) (hτ : ∀ o, hb o m1'.nx → ¬ hb o m1.nx → hb (τ o) m'.nx ∧ ¬ hb (τ o) m.nx ∧ dn (τ o) = o) (hle : m.nx ≤ m'.nx)
    (hr : Rn τ r1 r) (hgood : (∀ o, ¬ F o) ∨ (NR r1 ∧ ∀ o y, m1'.o o = some y → NRO y))
    (hm' : ∀ o y, m'.o o = some y → (hb o m.nx ∧ m.o o = some y ∧ ∀ o1 x1, m1.o o1 = some x1 → σ o1 ≠ o) ∨ ∃ o1 y1, o = τ o1 ∧ m1'.o o1 = some y1 ∧ RnO τ y1 y ∧ (hb o1 m1.nx → ∃ x1, m1.o o1 = some x1)) : AC P f args m r m' := by
  refine ⟨h.1, fun w vs S β κ hm hvs hv => ?_⟩
  have hm1 : MR w (Sf S m β κ F) m1 (fun o => β (σ o)) (fun o => κ (σ o)) := hM.ok hm
  refine (h.2 w vs _ _ _ hm1 (hvs.trans hl.symm) (fun i q hq => ?_)).mono ?_
  · obtain ⟨p, hp⟩ := getq hl hq
    exact (ha i p q hp hq).ok hm (hv i p hp)
  · rintro e w' ⟨v, S', β', κ', rfl, g1, g2, g3⟩
    -- the caller's names
    let B : Id → Nat := fun o => open Classical in if hb o m.nx then β o else β' (dn o)
    let K : Id → Nat := fun o => open Classical in if hb o m.nx then κ o else κ' (dn o)
    have hB : ∀ o, hb o m.nx → B o = β o ∧ K o = κ o := fun o ho => ⟨if_pos ho, if_pos ho⟩
    have hBτ : ∀ o, hb o m1'.nx → B (τ o) = β' o ∧ K (τ o) = κ' o ∧ hb (τ o) m'.nx := fun o ho => by
      by_cases h1 : hb o m1.nx
      · obtain ⟨h2, h3⟩ := hσ o h1
        obtain ⟨h4, h5⟩ := g3.be o h1
        obtain ⟨h6, h7⟩ := hB (σ o) h2
        exact ⟨by rw [h3, h6, h4], by rw [h3, h7, h5], by rw [h3]; exact h2.mono hle⟩
      · obtain ⟨h2, h3, h4⟩ := hτ o ho h1
        exact ⟨by simp only [B, if_neg h3, h4], by simp only [K, if_neg h3, h4], h2⟩
    have main1 : ∀ k, main m1 (fun o => β (σ o)) (fun o => κ (σ o)) k → main m β κ k := by
      rintro k ⟨o, x1, h1, h2, h3⟩
      obtain ⟨_, _, x, h4, h5⟩ := hM.ob o x1 h1
      refine ⟨σ o, x, h4, ?_, h3⟩
      cases x <;> cases x1 <;> simp only [WkO] at h5 <;> first | trivial | exact h2 | exact h5.elim
    have new1 : ∀ k, main m1' β' κ' k → w.heap.size ≤ k ∨ main m β κ k := fun k hk => by
      rcases g3.new k hk with h1 | h1
      · exact .inl h1
      · exact .inr (main1 k h1)
    have keep1 : ∀ k, k < w.heap.size → ¬ main m1 (fun o => β (σ o)) (fun o => κ (σ o)) k → w'.heap[k]? = w.heap[k]? := g3.keep
    have hS0 : ∀ k, S k → w'.heap[k]? = w.heap[k]? := fun k hk => keep1 k (hm.lt k hk) (fun e => hm.ns k (main1 k e) hk)
    -- what stays closed
    let S2 : Nat → Prop := fun k => S k ∨ ((∀ o, ¬ F o) ∧ S' k)
    have mv : ∀ {nx : Nat} {u : Value} {p : PV}, ((∀ o, ¬ F o) ∨ NR p) → OV β' κ' nx w' S' u p → OV β' κ' nx w' S2 u p := fun hp hu => by
      rcases hp with hp | hp
      · exact hu.move (fun _ _ => ⟨rfl, rfl⟩) (Nat.le_refl _) (fun k hk => .inr ⟨hp, hk⟩) (fun _ _ => rfl)
      · exact hu.nr hp
    -- an object of the caller's that was not handed over
    have frame : ∀ o y, m.o o = some y → (∀ o1 x1, m1.o o1 = some x1 → σ o1 ≠ o) → real κ o y → ¬ main m1 (fun o => β (σ o)) (fun o => κ (σ o)) (β o) := by
      rintro o y h1 h2 h3 ⟨o1, x1, h4, h5, h6⟩
      obtain ⟨_, _, x, h7, h8⟩ := hM.ob o1 x1 h4
      have hx : real κ (σ o1) x := by cases x <;> cases x1 <;> simp only [WkO] at h8 <;> first | trivial | exact h5 | exact h8.elim
      exact h2 o1 x1 h4 (hm.inj _ _ _ _ h7 h1 hx h3 h6)
    have realB : ∀ o y, hb o m.nx → real K o y → real κ o y := fun o y ho hr => by
      cases y with
      | box _ => trivial
      | row _ _ _ => simpa [real, (hB o ho).2] using hr
    have realT : ∀ o1 y1 y, hb o1 m1'.nx → RnO τ y1 y → real K (τ o1) y → real κ' o1 y1 := fun o1 y1 y ho hs hr => by
      cases y1 <;> cases y <;> simp only [RnO] at hs <;> first | trivial | exact hs.elim | (simp only [real] at hr ⊢; rwa [(hBτ o1 ho).2.1] at hr)
    have mainJ : ∀ k, main m' B K k → (∃ o y, m.o o = some y ∧ (∀ o1 x1, m1.o o1 = some x1 → σ o1 ≠ o) ∧ real κ o y ∧ β o = k) ∨ main m1' β' κ' k := by
      rintro k ⟨o, y, h1, h2, h3⟩
      rcases hm' o y h1 with ⟨h4, h5, h6⟩ | ⟨o1, y1, rfl, h5, h6, _⟩
      · exact .inl ⟨o, y, h5, h6, realB o y h4 h2, by rw [← h3, (hB o h4).1]⟩
      · have h4 := g2.nx o1 y1 h5
        exact .inr ⟨o1, y1, h5, realT o1 y1 y h4 h6 h2, by rw [← h3, (hBτ o1 h4).1]⟩
    have hv1 : OV B K m'.nx w' S2 v r := Rn.ok hBτ hr (mv (by rcases hgood with h1 | h1; exact .inl h1; exact .inr h1.1) g1)
    refine ⟨v, S2, B, K, rfl, hv1, ⟨fun o y ho => ?_, fun k hk hs => ?_, fun o o' y y' h1 h2 h3 h4 he => ?_, fun o y ho => ?_, fun k hk => ?_⟩, ⟨g3.os, g3.tape, g3.output, g3.size, fun _ h => .inl h, hB, fun k hk hn => keep1 k hk (fun e => hn (main1 k e)), hle, fun k hk => ?_, fun k hk => ?_⟩⟩
    · rcases hm' o y ho with ⟨h4, h5, h6⟩ | ⟨o1, y1, rfl, h5, h7, _⟩
      · exact (hm.ob o y h5).move hB hle (fun _ h => .inl h) hS0 h4 (fun hr => keep1 _ ((hm.ob o y h5).lt hr) (frame o y h5 h6 hr))
      · have h4 := g2.nx o1 y1 h5
        have hob := g2.ob o1 y1 h5
        have hg : ∀ p, (NRO y1 → NR p) → ((∀ o, ¬ F o) ∨ NR p) := fun p hp => by
          rcases hgood with h1 | h1
          · exact .inl h1
          · exact .inr (hp (h1.2 o1 y1 h5))
        cases y1 <;> cases y <;> simp only [RnO] at h7
        · obtain ⟨cur, e, a1, a2, a3⟩ := hob
          refine ⟨cur, e, by rw [(hBτ o1 h4).1]; exact a1, a2.trans h7.1.symm, fun j q hq => ?_⟩
          obtain ⟨p, hp⟩ := getq h7.1 hq
          exact ⟨(a3 j p hp).1, Rn.ok hBτ (h7.2 j p q hp hq) (mv (hg p (fun hn => hn p (List.mem_of_getElem? hp))) (a3 j p hp).2)⟩
        · obtain ⟨rfl, rfl, h8⟩ := h7
          rcases hob with ⟨z1, z2⟩ | ⟨cur, e, a1, a2, a3, a4, a5, a6, a7⟩
          · exact .inl ⟨by rw [(hBτ o1 h4).2.1]; exact z1, z2⟩
          · refine .inr ⟨cur, e, by rw [(hBτ o1 h4).1]; exact a1, by rw [(hBτ o1 h4).2.1]; exact a2, by rw [(hBτ o1 h4).2.1]; exact a3, by rw [(hBτ o1 h4).2.1]; exact a4, a5, fun i hi => by rw [(h8 i hi).1]; exact a6 i hi, fun i j q hi hq => ?_⟩
            obtain ⟨p, hp⟩ := getq (h8 i hi).1 hq
            exact ⟨(a7 i j p hi hp).1, Rn.ok hBτ ((h8 i hi).2 j p q hp hq) (mv (hg p (fun hn => hn i hi p (List.mem_of_getElem? hp))) (a7 i j p hi hp).2)⟩
    · rcases mainJ k hk with ⟨o, y, a1, a2, a3, a4⟩ | h1
      · have hmk : main m β κ k := ⟨o, y, a1, a3, a4⟩
        rcases hs with hs | ⟨hF, hs⟩
        · exact hm.ns k hmk hs
        · rcases g3.snew k hs with h2 | h2 | h2
          · rcases h2 with h2 | ⟨o', _, hF', _⟩
            · exact hm.ns k hmk h2
            · exact hF o' hF'
          · have := (hm.ob o y a1).lt a3; omega
          · exact frame o y a1 a2 a3 (a4 ▸ h2)
      · rcases hs with hs | ⟨hF, hs⟩
        · exact g2.ns k h1 (g3.sub k (.inl hs))
        · exact g2.ns k h1 hs
    · rcases hm' o y h1 with ⟨a1, a2, a3⟩ | ⟨o1, y1, rfl, a2, a3, _⟩ <;> rcases hm' o' y' h2 with ⟨b1, b2, b3⟩ | ⟨o1', y1', rfl, b2, b3, _⟩
      · rw [(hB o a1).1, (hB o' b1).1] at he
        exact hm.inj o o' y y' a2 b2 (realB o y a1 h3) (realB o' y' b1 h4) he
      · have hb1 := g2.nx o1' y1' b2
        rw [(hB o a1).1, (hBτ o1' hb1).1] at he
        have k1 := (hm.ob o y a2).lt (realB o y a1 h3)
        rcases g3.new _ ⟨o1', y1', b2, realT o1' y1' y' hb1 b3 h4, rfl⟩ with h5 | h5
        · omega
        · exact absurd (he ▸ h5) (frame o y a2 a3 (realB o y a1 h3))
      · have ha1 := g2.nx o1 y1 a2
        rw [(hBτ o1 ha1).1, (hB o' b1).1] at he
        have k1 := (hm.ob o' y' b2).lt (realB o' y' b1 h4)
        rcases g3.new _ ⟨o1, y1, a2, realT o1 y1 y ha1 a3 h3, rfl⟩ with h5 | h5
        · omega
        · exact absurd (he ▸ h5) (frame o' y' b2 b3 (realB o' y' b1 h4))
      · have ha1 := g2.nx o1 y1 a2
        have hb1 := g2.nx o1' y1' b2
        rw [(hBτ o1 ha1).1, (hBτ o1' hb1).1] at he
        rw [g2.inj o1 o1' y1 y1' a2 b2 (realT o1 y1 y ha1 a3 h3) (realT o1' y1' y' hb1 b3 h4) he]
    · rcases hm' o y ho with ⟨h4, _⟩ | ⟨o1, y1, rfl, h5, _⟩
      · exact h4.mono hle
      · exact (hBτ o1 (g2.nx o1 y1 h5)).2.2
    · rcases hk with hk | ⟨_, hk⟩
      · exact Nat.lt_of_lt_of_le (hm.lt k hk) g3.size
      · exact g2.lt k hk
    · rcases mainJ k hk with ⟨o, y, a1, _, a3, a4⟩ | h1
      · exact .inr ⟨o, y, a1, a3, a4⟩
      · exact new1 k h1
    · rcases hk with hk | ⟨hF, hk⟩
      · exact .inl hk
      · rcases g3.snew k hk with h2 | h2 | h2
        · rcases h2 with h2 | ⟨o', _, hF', _⟩
          · exact .inl h2
          · exact absurd hF' (hF o')
        · exact .inr (.inl h2)
        · exact .inr (.inr (main1 k h2))
end
end Go.Proofs.YtolejglfohagnaaW.AW
