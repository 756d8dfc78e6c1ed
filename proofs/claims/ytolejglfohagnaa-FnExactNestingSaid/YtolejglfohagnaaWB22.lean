/- A call that is handed objects of the caller's. Plain lemmas: no statement of the program. -/
import Derived.Test.YtolejglfohagnaaWB21
namespace Go.Proofs.YtolejglfohagnaaW.AW
open Go Go.RowKit
set_option linter.unusedVariables false
set_option linter.unusedSimpArgs false

def PV.flat : PV → Bool
  | .und | .bool _ | .int _ _ | .str _ | .nils | .cl _ _ _ | .pc _ => true
  | _ => false
/-- Told with other names of objects. -/
inductive Rn (τ : Id → Id) : PV → PV → Prop
  | same (p : PV) (h : p.flat = true) : Rn τ p p
  | sl (o sz n off len) : Rn τ (.sl o sz n off len) (.sl (τ o) sz n off len)
  | bp (o j) : Rn τ (.bp o j) (.bp (τ o) j)
  | pt (o sz n i j) : Rn τ (.pt o sz n i j) (.pt (τ o) sz n i j)
  | mp (o) : Rn τ (.mp o) (.mp (τ o))
  | ow (sz n g) : Rn τ (.ow sz n g) (.ow sz n g)
  | ag (ps qs) (hl : qs.length = ps.length) (h : ∀ (j : Nat) (p q : PV), ps[j]? = some p → qs[j]? = some q → Rn τ p q) : Rn τ (.ag ps) (.ag qs)
  | tu (ps qs) (hl : qs.length = ps.length) (h : ∀ (j : Nat) (p q : PV), ps[j]? = some p → qs[j]? = some q → Rn τ p q) : Rn τ (.tu ps) (.tu qs)
def RnO (τ : Id → Id) : Ob → Ob → Prop
  | .box ps, .box qs => qs.length = ps.length ∧ ∀ (j : Nat) (p q : PV), ps[j]? = some p → qs[j]? = some q → Rn τ p q
  | .row sz m g, .row sz' m' g' => sz' = sz ∧ m' = m ∧ ∀ i, i < m → (g' i).length = (g i).length ∧ ∀ (j : Nat) (p q : PV), (g i)[j]? = some p → (g' i)[j]? = some q → Rn τ p q
  | .map f, .map f' => f' = f
  | .it es, .it es' => es' = es
  | _, _ => False
section
variable {P : Program} {β κ : Id → Nat} {A : Id → Nat → Prop} {w : World} {S : Nat → Prop}
theorem Rn.ok {τ : Id → Id} {D D' : Id → Prop} {B K : Id → Nat} (hβ : ∀ o, D o → B (τ o) = β o ∧ K (τ o) = κ o ∧ D' (τ o)) {p q : PV} (h : Rn τ p q) : ∀ {v : Value}, OV β κ D w S v p → OV B K D' w S v q := by
  induction h with
  | same p h =>
    intro v hv
    cases hv with
    | rv _ _ hv => exact .rv _ _ hv
    | _ => simp [PV.flat] at h
  | sl o sz m off len =>
    intro v hv
    obtain ⟨A, c, rfl, a, b, c', d, e, f⟩ := hv.sl_inv
    obtain ⟨h1, h2, h3⟩ := hβ o a
    exact .sl _ _ _ _ _ _ _ h3 b c' (by rw [h2]; exact d) (by rw [h2]; exact e) (by rw [h1]; exact f)
  | bp o j =>
    intro v hv
    obtain ⟨rfl, a⟩ := hv.bp_inv
    rw [← (hβ o a).1]; exact .bp _ _ (hβ o a).2.2
  | pt o sz m i j =>
    intro v hv
    obtain ⟨rfl, a, b⟩ := hv.pt_inv
    rw [← (hβ o a).1]; exact .pt _ _ _ _ _ (hβ o a).2.2 b
  | mp o =>
    intro v hv
    obtain ⟨rfl, a⟩ := hv.mp_inv
    rw [← (hβ o a).1]; exact .mp _ (hβ o a).2.2
  | ow sz n g => intro v hv; cases hv with | rv _ _ h => cases h
  | ag ps qs hl h ih =>
    intro v hv
    obtain ⟨vs, rfl, h2, h3⟩ := hv.ag_inv
    refine .ag vs qs (h2.trans hl.symm) (fun j q hq => ?_) (fun j q hq => ?_)
    · obtain ⟨p, hp⟩ := getq hl hq; exact (h3 j p hp).1
    · obtain ⟨p, hp⟩ := getq hl hq; exact ih j p q hp hq (h3 j p hp).2
  | tu ps qs hl h ih =>
    intro v hv
    obtain ⟨vs, rfl, h2, h3⟩ := hv.tu_inv
    refine .tu vs qs (h2.trans hl.symm) (fun j q hq => ?_)
    obtain ⟨p, hp⟩ := getq hl hq; exact ih j p q hp hq (h3 j p hp)
theorem Rn.okT {τ : Id → Id} {D D' : Id → Prop} {B K : Id → Nat} (hβ : ∀ o, D o → B (τ o) = β o ∧ K (τ o) = κ o ∧ D' (τ o)) {p q : PV} (h : Rn τ p q) {v : Value} {G : Nat → Prop} (hv : TV β κ D w S G v p) : TV B K D' w S G v q := by
  rcases hv with ⟨hv, h0⟩ | hv
  · exact .inl ⟨h.ok hβ hv, h0⟩
  · cases hv with
    | rv _ _ _ hr h0 => exact .inl ⟨h.ok hβ (.rv _ _ hr), h0⟩
    | no _ Ad sz g h0 => cases h with
      | same _ h => cases h
      | ow => exact .inr (.no _ _ _ _ h0)
    | ow G b n c sz g cur e fz F a1 a2 a3 a4 a5 a6 a7 a8 a9 a10 a11 => cases h with
      | same _ h => cases h
      | ow => exact .inr (.ow G b n c sz g cur e fz F a1 a2 a3 a4 a5 a6 a7 a8 a9 a10 a11)
/-- THE CALL. σ: the callee's names of the objects that it is handed; τ: of all that it hands back (σ's among them); F: objects that it is lent to read. -/
theorem AC.gen {f : FuncId} {args args1 : List PV} {r1 r : PV} {m m' m1 m1' : Mem} (F : Id → Prop) (σ τ dn : Id → Id) (h : AC P f args1 m1 r1 m1') (hl : args1.length = args.length) (ha : ∀ (i : Nat) (p q : PV), args[i]? = some p → args1[i]? = some q → Wk m F σ m1.nx p q)
    (hM : WkM 0 m F σ m1) (hσD : ∀ D : Id → Prop, TC D → (∀ o x, m.o o = some x → D o) → ∀ o, hb o m1.nx → D (σ o)) (hστ : ∀ o, hb o m1.nx → τ o = σ o) (hτ : ∀ o, hb o m1'.nx → ¬ hb o m1.nx → hb (τ o) m'.nx ∧ ¬ hb (τ o) m.nx ∧ dn (τ o) = o) (hle : m.nx ≤ m'.nx)
    (hr : Rn τ r1 r) (hgood : (∀ o, ¬ F o) ∨ (NR r1 ∧ ∀ o y, m1'.o o = some y → NRO y))
    (hm' : ∀ o y, m'.o o = some y → (m.o o = some y ∧ ∀ o1 x1, m1.o o1 = some x1 → σ o1 ≠ o) ∨ ∃ o1 y1, o = τ o1 ∧ m1'.o o1 = some y1 ∧ RnO τ y1 y ∧ (hb o1 m1.nx → ∃ x1, m1.o o1 = some x1)) : ACD P f args m r m' := by
  refine ⟨h.1, fun D tc fr w vs S β κ A hm hvs hv => ?_⟩
  have hσ : ∀ o, hb o m1.nx → D (σ o) ∧ τ o = σ o := fun o ho => ⟨hσD D tc hm.nx o ho, hστ o ho⟩
  replace hτ : ∀ o, hb o m1'.nx → ¬ hb o m1.nx → (hb (τ o) m'.nx ∧ ¬ hb (τ o) m.nx) ∧ ¬ D (τ o) ∧ dn (τ o) = o := fun o h1 h2 => ⟨⟨(hτ o h1 h2).1, (hτ o h1 h2).2.1⟩, fr _ (hτ o h1 h2).1 (hτ o h1 h2).2.1, (hτ o h1 h2).2.2⟩
  let D' : Id → Prop := fun o => D o ∨ (hb o m'.nx ∧ ¬ hb o m.nx)
  have hm1 : MR w (Sf S m A F) m1 (fun o => β (σ o)) (fun o => κ (σ o)) (fun o => A (σ o)) := hM.ok hm
  refine (h.2 w vs _ _ _ _ hm1 (hvs.trans hl.symm) (fun i q hq => ?_)).mono ?_
  · obtain ⟨p, hp⟩ := getq hl hq
    exact (ha i p q hp hq).ok hm (hv i p hp)
  · rintro e w' ⟨v, S', β', κ', A', rfl, g1, g2, g3⟩
    -- the caller's names
    let B : Id → Nat := fun o => open Classical in if D o then β o else β' (dn o)
    let K : Id → Nat := fun o => open Classical in if D o then κ o else κ' (dn o)
    have hB : ∀ o, D o → B o = β o ∧ K o = κ o := fun o ho => ⟨if_pos ho, if_pos ho⟩
    have hBτ : ∀ o, hb o m1'.nx → B (τ o) = β' o ∧ K (τ o) = κ' o ∧ D' (τ o) := fun o ho => by
      by_cases h1 : hb o m1.nx
      · obtain ⟨h2, h3⟩ := hσ o h1
        obtain ⟨h4, h5⟩ := g3.be o h1
        obtain ⟨h6, h7⟩ := hB (σ o) h2
        exact ⟨by rw [h3, h6, h4], by rw [h3, h7, h5], by rw [h3]; exact .inl h2⟩
      · obtain ⟨h2, h3, h4⟩ := hτ o ho h1
        exact ⟨by simp only [B, if_neg h3, h4], by simp only [K, if_neg h3, h4], .inr h2⟩
    -- objects of the callee's that the caller has then
    let T : Id → Prop := fun o1 => (∃ y1, m1'.o o1 = some y1) ∧ (hb o1 m1.nx → ∃ x1, m1.o o1 = some x1)
    have τinj : ∀ o1 o2, T o1 → T o2 → τ o1 = τ o2 → o1 = o2 := fun o1 o2 ⟨⟨y1, t1⟩, t2⟩ ⟨⟨y2, u1⟩, u2⟩ e => by
      have b1 := g2.nx o1 y1 t1
      have b2 := g2.nx o2 y2 u1
      by_cases h1 : hb o1 m1.nx <;> by_cases h2 : hb o2 m1.nx
      · obtain ⟨x1, hx1⟩ := t2 h1
        obtain ⟨x2, hx2⟩ := u2 h2
        exact hM.inj o1 o2 x1 x2 hx1 hx2 (by rw [← (hσ o1 h1).2, ← (hσ o2 h2).2]; exact e)
      · exact absurd (by rw [← e, (hσ o1 h1).2]; exact (hσ o1 h1).1) (hτ o2 b2 h2).2.1
      · exact absurd (by rw [e, (hσ o2 h2).2]; exact (hσ o2 h2).1) (hτ o1 b1 h1).2.1
      · rw [← (hτ o1 b1 h1).2.2, ← (hτ o2 b2 h2).2.2, e]
    let A2 : Id → Nat → Prop := fun o k => (∃ o1, T o1 ∧ τ o1 = o ∧ A' o1 k) ∨ ((∀ o1 x1, m1.o o1 = some x1 → σ o1 ≠ o) ∧ D o ∧ A o k)
    have hAτ : ∀ o1, T o1 → A2 (τ o1) = A' o1 := fun o1 ht => by
      funext k
      refine propext ⟨fun hk => ?_, fun hk => .inl ⟨o1, ht, rfl, hk⟩⟩
      rcases hk with ⟨o2, ht2, e, hk⟩ | ⟨h1, h2, _⟩
      · rw [τinj o2 o1 ht2 ht e] at hk; exact hk
      · exfalso
        obtain ⟨⟨y1, t1⟩, t2⟩ := ht
        have b1 := g2.nx o1 y1 t1
        by_cases h3 : hb o1 m1.nx
        · obtain ⟨x1, hx1⟩ := t2 h3
          exact h1 o1 x1 hx1 (hσ o1 h3).2.symm
        · exact (hτ o1 b1 h3).2.1 h2
    have hAo : ∀ o, D o → (∀ o1 x1, m1.o o1 = some x1 → σ o1 ≠ o) → A2 o = A o := fun o ho hno => by
      funext k
      refine propext ⟨fun hk => ?_, fun hk => .inr ⟨hno, ho, hk⟩⟩
      rcases hk with ⟨o2, ⟨⟨y2, t1⟩, t2⟩, e, hk⟩ | ⟨_, _, hk⟩
      · exfalso
        have b2 := g2.nx o2 y2 t1
        by_cases h3 : hb o2 m1.nx
        · obtain ⟨x1, hx1⟩ := t2 h3
          exact hno o2 x1 hx1 (by rw [← (hσ o2 h3).2]; exact e)
        · exact (hτ o2 b2 h3).2.1 (e ▸ ho)
      · exact hk
    have own1 : ∀ k, own m1 (fun o => A (σ o)) k → own m A k := fun k hk => hM.own hk
    have new1 : ∀ k, own m1' A' k → w.heap.size ≤ k ∨ own m A k := fun k hk => by
      rcases g3.new k hk with h1 | h1
      · exact .inl h1
      · exact .inr (own1 k h1)
    have keep1 := g3.keep
    have hS0 : ∀ k, S k → w'.heap[k]? = w.heap[k]? := fun k hk => keep1 k (hm.lt k hk) (fun e => by
      obtain ⟨o, x, h1, h2⟩ := own1 k e; exact hm.ns o x k h1 h2 hk)
    -- what stays closed
    let S2 : Nat → Prop := fun k => S k ∨ ((∀ o, ¬ F o) ∧ S' k)
    have mv : ∀ {nx : Nat} {u : Value} {p : PV} {G : Nat → Prop}, ((∀ o, ¬ F o) ∨ NR p) → TV β' κ' (dN nx) w' S' G u p → TV β' κ' (dN nx) w' S2 G u p := fun hp hu => by
      rcases hp with hp | hp
      · exact hu.move (fun _ _ => ⟨rfl, rfl⟩) (fun _ h => h) (fun k hk => .inr ⟨hp, hk⟩) (fun _ _ => rfl) (fun _ _ => rfl)
      · exact hu.nr hp
    have mvO : ∀ {nx : Nat} {u : Value} {p : PV}, ((∀ o, ¬ F o) ∨ NR p) → OV β' κ' (dN nx) w' S' u p → OV β' κ' (dN nx) w' S2 u p := fun hp hu => by
      rcases hp with hp | hp
      · exact hu.move (fun _ _ => ⟨rfl, rfl⟩) (fun _ h => h) (fun k hk => .inr ⟨hp, hk⟩) (fun _ _ => rfl)
      · exact hu.nr hp
    -- an object of the caller's that was not handed over
    have frame : ∀ o y k, m.o o = some y → (∀ o1 x1, m1.o o1 = some x1 → σ o1 ≠ o) → A o k → ¬ own m1 (fun o => A (σ o)) k := by
      rintro o y k h1 h2 h3 ⟨o1, x1, h4, h5⟩
      obtain ⟨_, _, x, h7, h8⟩ := hM.ob o1 x1 h4
      exact h2 o1 x1 h4 (hm.dj _ _ _ _ k h7 h1 h5 h3)
    have at_ : ∀ o y, m'.o o = some y → (D o ∧ m.o o = some y ∧ (∀ o1 x1, m1.o o1 = some x1 → σ o1 ≠ o) ∧ A2 o = A o) ∨ ∃ o1 y1, o = τ o1 ∧ m1'.o o1 = some y1 ∧ RnO τ y1 y ∧ T o1 ∧ A2 o = A' o1 := fun o y h1 => by
      rcases hm' o y h1 with ⟨h5, h6⟩ | ⟨o1, y1, rfl, h5, h6, h7⟩
      · have h4 := hm.nx o y h5
        exact .inl ⟨h4, h5, h6, hAo o h4 h6⟩
      · exact .inr ⟨o1, y1, rfl, h5, h6, ⟨⟨y1, h5⟩, h7⟩, hAτ o1 ⟨⟨y1, h5⟩, h7⟩⟩
    have hv1 : OV B K D' w' S2 v r := Rn.ok hBτ hr (mvO (by rcases hgood with h1 | h1; exact .inl h1; exact .inr h1.1) g1)
    suffices hx : MRD w' S2 D' m' B K A2 ∧ ExtD w S D m β κ A w' S2 D' m' B K A2 from ⟨v, rfl, r, m', S2, D', B, K, A2, ⟨rfl, rfl⟩, hx.2, hx.1, hv1, fun _ => Iff.rfl⟩
    refine ⟨⟨fun o y ho => ?_, fun o y k ho hk hs => ?_, fun o o' y y' k h1 h2 h3 h4 => ?_, fun o y ho => ?_, fun k hk => ?_⟩, ⟨g3.os, g3.tape, g3.output, g3.size, fun _ h => .inl h, hB, fun k hk hn => keep1 k hk (fun e => hn (own1 k e)), hle, fun _ h => .inl h, fun k hk => ?_, fun k hk => ?_⟩⟩
    · rcases at_ o y ho with ⟨h4, h5, h6, h7⟩ | ⟨o1, y1, rfl, h5, h7, h8, h9⟩
      · rw [h7]
        exact (hm.ob o y h5).move hB (fun _ h => .inl h) (fun _ h => .inl h) hS0 h4 (fun k hk => keep1 k ((hm.ob o y h5).lt hk) (frame o y k h5 h6 hk))
      · rw [h9]
        have h4 := g2.nx o1 y1 h5
        have hob := g2.ob o1 y1 h5
        have hg : ∀ p, (NRO y1 → NR p) → ((∀ o, ¬ F o) ∨ NR p) := fun p hp => by
          rcases hgood with h1 | h1
          · exact .inl h1
          · exact .inr (hp (h1.2 o1 y1 h5))
        have hE : ∀ {ents clock f}, (NRO y1 → ∀ k p, f k = some p → NR p) → Ents w' S' ents clock f → Ents w' S2 ents clock f := fun {ents clock f} hp he => by
          rcases hgood with h1 | h1
          · exact he.move (fun k hk => .inr ⟨h1, hk⟩) (fun _ _ => rfl)
          · exact ⟨he.st, fun e he' => by obtain ⟨k, p, a1, a2, a3, a4⟩ := he.key e he'; exact ⟨k, p, a1, a2, a3, a4.nr (hp (h1.2 o1 y1 h5) k p a3)⟩, he.all⟩
        cases y1 <;> cases y <;> simp only [RnO] at h7
        · obtain ⟨cur, e, fz, Fo, a1, az, a2, a3, a4, a5, a6⟩ := hob
          show Blk _ _ _ _ _ _ _ _ _ _ _
          rw [(hBτ o1 h4).1, h7.1]
          refine ⟨cur, e, fz, Fo, a1, az, a2, a3, fun i hi => h7.1, a5, fun i j q hi hq => ?_⟩
          obtain ⟨p, hp⟩ := getq h7.1 hq
          exact ⟨(a6 i j p hi hp).1, Rn.okT hBτ (h7.2 j p q hp hq) (mv (hg p (fun hn => hn p (List.mem_of_getElem? hp))) (a6 i j p hi hp).2)⟩
        · obtain ⟨rfl, rfl, h8⟩ := h7
          simp only [OB, (hBτ o1 h4).1, (hBτ o1 h4).2.1] at hob ⊢
          rcases hob with hz | ⟨q1, q2, q3, cur, e, fz, Fo, a1, az, a2, a3, a4, a5, a6⟩
          · exact .inl hz
          · refine .inr ⟨q1, q2, q3, cur, e, fz, Fo, a1, az, a2, a3, fun i hi => by rw [(h8 i hi).1]; exact a4 i hi, a5, fun i j q hi hq => ?_⟩
            obtain ⟨p, hp⟩ := getq (h8 i hi).1 hq
            exact ⟨(a6 i j p hi hp).1, Rn.okT hBτ ((h8 i hi).2 j p q hp hq) (mv (hg p (fun hn => hn i hi p (List.mem_of_getElem? hp))) (a6 i j p hi hp).2)⟩
        · subst h7
          simp only [OB, (hBτ o1 h4).1] at hob ⊢
          obtain ⟨a1, ents, clock, a2, a3⟩ := hob
          exact ⟨a1, ents, clock, a2, hE (fun hn => hn) a3⟩
        · subst h7
          rename_i es
          simp only [OB, (hBτ o1 h4).1] at hob ⊢
          obtain ⟨b, ents, clock, seen, f, a1, a2, a3, a4, a5, a6⟩ := hob
          rcases hgood with h1 | h1
          · exact ⟨b, ents, clock, seen, f, a1, a2, a3, a4, a5.move (fun k hk => .inr ⟨h1, hk⟩) (fun _ _ => rfl), a6⟩
          · exact (h1.2 o1 _ h5).elim
    · rcases at_ o y ho with ⟨a1, a2, a3, a4⟩ | ⟨o1, y1, rfl, a2, a3, a4, a5⟩
      · rw [a4] at hk
        rcases hs with hs | ⟨hF, hs⟩
        · exact hm.ns o y k a2 hk hs
        · rcases g3.snew k hs with h2 | h2 | h2
          · rcases h2 with h2 | ⟨o', _, hF', _⟩
            · exact hm.ns o y k a2 hk h2
            · exact hF o' hF'
          · have := (hm.ob o y a2).lt hk; omega
          · exact frame o y k a2 a3 hk h2
      · rw [a5] at hk
        rcases hs with hs | ⟨hF, hs⟩
        · exact g2.ns o1 y1 k a2 hk (g3.sub k (.inl hs))
        · exact g2.ns o1 y1 k a2 hk hs
    · rcases at_ o y h1 with ⟨a1, a2, a3, a4⟩ | ⟨o1, y1, rfl, a2, a3, a4, a5⟩ <;> rcases at_ o' y' h2 with ⟨b1, b2, b3, b4⟩ | ⟨o1', y1', rfl, b2, b3, b4, b5⟩
      · rw [a4] at h3; rw [b4] at h4
        exact hm.dj o o' y y' k a2 b2 h3 h4
      · rw [a4] at h3; rw [b5] at h4
        have k1 := (hm.ob o y a2).lt h3
        rcases g3.new k ⟨o1', y1', b2, h4⟩ with h5 | h5
        · omega
        · exact absurd h5 (frame o y k a2 a3 h3)
      · rw [a5] at h3; rw [b4] at h4
        have k1 := (hm.ob o' y' b2).lt h4
        rcases g3.new k ⟨o1, y1, a2, h3⟩ with h5 | h5
        · omega
        · exact absurd h5 (frame o' y' k b2 b3 h4)
      · rw [a5] at h3; rw [b5] at h4
        rw [g2.dj o1 o1' y1 y1' k a2 b2 h3 h4]
    · rcases at_ o y ho with ⟨h4, _⟩ | ⟨o1, y1, rfl, h5, _⟩
      · exact .inl h4
      · exact (hBτ o1 (g2.nx o1 y1 h5)).2.2
    · rcases hk with hk | ⟨_, hk⟩
      · exact Nat.lt_of_lt_of_le (hm.lt k hk) g3.size
      · exact g2.lt k hk
    · obtain ⟨o, y, ho, hk⟩ := hk
      rcases at_ o y ho with ⟨a1, a2, a3, a4⟩ | ⟨o1, y1, rfl, a2, a3, a4, a5⟩
      · rw [a4] at hk; exact .inr ⟨o, y, a2, hk⟩
      · rw [a5] at hk; exact new1 k ⟨o1, y1, a2, hk⟩
    · rcases hk with hk | ⟨hF, hk⟩
      · exact .inl hk
      · rcases g3.snew k hk with h2 | h2 | h2
        · rcases h2 with h2 | ⟨o', _, hF', _⟩
          · exact .inl h2
          · exact absurd hF' (hF o')
        · exact .inr (.inl h2)
        · exact .inr (.inr (own1 k h2))
end
end Go.Proofs.YtolejglfohagnaaW.AW
