/- Forgetting, renaming, closing: one state told as another. Plain lemmas: no statement of the program. -/
import Derived.Test.YtolejglfohagnaaWA17
namespace Go.Proofs.YtolejglfohagnaaW.AW
open Go Go.RowKit
set_option linter.unusedVariables false
set_option linter.unusedSimpArgs false

/-- A value told as one that is only read: objects of F are written no more. -/
inductive Wc (m : Mem) (F : Id → Prop) : PV → PV → Prop
  | und (p) : Wc m F p .und
  | bool (b) : Wc m F (.bool b) (.bool b)
  | int (k n) : Wc m F (.int k n) (.int k n)
  | str (s) : Wc m F (.str s) (.str s)
  | nils : Wc m F .nils .nils
  | nilc (sz g) : Wc m F .nils (.cl sz 0 g)
  | cl (sz n g g') (h : ∀ i, i < n → g' i = g i) : Wc m F (.cl sz n g) (.cl sz n g')
  | close (o sz n off len g g') (hF : F o) (ho : m.o o = some (.row sz n g)) (hl : ∀ i, i < len → (g' i).length = (g (off + i)).length)
      (h : ∀ (i j : Nat) (p p' : PV), i < len → (g (off + i))[j]? = some p → (g' i)[j]? = some p' → Wc m F p p') : Wc m F (.sl o sz n off len) (.cl sz len g')
  | ag (ps qs) (hl : qs.length = ps.length) (h : ∀ (j : Nat) (p q : PV), ps[j]? = some p → qs[j]? = some q → Wc m F p q) : Wc m F (.ag ps) (.ag qs)
  | tu (ps qs) (hl : qs.length = ps.length) (h : ∀ (j : Nat) (p q : PV), ps[j]? = some p → qs[j]? = some q → Wc m F p q) : Wc m F (.tu ps) (.tu qs)
  | pc (ps) : Wc m F (.pc ps) (.pc ps)
/-- A value told anew: object o is elder ρ o. -/
inductive Wk (m : Mem) (F : Id → Prop) (ρ : Id → Id) (nx : Nat) : PV → PV → Prop
  | c (p q) (h : Wc m F p q) : Wk m F ρ nx p q
  | sl (o sz n off len) (hx : hb o nx) : Wk m F ρ nx (.sl (ρ o) sz n off len) (.sl o sz n off len)
  | bp (o j) (hx : hb o nx) : Wk m F ρ nx (.bp (ρ o) j) (.bp o j)
  | pt (o sz n i j) (hx : hb o nx) : Wk m F ρ nx (.pt (ρ o) sz n i j) (.pt o sz n i j)
  | ag (ps qs) (hl : qs.length = ps.length) (h : ∀ (j : Nat) (p q : PV), ps[j]? = some p → qs[j]? = some q → Wk m F ρ nx p q) : Wk m F ρ nx (.ag ps) (.ag qs)
  | tu (ps qs) (hl : qs.length = ps.length) (h : ∀ (j : Nat) (p q : PV), ps[j]? = some p → qs[j]? = some q → Wk m F ρ nx p q) : Wk m F ρ nx (.tu ps) (.tu qs)
  | fn (f ps qs) (hl : qs.length = ps.length) (h : ∀ (j : Nat) (p q : PV), ps[j]? = some p → qs[j]? = some q → Wk m F ρ nx p q) : Wk m F ρ nx (.fn f ps) (.fn f qs)
/-- An object told anew. -/
def WkO (m : Mem) (F : Id → Prop) (ρ : Id → Id) (nx : Nat) : Ob → Ob → Prop
  | .box ps, .box qs => qs.length = ps.length ∧ ∀ (j : Nat) (p q : PV), ps[j]? = some p → qs[j]? = some q → Wk m F ρ nx p q
  | .row sz n g, .row sz' n' g' => sz' = sz ∧ n' = n ∧ ∀ i, i < n → (g' i).length = (g i).length ∧ ∀ (j : Nat) (p q : PV), (g i)[j]? = some p → (g' i)[j]? = some q → Wk m F ρ nx p q
  | _, _ => False
structure WkM (n0 : Nat) (m : Mem) (F : Id → Prop) (ρ : Id → Id) (m' : Mem) : Prop where
  ob : ∀ o x', m'.o o = some x' → hb o m'.nx ∧ ¬ F (ρ o) ∧ ∃ x, m.o (ρ o) = some x ∧ WkO m F ρ m'.nx x x'
  inj : ∀ o o' x x', m'.o o = some x → m'.o o' = some x' → ρ o = ρ o' → o = o'
  fix : ∀ o, hb o n0 → ρ o = o
  le : n0 ≤ m'.nx

/-- S and the blocks of F's objects. -/
def Sf (S : Nat → Prop) (m : Mem) (β κ : Id → Nat) (F : Id → Prop) (k : Nat) : Prop := S k ∨ ∃ o x, F o ∧ m.o o = some x ∧ real κ o x ∧ β o = k
section
variable {β κ : Id → Nat} {w : World} {S : Nat → Prop} {m : Mem} {F : Id → Prop} {ρ : Id → Id}
theorem ag_rv {vs : Array Value} {ps : List PV} (hl : vs.size = ps.length) (h1 : ∀ (j : Nat) (p : PV), ps[j]? = some p → (vs.getD j undef).oneCell' = true) (hv : ∀ (j : Nat) (p : PV), ps[j]? = some p → RV w S (vs.getD j undef) p) : RV w S (.agg vs) (.ag ps) := .ag vs ps hl h1 hv
theorem OV.tu_inv {nx : Nat} {v : Value} {ps : List PV} (h : OV β κ nx w S v (.tu ps)) : ∃ vs : Array Value, v = .tuple vs ∧ vs.size = ps.length ∧ ∀ j p, ps[j]? = some p → OV β κ nx w S (vs.getD j undef) p := by
  cases h with
  | rv _ _ h => cases h with | tu vs _ hl hv => exact ⟨vs, rfl, hl, fun j p hp => .rv _ _ (hv j p hp)⟩
  | tu vs _ hl hv => exact ⟨vs, rfl, hl, hv⟩
theorem OV.fn_inv {nx : Nat} {v : Value} {f : FuncId} {ps : List PV} (h : OV β κ nx w S v (.fn f ps)) : ∃ vs : Array Value, v = .func (.func f) #[] vs ∧ vs.size = ps.length ∧ ∀ j p, ps[j]? = some p → OV β κ nx w S (vs.getD j undef) p := by
  cases h with
  | rv _ _ h => cases h
  | fn _ vs _ hl hv => exact ⟨vs, rfl, hl, hv⟩
theorem getq {ps qs : List PV} (hl : qs.length = ps.length) {j : Nat} {q : PV} (hq : qs[j]? = some q) : ∃ p, ps[j]? = some p :=
  ⟨_, List.getElem?_eq_getElem (by rw [← hl]; exact (List.getElem?_eq_some_iff.1 hq).1)⟩
theorem Wc.ok (hm : MR w S m β κ) {p q : PV} (h : Wc m F p q) : ∀ {v : Value}, OV β κ m.nx w S v p → RV w (Sf S m β κ F) v q := by
  have up : ∀ k, S k → Sf S m β κ F k := fun k hk => .inl hk
  induction h with
  | und p => exact fun _ => .und _
  | bool b => exact fun hv => by rw [hv.bool_inv]; exact .bool _
  | int k n => exact fun hv => by obtain ⟨rfl, h⟩ := hv.int_inv; exact .int _ _ h
  | str s => exact fun hv => by obtain ⟨rfl, h⟩ := hv.str_inv; exact .str _ h
  | nils => exact fun hv => by rw [hv.nils_inv]; exact .nils
  | nilc sz g => exact fun hv => by rw [hv.nils_inv]; exact .cl0 _ _ _ _
  | cl sz n g g' h =>
    intro v hv
    obtain ⟨A, c, rfl, hn, H⟩ := hv.cl_inv
    refine RV.cl_mk hn (fun hp => ?_)
    obtain ⟨hc, a, rfl, hS, hg⟩ := H hp
    exact ⟨hc, a, rfl, up _ hS, fun i hi => by rw [h i hi]; exact ⟨(hg i hi).1, fun j p hp => by obtain ⟨u, a1, a2, a3⟩ := (hg i hi).2 j p hp; exact ⟨u, a1, a2, a3.move up (fun _ _ => rfl)⟩⟩⟩
  | close o sz n off len g g' hF ho hl h ih =>
    intro v hv
    obtain ⟨A, c, rfl, hx, hlc, hn, hkk, hc, hA⟩ := hv.sl_inv
    refine RV.cl_mk hlc (fun hp => ?_)
    obtain rfl := hA (by omega)
    rcases hm.ob o _ ho with ⟨hz, _⟩ | ⟨cur, e, g1, g2, g3, g4, g5, g6, g7⟩
    · omega
    refine ⟨by omega, _, rfl, .inr ⟨o, _, hF, ho, show 0 < κ o by omega, rfl⟩, fun i hi => ⟨by rw [hl i hi]; exact g6 _ (by omega), fun j p hp => ?_⟩⟩
    obtain ⟨p0, hp0⟩ := getq (hl i hi) hp
    obtain ⟨u, a1, a2, a3⟩ := row_cells hm ho (k := off + i) (by omega) 0 j p0 (by simpa using hp0)
    refine ⟨u, ?_, a2, ih i j p0 p hi hp0 hp a3⟩
    rw [Addr.add_lit] at a1 ⊢
    rw [← a1]; congr 2; rw [Nat.add_mul]; omega
  | ag ps qs hl h ih =>
    intro v hv
    obtain ⟨vs, rfl, h2, h3⟩ := hv.ag_inv
    refine .ag vs qs (h2.trans hl.symm) (fun j q hq => ?_) (fun j q hq => ?_)
    · obtain ⟨p, hp⟩ := getq hl hq; exact (h3 j p hp).1
    · obtain ⟨p, hp⟩ := getq hl hq; exact ih j p q hp hq (h3 j p hp).2
  | tu ps qs hl h ih =>
    intro v hv
    obtain ⟨vs, rfl, h2, h3⟩ := hv.tu_inv
    refine .tu vs qs (h2.trans hl.symm) (fun j q hq => ?_)
    obtain ⟨p, hp⟩ := getq hl hq; exact ih j p q hp hq (h3 j p hp)
  | pc ps =>
    intro v hv
    cases hv with | rv _ _ h => exact h.move up (fun _ _ => rfl)
theorem Wk.ok (hm : MR w S m β κ) {nx : Nat} {p q : PV} (h : Wk m F ρ nx p q) : ∀ {v : Value}, OV β κ m.nx w S v p → OV (fun o => β (ρ o)) (fun o => κ (ρ o)) nx w (Sf S m β κ F) v q := by
  induction h with
  | c p q h => exact fun hv => .rv _ _ (h.ok hm hv)
  | sl o sz n off len hx =>
    intro v hv
    obtain ⟨A, c, rfl, _, hlc, hn, hkk, hc, hA⟩ := hv.sl_inv
    exact .sl _ _ _ _ _ _ _ hx hlc hn hkk hc hA
  | bp o j hx => exact fun hv => by rw [hv.bp_inv.1]; exact .bp (β := fun o => β (ρ o)) o j hx
  | pt o sz n i j hx => exact fun hv => by rw [hv.pt_inv.1]; exact .pt (β := fun o => β (ρ o)) o sz n i j hx hv.pt_inv.2.2
  | ag ps qs hl h ih =>
    intro v hv
    obtain ⟨vs, rfl, h2, h3⟩ := hv.ag_inv
    refine .ag vs qs (h2.trans hl.symm) (fun j q hq => ?_) (fun j q hq => ?_)
    · obtain ⟨p, hp⟩ := getq hl hq; exact (h3 j p hp).1
    · obtain ⟨p, hp⟩ := getq hl hq; exact ih j p q hp hq (h3 j p hp).2
  | tu ps qs hl h ih =>
    intro v hv
    obtain ⟨vs, rfl, h2, h3⟩ := hv.tu_inv
    refine .tu vs qs (h2.trans hl.symm) (fun j q hq => ?_)
    obtain ⟨p, hp⟩ := getq hl hq; exact ih j p q hp hq (h3 j p hp)
  | fn f ps qs hl h ih =>
    intro v hv
    obtain ⟨vs, rfl, h2, h3⟩ := hv.fn_inv
    refine .fn f vs qs (h2.trans hl.symm) (fun j q hq => ?_)
    obtain ⟨p, hp⟩ := getq hl hq; exact ih j p q hp hq (h3 j p hp)
theorem WkM.ok {n0 : Nat} {m' : Mem} (h : WkM n0 m F ρ m') (hm : MR w S m β κ) : MR w (Sf S m β κ F) m' (fun o => β (ρ o)) (fun o => κ (ρ o)) := by
  have realW : ∀ o x x', WkO m F ρ m'.nx x x' → real (fun o => κ (ρ o)) o x' → real κ (ρ o) x := fun o x x' hw hr => by
    cases x <;> cases x' <;> simp only [WkO] at hw <;> first | trivial | exact hr | exact hw.elim
  have mainW : ∀ k, main m' (fun o => β (ρ o)) (fun o => κ (ρ o)) k → ∃ o x, ¬ F (ρ o) ∧ m.o (ρ o) = some x ∧ real κ (ρ o) x ∧ β (ρ o) = k := by
    rintro k ⟨o, x', h1, h2, h3⟩
    obtain ⟨_, b, x, c, d⟩ := h.ob o x' h1
    exact ⟨o, x, b, c, realW o x x' d h2, h3⟩
  refine ⟨fun o x' ho => ?_, fun k hk hs => ?_, fun o o' x x' h1 h2 h3 h4 he => ?_, fun o x' ho => (h.ob o x' ho).1, fun k hk => ?_⟩
  · obtain ⟨_, hF, x, h1, h2⟩ := h.ob o x' ho
    have hob := hm.ob _ _ h1
    cases x <;> cases x' <;> simp only [WkO] at h2
    · obtain ⟨cur, e, g1, g2, g3⟩ := hob
      exact ⟨cur, e, g1, g2.trans h2.1.symm, fun j q hq => by obtain ⟨p, hp⟩ := getq h2.1 hq; exact ⟨(g3 j p hp).1, (h2.2 j p q hp hq).ok hm (g3 j p hp).2⟩⟩
    · obtain ⟨rfl, rfl, h3⟩ := h2
      rcases hob with hz | ⟨cur, e, g1, g2, g3, g4, g5, g6, g7⟩
      · exact .inl hz
      · exact .inr ⟨cur, e, g1, g2, g3, g4, g5, fun i hi => by rw [(h3 i hi).1]; exact g6 i hi, fun i j q hi hq => by
          obtain ⟨p, hp⟩ := getq (h3 i hi).1 hq
          exact ⟨(g7 i j p hi hp).1, ((h3 i hi).2 j p q hp hq).ok hm (g7 i j p hi hp).2⟩⟩
  · obtain ⟨o, x, hF, h1, h2, h3⟩ := mainW k hk
    rcases hs with hs | ⟨o', x', hF', h4, h5, h6⟩
    · exact hm.ns k ⟨_, x, h1, h2, h3⟩ hs
    · have := hm.inj _ _ _ _ h1 h4 h2 h5 (h3.trans h6.symm)
      rw [this] at hF; exact hF hF'
  · obtain ⟨_, _, y, a1, a2⟩ := h.ob o x h1
    obtain ⟨_, _, y', b1, b2⟩ := h.ob o' x' h2
    exact h.inj o o' x x' h1 h2 (hm.inj _ _ _ _ a1 b1 (realW o y x a2 h3) (realW o' y' x' b2 h4) he)
  · rcases hk with hk | ⟨o, x, _, h1, h2, rfl⟩
    · exact hm.lt k hk
    · exact (hm.ob o x h1).lt h2
theorem WkM.ext {C : Cx} {m' : Mem} (h : WkM C.m0.nx m F ρ m') (hm : MR w S m β κ) (hx : Ext C.w0 C.S0 C.m0 C.β0 C.κ0 w S m β κ) : Ext C.w0 C.S0 C.m0 C.β0 C.κ0 w (Sf S m β κ F) m' (fun o => β (ρ o)) (fun o => κ (ρ o)) := by
  refine ⟨hx.os, hx.tape, hx.output, hx.size, fun k hk => .inl (hx.sub k hk), fun o ho => by simp only [h.fix o ho]; exact hx.be o ho, hx.keep, h.le, fun k hk => ?_, fun k hk => ?_⟩
  · obtain ⟨o, x', h1, h2, h3⟩ := hk
    obtain ⟨_, b, x, c, d⟩ := h.ob o x' h1
    refine hx.new k ⟨ρ o, x, c, ?_, h3⟩
    cases x <;> cases x' <;> simp only [WkO] at d <;> first | trivial | exact h2 | exact d.elim
  · rcases hk with hk | ⟨o, x, _, h1, h2, h3⟩
    · exact hx.snew k hk
    · rcases hx.new k ⟨o, x, h1, h2, h3⟩ with h4 | h4
      · exact .inr (.inl h4)
      · exact .inr (.inr h4)
/-- A state told anew. -/
structure Weak (n0 : Nat) (s : AS) (F : Id → Prop) (ρ : Id → Id) (s' : AS) : Prop where
  tv : ∀ t, Wk s.m F ρ s'.m.nx (s.t t) (s'.t t)
  mr : WkM n0 s.m F ρ s'.m
theorem Weak.ok {C : Cx} {s s' : AS} (h : Weak C.m0.nx s F ρ s') {a : Act} (hf : C.FR s a w) : C.FR s' a w := by
  obtain ⟨β, κ, S, hf⟩ := hf
  exact ⟨_, _, _, hf.df, hf.sz, fun t => (h.tv t).ok hf.mr (hf.tv t), h.mr.ok hf.mr, h.mr.ext hf.mr hf.ex⟩
theorem AW.weak {C : Cx} {P : Program} {c : Code} {Q : Exit → AS → Prop} {s s' : AS} (h : Weak C.m0.nx s F ρ s') (hw : AW C P c Q s') : AW C P c Q s := fun a w hf => hw a w (h.ok hf)
theorem AL.weak {C : Cx} {P : Program} {c : Code} {Q : Exit → AS → Prop} {s s' : AS} (h : Weak C.m0.nx s F ρ s') (hw : AL C P c Q s') : AL C P c Q s := fun a w hf => hw a w (h.ok hf)
end
end Go.Proofs.YtolejglfohagnaaW.AW
