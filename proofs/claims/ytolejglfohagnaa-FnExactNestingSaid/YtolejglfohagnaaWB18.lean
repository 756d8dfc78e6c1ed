/- Forgetting, renaming, closing: one state told as another. Plain lemmas: no statement of the program. -/
import Derived.Test.YtolejglfohagnaaWB17
namespace Go.Proofs.YtolejglfohagnaaW.AW
open Go Go.RowKit
set_option linter.unusedVariables false
set_option linter.unusedSimpArgs false

/-- A value told as one that is only read: objects of F are written no more. -/
inductive Wc (m : Mem) (F : Id → Prop) : PV → PV → Prop
  | und (p) : Wc m F p .und
  | bool (b) : Wc m F (.bool b) (.bool b)
  | int (k n) : Wc m F (.int k n) (.int k n)
  | str (s) : Wc m F (.str s) (.str s)
  | nils : Wc m F .nils .nils
  | nilc (sz g) : Wc m F .nils (.cl sz 0 g)
  | cl (sz n g g') (h : ∀ i, i < n → g' i = g i) : Wc m F (.cl sz n g) (.cl sz n g')
  | close (o sz n off len g g') (hF : F o) (ho : m.o o = some (.row sz n g)) (hl : ∀ i, i < len → (g' i).length = (g (off + i)).length)
      (h : ∀ (i j : Nat) (p p' : PV), i < len → (g (off + i))[j]? = some p → (g' i)[j]? = some p' → Wc m F p p') : Wc m F (.sl o sz n off len) (.cl sz len g')
  | ow (sz n g g') (hl : ∀ i, i < n → (g' i).length = (g i).length) (h : ∀ (i j : Nat) (p p' : PV), i < n → (g i)[j]? = some p → (g' i)[j]? = some p' → Wc m F p p') : Wc m F (.ow sz n g) (.cl sz n g')
  | ag (ps qs) (hl : qs.length = ps.length) (h : ∀ (j : Nat) (p q : PV), ps[j]? = some p → qs[j]? = some q → Wc m F p q) : Wc m F (.ag ps) (.ag qs)
  | tu (ps qs) (hl : qs.length = ps.length) (h : ∀ (j : Nat) (p q : PV), ps[j]? = some p → qs[j]? = some q → Wc m F p q) : Wc m F (.tu ps) (.tu qs)
  | pc (ps) : Wc m F (.pc ps) (.pc ps)
/-- A value told anew: object o is elder ρ o. -/
inductive Wk (m : Mem) (F : Id → Prop) (ρ : Id → Id) (nx : Nat) : PV → PV → Prop
  | c (p q) (h : Wc m F p q) : Wk m F ρ nx p q
  | sl (o sz n off len) (hx : hb o nx) : Wk m F ρ nx (.sl (ρ o) sz n off len) (.sl o sz n off len)
  | bp (o j) (hx : hb o nx) : Wk m F ρ nx (.bp (ρ o) j) (.bp o j)
  | pt (o sz n i j) (hx : hb o nx) : Wk m F ρ nx (.pt (ρ o) sz n i j) (.pt o sz n i j)
  | mp (o) (hx : hb o nx) : Wk m F ρ nx (.mp (ρ o)) (.mp o)
  | ag (ps qs) (hl : qs.length = ps.length) (h : ∀ (j : Nat) (p q : PV), ps[j]? = some p → qs[j]? = some q → Wk m F ρ nx p q) : Wk m F ρ nx (.ag ps) (.ag qs)
  | tu (ps qs) (hl : qs.length = ps.length) (h : ∀ (j : Nat) (p q : PV), ps[j]? = some p → qs[j]? = some q → Wk m F ρ nx p q) : Wk m F ρ nx (.tu ps) (.tu qs)
  | fn (f ps qs) (hl : qs.length = ps.length) (h : ∀ (j : Nat) (p q : PV), ps[j]? = some p → qs[j]? = some q → Wk m F ρ nx p q) : Wk m F ρ nx (.fn f ps) (.fn f qs)
/-- A cell told anew. -/
inductive Wx (m : Mem) (F : Id → Prop) (ρ : Id → Id) (nx : Nat) : PV → PV → Prop
  | k (p q) (h0 : p.isOw = false) (h : Wk m F ρ nx p q) : Wx m F ρ nx p q
  | ow (sz n g g') (h : ∀ i, i < n → g' i = g i) : Wx m F ρ nx (.ow sz n g) (.ow sz n g')
/-- An object told anew. -/
def WkO (m : Mem) (F : Id → Prop) (ρ : Id → Id) (nx : Nat) : Ob → Ob → Prop
  | .box ps, .box qs => qs.length = ps.length ∧ ∀ (j : Nat) (p q : PV), ps[j]? = some p → qs[j]? = some q → Wx m F ρ nx p q
  | .row sz n g, .row sz' n' g' => sz' = sz ∧ n' = n ∧ ∀ i, i < n → (g' i).length = (g i).length ∧ ∀ (j : Nat) (p q : PV), (g i)[j]? = some p → (g' i)[j]? = some q → Wx m F ρ nx p q
  | .map f, .map f' => f' = f
  | .it es, .it es' => es' = es
  | _, _ => False
structure WkM (n0 : Nat) (m : Mem) (F : Id → Prop) (ρ : Id → Id) (m' : Mem) : Prop where
  ob : ∀ o x', m'.o o = some x' → hb o m'.nx ∧ ¬ F (ρ o) ∧ ∃ x, m.o (ρ o) = some x ∧ WkO m F ρ m'.nx x x'
  inj : ∀ o o' x x', m'.o o = some x → m'.o o' = some x' → ρ o = ρ o' → o = o'
  fix : ∀ o, hb o n0 → ρ o = o
  le : n0 ≤ m'.nx

/-- S and the blocks of F's objects. -/
def Sf (S : Nat → Prop) (m : Mem) (A : Id → Nat → Prop) (F : Id → Prop) (k : Nat) : Prop := S k ∨ ∃ o x, F o ∧ m.o o = some x ∧ A o k
section
variable {β κ : Id → Nat} {A : Id → Nat → Prop} {w : World} {S : Nat → Prop} {m : Mem} {F : Id → Prop} {ρ : Id → Id}
theorem OV.tu_inv {D : Id → Prop} {v : Value} {ps : List PV} (h : OV β κ D w S v (.tu ps)) : ∃ vs : Array Value, v = .tuple vs ∧ vs.size = ps.length ∧ ∀ j p, ps[j]? = some p → OV β κ D w S (vs.getD j undef) p := by
  cases h with
  | rv _ _ h => cases h with | tu vs _ hl hv => exact ⟨vs, rfl, hl, fun j p hp => .rv _ _ (hv j p hp)⟩
  | tu vs _ hl hv => exact ⟨vs, rfl, hl, hv⟩
theorem OV.fn_inv {D : Id → Prop} {v : Value} {f : FuncId} {ps : List PV} (h : OV β κ D w S v (.fn f ps)) : ∃ vs : Array Value, v = .func (.func f) #[] vs ∧ vs.size = ps.length ∧ ∀ j p, ps[j]? = some p → OV β κ D w S (vs.getD j undef) p := by
  cases h with
  | rv _ _ h => cases h
  | fn _ vs _ hl hv => exact ⟨vs, rfl, hl, hv⟩
theorem getq {ps qs : List PV} (hl : qs.length = ps.length) {j : Nat} {q : PV} (hq : qs[j]? = some q) : ∃ p, ps[j]? = some p :=
  ⟨_, List.getElem?_eq_getElem (by rw [← hl]; exact (List.getElem?_eq_some_iff.1 hq).1)⟩
theorem CV.ow_inv {G : Nat → Prop} {v : Value} {sz n : Nat} {g : Nat → List PV} (h : CV w S G v (.ow sz n g)) : (∃ Ad, v = .slice Ad 0 0 ∧ n = 0 ∧ ∀ k, ¬ G k) ∨
    ∃ b c, v = .slice (some ⟨b, 0, none⟩) n c ∧ 0 < c ∧ n ≤ c ∧ c ≤ 9223372036854775807 ∧ 0 < sz ∧ ∃ (cur : Array Value) (e : TypeId) (fz : Nat × Nat) (F : Nat → Nat → Nat → Prop), w.heap[b]? = some (.cells cur e fz) ∧ fzOk fz cur.size ∧ cur.size = c * sz ∧ (∀ i, i < n → (g i).length = sz) ∧ Fp n sz b F G ∧
      ∀ i j p, i < n → (g i)[j]? = some p → (cur.getD (i * sz + j) undef).oneCell' = true ∧ CV w S (F i j) (cur.getD (i * sz + j) undef) p := by
  cases h with
  | rv _ _ _ h _ => cases h
  | no _ Ad _ _ h0 => exact .inl ⟨Ad, rfl, rfl, h0⟩
  | ow _ b _ c _ _ cur e fz F hz hp hn hm h0 hh hs hl hF h1 hv => exact .inr ⟨b, c, rfl, hp, hn, hm, h0, cur, e, fz, F, hh, hz, hs, hl, hF, fun i j p hi hp => ⟨h1 i j p hi hp, hv i j p hi hp⟩⟩
theorem TV.ow {D : Id → Prop} {G : Nat → Prop} {v : Value} {sz n : Nat} {g : Nat → List PV} (h : TV β κ D w S G v (.ow sz n g)) : CV w S G v (.ow sz n g) := by
  rcases h with ⟨h, _⟩ | h
  · cases h with | rv _ _ h => cases h
  · exact h
/-- Cells of a block, read closed. -/
theorem cl_of_block {S' : Nat → Prop} {b c sz n : Nat} {g g' : Nat → List PV} {cur : Array Value} {e : TypeId} {fz : Nat × Nat} (hS : S' b) (hn : n ≤ c) (hm : c ≤ 9223372036854775807) (hh : w.heap[b]? = some (.cells cur e fz)) (hs : cur.size = c * sz) (hl : ∀ i, i < n → (g i).length = sz) (hl' : ∀ i, i < n → (g' i).length = (g i).length)
    (h : ∀ i j p q, i < n → (g i)[j]? = some p → (g' i)[j]? = some q → (cur.getD (i * sz + j) undef).oneCell' = true ∧ RV w S' (cur.getD (i * sz + j) undef) q) : RV w S' (.slice (some ⟨b, 0, none⟩) n c) (.cl sz n g') := by
  refine RV.cl_mk hn (fun hp => ⟨hm, _, rfl, hS, fun i hi => ⟨by rw [hl' i hi]; exact hl i hi, fun j q hq => ?_⟩⟩)
  obtain ⟨p, hp⟩ := getq (hl' i hi) hq
  have hj : j < sz := by rw [← hl i hi]; exact (List.getElem?_eq_some_iff.1 hp).1
  have hlt : i * sz + j < cur.size := by
    rw [hs]
    have : (i + 1) * sz ≤ c * sz := Nat.mul_le_mul_right _ (by omega)
    rw [Nat.succ_mul] at this
    omega
  refine ⟨cur.getD (i * sz + j) undef, ?_, h i j p q hi hp hq⟩
  rw [Addr.add_lit, Nat.zero_add, cell_of_row w b _ cur e fz hh]
  simp [Array.getD, hlt]
theorem Wc.ok {D : Id → Prop} (hm : MRD w S D m β κ A) {p q : PV} (h : Wc m F p q) : ∀ {v : Value} {G : Nat → Prop}, TV β κ D w S G v p → (∀ k, G k → Sf S m A F k) → RV w (Sf S m A F) v q := by
  have up : ∀ k, S k → Sf S m A F k := fun k hk => .inl hk
  induction h with
  | und p => exact fun _ _ => .und _
  | bool b => exact fun hv _ => by rw [(hv.ov rfl).bool_inv]; exact .bool _
  | int k n => exact fun hv _ => by obtain ⟨rfl, h⟩ := (hv.ov rfl).int_inv; exact .int _ _ h
  | str s => exact fun hv _ => by obtain ⟨rfl, h⟩ := (hv.ov rfl).str_inv; exact .str _ h
  | nils => exact fun hv _ => by rw [(hv.ov rfl).nils_inv]; exact .nils
  | nilc sz g => exact fun hv _ => by rw [(hv.ov rfl).nils_inv]; exact .cl0 _ _ _ _
  | cl sz n g g' h =>
    intro v G hv _
    obtain ⟨Ad, c, rfl, hn, H⟩ := (hv.ov rfl).cl_inv
    refine RV.cl_mk hn (fun hp => ?_)
    obtain ⟨hc, a, rfl, hS, hg⟩ := H hp
    exact ⟨hc, a, rfl, up _ hS, fun i hi => by rw [h i hi]; exact ⟨(hg i hi).1, fun j p hp => by obtain ⟨u, a1, a2, a3⟩ := (hg i hi).2 j p hp; exact ⟨u, a1, a2, a3.move up (fun _ _ => rfl)⟩⟩⟩
  | close o sz n off len g g' hF ho hl h ih =>
    intro v G hv _
    obtain ⟨Ad, c, rfl, hx, hlc, hn, hkk, hc, hA⟩ := (hv.ov rfl).sl_inv
    refine RV.cl_mk hlc (fun hp => ?_)
    obtain rfl := hA (by omega)
    rcases hm.ob o _ ho with ⟨hz, _⟩ | ⟨q1, q2, q3, hblk⟩
    · omega
    obtain ⟨cur, e, fz, Fo, g1, gz, g2, g3, g6, gF, g7⟩ := hblk
    refine ⟨by omega, _, rfl, .inr ⟨o, _, hF, ho, (gF.eq _).2 (.inl rfl)⟩, fun i hi => ⟨by rw [hl i hi]; exact g6 _ (by omega), fun j p' hp' => ?_⟩⟩
    obtain ⟨p0, hp0⟩ := getq (hl i hi) hp'
    obtain ⟨a2, a3⟩ := g7 (off + i) j p0 (by omega) hp0
    have hj : j < sz := by rw [← g6 (off + i) (by omega)]; exact (List.getElem?_eq_some_iff.1 hp0).1
    have hlt : (off + i) * sz + j < cur.size := by
      rw [g2]
      have : (off + i + 1) * sz ≤ κ o * sz := Nat.mul_le_mul_right _ (by omega)
      rw [Nat.succ_mul] at this
      omega
    refine ⟨_, ?_, a2, ih i j p0 p' hi hp0 hp' a3 (fun k hk => .inr ⟨o, _, hF, ho, (gF.eq k).2 (.inr ⟨_, _, hk⟩)⟩)⟩
    rw [Addr.add_lit, ← Nat.add_assoc, ← Nat.add_mul, cell_of_row w _ _ cur e fz g1]
    simp [Array.getD, hlt]
  | ow sz n g g' hl h ih =>
    intro v G hv hG
    rcases hv.ow.ow_inv with ⟨Ad, rfl, rfl, _⟩ | ⟨b, c, rfl, hp, hn, hmx, h0, cur, e, fz, Fo, hh, hz, hs, hlg, hF, hcell⟩
    · exact .cl0 _ _ _ _
    · exact cl_of_block (hG b ((hF.eq b).2 (.inl rfl))) hn hmx hh hs hlg hl (fun i j p q hi hp hq => ⟨(hcell i j p hi hp).1, ih i j p q hi hp hq (.inr (hcell i j p hi hp).2) (fun k hk => hG k ((hF.eq k).2 (.inr ⟨i, j, hk⟩)))⟩)
  | ag ps qs hl h ih =>
    intro v G hv _
    obtain ⟨vs, rfl, h2, h3⟩ := (hv.ov rfl).ag_inv
    refine .ag vs qs (h2.trans hl.symm) (fun j q hq => ?_) (fun j q hq => ?_)
    · obtain ⟨p, hp⟩ := getq hl hq; exact (h3 j p hp).1
    · obtain ⟨p, hp⟩ := getq hl hq; exact ih j p q hp hq (G := fun _ => False) (.inl ⟨(h3 j p hp).2, fun _ h => h⟩) (fun _ h => h.elim)
  | tu ps qs hl h ih =>
    intro v G hv _
    obtain ⟨vs, rfl, h2, h3⟩ := (hv.ov rfl).tu_inv
    refine .tu vs qs (h2.trans hl.symm) (fun j q hq => ?_)
    obtain ⟨p, hp⟩ := getq hl hq; exact ih j p q hp hq (G := fun _ => False) (.inl ⟨h3 j p hp, fun _ h => h⟩) (fun _ h => h.elim)
  | pc ps =>
    intro v G hv _
    have hv := hv.ov rfl
    cases hv with | rv _ _ h => exact h.move up (fun _ _ => rfl)
theorem Wc.okV {D : Id → Prop} (hm : MRD w S D m β κ A) {p q : PV} (h : Wc m F p q) {v : Value} (hv : OV β κ D w S v p) : RV w (Sf S m A F) v q := h.ok hm (G := fun _ => False) (.inl ⟨hv, fun _ h => h⟩) (fun _ h => h.elim)
theorem Wk.ok {D : Id → Prop} (hm : MRD w S D m β κ A) {nx : Nat} {p q : PV} (h : Wk m F ρ nx p q) : ∀ {v : Value}, OV β κ D w S v p → OV (fun o => β (ρ o)) (fun o => κ (ρ o)) (dN nx) w (Sf S m A F) v q := by
  induction h with
  | c p q h => exact fun hv => .rv _ _ (h.okV hm hv)
  | sl o sz n off len hx =>
    intro v hv
    obtain ⟨Ad, c, rfl, _, hlc, hn, hkk, hc, hA⟩ := hv.sl_inv
    exact .sl _ _ _ _ _ _ _ hx hlc hn hkk hc hA
  | bp o j hx => exact fun hv => by rw [hv.bp_inv.1]; exact .bp (β := fun o => β (ρ o)) o j hx
  | pt o sz n i j hx => exact fun hv => by rw [hv.pt_inv.1]; exact .pt (β := fun o => β (ρ o)) o sz n i j hx hv.pt_inv.2.2
  | mp o hx => exact fun hv => by rw [hv.mp_inv.1]; exact .mp (β := fun o => β (ρ o)) o hx
  | ag ps qs hl h ih =>
    intro v hv
    obtain ⟨vs, rfl, h2, h3⟩ := hv.ag_inv
    refine .ag vs qs (h2.trans hl.symm) (fun j q hq => ?_) (fun j q hq => ?_)
    · obtain ⟨p, hp⟩ := getq hl hq; exact (h3 j p hp).1
    · obtain ⟨p, hp⟩ := getq hl hq; exact ih j p q hp hq (h3 j p hp).2
  | tu ps qs hl h ih =>
    intro v hv
    obtain ⟨vs, rfl, h2, h3⟩ := hv.tu_inv
    refine .tu vs qs (h2.trans hl.symm) (fun j q hq => ?_)
    obtain ⟨p, hp⟩ := getq hl hq; exact ih j p q hp hq (h3 j p hp)
  | fn f ps qs hl h ih =>
    intro v hv
    obtain ⟨vs, rfl, h2, h3⟩ := hv.fn_inv
    refine .fn f vs qs (h2.trans hl.symm) (fun j q hq => ?_)
    obtain ⟨p, hp⟩ := getq hl hq; exact ih j p q hp hq (h3 j p hp)
theorem CV.same {S' : Nat → Prop} (hS : ∀ k, S k → S' k) {G : Nat → Prop} {v : Value} {sz n : Nat} {g g' : Nat → List PV} (h : CV w S G v (.ow sz n g)) (hg : ∀ i, i < n → g' i = g i) : CV w S' G v (.ow sz n g') := by
  rcases h.ow_inv with ⟨Ad, rfl, rfl, h0⟩ | ⟨b, c, rfl, hp, hn, hmx, h0, cur, e, fz, Fo, hh, hz, hs, hlg, hF, hcell⟩
  · exact .no _ _ _ _ h0
  · exact .ow _ b n c sz g' cur e fz Fo hz hp hn hmx h0 hh hs (fun i hi => by rw [hg i hi]; exact hlg i hi) hF (fun i j p hi hp => by rw [hg i hi] at hp; exact (hcell i j p hi hp).1) (fun i j p hi hp => by rw [hg i hi] at hp; exact (hcell i j p hi hp).2.move hS (fun _ _ => rfl) (fun _ _ => rfl))
theorem Wx.ok {D : Id → Prop} (hm : MRD w S D m β κ A) {nx : Nat} {p q : PV} (h : Wx m F ρ nx p q) {v : Value} {G : Nat → Prop} (hv : TV β κ D w S G v p) : TV (fun o => β (ρ o)) (fun o => κ (ρ o)) (dN nx) w (Sf S m A F) G v q := by
  cases h with
  | k _ _ h0 h =>
    rcases hv with ⟨hv, hG⟩ | hv
    · exact .inl ⟨h.ok hm hv, hG⟩
    · cases hv with
      | rv _ _ _ hr hG => exact .inl ⟨h.ok hm (.rv _ _ hr), hG⟩
      | no => cases h0
      | ow => cases h0
  | ow sz n g g' h => exact .inr (hv.ow.same (fun k hk => .inl hk) h)
theorem WkM.ok {n0 : Nat} {m' : Mem} (h : WkM n0 m F ρ m') {D : Id → Prop} (hm : MRD w S D m β κ A) : MR w (Sf S m A F) m' (fun o => β (ρ o)) (fun o => κ (ρ o)) (fun o => A (ρ o)) := by
  refine ⟨fun o x' ho => ?_, fun o x' k ho hk hs => ?_, fun o o' x x' k h1 h2 h3 h4 => ?_, fun o x' ho => (h.ob o x' ho).1, fun k hk => ?_⟩
  · obtain ⟨_, hF, x, h1, h2⟩ := h.ob o x' ho
    have hob := hm.ob _ _ h1
    cases x <;> cases x' <;> simp only [WkO] at h2
    · obtain ⟨cur, e, fz, Fo, g1, gz, g2, g3, g4, g5, g6⟩ := hob
      show Blk _ _ _ _ _ _ _ _ _ _ _
      rw [h2.1]
      exact ⟨cur, e, fz, Fo, g1, gz, g2, g3, fun i hi => h2.1, g5, fun i j q hi hq => by obtain ⟨p, hp⟩ := getq h2.1 hq; exact ⟨(g6 i j p hi hp).1, (h2.2 j p q hp hq).ok hm (g6 i j p hi hp).2⟩⟩
    · obtain ⟨rfl, rfl, h3⟩ := h2
      rcases hob with hz | ⟨q1, q2, q3, cur, e, fz, Fo, g1, gz, g2, g3, g4, g5, g6⟩
      · exact .inl hz
      · exact .inr ⟨q1, q2, q3, cur, e, fz, Fo, g1, gz, g2, g3, fun i hi => by rw [(h3 i hi).1]; exact g4 i hi, g5, fun i j q hi hq => by
          obtain ⟨p, hp⟩ := getq (h3 i hi).1 hq
          exact ⟨(g6 i j p hi hp).1, ((h3 i hi).2 j p q hp hq).ok hm (g6 i j p hi hp).2⟩⟩
    · subst h2
      obtain ⟨a1, ents, clock, a2, a3⟩ := hob
      exact ⟨a1, ents, clock, a2, a3.move (fun _ hk => .inl hk) (fun _ _ => rfl)⟩
    · subst h2
      obtain ⟨b, ents, clock, seen, f, a1, a2, a3, a4, a5, a6⟩ := hob
      exact ⟨b, ents, clock, seen, f, a1, a2, a3, a4, a5.move (fun _ hk => .inl hk) (fun _ _ => rfl), a6⟩
  · obtain ⟨_, hF, x, h1, h2⟩ := h.ob o x' ho
    rcases hs with hs | ⟨o', y, hF', h4, h5⟩
    · exact hm.ns _ x k h1 hk hs
    · have := hm.dj _ _ _ _ k h1 h4 hk h5
      rw [this] at hF; exact hF hF'
  · obtain ⟨_, _, y, a1, a2⟩ := h.ob o x h1
    obtain ⟨_, _, y', b1, b2⟩ := h.ob o' x' h2
    exact h.inj o o' x x' h1 h2 (hm.dj _ _ _ _ k a1 b1 h3 h4)
  · rcases hk with hk | ⟨o, x, _, h1, h2⟩
    · exact hm.lt k hk
    · exact (hm.ob o x h1).lt h2
theorem WkM.own {n0 : Nat} {m' : Mem} (h : WkM n0 m F ρ m') {k : Nat} (hk : own m' (fun o => A (ρ o)) k) : own m A k := by
  obtain ⟨o, x', h1, h2⟩ := hk
  obtain ⟨_, _, x, c, d⟩ := h.ob o x' h1
  exact ⟨ρ o, x, c, h2⟩
theorem WkM.ext {C : Cx} {m' : Mem} (h : WkM C.m0.nx m F ρ m') (hm : MR w S m β κ A) (hx : Ext C.w0 C.S0 C.m0 C.β0 C.κ0 C.A0 w S m β κ A) : Ext C.w0 C.S0 C.m0 C.β0 C.κ0 C.A0 w (Sf S m A F) m' (fun o => β (ρ o)) (fun o => κ (ρ o)) (fun o => A (ρ o)) := by
  refine ⟨hx.os, hx.tape, hx.output, hx.size, fun k hk => .inl (hx.sub k hk), fun o ho => by simp only [h.fix o ho]; exact hx.be o ho, hx.keep, h.le, fun o ho => ho.mono h.le, fun k hk => hx.new k (h.own hk), fun k hk => ?_⟩
  rcases hk with hk | ⟨o, x, _, h1, h2⟩
  · exact hx.snew k hk
  · rcases hx.new k ⟨o, x, h1, h2⟩ with h4 | h4
    · exact .inr (.inl h4)
    · exact .inr (.inr h4)
/-- A state told anew. -/
structure Weak (n0 : Nat) (s : AS) (F : Id → Prop) (ρ : Id → Id) (s' : AS) : Prop where
  tv : ∀ t, Wk s.m F ρ s'.m.nx (s.t t) (s'.t t)
  mr : WkM n0 s.m F ρ s'.m
theorem Weak.ok {C : Cx} {s s' : AS} (h : Weak C.m0.nx s F ρ s') {a : Act} (hf : C.FR s a w) : C.FR s' a w := by
  obtain ⟨β, κ, A, S, hf⟩ := hf
  exact ⟨_, _, _, _, hf.df, hf.sz, fun t => (h.tv t).ok hf.mr (hf.tv t), h.mr.ok hf.mr, h.mr.ext hf.mr hf.ex⟩
theorem AW.weak {C : Cx} {P : Program} {c : Code} {Q : Exit → AS → Prop} {s s' : AS} (h : Weak C.m0.nx s F ρ s') (hw : AW C P c Q s') : AW C P c Q s := fun a w hf => hw a w (h.ok hf)
theorem AL.weak {C : Cx} {P : Program} {c : Code} {Q : Exit → AS → Prop} {s s' : AS} (h : Weak C.m0.nx s F ρ s') (hw : AL C P c Q s') : AL C P c Q s := fun a w hf => hw a w (h.ok hf)
end
end Go.Proofs.YtolejglfohagnaaW.AW
