/- Code, loops. Plain lemmas: no statement of the program. -/
import Derived.Test.YtofaiiobggnibaaWB17C
namespace Go.Proofs.YtofaiiobggnibaaW.AW
open Go Go.RowKit
set_option linter.unusedVariables false
set_option linter.unusedSimpArgs false

/-- The model's post of the words' post. -/
def Cx.post (C : Cx) (Q : Exit → AS → Prop) (e : Exit) (a : Act) (w : World) : Prop := ∃ s, C.FR s a w ∧ Q e s
/-- THE JUDGEMENT: from every frame that s tells of the code comes to one that Q tells of. -/
def AW (C : Cx) (P : Program) (c : Code) (Q : Exit → AS → Prop) (s : AS) : Prop := ∀ a w, C.FR s a w → c.wp P (C.post Q) a w
def thenA (K : AS → Prop) (Q : Exit → AS → Prop) : Exit → AS → Prop
  | .normal, s => K s
  | e, s => Q e s
def blockA (id : Nat) (Q : Exit → AS → Prop) : Exit → AS → Prop
  | .exit n, s => if n = id then Q .normal s else Q (.exit n) s
  | e, s => Q e s
/-- From a loop's head on. -/
def AL (C : Cx) (P : Program) (c : Code) (Q : Exit → AS → Prop) (s : AS) : Prop := ∀ a w, C.FR s a w → ∀ (b : Frame) (k : List Item) (cs : List Frame), ∃ e a' w', C.post Q e a' w' ∧ Arrives P (lone (b.at a (.code c :: .inLoop c :: k)) cs w) b k cs e a' w'

section
variable {P : Program} {C : Cx} {Q : Exit → AS → Prop} {s : AS} {ops : Array Oper}
/-- What code asks of the state that it is come to in. -/
def vc (C : Cx) (P : Program) : Code → (Exit → AS → Prop) → AS → Prop
  | .skip, Q, s => Q .normal s
  | .ret, Q, s => Q .ret s
  | .exit n, Q, s => Q (.exit n) s
  | .seq a b, Q, s => vc C P a (thenA (vc C P b Q) Q) s
  | .block id c, Q, s => vc C P c (blockA id Q) s
  | .cond c a b, Q, s => match s.ev c with | .bool t => (t = true → vc C P a Q s) ∧ (t = false → vc C P b Q s) | _ => False
  | .region _ ops false, Q, s => arun P C.nt (ops.toList.map (·.dst)) ops.toList (Q .normal) s
  | .region id ops true, Q, s => P.follows .mixedOrders = true ∧ drawOk ops = true ∧ arunD P C.nt (ops.toList.map (·.dst)) (nds ops.toList []) 0 [] [] ops.toList (Q .normal) s
  | .loop c, Q, s => AL C P c Q s
  | c, Q, s => AW C P c Q s
theorem AW.mono {c : Code} {Q' : Exit → AS → Prop} (h : AW C P c Q s) (hq : ∀ e s, Q e s → Q' e s) : AW C P c Q' s := fun a w hf => wp_mono (h a w hf) (fun e a w ⟨s', h1, h2⟩ => ⟨s', h1, hq e s' h2⟩)
theorem AW_loop {c : Code} (h : AL C P c Q s) : AW C P (.loop c) Q s := fun a w hf b k cs => by
  obtain ⟨e, a', w', hq, hr⟩ := h a w hf b k cs
  exact ⟨e, a', w', hq, .of_steps (.one step_loop) hr⟩
/-- One round of a loop. -/
theorem AL_round {c : Code} (h : AW C P c (thenA (AL C P c Q) Q) s) : AL C P c Q s := fun a w hf b k cs => by
  obtain ⟨e, a₁, w₁, ⟨s', hs, hq⟩, harr⟩ := h a w hf b (.inLoop c :: k) cs
  cases e with
  | normal =>
    obtain ⟨e₂, a₂, w₂, hq₂, harr₂⟩ := hq a₁ w₁ hs b k cs
    exact ⟨e₂, a₂, w₂, hq₂, .of_steps (Steps.trans harr (.one step_inLoop)) harr₂⟩
  | exit id => exact ⟨_, a₁, w₁, ⟨s', hs, hq⟩, .pass (x := .inLoop c) rfl (fun _ _ => .inl (by simp)) harr⟩
  | goto l => exact ⟨_, a₁, w₁, ⟨s', hs, hq⟩, .pass (x := .inLoop c) rfl (fun _ _ => .inl (by simp)) harr⟩
  | ret => exact ⟨_, a₁, w₁, ⟨s', hs, hq⟩, .pass (x := .inLoop c) rfl (fun _ _ => .inl (by simp)) harr⟩
  | panic ch => exact ⟨_, a₁, w₁, ⟨s', hs, hq⟩, .pass (x := .inLoop c) rfl (fun _ _ => .inl (by simp)) harr⟩
  | outgrown => exact ⟨_, a₁, w₁, ⟨s', hs, hq⟩, .pass (x := .inLoop c) rfl (fun _ _ => .inl (by simp)) harr⟩
theorem vc_ok : ∀ (c : Code) (Q : Exit → AS → Prop) (s : AS), vc C P c Q s → AW C P c Q s
  | .skip, Q, s, h => fun a w hf => wp_skip ⟨s, hf, h⟩
  | .ret, Q, s, h => fun a w hf => wp_ret ⟨s, hf, h⟩
  | .exit n, Q, s, h => fun a w hf => wp_exit ⟨s, hf, h⟩
  | .seq x y, Q, s, h => fun a w hf => by
    refine wp_seq (wp_mono (vc_ok x _ s h a w hf) (fun e a' w' hq => ?_))
    obtain ⟨s', h1, h2⟩ := hq
    cases e with
    | normal => exact vc_ok y Q s' h2 a' w' h1
    | _ => exact ⟨s', h1, h2⟩
  | .block id c, Q, s, h => fun a w hf => by
    refine wp_block (wp_mono (vc_ok c _ s h a w hf) (fun e a' w' hq => ?_))
    obtain ⟨s', h1, h2⟩ := hq
    cases e with
    | exit n =>
      simp only [Exit.inBlock, blockA] at h2 ⊢
      split <;> rename_i hn
      · rw [if_pos hn] at h2; exact ⟨s', h1, h2⟩
      · rw [if_neg hn] at h2; exact ⟨s', h1, h2⟩
    | _ => exact ⟨s', h1, h2⟩
  | .cond c x y, Q, s, h => fun a w hf => by
    simp only [vc] at h
    split at h
    · rename_i t ht
      have hv : a.eval c = .bool t := by
        obtain ⟨β, κ, A, S, hf'⟩ := hf
        have := ev_ok (cs := []) hf' rfl c
        rw [ht] at this
        exact this.bool_inv
      refine wp_cond_split hv (fun e => vc_ok x Q s (h.1 e) a w hf) (fun e => vc_ok y Q s (h.2 e) a w hf)
    · exact h.elim
  | .region id ops false, Q, s, h => fun a w hf => wp_region_list (arun_ok (fun s' a' w' h1 h2 => ⟨s', h1, h2⟩) _ s a w hf h)
  | .region id ops true, Q, s, h => fun a w hf => wp_region_any h.1 (draw_ok h.2.1 (fun s' a' w' h1 h2 => ⟨s', h1, h2⟩) s h.2.2 a _ (drawn_FR hf))
  | .loop c, Q, s, h => AW_loop h
  | .rangeFunc _ _ _ _, Q, s, h => h
  | .scope _, Q, s, h => h
  | .label _, Q, s, h => h
  | .goto _, Q, s, h => h
  | .refuse _, Q, s, h => h
end
end Go.Proofs.YtofaiiobggnibaaW.AW
namespace Go.Proofs.YtofaiiobggnibaaW.AW
open Go Go.RowKit
set_option linter.unusedVariables false
set_option linter.unusedSimpArgs false

/-- A value told as one that is only read: objects of F are written no more. -/
inductive Wc (m : Mem) (F : Id → Prop) : PV → PV → Prop
  | und (p) : Wc m F p .und
  | bool (b) : Wc m F (.bool b) (.bool b)
  | int (k n) : Wc m F (.int k n) (.int k n)
  | str (s) : Wc m F (.str s) (.str s)
  | nils : Wc m F .nils .nils
  | nilc (sz g) : Wc m F .nils (.cl sz 0 g)
  | cl (sz n g g') (h : ∀ i, i < n → g' i = g i) : Wc m F (.cl sz n g) (.cl sz n g')
  | close (o sz n off len g g') (hF : F o) (ho : m.o o = some (.row sz n g)) (hl : ∀ i, i < len → (g' i).length = (g (off + i)).length)
      (h : ∀ (i j : Nat) (p p' : PV), i < len → (g (off + i))[j]? = some p → (g' i)[j]? = some p' → Wc m F p p') : Wc m F (.sl o sz n off len) (.cl sz len g')
  | ow (sz n g g') (hl : ∀ i, i < n → (g' i).length = (g i).length) (h : ∀ (i j : Nat) (p p' : PV), i < n → (g i)[j]? = some p → (g' i)[j]? = some p' → Wc m F p p') : Wc m F (.ow sz n g) (.cl sz n g')
  | ag (ps qs) (hl : qs.length = ps.length) (h : ∀ (j : Nat) (p q : PV), ps[j]? = some p → qs[j]? = some q → Wc m F p q) : Wc m F (.ag ps) (.ag qs)
  | tu (ps qs) (hl : qs.length = ps.length) (h : ∀ (j : Nat) (p q : PV), ps[j]? = some p → qs[j]? = some q → Wc m F p q) : Wc m F (.tu ps) (.tu qs)
  | pc (ps) : Wc m F (.pc ps) (.pc ps)
/-- A value told anew: object o is elder ρ o. -/
inductive Wk (m : Mem) (F : Id → Prop) (ρ : Id → Id) (nx : Nat) : PV → PV → Prop
  | c (p q) (h : Wc m F p q) : Wk m F ρ nx p q
  | sl (o sz n off len) (hx : hb o nx) : Wk m F ρ nx (.sl (ρ o) sz n off len) (.sl o sz n off len)
  | bp (o j) (hx : hb o nx) : Wk m F ρ nx (.bp (ρ o) j) (.bp o j)
  | pt (o sz n i j) (hx : hb o nx) : Wk m F ρ nx (.pt (ρ o) sz n i j) (.pt o sz n i j)
  | mp (o) (hx : hb o nx) : Wk m F ρ nx (.mp (ρ o)) (.mp o)
  | ag (ps qs) (hl : qs.length = ps.length) (h : ∀ (j : Nat) (p q : PV), ps[j]? = some p → qs[j]? = some q → Wk m F ρ nx p q) : Wk m F ρ nx (.ag ps) (.ag qs)
  | tu (ps qs) (hl : qs.length = ps.length) (h : ∀ (j : Nat) (p q : PV), ps[j]? = some p → qs[j]? = some q → Wk m F ρ nx p q) : Wk m F ρ nx (.tu ps) (.tu qs)
  | fn (f ps qs) (hl : qs.length = ps.length) (h : ∀ (j : Nat) (p q : PV), ps[j]? = some p → qs[j]? = some q → Wk m F ρ nx p q) : Wk m F ρ nx (.fn f ps) (.fn f qs)
/-- A cell told anew. -/
inductive Wx (m : Mem) (F : Id → Prop) (ρ : Id → Id) (nx : Nat) : PV → PV → Prop
  | k (p q) (h0 : p.isOw = false) (h : Wk m F ρ nx p q) : Wx m F ρ nx p q
  | ow (sz n g g') (h : ∀ i, i < n → g' i = g i) : Wx m F ρ nx (.ow sz n g) (.ow sz n g')
/-- An object told anew. -/
def WkO (m : Mem) (F : Id → Prop) (ρ : Id → Id) (nx : Nat) : Ob → Ob → Prop
  | .box ps, .box qs => qs.length = ps.length ∧ ∀ (j : Nat) (p q : PV), ps[j]? = some p → qs[j]? = some q → Wx m F ρ nx p q
  | .row sz n g, .row sz' n' g' => sz' = sz ∧ n' = n ∧ ∀ i, i < n → (g' i).length = (g i).length ∧ ∀ (j : Nat) (p q : PV), (g i)[j]? = some p → (g' i)[j]? = some q → Wx m F ρ nx p q
  | .map f, .map f' => f' = f
  | .it es, .it es' => es' = es
  | _, _ => False
structure WkM (n0 : Nat) (m : Mem) (F : Id → Prop) (ρ : Id → Id) (m' : Mem) : Prop where
  ob : ∀ o x', m'.o o = some x' → hb o m'.nx ∧ ¬ F (ρ o) ∧ ∃ x, m.o (ρ o) = some x ∧ WkO m F ρ m'.nx x x'
  inj : ∀ o o' x x', m'.o o = some x → m'.o o' = some x' → ρ o = ρ o' → o = o'
  fix : ∀ o, hb o n0 → ρ o = o
  le : n0 ≤ m'.nx

/-- S and the blocks of F's objects. -/
def Sf (S : Nat → Prop) (m : Mem) (A : Id → Nat → Prop) (F : Id → Prop) (k : Nat) : Prop := S k ∨ ∃ o x, F o ∧ m.o o = some x ∧ A o k
section
variable {β κ : Id → Nat} {A : Id → Nat → Prop} {w : World} {S : Nat → Prop} {m : Mem} {F : Id → Prop} {ρ : Id → Id}
theorem OV.tu_inv {D : Id → Prop} {v : Value} {ps : List PV} (h : OV β κ D w S v (.tu ps)) : ∃ vs : Array Value, v = .tuple vs ∧ vs.size = ps.length ∧ ∀ j p, ps[j]? = some p → OV β κ D w S (vs.getD j undef) p := by
  cases h with
  | rv _ _ h => cases h with | tu vs _ hl hv => exact ⟨vs, rfl, hl, fun j p hp => .rv _ _ (hv j p hp)⟩
  | tu vs _ hl hv => exact ⟨vs, rfl, hl, hv⟩
theorem OV.fn_inv {D : Id → Prop} {v : Value} {f : FuncId} {ps : List PV} (h : OV β κ D w S v (.fn f ps)) : ∃ vs : Array Value, v = .func (.func f) #[] vs ∧ vs.size = ps.length ∧ ∀ j p, ps[j]? = some p → OV β κ D w S (vs.getD j undef) p := by
  cases h with
  | rv _ _ h => cases h
  | fn _ vs _ hl hv => exact ⟨vs, rfl, hl, hv⟩
theorem getq {ps qs : List PV} (hl : qs.length = ps.length) {j : Nat} {q : PV} (hq : qs[j]? = some q) : ∃ p, ps[j]? = some p :=
  ⟨_, List.getElem?_eq_getElem (by rw [← hl]; exact (List.getElem?_eq_some_iff.1 hq).1)⟩
theorem CV.ow_inv {G : Nat → Prop} {v : Value} {sz n : Nat} {g : Nat → List PV} (h : CV w S G v (.ow sz n g)) : (∃ Ad, v = .slice Ad 0 0 ∧ n = 0 ∧ ∀ k, ¬ G k) ∨
    ∃ b c, v = .slice (some ⟨b, 0, none⟩) n c ∧ 0 < c ∧ n ≤ c ∧ c ≤ 9223372036854775807 ∧ 0 < sz ∧ ∃ (cur : Array Value) (e : TypeId) (fz : Nat × Nat) (F : Nat → Nat → Nat → Prop), w.heap[b]? = some (.cells cur e fz) ∧ fzOk fz cur.size ∧ cur.size = c * sz ∧ (∀ i, i < n → (g i).length = sz) ∧ Fp n sz b F G ∧
      ∀ i j p, i < n → (g i)[j]? = some p → (cur.getD (i * sz + j) undef).oneCell' = true ∧ CV w S (F i j) (cur.getD (i * sz + j) undef) p := by
  cases h with
  | rv _ _ _ h _ => cases h
  | no _ Ad _ _ h0 => exact .inl ⟨Ad, rfl, rfl, h0⟩
  | ow _ b _ c _ _ cur e fz F hz hp hn hm h0 hh hs hl hF h1 hv => exact .inr ⟨b, c, rfl, hp, hn, hm, h0, cur, e, fz, F, hh, hz, hs, hl, hF, fun i j p hi hp => ⟨h1 i j p hi hp, hv i j p hi hp⟩⟩
theorem TV.ow {D : Id → Prop} {G : Nat → Prop} {v : Value} {sz n : Nat} {g : Nat → List PV} (h : TV β κ D w S G v (.ow sz n g)) : CV w S G v (.ow sz n g) := by
  rcases h with ⟨h, _⟩ | h
  · cases h with | rv _ _ h => cases h
  · exact h
/-- Cells of a block, read closed. -/
theorem cl_of_block {S' : Nat → Prop} {b c sz n : Nat} {g g' : Nat → List PV} {cur : Array Value} {e : TypeId} {fz : Nat × Nat} (hS : S' b) (hn : n ≤ c) (hm : c ≤ 9223372036854775807) (hh : w.heap[b]? = some (.cells cur e fz)) (hs : cur.size = c * sz) (hl : ∀ i, i < n → (g i).length = sz) (hl' : ∀ i, i < n → (g' i).length = (g i).length)
    (h : ∀ i j p q, i < n → (g i)[j]? = some p → (g' i)[j]? = some q → (cur.getD (i * sz + j) undef).oneCell' = true ∧ RV w S' (cur.getD (i * sz + j) undef) q) : RV w S' (.slice (some ⟨b, 0, none⟩) n c) (.cl sz n g') := by
  refine RV.cl_mk hn (fun hp => ⟨hm, _, rfl, hS, fun i hi => ⟨by rw [hl' i hi]; exact hl i hi, fun j q hq => ?_⟩⟩)
  obtain ⟨p, hp⟩ := getq (hl' i hi) hq
  have hj : j < sz := by rw [← hl i hi]; exact (List.getElem?_eq_some_iff.1 hp).1
  have hlt : i * sz + j < cur.size := by
    rw [hs]
    have : (i + 1) * sz ≤ c * sz := Nat.mul_le_mul_right _ (by omega)
    rw [Nat.succ_mul] at this
    omega
  refine ⟨cur.getD (i * sz + j) undef, ?_, h i j p q hi hp hq⟩
  rw [Addr.add_lit, Nat.zero_add, cell_of_row w b _ cur e fz hh]
  simp [Array.getD, hlt]
theorem Wc.ok {D : Id → Prop} (hm : MRD w S D m β κ A) {p q : PV} (h : Wc m F p q) : ∀ {v : Value} {G : Nat → Prop}, TV β κ D w S G v p → (∀ k, G k → Sf S m A F k) → RV w (Sf S m A F) v q := by
  have up : ∀ k, S k → Sf S m A F k := fun k hk => .inl hk
  induction h with
  | und p => exact fun _ _ => .und _
  | bool b => exact fun hv _ => by rw [(hv.ov rfl).bool_inv]; exact .bool _
  | int k n => exact fun hv _ => by obtain ⟨rfl, h⟩ := (hv.ov rfl).int_inv; exact .int _ _ h
  | str s => exact fun hv _ => by obtain ⟨rfl, h⟩ := (hv.ov rfl).str_inv; exact .str _ h
  | nils => exact fun hv _ => by rw [(hv.ov rfl).nils_inv]; exact .nils
  | nilc sz g => exact fun hv _ => by rw [(hv.ov rfl).nils_inv]; exact .cl0 _ _ _ _
  | cl sz n g g' h =>
    intro v G hv _
    obtain ⟨Ad, c, rfl, hn, H⟩ := (hv.ov rfl).cl_inv
    refine RV.cl_mk hn (fun hp => ?_)
    obtain ⟨hc, a, rfl, hS, hg⟩ := H hp
    exact ⟨hc, a, rfl, up _ hS, fun i hi => by rw [h i hi]; exact ⟨(hg i hi).1, fun j p hp => by obtain ⟨u, a1, a2, a3⟩ := (hg i hi).2 j p hp; exact ⟨u, a1, a2, a3.move up (fun _ _ => rfl)⟩⟩⟩
  | close o sz n off len g g' hF ho hl h ih =>
    intro v G hv _
    obtain ⟨Ad, c, rfl, hx, hlc, hn, hkk, hc, hA⟩ := (hv.ov rfl).sl_inv
    refine RV.cl_mk hlc (fun hp => ?_)
    obtain rfl := hA (by omega)
    rcases hm.ob o _ ho with ⟨hz, _⟩ | ⟨q1, q2, q3, hblk⟩
    · omega
    obtain ⟨cur, e, fz, Fo, g1, gz, g2, g3, g6, gF, g7⟩ := hblk
    refine ⟨by omega, _, rfl, .inr ⟨o, _, hF, ho, (gF.eq _).2 (.inl rfl)⟩, fun i hi => ⟨by rw [hl i hi]; exact g6 _ (by omega), fun j p' hp' => ?_⟩⟩
    obtain ⟨p0, hp0⟩ := getq (hl i hi) hp'
    obtain ⟨a2, a3⟩ := g7 (off + i) j p0 (by omega) hp0
    have hj : j < sz := by rw [← g6 (off + i) (by omega)]; exact (List.getElem?_eq_some_iff.1 hp0).1
    have hlt : (off + i) * sz + j < cur.size := by
      rw [g2]
      have : (off + i + 1) * sz ≤ κ o * sz := Nat.mul_le_mul_right _ (by omega)
      rw [Nat.succ_mul] at this
      omega
    refine ⟨_, ?_, a2, ih i j p0 p' hi hp0 hp' a3 (fun k hk => .inr ⟨o, _, hF, ho, (gF.eq k).2 (.inr ⟨_, _, hk⟩)⟩)⟩
    rw [Addr.add_lit, ← Nat.add_assoc, ← Nat.add_mul, cell_of_row w _ _ cur e fz g1]
    simp [Array.getD, hlt]
  | ow sz n g g' hl h ih =>
    intro v G hv hG
    rcases hv.ow.ow_inv with ⟨Ad, rfl, rfl, _⟩ | ⟨b, c, rfl, hp, hn, hmx, h0, cur, e, fz, Fo, hh, hz, hs, hlg, hF, hcell⟩
    · exact .cl0 _ _ _ _
    · exact cl_of_block (hG b ((hF.eq b).2 (.inl rfl))) hn hmx hh hs hlg hl (fun i j p q hi hp hq => ⟨(hcell i j p hi hp).1, ih i j p q hi hp hq (.inr (hcell i j p hi hp).2) (fun k hk => hG k ((hF.eq k).2 (.inr ⟨i, j, hk⟩)))⟩)
  | ag ps qs hl h ih =>
    intro v G hv _
    obtain ⟨vs, rfl, h2, h3⟩ := (hv.ov rfl).ag_inv
    refine .ag vs qs (h2.trans hl.symm) (fun j q hq => ?_) (fun j q hq => ?_)
    · obtain ⟨p, hp⟩ := getq hl hq; exact (h3 j p hp).1
    · obtain ⟨p, hp⟩ := getq hl hq; exact ih j p q hp hq (G := fun _ => False) (.inl ⟨(h3 j p hp).2, fun _ h => h⟩) (fun _ h => h.elim)
  | tu ps qs hl h ih =>
    intro v G hv _
    obtain ⟨vs, rfl, h2, h3⟩ := (hv.ov rfl).tu_inv
    refine .tu vs qs (h2.trans hl.symm) (fun j q hq => ?_)
    obtain ⟨p, hp⟩ := getq hl hq; exact ih j p q hp hq (G := fun _ => False) (.inl ⟨h3 j p hp, fun _ h => h⟩) (fun _ h => h.elim)
  | pc ps =>
    intro v G hv _
    have hv := hv.ov rfl
    cases hv with | rv _ _ h => exact h.move up (fun _ _ => rfl)
theorem Wc.okV {D : Id → Prop} (hm : MRD w S D m β κ A) {p q : PV} (h : Wc m F p q) {v : Value} (hv : OV β κ D w S v p) : RV w (Sf S m A F) v q := h.ok hm (G := fun _ => False) (.inl ⟨hv, fun _ h => h⟩) (fun _ h => h.elim)
theorem Wk.ok {D : Id → Prop} (hm : MRD w S D m β κ A) {nx : Nat} {p q : PV} (h : Wk m F ρ nx p q) : ∀ {v : Value}, OV β κ D w S v p → OV (fun o => β (ρ o)) (fun o => κ (ρ o)) (dN nx) w (Sf S m A F) v q := by
  induction h with
  | c p q h => exact fun hv => .rv _ _ (h.okV hm hv)
  | sl o sz n off len hx =>
    intro v hv
    obtain ⟨Ad, c, rfl, _, hlc, hn, hkk, hc, hA⟩ := hv.sl_inv
    exact .sl _ _ _ _ _ _ _ hx hlc hn hkk hc hA
  | bp o j hx => exact fun hv => by rw [hv.bp_inv.1]; exact .bp (β := fun o => β (ρ o)) o j hx
  | pt o sz n i j hx => exact fun hv => by rw [hv.pt_inv.1]; exact .pt (β := fun o => β (ρ o)) o sz n i j hx hv.pt_inv.2.2
  | mp o hx => exact fun hv => by rw [hv.mp_inv.1]; exact .mp (β := fun o => β (ρ o)) o hx
  | ag ps qs hl h ih =>
    intro v hv
    obtain ⟨vs, rfl, h2, h3⟩ := hv.ag_inv
    refine .ag vs qs (h2.trans hl.symm) (fun j q hq => ?_) (fun j q hq => ?_)
    · obtain ⟨p, hp⟩ := getq hl hq; exact (h3 j p hp).1
    · obtain ⟨p, hp⟩ := getq hl hq; exact ih j p q hp hq (h3 j p hp).2
  | tu ps qs hl h ih =>
    intro v hv
    obtain ⟨vs, rfl, h2, h3⟩ := hv.tu_inv
    refine .tu vs qs (h2.trans hl.symm) (fun j q hq => ?_)
    obtain ⟨p, hp⟩ := getq hl hq; exact ih j p q hp hq (h3 j p hp)
  | fn f ps qs hl h ih =>
    intro v hv
    obtain ⟨vs, rfl, h2, h3⟩ := hv.fn_inv
    refine .fn f vs qs (h2.trans hl.symm) (fun j q hq => ?_)
    obtain ⟨p, hp⟩ := getq hl hq; exact ih j p q hp hq (h3 j p hp)
theorem CV.same {S' : Nat → Prop} (hS : ∀ k, S k → S' k) {G : Nat → Prop} {v : Value} {sz n : Nat} {g g' : Nat → List PV} (h : CV w S G v (.ow sz n g)) (hg : ∀ i, i < n → g' i = g i) : CV w S' G v (.ow sz n g') := by
  rcases h.ow_inv with ⟨Ad, rfl, rfl, h0⟩ | ⟨b, c, rfl, hp, hn, hmx, h0, cur, e, fz, Fo, hh, hz, hs, hlg, hF, hcell⟩
  · exact .no _ _ _ _ h0
  · exact .ow _ b n c sz g' cur e fz Fo hz hp hn hmx h0 hh hs (fun i hi => by rw [hg i hi]; exact hlg i hi) hF (fun i j p hi hp => by rw [hg i hi] at hp; exact (hcell i j p hi hp).1) (fun i j p hi hp => by rw [hg i hi] at hp; exact (hcell i j p hi hp).2.move hS (fun _ _ => rfl) (fun _ _ => rfl))
theorem Wx.ok {D : Id → Prop} (hm : MRD w S D m β κ A) {nx : Nat} {p q : PV} (h : Wx m F ρ nx p q) {v : Value} {G : Nat → Prop} (hv : TV β κ D w S G v p) : TV (fun o => β (ρ o)) (fun o => κ (ρ o)) (dN nx) w (Sf S m A F) G v q := by
  cases h with
  | k _ _ h0 h =>
    rcases hv with ⟨hv, hG⟩ | hv
    · exact .inl ⟨h.ok hm hv, hG⟩
    · cases hv with
      | rv _ _ _ hr hG => exact .inl ⟨h.ok hm (.rv _ _ hr), hG⟩
      | no => cases h0
      | ow => cases h0
  | ow sz n g g' h => exact .inr (hv.ow.same (fun k hk => .inl hk) h)
theorem WkM.ok {n0 : Nat} {m' : Mem} (h : WkM n0 m F ρ m') {D : Id → Prop} (hm : MRD w S D m β κ A) : MR w (Sf S m A F) m' (fun o => β (ρ o)) (fun o => κ (ρ o)) (fun o => A (ρ o)) := by
  refine ⟨fun o x' ho => ?_, fun o x' k ho hk hs => ?_, fun o o' x x' k h1 h2 h3 h4 => ?_, fun o x' ho => (h.ob o x' ho).1, fun k hk => ?_⟩
  · obtain ⟨_, hF, x, h1, h2⟩ := h.ob o x' ho
    have hob := hm.ob _ _ h1
    cases x <;> cases x' <;> simp only [WkO] at h2
    · obtain ⟨cur, e, fz, Fo, g1, gz, g2, g3, g4, g5, g6⟩ := hob
      show Blk _ _ _ _ _ _ _ _ _ _ _
      rw [h2.1]
      exact ⟨cur, e, fz, Fo, g1, gz, g2, g3, fun i hi => h2.1, g5, fun i j q hi hq => by obtain ⟨p, hp⟩ := getq h2.1 hq; exact ⟨(g6 i j p hi hp).1, (h2.2 j p q hp hq).ok hm (g6 i j p hi hp).2⟩⟩
    · obtain ⟨rfl, rfl, h3⟩ := h2
      rcases hob with hz | ⟨q1, q2, q3, cur, e, fz, Fo, g1, gz, g2, g3, g4, g5, g6⟩
      · exact .inl hz
      · exact .inr ⟨q1, q2, q3, cur, e, fz, Fo, g1, gz, g2, g3, fun i hi => by rw [(h3 i hi).1]; exact g4 i hi, g5, fun i j q hi hq => by
          obtain ⟨p, hp⟩ := getq (h3 i hi).1 hq
          exact ⟨(g6 i j p hi hp).1, ((h3 i hi).2 j p q hp hq).ok hm (g6 i j p hi hp).2⟩⟩
    · subst h2
      obtain ⟨a1, ents, clock, a2, a3⟩ := hob
      exact ⟨a1, ents, clock, a2, a3.move (fun _ hk => .inl hk) (fun _ _ => rfl)⟩
    · subst h2
      obtain ⟨b, ents, clock, seen, f, a1, a2, a3, a4, a5, a6⟩ := hob
      exact ⟨b, ents, clock, seen, f, a1, a2, a3, a4, a5.move (fun _ hk => .inl hk) (fun _ _ => rfl), a6⟩
  · obtain ⟨_, hF, x, h1, h2⟩ := h.ob o x' ho
    rcases hs with hs | ⟨o', y, hF', h4, h5⟩
    · exact hm.ns _ x k h1 hk hs
    · have := hm.dj _ _ _ _ k h1 h4 hk h5
      rw [this] at hF; exact hF hF'
  · obtain ⟨_, _, y, a1, a2⟩ := h.ob o x h1
    obtain ⟨_, _, y', b1, b2⟩ := h.ob o' x' h2
    exact h.inj o o' x x' h1 h2 (hm.dj _ _ _ _ k a1 b1 h3 h4)
  · rcases hk with hk | ⟨o, x, _, h1, h2⟩
    · exact hm.lt k hk
    · exact (hm.ob o x h1).lt h2
theorem WkM.own {n0 : Nat} {m' : Mem} (h : WkM n0 m F ρ m') {k : Nat} (hk : own m' (fun o => A (ρ o)) k) : own m A k := by
  obtain ⟨o, x', h1, h2⟩ := hk
  obtain ⟨_, _, x, c, d⟩ := h.ob o x' h1
  exact ⟨ρ o, x, c, h2⟩
theorem WkM.ext {C : Cx} {m' : Mem} (h : WkM C.m0.nx m F ρ m') (hm : MR w S m β κ A) (hx : Ext C.w0 C.S0 C.m0 C.β0 C.κ0 C.A0 w S m β κ A) : Ext C.w0 C.S0 C.m0 C.β0 C.κ0 C.A0 w (Sf S m A F) m' (fun o => β (ρ o)) (fun o => κ (ρ o)) (fun o => A (ρ o)) := by
  refine ⟨hx.os, hx.tape, hx.output, hx.size, fun k hk => .inl (hx.sub k hk), fun o ho => by simp only [h.fix o ho]; exact hx.be o ho, hx.keep, h.le, fun o ho => ho.mono h.le, fun k hk => hx.new k (h.own hk), fun k hk => ?_⟩
  rcases hk with hk | ⟨o, x, _, h1, h2⟩
  · exact hx.snew k hk
  · rcases hx.new k ⟨o, x, h1, h2⟩ with h4 | h4
    · exact .inr (.inl h4)
    · exact .inr (.inr h4)
/-- A state told anew. -/
structure Weak (n0 : Nat) (s : AS) (F : Id → Prop) (ρ : Id → Id) (s' : AS) : Prop where
  tv : ∀ t, Wk s.m F ρ s'.m.nx (s.t t) (s'.t t)
  mr : WkM n0 s.m F ρ s'.m
theorem Weak.ok {C : Cx} {s s' : AS} (h : Weak C.m0.nx s F ρ s') {a : Act} (hf : C.FR s a w) : C.FR s' a w := by
  obtain ⟨β, κ, A, S, hf⟩ := hf
  exact ⟨_, _, _, _, hf.df, hf.sz, fun t => (h.tv t).ok hf.mr (hf.tv t), h.mr.ok hf.mr, h.mr.ext hf.mr hf.ex⟩
theorem AW.weak {C : Cx} {P : Program} {c : Code} {Q : Exit → AS → Prop} {s s' : AS} (h : Weak C.m0.nx s F ρ s') (hw : AW C P c Q s') : AW C P c Q s := fun a w hf => hw a w (h.ok hf)
theorem AL.weak {C : Cx} {P : Program} {c : Code} {Q : Exit → AS → Prop} {s s' : AS} (h : Weak C.m0.nx s F ρ s') (hw : AL C P c Q s') : AL C P c Q s := fun a w hf => hw a w (h.ok hf)
end
end Go.Proofs.YtofaiiobggnibaaW.AW
namespace Go.Proofs.YtofaiiobggnibaaW.AW
open Go Go.RowKit
set_option linter.unusedVariables false
set_option linter.unusedSimpArgs false

def ares1 (P : Program) (s : AS) : ResultVar → PR
  | .tmp t => ⟨True, s.t t⟩
  | .cell a t => match s.t a with
    | .bp o j => match s.m.o o with | some (.box cs) => ldo (tyD P t) (cs.drop j) | _ => no
    | _ => no
def ares (P : Program) (s : AS) : List ResultVar → PR
  | [r] => ares1 P s r
  | rs => ⟨∀ r ∈ rs, (ares1 P s r).ok, .tu (rs.map (fun r => (ares1 P s r).v))⟩
/-- What a body is to end in. -/
def RetQ (P : Program) (rs : List ResultVar) (n0 : Nat) (r : PV) (m' : Mem) (e : Exit) (s : AS) : Prop :=
  (e = .ret ∨ e = .normal) ∧ (ares P s rs).ok ∧ ∃ F ρ, Wk s.m F ρ m'.nx (ares P s rs).v r ∧ WkM n0 s.m F ρ m'
def startA (args : List PV) (m : Mem) : AS := ⟨fun t => args.getD t .und, m⟩
section
variable {P : Program}
theorem ares1_ok {C : Cx} {s : AS} {a : Act} {w : World} {β κ : Id → Nat} {A : Id → Nat → Prop} {S : Nat → Prop} (hf : FR C.w0 C.S0 C.m0 C.β0 C.κ0 C.A0 C.nt s a w β κ A S) {r : ResultVar} (h : (ares1 P s r).ok) :
    ∃ v, ((match r with | .tmp t => pure (a.tmps.getD t undef) | .cell x t => do loadVar t (← asAddr (a.tmps.getD x undef)) : Sem Value)).run P w = .ok v w ∧ OV β κ (dN s.m.nx) w S v (ares1 P s r).v := by
  cases r with
  | tmp t => exact ⟨_, rfl, hf.tv t⟩
  | cell x t =>
    simp only [ares1] at h ⊢
    have hv := hf.tv x
    split at h
    · rename_i o j hx
      rw [hx] at hv
      obtain ⟨e1, h1⟩ := hv.bp_inv
      split at h
      · rename_i cs hb
        obtain ⟨v, hr, ho⟩ := ok_ld (P := P) (box_cells hf.mr hb j) h
        exact ⟨v, by simp [e1, asAddr, hr], ho⟩
      · exact h.elim
    · exact h.elim
theorem run_mapM {f : ResultVar → Sem Value} {w : World} : ∀ (rs : List ResultVar), (∀ r ∈ rs, ∃ v, (f r).run P w = .ok v w) → ∃ vs : List Value, (rs.mapM f).run P w = .ok vs w ∧ vs.length = rs.length ∧ ∀ (j : Nat) (r : ResultVar), rs[j]? = some r → ∃ v, vs[j]? = some v ∧ (f r).run P w = .ok v w
  | [], _ => ⟨[], by simp, rfl, fun j r h => by simp at h⟩
  | r :: rs, h => by
    obtain ⟨v, hv⟩ := h r (by simp)
    obtain ⟨vs, h1, h2, h3⟩ := run_mapM rs (fun r hr => h r (by simp [hr]))
    refine ⟨v :: vs, by simp [List.mapM_cons, hv, h1], by simp [h2], fun j q hq => ?_⟩
    cases j with
    | zero => simp only [List.getElem?_cons_zero, Option.some.injEq] at hq; subst hq; exact ⟨v, rfl, hv⟩
    | succ j => exact h3 j q hq
theorem ares_ok {C : Cx} {s : AS} {a : Act} {w : World} {β κ : Id → Nat} {A : Id → Nat → Prop} {S : Nat → Prop} (hf : FR C.w0 C.S0 C.m0 C.β0 C.κ0 C.A0 C.nt s a w β κ A S) {fn : Func} {rs : List ResultVar} (hr : fn.results = rs.toArray) (h : (ares P s rs).ok) :
    ∃ v, (results fn a.tmps).run P w = .ok v w ∧ OV β κ (dN s.m.nx) w S v (ares P s rs).v := by
  have all_ : ∀ r ∈ rs, (ares1 P s r).ok := by
    match rs, h with
    | [r], h => exact fun q hq => by simp only [List.mem_singleton] at hq; subst hq; exact h
    | [], h => exact h
    | _ :: _ :: _, h => exact h
  obtain ⟨vs, h1, h2, h3⟩ := run_mapM (P := P) (w := w) (f := fun r => match r with | .tmp t => pure (a.tmps.getD t undef) | .cell x t => do loadVar t (← asAddr (a.tmps.getD x undef))) rs (fun r hr => by
    obtain ⟨v, hv, _⟩ := ares1_ok hf (all_ r hr); exact ⟨v, hv⟩)
  have at_ : ∀ (j : Nat) (r : ResultVar), rs[j]? = some r → ∃ v, vs[j]? = some v ∧ OV β κ (dN s.m.nx) w S v (ares1 P s r).v := fun j r hj => by
    obtain ⟨v, a1, a2⟩ := h3 j r hj
    obtain ⟨v', b1, b2⟩ := ares1_ok hf (all_ r (List.mem_of_getElem? hj))
    rw [a2] at b1
    cases b1
    exact ⟨v, a1, b2⟩
  have hrun : (results fn a.tmps).run P w = .ok (if h : vs.length = 1 then vs[0] else .tuple vs.toArray) w := by
    have e : (fn.results.mapM (fun r => match r with | .tmp t => pure (a.tmps.getD t undef) | .cell x t => do loadVar t (← asAddr (a.tmps.getD x undef)) : ResultVar → Sem Value)).run P w = .ok vs.toArray w := by
      rw [hr, Array.mapM_eq_mapM_toList]
      have h1' := h1
      simp only [Array.getD_eq_getD_getElem?] at h1'
      simp [h1']
    unfold results
    rw [Sem.run_bind]
    erw [e]
    simp only [Result.andThen_ok, List.size_toArray]
    split <;> rfl
  match rs, h, h2, at_ with
  | [r], h, h2, at_ =>
    obtain ⟨v, a1, a2⟩ := at_ 0 r rfl
    refine ⟨_, hrun, ?_⟩
    have h2' : vs.length = 1 := h2
    rw [dif_pos h2']
    have : vs[0]? = some vs[0] := List.getElem?_eq_getElem (by simp [h2])
    rw [this] at a1; cases a1
    exact a2
  | [], h, h2, at_ =>
    refine ⟨_, hrun, ?_⟩
    rw [dif_neg (by rw [h2]; simp)]
    exact .tu _ _ (by simp [h2]) (fun j p hp => by simp [ares] at hp)
  | r :: r' :: rs, h, h2, at_ =>
    refine ⟨_, hrun, ?_⟩
    rw [dif_neg (by rw [h2]; simp)]
    refine .tu _ _ (by simp [h2]) (fun j p hp => ?_)
    rw [List.getElem?_map] at hp
    obtain ⟨q, hq, rfl⟩ := Option.map_eq_some_iff.1 hp
    obtain ⟨v, a1, a2⟩ := at_ j q hq
    have : vs.toArray.getD j undef = v := by simp [Array.getD_eq_getD_getElem?, a1]
    rw [this]; exact a2
/-- THE CONTRACT OUT OF THE BODY. -/
theorem AC.of_body {f : FuncId} {fn : Func} {c : Code} {args : List PV} {m m' : Mem} {r : PV} {rs : List ResultVar} (hf : P.funcs[f]? = some fn) (hb : fn.body = some c) (hn : (fn.name == "runtime.NumGoroutine") = false) (hl : args.length ≤ fn.ntmps) (hr : fn.results = rs.toArray)
    (h : ∀ C : Cx, C.nt = fn.ntmps → C.m0 = m → AW C P c (RetQ P rs m.nx r m') (startA args m)) : AC P f args m r m' := by
  refine ⟨⟨fn, hf, by rw [hb]; rfl, hn⟩, fun w vs S β κ A hm hvs hv => calls_of_wp hf hb ?_⟩
  have hlt : vs.size ≤ fn.ntmps := by rw [hvs]; exact hl
  refine wp_mono (h ⟨w, S, m, β, κ, A, fn.ntmps⟩ rfl rfl _ w ⟨β, κ, A, S, rfl, by simp; omega, fun t => ?_, hm, Ext.refl _ _ _ _ _ _⟩) (fun e a' w' hq => ?_)
  · show OV _ _ _ _ _ ((vs ++ Array.replicate (fn.ntmps - vs.size) undef).getD t undef) (args.getD t .und)
    by_cases ht : t < vs.size
    · have e1 : (vs ++ Array.replicate (fn.ntmps - vs.size) undef).getD t undef = vs.getD t undef := by
        simp only [Array.getD_eq_getD_getElem?, Array.getElem?_append_left ht]
      have ha : args[t]? = some (args.getD t .und) := by
        have : t < args.length := by omega
        simp [List.getD, this]
      rw [e1]; exact hv t _ ha
    · have : args.getD t .und = .und := by
        have : ¬ t < args.length := by omega
        simp [List.getD, this]
      rw [this]; exact .rv _ _ (.und _)
  · obtain ⟨s, ⟨β', κ', A', S', hfr⟩, he, hok, F, ρ, hk, hkm⟩ := hq
    obtain ⟨v, h1, h2⟩ := ares_ok hfr hr hok
    have done : a'.defers = [] ∧ ∃ v, (results fn a'.tmps).run P w' = .ok v w' ∧ ∃ v_1 S' β' κ' A', Ending.returned v = .returned v_1 ∧ OV β' κ' (dN m'.nx) w' S' v_1 r ∧ MR w' S' m' β' κ' A' ∧ Ext w S m β κ A w' S' m' β' κ' A' :=
      ⟨hfr.df, v, h1, v, _, _, _, _, rfl, hk.ok hfr.mr h2, hkm.ok hfr.mr, WkM.ext (C := ⟨w, S, m, β, κ, A, fn.ntmps⟩) hkm hfr.mr hfr.ex⟩
    rcases he with rfl | rfl
    · exact done
    · exact done
end
end Go.Proofs.YtofaiiobggnibaaW.AW
namespace Go.Proofs.YtofaiiobggnibaaW.AW
open Go Go.RowKit
set_option linter.unusedVariables false
set_option linter.unusedSimpArgs false

/-- No memory of one's own, the next object is number n. -/
def E (n : Nat) : Mem := ⟨fun _ => none, n⟩
/-- It leads into no closed memory. -/
inductive NR : PV → Prop
  | und : NR .und
  | bool (b) : NR (.bool b)
  | int (k n) : NR (.int k n)
  | str (s) : NR (.str s)
  | nils : NR .nils
  | cl0 (sz g) : NR (.cl sz 0 g)
  | sl (o sz n off len) : NR (.sl o sz n off len)
  | ow (sz n g) (h : ∀ i, i < n → ∀ p ∈ g i, NR p) : NR (.ow sz n g)
  | bp (o j) : NR (.bp o j)
  | pt (o sz n i j) : NR (.pt o sz n i j)
  | mp (o) : NR (.mp o)
  | ag (ps) (h : ∀ p ∈ ps, NR p) : NR (.ag ps)
  | tu (ps) (h : ∀ p ∈ ps, NR p) : NR (.tu ps)
  | fn (f ps) (h : ∀ p ∈ ps, NR p) : NR (.fn f ps)
def NRO : Ob → Prop
  | .no => True
  | .box ps => ∀ p ∈ ps, NR p
  | .row _ n g => ∀ i, i < n → ∀ p ∈ g i, NR p
  | .map f => ∀ k p, f k = some p → NR p
  | .it _ => False
/-- Objects of a call, as the caller numbers them: from n on. -/
def shI (n : Nat) : Id → Id
  | [] => []
  | k :: q => (n + k) :: q
def dnI (n : Nat) : Id → Id
  | [] => []
  | k :: q => (k - n) :: q
section
variable {P : Program} {β κ : Id → Nat} {w : World} {S : Nat → Prop}
theorem OV.nr {nx : Nat} {S' : Nat → Prop} {v : Value} {p : PV} (h : OV β κ (dN nx) w S v p) (hn : NR p) : OV β κ (dN nx) w S' v p := by
  induction hn generalizing v with
  | und => exact .rv _ _ (.und _)
  | bool b => rw [h.bool_inv]; exact .bool_mk
  | int k n => obtain ⟨rfl, h2⟩ := h.int_inv; exact .int_mk h2
  | str s => obtain ⟨rfl, h2⟩ := h.str_inv; exact .str_mk h2
  | nils => rw [h.nils_inv]; exact .rv _ _ .nils
  | cl0 sz g => obtain ⟨A, c, rfl, _⟩ := h.cl_inv; exact .rv _ _ (.cl0 _ _ _ _)
  | sl o sz n off len => obtain ⟨A, c, rfl, a, b, c', d, e, f⟩ := h.sl_inv; exact .sl _ _ _ _ _ _ _ a b c' d e f
  | ow => cases h with | rv _ _ h => cases h
  | bp o j => rw [h.bp_inv.1]; exact .bp _ _ h.bp_inv.2
  | pt o sz n i j => rw [h.pt_inv.1]; exact .pt _ _ _ _ _ h.pt_inv.2.1 h.pt_inv.2.2
  | mp o => rw [h.mp_inv.1]; exact .mp _ h.mp_inv.2
  | ag ps hp ih =>
    obtain ⟨vs, rfl, h2, h3⟩ := h.ag_inv
    exact .ag vs ps h2 (fun j p hj => (h3 j p hj).1) (fun j p hj => ih p (List.mem_of_getElem? hj) (h3 j p hj).2)
  | tu ps hp ih =>
    obtain ⟨vs, rfl, h2, h3⟩ := h.tu_inv
    exact .tu vs ps h2 (fun j p hj => ih p (List.mem_of_getElem? hj) (h3 j p hj))
  | fn f ps hp ih =>
    obtain ⟨vs, rfl, h2, h3⟩ := h.fn_inv
    exact .fn f vs ps h2 (fun j p hj => ih p (List.mem_of_getElem? hj) (h3 j p hj))
theorem RV.nr {S' : Nat → Prop} {v : Value} {p : PV} (h : RV w S v p) (hn : NR p) : RV w S' v p := by
  induction hn generalizing v with
  | und => exact .und _
  | bool b => cases h; exact .bool _
  | int k n => cases h; rename_i h; exact .int _ _ h
  | str s => cases h; rename_i h; exact .str _ h
  | nils => cases h; exact .nils
  | cl0 sz g => cases h <;> exact .cl0 _ _ _ _
  | sl => cases h
  | ow => cases h
  | bp => cases h
  | pt => cases h
  | mp => cases h
  | ag ps hp ih => cases h with | ag vs _ hl h1 hv => exact .ag vs ps hl h1 (fun j p hj => ih p (List.mem_of_getElem? hj) (hv j p hj))
  | tu ps hp ih => cases h with | tu vs _ hl hv => exact .tu vs ps hl (fun j p hj => ih p (List.mem_of_getElem? hj) (hv j p hj))
  | fn => cases h
theorem CV.nr {S' : Nat → Prop} {G : Nat → Prop} {v : Value} {p : PV} (h : CV w S G v p) (hn : NR p) : CV w S' G v p := by
  induction h with
  | rv F v p h h0 => exact .rv F v p (h.nr hn) h0
  | no F A sz g h0 => exact .no F A sz g h0
  | ow A b n c sz g cur e fz F hz hp hn' hm h0 hh hs hl hF h1 hv ih =>
    cases hn with
    | ow _ _ _ hq => exact .ow A b n c sz g cur e fz F hz hp hn' hm h0 hh hs hl hF h1 (fun i j p hi hp => ih i j p hi hp (hq i hi p (List.mem_of_getElem? hp)))
theorem TV.nr {nx : Nat} {S' : Nat → Prop} {G : Nat → Prop} {v : Value} {p : PV} (h : TV β κ (dN nx) w S G v p) (hn : NR p) : TV β κ (dN nx) w S' G v p := by
  rcases h with ⟨h, h0⟩ | h
  · exact .inl ⟨h.nr hn, h0⟩
  · exact .inr (h.nr hn)
theorem hb_sh {n k : Nat} {o : Id} (h : hb o k) : hb (shI n o) (n + k) := by
  cases o with
  | nil => exact h
  | cons a q => simp only [hb, shI] at h ⊢; omega
theorem E_MR {n : Nat} {A : Id → Nat → Prop} (hS : ∀ k, S k → k < w.heap.size) : MR w S (E n) β κ A :=
  ⟨fun o x h => by simp [E] at h, fun o x k h => by simp [E] at h, fun o o' x x' k h => by simp [E] at h, fun o x h => by simp [E] at h, hS⟩
theorem E_own {n k : Nat} {A : Id → Nat → Prop} : ¬ own (E n) A k := fun ⟨o, x, h, _⟩ => by simp [E] at h
end
end Go.Proofs.YtofaiiobggnibaaW.AW
namespace Go.Proofs.YtofaiiobggnibaaW.AW
open Go Go.RowKit
set_option linter.unusedVariables false
set_option linter.unusedSimpArgs false

/-- Slots by a list. -/
def ofL : List (Nat × PV) → Nat → PV
  | [], _ => .und
  | (k, v) :: r, t => if t = k then v else ofL r t
theorem ofL_n {t : Nat} : ofL [] t = .und := rfl
theorem ofL_c {k t : Nat} {v : PV} {r : List (Nat × PV)} : ofL ((k, v) :: r) t = if t = k then v else ofL r t := rfl
theorem mi64 : IntKind.i64.min = -9223372036854775808 := rfl
theorem ma64 : IntKind.i64.max = 9223372036854775807 := rfl
theorem miu8 : IntKind.u8.min = 0 := rfl
theorem mau8 : IntKind.u8.max = 255 := rfl
theorem miu64 : IntKind.u64.min = 0 := rfl
theorem mau64 : IntKind.u64.max = 18446744073709551615 := rfl
theorem mi32 : IntKind.i32.min = -2147483648 := rfl
theorem ma32 : IntKind.i32.max = 2147483647 := rfl
theorem pick_or {t y : Bool} : (bif t then true else y) = (t || y) := by cases t <;> rfl
theorem pick_and {t y : Bool} : (bif t then y else false) = (t && y) := by cases t <;> rfl
theorem w64 {n : Int} (h0 : -9223372036854775808 ≤ n := by omega) (h1 : n ≤ 9223372036854775807 := by omega) : IntKind.i64.wrap n = n := by rw [IntKind.wrap_i64]; omega
theorem ofL_of {Q : PV → PV → Prop} (hu : ∀ p, Q p .und) {f : Nat → PV} : ∀ {l : List (Nat × PV)}, (∀ kp ∈ l, Q (f kp.1) kp.2) → ∀ t, Q (f t) (ofL l t)
  | [], _, t => hu _
  | (k, v) :: r, h, t => by
    unfold ofL
    by_cases e : t = k
    · rw [if_pos e, e]; exact h (k, v) (by simp)
    · rw [if_neg e]; exact ofL_of hu (fun kp hkp => h kp (by simp [hkp])) t
section
variable {C : Cx} {P : Program} {c : Code} {Q : Exit → AS → Prop} {s : AS}
/-- Rounds, by a measure. -/
theorem AL.ind {X : Type} (st : X → AS) (μ : X → Nat) (I : X → Prop) (h : ∀ x, I x → (∀ y, I y → μ y < μ x → AL C P c Q (st y)) → vc C P c (thenA (AL C P c Q) Q) (st x)) (x : X) (hx : I x) : AL C P c Q (st x) := by
  have key : ∀ n x, μ x = n → I x → AL C P c Q (st x) := by
    intro n
    induction n using Nat.strongRecOn with
    | _ n ih =>
      intro x hn hx
      exact AL_round (vc_ok _ _ _ (h x hx (fun y hy hlt => ih (μ y) (hn ▸ hlt) y rfl hy)))
  exact key _ x rfl hx
end
/-- The frame's tests, the code's forms: for simp. -/
theorem vc_seq {C : Cx} {P : Program} {a b : Code} {Q : Exit → AS → Prop} {s : AS} : vc C P (.seq a b) Q s = vc C P a (thenA (vc C P b Q) Q) s := rfl
end Go.Proofs.YtofaiiobggnibaaW.AW
namespace Go.Proofs.YtofaiiobggnibaaW.AW
open Go Go.RowKit
set_option linter.unusedVariables false
set_option linter.unusedSimpArgs false

def PV.flat : PV → Bool
  | .und | .bool _ | .int _ _ | .str _ | .nils | .cl _ _ _ | .pc _ => true
  | _ => false
/-- Told with other names of objects. -/
inductive Rn (τ : Id → Id) : PV → PV → Prop
  | same (p : PV) (h : p.flat = true) : Rn τ p p
  | sl (o sz n off len) : Rn τ (.sl o sz n off len) (.sl (τ o) sz n off len)
  | bp (o j) : Rn τ (.bp o j) (.bp (τ o) j)
  | pt (o sz n i j) : Rn τ (.pt o sz n i j) (.pt (τ o) sz n i j)
  | mp (o) : Rn τ (.mp o) (.mp (τ o))
  | ow (sz n g) : Rn τ (.ow sz n g) (.ow sz n g)
  | ag (ps qs) (hl : qs.length = ps.length) (h : ∀ (j : Nat) (p q : PV), ps[j]? = some p → qs[j]? = some q → Rn τ p q) : Rn τ (.ag ps) (.ag qs)
  | tu (ps qs) (hl : qs.length = ps.length) (h : ∀ (j : Nat) (p q : PV), ps[j]? = some p → qs[j]? = some q → Rn τ p q) : Rn τ (.tu ps) (.tu qs)
def RnO (τ : Id → Id) : Ob → Ob → Prop
  | .box ps, .box qs => qs.length = ps.length ∧ ∀ (j : Nat) (p q : PV), ps[j]? = some p → qs[j]? = some q → Rn τ p q
  | .row sz m g, .row sz' m' g' => sz' = sz ∧ m' = m ∧ ∀ i, i < m → (g' i).length = (g i).length ∧ ∀ (j : Nat) (p q : PV), (g i)[j]? = some p → (g' i)[j]? = some q → Rn τ p q
  | .map f, .map f' => f' = f
  | .it es, .it es' => es' = es
  | _, _ => False
section
variable {P : Program} {β κ : Id → Nat} {A : Id → Nat → Prop} {w : World} {S : Nat → Prop}
theorem Rn.ok {τ : Id → Id} {D D' : Id → Prop} {B K : Id → Nat} (hβ : ∀ o, D o → B (τ o) = β o ∧ K (τ o) = κ o ∧ D' (τ o)) {p q : PV} (h : Rn τ p q) : ∀ {v : Value}, OV β κ D w S v p → OV B K D' w S v q := by
  induction h with
  | same p h =>
    intro v hv
    cases hv with
    | rv _ _ hv => exact .rv _ _ hv
    | _ => simp [PV.flat] at h
  | sl o sz m off len =>
    intro v hv
    obtain ⟨A, c, rfl, a, b, c', d, e, f⟩ := hv.sl_inv
    obtain ⟨h1, h2, h3⟩ := hβ o a
    exact .sl _ _ _ _ _ _ _ h3 b c' (by rw [h2]; exact d) (by rw [h2]; exact e) (by rw [h1]; exact f)
  | bp o j =>
    intro v hv
    obtain ⟨rfl, a⟩ := hv.bp_inv
    rw [← (hβ o a).1]; exact .bp _ _ (hβ o a).2.2
  | pt o sz m i j =>
    intro v hv
    obtain ⟨rfl, a, b⟩ := hv.pt_inv
    rw [← (hβ o a).1]; exact .pt _ _ _ _ _ (hβ o a).2.2 b
  | mp o =>
    intro v hv
    obtain ⟨rfl, a⟩ := hv.mp_inv
    rw [← (hβ o a).1]; exact .mp _ (hβ o a).2.2
  | ow sz n g => intro v hv; cases hv with | rv _ _ h => cases h
  | ag ps qs hl h ih =>
    intro v hv
    obtain ⟨vs, rfl, h2, h3⟩ := hv.ag_inv
    refine .ag vs qs (h2.trans hl.symm) (fun j q hq => ?_) (fun j q hq => ?_)
    · obtain ⟨p, hp⟩ := getq hl hq; exact (h3 j p hp).1
    · obtain ⟨p, hp⟩ := getq hl hq; exact ih j p q hp hq (h3 j p hp).2
  | tu ps qs hl h ih =>
    intro v hv
    obtain ⟨vs, rfl, h2, h3⟩ := hv.tu_inv
    refine .tu vs qs (h2.trans hl.symm) (fun j q hq => ?_)
    obtain ⟨p, hp⟩ := getq hl hq; exact ih j p q hp hq (h3 j p hp)
theorem Rn.okT {τ : Id → Id} {D D' : Id → Prop} {B K : Id → Nat} (hβ : ∀ o, D o → B (τ o) = β o ∧ K (τ o) = κ o ∧ D' (τ o)) {p q : PV} (h : Rn τ p q) {v : Value} {G : Nat → Prop} (hv : TV β κ D w S G v p) : TV B K D' w S G v q := by
  rcases hv with ⟨hv, h0⟩ | hv
  · exact .inl ⟨h.ok hβ hv, h0⟩
  · cases hv with
    | rv _ _ _ hr h0 => exact .inl ⟨h.ok hβ (.rv _ _ hr), h0⟩
    | no _ Ad sz g h0 => cases h with
      | same _ h => cases h
      | ow => exact .inr (.no _ _ _ _ h0)
    | ow G b n c sz g cur e fz F a1 a2 a3 a4 a5 a6 a7 a8 a9 a10 a11 => cases h with
      | same _ h => cases h
      | ow => exact .inr (.ow G b n c sz g cur e fz F a1 a2 a3 a4 a5 a6 a7 a8 a9 a10 a11)
/-- THE CALL. σ: the callee's names of the objects that it is handed; τ: of all that it hands back (σ's among them); F: objects that it is lent to read. -/
theorem AC.gen {f : FuncId} {args args1 : List PV} {r1 r : PV} {m m' m1 m1' : Mem} (F : Id → Prop) (σ τ dn : Id → Id) (h : AC P f args1 m1 r1 m1') (hl : args1.length = args.length) (ha : ∀ (i : Nat) (p q : PV), args[i]? = some p → args1[i]? = some q → Wk m F σ m1.nx p q)
    (hM : WkM 0 m F σ m1) (hσD : ∀ D : Id → Prop, TC D → (∀ o x, m.o o = some x → D o) → ∀ o, hb o m1.nx → D (σ o)) (hστ : ∀ o, hb o m1.nx → τ o = σ o) (hτ : ∀ o, hb o m1'.nx → ¬ hb o m1.nx → hb (τ o) m'.nx ∧ ¬ hb (τ o) m.nx ∧ dn (τ o) = o) (hle : m.nx ≤ m'.nx)
    (hr : Rn τ r1 r) (hgood : (∀ o, ¬ F o) ∨ (NR r1 ∧ ∀ o y, m1'.o o = some y → NRO y))
    (hm' : ∀ o y, m'.o o = some y → (m.o o = some y ∧ ∀ o1 x1, m1.o o1 = some x1 → σ o1 ≠ o) ∨ ∃ o1 y1, o = τ o1 ∧ m1'.o o1 = some y1 ∧ RnO τ y1 y ∧ (hb o1 m1.nx → ∃ x1, m1.o o1 = some x1)) : ACD P f args m r m' := by
  refine ⟨h.1, fun D tc fr w vs S β κ A hm hvs hv => ?_⟩
  have hσ : ∀ o, hb o m1.nx → D (σ o) ∧ τ o = σ o := fun o ho => ⟨hσD D tc hm.nx o ho, hστ o ho⟩
  replace hτ : ∀ o, hb o m1'.nx → ¬ hb o m1.nx → (hb (τ o) m'.nx ∧ ¬ hb (τ o) m.nx) ∧ ¬ D (τ o) ∧ dn (τ o) = o := fun o h1 h2 => ⟨⟨(hτ o h1 h2).1, (hτ o h1 h2).2.1⟩, fr _ (hτ o h1 h2).1 (hτ o h1 h2).2.1, (hτ o h1 h2).2.2⟩
  let D' : Id → Prop := fun o => D o ∨ (hb o m'.nx ∧ ¬ hb o m.nx)
  have hm1 : MR w (Sf S m A F) m1 (fun o => β (σ o)) (fun o => κ (σ o)) (fun o => A (σ o)) := hM.ok hm
  refine (h.2 w vs _ _ _ _ hm1 (hvs.trans hl.symm) (fun i q hq => ?_)).mono ?_
  · obtain ⟨p, hp⟩ := getq hl hq
    exact (ha i p q hp hq).ok hm (hv i p hp)
  · rintro e w' ⟨v, S', β', κ', A', rfl, g1, g2, g3⟩
    -- the caller's names
    let B : Id → Nat := fun o => open Classical in if D o then β o else β' (dn o)
    let K : Id → Nat := fun o => open Classical in if D o then κ o else κ' (dn o)
    have hB : ∀ o, D o → B o = β o ∧ K o = κ o := fun o ho => ⟨if_pos ho, if_pos ho⟩
    have hBτ : ∀ o, hb o m1'.nx → B (τ o) = β' o ∧ K (τ o) = κ' o ∧ D' (τ o) := fun o ho => by
      by_cases h1 : hb o m1.nx
      · obtain ⟨h2, h3⟩ := hσ o h1
        obtain ⟨h4, h5⟩ := g3.be o h1
        obtain ⟨h6, h7⟩ := hB (σ o) h2
        exact ⟨by rw [h3, h6, h4], by rw [h3, h7, h5], by rw [h3]; exact .inl h2⟩
      · obtain ⟨h2, h3, h4⟩ := hτ o ho h1
        exact ⟨by simp only [B, if_neg h3, h4], by simp only [K, if_neg h3, h4], .inr h2⟩
    -- objects of the callee's that the caller has then
    let T : Id → Prop := fun o1 => (∃ y1, m1'.o o1 = some y1) ∧ (hb o1 m1.nx → ∃ x1, m1.o o1 = some x1)
    have τinj : ∀ o1 o2, T o1 → T o2 → τ o1 = τ o2 → o1 = o2 := fun o1 o2 ⟨⟨y1, t1⟩, t2⟩ ⟨⟨y2, u1⟩, u2⟩ e => by
      have b1 := g2.nx o1 y1 t1
      have b2 := g2.nx o2 y2 u1
      by_cases h1 : hb o1 m1.nx <;> by_cases h2 : hb o2 m1.nx
      · obtain ⟨x1, hx1⟩ := t2 h1
        obtain ⟨x2, hx2⟩ := u2 h2
        exact hM.inj o1 o2 x1 x2 hx1 hx2 (by rw [← (hσ o1 h1).2, ← (hσ o2 h2).2]; exact e)
      · exact absurd (by rw [← e, (hσ o1 h1).2]; exact (hσ o1 h1).1) (hτ o2 b2 h2).2.1
      · exact absurd (by rw [e, (hσ o2 h2).2]; exact (hσ o2 h2).1) (hτ o1 b1 h1).2.1
      · rw [← (hτ o1 b1 h1).2.2, ← (hτ o2 b2 h2).2.2, e]
    let A2 : Id → Nat → Prop := fun o k => (∃ o1, T o1 ∧ τ o1 = o ∧ A' o1 k) ∨ ((∀ o1 x1, m1.o o1 = some x1 → σ o1 ≠ o) ∧ D o ∧ A o k)
    have hAτ : ∀ o1, T o1 → A2 (τ o1) = A' o1 := fun o1 ht => by
      funext k
      refine propext ⟨fun hk => ?_, fun hk => .inl ⟨o1, ht, rfl, hk⟩⟩
      rcases hk with ⟨o2, ht2, e, hk⟩ | ⟨h1, h2, _⟩
      · rw [τinj o2 o1 ht2 ht e] at hk; exact hk
      · exfalso
        obtain ⟨⟨y1, t1⟩, t2⟩ := ht
        have b1 := g2.nx o1 y1 t1
        by_cases h3 : hb o1 m1.nx
        · obtain ⟨x1, hx1⟩ := t2 h3
          exact h1 o1 x1 hx1 (hσ o1 h3).2.symm
        · exact (hτ o1 b1 h3).2.1 h2
    have hAo : ∀ o, D o → (∀ o1 x1, m1.o o1 = some x1 → σ o1 ≠ o) → A2 o = A o := fun o ho hno => by
      funext k
      refine propext ⟨fun hk => ?_, fun hk => .inr ⟨hno, ho, hk⟩⟩
      rcases hk with ⟨o2, ⟨⟨y2, t1⟩, t2⟩, e, hk⟩ | ⟨_, _, hk⟩
      · exfalso
        have b2 := g2.nx o2 y2 t1
        by_cases h3 : hb o2 m1.nx
        · obtain ⟨x1, hx1⟩ := t2 h3
          exact hno o2 x1 hx1 (by rw [← (hσ o2 h3).2]; exact e)
        · exact (hτ o2 b2 h3).2.1 (e ▸ ho)
      · exact hk
    have own1 : ∀ k, own m1 (fun o => A (σ o)) k → own m A k := fun k hk => hM.own hk
    have new1 : ∀ k, own m1' A' k → w.heap.size ≤ k ∨ own m A k := fun k hk => by
      rcases g3.new k hk with h1 | h1
      · exact .inl h1
      · exact .inr (own1 k h1)
    have keep1 := g3.keep
    have hS0 : ∀ k, S k → w'.heap[k]? = w.heap[k]? := fun k hk => keep1 k (hm.lt k hk) (fun e => by
      obtain ⟨o, x, h1, h2⟩ := own1 k e; exact hm.ns o x k h1 h2 hk)
    -- what stays closed
    let S2 : Nat → Prop := fun k => S k ∨ ((∀ o, ¬ F o) ∧ S' k)
    have mv : ∀ {nx : Nat} {u : Value} {p : PV} {G : Nat → Prop}, ((∀ o, ¬ F o) ∨ NR p) → TV β' κ' (dN nx) w' S' G u p → TV β' κ' (dN nx) w' S2 G u p := fun hp hu => by
      rcases hp with hp | hp
      · exact hu.move (fun _ _ => ⟨rfl, rfl⟩) (fun _ h => h) (fun k hk => .inr ⟨hp, hk⟩) (fun _ _ => rfl) (fun _ _ => rfl)
      · exact hu.nr hp
    have mvO : ∀ {nx : Nat} {u : Value} {p : PV}, ((∀ o, ¬ F o) ∨ NR p) → OV β' κ' (dN nx) w' S' u p → OV β' κ' (dN nx) w' S2 u p := fun hp hu => by
      rcases hp with hp | hp
      · exact hu.move (fun _ _ => ⟨rfl, rfl⟩) (fun _ h => h) (fun k hk => .inr ⟨hp, hk⟩) (fun _ _ => rfl)
      · exact hu.nr hp
    -- an object of the caller's that was not handed over
    have frame : ∀ o y k, m.o o = some y → (∀ o1 x1, m1.o o1 = some x1 → σ o1 ≠ o) → A o k → ¬ own m1 (fun o => A (σ o)) k := by
      rintro o y k h1 h2 h3 ⟨o1, x1, h4, h5⟩
      obtain ⟨_, _, x, h7, h8⟩ := hM.ob o1 x1 h4
      exact h2 o1 x1 h4 (hm.dj _ _ _ _ k h7 h1 h5 h3)
    have at_ : ∀ o y, m'.o o = some y → (D o ∧ m.o o = some y ∧ (∀ o1 x1, m1.o o1 = some x1 → σ o1 ≠ o) ∧ A2 o = A o) ∨ ∃ o1 y1, o = τ o1 ∧ m1'.o o1 = some y1 ∧ RnO τ y1 y ∧ T o1 ∧ A2 o = A' o1 := fun o y h1 => by
      rcases hm' o y h1 with ⟨h5, h6⟩ | ⟨o1, y1, rfl, h5, h6, h7⟩
      · have h4 := hm.nx o y h5
        exact .inl ⟨h4, h5, h6, hAo o h4 h6⟩
      · exact .inr ⟨o1, y1, rfl, h5, h6, ⟨⟨y1, h5⟩, h7⟩, hAτ o1 ⟨⟨y1, h5⟩, h7⟩⟩
    have hv1 : OV B K D' w' S2 v r := Rn.ok hBτ hr (mvO (by rcases hgood with h1 | h1; exact .inl h1; exact .inr h1.1) g1)
    suffices hx : MRD w' S2 D' m' B K A2 ∧ ExtD w S D m β κ A w' S2 D' m' B K A2 from ⟨v, rfl, r, m', S2, D', B, K, A2, ⟨rfl, rfl⟩, hx.2, hx.1, hv1, fun _ => Iff.rfl⟩
    refine ⟨⟨fun o y ho => ?_, fun o y k ho hk hs => ?_, fun o o' y y' k h1 h2 h3 h4 => ?_, fun o y ho => ?_, fun k hk => ?_⟩, ⟨g3.os, g3.tape, g3.output, g3.size, fun _ h => .inl h, hB, fun k hk hn => keep1 k hk (fun e => hn (own1 k e)), hle, fun _ h => .inl h, fun k hk => ?_, fun k hk => ?_⟩⟩
    · rcases at_ o y ho with ⟨h4, h5, h6, h7⟩ | ⟨o1, y1, rfl, h5, h7, h8, h9⟩
      · rw [h7]
        exact (hm.ob o y h5).move hB (fun _ h => .inl h) (fun _ h => .inl h) hS0 h4 (fun k hk => keep1 k ((hm.ob o y h5).lt hk) (frame o y k h5 h6 hk))
      · rw [h9]
        have h4 := g2.nx o1 y1 h5
        have hob := g2.ob o1 y1 h5
        have hg : ∀ p, (NRO y1 → NR p) → ((∀ o, ¬ F o) ∨ NR p) := fun p hp => by
          rcases hgood with h1 | h1
          · exact .inl h1
          · exact .inr (hp (h1.2 o1 y1 h5))
        have hE : ∀ {ents clock f}, (NRO y1 → ∀ k p, f k = some p → NR p) → Ents w' S' ents clock f → Ents w' S2 ents clock f := fun {ents clock f} hp he => by
          rcases hgood with h1 | h1
          · exact he.move (fun k hk => .inr ⟨h1, hk⟩) (fun _ _ => rfl)
          · exact ⟨he.st, fun e he' => by obtain ⟨k, p, a1, a2, a3, a4⟩ := he.key e he'; exact ⟨k, p, a1, a2, a3, a4.nr (hp (h1.2 o1 y1 h5) k p a3)⟩, he.all⟩
        cases y1 <;> cases y <;> simp only [RnO] at h7
        · obtain ⟨cur, e, fz, Fo, a1, az, a2, a3, a4, a5, a6⟩ := hob
          show Blk _ _ _ _ _ _ _ _ _ _ _
          rw [(hBτ o1 h4).1, h7.1]
          refine ⟨cur, e, fz, Fo, a1, az, a2, a3, fun i hi => h7.1, a5, fun i j q hi hq => ?_⟩
          obtain ⟨p, hp⟩ := getq h7.1 hq
          exact ⟨(a6 i j p hi hp).1, Rn.okT hBτ (h7.2 j p q hp hq) (mv (hg p (fun hn => hn p (List.mem_of_getElem? hp))) (a6 i j p hi hp).2)⟩
        · obtain ⟨rfl, rfl, h8⟩ := h7
          simp only [OB, (hBτ o1 h4).1, (hBτ o1 h4).2.1] at hob ⊢
          rcases hob with hz | ⟨q1, q2, q3, cur, e, fz, Fo, a1, az, a2, a3, a4, a5, a6⟩
          · exact .inl hz
          · refine .inr ⟨q1, q2, q3, cur, e, fz, Fo, a1, az, a2, a3, fun i hi => by rw [(h8 i hi).1]; exact a4 i hi, a5, fun i j q hi hq => ?_⟩
            obtain ⟨p, hp⟩ := getq (h8 i hi).1 hq
            exact ⟨(a6 i j p hi hp).1, Rn.okT hBτ ((h8 i hi).2 j p q hp hq) (mv (hg p (fun hn => hn i hi p (List.mem_of_getElem? hp))) (a6 i j p hi hp).2)⟩
        · subst h7
          simp only [OB, (hBτ o1 h4).1] at hob ⊢
          obtain ⟨a1, ents, clock, a2, a3⟩ := hob
          exact ⟨a1, ents, clock, a2, hE (fun hn => hn) a3⟩
        · subst h7
          rename_i es
          simp only [OB, (hBτ o1 h4).1] at hob ⊢
          obtain ⟨b, ents, clock, seen, f, a1, a2, a3, a4, a5, a6⟩ := hob
          rcases hgood with h1 | h1
          · exact ⟨b, ents, clock, seen, f, a1, a2, a3, a4, a5.move (fun k hk => .inr ⟨h1, hk⟩) (fun _ _ => rfl), a6⟩
          · exact (h1.2 o1 _ h5).elim
    · rcases at_ o y ho with ⟨a1, a2, a3, a4⟩ | ⟨o1, y1, rfl, a2, a3, a4, a5⟩
      · rw [a4] at hk
        rcases hs with hs | ⟨hF, hs⟩
        · exact hm.ns o y k a2 hk hs
        · rcases g3.snew k hs with h2 | h2 | h2
          · rcases h2 with h2 | ⟨o', _, hF', _⟩
            · exact hm.ns o y k a2 hk h2
            · exact hF o' hF'
          · have := (hm.ob o y a2).lt hk; omega
          · exact frame o y k a2 a3 hk h2
      · rw [a5] at hk
        rcases hs with hs | ⟨hF, hs⟩
        · exact g2.ns o1 y1 k a2 hk (g3.sub k (.inl hs))
        · exact g2.ns o1 y1 k a2 hk hs
    · rcases at_ o y h1 with ⟨a1, a2, a3, a4⟩ | ⟨o1, y1, rfl, a2, a3, a4, a5⟩ <;> rcases at_ o' y' h2 with ⟨b1, b2, b3, b4⟩ | ⟨o1', y1', rfl, b2, b3, b4, b5⟩
      · rw [a4] at h3; rw [b4] at h4
        exact hm.dj o o' y y' k a2 b2 h3 h4
      · rw [a4] at h3; rw [b5] at h4
        have k1 := (hm.ob o y a2).lt h3
        rcases g3.new k ⟨o1', y1', b2, h4⟩ with h5 | h5
        · omega
        · exact absurd h5 (frame o y k a2 a3 h3)
      · rw [a5] at h3; rw [b4] at h4
        have k1 := (hm.ob o' y' b2).lt h4
        rcases g3.new k ⟨o1, y1, a2, h3⟩ with h5 | h5
        · omega
        · exact absurd h5 (frame o' y' k b2 b3 h4)
      · rw [a5] at h3; rw [b5] at h4
        rw [g2.dj o1 o1' y1 y1' k a2 b2 h3 h4]
    · rcases at_ o y ho with ⟨h4, _⟩ | ⟨o1, y1, rfl, h5, _⟩
      · exact .inl h4
      · exact (hBτ o1 (g2.nx o1 y1 h5)).2.2
    · rcases hk with hk | ⟨_, hk⟩
      · exact Nat.lt_of_lt_of_le (hm.lt k hk) g3.size
      · exact g2.lt k hk
    · obtain ⟨o, y, ho, hk⟩ := hk
      rcases at_ o y ho with ⟨a1, a2, a3, a4⟩ | ⟨o1, y1, rfl, a2, a3, a4, a5⟩
      · rw [a4] at hk; exact .inr ⟨o, y, a2, hk⟩
      · rw [a5] at hk; exact new1 k ⟨o1, y1, a2, hk⟩
    · rcases hk with hk | ⟨hF, hk⟩
      · exact .inl hk
      · rcases g3.snew k hk with h2 | h2 | h2
        · rcases h2 with h2 | ⟨o', _, hF', _⟩
          · exact .inl h2
          · exact absurd hF' (hF o')
        · exact .inr (.inl h2)
        · exact .inr (.inr (own1 k h2))
end
end Go.Proofs.YtofaiiobggnibaaW.AW
