/- Rows that a cell owns, taken out and put back. Plain lemmas: no statement of the program. -/
import Derived.Test.YtolejglfohagnaaWB23
namespace Go.Proofs.YtolejglfohagnaaW.AW
open Go Go.RowKit
set_option linter.unusedVariables false
set_option linter.unusedSimpArgs false

section
variable {β κ : Id → Nat} {A : Id → Nat → Prop} {w : World} {S : Nat → Prop} {m : Mem} {nx : Nat}
theorem Blk.congr {B : Nat → Prop} {b sz n c : Nat} {g g' : Nat → List PV} (h : Blk β κ (dN nx) w S B b sz n c g) (e : ∀ i, i < n → g' i = g i) : Blk β κ (dN nx) w S B b sz n c g' := by
  obtain ⟨cur, el, fz, F, h1, hz, h2, h3, h4, h5, h6⟩ := h
  exact ⟨cur, el, fz, F, h1, hz, h2, h3, fun i hi => by rw [e i hi]; exact h4 i hi, h5, fun i j p hi hp => h6 i j p hi (by rw [← e i hi]; exact hp)⟩
theorem Blk.own {B : Nat → Prop} {b sz n c : Nat} {g : Nat → List PV} (h : Blk β κ (dN nx) w S B b sz n c g) : B b := by
  obtain ⟨_, _, _, _, _, _, _, _, _, h5, _⟩ := h; exact (h5.eq b).2 (.inl rfl)
/-- One cell of a block, told anew. -/
theorem Blk.cell {B : Nat → Prop} {b sz n c : Nat} {g : Nat → List PV} (h : Blk β κ (dN nx) w S B b sz n c g) {i j : Nat} {p : PV} (hi : i < n) (hp : (g i)[j]? = some p) :
    ∃ v G, v.oneCell' = true ∧ TV β κ (dN nx) w S G v p ∧ (∀ k, G k → B k) ∧ ¬ G b ∧ ∀ (β' κ' : Id → Nat) (nx' : Nat) (q : PV) (G' : Nat → Prop), (∀ o, hb o nx → β' o = β o ∧ κ' o = κ o) → nx ≤ nx' → TV β' κ' (dN nx') w S G' v q → ¬ G' b → (∀ k, G' k → B k → G k) →
      Blk β' κ' (dN nx') w S (fun k => (B k ∧ ¬ G k) ∨ G' k) b sz n c (upd g i ((g i).set j q)) := by
  obtain ⟨cur, el, fz, F, h1, hz, h2, h3, h4, h5, h6⟩ := h
  have hj : j < (g i).length := (List.getElem?_eq_some_iff.1 hp).1
  refine ⟨_, F i j, (h6 i j p hi hp).1, (h6 i j p hi hp).2, fun k hk => (h5.eq k).2 (.inr ⟨i, j, hk⟩), h5.nb i j, fun β' κ' nx' q G' hβ hn hq hb' hd => ?_⟩
  refine ⟨cur, el, fz, fun i' j' k => if i' = i ∧ j' = j then G' k else F i' j' k, h1, hz, h2, h3, fun i' hi' => ?_, ⟨fun i' j' => ?_, fun i1 j1 i2 j2 k a1 a2 => ?_, fun i' j' k hk => ?_, fun k => ?_⟩, fun i' j' p' hi' hp' => ?_⟩
  · unfold upd; split
    · rename_i e; rw [List.length_set]; exact h4 i hi
    · exact h4 i' hi'
  · by_cases e : i' = i ∧ j' = j
    · simp only [if_pos e]; exact hb'
    · simp only [if_neg e]; exact h5.nb i' j'
  · by_cases e1 : i1 = i ∧ j1 = j <;> by_cases e2 : i2 = i ∧ j2 = j
    · exact ⟨e1.1.trans e2.1.symm, e1.2.trans e2.2.symm⟩
    · simp only [if_pos e1, if_neg e2] at a1 a2
      have := hd k a1 ((h5.eq k).2 (.inr ⟨i2, j2, a2⟩))
      exact absurd (h5.dj _ _ _ _ k a2 this) e2
    · simp only [if_neg e1, if_pos e2] at a1 a2
      have := hd k a2 ((h5.eq k).2 (.inr ⟨i1, j1, a1⟩))
      exact absurd (h5.dj _ _ _ _ k a1 this) e1
    · simp only [if_neg e1, if_neg e2] at a1 a2
      exact h5.dj _ _ _ _ k a1 a2
  · by_cases e : i' = i ∧ j' = j
    · obtain ⟨rfl, rfl⟩ := e; exact ⟨hi, by rw [← h4 i' hi]; exact hj⟩
    · simp only [if_neg e] at hk; exact h5.dm i' j' k hk
  · constructor
    · rintro (⟨hk, hg⟩ | hk)
      · rcases (h5.eq k).1 hk with rfl | ⟨i', j', hk⟩
        · exact .inl rfl
        · refine .inr ⟨i', j', ?_⟩
          rw [if_neg (fun e => hg (by obtain ⟨rfl, rfl⟩ := e; exact hk))]; exact hk
      · exact .inr ⟨i, j, by rw [if_pos ⟨rfl, rfl⟩]; exact hk⟩
    · rintro (rfl | ⟨i', j', hk⟩)
      · exact .inl ⟨(h5.eq _).2 (.inl rfl), h5.nb i j⟩
      · by_cases e : i' = i ∧ j' = j
        · rw [if_pos e] at hk; exact .inr hk
        · rw [if_neg e] at hk
          exact .inl ⟨(h5.eq k).2 (.inr ⟨i', j', hk⟩), fun hg => e (h5.dj _ _ _ _ k hk hg)⟩
  · have mvd : ∀ p'', i' < n → (g i')[j']? = some p'' → ¬ (i' = i ∧ j' = j) → (cur.getD (i' * sz + j') undef).oneCell' = true ∧ TV β' κ' (dN nx') w S (fun k => if i' = i ∧ j' = j then G' k else F i' j' k) (cur.getD (i' * sz + j') undef) p'' := fun p'' a1 a2 e => by
      have e3 : (fun k => if i' = i ∧ j' = j then G' k else F i' j' k) = F i' j' := by funext k; rw [if_neg e]
      rw [e3]
      exact ⟨(h6 i' j' p'' a1 a2).1, (h6 i' j' p'' a1 a2).2.move hβ (fun _ h => hb.mono h hn) (fun _ h => h) (fun _ _ => rfl) (fun _ _ => rfl)⟩
    unfold upd at hp'
    by_cases e : i' = i
    · subst e
      rw [if_pos rfl] at hp'
      by_cases e2 : j' = j
      · subst e2
        rw [List.getElem?_set_self hj] at hp'
        cases hp'
        have e3 : (fun k => if i' = i' ∧ j' = j' then G' k else F i' j' k) = G' := by funext k; rw [if_pos ⟨rfl, rfl⟩]
        show _ ∧ TV β' κ' (dN nx') w S (fun k => if i' = i' ∧ j' = j' then G' k else F i' j' k) _ _
        rw [e3]
        exact ⟨(h6 i' j' p hi hp).1, hq⟩
      · rw [List.getElem?_set_ne (Ne.symm e2)] at hp'
        exact mvd p' hi' hp' (fun e => e2 e.2)
    · rw [if_neg e] at hp'
      exact mvd p' hi' hp' (fun e' => e e'.1)
/-- An object with cells. -/
def obG : Ob → Option (Nat × Nat × (Nat → List PV))
  | .box cs => some (cs.length, 1, fun _ => cs)
  | .row sz n g => some (sz, n, g)
  | _ => none
def setG (i j : Nat) (q : PV) : Ob → Ob
  | .box cs => .box (cs.set j q)
  | .row sz n g => .row sz n (upd g i ((g i).set j q))
  | x => x
theorem ob_blk {B : Nat → Prop} {o : Id} {x : Ob} {sz n : Nat} {g : Nat → List PV} (h : OB β κ (dN nx) w S B o x) (hx : obG x = some (sz, n, g)) {i : Nat} (hi : i < n) : ∃ c, Blk β κ (dN nx) w S B (β o) sz n c g ∧ ∀ (β' κ' : Id → Nat) (nx' : Nat) (B' : Nat → Prop) (j : Nat) (q : PV), β' o = β o ∧ κ' o = κ o → Blk β' κ' (dN nx') w S B' (β o) sz n c (upd g i ((g i).set j q)) → OB β' κ' (dN nx') w S B' o (setG i j q x) := by
  cases x with
  | box cs =>
    simp only [obG, Option.some.injEq, Prod.mk.injEq] at hx
    obtain ⟨rfl, rfl, rfl⟩ := hx
    obtain rfl : i = 0 := by omega
    refine ⟨1, h, fun β' κ' nx' B' j q e hb => ?_⟩
    show Blk _ _ _ _ _ _ _ _ _ _ _
    rw [List.length_set, e.1]
    exact hb.congr (fun i hi => by obtain rfl : i = 0 := by omega
                                   simp [upd])
  | row s' n' g' =>
    simp only [obG, Option.some.injEq, Prod.mk.injEq] at hx
    obtain ⟨rfl, rfl, rfl⟩ := hx
    rcases h with ⟨_, h0, _⟩ | ⟨h1, h2, h3, h4⟩
    · omega
    refine ⟨κ o, h4, fun β' κ' nx' B' j q e hb => .inr ?_⟩
    rw [e.1, e.2]
    exact ⟨h1, h2, h3, hb⟩
  | _ => cases hx
theorem ghost {C : Cx} {s s' : AS} (ht : s'.t = s.t) (hle : s.m.nx ≤ s'.m.nx) (h : ∀ w S β κ A, MR w S s.m β κ A → ∃ β' κ' A', (∀ o, hb o s.m.nx → β' o = β o ∧ κ' o = κ o) ∧ MR w S s'.m β' κ' A' ∧ ∀ k, AW.own s'.m A' k → AW.own s.m A k) : Told C s s' := fun a w hf => by
  obtain ⟨β, κ, A, S, hf⟩ := hf
  obtain ⟨β', κ', A', h1, h2, h3⟩ := h w S β κ A hf.mr
  have hx : Ext w S s.m β κ A w S s'.m β' κ' A' := ⟨rfl, rfl, rfl, Nat.le_refl _, fun _ h => h, h1, fun _ _ _ => rfl, hle, fun _ h => hb.mono h hle, fun k hk => .inr (h3 k hk), fun _ h => .inl h⟩
  exact ⟨β', κ', A', S, hf.df, hf.sz, fun t => by rw [ht]; exact (hf.tv t).ext hx hf.mr, h2, hf.ex.trans hx⟩
theorem nl_cv {G : Nat → Prop} {v : Value} {p : PV} (h : TV β κ (dN nx) w S G v p) (hp : p.nl = true) : CV w S G v p := by
  rcases h with ⟨h, h0⟩ | h
  · cases h with
    | rv _ _ h => exact .rv _ _ _ h h0
    | _ => cases hp
  · exact h
/-- A row that a cell owns, taken out: it is object [nx] then. -/
theorem Told_open {C : Cx} {s : AS} (o : Id) (i j : Nat) {x : Ob} {sz0 n0 sz n : Nat} {g0 g : Nat → List PV} (h : s.m.o o = some x) (hx : obG x = some (sz0, n0, g0)) (hi : i < n0) (hc : (g0 i)[j]? = some (.ow sz n g)) :
    Told C s ⟨s.t, (s.m.set o (setG i j (.sl [s.m.nx] sz n 0 n) x)).grow none (.row sz n g)⟩ := by
  refine ghost rfl (Nat.le_succ _) (fun w S β κ A hm => ?_)
  have hon := hm.nx o x h
  have hne := hb_ne hon
  obtain ⟨c0, hb0, hset⟩ := ob_blk (hm.ob o x h) hx hi
  obtain ⟨v, G, _, hv, hGB, hGb, hcell⟩ := hb0.cell hi hc
  have at_ : ∀ o' y, ((s.m.set o (setG i j (.sl [s.m.nx] sz n 0 n) x)).grow none (.row sz n g)).o o' = some y → (o' = [s.m.nx] ∧ y = .row sz n g) ∨ (o' = o ∧ y = setG i j (.sl [s.m.nx] sz n 0 n) x) ∨ (o' ≠ [s.m.nx] ∧ o' ≠ o ∧ s.m.o o' = some y) := fun o' y hy => by
    simp only [Mem.grow, Mem.set, Mem.gone, upd] at hy
    by_cases e1 : o' = [s.m.nx]
    · rw [if_pos e1] at hy; cases hy; exact .inl ⟨e1, rfl⟩
    · rw [if_neg e1] at hy
      by_cases e2 : o' = o
      · rw [if_pos e2] at hy; cases hy; exact .inr (.inl ⟨e2, rfl⟩)
      · rw [if_neg e2] at hy; exact .inr (.inr ⟨e1, e2, hy⟩)
  -- the row's own block
  obtain ⟨b, c, hbc⟩ : ∃ b c, OV (upd β [s.m.nx] b) (upd κ [s.m.nx] c) (dN (s.m.nx + 1)) w S v (.sl [s.m.nx] sz n 0 n) ∧ OB (upd β [s.m.nx] b) (upd κ [s.m.nx] c) (dN (s.m.nx + 1)) w S G [s.m.nx] (.row sz n g) := by
    rcases hv.ow.ow_inv with ⟨Ad, rfl, rfl, h0⟩ | ⟨b, c, rfl, hp, hn, hmx, h0, cur, e, fz, Fo, hh, hz, hs, hlg, hF, hcl⟩
    · refine ⟨0, 0, .sl _ _ _ _ _ _ _ (by simp [AW.hb]) (Nat.le_refl _) (Nat.le_refl _) (by simp [upd]) (by simp [upd]) (fun h => absurd h (by omega)), .inl ⟨by simp [upd], rfl, h0⟩⟩
    · refine ⟨b, c, .sl _ _ _ _ _ _ _ (by simp [AW.hb]) hn (by omega) (by simp [upd]) (by simp [upd]; exact hmx) (fun _ => by simp [upd]), .inr ⟨by simp [upd]; exact hp, by simp [upd]; exact hmx, h0, ?_⟩⟩
      have e1 : upd β [s.m.nx] b [s.m.nx] = b := by simp [upd]
      have e2 : upd κ [s.m.nx] c [s.m.nx] = c := by simp [upd]
      rw [e1, e2]
      exact ⟨cur, e, fz, Fo, hh, hz, hs, hn, hlg, hF, fun i j p hi hp => ⟨(hcl i j p hi hp).1, .inr (hcl i j p hi hp).2⟩⟩
  have hβ : ∀ o', hb o' s.m.nx → upd β [s.m.nx] b o' = β o' ∧ upd κ [s.m.nx] c o' = κ o' := fun o' ho' => by simp [upd, hb_ne ho']
  let A' : Id → Nat → Prop := fun o' k => if o' = [s.m.nx] then G k else if o' = o then (A o k ∧ ¬ G k) else A o' k
  have a1 : A' [s.m.nx] = G := by funext k; simp [A']
  have a2 : A' o = fun k => A o k ∧ ¬ G k := by funext k; simp [A', hne]
  have a3 : ∀ o', o' ≠ [s.m.nx] → o' ≠ o → A' o' = A o' := fun o' e1 e2 => by funext k; simp [A', e1, e2]
  have sub : ∀ o' y k, ((s.m.set o (setG i j (.sl [s.m.nx] sz n 0 n) x)).grow none (.row sz n g)).o o' = some y → A' o' k → ∃ o2 y2, s.m.o o2 = some y2 ∧ A o2 k ∧ (o' = [s.m.nx] → o2 = o ∧ G k) ∧ (o' ≠ [s.m.nx] → o2 = o' ∧ (o' = o → ¬ G k)) := fun o' y k hy hk => by
    rcases at_ o' y hy with ⟨rfl, _⟩ | ⟨rfl, _⟩ | ⟨e1, e2, hy⟩
    · rw [a1] at hk; exact ⟨o, x, h, hGB k hk, fun _ => ⟨rfl, hk⟩, fun e => absurd rfl e⟩
    · rw [a2] at hk; exact ⟨_, x, h, hk.1, fun e => absurd e hne, fun _ => ⟨rfl, fun _ => hk.2⟩⟩
    · rw [a3 o' e1 e2] at hk; exact ⟨o', y, hy, hk, fun e => absurd e e1, fun _ => ⟨rfl, fun e => absurd e e2⟩⟩
  refine ⟨_, _, A', hβ, ⟨fun o' y hy => ?_, fun o' y k hy hk hs => ?_, fun o1 o2 y1 y2 k h1 h2 k1 k2 => ?_, fun o' y hy => ?_, hm.lt⟩, fun k ⟨o', y, hy, hk⟩ => ?_⟩
  · rcases at_ o' y hy with ⟨rfl, rfl⟩ | ⟨rfl, rfl⟩ | ⟨e1, e2, hy⟩
    · rw [a1]; exact hbc.2
    · rw [a2]
      have := hset (upd β [s.m.nx] b) (upd κ [s.m.nx] c) (s.m.nx + 1) (fun k => A o' k ∧ ¬ G k) j (.sl [s.m.nx] sz n 0 n) (hβ _ hon) (by
        have := hcell (upd β [s.m.nx] b) (upd κ [s.m.nx] c) (s.m.nx + 1) (.sl [s.m.nx] sz n 0 n) (fun _ => False) hβ (Nat.le_succ _) (.inl ⟨hbc.1, fun _ h => h⟩) (fun h => h) (fun _ h => h.elim)
        simpa using this)
      exact this
    · rw [a3 o' e1 e2]
      exact (hm.ob o' y hy).move hβ (fun _ h => hb.mono h (Nat.le_succ _)) (fun _ h => h) (fun _ _ => rfl) (hm.nx o' y hy) (fun _ _ => rfl)
  · obtain ⟨o2, y2, h1, h2, _⟩ := sub o' y k hy hk
    exact hm.ns o2 y2 k h1 h2 hs
  · obtain ⟨p1, z1, b1, c1, d1, e1⟩ := sub o1 y1 k h1 k1
    obtain ⟨p2, z2, b2, c2, d2, e2⟩ := sub o2 y2 k h2 k2
    have hp := hm.dj p1 p2 z1 z2 k b1 b2 c1 c2
    by_cases q1 : o1 = [s.m.nx] <;> by_cases q2 : o2 = [s.m.nx]
    · rw [q1, q2]
    · obtain ⟨f1, f2⟩ := d1 q1
      obtain ⟨f3, f4⟩ := e2 q2
      exact absurd f2 (f4 (by rw [← f3, ← hp, f1]))
    · obtain ⟨f1, f2⟩ := d2 q2
      obtain ⟨f3, f4⟩ := e1 q1
      exact absurd f2 (f4 (by rw [← f3, hp, f1]))
    · rw [← (e1 q1).1, ← (e2 q2).1, hp]
  · rcases at_ o' y hy with ⟨rfl, _⟩ | ⟨rfl, _⟩ | ⟨_, _, hy⟩
    · simp [hb, Mem.grow, Mem.set]
    · exact hon.mono (Nat.le_succ _)
    · exact (hm.nx o' y hy).mono (Nat.le_succ _)
  · obtain ⟨o2, y2, h1, h2, _⟩ := sub o' y k hy hk
    exact ⟨o2, y2, h1, h2⟩
def Mem.drop (m : Mem) (q : Id) : Mem := ⟨upd m.o q none, m.nx⟩
/-- An object's row is owned by a cell from now on. -/
theorem Told_fold {C : Cx} {s : AS} (o : Id) (i j : Nat) (q : Id) {x : Ob} {sz0 n0 sz n len : Nat} {g0 g : Nat → List PV} (h : s.m.o o = some x) (hx : obG x = some (sz0, n0, g0)) (hi : i < n0) (hc : (g0 i)[j]? = some (.sl q sz n 0 len)) (hq : s.m.o q = some (.row sz n g)) (hn : len ≤ n) (hg : ∀ i, i < len → Nl (g i)) (hne : q ≠ o) :
    Told C s ⟨s.t, (s.m.set o (setG i j (.ow sz len g) x)).drop q⟩ := by
  refine ghost rfl (Nat.le_refl _) (fun w S β κ A hm => ?_)
  have hon := hm.nx o x h
  obtain ⟨c0, hb0, hset⟩ := ob_blk (hm.ob o x h) hx hi
  obtain ⟨v, G, _, hv, hGB, hGb, hcell⟩ := hb0.cell hi hc
  have hov := hv.ov rfl
  have hG0 : ∀ k, ¬ G k := by
    rcases hv with ⟨_, h0⟩ | hv
    · exact h0
    · cases hv with | rv _ _ _ _ h0 => exact h0
  -- what the cell owns then
  obtain ⟨G', hG', hcv⟩ : ∃ G' : Nat → Prop, (∀ k, G' k → A q k) ∧ CV w S G' v (.ow sz len g) := by
    obtain ⟨Ad, c, rfl, _, hl, hn', hk, hmx, hA⟩ := hov.sl_inv
    rw [Nat.zero_add] at hk hn'
    subst hk
    rcases hm.ob q _ hq with ⟨h0, h1, _⟩ | ⟨q1, q2, q3, cur, e, fz, Fo, hh, hz, hs, hnc, hlg, hF, hcl⟩
    · have : len = 0 := by omega
      subst this
      rw [h0]; exact ⟨fun _ => False, fun _ h => h.elim, .no _ _ _ _ (fun _ h => h)⟩
    · obtain rfl := hA q1
      rw [Nat.zero_mul]
      refine ⟨fun k => k = β q ∨ ∃ i j, i < len ∧ Fo i j k, fun k hk => ?_, .ow _ (β q) len (κ q) sz g cur e fz (fun i j k => i < len ∧ Fo i j k) hz q1 hl q2 q3 hh hs (fun i hi => hlg i (by omega)) ⟨fun i j h => hF.nb i j h.2, fun i j i' j' k a b => hF.dj i j i' j' k a.2 b.2, fun i j k h => ⟨h.1, (hF.dm i j k h.2).2⟩, fun k => Iff.rfl⟩ (fun i j p hi hp => (hcl i j p (by omega) hp).1) (fun i j p hi hp => ?_)⟩
      · rcases hk with rfl | ⟨i, j, _, hk⟩
        · exact (hF.eq _).2 (.inl rfl)
        · exact (hF.eq _).2 (.inr ⟨i, j, hk⟩)
      · have e1 : (fun k => i < len ∧ Fo i j k) = Fo i j := by funext k; simp [hi]
        show CV w S (fun k => i < len ∧ Fo i j k) _ _
        rw [e1]
        exact nl_cv (hcl i j p (by omega) hp).2 (hg i hi p (List.mem_of_getElem? hp))
  have hdis : ∀ k, G' k → ¬ A o k := fun k hk ho => hne (hm.dj q o _ _ k hq h (hG' k hk) ho)
  have at_ : ∀ o' y, ((s.m.set o (setG i j (.ow sz len g) x)).drop q).o o' = some y → o' ≠ q ∧ ((o' = o ∧ y = setG i j (.ow sz len g) x) ∨ (o' ≠ o ∧ s.m.o o' = some y)) := fun o' y hy => by
    simp only [Mem.drop, Mem.set, upd] at hy
    by_cases e1 : o' = q
    · rw [if_pos e1] at hy; cases hy
    · rw [if_neg e1] at hy
      by_cases e2 : o' = o
      · rw [if_pos e2] at hy; cases hy; exact ⟨e1, .inl ⟨e2, rfl⟩⟩
      · rw [if_neg e2] at hy; exact ⟨e1, .inr ⟨e2, hy⟩⟩
  let A' : Id → Nat → Prop := fun o' k => if o' = o then (A o k ∨ G' k) else A o' k
  have a2 : A' o = fun k => A o k ∨ G' k := by funext k; simp [A']
  have a3 : ∀ o', o' ≠ o → A' o' = A o' := fun o' e2 => by funext k; simp [A', e2]
  have sub : ∀ o' y k, ((s.m.set o (setG i j (.ow sz len g) x)).drop q).o o' = some y → A' o' k → o' ≠ q ∧ ∃ o2 y2, s.m.o o2 = some y2 ∧ A o2 k ∧ (o2 = o' ∨ (o' = o ∧ o2 = q)) := fun o' y k hy hk => by
    obtain ⟨e0, hy⟩ := at_ o' y hy
    refine ⟨e0, ?_⟩
    rcases hy with ⟨rfl, _⟩ | ⟨e2, hy⟩
    · rw [a2] at hk
      rcases hk with hk | hk
      · exact ⟨_, x, h, hk, .inl rfl⟩
      · exact ⟨q, _, hq, hG' k hk, .inr ⟨rfl, rfl⟩⟩
    · rw [a3 o' e2] at hk; exact ⟨o', y, hy, hk, .inl rfl⟩
  refine ⟨β, κ, A', fun _ _ => ⟨rfl, rfl⟩, ⟨fun o' y hy => ?_, fun o' y k hy hk hs => ?_, fun o1 o2 y1 y2 k h1 h2 k1 k2 => ?_, fun o' y hy => ?_, hm.lt⟩, fun k ⟨o', y, hy, hk⟩ => ?_⟩
  · obtain ⟨e0, hy⟩ := at_ o' y hy
    rcases hy with ⟨rfl, rfl⟩ | ⟨e2, hy⟩
    · rw [a2]
      refine hset β κ s.m.nx (fun k => A o' k ∨ G' k) j (.ow sz len g) ⟨rfl, rfl⟩ ?_
      have := hcell β κ s.m.nx (.ow sz len g) G' (fun _ _ => ⟨rfl, rfl⟩) (Nat.le_refl _) (.inr hcv) (fun hb => hdis _ hb hb0.own) (fun k hk ho => absurd ho (hdis k hk))
      simpa [hG0] using this
    · rw [a3 o' e2]; exact hm.ob o' y hy
  · obtain ⟨_, o2, y2, h1, h2, _⟩ := sub o' y k hy hk
    exact hm.ns o2 y2 k h1 h2 hs
  · obtain ⟨n1, p1, z1, b1, c1, d1⟩ := sub o1 y1 k h1 k1
    obtain ⟨n2, p2, z2, b2, c2, d2⟩ := sub o2 y2 k h2 k2
    have hp := hm.dj p1 p2 z1 z2 k b1 b2 c1 c2
    rcases d1 with d1 | ⟨d1, d1'⟩ <;> rcases d2 with d2 | ⟨d2, d2'⟩
    · rw [← d1, ← d2, hp]
    · exact absurd (by rw [← d1, hp, d2']) n1
    · exact absurd (by rw [← d2, ← hp, d1']) n2
    · rw [d1, d2]
  · obtain ⟨e0, hy⟩ := at_ o' y hy
    rcases hy with ⟨rfl, _⟩ | ⟨_, hy⟩
    · exact hon
    · exact hm.nx o' y hy
  · obtain ⟨_, o2, y2, h1, h2, _⟩ := sub o' y k hy hk
    exact ⟨o2, y2, h1, h2⟩
/-- A cell that holds no slice owns a row of no elements. -/
theorem Told_foldn {C : Cx} {s : AS} (o : Id) (i j : Nat) (sz : Nat) (g : Nat → List PV) {x : Ob} {sz0 n0 : Nat} {g0 : Nat → List PV} (h : s.m.o o = some x) (hx : obG x = some (sz0, n0, g0)) (hi : i < n0) (hc : (g0 i)[j]? = some .nils) :
    Told C s ⟨s.t, s.m.set o (setG i j (.ow sz 0 g) x)⟩ := by
  refine ghost rfl (Nat.le_refl _) (fun w S β κ A hm => ?_)
  have hon := hm.nx o x h
  obtain ⟨c0, hb0, hset⟩ := ob_blk (hm.ob o x h) hx hi
  obtain ⟨v, G, _, hv, hGB, hGb, hcell⟩ := hb0.cell hi hc
  have hov := hv.ov rfl
  have hG0 : ∀ k, ¬ G k := by
    rcases hv with ⟨_, h0⟩ | hv
    · exact h0
    · cases hv with | rv _ _ _ _ h0 => exact h0
  have hcv : CV w S (fun _ => False) v (.ow sz 0 g) := by rw [hov.nils_inv]; exact .no _ _ _ _ (fun _ h => h)
  have at_ : ∀ o' y, (s.m.set o (setG i j (.ow sz 0 g) x)).o o' = some y → (o' = o ∧ y = setG i j (.ow sz 0 g) x) ∨ s.m.o o' = some y := fun o' y hy => by
    simp only [Mem.set, upd] at hy
    by_cases e2 : o' = o
    · rw [if_pos e2] at hy; cases hy; exact .inl ⟨e2, rfl⟩
    · rw [if_neg e2] at hy; exact .inr hy
  have ex_ : ∀ o' y, (s.m.set o (setG i j (.ow sz 0 g) x)).o o' = some y → ∃ y', s.m.o o' = some y' := fun o' y hy => by
    rcases at_ o' y hy with ⟨rfl, _⟩ | hy
    · exact ⟨x, h⟩
    · exact ⟨y, hy⟩
  refine ⟨β, κ, A, fun _ _ => ⟨rfl, rfl⟩, ⟨fun o' y hy => ?_, fun o' y k hy hk hs => ?_, fun o1 o2 y1 y2 k h1 h2 k1 k2 => ?_, fun o' y hy => ?_, hm.lt⟩, fun k ⟨o', y, hy, hk⟩ => ?_⟩
  · by_cases e : o' = o
    · subst e
      simp only [Mem.set, upd, if_true, Option.some.injEq] at hy
      subst hy
      refine hset β κ s.m.nx (A o') j (.ow sz 0 g) ⟨rfl, rfl⟩ ?_
      have := hcell β κ s.m.nx (.ow sz 0 g) (fun _ => False) (fun _ _ => ⟨rfl, rfl⟩) (Nat.le_refl _) (.inr hcv) (fun hb => hb) (fun k hk ho => hk.elim)
      simpa [hG0] using this
    · rcases at_ o' y hy with ⟨e', _⟩ | hy
      · exact absurd e' e
      · exact hm.ob o' y hy
  · obtain ⟨y', hy'⟩ := ex_ o' y hy; exact hm.ns o' y' k hy' hk hs
  · obtain ⟨y1', hy1⟩ := ex_ o1 y1 h1
    obtain ⟨y2', hy2⟩ := ex_ o2 y2 h2
    exact hm.dj o1 o2 _ _ k hy1 hy2 k1 k2
  · obtain ⟨y', hy'⟩ := ex_ o' y hy; exact hm.nx o' y' hy'
  · obtain ⟨y', hy'⟩ := ex_ o' y hy; exact ⟨o', y', hy', hk⟩
/-- No slice: a row of no elements. -/
theorem Told_nil {C : Cx} {s : AS} (k : Nat) (sz : Nat) (g : Nat → List PV) (hk : s.t k = .nils) : Told C s ⟨upd s.t k (.sl [s.m.nx] sz 0 0 0), s.m.grow none (.row sz 0 g)⟩ := fun a w hf => by
  obtain ⟨β, κ, A, S, hf⟩ := hf
  obtain ⟨h1, h2⟩ := hf.mr.grow (w' := w) (Fr.hd _) none (x := .row sz 0 g) (g := 0) (K := 0) (B := fun _ => False) rfl rfl rfl (Nat.le_refl _) (fun _ h => h.elim) (fun _ _ _ => rfl) (.inl ⟨by simp [upd], rfl, fun _ h => h⟩)
  rw [gdN_dN] at h1 h2
  refine ⟨_, _, _, S, hf.df, hf.sz, fun t => ?_, h2, hf.ex.trans h1⟩
  show OV _ _ _ _ _ _ (upd s.t k _ t)
  unfold upd
  by_cases e : t = k
  · subst e
    rw [if_pos rfl]
    have := hf.tv t
    rw [hk] at this
    rw [this.nils_inv]
    refine .sl _ _ _ _ _ _ _ (by simp [hb, Mem.grow]) (Nat.le_refl _) (Nat.le_refl _) (by simp) (by simp) (fun h => absurd h (by simp))
  · rw [if_neg e]; exact (hf.tv t).ext h1 hf.mr
end
/-- What a cell owns is taken out. -/
def openC (m : Mem) (o : Id) (i j : Nat) (K : Mem → Prop) : Prop := match m.o o with
  | some x => match obG x with
    | some (_, n0, g0) => i < n0 ∧ (match (g0 i)[j]? with | some (.ow sz n g) => K ((m.set o (setG i j (.sl [m.nx] sz n 0 n) x)).grow none (.row sz n g)) | _ => False)
    | none => False
  | none => False
/-- An object is put into a cell. -/
def foldC (m : Mem) (o : Id) (i j : Nat) (q : Id) (K : Mem → Prop) : Prop := match m.o o with
  | some x => match obG x with
    | some (_, n0, g0) => i < n0 ∧ (match (g0 i)[j]? with
      | some (.sl q' sz' n' off len) => (match m.o q with
        | some (.row sz n g) => (q' = q ∧ sz' = sz ∧ n' = n ∧ off = 0 ∧ len ≤ n ∧ q ≠ o) ∧ (∀ k, k < len → Nl (g k)) ∧ K ((m.set o (setG i j (.ow sz len g) x)).drop q)
        | _ => False)
      | _ => False)
    | none => False
  | none => False
def foldN (m : Mem) (o : Id) (i j sz : Nat) (K : Mem → Prop) : Prop := match m.o o with
  | some x => match obG x with
    | some (_, n0, g0) => i < n0 ∧ (match (g0 i)[j]? with
      | some .nils => K (m.set o (setG i j (.ow sz 0 (fun _ => [])) x))
      | _ => False)
    | none => False
  | none => False
section
variable {C : Cx} {P : Program} {c : Code} {Q : Exit → AS → Prop} {s : AS}
theorem foldN_ok {o : Id} {i j sz : Nat} {K : Mem → Prop} (h : foldN s.m o i j sz K) : ∃ m', K m' ∧ Told C s ⟨s.t, m'⟩ := by
  unfold foldN at h
  split at h
  · rename_i x hx
    split at h
    · rename_i sz0 n0 g0 hg
      obtain ⟨hi, h⟩ := h
      split at h
      · rename_i hc; exact ⟨_, h, Told_foldn o i j sz _ hx hg hi hc⟩
      · exact h.elim
    · exact h.elim
  · exact h.elim
theorem T_foldn (o : Id) (i j sz : Nat) {s2 : AS} (h : foldN s.m o i j sz (fun m' => Told C ⟨s.t, m'⟩ s2)) : Told C s s2 := by obtain ⟨m', h1, h2⟩ := foldN_ok (C := C) h; exact h2.trans h1
theorem R_foldn (o : Id) (i j sz : Nat) {rs : List ResultVar} {n0 : Nat} {r : PV} {m1 : Mem} {e : Exit} (h : foldN s.m o i j sz (fun m' => RetT C P rs n0 r m1 e ⟨s.t, m'⟩)) : RetT C P rs n0 r m1 e s := by obtain ⟨m', h1, h2⟩ := foldN_ok (C := C) h; exact RetT.told h2 h1
theorem openC_ok {o : Id} {i j : Nat} {K : Mem → Prop} (h : openC s.m o i j K) : ∃ m', K m' ∧ Told C s ⟨s.t, m'⟩ := by
  unfold openC at h
  split at h
  · rename_i x hx
    split at h
    · rename_i sz0 n0 g0 hg
      obtain ⟨hi, h⟩ := h
      split at h
      · rename_i hc; exact ⟨_, h, Told_open o i j hx hg hi hc⟩
      · exact h.elim
    · exact h.elim
  · exact h.elim
theorem foldC_ok {o q : Id} {i j : Nat} {K : Mem → Prop} (h : foldC s.m o i j q K) : ∃ m', K m' ∧ Told C s ⟨s.t, m'⟩ := by
  unfold foldC at h
  split at h
  · rename_i x hx
    split at h
    · rename_i sz0 n0 g0 hg
      obtain ⟨hi, h⟩ := h
      split at h
      · rename_i hc
        split at h
        · rename_i hq
          obtain ⟨⟨rfl, rfl, rfl, rfl, h5, h6⟩, h7, h8⟩ := h
          exact ⟨_, h8, Told_fold o i j _ hx hg hi hc hq h5 h7 h6⟩
        · exact h.elim
      · exact h.elim
    · exact h.elim
  · exact h.elim
theorem AW_open (o : Id) (i j : Nat) (h : openC s.m o i j (fun m' => AW C P c Q ⟨s.t, m'⟩)) : AW C P c Q s := by obtain ⟨m', h1, h2⟩ := openC_ok (C := C) h; exact AW.told h2 h1
theorem AW_fold (o : Id) (i j : Nat) (q : Id) (h : foldC s.m o i j q (fun m' => AW C P c Q ⟨s.t, m'⟩)) : AW C P c Q s := by obtain ⟨m', h1, h2⟩ := foldC_ok (C := C) h; exact AW.told h2 h1
theorem AL_fold (o : Id) (i j : Nat) (q : Id) (h : foldC s.m o i j q (fun m' => AL C P c Q ⟨s.t, m'⟩)) : AL C P c Q s := by obtain ⟨m', h1, h2⟩ := foldC_ok (C := C) h; exact AL.told h2 h1
theorem T_fold (o : Id) (i j : Nat) (q : Id) {s2 : AS} (h : foldC s.m o i j q (fun m' => Told C ⟨s.t, m'⟩ s2)) : Told C s s2 := by obtain ⟨m', h1, h2⟩ := foldC_ok (C := C) h; exact h2.trans h1
theorem R_fold (o : Id) (i j : Nat) (q : Id) {rs : List ResultVar} {n0 : Nat} {r : PV} {m1 : Mem} {e : Exit} (h : foldC s.m o i j q (fun m' => RetT C P rs n0 r m1 e ⟨s.t, m'⟩)) : RetT C P rs n0 r m1 e s := by obtain ⟨m', h1, h2⟩ := foldC_ok (C := C) h; exact RetT.told h2 h1
end
end Go.Proofs.YtolejglfohagnaaW.AW
