/- Regions that draw their order. Plain lemmas: no statement of the program. -/
import Derived.Test.YtofaiiobggnibaaWB17B
import Derived.Orders
namespace Go.Proofs.YtofaiiobggnibaaW.AW
open Go Go.RowKit
set_option linter.unusedVariables false
set_option linter.unusedSimpArgs false

def bds (o : Oper) : List Nat := (o.after.toList.filter (Region.binds .any ·)).map (·.on)
def nd (acc : List Nat) (o : Oper) : Nat := (bds o).foldl (fun s j => s ||| (2 ^ j ||| acc.getD j 0)) 0
/-- Whom each operation waits for, as bits. -/
def nds : List Oper → List Nat → List Nat
  | [], acc => acc
  | o :: r, acc => nds r (acc ++ [nd acc o])
def dsto (ops : Array Oper) (j : Nat) : Option Tmp := (ops[j]?).bind (·.dst)
def bdsAt (ops : Array Oper) (j : Nat) : List Nat := match ops[j]? with | some o => bds o | none => []
/-- Who is looked at is waited for, or waits; no slot is filled twice. -/
def drawOk (ops : Array Oper) : Bool := (List.range ops.size).all fun i => match ops[i]? with
  | none => true
  | some o => (bds o).all (· < i) && ((o.looksAt ops).all (fun t => (List.range ops.size).all fun j => dsto ops j != some t || ((bds o).contains j || (bdsAt ops j).contains i)) &&
      (List.range ops.size).all (fun j => j == i || (o.dst.isNone || dsto ops j != o.dst)))
/-- Alone: every other operation stands before it or behind it. -/
def single (ops : Array Oper) (i : Nat) : Bool := (fun N => (List.range ops.size).all fun j => j == i || ((N.getD i 0).testBit j || (N.getD j 0).testBit i)) (nds ops.toList [])
/-- It may write. -/
def wrO : Op → Bool
  | .box _ _ | .alloc _ | .store _ _ _ | .buildSlice _ _ _ | .makeSlice _ _ _ | .makeMap _ _ | .mapUpdate _ _ _ _ => true
  | .call c => match c.callee with | .builtin .append | .builtin .delete | .value _ => true | _ => false
  | _ => false
/-- It makes an object, and every other operation that may write stands before it or behind it. -/
def gw (ops : Array Oper) (i : Nat) : Bool := (fun N => match ops[i]? with
  | none => false
  | some o => wrO o.op && (List.range ops.size).all fun j => j == i || (match ops[j]? with | some p => !wrO p.op | none => true) || ((N.getD i 0).testBit j || (N.getD j 0).testBit i)) (nds ops.toList [])
/-- Objects made, one behind the other. -/
inductive Grows : Mem → Mem → Prop
  | refl (m) : Grows m m
  | step (m m2 x) (h : Grows m m2) : Grows m (m2.grow none x)
theorem Grows.trans {m m2 m3 : Mem} (h : Grows m m2) (h' : Grows m2 m3) : Grows m m3 := by
  induction h' with
  | refl => exact h
  | step m3 x _ ih => exact .step _ _ x ih
/-- Memory is left, or the operation stands alone, or it makes objects. -/
def mOk (m m' : Mem) (sg gg : Bool) : Prop := m' = m ∨ sg = true ∨ (gg = true ∧ Grows m m')
theorem mOk_id {m : Mem} {sg gg : Bool} : mOk m m sg gg ↔ True := ⟨fun _ => trivial, fun _ => .inl rfl⟩
def arunD (P : Program) (nt : Nat) (ds : List (Option Tmp)) (sg gg : Nat → Bool) : Nat → List Oper → (AS → Prop) → AS → Prop
  | _, [], K, s => K s
  | i, o :: rest, K, s => match agd ds s o.guard with
    | some cs => (o.dst.all (· < nt) = true) ∧ aop P cs o.op (fun x => strip cs (s.ev x)) s.m (fun r m' => mOk s.m m' (sg i) (gg i) ∧ arunD P nt ds sg gg (i + 1) rest K (({ s with m := m' } : AS).put o.dst r))
    | none => False
def Stp (P : Program) (nt : Nat) (ds : List (Option Tmp)) (sg gg : Nat → Bool) (k : Nat) (o : Oper) (s s' : AS) : Prop := ∃ cs r m', agd ds s o.guard = some cs ∧ o.dst.all (· < nt) = true ∧
  aop P cs o.op (fun x => strip cs (s.ev x)) s.m (fun q n => q = r ∧ n = m') ∧ mOk s.m m' (sg k) (gg k) ∧ s' = ({ s with m := m' } : AS).put o.dst r

theorem trace {P : Program} {nt : Nat} {ds : List (Option Tmp)} {sg gg : Nat → Bool} {K : AS → Prop} : ∀ (l : List Oper) (i : Nat) (s : AS), arunD P nt ds sg gg i l K s →
    ∃ T : Nat → AS, T i = s ∧ (∀ k o, l[k]? = some o → Stp P nt ds sg gg (i + k) o (T (i + k)) (T (i + k + 1))) ∧ K (T (i + l.length))
  | [], i, s, h => ⟨fun _ => s, rfl, fun k o hk => by simp at hk, h⟩
  | o :: l, i, s, h => by
    simp only [arunD] at h
    split at h
    · rename_i cs hg
      obtain ⟨h1, h2⟩ := h
      obtain ⟨r, m', ⟨h3, h4⟩, h5⟩ := aop_ex h2
      obtain ⟨T, t1, t2, t3⟩ := trace l (i + 1) _ h4
      refine ⟨fun k => if k = i then s else T k, by simp, fun k o' hk => ?_, ?_⟩
      · cases k with
        | zero =>
          simp at hk; subst hk
          simp only [Nat.add_zero, if_true, if_neg (show i + 1 ≠ i by omega), t1]
          exact ⟨cs, r, m', hg, h1, h5, h3, rfl⟩
        | succ k =>
          simp only [List.getElem?_cons_succ] at hk
          have := t2 k o' hk
          rw [show i + 1 + k = i + (k + 1) by omega] at this
          simp only [if_neg (show i + (k + 1) ≠ i by omega), if_neg (show i + (k + 1) + 1 ≠ i by omega)]
          exact this
      · simp only [List.length_cons, if_neg (show i + (l.length + 1) ≠ i by omega)]
        rw [show i + (l.length + 1) = i + 1 + l.length by omega]; exact t3
    · exact h.elim

theorem foldl_bit (acc : List Nat) (j : Nat) : ∀ (l : List Nat) (s : Nat), (l.foldl (fun s d => s ||| (2 ^ d ||| acc.getD d 0)) s).testBit j = true → s.testBit j = true ∨ ∃ d ∈ l, j = d ∨ (acc.getD d 0).testBit j = true
  | [], s, h => .inl h
  | d :: l, s, h => by
    rcases foldl_bit acc j l _ h with h | ⟨d', h1, h2⟩
    · simp only [Nat.testBit_or, Bool.or_eq_true, Nat.testBit_two_pow, decide_eq_true_eq] at h
      rcases h with h | h | h
      · exact .inl h
      · exact .inr ⟨d, by simp, .inl h.symm⟩
      · exact .inr ⟨d, by simp, .inr h⟩
    · exact .inr ⟨d', by simp [h1], h2⟩
theorem nds_spec : ∀ (l : List Oper) (acc : List Nat), (nds l acc).length = acc.length + l.length ∧ (∀ i, i < acc.length → (nds l acc)[i]? = acc[i]?) ∧
    ∀ k o, l[k]? = some o → ∃ A : List Nat, (∀ i, i < acc.length + k → A[i]? = (nds l acc)[i]?) ∧ A.length = acc.length + k ∧ (nds l acc)[acc.length + k]? = some (nd A o)
  | [], acc => ⟨rfl, fun _ _ => rfl, fun k o h => by simp at h⟩
  | o :: l, acc => by
    obtain ⟨h1, h2, h3⟩ := nds_spec l (acc ++ [nd acc o])
    simp only [List.length_append, List.length_cons, List.length_nil] at h1 h2 h3
    refine ⟨by simp only [nds, List.length_cons]; omega, fun i hi => ?_, fun k o' hk => ?_⟩
    · simp only [nds]; rw [h2 i (by omega), List.getElem?_append_left hi]
    · cases k with
      | zero =>
        simp at hk; subst hk
        refine ⟨acc, fun i hi => ?_, rfl, ?_⟩
        · simp only [nds]; rw [h2 i (by omega), List.getElem?_append_left (by omega)]
        · simp only [nds]; rw [h2 _ (by omega)]; simp
      | succ k =>
        simp only [List.getElem?_cons_succ] at hk
        obtain ⟨A, a1, a2, a3⟩ := h3 k o' hk
        refine ⟨A, fun i hi => ?_, by omega, ?_⟩
        · exact a1 i (by omega)
        · simp only [nds]; rw [show acc.length + (k + 1) = acc.length + (0 + 1) + k by omega]; exact a3
/-- A bit of an operation: someone whom it waits for, or a bit of one of these. -/
theorem nds_bit {ops : Array Oper} {i j : Nat} (h : ((nds ops.toList []).getD i 0).testBit j = true) : ∃ o, ops[i]? = some o ∧ ∃ d ∈ bds o, j = d ∨ (d < i ∧ ((nds ops.toList []).getD d 0).testBit j = true) := by
  obtain ⟨h1, h2, h3⟩ := nds_spec ops.toList []
  cases ho : ops[i]? with
  | none =>
    have : ops.toList.length ≤ i := by simpa using ho
    rw [List.getD_eq_getElem?_getD, List.getElem?_eq_none (by rw [h1]; simpa using this)] at h
    simp at h
  | some o =>
    refine ⟨o, rfl, ?_⟩
    obtain ⟨A, a1, a2, a3⟩ := h3 i o (by simpa using ho)
    simp only [List.length_nil, Nat.zero_add] at a1 a2 a3
    rw [List.getD_eq_getElem?_getD, a3] at h
    rcases foldl_bit A j _ _ h with h | ⟨d, d1, d2⟩
    · simp at h
    · refine ⟨d, d1, d2.imp id fun d2 => ?_⟩
      by_cases hd : d < i
      · exact ⟨hd, by rw [List.getD_eq_getElem?_getD, ← a1 d hd, ← List.getD_eq_getElem?_getD]; exact d2⟩
      · rw [List.getD_eq_getElem?_getD, List.getElem?_eq_none (by omega)] at d2; simp at d2

/-- Listed: a set of operations that holds whom it waits for. -/
structure Lst (ops : Array Oper) (L : Nat → Prop) : Prop where
  dn : ∀ i o, L i → ops[i]? = some o → ∀ d ∈ bds o, L d
theorem Lst.bits {ops : Array Oper} {L : Nat → Prop} (h : Lst ops L) : ∀ (n i : Nat), i < n → (∀ o, ops[i]? = some o → ∀ d ∈ bds o, L d) → ∀ j, ((nds ops.toList []).getD i 0).testBit j = true → L j
  | n + 1, i, hi, hb, j, hj => by
    obtain ⟨o, ho, d, d1, d2⟩ := nds_bit hj
    rcases d2 with rfl | ⟨d2, d3⟩
    · exact hb o ho _ d1
    · exact h.bits n d (by omega) (fun o' ho' => h.dn d o' (hb o ho d d1) ho') j d3

section
variable {P : Program} {C : Cx} {ops : Array Oper}
theorem drawn_FR {s : AS} {a : Act} {w : World} (h : C.FR s a w) : C.FR s a { w with drawn := w.drawn + 1 } := by
  obtain ⟨β, κ, A, S, h⟩ := h
  have hx : Ext w S s.m β κ A { w with drawn := w.drawn + 1 } S s.m β κ A := ⟨rfl, rfl, rfl, Nat.le_refl _, fun _ h => h, fun _ _ => ⟨rfl, rfl⟩, fun _ _ _ => rfl, Nat.le_refl _, fun k h => .inr h, fun _ h => .inl h⟩
  refine ⟨β, κ, A, S, h.df, h.sz, fun t => (h.tv t).ext hx h.mr, ⟨fun o x ho => ?_, h.mr.ns, h.mr.dj, h.mr.nx, h.mr.lt⟩, h.ex.trans hx⟩
  exact OB.move (w := w) (w' := { w with drawn := w.drawn + 1 }) (fun _ _ => ⟨rfl, rfl⟩) (Nat.le_refl _) (fun _ h => h) (fun _ _ => rfl) (h.mr.nx o x ho) (fun _ _ => rfl) (h.mr.ob o x ho)
theorem drawOk_spec (h : drawOk ops = true) {i : Nat} {o : Oper} (ho : ops[i]? = some o) :
    (∀ d ∈ bds o, d < i) ∧ (∀ t ∈ o.looksAt ops, ∀ j, dsto ops j = some t → j ∈ bds o ∨ i ∈ bdsAt ops j) ∧ (∀ j t, o.dst = some t → dsto ops j = some t → j = i) := by
  have hi : i < ops.size := (Array.getElem?_eq_some_iff.1 ho).1
  have lt : ∀ j t, dsto ops j = some t → j < ops.size := fun j t hj => by
    unfold dsto at hj
    cases q : ops[j]? with
    | none => rw [q] at hj; cases hj
    | some _ => exact (Array.getElem?_eq_some_iff.1 q).1
  simp only [drawOk, List.all_eq_true, List.mem_range] at h
  have h1 := h i hi
  rw [ho] at h1
  simp only [Bool.and_eq_true, List.all_eq_true, decide_eq_true_eq, List.mem_range, Bool.or_eq_true, bne_iff_ne, beq_iff_eq, List.contains_iff_mem] at h1
  refine ⟨h1.1, fun t ht j hj => ?_, fun j t ht hj => ?_⟩
  · rcases h1.2.1 t ht j (lt j t hj) with h2 | h2 | h2
    · exact absurd hj h2
    · exact .inl h2
    · exact .inr h2
  · rcases h1.2.2 j (lt j t hj) with h2 | h2 | h2
    · exact h2
    · rw [ht] at h2; cases h2
    · exact absurd (hj.trans ht.symm) h2
theorem single_spec {i j : Nat} (h : single ops i = true) (hj : j < ops.size) (hn : j ≠ i) : ((nds ops.toList []).getD i 0).testBit j = true ∨ ((nds ops.toList []).getD j 0).testBit i = true := by
  simp only [single, List.all_eq_true, List.mem_range, Bool.or_eq_true, beq_iff_eq] at h
  exact (h j hj).resolve_left hn
theorem bit_lt (hd : drawOk ops = true) : ∀ (n i j : Nat), i < n → ((nds ops.toList []).getD i 0).testBit j = true → j < i
  | n + 1, i, j, hi, h => by
    obtain ⟨o, ho, d, d1, d2⟩ := nds_bit h
    have := (drawOk_spec hd ho).1 d d1
    rcases d2 with rfl | ⟨_, d3⟩
    · exact this
    · exact Nat.lt_trans (bit_lt hd n d j (by omega) d3) this
theorem gw_spec {i j : Nat} {p : Oper} (h : gw ops i = true) (hp : ops[j]? = some p) (hw : wrO p.op = true) (hn : j ≠ i) : ((nds ops.toList []).getD i 0).testBit j = true ∨ ((nds ops.toList []).getD j 0).testBit i = true := by
  have hj : j < ops.size := (Array.getElem?_eq_some_iff.1 hp).1
  unfold gw at h
  split at h
  · cases h
  · simp only [Bool.and_eq_true, List.all_eq_true, List.mem_range, Bool.or_eq_true, beq_iff_eq] at h
    rcases h.2 j hj with (h1 | h1) | h1
    · exact absurd h1 hn
    · rw [hp] at h1; simp [hw] at h1
    · exact h1
theorem gw_wr {i : Nat} (h : gw ops i = true) : ∃ o, ops[i]? = some o ∧ wrO o.op = true := by
  unfold gw at h
  split at h
  · cases h
  · rename_i o ho
    simp only [Bool.and_eq_true] at h
    exact ⟨o, ho, h.1⟩
/-- Those that may write. -/
def Wr (ops : Array Oper) (i : Nat) : Prop := single ops i = true ∨ gw ops i = true
theorem Wr_ord {i j : Nat} (hi : i < ops.size) (hj : j < ops.size) (h1 : Wr ops i) (h2 : Wr ops j) (hn : j ≠ i) : ((nds ops.toList []).getD i 0).testBit j = true ∨ ((nds ops.toList []).getD j 0).testBit i = true := by
  rcases h1 with h1 | h1
  · exact single_spec h1 hj hn
  · rcases h2 with h2 | h2
    · exact (single_spec h2 hi (Ne.symm hn)).symm
    · obtain ⟨p, hp, hw⟩ := gw_wr h2
      exact gw_spec h1 hp hw hn
/-- Where an operation can be next, those that it can be told from stand as in the text. -/
theorem ready_ord (hd : drawOk ops = true) {L : Nat → Prop} (hL : Lst ops L) {i j : Nat} {o : Oper} (ho : ops[i]? = some o) (hb : ∀ d ∈ bds o, L d) (hn : ¬ L i) (key : ((nds ops.toList []).getD i 0).testBit j = true ∨ ((nds ops.toList []).getD j 0).testBit i = true) : L j ↔ j < i := by
  rcases key with k | k
  · exact ⟨fun _ => bit_lt hd _ i j (Nat.lt_succ_self _) k, fun _ => hL.bits _ i (Nat.lt_succ_self _) (fun o' ho' => by rw [ho] at ho'; cases ho'; exact hb) j k⟩
  · have hij := bit_lt hd _ j i (Nat.lt_succ_self _) k
    exact ⟨fun h => absurd (hL.bits _ j (Nat.lt_succ_self _) (fun o' ho' => hL.dn j o' h ho') i k) hn, fun h => by omega⟩

/-- The object that an operation reads. -/
def rdO (op : Op) (e : Operand → PV) : Option Id := match op with
  | .load _ x => match e x with | .bp o _ => some o | .pt o _ _ _ _ => some o | _ => none
  | .lookup _ x _ _ => match e x with | .mp o => some o | _ => none
  | .convert _ _ x => match e x with | .sl o _ _ _ _ => some o | _ => none
  | _ => none
theorem apure_mem {cs : List Bool} {op : Op} {e : Operand → PV} {m m2 : Mem} (h : ∀ o, rdO op e = some o → m2.o o = m.o o) : apure P cs op e m2 = apure P cs op e m := by
  cases op
  case load t x =>
    cases hx : e x <;> simp only [rdO, hx, Option.some.injEq, forall_eq', reduceCtorEq, false_implies, implies_true] at h <;> simp only [apure, hx, h]
  case lookup t x i ok =>
    cases hx : e x <;> simp only [rdO, hx, Option.some.injEq, forall_eq', reduceCtorEq, false_implies, implies_true] at h <;> simp only [apure, hx] <;> (generalize e i = p; cases p <;> first | rfl | (rename_i ik _; cases ik <;> first | rfl | simp only [h]))
  case convert s d x =>
    cases hx : e x <;> simp only [rdO, hx, Option.some.injEq, forall_eq', reduceCtorEq, false_implies, implies_true] at h <;> simp only [apure, aconvM, hx] <;> first | rfl | (rename_i sz n g; rcases sz with _ | _ | sz <;> rfl) | (rename_i o sz n off len; rcases sz with _ | _ | sz <;> first | rfl | (simp only [Nat.zero_add, h]))
  case unOp u t x => cases u <;> rfl
  case slice t x lo hi mx => cases mx <;> rfl
  case makeFunc f a b => cases f <;> rfl
  all_goals rfl
theorem apure_rd {cs : List Bool} {op : Op} {e : Operand → PV} {m : Mem} {o : Id} (h : (apure P cs op e m).ok) (hr : rdO op e = some o) : ∃ x, m.o o = some x := by
  cases op <;> simp only [rdO] at hr <;> try (cases hr; done)
  case load t x =>
    simp only [apure] at h
    cases hx : e x <;> simp only [hx] at hr h <;> try (cases hr; done)
    · cases hr
      split at h
      · exact ⟨_, by assumption⟩
      · exact h.elim
    · cases hr
      split at h
      · exact ⟨_, by assumption⟩
      · exact h.elim
  case lookup t x i ok =>
    simp only [apure] at h
    cases hx : e x <;> simp only [hx] at hr h <;> try (cases hr; done)
    cases hr
    split at h
    · rename_i e1 _
      cases e1
      split at h
      · exact ⟨_, by assumption⟩
      · exact h.elim
    · exact h.elim
  case convert s d x =>
    simp only [apure, aconvM] at h
    cases hx : e x <;> simp only [hx] at hr h <;> try (cases hr; done)
    cases hr
    split at h
    · rename_i e1; cases e1
    · rename_i e1; cases e1
    · rename_i e1; cases e1
      split at h
      · exact ⟨_, by assumption⟩
      · exact h.elim
    · rename_i h1 h2 h3
      rename_i sz _ _ _
      simp only [aconv, no] at h
def WF (m : Mem) : Prop := ∀ o x, m.o o = some x → hb o m.nx
def idOf : PV → Option Id
  | .bp o _ => some o | .pt o _ _ _ _ => some o | .mp o => some o | .sl o _ _ _ _ => some o | _ => none
theorem rd_ev {op : Op} {e : Operand → PV} {o : Id} (h : rdO op e = some o) : ∃ x p, e x = p ∧ idOf p = some o := by
  cases op <;> simp only [rdO] at h <;> try (cases h; done)
  all_goals
    split at h <;> first | (cases h; done) | (cases h; rename_i hx; exact ⟨_, _, hx, rfl⟩)
theorem RV.noId {w : World} {S : Nat → Prop} {v : Value} {p : PV} (h : RV w S v p) : idOf p = none := by cases h <;> rfl
theorem ov_hb {β κ : Id → Nat} {nx : Nat} {w : World} {S : Nat → Prop} {v : Value} {p : PV} {o : Id} (h : OV β κ nx w S v p) (ho : idOf p = some o) : hb o nx := by
  cases h <;> first
    | (rename_i h; rw [RV.noId h] at ho; cases ho; done)
    | (simp only [idOf] at ho; cases ho; done)
    | (simp only [idOf] at ho; injection ho with ho; subst ho; assumption)
/-- What is no writer and leaves memory: what it yields. -/
theorem aop_pure {cs : List Bool} {op : Op} {e : Operand → PV} {m : Mem} {r : PV} (hw : wrO op = false) (hc : cs.all id = true) (h : aop P cs op e m (fun q n => q = r ∧ n = m)) : (apure P cs op e m).ok ∧ r = gdv cs (apure P cs op e m).v ∧ ∀ m2, apure P cs op e m2 = apure P cs op e m → aop P cs op e m2 (fun q n => q = r ∧ n = m2) := by
  have fin : ∀ (op : Op), ((cs.all id = true → (apure P cs op e m).ok) ∧ gdv cs (apure P cs op e m).v = r ∧ m = m) → (∀ m2, aop P cs op e m2 (fun q n => q = r ∧ n = m2) = ((cs.all id = true → (apure P cs op e m2).ok) ∧ gdv cs (apure P cs op e m2).v = r ∧ m2 = m2)) → (apure P cs op e m).ok ∧ r = gdv cs (apure P cs op e m).v ∧ ∀ m2, apure P cs op e m2 = apure P cs op e m → aop P cs op e m2 (fun q n => q = r ∧ n = m2) :=
    fun op h1 h2 => ⟨h1.1 hc, h1.2.1.symm, fun m2 h3 => by rw [h2, h3]; exact ⟨fun _ => h1.1 hc, h1.2.1, rfl⟩⟩
  cases op
  case convert s d x =>
    cases hx : e x
    case str b =>
      by_cases hu : tkU8 P d
      · simp only [aop, hx, if_pos hu, onG, if_pos hc] at h
        have := congrArg Mem.nx h.2.2
        simp [Mem.grow] at this
      · refine fin _ ?_ (fun m2 => ?_)
        · simpa only [aop, hx, if_neg hu] using h
        · simp only [aop, hx, if_neg hu]
    all_goals
      refine fin _ ?_ (fun m2 => ?_)
      · simpa only [aop, hx] using h
      · simp only [aop, hx]
  case call c =>
    simp only [wrO] at hw
    cases hcc : c.callee
    case builtin bi =>
      rw [hcc] at hw
      refine fin _ ?_ (fun m2 => ?_)
      · cases bi <;> simp only at hw <;> first | (cases hw; done) | simpa only [aop, hcc] using h
      · cases bi <;> simp only at hw <;> first | (cases hw; done) | simp only [aop, hcc]
    case value f => rw [hcc] at hw; cases hw
    case invoke a b => simp only [aop, hcc] at h
  all_goals first
    | (cases hw; done)
    | (refine fin _ ?_ (fun m2 => ?_)
       · exact h
       · rfl)
theorem Grows.nx {m m2 : Mem} (h : Grows m m2) : m.nx ≤ m2.nx := by
  induction h with
  | refl => exact Nat.le_refl _
  | step m2 x h ih => exact Nat.le_succ_of_le ih
theorem Grows.at_ {m m2 : Mem} (h : Grows m m2) {o : Id} (ho : hb o m.nx) : m2.o o = m.o o := by
  induction h with
  | refl => rfl
  | step m2 x h ih =>
    have := h.nx
    simp only [Mem.grow, Mem.gone, upd]
    rw [if_neg (hb_ne (ho.mono this)), ih]
theorem put_at (s : AS) (d : Option Tmp) (v : PV) (t : Tmp) : (s.put d v).t t = if d = some t then v else s.t t := by
  cases d with
  | none => rfl
  | some d =>
    show upd s.t d v t = _
    unfold upd
    by_cases e : t = d
    · subst e; simp
    · rw [if_neg e, if_neg (fun q => e (by injection q with q; exact q.symm))]
theorem put_m (s : AS) (d : Option Tmp) (v : PV) : (s.put d v).m = s.m := by cases d <;> rfl
theorem AS.ext' {s s' : AS} (h1 : ∀ t, s.t t = s'.t t) (h2 : s.m = s'.m) : s = s' := by
  cases s; cases s'
  simp only [AS.mk.injEq]
  exact ⟨funext h1, h2⟩

section draw
variable {T : Nat → AS} (hd : drawOk ops = true) (hT : ∀ k o, ops[k]? = some o → Stp P C.nt (ops.toList.map (·.dst)) (single ops) (gw ops) k o (T k) (T (k + 1)))
include hd hT
theorem T_dst (j : Nat) (t : Tmp) (hj : dsto ops j = some t) : ∀ k, j < k → k ≤ ops.size → (T k).t t = (T (j + 1)).t t
  | k + 1, h1, h2 => by
    by_cases e : k = j
    · subst e; rfl
    · rw [← T_dst j t hj k (by omega) (by omega)]
      have hk : ops[k]? = some ops[k] := by simp
      obtain ⟨cs, r, m', _, _, _, _, hs⟩ := hT k _ hk
      rw [hs, put_at, if_neg]
      intro hdst
      exact e ((drawOk_spec hd hk).2.2 j t hdst hj).symm
omit hd in
theorem T_old (t : Tmp) : ∀ k, k ≤ ops.size → (∀ j, j < k → dsto ops j ≠ some t) → (T k).t t = (T 0).t t
  | 0, _, _ => rfl
  | k + 1, h2, h => by
    rw [← T_old t k (by omega) (fun j hj => h j (by omega))]
    have hk : ops[k]? = some ops[k] := by simp
    obtain ⟨cs, r, m', _, _, _, _, hs⟩ := hT k _ hk
    rw [hs, put_at, if_neg]
    intro hdst
    exact h k (by omega) (by unfold dsto; rw [hk]; exact hdst)
omit hd in
theorem T_mem (i : Nat) : ∀ q, q ≤ ops.size → i ≤ q → (∀ j, i ≤ j → j < q → ¬ Wr ops j) → (T q).m = (T i).m
  | 0, _, h, _ => by rw [show i = 0 by omega]
  | q + 1, h1, h2, h3 => by
    by_cases e : i = q + 1
    · rw [e]
    · rw [← T_mem i q (by omega) (by omega) (fun j a b => h3 j a (by omega))]
      have hk : ops[q]? = some ops[q] := by simp
      obtain ⟨cs, r, m', _, _, _, hm, hs⟩ := hT q _ hk
      rw [hs, put_m]
      have hnw := h3 q (by omega) (by omega)
      rcases hm with hm | hm | ⟨hm, _⟩
      · exact hm
      · exact absurd (.inl hm) hnw
      · exact absurd (.inr hm) hnw
omit hd in
theorem T_mem' {i q : Nat} (hi : i ≤ ops.size) (hq : q ≤ ops.size) (h : ∀ j, j < ops.size → Wr ops j → (j < i ↔ j < q)) : (T q).m = (T i).m := by
  rcases Nat.le_total i q with hiq | hiq
  · exact T_mem hT i q hq hiq (fun j a b hs => by have := h j (by omega) hs; omega)
  · exact (T_mem hT q i hi hiq (fun j a b hs => by have := h j (by omega) hs; omega)).symm
omit hd in
theorem T_grow (i : Nat) : ∀ q, q ≤ ops.size → i ≤ q → (∀ j, i ≤ j → j < q → single ops j = false) → Grows (T i).m (T q).m
  | 0, _, h, _ => by rw [show i = 0 by omega]; exact .refl _
  | q + 1, h1, h2, h3 => by
    by_cases e : i = q + 1
    · rw [e]; exact .refl _
    · have ih := T_grow i q (by omega) (by omega) (fun j a b => h3 j a (by omega))
      have hk : ops[q]? = some ops[q] := by simp
      obtain ⟨cs, r, m', _, _, _, hm, hs⟩ := hT q _ hk
      rw [hs, put_m]
      rcases hm with hm | hm | ⟨_, hm⟩
      · rw [hm]; exact ih
      · rw [h3 q (by omega) (by omega)] at hm; cases hm
      · exact ih.trans hm
end draw

def lsd (listed : Array Bool) (j : Nat) : Prop := listed.getD j false = true
theorem lsd_set {listed : Array Bool} {i j : Nat} (hi : i < listed.size) : lsd (listed.setIfInBounds i true) j ↔ lsd listed j ∨ j = i := by
  unfold lsd
  simp only [Array.getD_eq_getD_getElem?, Array.getElem?_setIfInBounds]
  by_cases e : i = j
  · subst e; simp [hi]
  · simp [e, Ne.symm e]
theorem filter_lt {α : Type} {p p' : α → Bool} (x : α) (h : ∀ y, p' y = true → p y = true) (h1 : p x = true) (h2 : p' x = false) : ∀ l : List α, x ∈ l → (l.filter p').length < (l.filter p).length
  | y :: l, hx => by
    have le : ∀ l : List α, (l.filter p').length ≤ (l.filter p).length := fun l => by
      induction l with
      | nil => simp
      | cons z l ih =>
        simp only [List.filter_cons]
        cases hz : p' z with
        | true => simp [h z hz, ih]
        | false => cases hz' : p z <;> simp <;> omega
    simp only [List.filter_cons]
    by_cases e : x = y
    · subst e
      simp [h1, h2]
      have := le l; omega
    · have ih := filter_lt x h h1 h2 l (by simpa [e] using hx)
      cases hz : p' y with
      | true => simp [h y hz, ih]
      | false => cases hz' : p y <;> simp <;> omega
theorem all_listed (hd : drawOk ops = true) {listed : Array Bool} (hs : listed.size = ops.size) (hr : Region.ready .any ops listed = []) : ∀ n i, i < n → i < ops.size → lsd listed i
  | n + 1, i, hn, hi => by
    by_cases hl : lsd listed i
    · exact hl
    have ho : ops[i]? = some ops[i] := by simp
    have : i ∈ Region.ready .any ops listed := by
      rw [mem_ready]
      refine ⟨?_, _, ho, fun e he hb => ?_⟩
      · unfold lsd at hl
        have h' : i < listed.size := by omega
        simpa [Array.getD, h'] using hl
      · have hd' : e.on ∈ bds ops[i] := by simp only [bds, List.mem_map, List.mem_filter]; exact ⟨e, ⟨by simpa using he, hb⟩, rfl⟩
        have hlt := (drawOk_spec hd ho).1 _ hd'
        exact all_listed hd hs hr n e.on (by omega) (by omega)
    rw [hr] at this; simp at this
theorem ev_same {s s' : AS} {o : Oper} (h : ∀ t ∈ o.looksAt ops, s.t t = s'.t t) {x : Operand} (hx : x ∈ o.op.operands) : s.ev x = s'.ev x := by
  cases x with
  | tmp t => exact h t (List.mem_append_left _ (List.mem_filterMap.2 ⟨.tmp t, by simpa using hx, rfl⟩))
  | _ => rfl
theorem agd_same {s s' : AS} {o : Oper} (h : ∀ t ∈ o.looksAt ops, s.t t = s'.t t) : agd (ops.toList.map (·.dst)) s o.guard = agd (ops.toList.map (·.dst)) s' o.guard := by
  cases hg : o.guard with
  | none => rfl
  | some g =>
    obtain ⟨j, b⟩ := g
    unfold agd
    cases ht : gtmp (ops.toList.map (·.dst)) j with
    | none => simp only [ht]
    | some t =>
      have : t ∈ o.looksAt ops := by
        refine List.mem_append_right _ ?_
        rw [hg]
        have : (ops[j]?).bind (·.dst) = some t := by
          simp only [gtmp, List.getElem?_map] at ht
          have e0 : ops.toList[j]? = ops[j]? := by simp
          rw [e0] at ht
          cases hq : ops[j]? with
          | none => rw [hq] at ht; cases ht
          | some o' => rw [hq] at ht; exact ht
        simp [this]
      simp only [ht, h t this]
/-- THE RULE of a region that draws its order: the walk in the order of the text serves. -/
theorem draw_ok {K : AS → Prop} {Q' : Exit → Act → World → Prop} (hd : drawOk ops = true) (hK : ∀ s a w, C.FR s a w → K s → Q' .normal a w) (s0 : AS)
    (h : arunD P C.nt (ops.toList.map (·.dst)) (single ops) (gw ops) 0 ops.toList K s0) (a : Act) (w : World) (hf : C.FR s0 a w) : wpAny P .any ops Q' ops.size (Array.replicate ops.size false) a w := by
  obtain ⟨T, t0, hT, tK⟩ := trace _ _ _ h
  simp only [Nat.zero_add, Array.length_toList] at hT tK
  replace hT : ∀ k o, ops[k]? = some o → Stp P C.nt (ops.toList.map (·.dst)) (single ops) (gw ops) k o (T k) (T (k + 1)) := fun k o hk => hT k o (by simpa using hk)
  have key : ∀ (fuel : Nat) (listed : Array Bool) (a : Act) (w : World), listed.size = ops.size → Lst ops (lsd listed) → ((List.range ops.size).filter fun j => !listed.getD j false).length ≤ fuel →
      (∃ s q, C.FR s a w ∧ (∀ j t, dsto ops j = some t → lsd listed j → s.t t = (T (j + 1)).t t) ∧ (∀ t, (∀ j, dsto ops j = some t → ¬ lsd listed j) → s.t t = s0.t t) ∧ q ≤ ops.size ∧ s.m = (T q).m ∧ (∀ k, k ≤ q → WF (T k).m) ∧
        ∀ j, j < ops.size → Wr ops j → (lsd listed j ↔ j < q)) → wpAny P .any ops Q' fuel listed a w := by
    intro fuel
    have done : ∀ (listed : Array Bool) (a : Act) (w : World), listed.size = ops.size → (∃ s q, C.FR s a w ∧ (∀ j t, dsto ops j = some t → lsd listed j → s.t t = (T (j + 1)).t t) ∧ (∀ t, (∀ j, dsto ops j = some t → ¬ lsd listed j) → s.t t = s0.t t) ∧ q ≤ ops.size ∧ s.m = (T q).m ∧ (∀ k, k ≤ q → WF (T k).m) ∧
        ∀ j, j < ops.size → Wr ops j → (lsd listed j ↔ j < q)) → (∀ i, i < ops.size → lsd listed i) → Q' .normal a w := by
      intro listed a w hsz ⟨s, q, hf, hA, hB, hq, hm, _, hsg⟩ hall
      have : s = T ops.size := by
        refine AS.ext' (fun t => ?_) ?_
        · by_cases ht : ∃ j, dsto ops j = some t
          · obtain ⟨j, hj⟩ := ht
            have hlt : j < ops.size := by
              unfold dsto at hj
              cases e : ops[j]? with
              | none => rw [e] at hj; cases hj
              | some _ => exact (Array.getElem?_eq_some_iff.1 e).1
            rw [hA j t hj (hall j hlt), T_dst hd hT j t hj ops.size hlt (Nat.le_refl _)]
          · have hno : ∀ j, dsto ops j ≠ some t := fun j hj => ht ⟨j, hj⟩
            rw [hB t (fun j hj => absurd hj (hno j)), T_old hT t ops.size (Nat.le_refl _) (fun j _ => hno j), t0]
        · rw [hm]
          exact T_mem' hT (Nat.le_refl _) hq (fun j hj hs => ⟨fun _ => (hsg j hj hs).1 (hall j hj), fun _ => hj⟩)
      exact hK _ _ _ hf (this ▸ tK)
    induction fuel with
    | zero =>
      intro listed a w hsz hL hc hI
      have hall : ∀ i, i < ops.size → lsd listed i := fun i hi => by
        have h0 : (List.range ops.size).filter (fun j => !listed.getD j false) = [] := List.length_eq_zero_iff.1 (by omega)
        rw [List.filter_eq_nil_iff] at h0
        simpa [lsd] using h0 i (by simpa using hi)
      refine ⟨?_, done listed a w hsz hI hall⟩
      cases hr : Region.ready .any ops listed with
      | nil => rfl
      | cons i r =>
        have hi : i ∈ Region.ready .any ops listed := by rw [hr]; simp
        rw [mem_ready] at hi
        obtain ⟨h1, o, ho, _⟩ := hi
        have hlt := (Array.getElem?_eq_some_iff.1 ho).1
        have := hall i hlt
        unfold lsd at this
        have h' : i < listed.size := by omega
        simp [Array.getD, h'] at this h1
        rw [this] at h1; cases h1
    | succ fuel ih =>
      intro listed a w hsz hL hc hI
      refine ⟨fun hr => done listed a w hsz hI (fun i hi => all_listed hd hsz hr _ i (Nat.lt_succ_self _) hi), fun i hi => ?_⟩
      obtain ⟨s, q, hf, hA, hB, hq, hm, hwf, hsg⟩ := hI
      rw [mem_ready] at hi
      obtain ⟨h1, o, ho, hb⟩ := hi
      have hlt := (Array.getElem?_eq_some_iff.1 ho).1
      have h' : i < listed.size := by omega
      have hnl : ¬ lsd listed i := by unfold lsd; simp [Array.getD, h'] at h1 ⊢; exact h1
      have hb' : ∀ d ∈ bds o, lsd listed d := fun d hd' => by
        simp only [bds, List.mem_map, List.mem_filter] at hd'
        obtain ⟨e, ⟨he, hbe⟩, rfl⟩ := hd'
        exact hb e (by simpa using he) hbe
      obtain ⟨hp1, hp2, hp3⟩ := drawOk_spec hd ho
      have hlook : ∀ t ∈ o.looksAt ops, (T i).t t = s.t t := fun t ht => by
        by_cases hj : ∃ j, dsto ops j = some t ∧ j ∈ bds o
        · obtain ⟨j, hj, hd'⟩ := hj
          rw [hA j t hj (hb' j hd'), T_dst hd hT j t hj i (hp1 j hd') (by omega)]
        · have hno : ∀ j, dsto ops j = some t → ¬ lsd listed j ∧ ¬ j < i := fun j hj' => by
            have hbj := (hp2 t ht j hj').resolve_left (fun h => hj ⟨j, hj', h⟩)
            unfold bdsAt at hbj
            cases hoj : ops[j]? with
            | none => rw [hoj] at hbj; simp at hbj
            | some p =>
              rw [hoj] at hbj
              have := (drawOk_spec hd hoj).1 i hbj
              exact ⟨fun hl => hnl (hL.dn j p hl hoj i hbj), by omega⟩
          rw [hB t (fun j hj => (hno j hj).1), T_old hT t i (by omega) (fun j hji hj => (hno j hj).2 hji), t0]
      obtain ⟨cs, r, m', hg, hdst, hop, hmm, hTs⟩ := hT i o ho
      rw [agd_same hlook] at hg
      have hops : aop P cs o.op (fun x => strip cs (s.ev x)) (T i).m (fun q n => q = r ∧ n = m') := by
        rw [← aop_congr (e := fun x => strip cs ((T i).ev x))]
        · exact hop
        · intro x hx; simp only [ev_same hlook hx]
      have hfn : WF s.m := by
        obtain ⟨_, _, _, _, hf⟩ := hf
        exact fun o x ho => hf.mr.nx o x ho
      have hrs : ∀ j, j < ops.size → j ≠ i → (((nds ops.toList []).getD i 0).testBit j = true ∨ ((nds ops.toList []).getD j 0).testBit i = true) → (lsd listed j ↔ j < i) := fun j hj hji hs => ready_ord hd hL ho hb' hnl hs
      obtain ⟨mN, qN, hqN, hmN, hwN, hsN, hrun, hskp⟩ : ∃ mN qN, qN ≤ ops.size ∧ mN = (T qN).m ∧ (WF mN → ∀ k, k ≤ qN → WF (T k).m) ∧ (∀ j, j < ops.size → Wr ops j → (lsd (listed.setIfInBounds i true) j ↔ j < qN)) ∧
          (cs.all id = true → (∀ id, rdO o.op (fun x => strip cs (s.ev x)) = some id → AW.hb id s.m.nx) → aop P cs o.op (fun x => strip cs (s.ev x)) s.m (fun q n => q = r ∧ n = mN)) ∧ (cs.all id = false → (∃ r', r = .gd cs r') ∧ mN = s.m) := by
        have hnW : ∀ j, ¬ Wr ops i → Wr ops j → j ≠ i := fun j h1 h2 e => h1 (e ▸ h2)
        have hset : ¬ Wr ops i → ∀ j, j < ops.size → Wr ops j → (lsd (listed.setIfInBounds i true) j ↔ j < q) := fun hn j hj hs => by
          rw [lsd_set h', ← hsg j hj hs]
          simp [hnW j hn hs]
        by_cases hA : Wr ops i ∨ wrO o.op = true
        · have hord : ∀ j, j < ops.size → j ≠ i → Wr ops j → (lsd listed j ↔ j < i) := fun j hj hji hs => hrs j hj hji (by
            rcases hA with hA | hA
            · exact Wr_ord hlt hj hA hs hji
            · rcases hs with hs | hs
              · exact (single_spec hs hlt (Ne.symm hji)).symm
              · exact (gw_spec hs ho hA (Ne.symm hji)).symm)
          have hiq : ∀ j, j < ops.size → Wr ops j → (j < i ↔ j < q) := fun j hj hs => by
            by_cases e : j = i
            · subst e
              exact ⟨fun hh => by omega, fun hh => absurd ((hsg j hj hs).2 hh) hnl⟩
            · rw [← hord j hj e hs]; exact hsg j hj hs
          have hmem : s.m = (T i).m := by
            rw [hm]
            exact T_mem' hT (by omega) hq hiq
          have hop' : aop P cs o.op (fun x => strip cs (s.ev x)) s.m (fun q n => q = r ∧ n = m') := by rw [hmem]; exact hops
          have hsk : cs.all id = false → (∃ r', r = .gd cs r') ∧ m' = s.m := fun hcf => by
            obtain ⟨r', h1, h2⟩ := aop_skip hcf hop'
            exact ⟨⟨r', h1.symm⟩, h2.symm⟩
          by_cases hW : Wr ops i
          · refine ⟨m', i + 1, by omega, by rw [hTs, put_m], fun hwn k hk => ?_, fun j hj hs => ?_, fun _ _ => hop', hsk⟩
            · by_cases e : k = i + 1
              · subst e; rw [hTs, put_m]; exact hwn
              · by_cases e2 : k ≤ q
                · exact hwf k e2
                · rw [T_mem' hT (i := q) (q := k) hq (by omega) (fun j hj hs => by have := hiq j hj hs; omega), ← hm]
                  exact hfn
            · rw [lsd_set h']
              by_cases e : j = i
              · subst e; simp
              · rw [hord j hj e hs]
                constructor
                · rintro (h | h)
                  · omega
                  · exact absurd h e
                · intro h; exact .inl (by omega)
          · have hms : m' = s.m := by
              rcases hmm with hmm | hmm | ⟨hmm, _⟩
              · rw [hmm, hmem]
              · exact absurd (.inl hmm) hW
              · exact absurd (.inr hmm) hW
            exact ⟨m', q, hq, by rw [hms, hm], fun _ => hwf, hset hW, fun _ _ => hop', hsk⟩
        · have hW : ¬ Wr ops i := fun h => hA (.inl h)
          have hw : wrO o.op = false := by
            cases e : wrO o.op with
            | false => rfl
            | true => exact absurd (.inr e) hA
          have hms : m' = (T i).m := by
            rcases hmm with hmm | hmm | ⟨hmm, _⟩
            · exact hmm
            · exact absurd (.inl hmm) hW
            · exact absurd (.inr hmm) hW
          rw [hms] at hops
          have hss : ∀ j, j < ops.size → single ops j = true → (j < i ↔ j < q) := fun j hj hs => by
            have e : j ≠ i := hnW j hW (.inl hs)
            rw [← hrs j hj e (single_spec hs hlt (Ne.symm e)).symm]
            exact hsg j hj (.inl hs)
          refine ⟨s.m, q, hq, hm, fun _ => hwf, hset hW, fun hc' hin => ?_, fun hcf => ?_⟩
          · obtain ⟨p1, p2, p3⟩ := aop_pure hw hc' hops
            refine p3 _ (apure_mem fun id hid => ?_)
            have sgl : ∀ j, j < ops.size → ¬ (j < i ↔ j < q) → single ops j = false := fun j hj hn => by
              cases e : single ops j with
              | false => rfl
              | true => exact absurd (hss j hj e) hn
            rcases Nat.le_total i q with hiq | hiq
            · obtain ⟨x, hx⟩ := apure_rd p1 hid
              rw [hm]
              exact (T_grow hT i q hq hiq (fun j h1 h2 => sgl j (by omega) (by omega))).at_ (hwf i hiq id x hx)
            · have := (T_grow hT q i (by omega) hiq (fun j h1 h2 => sgl j (by omega) (by omega))).at_ (o := id) (by rw [← hm]; exact hin id hid)
              rw [this, hm]
          · obtain ⟨r', h1, h2⟩ := aop_skip hcf hops
            exact ⟨⟨r', h1.symm⟩, rfl⟩
      have next : ∀ a' w', C.FR (({ s with m := mN } : AS).put o.dst r) a' w' → wpAny P .any ops Q' fuel (listed.setIfInBounds i true) a' w' := fun a' w' hf' => by
        refine ih _ a' w' (by simp [hsz]) ⟨fun j o' hj ho' d hd' => ?_⟩ ?_ ⟨_, qN, hf', ?_, ?_, hqN, by rw [put_m]; exact hmN, hwN ?_, hsN⟩
        · rw [lsd_set h'] at hj ⊢
          rcases hj with hj | rfl
          · exact .inl (hL.dn j o' hj ho' d hd')
          · rw [ho] at ho'; cases ho'; exact .inl (hb' d hd')
        · have := filter_lt (p := fun j => !listed.getD j false) (p' := fun j => !(listed.setIfInBounds i true).getD j false) i (fun y hy => by
            have hy' : ¬ lsd (listed.setIfInBounds i true) y := by unfold lsd; simpa using hy
            rw [lsd_set h'] at hy'
            have : ¬ lsd listed y := fun q => hy' (.inl q)
            unfold lsd at this; simpa using this) (by unfold lsd at hnl; simpa using hnl) (by
            have : lsd (listed.setIfInBounds i true) i := (lsd_set h').2 (.inr rfl)
            unfold lsd at this; simp [this]) (List.range ops.size) (by simpa using hlt)
          omega
        · intro j t hj hl
          rw [put_at]
          rw [lsd_set h'] at hl
          by_cases e : o.dst = some t
          · rw [if_pos e]
            have := hp3 j t e hj
            subst this
            rw [hTs, put_at, if_pos e]
          · rw [if_neg e]
            rcases hl with hl | rfl
            · exact hA j t hj hl
            · unfold dsto at hj; rw [ho] at hj; exact absurd hj e
        · intro t ht
          rw [put_at, if_neg]
          · exact hB t (fun j hj hl => ht j hj ((lsd_set h').2 (.inl hl)))
          · intro e; exact ht i (by unfold dsto; rw [ho]; exact e) ((lsd_set h').2 (.inr rfl))
        · obtain ⟨_, _, _, _, hf'⟩ := hf'
          intro o x ho
          have := hf'.mr.nx o x (by rw [put_m]; exact ho)
          rwa [put_m] at this
      have hw := agd_ok hf hg rfl
      obtain ⟨β, κ, A, S, hf⟩ := hf
      unfold wpOp
      rw [ho]
      simp only
      rw [← hw]
      by_cases hc' : cs.all id = true
      · rw [if_pos hc']
        left
        refine aop_ok hf.mr (ev_ok hf hc') hc' rfl (hrun hc' fun id hid => ?_) (fun v w' hl => ?_)
        · obtain ⟨x, p, hp, hpo⟩ := rd_ev hid
          exact ov_hb (ev_ok hf hc' x) (by rw [hp]; exact hpo)
        obtain ⟨r', m'', S', β', κ', A', ⟨rfl, rfl⟩, h2, h3, h4⟩ := hl
        exact next _ _ ⟨β', κ', A', S', hf.step h2 h3 (dst_lt hdst) h4⟩
      · rw [if_neg hc']
        have hcf : cs.all id = false := by simpa using hc'
        obtain ⟨⟨r', h1⟩, h2⟩ := hskp hcf
        subst h1; subst h2
        exact next _ _ ⟨β, κ, A, S, hf.step (Ext.refl _ _ _ _ _ _) hf.mr (dst_lt hdst) (.gd _ _ _ (fun e => absurd e hc') (fun _ => rfl))⟩
  refine key ops.size _ a w (by simp) ⟨fun i o hi => ?_⟩ ?_ ⟨s0, 0, hf, fun j t _ hl => ?_, fun _ _ => rfl, Nat.zero_le _, by rw [t0], fun k hk => ?_, fun j hj hs => ?_⟩
  · exfalso; unfold lsd at hi; simp [Array.getD] at hi
  · have := List.length_filter_le (fun j => !(Array.replicate ops.size false).getD j false) (List.range ops.size)
    simpa using this
  · exfalso; unfold lsd at hl; simp [Array.getD] at hl
  · obtain rfl : k = 0 := by omega
    rw [t0]
    obtain ⟨_, _, _, _, hf⟩ := hf
    exact fun o x ho => hf.mr.nx o x ho
  · unfold lsd; simp [Array.getD]
end
end Go.Proofs.YtofaiiobggnibaaW.AW
