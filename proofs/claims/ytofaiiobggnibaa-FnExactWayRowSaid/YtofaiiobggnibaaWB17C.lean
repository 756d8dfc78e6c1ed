/- Regions that draw their order. Plain lemmas: no statement of the program. -/
import Derived.Test.YtofaiiobggnibaaWB17B
import Derived.Orders
namespace Go.Proofs.YtofaiiobggnibaaW.AW
open Go Go.RowKit
set_option linter.unusedVariables false
set_option linter.unusedSimpArgs false

def bds (o : Oper) : List Nat := (o.after.toList.filter (Region.binds .any ·)).map (·.on)
def nd (acc : List Nat) (o : Oper) : Nat := (bds o).foldl (fun s j => s ||| (2 ^ j ||| acc.getD j 0)) 0
/-- Whom each operation waits for, as bits. -/
def nds : List Oper → List Nat → List Nat
  | [], acc => acc
  | o :: r, acc => nds r (acc ++ [nd acc o])
def dsto (ops : Array Oper) (j : Nat) : Option Tmp := (ops[j]?).bind (·.dst)
def bdsAt (ops : Array Oper) (j : Nat) : List Nat := match ops[j]? with | some o => bds o | none => []
/-- Who is looked at is waited for, or waits; no slot is filled twice. -/
def drawOk (ops : Array Oper) : Bool := (List.range ops.size).all fun i => match ops[i]? with
  | none => true
  | some o => (bds o).all (· < i) && ((o.looksAt ops).all (fun t => (List.range ops.size).all fun j => dsto ops j != some t || ((bds o).contains j || (bdsAt ops j).contains i)) &&
      (List.range ops.size).all (fun j => j == i || (o.dst.isNone || dsto ops j != o.dst)))
/-- Alone: every other operation stands before it or behind it. -/
def single (ops : Array Oper) (i : Nat) : Bool := (fun N => (List.range ops.size).all fun j => j == i || ((N.getD i 0).testBit j || (N.getD j 0).testBit i)) (nds ops.toList [])
/-- It may write. -/
def wrO : Op → Bool
  | .box _ _ | .alloc _ | .store _ _ _ | .buildSlice _ _ _ | .makeSlice _ _ _ | .makeMap _ _ | .mapUpdate _ _ _ _ => true
  | .call c => match c.callee with | .builtin .append | .builtin .delete | .value _ => true | _ => false
  | _ => false
/-- It makes one object and leaves the others. -/
def pmO : Op → Bool
  | .box _ _ | .alloc _ | .buildSlice _ _ _ | .makeSlice _ _ _ | .makeMap _ _ => true
  | .call c => match c.callee with | .builtin .append => true | _ => false
  | _ => false
/-- It makes objects; every other operation that may write stands before it or behind it, or both of them are makers alone. -/
def gw (ops : Array Oper) (i : Nat) : Bool := (fun N => match ops[i]? with
  | none => false
  | some o => wrO o.op && (List.range ops.size).all fun j => j == i || (match ops[j]? with | some p => !wrO p.op || (pmO o.op && pmO p.op) | none => true) || ((N.getD i 0).testBit j || (N.getD j 0).testBit i)) (nds ops.toList [])
/-- Objects made, one behind the other. -/
inductive Grows : Mem → Mem → Prop
  | refl (m) : Grows m m
  | step (m m2 x) (h : Grows m m2) : Grows m (m2.grow none x)
theorem Grows.trans {m m2 m3 : Mem} (h : Grows m m2) (h' : Grows m2 m3) : Grows m m3 := by
  induction h' with
  | refl => exact h
  | step m3 x _ ih => exact .step _ _ x ih
/-- Memory is left, or the operation stands alone, or it makes objects. -/
def mOk (m m' : Mem) (sg gg : Bool) : Prop := m' = m ∨ sg = true ∨ (gg = true ∧ Grows m m')
theorem mOk_id {m : Mem} {sg gg : Bool} : mOk m m sg gg ↔ True := ⟨fun _ => trivial, fun _ => .inl rfl⟩
def arunD (P : Program) (nt : Nat) (ds : List (Option Tmp)) (sg gg : Nat → Bool) : Nat → List Oper → (AS → Prop) → AS → Prop
  | _, [], K, s => K s
  | i, o :: rest, K, s => match agd ds s o.guard with
    | some cs => (o.dst.all (· < nt) = true) ∧ aop P cs o.op (fun x => strip cs (s.ev x)) s.m (fun r m' => mOk s.m m' (sg i) (gg i) ∧ arunD P nt ds sg gg (i + 1) rest K (({ s with m := m' } : AS).put o.dst r))
    | none => False
def Stp (P : Program) (nt : Nat) (ds : List (Option Tmp)) (sg gg : Nat → Bool) (k : Nat) (o : Oper) (s s' : AS) : Prop := ∃ cs r m', agd ds s o.guard = some cs ∧ o.dst.all (· < nt) = true ∧
  aop P cs o.op (fun x => strip cs (s.ev x)) s.m (fun q n => q = r ∧ n = m') ∧ mOk s.m m' (sg k) (gg k) ∧ s' = ({ s with m := m' } : AS).put o.dst r

theorem trace {P : Program} {nt : Nat} {ds : List (Option Tmp)} {sg gg : Nat → Bool} {K : AS → Prop} : ∀ (l : List Oper) (i : Nat) (s : AS), arunD P nt ds sg gg i l K s →
    ∃ T : Nat → AS, T i = s ∧ (∀ k o, l[k]? = some o → Stp P nt ds sg gg (i + k) o (T (i + k)) (T (i + k + 1))) ∧ K (T (i + l.length))
  | [], i, s, h => ⟨fun _ => s, rfl, fun k o hk => by simp at hk, h⟩
  | o :: l, i, s, h => by
    simp only [arunD] at h
    split at h
    · rename_i cs hg
      obtain ⟨h1, h2⟩ := h
      obtain ⟨r, m', ⟨h3, h4⟩, h5⟩ := aop_ex h2
      obtain ⟨T, t1, t2, t3⟩ := trace l (i + 1) _ h4
      refine ⟨fun k => if k = i then s else T k, by simp, fun k o' hk => ?_, ?_⟩
      · cases k with
        | zero =>
          simp at hk; subst hk
          simp only [Nat.add_zero, if_true, if_neg (show i + 1 ≠ i by omega), t1]
          exact ⟨cs, r, m', hg, h1, h5, h3, rfl⟩
        | succ k =>
          simp only [List.getElem?_cons_succ] at hk
          have := t2 k o' hk
          rw [show i + 1 + k = i + (k + 1) by omega] at this
          simp only [if_neg (show i + (k + 1) ≠ i by omega), if_neg (show i + (k + 1) + 1 ≠ i by omega)]
          exact this
      · simp only [List.length_cons, if_neg (show i + (l.length + 1) ≠ i by omega)]
        rw [show i + (l.length + 1) = i + 1 + l.length by omega]; exact t3
    · exact h.elim

theorem foldl_bit (acc : List Nat) (j : Nat) : ∀ (l : List Nat) (s : Nat), (l.foldl (fun s d => s ||| (2 ^ d ||| acc.getD d 0)) s).testBit j = true → s.testBit j = true ∨ ∃ d ∈ l, j = d ∨ (acc.getD d 0).testBit j = true
  | [], s, h => .inl h
  | d :: l, s, h => by
    rcases foldl_bit acc j l _ h with h | ⟨d', h1, h2⟩
    · simp only [Nat.testBit_or, Bool.or_eq_true, Nat.testBit_two_pow, decide_eq_true_eq] at h
      rcases h with h | h | h
      · exact .inl h
      · exact .inr ⟨d, by simp, .inl h.symm⟩
      · exact .inr ⟨d, by simp, .inr h⟩
    · exact .inr ⟨d', by simp [h1], h2⟩
theorem nds_spec : ∀ (l : List Oper) (acc : List Nat), (nds l acc).length = acc.length + l.length ∧ (∀ i, i < acc.length → (nds l acc)[i]? = acc[i]?) ∧
    ∀ k o, l[k]? = some o → ∃ A : List Nat, (∀ i, i < acc.length + k → A[i]? = (nds l acc)[i]?) ∧ A.length = acc.length + k ∧ (nds l acc)[acc.length + k]? = some (nd A o)
  | [], acc => ⟨rfl, fun _ _ => rfl, fun k o h => by simp at h⟩
  | o :: l, acc => by
    obtain ⟨h1, h2, h3⟩ := nds_spec l (acc ++ [nd acc o])
    simp only [List.length_append, List.length_cons, List.length_nil] at h1 h2 h3
    refine ⟨by simp only [nds, List.length_cons]; omega, fun i hi => ?_, fun k o' hk => ?_⟩
    · simp only [nds]; rw [h2 i (by omega), List.getElem?_append_left hi]
    · cases k with
      | zero =>
        simp at hk; subst hk
        refine ⟨acc, fun i hi => ?_, rfl, ?_⟩
        · simp only [nds]; rw [h2 i (by omega), List.getElem?_append_left (by omega)]
        · simp only [nds]; rw [h2 _ (by omega)]; simp
      | succ k =>
        simp only [List.getElem?_cons_succ] at hk
        obtain ⟨A, a1, a2, a3⟩ := h3 k o' hk
        refine ⟨A, fun i hi => ?_, by omega, ?_⟩
        · exact a1 i (by omega)
        · simp only [nds]; rw [show acc.length + (k + 1) = acc.length + (0 + 1) + k by omega]; exact a3
/-- A bit of an operation: someone whom it waits for, or a bit of one of these. -/
theorem nds_bit {ops : Array Oper} {i j : Nat} (h : ((nds ops.toList []).getD i 0).testBit j = true) : ∃ o, ops[i]? = some o ∧ ∃ d ∈ bds o, j = d ∨ (d < i ∧ ((nds ops.toList []).getD d 0).testBit j = true) := by
  obtain ⟨h1, h2, h3⟩ := nds_spec ops.toList []
  cases ho : ops[i]? with
  | none =>
    have : ops.toList.length ≤ i := by simpa using ho
    rw [List.getD_eq_getElem?_getD, List.getElem?_eq_none (by rw [h1]; simpa using this)] at h
    simp at h
  | some o =>
    refine ⟨o, rfl, ?_⟩
    obtain ⟨A, a1, a2, a3⟩ := h3 i o (by simpa using ho)
    simp only [List.length_nil, Nat.zero_add] at a1 a2 a3
    rw [List.getD_eq_getElem?_getD, a3] at h
    rcases foldl_bit A j _ _ h with h | ⟨d, d1, d2⟩
    · simp at h
    · refine ⟨d, d1, d2.imp id fun d2 => ?_⟩
      by_cases hd : d < i
      · exact ⟨hd, by rw [List.getD_eq_getElem?_getD, ← a1 d hd, ← List.getD_eq_getElem?_getD]; exact d2⟩
      · rw [List.getD_eq_getElem?_getD, List.getElem?_eq_none (by omega)] at d2; simp at d2

/-- Listed: a set of operations that holds whom it waits for. -/
structure Lst (ops : Array Oper) (L : Nat → Prop) : Prop where
  dn : ∀ i o, L i → ops[i]? = some o → ∀ d ∈ bds o, L d
theorem Lst.bits {ops : Array Oper} {L : Nat → Prop} (h : Lst ops L) : ∀ (n i : Nat), i < n → (∀ o, ops[i]? = some o → ∀ d ∈ bds o, L d) → ∀ j, ((nds ops.toList []).getD i 0).testBit j = true → L j
  | n + 1, i, hi, hb, j, hj => by
    obtain ⟨o, ho, d, d1, d2⟩ := nds_bit hj
    rcases d2 with rfl | ⟨d2, d3⟩
    · exact hb o ho _ d1
    · exact h.bits n d (by omega) (fun o' ho' => h.dn d o' (hb o ho d d1) ho') j d3

section
variable {P : Program} {C : Cx} {ops : Array Oper}
theorem drawn_FR {s : AS} {a : Act} {w : World} (h : C.FR s a w) : C.FR s a { w with drawn := w.drawn + 1 } := by
  obtain ⟨β, κ, A, S, h⟩ := h
  have hx : Ext w S s.m β κ A { w with drawn := w.drawn + 1 } S s.m β κ A := ⟨rfl, rfl, rfl, Nat.le_refl _, fun _ h => h, fun _ _ => ⟨rfl, rfl⟩, fun _ _ _ => rfl, Nat.le_refl _, fun _ h => h, fun k h => .inr h, fun _ h => .inl h⟩
  refine ⟨β, κ, A, S, h.df, h.sz, fun t => (h.tv t).ext hx h.mr, ⟨fun o x ho => ?_, h.mr.ns, h.mr.dj, h.mr.nx, h.mr.lt⟩, h.ex.trans hx⟩
  exact OB.move (w := w) (w' := { w with drawn := w.drawn + 1 }) (fun _ _ => ⟨rfl, rfl⟩) (fun _ h => h) (fun _ h => h) (fun _ _ => rfl) (h.mr.nx o x ho) (fun _ _ => rfl) (h.mr.ob o x ho)
theorem drawOk_spec (h : drawOk ops = true) {i : Nat} {o : Oper} (ho : ops[i]? = some o) :
    (∀ d ∈ bds o, d < i) ∧ (∀ t ∈ o.looksAt ops, ∀ j, dsto ops j = some t → j ∈ bds o ∨ i ∈ bdsAt ops j) ∧ (∀ j t, o.dst = some t → dsto ops j = some t → j = i) := by
  have hi : i < ops.size := (Array.getElem?_eq_some_iff.1 ho).1
  have lt : ∀ j t, dsto ops j = some t → j < ops.size := fun j t hj => by
    unfold dsto at hj
    cases q : ops[j]? with
    | none => rw [q] at hj; cases hj
    | some _ => exact (Array.getElem?_eq_some_iff.1 q).1
  simp only [drawOk, List.all_eq_true, List.mem_range] at h
  have h1 := h i hi
  rw [ho] at h1
  simp only [Bool.and_eq_true, List.all_eq_true, decide_eq_true_eq, List.mem_range, Bool.or_eq_true, bne_iff_ne, beq_iff_eq, List.contains_iff_mem] at h1
  refine ⟨h1.1, fun t ht j hj => ?_, fun j t ht hj => ?_⟩
  · rcases h1.2.1 t ht j (lt j t hj) with h2 | h2 | h2
    · exact absurd hj h2
    · exact .inl h2
    · exact .inr h2
  · rcases h1.2.2 j (lt j t hj) with h2 | h2 | h2
    · exact h2
    · rw [ht] at h2; cases h2
    · exact absurd (hj.trans ht.symm) h2
theorem single_spec {i j : Nat} (h : single ops i = true) (hj : j < ops.size) (hn : j ≠ i) : ((nds ops.toList []).getD i 0).testBit j = true ∨ ((nds ops.toList []).getD j 0).testBit i = true := by
  simp only [single, List.all_eq_true, List.mem_range, Bool.or_eq_true, beq_iff_eq] at h
  exact (h j hj).resolve_left hn
theorem bit_lt (hd : drawOk ops = true) : ∀ (n i j : Nat), i < n → ((nds ops.toList []).getD i 0).testBit j = true → j < i
  | n + 1, i, j, hi, h => by
    obtain ⟨o, ho, d, d1, d2⟩ := nds_bit h
    have := (drawOk_spec hd ho).1 d d1
    rcases d2 with rfl | ⟨_, d3⟩
    · exact this
    · exact Nat.lt_trans (bit_lt hd n d j (by omega) d3) this
theorem gw_spec {i j : Nat} {p : Oper} (h : gw ops i = true) (hp : ops[j]? = some p) (hw : wrO p.op = true) (hq : pmO p.op = false) (hn : j ≠ i) : ((nds ops.toList []).getD i 0).testBit j = true ∨ ((nds ops.toList []).getD j 0).testBit i = true := by
  have hj : j < ops.size := (Array.getElem?_eq_some_iff.1 hp).1
  unfold gw at h
  split at h
  · cases h
  · simp only [Bool.and_eq_true, List.all_eq_true, List.mem_range, Bool.or_eq_true, beq_iff_eq] at h
    rcases h.2 j hj with (h1 | h1) | h1
    · exact absurd h1 hn
    · rw [hp] at h1; simp [hw, hq] at h1
    · exact h1
theorem gw_wr {i : Nat} (h : gw ops i = true) : ∃ o, ops[i]? = some o ∧ wrO o.op = true := by
  unfold gw at h
  split at h
  · cases h
  · rename_i o ho
    simp only [Bool.and_eq_true] at h
    exact ⟨o, ho, h.1⟩
/-- Those that may write. -/
def Wr (ops : Array Oper) (i : Nat) : Prop := single ops i = true ∨ gw ops i = true
/-- Where an operation can be next, those that it can be told from stand as in the text. -/
theorem ready_ord (hd : drawOk ops = true) {L : Nat → Prop} (hL : Lst ops L) {i j : Nat} {o : Oper} (ho : ops[i]? = some o) (hb : ∀ d ∈ bds o, L d) (hn : ¬ L i) (key : ((nds ops.toList []).getD i 0).testBit j = true ∨ ((nds ops.toList []).getD j 0).testBit i = true) : L j ↔ j < i := by
  rcases key with k | k
  · exact ⟨fun _ => bit_lt hd _ i j (Nat.lt_succ_self _) k, fun _ => hL.bits _ i (Nat.lt_succ_self _) (fun o' ho' => by rw [ho] at ho'; cases ho'; exact hb) j k⟩
  · have hij := bit_lt hd _ j i (Nat.lt_succ_self _) k
    exact ⟨fun h => absurd (hL.bits _ j (Nat.lt_succ_self _) (fun o' ho' => hL.dn j o' h ho') i k) hn, fun h => by omega⟩

/-- The object that an operation reads. -/
def rdO (op : Op) (e : Operand → PV) : Option Id := match op with
  | .load _ x => match e x with | .bp o _ => some o | .pt o _ _ _ _ => some o | _ => none
  | .lookup _ x _ _ => match e x with | .mp o => some o | _ => none
  | .convert _ _ x => match e x with | .sl o _ _ _ _ => some o | _ => none
  | _ => none
theorem apure_mem {cs : List Bool} {op : Op} {e : Operand → PV} {m m2 : Mem} (h : ∀ o, rdO op e = some o → m2.o o = m.o o) : apure P cs op e m2 = apure P cs op e m := by
  cases op
  case load t x =>
    cases hx : e x <;> simp only [rdO, hx, Option.some.injEq, forall_eq', reduceCtorEq, false_implies, implies_true] at h <;> simp only [apure, hx, h]
  case lookup t x i ok =>
    cases hx : e x <;> simp only [rdO, hx, Option.some.injEq, forall_eq', reduceCtorEq, false_implies, implies_true] at h <;> simp only [apure, hx] <;> (generalize e i = p; cases p <;> first | rfl | (rename_i ik _; cases ik <;> first | rfl | simp only [h]))
  case convert s d x =>
    cases hx : e x <;> simp only [rdO, hx, Option.some.injEq, forall_eq', reduceCtorEq, false_implies, implies_true] at h <;> simp only [apure, aconvM, hx] <;> first | rfl | (rename_i sz n g; rcases sz with _ | _ | sz <;> rfl) | (rename_i o sz n off len; rcases sz with _ | _ | sz <;> first | rfl | (simp only [Nat.zero_add, h]))
  case unOp u t x => cases u <;> rfl
  case slice t x lo hi mx => cases mx <;> rfl
  case makeFunc f a b => cases f <;> rfl
  all_goals rfl
theorem apure_rd {cs : List Bool} {op : Op} {e : Operand → PV} {m : Mem} {o : Id} (h : (apure P cs op e m).ok) (hr : rdO op e = some o) : ∃ x, m.o o = some x := by
  cases op <;> simp only [rdO] at hr <;> try (cases hr; done)
  case load t x =>
    simp only [apure] at h
    cases hx : e x <;> simp only [hx] at hr h <;> try (cases hr; done)
    · cases hr
      split at h
      · exact ⟨_, by assumption⟩
      · exact h.elim
    · cases hr
      split at h
      · exact ⟨_, by assumption⟩
      · exact h.elim
  case lookup t x i ok =>
    simp only [apure] at h
    cases hx : e x <;> simp only [hx] at hr h <;> try (cases hr; done)
    cases hr
    split at h
    · rename_i e1 _
      cases e1
      split at h
      · exact ⟨_, by assumption⟩
      · exact h.elim
    · exact h.elim
  case convert s d x =>
    simp only [apure, aconvM] at h
    cases hx : e x <;> simp only [hx] at hr h <;> try (cases hr; done)
    cases hr
    split at h
    · rename_i e1; cases e1
    · rename_i e1; cases e1
    · rename_i e1; cases e1
      split at h
      · exact ⟨_, by assumption⟩
      · exact h.elim
    · rename_i h1 h2 h3
      rename_i sz _ _ _
      simp only [aconv, no] at h
def WF (m : Mem) : Prop := ∀ o x, m.o o = some x → hb o m.nx
def idOf : PV → Option Id
  | .bp o _ => some o | .pt o _ _ _ _ => some o | .mp o => some o | .sl o _ _ _ _ => some o | _ => none
theorem rd_ev {op : Op} {e : Operand → PV} {o : Id} (h : rdO op e = some o) : ∃ x p, e x = p ∧ idOf p = some o := by
  cases op <;> simp only [rdO] at h <;> try (cases h; done)
  all_goals
    split at h <;> first | (cases h; done) | (cases h; rename_i hx; exact ⟨_, _, hx, rfl⟩)
theorem RV.noId {w : World} {S : Nat → Prop} {v : Value} {p : PV} (h : RV w S v p) : idOf p = none := by cases h <;> rfl
theorem ov_hb {β κ : Id → Nat} {D : Id → Prop} {w : World} {S : Nat → Prop} {v : Value} {p : PV} {o : Id} (h : OV β κ D w S v p) (ho : idOf p = some o) : D o := by
  cases h <;> first
    | (rename_i h; rw [RV.noId h] at ho; cases ho; done)
    | (simp only [idOf] at ho; cases ho; done)
    | (simp only [idOf] at ho; injection ho with ho; subst ho; assumption)
/-- What is no writer and leaves memory: what it yields. -/
theorem aop_pure {cs : List Bool} {op : Op} {e : Operand → PV} {m : Mem} {r : PV} (hw : wrO op = false) (hc : cs.all id = true) (h : aop P cs op e m (fun q n => q = r ∧ n = m)) : (apure P cs op e m).ok ∧ r = gdv cs (apure P cs op e m).v ∧ ∀ m2, apure P cs op e m2 = apure P cs op e m → aop P cs op e m2 (fun q n => q = r ∧ n = m2) := by
  have fin : ∀ (op : Op), ((cs.all id = true → (apure P cs op e m).ok) ∧ gdv cs (apure P cs op e m).v = r ∧ m = m) → (∀ m2, aop P cs op e m2 (fun q n => q = r ∧ n = m2) = ((cs.all id = true → (apure P cs op e m2).ok) ∧ gdv cs (apure P cs op e m2).v = r ∧ m2 = m2)) → (apure P cs op e m).ok ∧ r = gdv cs (apure P cs op e m).v ∧ ∀ m2, apure P cs op e m2 = apure P cs op e m → aop P cs op e m2 (fun q n => q = r ∧ n = m2) :=
    fun op h1 h2 => ⟨h1.1 hc, h1.2.1.symm, fun m2 h3 => by rw [h2, h3]; exact ⟨fun _ => h1.1 hc, h1.2.1, rfl⟩⟩
  cases op
  case convert s d x =>
    cases hx : e x
    case str b =>
      by_cases hu : tkU8 P d
      · simp only [aop, hx, if_pos hu, onG, if_pos hc] at h
        have := congrArg Mem.nx h.2.2
        simp [Mem.grow] at this
      · refine fin _ ?_ (fun m2 => ?_)
        · simpa only [aop, hx, if_neg hu] using h
        · simp only [aop, hx, if_neg hu]
    all_goals
      refine fin _ ?_ (fun m2 => ?_)
      · simpa only [aop, hx] using h
      · simp only [aop, hx]
  case call c =>
    simp only [wrO] at hw
    cases hcc : c.callee
    case builtin bi =>
      rw [hcc] at hw
      refine fin _ ?_ (fun m2 => ?_)
      · cases bi <;> simp only at hw <;> first | (cases hw; done) | simpa only [aop, hcc] using h
      · cases bi <;> simp only at hw <;> first | (cases hw; done) | simp only [aop, hcc]
    case value f => rw [hcc] at hw; cases hw
    case invoke a b => simp only [aop, hcc] at h
  all_goals first
    | (cases hw; done)
    | (refine fin _ ?_ (fun m2 => ?_)
       · exact h
       · rfl)
theorem Grows.nx {m m2 : Mem} (h : Grows m m2) : m.nx ≤ m2.nx := by
  induction h with
  | refl => exact Nat.le_refl _
  | step m2 x h ih => exact Nat.le_succ_of_le ih
theorem Grows.at_ {m m2 : Mem} (h : Grows m m2) {o : Id} (ho : hb o m.nx) : m2.o o = m.o o := by
  induction h with
  | refl => rfl
  | step m2 x h ih =>
    have := h.nx
    simp only [Mem.grow, Mem.gone, upd]
    rw [if_neg (hb_ne (ho.mono this)), ih]
theorem Grows.wf {m m2 : Mem} (h : Grows m m2) (hw : WF m) : WF m2 := by
  induction h with
  | refl => exact hw
  | step m2 x h ih =>
    intro o y ho
    simp only [Mem.grow, Mem.gone, upd] at ho ⊢
    split at ho
    · rename_i e; subst e; simp [hb]
    · exact (ih o y ho).mono (Nat.le_succ _)
def slO (p : PV) : Option Id := match p with | .sl o _ _ _ _ => some o | _ => none
/-- The object that a maker reads. -/
def rdM (op : Op) (e : Operand → PV) : Option Id := match op with
  | .call c => match c.args.toList with | [_, x] => slO (e x) | _ => none
  | _ => none
theorem rdM_ev {op : Op} {e : Operand → PV} {o : Id} (h : rdM op e = some o) : ∃ x p, e x = p ∧ idOf p = some o := by
  unfold rdM at h
  split at h
  · split at h
    · unfold slO at h
      split at h
      · rename_i hx; cases h; exact ⟨_, _, hx, rfl⟩
      · cases h
    · cases h
  · cases h
theorem asrc_mem {m m2 : Mem} {p : PV} (h : ∀ o, slO p = some o → m2.o o = m.o o) : asrc m2 p = asrc m p ∧ aflat m2 p = aflat m p := by
  cases p <;> first | exact ⟨rfl, rfl⟩ | (rename_i o sz n off len; have := h o rfl; simp only [asrc, aflat, this]; exact ⟨trivial, trivial⟩)
/-- A maker makes the same in any memory in which it reads the same. -/
theorem aop_mk {P : Program} {cs : List Bool} {op : Op} {e : Operand → PV} {m m' : Mem} {r : PV} (hp : pmO op = true) (hc : cs.all id = true) (h : aop P cs op e m (fun q n => q = r ∧ n = m')) (hwf : WF m) (hg : m' = m ∨ Grows m m') :
    ∃ x, m' = m.grow none x ∧ ∀ m2 : Mem, m2.nx = m.nx → (∀ id, rdM op e = some id → m2.o id = m.o id) → aop P cs op e m2 (fun q n => q = r ∧ n = m2.grow none x) := by
  cases op <;> try (cases hp; done)
  case box t x =>
    simp only [aop, onG, if_pos hc] at h ⊢
    split at h
    · rename_i hv
      obtain ⟨rfl, rfl⟩ := h
      exact ⟨_, rfl, fun m2 e2 _ => by simp only [hv, e2]; exact ⟨trivial, trivial⟩⟩
    · exact h.elim
  case alloc t =>
    simp only [aop, onG, if_pos hc] at h ⊢
    obtain ⟨h1, rfl, rfl⟩ := h
    exact ⟨_, rfl, fun m2 e2 _ => ⟨h1, by rw [e2], rfl⟩⟩
  case buildSlice t n ps =>
    simp only [aop, onG, if_pos hc] at h ⊢
    split at h
    · rename_i hv
      obtain ⟨h1, rfl, rfl⟩ := h
      exact ⟨_, rfl, fun m2 e2 _ => by simp only [hv]; exact ⟨h1, by rw [e2], by first | rfl | trivial⟩⟩
    · exact h.elim
  case makeSlice t l c =>
    simp only [aop, onG, if_pos hc] at h ⊢
    split at h
    · rename_i hl hc'
      obtain ⟨h1, rfl, rfl⟩ := h
      exact ⟨_, rfl, fun m2 e2 _ => by simp only [hl, hc']; exact ⟨h1, by rw [e2], by first | rfl | trivial⟩⟩
    · exact h.elim
  case makeMap t r =>
    simp only [aop, onG, if_pos hc] at h ⊢
    obtain ⟨h1, h2, rfl, rfl⟩ := h
    exact ⟨_, rfl, fun m2 e2 _ => ⟨h1, h2, by rw [e2], rfl⟩⟩
  case call c =>
    simp only [pmO] at hp
    split at hp
    · rename_i hcc
      simp only [aop, hcc, onG, if_pos hc] at h ⊢
      split at h
      · rename_i s x t t' ha ht
        obtain ⟨h0, h⟩ := h
        simp only [aappend] at h
        split at h
        · rename_i k gs sz hs
          split at h
          · rename_i hes
            obtain ⟨h1, h2, rfl, rfl⟩ := h
            refine ⟨_, rfl, fun m2 e2 hr => ⟨h0, ?_⟩⟩
            have := asrc_mem (m := m) (m2 := m2) (p := e x) (fun o ho => hr o (by simp only [rdM, ha]; exact ho))
            simp only [aappend, hes, this.1, this.2, hs]
            exact ⟨h1, h2, by rw [e2], by first | rfl | trivial⟩
          · rename_i o sz0 n off len hes
            split at h
            · rename_i sz' n' g ho
              obtain ⟨h1, h2, rfl, rfl⟩ := h
              exfalso
              have hb1 := hwf _ _ ho
              have hgo : (m.grow (some o) (.row (tyD P t).es (len + k) (fun i => if i < len then g i else gs (i - len)))).o o = none := by
                simp only [Mem.grow, Mem.gone, upd]
                rw [if_neg (hb_ne hb1)]; simp
              rcases hg with hg | hg
              · rw [hg, ho] at hgo; cases hgo
              · rw [hg.at_ hb1, ho] at hgo; cases hgo
            · exact h.elim
          · exact h.elim
        · exact h.elim
      · exact h.elim
    · cases hp
theorem aop_rdM {P : Program} {cs : List Bool} {op : Op} {e : Operand → PV} {m m' : Mem} {r : PV} (hp : pmO op = true) (hc : cs.all id = true) (h : aop P cs op e m (fun q n => q = r ∧ n = m')) {o : Id} (hr : rdM op e = some o) : m.o o ≠ none := by
  intro hn
  cases op <;> try (cases hr; done)
  case call c =>
    simp only [pmO] at hp
    split at hp
    · rename_i hcc
      simp only [aop, hcc, onG, if_pos hc] at h
      simp only [rdM] at hr
      split at hr
      · rename_i s x ha
        unfold slO at hr
        split at hr
        · rename_i q sz n off len hx
          cases hr
          split at h
          · rename_i s' x' t t' ha' ht'
            rw [ha] at ha'
            cases ha'
            have h := h.2
            simp only [aappend, hx, asrc, hn] at h
          · exact h
        · cases hr
      · cases hr
    · cases hp
theorem put_at (s : AS) (d : Option Tmp) (v : PV) (t : Tmp) : (s.put d v).t t = if d = some t then v else s.t t := by
  cases d with
  | none => rfl
  | some d =>
    show upd s.t d v t = _
    unfold upd
    by_cases e : t = d
    · subst e; simp
    · rw [if_neg e, if_neg (fun q => e (by injection q with q; exact q.symm))]
theorem put_m (s : AS) (d : Option Tmp) (v : PV) : (s.put d v).m = s.m := by cases d <;> rfl
theorem AS.ext' {s s' : AS} (h1 : ∀ t, s.t t = s'.t t) (h2 : s.m = s'.m) : s = s' := by
  cases s; cases s'
  simp only [AS.mk.injEq]
  exact ⟨funext h1, h2⟩

section draw
variable {T : Nat → AS} (hd : drawOk ops = true) (hT : ∀ k o, ops[k]? = some o → Stp P C.nt (ops.toList.map (·.dst)) (single ops) (gw ops) k o (T k) (T (k + 1)))
include hd hT
theorem T_dst (j : Nat) (t : Tmp) (hj : dsto ops j = some t) : ∀ k, j < k → k ≤ ops.size → (T k).t t = (T (j + 1)).t t
  | k + 1, h1, h2 => by
    by_cases e : k = j
    · subst e; rfl
    · rw [← T_dst j t hj k (by omega) (by omega)]
      have hk : ops[k]? = some ops[k] := by simp
      obtain ⟨cs, r, m', _, _, _, _, hs⟩ := hT k _ hk
      rw [hs, put_at, if_neg]
      intro hdst
      exact e ((drawOk_spec hd hk).2.2 j t hdst hj).symm
omit hd in
theorem T_old (t : Tmp) : ∀ k, k ≤ ops.size → (∀ j, j < k → dsto ops j ≠ some t) → (T k).t t = (T 0).t t
  | 0, _, _ => rfl
  | k + 1, h2, h => by
    rw [← T_old t k (by omega) (fun j hj => h j (by omega))]
    have hk : ops[k]? = some ops[k] := by simp
    obtain ⟨cs, r, m', _, _, _, _, hs⟩ := hT k _ hk
    rw [hs, put_at, if_neg]
    intro hdst
    exact h k (by omega) (by unfold dsto; rw [hk]; exact hdst)
omit hd in
theorem T_same {k : Nat} (hk : k < ops.size) (h : single ops k = false) (h' : gw ops k = false) : (T (k + 1)).m = (T k).m := by
  have hk : ops[k]? = some ops[k] := by simp
  obtain ⟨cs, r, m', _, _, _, hm, hs⟩ := hT k _ hk
  rw [hs, put_m]
  rcases hm with hm | hm | ⟨hm, _⟩
  · exact hm
  · rw [h] at hm; cases hm
  · rw [h'] at hm; cases hm
omit hd in
theorem T_grow1 {k : Nat} (hk : k < ops.size) (h : single ops k = false ∨ (T (k + 1)).m = (T k).m) : Grows (T k).m (T (k + 1)).m := by
  rcases h with h | h
  · have hk : ops[k]? = some ops[k] := by simp
    obtain ⟨cs, r, m', _, _, _, hm, hs⟩ := hT k _ hk
    rw [hs, put_m]
    rcases hm with hm | hm | ⟨_, hm⟩
    · rw [hm]; exact .refl _
    · rw [h] at hm; cases hm
    · exact hm
  · rw [h]; exact .refl _
omit hd in
theorem T_grow (i : Nat) : ∀ q, q ≤ ops.size → i ≤ q → (∀ j, i ≤ j → j < q → single ops j = false ∨ (T (j + 1)).m = (T j).m) → Grows (T i).m (T q).m
  | 0, _, h, _ => by rw [show i = 0 by omega]; exact .refl _
  | q + 1, h1, h2, h3 => by
    by_cases e : i = q + 1
    · rw [e]; exact .refl _
    · exact (T_grow i q (by omega) (by omega) (fun j a b => h3 j a (by omega))).trans (T_grow1 hT (by omega) (h3 q (by omega) (by omega)))
end draw

def lsd (listed : Array Bool) (j : Nat) : Prop := listed.getD j false = true
theorem lsd_set {listed : Array Bool} {i j : Nat} (hi : i < listed.size) : lsd (listed.setIfInBounds i true) j ↔ lsd listed j ∨ j = i := by
  unfold lsd
  simp only [Array.getD_eq_getD_getElem?, Array.getElem?_setIfInBounds]
  by_cases e : i = j
  · subst e; simp [hi]
  · simp [e, Ne.symm e]
theorem filter_lt {α : Type} {p p' : α → Bool} (x : α) (h : ∀ y, p' y = true → p y = true) (h1 : p x = true) (h2 : p' x = false) : ∀ l : List α, x ∈ l → (l.filter p').length < (l.filter p).length
  | y :: l, hx => by
    have le : ∀ l : List α, (l.filter p').length ≤ (l.filter p).length := fun l => by
      induction l with
      | nil => simp
      | cons z l ih =>
        simp only [List.filter_cons]
        cases hz : p' z with
        | true => simp [h z hz, ih]
        | false => cases hz' : p z <;> simp <;> omega
    simp only [List.filter_cons]
    by_cases e : x = y
    · subst e
      simp [h1, h2]
      have := le l; omega
    · have ih := filter_lt x h h1 h2 l (by simpa [e] using hx)
      cases hz : p' y with
      | true => simp [h y hz, ih]
      | false => cases hz' : p y <;> simp <;> omega
theorem all_listed (hd : drawOk ops = true) {listed : Array Bool} (hs : listed.size = ops.size) (hr : Region.ready .any ops listed = []) : ∀ n i, i < n → i < ops.size → lsd listed i
  | n + 1, i, hn, hi => by
    by_cases hl : lsd listed i
    · exact hl
    have ho : ops[i]? = some ops[i] := by simp
    have : i ∈ Region.ready .any ops listed := by
      rw [mem_ready]
      refine ⟨?_, _, ho, fun e he hb => ?_⟩
      · unfold lsd at hl
        have h' : i < listed.size := by omega
        simpa [Array.getD, h'] using hl
      · have hd' : e.on ∈ bds ops[i] := by simp only [bds, List.mem_map, List.mem_filter]; exact ⟨e, ⟨by simpa using he, hb⟩, rfl⟩
        have hlt := (drawOk_spec hd ho).1 _ hd'
        exact all_listed hd hs hr n e.on (by omega) (by omega)
    rw [hr] at this; simp at this
theorem ev_same {s s' : AS} {o : Oper} (h : ∀ t ∈ o.looksAt ops, s.t t = s'.t t) {x : Operand} (hx : x ∈ o.op.operands) : s.ev x = s'.ev x := by
  cases x with
  | tmp t => exact h t (List.mem_append_left _ (List.mem_filterMap.2 ⟨.tmp t, by simpa using hx, rfl⟩))
  | _ => rfl
theorem agd_same {s s' : AS} {o : Oper} (h : ∀ t ∈ o.looksAt ops, s.t t = s'.t t) : agd (ops.toList.map (·.dst)) s o.guard = agd (ops.toList.map (·.dst)) s' o.guard := by
  cases hg : o.guard with
  | none => rfl
  | some g =>
    obtain ⟨j, b⟩ := g
    unfold agd
    cases ht : gtmp (ops.toList.map (·.dst)) j with
    | none => simp only [ht]
    | some t =>
      have : t ∈ o.looksAt ops := by
        refine List.mem_append_right _ ?_
        rw [hg]
        have : (ops[j]?).bind (·.dst) = some t := by
          simp only [gtmp, List.getElem?_map] at ht
          have e0 : ops.toList[j]? = ops[j]? := by simp
          rw [e0] at ht
          cases hq : ops[j]? with
          | none => rw [hq] at ht; cases ht
          | some o' => rw [hq] at ht; exact ht
        simp [this]
      simp only [ht, h t this]
theorem T_eqm {T : Nat → AS} (i : Nat) : ∀ q, i ≤ q → (∀ j, i ≤ j → j < q → (T (j + 1)).m = (T j).m) → (T q).m = (T i).m
  | 0, h, _ => by rw [show i = 0 by omega]
  | q + 1, h, h2 => by
    by_cases e : i = q + 1
    · rw [e]
    · rw [h2 q (by omega) (by omega)]; exact T_eqm i q (by omega) (fun j a b => h2 j a (by omega))
theorem T_mono {T : Nat → AS} {q : Nat} (h : ∀ k, k < q → (T k).m.nx ≤ (T (k + 1)).m.nx) (i : Nat) : ∀ j, i ≤ j → j ≤ q → (T i).m.nx ≤ (T j).m.nx
  | 0, hi, _ => by rw [show i = 0 by omega]; exact Nat.le_refl _
  | j + 1, hi, hj => by
    by_cases e : i = j + 1
    · rw [e]; exact Nat.le_refl _
    · exact Nat.le_trans (T_mono h i j (by omega) (by omega)) (h j (by omega))
/-- A name is in use from the start, or someone gave it out. -/
theorem tele {T : Nat → AS} (o : Id) : ∀ n, (∀ k, k < n → (T k).m.nx ≤ (T (k + 1)).m.nx) → (hb o (T n).m.nx ↔ hb o (T 0).m.nx ∨ ∃ j, j < n ∧ hb o (T (j + 1)).m.nx ∧ ¬ hb o (T j).m.nx)
  | 0, _ => ⟨.inl, fun h => h.elim id (fun ⟨j, h, _⟩ => absurd h (Nat.not_lt_zero _))⟩
  | n + 1, h => by
    have ih := tele o n (fun k hk => h k (by omega))
    constructor
    · intro h1
      by_cases h2 : hb o (T n).m.nx
      · rcases ih.1 h2 with h3 | ⟨j, h3, h4⟩
        · exact .inl h3
        · exact .inr ⟨j, by omega, h4⟩
      · exact .inr ⟨n, Nat.lt_succ_self _, h1, h2⟩
    · rintro (h1 | ⟨j, h1, h2, h3⟩)
      · exact (ih.2 (.inl h1)).mono (h n (by omega))
      · by_cases e : j = n
        · subst e; exact h2
        · exact (ih.2 (.inr ⟨j, by omega, h2, h3⟩)).mono (h n (by omega))
/-- What is known once some of the operations are carried out. -/
structure Inv (C : Cx) (ops : Array Oper) (T : Nat → AS) (s0 : AS) (listed : Array Bool) (a : Act) (w : World) (s : AS) (D : Id → Prop) (q : Nat) : Prop where
  fr : C.FRD D s a w
  tA : ∀ j t, dsto ops j = some t → lsd listed j → s.t t = (T (j + 1)).t t
  tB : ∀ t, (∀ j, dsto ops j = some t → ¬ lsd listed j) → s.t t = s0.t t
  q_ : q ≤ ops.size
  l1 : ∀ j, j < ops.size → lsd listed j → j < q ∨ (T (j + 1)).m = (T j).m
  l2 : ∀ j, j < q → single ops j = true → lsd listed j
  wf : ∀ k, k ≤ q → WF (T k).m
  mo : ∀ k, k < q → (T k).m.nx ≤ (T (k + 1)).m.nx
  dd : ∀ o, D o ↔ hb o (T 0).m.nx ∨ ∃ j, j < ops.size ∧ lsd listed j ∧ hb o (T (j + 1)).m.nx ∧ ¬ hb o (T j).m.nx
  mm : ∀ o x, s.m.o o = some x ↔ D o ∧ (T q).m.o o = some x
  nx : s.m.nx = (T q).m.nx
  n0 : C.m0.nx ≤ (T 0).m.nx
theorem Inv.dhb {T : Nat → AS} {s0 : AS} {listed : Array Bool} {a : Act} {w : World} {s : AS} {D : Id → Prop} {q : Nat} (h : Inv C ops T s0 listed a w s D q) {o : Id} (ho : D o) : hb o (T q).m.nx := by
  rcases (h.dd o).1 ho with h1 | ⟨j, h1, h2, h3, h4⟩
  · exact h1.mono (T_mono h.mo 0 q (Nat.zero_le _) (Nat.le_refl _))
  · rcases h.l1 j h1 h2 with h5 | h5
    · exact h3.mono (T_mono h.mo (j + 1) q h5 (Nat.le_refl _))
    · rw [h5] at h3; exact absurd h3 h4
theorem Cx.FRD.nx {D : Id → Prop} {t : Nat → PV} {m : Mem} {a : Act} {w : World} (h : C.FRD D ⟨t, m⟩ a w) {m2 : Mem} (ho : m2.o = m.o) (hn : C.m0.nx ≤ m2.nx) : C.FRD D ⟨t, m2⟩ a w := by
  obtain ⟨β, κ, A, S, h⟩ := h
  obtain ⟨mo, mn⟩ := m
  obtain ⟨mo2, mn2⟩ := m2
  simp only at ho
  subst ho
  exact ⟨β, κ, A, S, h.df, h.sz, h.tv, ⟨h.mr.ob, h.mr.ns, h.mr.dj, h.mr.nx, h.mr.lt⟩, ⟨h.ex.os, h.ex.tape, h.ex.output, h.ex.size, h.ex.sub, h.ex.be, h.ex.keep, hn, h.ex.dl, h.ex.new, h.ex.snew⟩⟩
theorem mem_ext {m m2 : Mem} (h1 : m.o = m2.o) (h2 : m.nx = m2.nx) : m = m2 := by cases m; cases m2; simp_all
/-- THE RULE of a region that draws its order: the walk in the order of the text serves. -/
theorem draw_ok {K : AS → Prop} {Q' : Exit → Act → World → Prop} (hd : drawOk ops = true) (hK : ∀ s a w, C.FR s a w → K s → Q' .normal a w) (s0 : AS)
    (h : arunD P C.nt (ops.toList.map (·.dst)) (single ops) (gw ops) 0 ops.toList K s0) (a : Act) (w : World) (hf : C.FR s0 a w) : wpAny P .any ops Q' ops.size (Array.replicate ops.size false) a w := by
  obtain ⟨T, t0, hT, tK⟩ := trace _ _ _ h
  simp only [Nat.zero_add, Array.length_toList] at hT tK
  replace hT : ∀ k o, ops[k]? = some o → Stp P C.nt (ops.toList.map (·.dst)) (single ops) (gw ops) k o (T k) (T (k + 1)) := fun k o hk => hT k o (by simpa using hk)
  have key : ∀ (fuel : Nat) (listed : Array Bool) (a : Act) (w : World), listed.size = ops.size → Lst ops (lsd listed) → ((List.range ops.size).filter fun j => !listed.getD j false).length ≤ fuel →
      (∃ s D q, Inv C ops T s0 listed a w s D q) → wpAny P .any ops Q' fuel listed a w := by
    intro fuel
    have done : ∀ (listed : Array Bool) (a : Act) (w : World), listed.size = ops.size → (∃ s D q, Inv C ops T s0 listed a w s D q) → (∀ i, i < ops.size → lsd listed i) → Q' .normal a w := by
      intro listed a w hsz ⟨s, D, q, I⟩ hall
      have same : ∀ j, j < ops.size → ¬ j < q → (T (j + 1)).m = (T j).m := fun j hj hq => (I.l1 j hj (hall j hj)).resolve_left hq
      have hTq : (T ops.size).m = (T q).m := T_eqm q ops.size I.q_ (fun j a b => same j b (by omega))
      have mono : ∀ k, k < ops.size → (T k).m.nx ≤ (T (k + 1)).m.nx := fun k hk => by
        by_cases hq : k < q
        · exact I.mo k hq
        · rw [same k hk hq]; exact Nat.le_refl _
      have hD : ∀ o, D o ↔ hb o (T ops.size).m.nx := fun o => by
        rw [I.dd, tele o ops.size mono]
        constructor
        · rintro (h1 | ⟨j, h1, _, h2⟩)
          · exact .inl h1
          · exact .inr ⟨j, h1, h2⟩
        · rintro (h1 | ⟨j, h1, h2⟩)
          · exact .inl h1
          · exact .inr ⟨j, h1, hall j h1, h2⟩
      have ho : (T ops.size).m.o = s.m.o := funext fun o => by
        apply Option.ext
        intro x
        rw [I.mm, hD, hTq]
        exact ⟨fun hx => ⟨I.wf q (Nat.le_refl _) o x hx, hx⟩, fun hx => hx.2⟩
      have : (⟨s.t, (T ops.size).m⟩ : AS) = T ops.size := by
        refine AS.ext' (fun t => ?_) rfl
        by_cases ht : ∃ j, dsto ops j = some t
        · obtain ⟨j, hj⟩ := ht
          have hlt : j < ops.size := by
            unfold dsto at hj
            cases e : ops[j]? with
            | none => rw [e] at hj; cases hj
            | some _ => exact (Array.getElem?_eq_some_iff.1 e).1
          show s.t t = _
          rw [I.tA j t hj (hall j hlt), T_dst hd hT j t hj ops.size hlt (Nat.le_refl _)]
        · have hno : ∀ j, dsto ops j ≠ some t := fun j hj => ht ⟨j, hj⟩
          show s.t t = _
          rw [I.tB t (fun j hj => absurd hj (hno j)), T_old hT t ops.size (Nat.le_refl _) (fun j _ => hno j), t0]
      have hf := Cx.FRD.nx (t := s.t) (m := s.m) I.fr (m2 := (T ops.size).m) ho (by rw [hTq]; exact Nat.le_trans I.n0 (T_mono I.mo 0 q (Nat.zero_le _) (Nat.le_refl _)))
      rw [this, show D = AW.dN (T ops.size).m.nx from funext fun o => propext (hD o)] at hf
      exact hK _ _ _ hf tK
    induction fuel with
    | zero =>
      intro listed a w hsz hL hc hI
      have hall : ∀ i, i < ops.size → lsd listed i := fun i hi => by
        have h0 : (List.range ops.size).filter (fun j => !listed.getD j false) = [] := List.length_eq_zero_iff.1 (by omega)
        rw [List.filter_eq_nil_iff] at h0
        simpa [lsd] using h0 i (by simpa using hi)
      refine ⟨?_, done listed a w hsz hI hall⟩
      cases hr : Region.ready .any ops listed with
      | nil => rfl
      | cons i r =>
        have hi : i ∈ Region.ready .any ops listed := by rw [hr]; simp
        rw [mem_ready] at hi
        obtain ⟨h1, o, ho, _⟩ := hi
        have hlt := (Array.getElem?_eq_some_iff.1 ho).1
        have := hall i hlt
        unfold lsd at this
        have h' : i < listed.size := by omega
        simp [Array.getD, h'] at this h1
        rw [this] at h1; cases h1
    | succ fuel ih =>
      intro listed a w hsz hL hc hI
      refine ⟨fun hr => done listed a w hsz hI (fun i hi => all_listed hd hsz hr _ i (Nat.lt_succ_self _) hi), fun i hi => ?_⟩
      obtain ⟨s, D, q, I⟩ := hI
      rw [mem_ready] at hi
      obtain ⟨h1, o, ho, hb⟩ := hi
      have hlt := (Array.getElem?_eq_some_iff.1 ho).1
      have h' : i < listed.size := by omega
      have hnl : ¬ lsd listed i := by unfold lsd; simp [Array.getD, h'] at h1 ⊢; exact h1
      have hb' : ∀ d ∈ bds o, lsd listed d := fun d hd' => by
        simp only [bds, List.mem_map, List.mem_filter] at hd'
        obtain ⟨e, ⟨he, hbe⟩, rfl⟩ := hd'
        exact hb e (by simpa using he) hbe
      obtain ⟨hp1, hp2, hp3⟩ := drawOk_spec hd ho
      have hlook : ∀ t ∈ o.looksAt ops, (T i).t t = s.t t := fun t ht => by
        by_cases hj : ∃ j, dsto ops j = some t ∧ j ∈ bds o
        · obtain ⟨j, hj, hd'⟩ := hj
          rw [I.tA j t hj (hb' j hd'), T_dst hd hT j t hj i (hp1 j hd') (by omega)]
        · have hno : ∀ j, dsto ops j = some t → ¬ lsd listed j ∧ ¬ j < i := fun j hj' => by
            have hbj := (hp2 t ht j hj').resolve_left (fun h => hj ⟨j, hj', h⟩)
            unfold bdsAt at hbj
            cases hoj : ops[j]? with
            | none => rw [hoj] at hbj; simp at hbj
            | some p =>
              rw [hoj] at hbj
              have := (drawOk_spec hd hoj).1 i hbj
              exact ⟨fun hl => hnl (hL.dn j p hl hoj i hbj), by omega⟩
          rw [I.tB t (fun j hj => (hno j hj).1), T_old hT t i (by omega) (fun j hji hj => (hno j hj).2 hji), t0]
      obtain ⟨cs, r, m', hg, hdst, hop, hmm, hTs⟩ := hT i o ho
      rw [agd_same hlook] at hg
      have hTm : (T (i + 1)).m = m' := by rw [hTs, put_m]
      have hops : aop P cs o.op (fun x => strip cs (s.ev x)) (T i).m (fun q n => q = r ∧ n = m') := by
        rw [← aop_congr (e := fun x => strip cs ((T i).ev x))]
        · exact hop
        · intro x hx; simp only [ev_same hlook hx]
      have hrs : ∀ j, j < ops.size → j ≠ i → (((nds ops.toList []).getD i 0).testBit j = true ∨ ((nds ops.toList []).getD j 0).testBit i = true) → (lsd listed j ↔ j < i) := fun j hj hji hs => ready_ord hd hL ho hb' hnl hs
      have hsing : ∀ j, j < ops.size → j ≠ i → single ops j = true → (lsd listed j ↔ j < i) := fun j hj hji hs => hrs j hj hji (single_spec hs hlt (Ne.symm hji)).symm
      -- between i and q nobody stands alone
      have up : i ≤ q → ∀ j, i ≤ j → j < q → single ops j = false ∨ (T (j + 1)).m = (T j).m := fun _ j a b => by
        cases e : single ops j with
        | false => exact .inl rfl
        | true =>
          exfalso
          have hl := I.l2 j b e
          by_cases hji : j = i
          · subst hji; exact hnl hl
          · have := (hsing j (by have := I.q_; omega) hji e).1 hl; omega
      have dn : q ≤ i → ∀ j, q ≤ j → j < i → single ops j = false ∨ (T (j + 1)).m = (T j).m := fun _ j a b => by
        cases e : single ops j with
        | false => exact .inl rfl
        | true => exact .inr ((I.l1 j (by omega) ((hsing j (by omega) (by omega) e).2 b)).resolve_left (by omega))
      have growU : i ≤ q → Grows (T i).m (T q).m := fun hiq => T_grow hT i q I.q_ hiq (up hiq)
      have growD : q ≤ i → Grows (T q).m (T i).m := fun hiq => T_grow hT q i (by omega) hiq (dn hiq)
      have moI : ∀ k, k < i → (T k).m.nx ≤ (T (k + 1)).m.nx := fun k hk => by
        by_cases hkq : k < q
        · exact I.mo k hkq
        · exact (T_grow1 hT (by omega) (dn (by omega) k (by omega) hk)).nx
      have wfI : ∀ k, k ≤ i → WF (T k).m := fun k hk => by
        by_cases hkq : k ≤ q
        · exact I.wf k hkq
        · exact (T_grow hT q k (by omega) (by omega) (fun j a b => dn (by omega) j a (by omega))).wf (I.wf q (Nat.le_refl _))
      -- what is read reads the same
      have rd_ : ∀ id x, D id → (T i).m.o id = some x → s.m.o id = some x := fun id x hid hx => by
        rw [I.mm]
        refine ⟨hid, ?_⟩
        rcases Nat.le_total i q with hiq | hiq
        · rw [(growU hiq).at_ (wfI i (Nat.le_refl _) id x hx)]; exact hx
        · rw [← (growD hiq).at_ (I.dhb hid)]; exact hx
      have fin : ∀ (mN : Mem) (D' : Id → Prop) (qN : Nat) (a' : Act) (w' : World), C.FRD D' (({ s with m := mN } : AS).put o.dst r) a' w' → qN ≤ ops.size →
          (∀ j, j < ops.size → (lsd listed j ∨ j = i) → j < qN ∨ (T (j + 1)).m = (T j).m) → (∀ j, j < qN → single ops j = true → lsd listed j ∨ j = i) → (∀ k, k ≤ qN → WF (T k).m) → (∀ k, k < qN → (T k).m.nx ≤ (T (k + 1)).m.nx) →
          (∀ o, D' o ↔ AW.hb o (T 0).m.nx ∨ ∃ j, j < ops.size ∧ (lsd listed j ∨ j = i) ∧ AW.hb o (T (j + 1)).m.nx ∧ ¬ AW.hb o (T j).m.nx) → (∀ o x, mN.o o = some x ↔ D' o ∧ (T qN).m.o o = some x) →
          wpAny P .any ops Q' fuel (listed.setIfInBounds i true) a' w' := fun mN D' qN a' w' hf' f1 f2 f3 f4 f5 f6 f7 => by
        have hf2 : C.FRD D' (({ s with m := ⟨mN.o, (T qN).m.nx⟩ } : AS).put o.dst r) a' w' := by
          have := Cx.FRD.nx (t := (({ s with m := mN } : AS).put o.dst r).t) (m := mN) (by cases hq : o.dst <;> (rw [hq] at hf'; exact hf')) (m2 := ⟨mN.o, (T qN).m.nx⟩) rfl (Nat.le_trans I.n0 (T_mono f5 0 qN (Nat.zero_le _) (Nat.le_refl _)))
          cases hq : o.dst <;> (rw [hq] at this; exact this)
        refine ih _ a' w' (by simp [hsz]) ⟨fun j o' hj ho' d hd' => ?_⟩ ?_ ⟨_, D', qN, hf2, ?_, ?_, f1, fun j hj hl => f2 j hj ((lsd_set h').1 hl), fun j hj hs => (lsd_set h').2 (f3 j hj hs), f4, f5, fun x => ?_, fun x y => ?_, ?_, I.n0⟩
        · rw [lsd_set h'] at hj ⊢
          rcases hj with hj | rfl
          · exact .inl (hL.dn j o' hj ho' d hd')
          · rw [ho] at ho'; cases ho'; exact .inl (hb' d hd')
        · have := filter_lt (p := fun j => !listed.getD j false) (p' := fun j => !(listed.setIfInBounds i true).getD j false) i (fun y hy => by
            have hy' : ¬ lsd (listed.setIfInBounds i true) y := by unfold lsd; simpa using hy
            rw [lsd_set h'] at hy'
            have : ¬ lsd listed y := fun q => hy' (.inl q)
            unfold lsd at this; simpa using this) (by unfold lsd at hnl; simpa using hnl) (by
            have : lsd (listed.setIfInBounds i true) i := (lsd_set h').2 (.inr rfl)
            unfold lsd at this; simp [this]) (List.range ops.size) (by simpa using hlt)
          omega
        · intro j t hj hl
          rw [put_at]
          rw [lsd_set h'] at hl
          by_cases e : o.dst = some t
          · rw [if_pos e]
            have := hp3 j t e hj
            subst this
            rw [hTs, put_at, if_pos e]
          · rw [if_neg e]
            rcases hl with hl | rfl
            · exact I.tA j t hj hl
            · unfold dsto at hj; rw [ho] at hj; exact absurd hj e
        · intro t ht
          rw [put_at, if_neg]
          · exact I.tB t (fun j hj hl => ht j hj ((lsd_set h').2 (.inl hl)))
          · intro e; exact ht i (by unfold dsto; rw [ho]; exact e) ((lsd_set h').2 (.inr rfl))
        · rw [f6 x]
          refine or_congr Iff.rfl (exists_congr fun j => and_congr Iff.rfl (and_congr (lsd_set h').symm Iff.rfl))
        · rw [put_m]; exact f7 x y
        · rw [put_m]
      -- memory is left
      have finS : m' = (T i).m → ∀ a' w', C.FRD D (({ s with m := s.m } : AS).put o.dst r) a' w' → wpAny P .any ops Q' fuel (listed.setIfInBounds i true) a' w' := fun hms a' w' hf' => by
        refine fin s.m D q a' w' hf' I.q_ (fun j hj hl => ?_) (fun j hj hs => .inl (I.l2 j hj hs)) I.wf I.mo (fun o => ?_) I.mm
        · rcases hl with hl | rfl
          · exact I.l1 j hj hl
          · exact .inr (hTm.trans hms)
        · rw [I.dd]
          refine or_congr Iff.rfl (exists_congr fun j => and_congr Iff.rfl ⟨fun h => ⟨.inl h.1, h.2⟩, fun h => ⟨?_, h.2⟩⟩)
          rcases h.1 with h1 | rfl
          · exact h1
          · exact absurd (by have := h.2.1; rwa [hTm, hms] at this) h.2.2
      have run : ∀ mR : Mem, mR.o = s.m.o → C.m0.nx ≤ mR.nx → Fr D mR.nx → (isCall o.op = true → D = AW.dN mR.nx) → cs.all id = true → ∀ mN, aop P cs o.op (fun x => strip cs (s.ev x)) mR (fun q n => q = r ∧ n = mN) →
          (∀ a' w' D', C.FRD D' (({ s with m := mN } : AS).put o.dst r) a' w' → (∀ o, D' o ↔ D o ∨ (AW.hb o mN.nx ∧ ¬ AW.hb o mR.nx)) → mR.nx ≤ mN.nx → (∀ o x, mN.o o = some x → D' o) → wpAny P .any ops Q' fuel (listed.setIfInBounds i true) a' w') →
          o.wp P a w (wpAny P .any ops Q' fuel (listed.setIfInBounds i true)) Q' := fun mR e1 e2 e3 e4 hc' mN hq hk => by
        obtain ⟨β, κ, A, S, hf⟩ := Cx.FRD.nx (t := s.t) (m := s.m) I.fr (m2 := mR) e1 e2
        refine aop_ok e3 hf.mr (fun x => ev_ok (s := ⟨s.t, mR⟩) hf hc' x) hc' rfl e4 hq (fun v w' hl => ?_)
        obtain ⟨r', m'', S', D', β', κ', A', ⟨rfl, rfl⟩, g2, g3, g4, g5⟩ := hl
        exact hk _ _ D' ⟨β', κ', A', S', hf.step g2 g3 (dst_lt hdst) g4⟩ g5 g2.le (fun o x ho => g3.nx o x ho)
      have hw := agd_ok I.fr hg rfl
      unfold wpOp
      rw [ho]
      simp only
      rw [← hw]
      by_cases hc' : cs.all id = true
      case neg =>
        rw [if_neg hc']
        have hcf : cs.all id = false := by simpa using hc'
        obtain ⟨r', h1, h2⟩ := aop_skip hcf hops
        obtain ⟨β, κ, A, S, hf⟩ := I.fr
        exact finS h2.symm _ _ ⟨β, κ, A, S, hf.step (ExtD.refl _ _ _ _ _ _ _) hf.mr (dst_lt hdst) (h1 ▸ .gd _ _ _ (fun e => absurd e hc') (fun _ => rfl))⟩
      rw [if_pos hc']
      left
      by_cases hA : single ops i = true ∨ (wrO o.op = true ∧ pmO o.op = false)
      · -- everyone who makes or writes stands as in the text
        have hord : ∀ j, j < ops.size → j ≠ i → (single ops j = true ∨ gw ops j = true) → (lsd listed j ↔ j < i) := fun j hj hji hs => by
          rcases hA with hA | ⟨hA, hA2⟩
          · exact hrs j hj hji (single_spec hA hj hji)
          · rcases hs with hs | hs
            · exact hsing j hj hji hs
            · exact hrs j hj hji (gw_spec hs ho hA hA2 (Ne.symm hji)).symm
        have sm : ∀ j, j < i → lsd listed j ∨ (T (j + 1)).m = (T j).m := fun j hj => by
          cases e1 : single ops j with
          | true => exact .inl ((hord j (by omega) (by omega) (.inl e1)).2 hj)
          | false =>
            cases e2 : gw ops j with
            | true => exact .inl ((hord j (by omega) (by omega) (.inr e2)).2 hj)
            | false => exact .inr (T_same hT (by omega) e1 e2)
        have sm2 : ∀ j, j < ops.size → ¬ j < i → lsd listed j → (T (j + 1)).m = (T j).m := fun j hj hji hl => by
          have hne : j ≠ i := fun e => hnl (e ▸ hl)
          cases e1 : single ops j with
          | true => exact absurd ((hord j hj hne (.inl e1)).1 hl) hji
          | false =>
            cases e2 : gw ops j with
            | true => exact absurd ((hord j hj hne (.inr e2)).1 hl) hji
            | false => exact T_same hT hj e1 e2
        have hDi : ∀ x, D x ↔ AW.hb x (T i).m.nx := fun x => by
          rw [I.dd, tele x i moI]
          refine or_congr Iff.rfl ⟨?_, ?_⟩
          · rintro ⟨j, h1, h2, h3, h4⟩
            by_cases hji : j < i
            · exact ⟨j, hji, h3, h4⟩
            · rw [sm2 j h1 hji h2] at h3; exact absurd h3 h4
          · rintro ⟨j, h1, h3, h4⟩
            rcases sm j h1 with h2 | h2
            · exact ⟨j, by omega, h2, h3, h4⟩
            · rw [h2] at h3; exact absurd h3 h4
        have hmo : (T i).m.o = s.m.o := funext fun x => by
          apply Option.ext
          intro y
          constructor
          · intro hx; exact rd_ x y ((hDi x).2 (wfI i (Nat.le_refl _) x y hx)) hx
          · intro hx
            rw [I.mm] at hx
            obtain ⟨k1, k2⟩ := hx
            rcases Nat.le_total i q with hiq | hiq
            · rw [← (growU hiq).at_ ((hDi x).1 k1)]; exact k2
            · rw [(growD hiq).at_ (I.dhb k1)]; exact k2
        have hDe : D = AW.dN (T i).m.nx := funext fun x => propext (hDi x)
        refine run (T i).m hmo (Nat.le_trans I.n0 (T_mono moI 0 i (Nat.zero_le _) (Nat.le_refl _))) (by rw [hDe]; exact Fr.hd _) (fun _ => hDe) hc' m' hops (fun a' w' D' k1 k2 k3 k4 => ?_)
        have hD' : ∀ x, D' x ↔ AW.hb x (T (i + 1)).m.nx := fun x => by
          rw [k2, hDi, hTm]
          exact ⟨fun h => h.elim (fun h => h.mono k3) (·.1), fun h => (Classical.em (AW.hb x (T i).m.nx)).elim .inl (fun h2 => .inr ⟨h, h2⟩)⟩
        have moN : ∀ k, k < i + 1 → (T k).m.nx ≤ (T (k + 1)).m.nx := fun k hk => by
          by_cases e : k = i
          · subst e; rw [hTm]; exact k3
          · exact moI k (by omega)
        have wfN : WF (T (i + 1)).m := fun x y hx => (hD' x).1 (k4 x y (by rw [hTm] at hx; exact hx))
        refine fin m' D' (i + 1) a' w' k1 hlt (fun j hj hl => ?_) (fun j hj hs => ?_) (fun k hk => ?_) moN (fun x => ?_) (fun x y => ?_)
        · by_cases hji : j < i + 1
          · exact .inl hji
          · rcases hl with hl | hl
            · exact .inr (sm2 j hj (by omega) hl)
            · omega
        · by_cases e : j = i
          · exact .inr e
          · exact .inl ((hsing j (by omega) e hs).2 (by omega))
        · by_cases e : k = i + 1
          · rw [e]; exact wfN
          · exact wfI k (by omega)
        · rw [hD', tele x (i + 1) moN]
          refine or_congr Iff.rfl ⟨?_, ?_⟩
          · rintro ⟨j, h1, h3, h4⟩
            by_cases e : j = i
            · exact ⟨j, by omega, .inr e, h3, h4⟩
            · rcases sm j (by omega) with h2 | h2
              · exact ⟨j, by omega, .inl h2, h3, h4⟩
              · rw [h2] at h3; exact absurd h3 h4
          · rintro ⟨j, h1, h2, h3, h4⟩
            rcases h2 with h2 | rfl
            · by_cases hji : j < i
              · exact ⟨j, by omega, h3, h4⟩
              · rw [sm2 j h1 hji h2] at h3; exact absurd h3 h4
            · exact ⟨j, by omega, h3, h4⟩
        · rw [hTm]
          exact ⟨fun hx => ⟨k4 x y hx, hx⟩, fun hx => hx.2⟩
      · have hs1 : single ops i = false := by
          cases e : single ops i with
          | false => rfl
          | true => exact absurd (.inl e) hA
        have frq : Fr D s.m.nx := fun x _ hx hDx => hx (by rw [I.nx]; exact I.dhb hDx)
        have hsn : C.m0.nx ≤ s.m.nx := by rw [I.nx]; exact Nat.le_trans I.n0 (T_mono I.mo 0 q (Nat.zero_le _) (Nat.le_refl _))
        obtain ⟨β, κ, A, S, hf⟩ := I.fr
        by_cases hw0 : wrO o.op = true
        · -- a maker
          have hpm : pmO o.op = true := by
            cases e : pmO o.op with
            | true => rfl
            | false => exact absurd (.inr ⟨hw0, e⟩) hA
          have hgr : m' = (T i).m ∨ Grows (T i).m m' := by
            rcases hmm with hmm | hmm | ⟨_, hmm⟩
            · exact .inl hmm
            · rw [hs1] at hmm; cases hmm
            · exact .inr hmm
          obtain ⟨x, hx1, hx2⟩ := aop_mk hpm hc' hops (wfI i (Nat.le_refl _)) hgr
          have hg1 : Grows (T i).m (T (i + 1)).m := by rw [hTm, hx1]; exact .step _ _ _ (.refl _)
          have hnx1 : (T (i + 1)).m.nx = (T i).m.nx + 1 := by rw [hTm, hx1]; rfl
          have frn : Fr D (T i).m.nx := fun y hy1 hy2 hDy => by
            rcases (I.dd y).1 hDy with h1 | ⟨j, h1, h2, h3, h4⟩
            · exact hy2 (h1.mono (T_mono moI 0 i (Nat.zero_le _) (Nat.le_refl _)))
            · rcases Nat.lt_trichotomy j i with hji | hji | hji
              · exact hy2 (h3.mono (T_mono moI (j + 1) i hji (Nat.le_refl _)))
              · subst hji; exact hnl h2
              · rcases I.l1 j h1 h2 with h5 | h5
                · exact h4 (hy1.mono (by rw [← hnx1]; exact T_mono I.mo (i + 1) j hji (by omega)))
                · rw [h5] at h3; exact h4 h3
          refine run ⟨s.m.o, (T i).m.nx⟩ rfl (Nat.le_trans I.n0 (T_mono moI 0 i (Nat.zero_le _) (Nat.le_refl _))) frn (fun hcl => by
            exfalso
            revert hcl hpm
            cases o.op <;> simp only [isCall, pmO] <;> try (intros; contradiction)
            rename_i c; cases c.callee <;> simp) hc' _ (hx2 ⟨s.m.o, (T i).m.nx⟩ rfl (fun id hid => ?_)) (fun a' w' D' k1 k2 k3 k4 => ?_)
          · obtain ⟨y, p, hp, hpo⟩ := rdM_ev hid
            have hDid : D id := ov_hb (ev_ok hf hc' y) (by rw [hp]; exact hpo)
            show s.m.o id = (T i).m.o id
            cases hxx : (T i).m.o id with
            | some z => exact rd_ id z hDid hxx
            | none =>
              cases hyy : s.m.o id with
              | none => rfl
              | some z =>
                exfalso
                obtain ⟨k1, k2⟩ := (I.mm id z).1 hyy
                have := aop_rdM hpm hc' hops hid
                rw [hxx] at this; exact this rfl
          · simp only [Mem.grow] at k2 k3
            have hx : (T (i + 1)).m.o = upd (T i).m.o [(T i).m.nx] (some x) := by rw [hTm, hx1]; rfl
            have ddN : ∀ y, D' y ↔ AW.hb y (T 0).m.nx ∨ ∃ j, j < ops.size ∧ (lsd listed j ∨ j = i) ∧ AW.hb y (T (j + 1)).m.nx ∧ ¬ AW.hb y (T j).m.nx := fun y => by
              rw [k2, I.dd]
              constructor
              · rintro ((h1 | ⟨j, h1, h2, h3⟩) | h1)
                · exact .inl h1
                · exact .inr ⟨j, h1, .inl h2, h3⟩
                · exact .inr ⟨i, hlt, .inr rfl, by rw [hnx1]; exact h1⟩
              · rintro (h1 | ⟨j, h1, h2 | h2, h3⟩)
                · exact .inl (.inl h1)
                · exact .inl (.inr ⟨j, h1, h2, h3⟩)
                · rw [h2, hnx1] at h3; exact .inr h3
            have mmN : ∀ qN, Grows (T (i + 1)).m (T qN).m → (∀ y, D y → (T qN).m.o y = (T q).m.o y) → ∀ y z, upd s.m.o [(T i).m.nx] (some x) y = some z ↔ D' y ∧ (T qN).m.o y = some z := fun qN gq hq y z => by
              by_cases e : y = [(T i).m.nx]
              · have h1 : (T qN).m.o y = some x := by rw [gq.at_ (by rw [hnx1, e]; simp [AW.hb]), hx, e]; simp [upd]
                have h2 : D' y := (k2 _).2 (.inr ⟨by rw [e]; simp [AW.hb], by rw [e]; simp [AW.hb]⟩)
                rw [h1, show upd s.m.o [(T i).m.nx] (some x) y = some x by simp [upd, e]]
                exact ⟨fun h => ⟨h2, h⟩, fun h => h.2⟩
              · rw [show upd s.m.o [(T i).m.nx] (some x) y = s.m.o y by simp [upd, e]]
                by_cases hDy : D y
                · rw [hq y hDy, I.mm]
                  exact ⟨fun h => ⟨(k2 y).2 (.inl h.1), h.2⟩, fun h => ⟨hDy, h.2⟩⟩
                · constructor
                  · intro h; exact absurd ((I.mm y z).1 h).1 hDy
                  · rintro ⟨h1, h2⟩
                    rcases (k2 y).1 h1 with h3 | ⟨h3, h4⟩
                    · exact absurd h3 hDy
                    · exfalso
                      rw [gq.at_ (by rw [hnx1]; exact h3), hx] at h2
                      simp only [upd, if_neg e] at h2
                      exact h4 (wfI i (Nat.le_refl _) y z h2)
            by_cases hiq : i + 1 ≤ q
            · have gq := T_grow hT (i + 1) q I.q_ hiq (fun j a b => up (by omega) j (by omega) b)
              refine fin _ D' q a' w' k1 I.q_ (fun j hj hl => ?_) (fun j hj hs => .inl (I.l2 j hj hs)) I.wf I.mo ddN (mmN q gq (fun _ _ => rfl))
              rcases hl with hl | rfl
              · exact I.l1 j hj hl
              · exact .inl hiq
            · refine fin _ D' (i + 1) a' w' k1 hlt (fun j hj hl => ?_) (fun j hj hs => ?_) (fun k hk => ?_) (fun k hk => ?_) ddN (mmN (i + 1) (.refl _) (fun y hy => ((growD (by omega)).trans hg1).at_ (I.dhb hy)))
              · rcases hl with hl | rfl
                · exact (I.l1 j hj hl).imp (fun h => by omega) id
                · exact .inl (Nat.lt_succ_self _)
              · by_cases e : j = i
                · exact .inr e
                · exact .inl ((hsing j (by omega) e hs).2 (by omega))
              · by_cases e : k = i + 1
                · rw [e]; exact hg1.wf (wfI i (Nat.le_refl _))
                · exact wfI k (by omega)
              · by_cases e : k = i
                · rw [e, hnx1]; exact Nat.le_succ _
                · exact moI k (by omega)
        · -- no writer
          have hw0 : wrO o.op = false := by simpa using hw0
          have hms : m' = (T i).m := by
            rcases hmm with hmm | hmm | ⟨hmm, _⟩
            · exact hmm
            · rw [hs1] at hmm; cases hmm
            · obtain ⟨o', ho', hw'⟩ := gw_wr hmm
              rw [ho] at ho'; cases ho'; rw [hw0] at hw'; cases hw'
          rw [hms] at hops
          obtain ⟨p1, p2, p3⟩ := aop_pure hw0 hc' hops
          refine run s.m rfl hsn frq (fun hcl => by
            exfalso
            revert hcl hw0
            cases o.op <;> simp only [isCall, wrO] <;> try (intros; contradiction)
            rename_i c; cases c.callee <;> simp) hc' s.m (p3 _ (apure_mem fun id hid => ?_)) (fun a' w' D' k1 k2 _ _ => ?_)
          · obtain ⟨y, p, hp, hpo⟩ := rd_ev hid
            obtain ⟨z, hz⟩ := apure_rd p1 hid
            rw [hz]
            exact rd_ id z (ov_hb (ev_ok hf hc' y) (by rw [hp]; exact hpo)) hz
          · have hD' : D' = D := funext fun y => propext ((k2 y).trans ⟨fun h => h.elim id (fun h => absurd h.1 h.2), .inl⟩)
            rw [hD'] at k1
            exact finS hms _ _ k1
  refine key ops.size _ a w (by simp) ⟨fun i o hi => ?_⟩ ?_ ⟨s0, AW.dN s0.m.nx, 0, hf, fun j t _ hl => ?_, fun _ _ => rfl, Nat.zero_le _, fun j _ hl => ?_, fun j hj => absurd hj (Nat.not_lt_zero _), fun k hk => ?_, fun k hk => absurd hk (Nat.not_lt_zero _), fun o => ?_, fun o x => ?_, by rw [t0], ?_⟩
  · exfalso; unfold lsd at hi; simp [Array.getD] at hi
  · have := List.length_filter_le (fun j => !(Array.replicate ops.size false).getD j false) (List.range ops.size)
    simpa using this
  · exfalso; unfold lsd at hl; simp [Array.getD] at hl
  · exfalso; unfold lsd at hl; simp [Array.getD] at hl
  · obtain rfl : k = 0 := by omega
    rw [t0]
    obtain ⟨_, _, _, _, hf⟩ := hf
    exact fun o x ho => hf.mr.nx o x ho
  · rw [t0]
    refine ⟨.inl, fun h => h.elim id (fun ⟨j, _, hl, _⟩ => ?_)⟩
    exfalso; unfold lsd at hl; simp [Array.getD] at hl
  · rw [t0]
    obtain ⟨_, _, _, _, hf⟩ := hf
    exact ⟨fun h => ⟨hf.mr.nx o x h, h⟩, fun h => h.2⟩
  · rw [t0]
    obtain ⟨_, _, _, _, hf⟩ := hf
    exact hf.ex.le
end
end Go.Proofs.YtofaiiobggnibaaW.AW
