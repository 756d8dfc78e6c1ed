/- An abstract state of a function's frame, in words of its own, and what it says of a frame and a world of the model. Plain words and lemmas: no statement of the program. -/
import Derived.Below
import Derived.LoopN
import Derived.OpenShut
namespace Go.Proofs.YtolejglfohagnaaW.AW
open Go Go.RowKit
set_option linter.unusedVariables false

abbrev Id := List Nat
/-- What a slot or a cell holds. cl: a slice that is only read (element size, length, cells of an element); sl: a slice of an object of one's own (object, element size, its length, from, length); pc: an address of cells that are only read; bp: of a variable's cell; pt: of an element's cell; gd: known where all of cs hold. -/
inductive PV where
  | und
  | bool (b : Bool)
  | int (k : IntKind) (n : Int)
  | str (s : ByteArray)
  | nils
  | cl (sz n : Nat) (g : Nat → List PV)
  | sl (o : Id) (sz n off len : Nat)
  | pc (cs : List PV)
  | bp (o : Id) (j : Nat)
  | pt (o : Id) (sz n i j : Nat)
  | ag (cs : List PV)
  | tu (vs : List PV)
  | fn (f : FuncId) (caps : List PV)
  | gd (cs : List Bool) (p : PV)
/-- Memory of one's own: a variable, a row of elements. -/
inductive Ob where
  | box (cs : List PV)
  | row (sz n : Nat) (g : Nat → List PV)
structure Mem where
  o : Id → Option Ob
  nx : Nat
structure AS where
  t : Nat → PV
  m : Mem
def hb : Id → Nat → Prop
  | [], _ => False
  | k :: _, n => k < n

/-- A value that is only read: its blocks are S's. -/
inductive RV (w : World) (S : Nat → Prop) : Value → PV → Prop
  | und (v) : RV w S v .und
  | bool (b) : RV w S (.bool b) (.bool b)
  | int (k n) (h : k.min ≤ n ∧ n ≤ k.max) : RV w S (.int k n) (.int k n)
  | str (s) (h : s.size ≤ 9223372036854775807) : RV w S (.string s) (.str s)
  | nils : RV w S (.slice none 0 0) .nils
  | cl0 (A c sz g) : RV w S (.slice A 0 c) (.cl sz 0 g)
  | cl (a n c sz g) (val : Nat → Nat → Value) (hn : n ≤ c) (hc : c ≤ 9223372036854775807) (hS : S a.block) (hl : ∀ i, i < n → (g i).length = sz)
      (hcell : ∀ i j p, i < n → (g i)[j]? = some p → w.cell? (a.add (i * sz + j)) = some (val i j)) (h1 : ∀ i j p, i < n → (g i)[j]? = some p → (val i j).oneCell' = true)
      (hv : ∀ i j p, i < n → (g i)[j]? = some p → RV w S (val i j) p) : RV w S (.slice (some a) n c) (.cl sz n g)
  | pc (a cs) (val : Nat → Value) (hS : S a.block) (hcell : ∀ j p, cs[j]? = some p → w.cell? (a.add j) = some (val j)) (h1 : ∀ j p, cs[j]? = some p → (val j).oneCell' = true)
      (hv : ∀ j p, cs[j]? = some p → RV w S (val j) p) : RV w S (.pointer (some a)) (.pc cs)
  | ag (vs : Array Value) (ps) (hl : vs.size = ps.length) (h1 : ∀ j p, ps[j]? = some p → (vs.getD j undef).oneCell' = true) (hv : ∀ j p, ps[j]? = some p → RV w S (vs.getD j undef) p) : RV w S (.agg vs) (.ag ps)
  | tu (vs : Array Value) (ps) (hl : vs.size = ps.length) (hv : ∀ j p, ps[j]? = some p → RV w S (vs.getD j undef) p) : RV w S (.tuple vs) (.tu ps)
  | gd (cs v p) (h : cs.all id = true → RV w S v p) (hu : cs.all id = false → v = undef) : RV w S v (.gd cs p)
/-- A value of the frame. β: where an object lies; κ: how many elements its block has room for. -/
inductive OV (β κ : Id → Nat) (nx : Nat) (w : World) (S : Nat → Prop) : Value → PV → Prop
  | rv (v p) (h : RV w S v p) : OV β κ nx w S v p
  | sl (o sz n off len A c) (hx : hb o nx) (hl : len ≤ c) (hn : off + len ≤ n) (hk : off + c = κ o) (hc : κ o ≤ 9223372036854775807) (hA : 0 < c → A = some ⟨β o, off * sz, none⟩) : OV β κ nx w S (.slice A len c) (.sl o sz n off len)
  | bp (o j) (hx : hb o nx) : OV β κ nx w S (.pointer (some ⟨β o, j, none⟩)) (.bp o j)
  | pt (o sz n i j) (hx : hb o nx) (hi : i < n) : OV β κ nx w S (.pointer (some ⟨β o, i * sz + j, none⟩)) (.pt o sz n i j)
  | ag (vs : Array Value) (ps) (hl : vs.size = ps.length) (h1 : ∀ j p, ps[j]? = some p → (vs.getD j undef).oneCell' = true) (hv : ∀ j p, ps[j]? = some p → OV β κ nx w S (vs.getD j undef) p) : OV β κ nx w S (.agg vs) (.ag ps)
  | tu (vs : Array Value) (ps) (hl : vs.size = ps.length) (hv : ∀ j p, ps[j]? = some p → OV β κ nx w S (vs.getD j undef) p) : OV β κ nx w S (.tuple vs) (.tu ps)
  | fn (f) (vs : Array Value) (ps) (hl : vs.size = ps.length) (hv : ∀ j p, ps[j]? = some p → OV β κ nx w S (vs.getD j undef) p) : OV β κ nx w S (.func (.func f) #[] vs) (.fn f ps)
  | gd (cs v p) (h : cs.all id = true → OV β κ nx w S v p) (hu : cs.all id = false → v = undef) : OV β κ nx w S v (.gd cs p)

/-- What an object's block holds. -/
def OB (β κ : Id → Nat) (nx : Nat) (w : World) (S : Nat → Prop) (o : Id) : Ob → Prop
  | .box cs => ∃ cur e, w.heap[β o]? = some (.cells cur e (0, 0)) ∧ cur.size = cs.length ∧ ∀ j p, cs[j]? = some p → (cur.getD j undef).oneCell' = true ∧ OV β κ nx w S (cur.getD j undef) p
  | .row sz n g => (κ o = 0 ∧ n = 0) ∨ ∃ cur e, w.heap[β o]? = some (.cells cur e (0, 0)) ∧ cur.size = κ o * sz ∧ n ≤ κ o ∧ κ o ≤ 9223372036854775807 ∧ 0 < sz ∧ (∀ i, i < n → (g i).length = sz) ∧
      ∀ i j p, i < n → (g i)[j]? = some p → (cur.getD (i * sz + j) undef).oneCell' = true ∧ OV β κ nx w S (cur.getD (i * sz + j) undef) p

/-- The blocks that objects lie in (a row without room lies in none). -/
def real (κ : Id → Nat) (o : Id) : Ob → Prop
  | .box _ => True
  | .row _ _ _ => 0 < κ o
def main (m : Mem) (β κ : Id → Nat) (k : Nat) : Prop := ∃ o x, m.o o = some x ∧ real κ o x ∧ β o = k
structure MR (w : World) (S : Nat → Prop) (m : Mem) (β κ : Id → Nat) : Prop where
  ob : ∀ o x, m.o o = some x → OB β κ m.nx w S o x
  ns : ∀ k, main m β κ k → ¬ S k
  inj : ∀ o o' x x', m.o o = some x → m.o o' = some x' → real κ o x → real κ o' x' → β o = β o' → o = o'
  nx : ∀ o x, m.o o = some x → hb o m.nx
  lt : ∀ k, S k → k < w.heap.size

/-- From one memory to a later one: what stays. -/
structure Ext (w : World) (S : Nat → Prop) (m : Mem) (β κ : Id → Nat) (w' : World) (S' : Nat → Prop) (m' : Mem) (β' κ' : Id → Nat) : Prop where
  os : w'.os = w.os
  tape : w'.tape = w.tape
  output : w'.output = w.output
  size : w.heap.size ≤ w'.heap.size
  sub : ∀ k, S k → S' k
  be : ∀ o, hb o m.nx → β' o = β o ∧ κ' o = κ o
  keep : ∀ k, k < w.heap.size → ¬ main m β κ k → w'.heap[k]? = w.heap[k]?
  le : m.nx ≤ m'.nx
  new : ∀ k, main m' β' κ' k → w.heap.size ≤ k ∨ main m β κ k
  snew : ∀ k, S' k → S k ∨ w.heap.size ≤ k ∨ main m β κ k

theorem Ext.refl (w : World) (S : Nat → Prop) (m : Mem) (β κ : Id → Nat) : Ext w S m β κ w S m β κ :=
  ⟨rfl, rfl, rfl, Nat.le_refl _, fun _ h => h, fun _ _ => ⟨rfl, rfl⟩, fun _ _ _ => rfl, Nat.le_refl _, fun k h => .inr h, fun _ h => .inl h⟩
theorem hb.mono {o : Id} {n n' : Nat} (h : hb o n) (hn : n ≤ n') : hb o n' := by
  cases o with
  | nil => exact h
  | cons k q => exact Nat.lt_of_lt_of_le h hn
theorem Ext.trans {w w1 w2 : World} {S S1 S2 : Nat → Prop} {m m1 m2 : Mem} {β κ β1 κ1 β2 κ2 : Id → Nat} (h : Ext w S m β κ w1 S1 m1 β1 κ1) (k : Ext w1 S1 m1 β1 κ1 w2 S2 m2 β2 κ2) : Ext w S m β κ w2 S2 m2 β2 κ2 where
  os := k.os.trans h.os
  tape := k.tape.trans h.tape
  output := k.output.trans h.output
  size := Nat.le_trans h.size k.size
  sub := fun i hi => k.sub i (h.sub i hi)
  be := fun o ho => ⟨(k.be o (ho.mono h.le)).1.trans (h.be o ho).1, (k.be o (ho.mono h.le)).2.trans (h.be o ho).2⟩
  keep := fun i hi hn => by
    rw [k.keep i (Nat.lt_of_lt_of_le hi h.size) (fun hm => ?_), h.keep i hi hn]
    rcases h.new i hm with h1 | h1
    · omega
    · exact hn h1
  le := Nat.le_trans h.le k.le
  new := fun i hi => by
    rcases k.new i hi with h1 | h1
    · exact .inl (Nat.le_trans h.size h1)
    · exact h.new i h1
  snew := fun i hi => by
    rcases k.snew i hi with h1 | h1 | h1
    · exact h.snew i h1
    · exact .inr (.inl (Nat.le_trans h.size h1))
    · rcases h.new i h1 with h3 | h3
      · exact .inr (.inl h3)
      · exact .inr (.inr h3)

theorem cell_move {w w' : World} {a : Addr} (h : w'.heap[a.block]? = w.heap[a.block]?) : w'.cell? a = w.cell? a := by simp [World.cell?, h]
theorem aadd_block (a : Addr) (i : Nat) : (a.add i).block = a.block := by unfold Addr.add; split <;> rfl
theorem RV.move {w w' : World} {S S' : Nat → Prop} (hS : ∀ k, S k → S' k) (hw : ∀ k, S k → w'.heap[k]? = w.heap[k]?) {v : Value} {p : PV} (h : RV w S v p) : RV w' S' v p := by
  induction h with
  | und v => exact .und v
  | bool b => exact .bool b
  | int k n h => exact .int k n h
  | str s h => exact .str s h
  | nils => exact .nils
  | cl0 A c sz g => exact .cl0 A c sz g
  | cl a n c sz g val hn hc hb hl hcell h1 hv ih =>
    exact .cl a n c sz g val hn hc (hS _ hb) hl (fun i j p hi hp => (cell_move (w := w) (w' := w') (a := a.add (i * sz + j)) (by rw [aadd_block]; exact hw _ hb)).trans (hcell i j p hi hp)) h1 ih
  | pc a cs val hb hcell h1 hv ih => exact .pc a cs val (hS _ hb) (fun j p hp => (cell_move (w := w) (w' := w') (a := a.add j) (by rw [aadd_block]; exact hw _ hb)).trans (hcell j p hp)) h1 ih
  | ag vs ps hl h1 hv ih => exact .ag vs ps hl h1 ih
  | tu vs ps hl hv ih => exact .tu vs ps hl ih
  | gd cs v p h hu ih => exact .gd cs v p ih hu
theorem OV.move {β κ β' κ' : Id → Nat} {nx nx' : Nat} {w w' : World} {S S' : Nat → Prop} (hβ : ∀ o, hb o nx → β' o = β o ∧ κ' o = κ o) (hn : nx ≤ nx') (hS : ∀ k, S k → S' k) (hw : ∀ k, S k → w'.heap[k]? = w.heap[k]?) {v : Value} {p : PV} (h : OV β κ nx w S v p) : OV β' κ' nx' w' S' v p := by
  induction h with
  | rv v p h => exact .rv v p (h.move hS hw)
  | sl o sz n off len A c hx hl hn2 hk hc hA => exact .sl o sz n off len A c (hx.mono hn) hl hn2 (by rw [(hβ o hx).2]; exact hk) (by rw [(hβ o hx).2]; exact hc) (fun h => by rw [(hβ o hx).1]; exact hA h)
  | bp o j hx => have := OV.bp (β := β') (κ := κ') (nx := nx') (w := w') (S := S') o j (hx.mono hn); rwa [(hβ o hx).1] at this
  | pt o sz n i j hx hi => have := OV.pt (β := β') (κ := κ') (nx := nx') (w := w') (S := S') o sz n i j (hx.mono hn) hi; rwa [(hβ o hx).1] at this
  | ag vs ps hl h1 hv ih => exact .ag vs ps hl h1 ih
  | tu vs ps hl hv ih => exact .tu vs ps hl ih
  | fn f vs ps hl hv ih => exact .fn f vs ps hl ih
  | gd cs v p h hu ih => exact .gd cs v p ih hu
/-- What stands in S stays, the objects' own blocks apart. -/
theorem Ext.held {w w' : World} {S S' : Nat → Prop} {m m' : Mem} {β κ β' κ' : Id → Nat} (h : Ext w S m β κ w' S' m' β' κ') (hm : MR w S m β κ) : ∀ k, S k → w'.heap[k]? = w.heap[k]? :=
  fun k hk => h.keep k (hm.lt k hk) (fun e => hm.ns k e hk)
theorem OV.ext {w w' : World} {S S' : Nat → Prop} {m m' : Mem} {β κ β' κ' : Id → Nat} (h : Ext w S m β κ w' S' m' β' κ') (hm : MR w S m β κ) {v : Value} {p : PV} (hv : OV β κ m.nx w S v p) : OV β' κ' m'.nx w' S' v p :=
  hv.move h.be h.le h.sub (h.held hm)
theorem OB.move {β κ β' κ' : Id → Nat} {nx nx' : Nat} {w w' : World} {S S' : Nat → Prop} (hβ : ∀ o, hb o nx → β' o = β o ∧ κ' o = κ o) (hn : nx ≤ nx') (hS : ∀ k, S k → S' k) (hw : ∀ k, S k → w'.heap[k]? = w.heap[k]?) {o : Id} {x : Ob} (ho : hb o nx) (hk : real κ o x → w'.heap[β o]? = w.heap[β o]?) (h : OB β κ nx w S o x) : OB β' κ' nx' w' S' o x := by
  cases x with
  | box cs =>
    obtain ⟨cur, e, h1, h2, h3⟩ := h
    exact ⟨cur, e, by rw [(hβ o ho).1, hk trivial]; exact h1, h2, fun j p hp => ⟨(h3 j p hp).1, (h3 j p hp).2.move hβ hn hS hw⟩⟩
  | row sz n g =>
    rcases h with ⟨h1, h2⟩ | ⟨cur, e, h1, h2, h3, h4, h5, h6, h7⟩
    · exact .inl ⟨by rw [(hβ o ho).2]; exact h1, h2⟩
    by_cases hκ : κ o = 0
    · exact .inl ⟨by rw [(hβ o ho).2]; exact hκ, by omega⟩
    exact .inr ⟨cur, e, by rw [(hβ o ho).1, hk (Nat.pos_of_ne_zero hκ)]; exact h1, by rw [(hβ o ho).2]; exact h2, by rw [(hβ o ho).2]; exact h3, by rw [(hβ o ho).2]; exact h4, h5, h6, fun i j p hi hp => ⟨(h7 i j p hi hp).1, (h7 i j p hi hp).2.move hβ hn hS hw⟩⟩

/-- The frame: what its slots hold, its memory; what there was at the call (w0 ..) stays. -/
structure FR (w0 : World) (S0 : Nat → Prop) (m0 : Mem) (β0 κ0 : Id → Nat) (nt : Nat) (s : AS) (a : Act) (w : World) (β κ : Id → Nat) (S : Nat → Prop) : Prop where
  df : a.defers = []
  sz : a.tmps.size = nt
  tv : ∀ t, OV β κ s.m.nx w S (a.tmps.getD t undef) (s.t t)
  mr : MR w S s.m β κ
  ex : Ext w0 S0 m0 β0 κ0 w S s.m β κ

def upd {K α : Type} [DecidableEq K] (f : K → α) (k : K) (v : α) : K → α := fun i => if i = k then v else f i
theorem upd_at {K α : Type} [DecidableEq K] (f : K → α) (k : K) (v : α) (i : K) : upd f k v i = if i = k then v else f i := rfl
def AS.put (s : AS) (d : Option Tmp) (v : PV) : AS := match d with | some d => { s with t := upd s.t d v } | none => s
theorem FR.step {w0 : World} {S0 : Nat → Prop} {m0 : Mem} {β0 κ0 : Id → Nat} {nt : Nat} {s : AS} {a : Act} {w : World} {β κ : Id → Nat} {S : Nat → Prop} (h : FR w0 S0 m0 β0 κ0 nt s a w β κ S)
    {w' : World} {m' : Mem} {β' κ' : Id → Nat} {S' : Nat → Prop} (he : Ext w S s.m β κ w' S' m' β' κ') (hm : MR w' S' m' β' κ') {d : Option Tmp} (hd : ∀ i, d = some i → i < nt) {v : Value} {p : PV} (hv : OV β' κ' m'.nx w' S' v p) :
    FR w0 S0 m0 β0 κ0 nt (({ s with m := m' } : AS).put d p) (a.put d v) w' β' κ' S' := by
  cases d with
  | none => exact ⟨h.df, h.sz, fun t => (h.tv t).ext he h.mr, hm, h.ex.trans he⟩
  | some i =>
    refine ⟨h.df, by simp [Act.put, h.sz], fun t => ?_, hm, h.ex.trans he⟩
    have hi : i < a.tmps.size := by rw [h.sz]; exact hd i rfl
    show OV _ _ _ _ _ ((a.tmps.setIfInBounds i v).getD t undef) (upd s.t i p t)
    unfold upd
    by_cases e : t = i
    · subst e
      rw [if_pos rfl]
      have : (a.tmps.setIfInBounds t v).getD t undef = v := by simp [Array.getD, hi]
      rw [this]; exact hv
    · rw [if_neg e]
      have : (a.tmps.setIfInBounds i v).getD t undef = a.tmps.getD t undef := by
        simp only [Array.getD_eq_getD_getElem?, Array.getElem?_setIfInBounds, if_neg (Ne.symm e)]
      rw [this]; exact (h.tv t).ext he h.mr
end Go.Proofs.YtolejglfohagnaaW.AW
