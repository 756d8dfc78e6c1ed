/- What the proof of FnExactUnused stands on, part 1: plain lemmas and contracts. -/
import Derived.Below
import Derived.LoopN
import Derived.OpenShut
import Derived.MapKept
import Derived.Laws.Cover4
import Derived.Laws.MakeOwn
import Derived.Laws.StructEq
import Derived.Laws.IdiomStrings
import Derived.Laws.BytesArg
import Derived.Deep.AppendSrc
import Derived.Lib.ConvBytes
namespace Go.Proofs.YtppfogbgbpadiaaW.AW
open Go Go.RowKit
set_option linter.unusedVariables false
abbrev Id := List Nat
/-- What a slot or a cell holds. cl: a slice that is only read (element size, length, cells of an element); sl: a slice of an object of one's own (object, element size, its length, from, length); ow: in a cell alone: a slice whose row is owned by the cell; pc: an address of cells that are only read; bp: of a variable's cell; pt: of an element's cell; mp: a map of one's own; gd: known where all of cs hold. -/
inductive PV where
  | und
  | bool (b : Bool)
  | int (k : IntKind) (n : Int)
  | str (s : ByteArray)
  | nils
  | cl (sz n : Nat) (g : Nat → List PV)
  | sl (o : Id) (sz n off len : Nat)
  | ow (sz n : Nat) (g : Nat → List PV)
  | pc (cs : List PV)
  | bp (o : Id) (j : Nat)
  | pt (o : Id) (sz n i j : Nat)
  | mp (o : Id)
  | ag (cs : List PV)
  | tu (vs : List PV)
  | fn (f : FuncId) (caps : List PV)
  | ifs (t : TypeId) (p : PV)
  | gd (cs : List Bool) (p : PV)
/-- Memory of one's own: a variable, a row of elements, a map from whole numbers, what is left of a map that is gone through. -/
inductive Ob where
  | no
  | box (cs : List PV)
  | row (sz n : Nat) (g : Nat → List PV)
  | map (f : Int → Option PV)
  | it (es : List (Int × PV))
structure Mem where
  o : Id → Option Ob
  nx : Nat
structure AS where
  t : Nat → PV
  m : Mem
def hb : Id → Nat → Prop
  | [], _ => False
  | k :: _, n => k < n
/-- A value that is only read: its blocks are S's. -/
inductive RV (w : World) (S : Nat → Prop) : Value → PV → Prop
  | und (v) : RV w S v .und
  | bool (b) : RV w S (.bool b) (.bool b)
  | int (k n) (h : k.min ≤ n ∧ n ≤ k.max) : RV w S (.int k n) (.int k n)
  | str (s) (h : s.size ≤ 9223372036854775807) : RV w S (.string s) (.str s)
  | nils : RV w S (.slice none 0 0) .nils
  | cl0 (A c sz g) : RV w S (.slice A 0 c) (.cl sz 0 g)
  | cl (a n c sz g) (val : Nat → Nat → Value) (hn : n ≤ c) (hc : c ≤ 9223372036854775807) (hS : S a.block) (hl : ∀ i, i < n → (g i).length = sz)
      (hcell : ∀ i j p, i < n → (g i)[j]? = some p → w.cell? (a.add (i * sz + j)) = some (val i j)) (h1 : ∀ i j p, i < n → (g i)[j]? = some p → (val i j).oneCell' = true)
      (hv : ∀ i j p, i < n → (g i)[j]? = some p → RV w S (val i j) p) : RV w S (.slice (some a) n c) (.cl sz n g)
  | pc (a cs) (val : Nat → Value) (hS : S a.block) (hcell : ∀ j p, cs[j]? = some p → w.cell? (a.add j) = some (val j)) (h1 : ∀ j p, cs[j]? = some p → (val j).oneCell' = true)
      (hv : ∀ j p, cs[j]? = some p → RV w S (val j) p) : RV w S (.pointer (some a)) (.pc cs)
  | ag (vs : Array Value) (ps) (hl : vs.size = ps.length) (h1 : ∀ j p, ps[j]? = some p → (vs.getD j undef).oneCell' = true) (hv : ∀ j p, ps[j]? = some p → RV w S (vs.getD j undef) p) : RV w S (.agg vs) (.ag ps)
  | tu (vs : Array Value) (ps) (hl : vs.size = ps.length) (hv : ∀ j p, ps[j]? = some p → RV w S (vs.getD j undef) p) : RV w S (.tuple vs) (.tu ps)
  | gd (cs v p) (h : cs.all id = true → RV w S v p) (hu : cs.all id = false → v = undef) : RV w S v (.gd cs p)
/-- A value of the frame. β: where an object lies; κ: how many elements its block has room for. -/
inductive OV (β κ : Id → Nat) (D : Id → Prop) (w : World) (S : Nat → Prop) : Value → PV → Prop
  | rv (v p) (h : RV w S v p) : OV β κ D w S v p
  | sl (o sz n off len A c) (hx : D o) (hl : len ≤ c) (hn : off + len ≤ n) (hk : off + c = κ o) (hc : κ o ≤ 9223372036854775807) (hA : 0 < c → A = some ⟨β o, off * sz, none⟩) : OV β κ D w S (.slice A len c) (.sl o sz n off len)
  | bp (o j) (hx : D o) : OV β κ D w S (.pointer (some ⟨β o, j, none⟩)) (.bp o j)
  | pt (o sz n i j) (hx : D o) (hi : i < n) : OV β κ D w S (.pointer (some ⟨β o, i * sz + j, none⟩)) (.pt o sz n i j)
  | mp (o) (hx : D o) : OV β κ D w S (.map (some (β o))) (.mp o)
  | ag (vs : Array Value) (ps) (hl : vs.size = ps.length) (h1 : ∀ j p, ps[j]? = some p → (vs.getD j undef).oneCell' = true) (hv : ∀ j p, ps[j]? = some p → OV β κ D w S (vs.getD j undef) p) : OV β κ D w S (.agg vs) (.ag ps)
  | tu (vs : Array Value) (ps) (hl : vs.size = ps.length) (hv : ∀ j p, ps[j]? = some p → OV β κ D w S (vs.getD j undef) p) : OV β κ D w S (.tuple vs) (.tu ps)
  | fn (f) (vs : Array Value) (ps) (hl : vs.size = ps.length) (hv : ∀ j p, ps[j]? = some p → OV β κ D w S (vs.getD j undef) p) : OV β κ D w S (.func (.func f) #[] vs) (.fn f ps)
  | ifs (t v p) (h : OV β κ D w S v p) : OV β κ D w S (.iface t v) (.ifs t p)
  | gd (cs v p) (h : cs.all id = true → OV β κ D w S v p) (hu : cs.all id = false → v = undef) : OV β κ D w S v (.gd cs p)
/-- Nothing of the block is frozen. -/
def fzOk (fz : Nat × Nat) (n : Nat) : Prop := fz = (0, 0) ∨ n ≤ fz.1
/-- What the cells of a block own: F i j the cell's, A all of it. -/
structure Fp (n sz b : Nat) (F : Nat → Nat → Nat → Prop) (A : Nat → Prop) : Prop where
  nb : ∀ i j, ¬ F i j b
  dj : ∀ i j i' j' k, F i j k → F i' j' k → i = i' ∧ j = j'
  dm : ∀ i j k, F i j k → i < n ∧ j < sz
  eq : ∀ k, A k ↔ k = b ∨ ∃ i j, F i j k
/-- A cell that owns what it leads to: the blocks F. -/
inductive CV (w : World) (S : Nat → Prop) : (Nat → Prop) → Value → PV → Prop
  | rv (F v p) (h : RV w S v p) (h0 : ∀ k, ¬ F k) : CV w S F v p
  | no (F A sz g) (h0 : ∀ k, ¬ F k) : CV w S F (.slice A 0 0) (.ow sz 0 g)
  | ow (A b n c sz g) (cur : Array Value) (e : TypeId) (fz : Nat × Nat) (F : Nat → Nat → Nat → Prop) (hz : fzOk fz cur.size) (hp : 0 < c) (hn : n ≤ c) (hm : c ≤ 9223372036854775807) (h0 : 0 < sz) (hh : w.heap[b]? = some (.cells cur e fz)) (hs : cur.size = c * sz) (hl : ∀ i, i < n → (g i).length = sz)
      (hF : Fp n sz b F A) (h1 : ∀ i j p, i < n → (g i)[j]? = some p → (cur.getD (i * sz + j) undef).oneCell' = true) (hv : ∀ i j p, i < n → (g i)[j]? = some p → CV w S (F i j) (cur.getD (i * sz + j) undef) p) :
      CV w S A (.slice (some ⟨b, 0, none⟩) n c) (.ow sz n g)
def TV (β κ : Id → Nat) (D : Id → Prop) (w : World) (S : Nat → Prop) (F : Nat → Prop) (v : Value) (p : PV) : Prop := (OV β κ D w S v p ∧ ∀ k, ¬ F k) ∨ CV w S F v p
/-- A block of cells. -/
def Blk (β κ : Id → Nat) (D : Id → Prop) (w : World) (S : Nat → Prop) (A : Nat → Prop) (b sz n c : Nat) (g : Nat → List PV) : Prop :=
  ∃ cur e fz F, w.heap[b]? = some (.cells cur e fz) ∧ fzOk fz cur.size ∧ cur.size = c * sz ∧ n ≤ c ∧ (∀ i, i < n → (g i).length = sz) ∧ Fp n sz b F A ∧
    ∀ i j p, i < n → (g i)[j]? = some p → (cur.getD (i * sz + j) undef).oneCell' = true ∧ TV β κ D w S (F i j) (cur.getD (i * sz + j) undef) p
/-- A map's entries: what each key has. -/
structure Ents (w : World) (S : Nat → Prop) (ents : Array MapEntry) (clock : Nat) (f : Int → Option PV) : Prop where
  st : MapKept.Stamped ents clock
  key : ∀ e ∈ ents.toList, ∃ k p, e.key = .int .i64 k ∧ (IntKind.i64.min ≤ k ∧ k ≤ IntKind.i64.max) ∧ f k = some p ∧ RV w S e.val p
  all : ∀ k p, f k = some p → ∃ e ∈ ents.toList, e.key = .int .i64 k
/-- Entries one by one. -/
def Pairs (f : Int → Option PV) : List MapEntry → List (Int × PV) → Prop
  | [], [] => True
  | e :: l, (k, p) :: r => e.key = .int .i64 k ∧ f k = some p ∧ Pairs f l r
  | _, _ => False
/-- What an object's block holds; A: the blocks that are its own. -/
def OB (β κ : Id → Nat) (D : Id → Prop) (w : World) (S : Nat → Prop) (A : Nat → Prop) (o : Id) : Ob → Prop
  | .no => False
  | .box cs => Blk β κ D w S A (β o) cs.length 1 1 (fun _ => cs)
  | .row sz n g => (κ o = 0 ∧ n = 0 ∧ ∀ k, ¬ A k) ∨ (0 < κ o ∧ κ o ≤ 9223372036854775807 ∧ 0 < sz ∧ Blk β κ D w S A (β o) sz n (κ o) g)
  | .map f => (∀ k, A k ↔ k = β o) ∧ ∃ ents clock, w.heap[β o]? = some (.map ents clock) ∧ Ents w S ents clock f
  | .it es => ∃ b ents clock seen f, b ≠ β o ∧ (∀ k, A k ↔ k = β o ∨ k = b) ∧ w.heap[b]? = some (.map ents clock) ∧ w.heap[β o]? = some (.mapIter (some b) clock seen clock) ∧ Ents w S ents clock f ∧ Pairs f (ents.toList.filter (fun e => !seen.contains e.born)) es
structure MRD (w : World) (S : Nat → Prop) (D : Id → Prop) (m : Mem) (β κ : Id → Nat) (A : Id → Nat → Prop) : Prop where
  ob : ∀ o x, m.o o = some x → OB β κ D w S (A o) o x
  ns : ∀ o x k, m.o o = some x → A o k → ¬ S k
  dj : ∀ o o' x x' k, m.o o = some x → m.o o' = some x' → A o k → A o' k → o = o'
  nx : ∀ o x, m.o o = some x → D o
  lt : ∀ k, S k → k < w.heap.size
/-- The names in use where so many were given out, one behind the other. -/
abbrev dN (n : Nat) : Id → Prop := fun o => hb o n
abbrev MR (w : World) (S : Nat → Prop) (m : Mem) (β κ : Id → Nat) (A : Id → Nat → Prop) : Prop := MRD w S (dN m.nx) m β κ A
/-- The blocks that are one's own. -/
def own (m : Mem) (A : Id → Nat → Prop) (k : Nat) : Prop := ∃ o x, m.o o = some x ∧ A o k
/-- From one memory to a later one: what stays. -/
structure ExtD (w : World) (S : Nat → Prop) (D : Id → Prop) (m : Mem) (β κ : Id → Nat) (A : Id → Nat → Prop) (w' : World) (S' : Nat → Prop) (D' : Id → Prop) (m' : Mem) (β' κ' : Id → Nat) (A' : Id → Nat → Prop) : Prop where
  os : w'.os = w.os
  tape : w'.tape = w.tape
  output : w'.output = w.output
  size : w.heap.size ≤ w'.heap.size
  sub : ∀ k, S k → S' k
  be : ∀ o, D o → β' o = β o ∧ κ' o = κ o
  keep : ∀ k, k < w.heap.size → ¬ own m A k → w'.heap[k]? = w.heap[k]?
  le : m.nx ≤ m'.nx
  dl : ∀ o, D o → D' o
  new : ∀ k, own m' A' k → w.heap.size ≤ k ∨ own m A k
  snew : ∀ k, S' k → S k ∨ w.heap.size ≤ k ∨ own m A k
abbrev Ext (w : World) (S : Nat → Prop) (m : Mem) (β κ : Id → Nat) (A : Id → Nat → Prop) (w' : World) (S' : Nat → Prop) (m' : Mem) (β' κ' : Id → Nat) (A' : Id → Nat → Prop) : Prop := ExtD w S (dN m.nx) m β κ A w' S' (dN m'.nx) m' β' κ' A'
theorem ExtD.refl (w : World) (S : Nat → Prop) (D : Id → Prop) (m : Mem) (β κ : Id → Nat) (A : Id → Nat → Prop) : ExtD w S D m β κ A w S D m β κ A :=
  ⟨rfl, rfl, rfl, Nat.le_refl _, fun _ h => h, fun _ _ => ⟨rfl, rfl⟩, fun _ _ _ => rfl, Nat.le_refl _, fun _ h => h, fun k h => .inr h, fun _ h => .inl h⟩
theorem Ext.refl (w : World) (S : Nat → Prop) (m : Mem) (β κ : Id → Nat) (A : Id → Nat → Prop) : Ext w S m β κ A w S m β κ A := ExtD.refl _ _ _ _ _ _ _
theorem hb.mono {o : Id} {n n' : Nat} (h : hb o n) (hn : n ≤ n') : hb o n' := by
  cases o with
  | nil => exact h
  | cons k q => exact Nat.lt_of_lt_of_le h hn
theorem ExtD.trans {w w1 w2 : World} {S S1 S2 : Nat → Prop} {D D1 D2 : Id → Prop} {m m1 m2 : Mem} {β κ β1 κ1 β2 κ2 : Id → Nat} {A A1 A2 : Id → Nat → Prop} (h : ExtD w S D m β κ A w1 S1 D1 m1 β1 κ1 A1) (k : ExtD w1 S1 D1 m1 β1 κ1 A1 w2 S2 D2 m2 β2 κ2 A2) : ExtD w S D m β κ A w2 S2 D2 m2 β2 κ2 A2 where
  os := k.os.trans h.os
  tape := k.tape.trans h.tape
  output := k.output.trans h.output
  size := Nat.le_trans h.size k.size
  sub := fun i hi => k.sub i (h.sub i hi)
  be := fun o ho => ⟨(k.be o (h.dl o ho)).1.trans (h.be o ho).1, (k.be o (h.dl o ho)).2.trans (h.be o ho).2⟩
  keep := fun i hi hn => by
    rw [k.keep i (Nat.lt_of_lt_of_le hi h.size) (fun hm => ?_), h.keep i hi hn]
    rcases h.new i hm with h1 | h1
    · omega
    · exact hn h1
  le := Nat.le_trans h.le k.le
  dl := fun o ho => k.dl o (h.dl o ho)
  new := fun i hi => by
    rcases k.new i hi with h1 | h1
    · exact .inl (Nat.le_trans h.size h1)
    · exact h.new i h1
  snew := fun i hi => by
    rcases k.snew i hi with h1 | h1 | h1
    · exact h.snew i h1
    · exact .inr (.inl (Nat.le_trans h.size h1))
    · rcases h.new i h1 with h3 | h3
      · exact .inr (.inl h3)
      · exact .inr (.inr h3)
theorem cell_move {w w' : World} {a : Addr} (h : w'.heap[a.block]? = w.heap[a.block]?) : w'.cell? a = w.cell? a := by simp [World.cell?, h]
theorem aadd_block (a : Addr) (i : Nat) : (a.add i).block = a.block := by unfold Addr.add; split <;> rfl
theorem RV.move {w w' : World} {S S' : Nat → Prop} (hS : ∀ k, S k → S' k) (hw : ∀ k, S k → w'.heap[k]? = w.heap[k]?) {v : Value} {p : PV} (h : RV w S v p) : RV w' S' v p := by
  induction h with
  | und v => exact .und v
  | bool b => exact .bool b
  | int k n h => exact .int k n h
  | str s h => exact .str s h
  | nils => exact .nils
  | cl0 A c sz g => exact .cl0 A c sz g
  | cl a n c sz g val hn hc hb hl hcell h1 hv ih =>
    exact .cl a n c sz g val hn hc (hS _ hb) hl (fun i j p hi hp => (cell_move (w := w) (w' := w') (a := a.add (i * sz + j)) (by rw [aadd_block]; exact hw _ hb)).trans (hcell i j p hi hp)) h1 ih
  | pc a cs val hb hcell h1 hv ih => exact .pc a cs val (hS _ hb) (fun j p hp => (cell_move (w := w) (w' := w') (a := a.add j) (by rw [aadd_block]; exact hw _ hb)).trans (hcell j p hp)) h1 ih
  | ag vs ps hl h1 hv ih => exact .ag vs ps hl h1 ih
  | tu vs ps hl hv ih => exact .tu vs ps hl ih
  | gd cs v p h hu ih => exact .gd cs v p ih hu
theorem OV.move {β κ β' κ' : Id → Nat} {D D' : Id → Prop} {w w' : World} {S S' : Nat → Prop} (hβ : ∀ o, D o → β' o = β o ∧ κ' o = κ o) (hn : ∀ o, D o → D' o) (hS : ∀ k, S k → S' k) (hw : ∀ k, S k → w'.heap[k]? = w.heap[k]?) {v : Value} {p : PV} (h : OV β κ D w S v p) : OV β' κ' D' w' S' v p := by
  induction h with
  | rv v p h => exact .rv v p (h.move hS hw)
  | sl o sz n off len A c hx hl hn2 hk hc hA => exact .sl o sz n off len A c (hn o hx) hl hn2 (by rw [(hβ o hx).2]; exact hk) (by rw [(hβ o hx).2]; exact hc) (fun h => by rw [(hβ o hx).1]; exact hA h)
  | bp o j hx => have := OV.bp (β := β') (κ := κ') (D := D') (w := w') (S := S') o j (hn o hx); rwa [(hβ o hx).1] at this
  | pt o sz n i j hx hi => have := OV.pt (β := β') (κ := κ') (D := D') (w := w') (S := S') o sz n i j (hn o hx) hi; rwa [(hβ o hx).1] at this
  | mp o hx => have := OV.mp (β := β') (κ := κ') (D := D') (w := w') (S := S') o (hn o hx); rwa [(hβ o hx).1] at this
  | ag vs ps hl h1 hv ih => exact .ag vs ps hl h1 ih
  | tu vs ps hl hv ih => exact .tu vs ps hl ih
  | fn f vs ps hl hv ih => exact .fn f vs ps hl ih
  | ifs t v p h ih => exact .ifs t v p ih
  | gd cs v p h hu ih => exact .gd cs v p ih hu
theorem CV.move {w w' : World} {S S' : Nat → Prop} (hS : ∀ k, S k → S' k) (hw : ∀ k, S k → w'.heap[k]? = w.heap[k]?) {F : Nat → Prop} {v : Value} {p : PV} (h : CV w S F v p) : (∀ k, F k → w'.heap[k]? = w.heap[k]?) → CV w' S' F v p := by
  induction h with
  | rv F v p h h0 => exact fun _ => .rv F v p (h.move hS hw) h0
  | no F A sz g h0 => exact fun _ => .no F A sz g h0
  | ow A b n c sz g cur e fz F hz hp hn hm h0 hh hs hl hF h1 hv ih =>
    intro hA
    exact .ow A b n c sz g cur e fz F hz hp hn hm h0 ((hA b ((hF.eq b).2 (.inl rfl))).trans hh) hs hl hF h1 (fun i j p hi hp => ih i j p hi hp (fun k hk => hA k ((hF.eq k).2 (.inr ⟨i, j, hk⟩))))
theorem TV.move {β κ β' κ' : Id → Nat} {D D' : Id → Prop} {w w' : World} {S S' : Nat → Prop} (hβ : ∀ o, D o → β' o = β o ∧ κ' o = κ o) (hn : ∀ o, D o → D' o) (hS : ∀ k, S k → S' k) (hw : ∀ k, S k → w'.heap[k]? = w.heap[k]?) {F : Nat → Prop} {v : Value} {p : PV} (hF : ∀ k, F k → w'.heap[k]? = w.heap[k]?) (h : TV β κ D w S F v p) : TV β' κ' D' w' S' F v p := by
  rcases h with ⟨h, h0⟩ | h
  · exact .inl ⟨h.move hβ hn hS hw, h0⟩
  · exact .inr (h.move hS hw hF)
theorem Blk.move {β κ β' κ' : Id → Nat} {D D' : Id → Prop} {w w' : World} {S S' : Nat → Prop} (hβ : ∀ o, D o → β' o = β o ∧ κ' o = κ o) (hn : ∀ o, D o → D' o) (hS : ∀ k, S k → S' k) (hw : ∀ k, S k → w'.heap[k]? = w.heap[k]?) {A : Nat → Prop} {b sz n c : Nat} {g : Nat → List PV} (hA : ∀ k, A k → w'.heap[k]? = w.heap[k]?) (h : Blk β κ D w S A b sz n c g) : Blk β' κ' D' w' S' A b sz n c g := by
  obtain ⟨cur, e, fz, F, h1, hz, h2, h3, h4, h5, h6⟩ := h
  exact ⟨cur, e, fz, F, (hA b ((h5.eq b).2 (.inl rfl))).trans h1, hz, h2, h3, h4, h5, fun i j p hi hp => ⟨(h6 i j p hi hp).1, (h6 i j p hi hp).2.move hβ hn hS hw (fun k hk => hA k ((h5.eq k).2 (.inr ⟨i, j, hk⟩)))⟩⟩
theorem Ents.move {w w' : World} {S S' : Nat → Prop} (hS : ∀ k, S k → S' k) (hw : ∀ k, S k → w'.heap[k]? = w.heap[k]?) {ents : Array MapEntry} {clock : Nat} {f : Int → Option PV} (h : Ents w S ents clock f) : Ents w' S' ents clock f :=
  ⟨h.st, fun e he => by obtain ⟨k, p, h1, h2, h3, h4⟩ := h.key e he; exact ⟨k, p, h1, h2, h3, h4.move hS hw⟩, h.all⟩
/-- What stands in S stays, the objects' own blocks apart. -/
theorem ExtD.held {w w' : World} {S S' : Nat → Prop} {D D' : Id → Prop} {m m' : Mem} {β κ β' κ' : Id → Nat} {A A' : Id → Nat → Prop} (h : ExtD w S D m β κ A w' S' D' m' β' κ' A') (hm : MRD w S D m β κ A) : ∀ k, S k → w'.heap[k]? = w.heap[k]? :=
  fun k hk => h.keep k (hm.lt k hk) (fun ⟨o, x, h1, h2⟩ => hm.ns o x k h1 h2 hk)
theorem OV.ext {w w' : World} {S S' : Nat → Prop} {D D' : Id → Prop} {m m' : Mem} {β κ β' κ' : Id → Nat} {A A' : Id → Nat → Prop} (h : ExtD w S D m β κ A w' S' D' m' β' κ' A') (hm : MRD w S D m β κ A) {v : Value} {p : PV} (hv : OV β κ D w S v p) : OV β' κ' D' w' S' v p :=
  hv.move h.be h.dl h.sub (h.held hm)
theorem OB.move {β κ β' κ' : Id → Nat} {D D' : Id → Prop} {w w' : World} {S S' : Nat → Prop} (hβ : ∀ o, D o → β' o = β o ∧ κ' o = κ o) (hn : ∀ o, D o → D' o) (hS : ∀ k, S k → S' k) (hw : ∀ k, S k → w'.heap[k]? = w.heap[k]?) {A : Nat → Prop} {o : Id} {x : Ob} (ho : D o) (hA : ∀ k, A k → w'.heap[k]? = w.heap[k]?) (h : OB β κ D w S A o x) : OB β' κ' D' w' S' A o x := by
  obtain ⟨e1, e2⟩ := hβ o ho
  cases x with
  | no => exact h
  | box cs =>
    have := Blk.move hβ hn hS hw hA h
    simp only [OB, e1]; exact this
  | row sz n g =>
    simp only [OB, e1, e2] at h ⊢
    rcases h with h | ⟨h1, h2, h3, h4⟩
    · exact .inl h
    · exact .inr ⟨h1, h2, h3, h4.move hβ hn hS hw hA⟩
  | map f =>
    simp only [OB, e1] at h ⊢
    obtain ⟨h1, ents, clock, h2, h3⟩ := h
    exact ⟨h1, ents, clock, (hA _ ((h1 _).2 rfl)).trans h2, h3.move hS hw⟩
  | it es =>
    simp only [OB, e1] at h ⊢
    obtain ⟨b, ents, clock, seen, all, h1, h2, h3, h4, h5, h6⟩ := h
    exact ⟨b, ents, clock, seen, all, h1, h2, (hA _ ((h2 _).2 (.inr rfl))).trans h3, (hA _ ((h2 _).2 (.inl rfl))).trans h4, h5.move hS hw, h6⟩
theorem CV.lt {w : World} {S : Nat → Prop} {F : Nat → Prop} {v : Value} {p : PV} (h : CV w S F v p) : ∀ k, F k → k < w.heap.size := by
  induction h with
  | rv F v p h h0 => exact fun k hk => absurd hk (h0 k)
  | no F A sz g h0 => exact fun k hk => absurd hk (h0 k)
  | ow A b n c sz g cur e fz F hz hp hn hm h0 hh hs hl hF h1 hv ih =>
    intro k hk
    rcases (hF.eq k).1 hk with rfl | ⟨i, j, hk⟩
    · exact (Array.getElem?_eq_some_iff.1 hh).1
    · obtain ⟨hi, hj⟩ := hF.dm i j k hk
      exact ih i j _ hi (List.getElem?_eq_getElem (by rw [hl i hi]; exact hj)) k hk
theorem Blk.lt {β κ : Id → Nat} {D : Id → Prop} {w : World} {S : Nat → Prop} {A : Nat → Prop} {b sz n c : Nat} {g : Nat → List PV} (h : Blk β κ D w S A b sz n c g) {k : Nat} (hk : A k) : k < w.heap.size := by
  obtain ⟨cur, e, fz, F, h1, hz, h2, h3, h4, h5, h6⟩ := h
  rcases (h5.eq k).1 hk with rfl | ⟨i, j, hk⟩
  · exact (Array.getElem?_eq_some_iff.1 h1).1
  · obtain ⟨hi, hj⟩ := h5.dm i j k hk
    rcases (h6 i j _ hi (List.getElem?_eq_getElem (by rw [h4 i hi]; exact hj))).2 with ⟨_, h0⟩ | h7
    · exact absurd hk (h0 k)
    · exact h7.lt k hk
theorem OB.lt {β κ : Id → Nat} {D : Id → Prop} {w : World} {S : Nat → Prop} {A : Nat → Prop} {o : Id} {x : Ob} (h : OB β κ D w S A o x) {k : Nat} (hk : A k) : k < w.heap.size := by
  cases x with
  | no => exact h.elim
  | box cs => exact Blk.lt h hk
  | row sz n g =>
    rcases h with ⟨_, _, h⟩ | ⟨_, _, _, h⟩
    · exact absurd hk (h k)
    · exact h.lt hk
  | map f =>
    obtain ⟨h1, ents, clock, h2, h3⟩ := h
    rw [(h1 k).1 hk]; exact (Array.getElem?_eq_some_iff.1 h2).1
  | it es =>
    obtain ⟨b, ents, clock, seen, all, h1, h2, h3, h4, h5⟩ := h
    rcases (h2 k).1 hk with rfl | rfl
    · exact (Array.getElem?_eq_some_iff.1 h4).1
    · exact (Array.getElem?_eq_some_iff.1 h3).1
/-- The frame: what its slots hold, its memory; what there was at the call (w0 ..) stays. -/
structure FRD (w0 : World) (S0 : Nat → Prop) (m0 : Mem) (β0 κ0 : Id → Nat) (A0 : Id → Nat → Prop) (nt : Nat) (s : AS) (a : Act) (w : World) (D : Id → Prop) (β κ : Id → Nat) (A : Id → Nat → Prop) (S : Nat → Prop) : Prop where
  df : a.defers = []
  sz : a.tmps.size = nt
  tv : ∀ t, OV β κ D w S (a.tmps.getD t undef) (s.t t)
  mr : MRD w S D s.m β κ A
  ex : ExtD w0 S0 (dN m0.nx) m0 β0 κ0 A0 w S D s.m β κ A
abbrev FR (w0 : World) (S0 : Nat → Prop) (m0 : Mem) (β0 κ0 : Id → Nat) (A0 : Id → Nat → Prop) (nt : Nat) (s : AS) (a : Act) (w : World) (β κ : Id → Nat) (A : Id → Nat → Prop) (S : Nat → Prop) : Prop := FRD w0 S0 m0 β0 κ0 A0 nt s a w (dN s.m.nx) β κ A S
def upd {K α : Type} [DecidableEq K] (f : K → α) (k : K) (v : α) : K → α := fun i => if i = k then v else f i
theorem upd_at {K α : Type} [DecidableEq K] (f : K → α) (k : K) (v : α) (i : K) : upd f k v i = if i = k then v else f i := rfl
def AS.put (s : AS) (d : Option Tmp) (v : PV) : AS := match d with | some d => { s with t := upd s.t d v } | none => s
theorem FRD.step {w0 : World} {S0 : Nat → Prop} {m0 : Mem} {β0 κ0 : Id → Nat} {A0 : Id → Nat → Prop} {nt : Nat} {s : AS} {a : Act} {w : World} {D : Id → Prop} {β κ : Id → Nat} {A : Id → Nat → Prop} {S : Nat → Prop} (h : FRD w0 S0 m0 β0 κ0 A0 nt s a w D β κ A S)
    {w' : World} {D' : Id → Prop} {m' : Mem} {β' κ' : Id → Nat} {A' : Id → Nat → Prop} {S' : Nat → Prop} (he : ExtD w S D s.m β κ A w' S' D' m' β' κ' A') (hm : MRD w' S' D' m' β' κ' A') {d : Option Tmp} (hd : ∀ i, d = some i → i < nt) {v : Value} {p : PV} (hv : OV β' κ' D' w' S' v p) :
    FRD w0 S0 m0 β0 κ0 A0 nt (({ s with m := m' } : AS).put d p) (a.put d v) w' D' β' κ' A' S' := by
  cases d with
  | none => exact ⟨h.df, h.sz, fun t => (h.tv t).ext he h.mr, hm, h.ex.trans he⟩
  | some i =>
    refine ⟨h.df, by simp [Act.put, h.sz], fun t => ?_, hm, h.ex.trans he⟩
    have hi : i < a.tmps.size := by rw [h.sz]; exact hd i rfl
    show OV _ _ _ _ _ ((a.tmps.setIfInBounds i v).getD t undef) (upd s.t i p t)
    unfold upd
    by_cases e : t = i
    · subst e
      rw [if_pos rfl]
      have : (a.tmps.setIfInBounds t v).getD t undef = v := by simp [Array.getD, hi]
      rw [this]; exact hv
    · rw [if_neg e]
      have : (a.tmps.setIfInBounds i v).getD t undef = a.tmps.getD t undef := by
        simp only [Array.getD_eq_getD_getElem?, Array.getElem?_setIfInBounds, if_neg (Ne.symm e)]
      rw [this]; exact (h.tv t).ext he h.mr
theorem FR.step {w0 : World} {S0 : Nat → Prop} {m0 : Mem} {β0 κ0 : Id → Nat} {A0 : Id → Nat → Prop} {nt : Nat} {s : AS} {a : Act} {w : World} {β κ : Id → Nat} {A : Id → Nat → Prop} {S : Nat → Prop} (h : FR w0 S0 m0 β0 κ0 A0 nt s a w β κ A S)
    {w' : World} {m' : Mem} {β' κ' : Id → Nat} {A' : Id → Nat → Prop} {S' : Nat → Prop} (he : Ext w S s.m β κ A w' S' m' β' κ' A') (hm : MR w' S' m' β' κ' A') {d : Option Tmp} (hdl : ∀ i, d = some i → i < nt) {v : Value} {p : PV} (hv : OV β' κ' (dN m'.nx) w' S' v p) :
    FR w0 S0 m0 β0 κ0 A0 nt (({ s with m := m' } : AS).put d p) (a.put d v) w' β' κ' A' S' := by
  have := FRD.step h he hm hdl hv
  cases d <;> exact this
end Go.Proofs.YtppfogbgbpadiaaW.AW
namespace Go.Proofs.YtppfogbgbpadiaaW.AW
open Go Go.RowKit
set_option linter.unusedVariables false
def ofVal : Value → PV
  | .bool b => .bool b
  | .int k n => if k.min ≤ n ∧ n ≤ k.max then .int k n else .und
  | .string s => if s.size ≤ 9223372036854775807 then .str s else .und
  | .slice none 0 0 => .nils
  | _ => .und
/-- What kind of type it is. -/
inductive TK where
  | bool | int (k : IntKind) | string | struct | slice (e : TypeId) | map (k e : TypeId) | ptr | func | other
  deriving DecidableEq
/-- What is asked of a type: kind, cells, the fields' offsets, sizes, types, the zero's cells (and that they are to be had); of a slice's element: cells, bytes, whether it can be made, its zero. -/
structure TD where
  k : TK
  sz : Nat
  fs : List (Nat × Nat × Nat)
  zc : List PV
  zok : Bool
  es : Nat
  eb : Nat
  eok : Bool
  ez : List PV
  zv : PV
  zvk : Bool
  eqf : Bool
  eqk : List TK
def tk (P : Program) (t : TypeId) : TK := match P.underlying t with
  | some .bool => .bool | some (.int k) => .int k | some .string => .string | some (.struct _) => .struct | some (.slice e) => .slice e | some (.map k e) => .map k e | some (.pointer _) => .ptr | some (.func _ _ _) => .func | _ => .other
def zcells (P : Program) (t : TypeId) : Array Value := match (P.info? t).bind (·.zero) with | some z => z.cells | none => #[]
def zval (P : Program) (t : TypeId) : PV := match (P.info? t).bind (·.zero) with | some (.agg cs) => .ag (cs.toList.map ofVal) | some v => ofVal v | none => .und
def scal (P : Program) (t : TypeId) : Bool := match P.underlying t with | some .bool => true | some (.int _) => true | some .string => true | _ => false
def eqFs (P : Program) : Nat → List Field → Bool
  | _, [] => true
  | i, f :: r => f.name != "_" && f.offset == i && scal P f.type && eqFs P (i + 1) r
def tyD (P : Program) (t : TypeId) : TD where
  k := tk P t
  sz := P.cellsOf t
  fs := match P.underlying t with | some (.struct fs) => fs.toList.map (fun f => (f.offset, P.cellsOf f.type, f.type)) | _ => []
  zc := (zcells P t).toList.map ofVal
  zok := (((P.info? t).bind (·.zero)).map (fun z => z.cells.all (·.oneCell') && decide (z.cells.size = P.cellsOf t))).getD false && (match P.underlying t with | some (.struct fs) => fs.all (fun f => (P.info? f.type).isSome) | _ => true)
  es := match P.underlying t with | some (.slice e) => P.cellsOf e | _ => 0
  eb := match P.underlying t with | some (.slice e) => P.bytesOf e | _ => 0
  eok := match P.underlying t with | some (.slice e) => (((P.info? e).bind (·.zero)).map (fun z => decide (z.cells.size = P.cellsOf e) && z.cells.all (·.oneCell') && decide (0 < P.cellsOf e) && decide (0 < P.bytesOf e))).getD false | _ => false
  ez := match P.underlying t with | some (.slice e) => (zcells P e).toList.map ofVal | _ => []
  zv := zval P t
  zvk := match (P.info? t).bind (·.zero) with | some (.agg cs) => cs.all (·.oneCell') | some _ => true | none => false
  eqf := match P.underlying t with | some (.struct fs) => eqFs P 0 fs.toList && !P.stoodInHeld t && !P.eqGuardType P.depth t | _ => false
  eqk := match P.underlying t with | some (.struct fs) => fs.toList.map (fun f => tk P f.type) | _ => []
/-- A value with the condition under which it is had. -/
structure PR where
  ok : Prop
  v : PV
def no : PR := ⟨False, .und⟩
def bt (s : ByteArray) (i : Int) : Int := if h : i.toNat < s.size then ((s[i.toNat]'h).toNat : Int) else 0
def ibits (b : BinOp) (k : IntKind) (x y : Int) : Int := match b with
  | .and => k.wrap (BitVec.ofInt k.bits x &&& BitVec.ofInt k.bits y).toNat
  | .or => k.wrap (BitVec.ofInt k.bits x ||| BitVec.ofInt k.bits y).toNat
  | .xor => k.wrap (BitVec.ofInt k.bits x ^^^ BitVec.ofInt k.bits y).toNat
  | .andNot => k.wrap (BitVec.ofInt k.bits x &&& ~~~BitVec.ofInt k.bits y).toNat
  | _ => 0
def aint (b : BinOp) (k : IntKind) (x : Int) (k' : IntKind) (y : Int) : PR := match b with
  | .add => ⟨k = k', .int k (k.wrap (x + y))⟩
  | .sub => ⟨k = k', .int k (k.wrap (x - y))⟩
  | .mul => ⟨k = k', .int k (k.wrap (x * y))⟩
  | .quo => ⟨k = k' ∧ y ≠ 0, .int k (k.wrap (x.tdiv y))⟩
  | .rem => ⟨k = k' ∧ y ≠ 0, .int k (x.tmod y)⟩
  | .shl => ⟨0 ≤ y, .int k (k.wrap (x * 2 ^ min y.toNat k.bits))⟩
  | .shr => ⟨0 ≤ y, .int k (x.fdiv (2 ^ min y.toNat k.bits))⟩
  | .lss => ⟨k = k', .bool (decide (x < y))⟩
  | .leq => ⟨k = k', .bool (decide (x ≤ y))⟩
  | .gtr => ⟨k = k', .bool (decide (y < x))⟩
  | .geq => ⟨k = k', .bool (decide (y ≤ x))⟩
  | .eql => ⟨k = k', .bool (decide (x = y))⟩
  | .neq => ⟨k = k', .bool (!decide (x = y))⟩
  | b => ⟨k = k', .int k (ibits b k x y)⟩
def astr (b : BinOp) (x y : ByteArray) : PR := match b with
  | .add => ⟨x.size + y.size ≤ 9223372036854775807, .str (x ++ y)⟩
  | .eql => ⟨True, .bool (decide (x = y))⟩
  | .neq => ⟨True, .bool (!decide (x = y))⟩
  | .lss => ⟨True, .bool (Op.bytesLess x.toList y.toList)⟩
  | .leq => ⟨True, .bool (Op.bytesLess x.toList y.toList || decide (x = y))⟩
  | .gtr => ⟨True, .bool (!(Op.bytesLess x.toList y.toList || decide (x = y)))⟩
  | .geq => ⟨True, .bool (!Op.bytesLess x.toList y.toList)⟩
  | _ => no
def aeq1 : TK → PV → PV → Option Bool
  | .int _, .int k a, .int k' b => if k = k' then some (decide (a = b)) else none
  | .string, .str a, .str b => some (decide (a = b))
  | .bool, .bool a, .bool b => some (a == b)
  | _, _, _ => none
def aeqs : List TK → List PV → List PV → Option Bool
  | [], [], [] => some true
  | t :: ts, x :: xs, y :: ys => match aeq1 t x y, aeqs ts xs ys with | some a, some b => some (a && b) | _, _ => none
  | _, _, _ => none
def abin (P : Program) (b : BinOp) (t : TypeId) : PV → PV → PR
  | .int k x, .int k' y => aint b k x k' y
  | .str x, .str y => astr b x y
  | .bool x, .bool y => match b with
    | .eql => ⟨tk P t = .bool, .bool (x == y)⟩
    | .neq => ⟨tk P t = .bool, .bool (!(x == y))⟩
    | _ => no
  | .ag xs, .ag ys => match aeqs (tyD P t).eqk xs ys with
    | some r => match b with
      | .eql => ⟨(tyD P t).eqf = true, .bool r⟩
      | .neq => ⟨(tyD P t).eqf = true, .bool (!r)⟩
      | _ => no
    | none => no
  | _, _ => no
/-- Known under cs: taken where the guard is cs (or longer). -/
def within : List Bool → List Bool → Prop
  | [], _ => True
  | a :: ds, b :: cs => a = b ∧ within ds cs
  | _, _ => False
theorem within_all : ∀ {ds cs : List Bool}, within ds cs → cs.all id = true → ds.all id = true
  | [], _, _, _ => rfl
  | a :: ds, b :: cs, h, hc => by
    rw [List.all_cons, Bool.and_eq_true] at hc ⊢
    exact ⟨by rw [h.1]; exact hc.1, within_all h.2 hc.2⟩
  | _ :: _, [], h, _ => h.elim
instance within_dec : ∀ ds cs : List Bool, Decidable (within ds cs)
  | [], _ => .isTrue trivial
  | a :: ds, b :: cs => by unfold within; exact @instDecidableAnd _ _ _ (within_dec ds cs)
  | _ :: _, [] => .isFalse (fun h => h)
def strip (cs : List Bool) : PV → PV
  | .gd ds p => if within ds cs then p else .gd ds p
  | p => p
def pickv (cs : List Bool) (t : Bool) (a b : PV) : PV := match strip (cs ++ [t]) a, strip (cs ++ [!t]) b with
  | .bool x, .bool y => .bool (bif t then x else y)
  | p, q => bif t then p else q
theorem pickv_t {cs : List Bool} {a b : PV} : pickv cs true a b = strip (cs ++ [true]) a := by
  unfold pickv; split
  · rename_i h _; rw [h]; rfl
  · rfl
theorem pickv_f {cs : List Bool} {a b : PV} : pickv cs false a b = strip (cs ++ [true]) b := by
  unfold pickv; split
  · rename_i h; rw [show (cs ++ [true]) = (cs ++ [!false]) from rfl, h]; rfl
  · rfl
theorem pickv_bb {cs : List Bool} {t x y : Bool} : pickv cs t (.bool x) (.bool y) = .bool (bif t then x else y) := rfl
theorem pickv_gb {cs ds : List Bool} {t x y : Bool} : pickv cs t (.gd ds (.bool x)) (.bool y) = if within ds (cs ++ [t]) then .bool (bif t then x else y) else bif t then .gd ds (.bool x) else .bool y := by
  by_cases h : within ds (cs ++ [t]) <;> simp only [pickv, strip, h, if_true, if_false]
theorem pickv_bg {cs ds : List Bool} {t x y : Bool} : pickv cs t (.bool x) (.gd ds (.bool y)) = if within ds (cs ++ [!t]) then .bool (bif t then x else y) else bif t then .bool x else .gd ds (.bool y) := by
  by_cases h : within ds (cs ++ [!t]) <;> simp only [pickv, strip, h, if_true, if_false]
theorem pickv_gg {cs ds es : List Bool} {t x y : Bool} : pickv cs t (.gd ds (.bool x)) (.gd es (.bool y)) = if within ds (cs ++ [t]) then (if within es (cs ++ [!t]) then .bool (bif t then x else y) else bif t then .bool x else .gd es (.bool y)) else bif t then .gd ds (.bool x) else if within es (cs ++ [!t]) then .bool y else .gd es (.bool y) := by
  by_cases h : within ds (cs ++ [t]) <;> by_cases h' : within es (cs ++ [!t]) <;> simp only [pickv, strip, h, h', if_true, if_false]
def ld (d : TD) (cs : List PV) : PR := match d.k with
  | .struct => ⟨d.sz ≤ cs.length, .ag (cs.take d.sz)⟩
  | .other => no
  | _ => match cs with | p :: _ => ⟨True, p⟩ | [] => no
/-- It owns nothing from within. -/
def PV.isOw : PV → Bool
  | .ow _ _ _ => true
  | _ => false
def nOw : PV → Prop
  | .ow _ _ _ => False
  | .ag cs => cs.all (fun p => !p.isOw) = true
  | _ => True
def ldo (d : TD) (cs : List PV) : PR := ⟨(ld d cs).ok ∧ nOw (ld d cs).v, (ld d cs).v⟩
def pcells : PV → Option (List PV)
  | .ag cs => some cs
  | .und | .gd _ _ | .tu _ | .ow _ _ _ | .ifs _ _ => none
  | p => some [p]
end Go.Proofs.YtppfogbgbpadiaaW.AW
namespace Go.Proofs.YtppfogbgbpadiaaW.AW
open Go Go.RowKit
set_option linter.unusedVariables false
def optI (e : Operand → PV) : Option Operand → Option (Option Int)
  | none => some none
  | some x => match e x with | .int _ n => some (some n) | _ => none
def aslice (P : Program) (t : TypeId) (x : PV) (lo hi : Option Int) : PR := match x with
  | .str s => let l := lo.getD 0; let h := hi.getD s.size; ⟨tk P t = .string ∧ 0 ≤ l ∧ l ≤ h ∧ h ≤ s.size, .str (s.extract l.toNat h.toNat)⟩
  | .cl sz n g => let l := lo.getD 0; let h := hi.getD n; ⟨(tyD P t).es = sz ∧ (tyD P t).eok = true ∧ 0 ≤ l ∧ l ≤ h ∧ h ≤ n, .cl sz (h - l).toNat (fun i => g (l.toNat + i))⟩
  | .sl o sz n off len => let l := lo.getD 0; let h := hi.getD len; ⟨(tyD P t).es = sz ∧ (tyD P t).eok = true ∧ 0 ≤ l ∧ l ≤ h ∧ h ≤ len, .sl o sz n (off + l.toNat) (h - l).toNat⟩
  | .nils => ⟨(tyD P t).eok = true ∧ lo.getD 0 = 0 ∧ hi.getD 0 = 0, .nils⟩
  | _ => no
def alen (P : Program) (t : TypeId) : PV → PR
  | .str s => ⟨tk P t = .string, .int .i64 s.size⟩
  | .cl _ n _ => ⟨(tyD P t).eok = true, .int .i64 n⟩
  | .sl _ _ _ _ n => ⟨(tyD P t).eok = true, .int .i64 n⟩
  | .nils => ⟨(tyD P t).eok = true, .int .i64 0⟩
  | _ => no
def aconv (P : Program) (s d : TypeId) : PV → PR
  | .int k n => match tk P s, tk P d with
    | .int _, .int q => ⟨True, .int q (q.wrap n)⟩
    | .int _, .string => ⟨True, .str (Utf8.encode n)⟩
    | _, _ => no
  | .str x => match tk P s, tk P d with
    | .string, .string => ⟨True, .str x⟩
    | _, _ => no
  | _ => no
/-- The bytes of a row. -/
def byteAt : List PV → UInt8
  | [.int .u8 n] => UInt8.ofNat n.toNat
  | _ => 0
def bytesG (n : Nat) (g : Nat → List PV) : ByteArray := ⟨((List.range n).map (fun i => byteAt (g i))).toArray⟩
def rowU8 (n : Nat) (g : Nat → List PV) : Prop := ∀ i, i < n → ∃ x, g i = [.int .u8 x]
def tkU8 (P : Program) (t : TypeId) : Prop := match tk P t with | .slice e => tk P e = .int .u8 | _ => False
instance (P : Program) (t : TypeId) : Decidable (tkU8 P t) := by unfold tkU8; split <;> infer_instance
/-- Conversions that read memory: bytes to a string. -/
def aconvM (P : Program) (s d : TypeId) (m : Mem) : PV → PR
  | .cl 1 n g => ⟨tkU8 P s ∧ tk P d = .string ∧ rowU8 n g, .str (bytesG n g)⟩
  | .nils => ⟨tkU8 P s ∧ tk P d = .string, .str .empty⟩
  | .sl o 1 n off len => match m.o o with
    | some (.row 1 n' g) => ⟨n' = n ∧ tkU8 P s ∧ tk P d = .string ∧ rowU8 len (fun i => g (off + i)), .str (bytesG len (fun i => g (off + i)))⟩
    | _ => no
  | p => aconv P s d p
def afill (fs : List (Nat × Nat × Nat)) : List PV → List (Nat × PV) → Option (List PV)
  | cs, [] => some cs
  | cs, (i, v) :: r => match fs[i]?, pcells v with
    | some (off, sz, _), some vs => if vs.length = sz ∧ off + sz ≤ cs.length then afill fs (cs.take off ++ vs ++ cs.drop (off + sz)) r else none
    | _, _ => none
/-- The operations that leave memory alone. -/
def apure (P : Program) (cs : List Bool) (op : Op) (e : Operand → PV) (m : Mem) : PR := match op with
  | .move x | .assign x => ⟨True, e x⟩
  | .pick c a b => match e c with | .bool t => ⟨True, pickv cs t (e a) (e b)⟩ | _ => no
  | .unOp .not _ x => match e x with | .bool b => ⟨True, .bool !b⟩ | _ => no
  | .unOp .neg _ x => match e x with | .int k n => ⟨True, .int k (k.wrap (0 - n))⟩ | _ => no
  | .binOp b t x y _ => abin P b t (e x) (e y)
  | .convert s d x => aconvM P s d m (e x)
  | .extract x i => match e x with | .tu ps => ⟨i < ps.length, ps.getD i .und⟩ | _ => no
  | .field t x f => match (tyD P t).fs[f]? with
    | some (off, _, ft) => match e x with
      | .ag cs => ⟨(tyD P t).k = .struct ∧ off ≤ cs.length ∧ (ld (tyD P ft) (cs.drop off)).ok, (ld (tyD P ft) (cs.drop off)).v⟩
      | _ => no
    | none => no
  | .index t x i => match e x, e i with
    | .str s, .int _ n => ⟨tk P t = .string ∧ 0 ≤ n ∧ n < s.size, .int .u8 (bt s n)⟩
    | _, _ => no
  | .fieldAddr t x f => match (tyD P t).fs[f]? with
    | some (off, sz, _) => match e x with
      | .bp o j => ⟨(tyD P t).k = .struct ∧ sz ≠ 0, .bp o (j + off)⟩
      | .pt o es n i j => ⟨(tyD P t).k = .struct ∧ sz ≠ 0, .pt o es n i (j + off)⟩
      | .pc cs => ⟨(tyD P t).k = .struct ∧ sz ≠ 0, .pc (cs.drop off)⟩
      | _ => no
    | none => no
  | .indexAddr t x i => match e x, e i with
    | .cl sz n g, .int _ ix => ⟨(tyD P t).es = sz ∧ (tyD P t).eok = true ∧ 0 ≤ ix ∧ ix < n, .pc (g ix.toNat)⟩
    | .sl o sz n off len, .int _ ix => ⟨(tyD P t).es = sz ∧ (tyD P t).eok = true ∧ 0 ≤ ix ∧ ix < len, .pt o sz n (off + ix.toNat) 0⟩
    | _, _ => no
  | .load t x => match e x with
    | .pc cs => ld (tyD P t) cs
    | .bp o j => match m.o o with | some (.box cs) => ldo (tyD P t) (cs.drop j) | _ => no
    | .pt o sz n i j => match m.o o with | some (.row sz' n' g) => ⟨sz' = sz ∧ n' = n ∧ (ldo (tyD P t) ((g i).drop j)).ok, (ld (tyD P t) ((g i).drop j)).v⟩ | _ => no
    | _ => no
  | .slice t x lo hi none => match optI e lo, optI e hi with
    | some l, some h => aslice P t (e x) l h
    | _, _ => no
  | .lookup t x i ok => match e x, e i with
    | .mp o, .int .i64 k => match m.o o with
      | some (.map f) => match (tyD P t).k with
        | .map kt et => ⟨tk P kt = .int .i64 ∧ (tyD P et).zvk = true, if ok then .tu [(f k).getD (tyD P et).zv, .bool (f k).isSome] else (f k).getD (tyD P et).zv⟩
        | _ => no
      | _ => no
    | _, _ => no
  | .nilCheck x => match e x with
    | .bp o j => ⟨True, .bp o j⟩
    | .pt o sz n i j => ⟨True, .pt o sz n i j⟩
    | .pc cs => ⟨True, .pc cs⟩
    | .fn f ps => ⟨True, .fn f ps⟩
    | _ => no
  | .makeFunc (.func f) fi ca => ⟨fi = #[], .fn f (ca.toList.map e)⟩
  | .makeInterface t x => ⟨(tyD P t).eok = true, .ifs t (e x)⟩
  | .build t ps => match afill (tyD P t).fs (tyD P t).zc (ps.toList.map (fun x => (x.1, e x.2))) with
    | some cs => ⟨(tyD P t).k = .struct ∧ (tyD P t).zok = true, .ag cs⟩
    | none => no
  | .call c => match c.callee with
    | .builtin .len => match c.args.toList, c.argTypes.toList with | [x], [t] => alen P t (e x) | _, _ => no
    | .builtin .max => match c.args.toList with | [x, y] => (match e x, e y with | .int k a, .int k' b => ⟨k = k', .int k (if b > a then b else a)⟩ | _, _ => no) | _ => no
    | .builtin .min => match c.args.toList with | [x, y] => (match e x, e y with | .int k a, .int k' b => ⟨k = k', .int k (if b < a then b else a)⟩ | _, _ => no) | _ => no
    | _ => no
  | _ => no
section inv
variable {β κ : Id → Nat} {D : Id → Prop} {w : World} {S : Nat → Prop} {v : Value}
theorem OV.bool_inv {b : Bool} (h : OV β κ D w S v (.bool b)) : v = .bool b := by cases h with | rv _ _ h => cases h; rfl
theorem OV.int_inv {k : IntKind} {n : Int} (h : OV β κ D w S v (.int k n)) : v = .int k n ∧ k.min ≤ n ∧ n ≤ k.max := by cases h with | rv _ _ h => cases h with | int _ _ h => exact ⟨rfl, h⟩
theorem OV.str_inv {s : ByteArray} (h : OV β κ D w S v (.str s)) : v = .string s ∧ s.size ≤ 9223372036854775807 := by cases h with | rv _ _ h => cases h with | str _ h => exact ⟨rfl, h⟩
theorem OV.nils_inv (h : OV β κ D w S v .nils) : v = .slice none 0 0 := by cases h with | rv _ _ h => cases h; rfl
theorem OV.int_mk {k : IntKind} {n : Int} (h : k.min ≤ n ∧ n ≤ k.max) : OV β κ D w S (.int k n) (.int k n) := .rv _ _ (.int _ _ h)
theorem OV.bool_mk {b : Bool} : OV β κ D w S (.bool b) (.bool b) := .rv _ _ (.bool _)
theorem OV.str_mk {s : ByteArray} (h : s.size ≤ 9223372036854775807) : OV β κ D w S (.string s) (.str s) := .rv _ _ (.str _ h)
theorem wrap_in (k : IntKind) (n : Int) : k.min ≤ k.wrap n ∧ k.wrap n ≤ k.max := by
  have h := Go.wf_wrap k n
  simpa [Lit.wf] using h
theorem OV.wrap_mk {k : IntKind} {n : Int} : OV β κ D w S (.int k (k.wrap n)) (.int k (k.wrap n)) := .int_mk (wrap_in k n)
theorem OV.strip {cs : List Bool} {p : PV} (h : OV β κ D w S v p) (hc : cs.all id = true) : OV β κ D w S v (strip cs p) := by
  cases p with
  | gd ds q =>
    show OV β κ D w S v (if within ds cs then q else .gd ds q)
    by_cases hw : within ds cs
    · rw [if_pos hw]
      have hd : ds.all id = true := within_all hw hc
      cases h with
      | rv _ _ h => cases h with | gd _ _ _ h _ => exact .rv _ _ (h hd)
      | gd _ _ _ h _ => exact h hd
    · rw [if_neg hw]
      exact h
  | _ => exact h
end inv
end Go.Proofs.YtppfogbgbpadiaaW.AW
namespace Go.Proofs.YtppfogbgbpadiaaW.AW
open Go Go.RowKit
set_option linter.unusedVariables false
set_option linter.unusedSimpArgs false
section
variable {P : Program} {β κ : Id → Nat} {D : Id → Prop} {w : World} {S : Nat → Prop}
theorem tk_some {t : TypeId} (h : tk P t ≠ .other) : (P.underlying t).isSome = true := by
  unfold tk at h
  cases hu : P.underlying t with
  | none => rw [hu] at h; exact absurd rfl h
  | some d => rfl
theorem tk_bool {t : TypeId} (h : tk P t = .bool) : P.underlying t = some .bool := by
  unfold tk at h; split at h <;> first | assumption | cases h
theorem tk_int {t : TypeId} {k : IntKind} (h : tk P t = .int k) : P.underlying t = some (.int k) := by
  unfold tk at h; split at h <;> first | (cases h; assumption) | cases h
theorem tk_string {t : TypeId} (h : tk P t = .string) : P.underlying t = some .string := by
  unfold tk at h; split at h <;> first | assumption | cases h
theorem tk_struct {t : TypeId} (h : tk P t = .struct) : ∃ fs, P.underlying t = some (.struct fs) := by
  unfold tk at h; split at h <;> first | exact ⟨_, by assumption⟩ | cases h
theorem bytes_eq {a b : ByteArray} : (a.toList == b.toList) = decide (a = b) := by
  rw [Bool.eq_iff_iff, beq_iff_eq, ByteArray.toList_eq, ByteArray.toList_eq, decide_eq_true_eq]
  exact ⟨fun h => ByteArray.ext (Array.toList_inj.mp h), fun h => by rw [h]⟩
theorem int_beq (a c : Int) : (a == c) = decide (a = c) := by rw [Bool.eq_iff_iff]; simp
theorem tmod_in {k : IntKind} {x y : Int} (h : k.min ≤ x ∧ x ≤ k.max) : k.min ≤ x.tmod y ∧ x.tmod y ≤ k.max := by
  have h0 : k.min ≤ 0 ∧ 0 ≤ k.max := by cases k <;> decide
  have h1 := Int.natAbs_tmod x y
  have h2 := Nat.mod_le x.natAbs y.natAbs
  rcases Int.le_total 0 x with hx | hx
  · have h3 := Int.tmod_nonneg y hx
    omega
  · have h3 := Int.tmod_nonneg y (show 0 ≤ -x by omega)
    rw [Int.neg_tmod] at h3
    omega
theorem fdiv_in {k : IntKind} {x : Int} {n : Nat} (h : k.min ≤ x ∧ x ≤ k.max) : k.min ≤ x.fdiv (2 ^ n) ∧ x.fdiv (2 ^ n) ≤ k.max := by
  have h0 : k.min ≤ 0 ∧ 0 ≤ k.max := by cases k <;> decide
  have hp : (1 : Int) ≤ 2 ^ n := by exact_mod_cast Nat.one_le_two_pow
  rw [Int.fdiv_eq_ediv_of_nonneg _ (by omega)]
  rcases Int.le_total 0 x with hx | hx
  · have h1 := Int.ediv_nonneg hx (show 0 ≤ (2:Int) ^ n by omega)
    have h2 := Int.ediv_le_self (2 ^ n) hx
    omega
  · have h1 : x / 2 ^ n ≤ 0 := Int.ediv_le_of_le_mul (by omega) (by simpa using hx)
    have h2 : x ≤ x / 2 ^ n := by
      rw [Int.le_ediv_iff_mul_le (by omega)]
      have := Int.mul_le_mul_of_nonneg_left (show -(2:Int)^n ≤ -1 by omega) (show 0 ≤ -x by omega)
      have e : -x * -(2:Int)^n = x * 2^n := by rw [Int.neg_mul_neg]
      rw [e] at this; omega
    omega
theorem part_one {t : TypeId} {vs : Array Value} {i : Nat} {v : Value} (h : vs[i]? = some v) (ht : scal P t = true) (w : World) : (part t vs i).run P w = .ok v w := by
  have ha : (isAgg t).run P w = .ok false w := by
    unfold scal at ht
    cases hu : P.underlying t with
    | none => rw [hu] at ht; cases ht
    | some d => rw [hu] at ht; cases d <;> simp_all [isAgg, run_underlying hu]
  simp [part, ha, h]
theorem eq1_ok {t : TypeId} {vx vy : Value} {x y : PV} {r : Bool} (hx : OV β κ D w S vx x) (hy : OV β κ D w S vy y) (h : aeq1 (tk P t) x y = some r) (d : Nat) : (Op.equalIn (d + 1) t vx vy).run P w = .ok r w := by
  unfold aeq1 at h
  split at h
  · rename_i k0 k a k' b ht
    split at h
    · rename_i hk
      subst hk
      simp only [Option.some.injEq] at h; subst h
      rw [hx.int_inv.1, hy.int_inv.1, run_equalIn_int w d t k _ a b (tk_int ht), int_beq]
    · cases h
  · rename_i a b ht
    simp only [Option.some.injEq] at h; subst h
    rw [hx.str_inv.1, hy.str_inv.1, run_equalIn_string w d t a b (tk_string ht), bytes_eq]
  · rename_i a b ht
    simp only [Option.some.injEq] at h; subst h
    rw [hx.bool_inv, hy.bool_inv, run_equalIn_bool' w d t a b (tk_bool ht)]
  · cases h
theorem eqs_ok {vx vy : Array Value} (d : Nat) : ∀ (fs : List Field) (i : Nat) (xs ys : List PV) (r : Bool), eqFs P i fs = true → aeqs (fs.map (fun f => tk P f.type)) xs ys = some r →
    (∀ (j : Nat) p, xs[j]? = some p → ∃ v, vx[i + j]? = some v ∧ OV β κ D w S v p) → (∀ (j : Nat) p, ys[j]? = some p → ∃ v, vy[i + j]? = some v ∧ OV β κ D w S v p) → (Op.eqFields (d + 1) vx vy fs).run P w = .ok r w
  | [], i, xs, ys, r, _, h, _, _ => by
    cases xs <;> cases ys <;> simp only [List.map_nil, aeqs, Option.some.injEq] at h <;> first | (subst h; simp [Op.eqFields]) | cases h
  | f :: fs, i, xs, ys, r, hf, h, hx, hy => by
    simp only [eqFs, Bool.and_eq_true, bne_iff_ne, beq_iff_eq] at hf
    obtain ⟨⟨⟨h1, h2⟩, h3⟩, h4⟩ := hf
    cases xs with
    | nil => simp [aeqs] at h
    | cons x xs =>
      cases ys with
      | nil => simp [aeqs] at h
      | cons y ys =>
        simp only [List.map_cons, aeqs] at h
        split at h
        · rename_i a b ha hb
          simp only [Option.some.injEq] at h; subst h
          obtain ⟨v, v1, v2⟩ := hx 0 x rfl
          obtain ⟨u, u1, u2⟩ := hy 0 y rfl
          have ih := eqs_ok d fs (i + 1) xs ys b h4 hb (fun j p hp => by have := hx (j + 1) p (by simpa using hp); rwa [show i + 1 + j = i + (j + 1) by omega]) (fun j p hp => by have := hy (j + 1) p (by simpa using hp); rwa [show i + 1 + j = i + (j + 1) by omega])
          have e1 : (part f.type vx f.offset).run P w = .ok v w := part_one (by rw [h2]; exact v1) h3 w
          have e2 : (part f.type vy f.offset).run P w = .ok u w := part_one (by rw [h2]; exact u1) h3 w
          have e3 := eq1_ok (P := P) (t := f.type) v2 u2 ha d
          simp only [Op.eqFields]
          rw [if_pos h1]
          cases a <;> simp [e1, e2, e3, ih]
        · cases h
theorem ag_at {ps : List PV} {v : Value} (h : OV β κ D w S v (.ag ps)) : ∃ vs : Array Value, v = .agg vs ∧ ∀ (j : Nat) p, ps[j]? = some p → ∃ u, vs[j]? = some u ∧ OV β κ D w S u p := by
  have key : ∀ (vs : Array Value), vs.size = ps.length → (∀ j p, ps[j]? = some p → OV β κ D w S (vs.getD j undef) p) → ∀ (j : Nat) p, ps[j]? = some p → ∃ u, vs[j]? = some u ∧ OV β κ D w S u p := fun vs hl hv j p hp => by
    have hj : j < vs.size := by rw [hl]; exact (List.getElem?_eq_some_iff.1 hp).1
    exact ⟨vs.getD j undef, by simp [Array.getD, hj], hv j p hp⟩
  cases h with
  | rv _ _ h => cases h with | ag vs _ hl h1 hv => exact ⟨vs, rfl, key vs hl (fun j p hp => .rv _ _ (hv j p hp))⟩
  | ag vs _ hl h1 hv => exact ⟨vs, rfl, key vs hl hv⟩
theorem eqStruct {t : TypeId} {x y : Value} {xs ys : List PV} {r : Bool} (hx : OV β κ D w S x (.ag xs)) (hy : OV β κ D w S y (.ag ys)) (h : aeqs (tyD P t).eqk xs ys = some r) (hf : (tyD P t).eqf = true) :
    ∃ vx vy, x = .agg vx ∧ y = .agg vy ∧ (Op.equalIn 10000 t (.agg vx) (.agg vy)).run P w = .ok r w ∧ P.eqGuardType P.depth t = false := by
  obtain ⟨vx, rfl, v1⟩ := ag_at hx
  obtain ⟨vy, rfl, v2⟩ := ag_at hy
  cases hu : P.underlying t with
  | none => simp [tyD, hu] at hf
  | some d =>
    cases d <;> try (simp [tyD, hu] at hf; done)
    rename_i fs
    simp only [tyD, hu, Bool.and_eq_true, Bool.not_eq_true'] at hf h
    have hfo : P.fieldsOf t = fs := by simp [Program.fieldsOf, hu]
    refine ⟨vx, vy, rfl, rfl, ?_, hf.2⟩
    rw [run_equalIn_struct w 9999 t vx vy (by rw [hfo]; exact hu) hf.1.2, hfo]
    exact eqs_ok 9998 fs.toList 0 xs ys r hf.1.1 h (fun j p hp => by rw [Nat.zero_add]; exact v1 j p hp) (fun j p hp => by rw [Nat.zero_add]; exact v2 j p hp)
theorem ok_bin {b : BinOp} {t : TypeId} {x y : PV} {vx vy : Value} (hx : OV β κ D w S vx x) (hy : OV β κ D w S vy y) (h : (abin P b t x y).ok) :
    ∃ v, (binOp b t vx vy).run P w = .ok v w ∧ OV β κ D w S v (abin P b t x y).v := by
  unfold abin at h ⊢
  split at h <;> rename_i k a k' c
  · obtain ⟨rfl, h1⟩ := hx.int_inv
    obtain ⟨rfl, h2⟩ := hy.int_inv
    cases b <;> simp only [aint] at h ⊢
    case add => obtain rfl := h; exact ⟨_, by simp [binOp, Op.intArith], .wrap_mk⟩
    case sub => obtain rfl := h; exact ⟨_, by simp [binOp, Op.intArith], .wrap_mk⟩
    case mul => obtain rfl := h; exact ⟨_, by simp [binOp, Op.intArith], .wrap_mk⟩
    case quo => obtain ⟨rfl, hc⟩ := h; exact ⟨_, by simp [binOp, Op.intDiv, hc], .wrap_mk⟩
    case rem => obtain ⟨rfl, hc⟩ := h; exact ⟨_, by simp [binOp, Op.intDiv, hc], .int_mk (tmod_in h1)⟩
    case shl => exact ⟨_, by simp [binOp, Op.shift, show ¬ c < 0 by omega], .wrap_mk⟩
    case shr => exact ⟨_, by simp [binOp, Op.shift, show ¬ c < 0 by omega], .int_mk (fdiv_in h1)⟩
    case lss => obtain rfl := h; exact ⟨_, by simp [binOp, Op.intCmp], .bool_mk⟩
    case leq => obtain rfl := h; exact ⟨_, by simp [binOp, Op.intCmp], .bool_mk⟩
    case gtr => obtain rfl := h; exact ⟨_, by simp [binOp, Op.intCmp], .bool_mk⟩
    case geq => obtain rfl := h; exact ⟨_, by simp [binOp, Op.intCmp], .bool_mk⟩
    case eql => obtain rfl := h; exact ⟨_, by simp [binOp, Op.intCmp, int_beq], .bool_mk⟩
    case neq => obtain rfl := h; exact ⟨_, by simp [binOp, Op.intCmp, bne, int_beq], .bool_mk⟩
    all_goals (obtain rfl := h; exact ⟨_, by simp [binOp, Op.intBits, ibits], .wrap_mk⟩)
  · obtain ⟨rfl, h1⟩ := hx.str_inv
    obtain ⟨rfl, h2⟩ := hy.str_inv
    cases b <;> simp only [astr, no] at h ⊢
    case add =>
      have e : ¬ ((k'.size + c.size : Nat) : Int) > IntKind.i64.max := by rw [show IntKind.i64.max = 9223372036854775807 from rfl]; omega
      exact ⟨.string (k' ++ c), by simp only [binOp, Op.stringOp]; rw [if_neg e]; rfl, .str_mk (by rw [ByteArray.size_append]; exact h)⟩
    all_goals exact ⟨_, by simp only [binOp, Op.stringOp, bytes_eq]; rfl, .bool_mk⟩
  · obtain rfl := hx.bool_inv
    obtain rfl := hy.bool_inv
    cases b <;> simp only [no] at h ⊢
    case eql => exact ⟨_, run_eql_bool w t _ _ (tk_bool h), .bool_mk⟩
    case neq => exact ⟨_, run_neq_bool w t _ _ (tk_bool h), .bool_mk⟩
  · split at h
    · rename_i r hr
      cases b <;> simp only [no] at h ⊢
      case eql => obtain ⟨vx, vy, rfl, rfl, e, _⟩ := eqStruct hx hy hr h; exact ⟨_, by rw [run_eql_struct, e]; rfl, .bool_mk⟩
      case neq => obtain ⟨vx, vy, rfl, rfl, e, _⟩ := eqStruct hx hy hr h; exact ⟨_, by rw [run_neq_struct, e]; rfl, .bool_mk⟩
    · exact h.elim
  · exact h.elim
theorem info_of {t : TypeId} {d : TypeDesc} (h : P.underlying t = some d) : ∃ i, P.info? t = some i := by
  unfold Program.underlying at h
  cases hi : P.info? t with
  | none => rw [hi] at h; cases h
  | some i => exact ⟨i, rfl⟩
theorem run_sz {t : TypeId} {d : TypeDesc} (h : P.underlying t = some d) (w : World) : (sizeOf t).run P w = .ok (P.cellsOf t) w := by
  obtain ⟨i, hi⟩ := info_of h
  simp [sizeOf, typeInfo, hi, Program.cellsOf]
theorem run_agg_struct {t : TypeId} {fs : Array Field} (h : P.underlying t = some (.struct fs)) (w : World) : (isAgg t).run P w = .ok true w := by
  simp [isAgg, run_underlying h]
theorem run_agg_no {t : TypeId} (h : tk P t ≠ .other) (h2 : tk P t ≠ .struct) (w : World) : (isAgg t).run P w = .ok false w := by
  unfold tk at h h2
  cases hu : P.underlying t with
  | none => rw [hu] at h; exact absurd rfl h
  | some d => rw [hu] at h h2; cases d <;> simp_all [isAgg, run_underlying hu]
theorem nOw_isOw {p : PV} (h : nOw p) : p.isOw = false := by cases p <;> first | rfl | exact h.elim
/-- A value read at an address whose cells are known. -/
theorem ok_ld {t : TypeId} {a : Addr} {cs : List PV} (hc : ∀ j p, cs[j]? = some p → ∃ v, w.cell? (a.add j) = some v ∧ v.oneCell' = true ∧ (p.isOw = false → OV β κ D w S v p)) (h : (ldo (tyD P t) cs).ok) :
    ∃ v, (loadVar t a).run P w = .ok v w ∧ OV β κ D w S v (ld (tyD P t) cs).v := by
  have hk : (tyD P t).k = tk P t := rfl
  obtain ⟨h, hn⟩ := h
  unfold ld at h hn ⊢
  rw [hk] at h hn ⊢
  have scalar : tk P t ≠ .other → tk P t ≠ .struct → ∀ p r, cs = p :: r → nOw p → ∃ v, (loadVar t a).run P w = .ok v w ∧ OV β κ D w S v p := by
    intro h1 h2 p r e hp
    obtain ⟨v, hv, _, ho⟩ := hc 0 p (by rw [e]; rfl)
    rw [Addr.add_zero'] at hv
    exact ⟨v, by simp [loadVar, run_agg_no h1 h2, hv], ho (nOw_isOw hp)⟩
  cases hT : tk P t with
  | struct =>
    rw [hT] at h hn
    obtain ⟨fs, hu⟩ := tk_struct hT
    have hs : P.cellsOf t ≤ cs.length := h
    have hn' : ∀ p ∈ cs.take (P.cellsOf t), p.isOw = false := fun p hp => by
      have := List.all_eq_true.1 (show (cs.take (P.cellsOf t)).all (fun p => !p.isOw) = true from hn) p hp
      simpa using this
    have hex : ∀ j, ∃ v, ∀ p, cs[j]? = some p → w.cell? (a.add j) = some v ∧ v.oneCell' = true ∧ (p.isOw = false → OV β κ D w S v p) := by
      intro j
      cases hj : cs[j]? with
      | none => exact ⟨undef, fun p hp => by cases hp⟩
      | some p => obtain ⟨v, hv⟩ := hc j p hj; exact ⟨v, fun q hq => by cases hq; exact hv⟩
    obtain ⟨val, hval⟩ := Classical.axiomOfChoice hex
    have hr := run_loadCells (P := P) w a (P.cellsOf t) val (fun j hj => (hval j _ (List.getElem?_eq_getElem (Nat.lt_of_lt_of_le hj hs))).1)
    refine ⟨.agg ((List.range (P.cellsOf t)).map val).toArray, ?_, ?_⟩
    · simp [loadVar, run_agg_struct hu, run_sz hu, hr]
    · refine .ag _ _ (by simp [tyD]; omega) (fun j p hp => ?_) (fun j p hp => ?_)
      all_goals
        have hp' : cs[j]? = some p ∧ j < P.cellsOf t := by
          rw [List.getElem?_take] at hp
          split at hp
          · exact ⟨hp, by assumption⟩
          · cases hp
        have e : (((List.range (P.cellsOf t)).map val).toArray).getD j undef = val j := by simp [Array.getD, hp'.2]
        rw [e]
      · exact (hval j p hp'.1).2.1
      · exact (hval j p hp'.1).2.2 (hn' p (List.mem_of_getElem? hp))
  | other => rw [hT] at h; exact h.elim
  | _ =>
    rw [hT] at h hn
    cases cs with
    | nil => exact h.elim
    | cons p r => exact scalar (by rw [hT]; simp) (by rw [hT]; simp) p r rfl hn
theorem ldo_of {d : TD} {cs : List PV} (h : (ld d cs).ok) (hc : ∀ p ∈ cs, nOw p) : (ldo d cs).ok := by
  refine ⟨h, ?_⟩
  unfold ld at h ⊢
  cases hd : d.k <;> rw [hd] at h <;> simp only at h ⊢
  all_goals first
    | exact h.elim
    | (show (cs.take d.sz).all (fun p => !p.isOw) = true
       rw [List.all_eq_true]; intro p hp; simp [nOw_isOw (hc p (List.mem_of_mem_take hp))])
    | (cases cs with
       | nil => exact h.elim
       | cons p r => exact hc p (by simp))
end
end Go.Proofs.YtppfogbgbpadiaaW.AW
namespace Go.Proofs.YtppfogbgbpadiaaW.AW
open Go Go.RowKit
set_option linter.unusedVariables false
set_option linter.unusedSimpArgs false
section
variable {P : Program} {β κ : Id → Nat} {w : World} {S : Nat → Prop} {m : Mem} {D : Id → Prop} {e : Operand → PV} {ρ : Operand → Value} {o : Oper} {cs : List Bool}
theorem pickv_ok {D : Id → Prop} {t : Bool} {a b : PV} {va vb : Value} (ha : OV β κ D w S va a) (hb' : OV β κ D w S vb b) (hc : cs.all id = true) : OV β κ D w S (if t = true then va else vb) (pickv cs t a b) := by
  have h1 := fun ht : t = true => ha.strip (cs := cs ++ [t]) (by rw [List.all_append, hc, ht]; rfl)
  have h2 := fun ht : t = false => hb'.strip (cs := cs ++ [!t]) (by rw [List.all_append, hc, ht]; rfl)
  unfold pickv
  generalize strip (cs ++ [t]) a = p at h1
  generalize strip (cs ++ [!t]) b = q at h2
  cases t with
  | true =>
    have h := h1 rfl
    rw [if_pos rfl]
    cases p <;> cases q <;> first | exact h | (obtain rfl := h.bool_inv; exact .bool_mk)
  | false =>
    have h := h2 rfl
    rw [if_neg (by simp)]
    cases p <;> cases q <;> first | exact h | (obtain rfl := h.bool_inv; exact .bool_mk)
theorem guard_of {b : BinOp} {t : TypeId} {x y : PV} {D : Id → Prop} {vx vy : Value} (hx : OV β κ D w S vx x) (hy : OV β κ D w S vy y) (h : (abin P b t x y).ok) (ox oy : Operand) : (eqGuard b t ox oy vx vy).run P w = .ok () w := by
  unfold abin at h
  split at h
  · obtain ⟨rfl, _⟩ := hx.int_inv; obtain ⟨rfl, _⟩ := hy.int_inv; cases b <;> rfl
  · obtain ⟨rfl, _⟩ := hx.str_inv; obtain ⟨rfl, _⟩ := hy.str_inv; cases b <;> rfl
  · obtain rfl := hx.bool_inv; obtain rfl := hy.bool_inv; cases b <;> rfl
  · split at h
    · rename_i r hr
      have hf : (tyD P t).eqf = true := by cases b <;> simp only [no] at h <;> first | exact h | exact h.elim
      obtain ⟨vx, vy, rfl, rfl, _, e⟩ := eqStruct hx hy hr hf
      exact run_eqGuard_agg w b t ox oy vx vy e
    · exact h.elim
  · exact h.elim
variable (he : ∀ x, OV β κ D w S (ρ x) (e x))
include he
theorem p_binOp {b : BinOp} {t t' : TypeId} {x y : Operand} (ho : o.op = .binOp b t x y t') (h : (abin P b t (e x) (e y)).ok) : ∃ v, (execOp ρ o).run P w = .ok (.value v) w ∧ OV β κ D w S v (abin P b t (e x) (e y)).v := by
  obtain ⟨v, hr, hv⟩ := ok_bin (he x) (he y) h
  exact ⟨v, by simp [execOp, ho, guard_of (he x) (he y) h, hr], hv⟩
theorem p_pick {c a b : Operand} {t : Bool} (ho : o.op = .pick c a b) (hc : cs.all id = true) (ht : e c = .bool t) : ∃ v, (execOp ρ o).run P w = .ok (.value v) w ∧ OV β κ D w S v (pickv cs t (e a) (e b)) := by
  have h := he c; rw [ht] at h
  refine ⟨_, ?_, pickv_ok (t := t) (he a) (he b) hc⟩
  simp [execOp, ho, h.bool_inv, asBool]
theorem p_not {x : Operand} {t : TypeId} {b : Bool} (ho : o.op = .unOp .not t x) (hx : e x = .bool b) : ∃ v, (execOp ρ o).run P w = .ok (.value v) w ∧ OV β κ D w S v (.bool !b) := by
  have h := he x; rw [hx] at h
  exact ⟨_, by simp [execOp, ho, h.bool_inv, Op.unary], .bool_mk⟩
theorem p_neg {x : Operand} {t : TypeId} {k : IntKind} {n : Int} (ho : o.op = .unOp .neg t x) (hx : e x = .int k n) : ∃ v, (execOp ρ o).run P w = .ok (.value v) w ∧ OV β κ D w S v (.int k (k.wrap (0 - n))) := by
  have h := he x; rw [hx] at h
  exact ⟨.int k (k.wrap (0 - n)), by simp [execOp, ho, h.int_inv.1, Op.unary, Op.intArith], .wrap_mk⟩
theorem p_conv {s d : TypeId} {x : Operand} (ho : o.op = .convert s d x) (h : (aconv P s d (e x)).ok) : ∃ v, (execOp ρ o).run P w = .ok (.value v) w ∧ OV β κ D w S v (aconv P s d (e x)).v := by
  have hx := he x
  unfold aconv at h ⊢
  split at h
  · rename_i k n hq
    rw [hq] at hx
    obtain ⟨hv, hb⟩ := hx.int_inv
    split at h
    · rename_i q' q h1 h2
      exact ⟨_, by simp [execOp, ho, hv, convert, run_underlying (tk_int h1), run_underlying (tk_int h2), Conv.intToInt], .wrap_mk⟩
    · rename_i q' h1 h2
      exact ⟨_, by simp [execOp, ho, hv, convert, run_underlying (tk_int h1), run_underlying (tk_string h2), Conv.intToString], .str_mk (Nat.le_trans (encode_size_le _) (by decide))⟩
    · exact h.elim
  · rename_i s' hq
    rw [hq] at hx
    obtain ⟨hv, hb⟩ := hx.str_inv
    split at h
    · rename_i h1 h2
      exact ⟨_, by simp [execOp, ho, hv, convert, run_underlying (tk_string h1), run_underlying (tk_string h2)], .str_mk hb⟩
    · exact h.elim
  · exact h.elim
theorem p_extract {x : Operand} {i : Nat} {ps : List PV} (ho : o.op = .extract x i) (hx : e x = .tu ps) (hi : i < ps.length) : ∃ v, (execOp ρ o).run P w = .ok (.value v) w ∧ OV β κ D w S v (ps.getD i .und) := by
  have h := he x; rw [hx] at h
  have key : ∃ vs : Array Value, ρ x = .tuple vs ∧ vs.size = ps.length ∧ ∀ j p, ps[j]? = some p → OV β κ D w S (vs.getD j undef) p := by
    generalize ρ x = v at h
    cases h with
    | rv _ _ h => cases h with | tu vs _ hl hv => exact ⟨vs, rfl, hl, fun j p hp => .rv _ _ (hv j p hp)⟩
    | tu vs _ hl hv => exact ⟨vs, rfl, hl, hv⟩
  obtain ⟨vs, hv, hl, hp⟩ := key
  have h2 := hp i _ (List.getElem?_eq_getElem hi)
  have e1 : ps.getD i .und = ps[i] := by simp [List.getD, hi]
  have e2 : vs[i]? = some (vs.getD i undef) := by simp [Array.getD, hl, hi]
  rw [e1]
  exact ⟨vs.getD i undef, by simp only [execOp, ho, hv, Instr.extract, e2]; rfl, h2⟩
theorem p_index {x i : Operand} {t : TypeId} {s : ByteArray} {k : IntKind} {n : Int} (ho : o.op = .index t x i) (hx : e x = .str s) (hi : e i = .int k n) (ht : tk P t = .string) (h0 : 0 ≤ n) (h1 : n < s.size) :
    ∃ v, (execOp ρ o).run P w = .ok (.value v) w ∧ OV β κ D w S v (.int .u8 (bt s n)) := by
  have a := he x; rw [hx] at a
  have b := he i; rw [hi] at b
  have hn : n.toNat < s.size := by omega
  have e2 : s[n.toNat]? = some (s[n.toNat]'hn) := by simp [hn]
  have hr := run_index_string (P := P) w t s k n (tk_string ht)
  rw [dif_pos ⟨h0, h1⟩] at hr
  refine ⟨.int .u8 (s[n.toNat]'hn).toNat, by simp [execOp, ho, a.str_inv.1, b.int_inv.1, hr], ?_⟩
  have : bt s n = ((s[n.toNat]'hn).toNat : Int) := by simp [bt, hn]
  rw [this]
  refine .int_mk ?_
  have := (s[n.toNat]'hn).toNat_lt
  rw [show IntKind.u8.min = 0 from rfl, show IntKind.u8.max = 255 from rfl]
  omega
end
end Go.Proofs.YtppfogbgbpadiaaW.AW
namespace Go.Proofs.YtppfogbgbpadiaaW.AW
open Go Go.RowKit
set_option linter.unusedVariables false
set_option linter.unusedSimpArgs false
section
variable {P : Program} {β κ : Id → Nat} {w : World} {S : Nat → Prop} {m : Mem} {D : Id → Prop} {e : Operand → PV} {ρ : Operand → Value} {o : Oper} {cs : List Bool}
theorem fs_at {t : TypeId} {f off sz ft : Nat} (hk : tk P t = .struct) (h : (tyD P t).fs[f]? = some (off, sz, ft)) : ∃ fs fd, P.underlying t = some (.struct fs) ∧ fs[f]? = some fd ∧ fd.offset = off ∧ P.cellsOf fd.type = sz ∧ fd.type = ft := by
  obtain ⟨fs, hu⟩ := tk_struct hk
  have e : (tyD P t).fs = fs.toList.map (fun f => (f.offset, P.cellsOf f.type, f.type)) := by simp only [tyD, hu]
  rw [e, List.getElem?_map] at h
  obtain ⟨fd, h1, h2⟩ := Option.map_eq_some_iff.1 h
  simp only [Prod.mk.injEq] at h2
  exact ⟨fs, fd, hu, by simpa using h1, h2.1, h2.2.1, h2.2.2⟩
theorem sz_info {t : TypeId} (h : P.cellsOf t ≠ 0) : ∃ i, P.info? t = some i ∧ i.size = P.cellsOf t := by
  unfold Program.cellsOf at h ⊢
  cases hi : P.info? t with
  | none => rw [hi] at h; exact absurd rfl h
  | some i => exact ⟨i, rfl, rfl⟩
theorem el_of {t : TypeId} (h : (tyD P t).eok = true) : ∃ el i z, P.underlying t = some (.slice el) ∧ P.info? el = some i ∧ i.zero = some z ∧ i.size = (tyD P t).es ∧ i.bytes = (tyD P t).eb ∧ z.cells.size = (tyD P t).es ∧ (∀ u ∈ z.cells.toList, u.oneCell' = true) ∧ 0 < (tyD P t).es ∧ (tyD P t).ez = z.cells.toList.map ofVal ∧ 0 < (tyD P t).eb := by
  cases hu : P.underlying t with
  | none => simp [tyD, hu] at h
  | some d =>
    cases d <;> try (simp [tyD, hu] at h; done)
    rename_i el
    cases hi : P.info? el with
    | none => simp [tyD, hu, hi] at h
    | some i =>
      cases hz : i.zero with
      | none => simp [tyD, hu, hi, hz] at h
      | some z =>
        simp only [tyD, hu, hi, hz, Option.bind_some, Option.map_some, Option.getD_some, Bool.and_eq_true, decide_eq_true_eq] at h
        refine ⟨el, i, z, rfl, hi, hz, by simp [tyD, hu, Program.cellsOf, hi], by simp [tyD, hu, Program.bytesOf, hi], by simp [tyD, hu]; exact h.1.1.1, ?_, by simp [tyD, hu]; exact h.1.2, by simp [tyD, hu, zcells, hi, hz], by simp [tyD, hu]; exact h.2⟩
        intro u hu'
        exact (Array.all_eq_true_iff_forall_mem.1 h.1.1.2) u (by simpa using hu')
theorem OV.ag_inv {D : Id → Prop} {v : Value} {ps : List PV} (h : OV β κ D w S v (.ag ps)) : ∃ vs : Array Value, v = .agg vs ∧ vs.size = ps.length ∧ ∀ j p, ps[j]? = some p → (vs.getD j undef).oneCell' = true ∧ OV β κ D w S (vs.getD j undef) p := by
  cases h with
  | rv _ _ h => cases h with | ag vs _ hl h1 hv => exact ⟨vs, rfl, hl, fun j p hp => ⟨h1 j p hp, .rv _ _ (hv j p hp)⟩⟩
  | ag vs _ hl h1 hv => exact ⟨vs, rfl, hl, fun j p hp => ⟨h1 j p hp, hv j p hp⟩⟩
theorem OV.pc_inv {D : Id → Prop} {v : Value} {cs : List PV} (h : OV β κ D w S v (.pc cs)) : ∃ a, v = .pointer (some a) ∧ S a.block ∧ ∀ j p, cs[j]? = some p → ∃ u, w.cell? (a.add j) = some u ∧ u.oneCell' = true ∧ RV w S u p := by
  cases h with | rv _ _ h => cases h with | pc a _ val hS hc h1 hv => exact ⟨a, rfl, hS, fun j p hp => ⟨_, hc j p hp, h1 j p hp, hv j p hp⟩⟩
theorem OV.bp_inv {D : Id → Prop} {v : Value} {i : Id} {j : Nat} (h : OV β κ D w S v (.bp i j)) : v = .pointer (some ⟨β i, j, none⟩) ∧ D i := by
  cases h with
  | rv _ _ h => cases h
  | bp _ _ hx => exact ⟨rfl, hx⟩
theorem OV.pt_inv {D : Id → Prop} {v : Value} {i : Id} {sz n k j : Nat} (h : OV β κ D w S v (.pt i sz n k j)) : v = .pointer (some ⟨β i, k * sz + j, none⟩) ∧ D i ∧ k < n := by
  cases h with
  | rv _ _ h => cases h
  | pt _ _ _ _ _ hx hi => exact ⟨rfl, hx, hi⟩
theorem OV.sl_inv {D : Id → Prop} {v : Value} {i : Id} {sz n off len : Nat} (h : OV β κ D w S v (.sl i sz n off len)) : ∃ A c, v = .slice A len c ∧ D i ∧ len ≤ c ∧ off + len ≤ n ∧ off + c = κ i ∧ κ i ≤ 9223372036854775807 ∧ (0 < c → A = some ⟨β i, off * sz, none⟩) := by
  cases h with
  | rv _ _ h => cases h
  | sl _ _ _ _ _ A c hx hl hn hk hc hA => exact ⟨A, c, rfl, hx, hl, hn, hk, hc, hA⟩
theorem OV.mp_inv {D : Id → Prop} {v : Value} {i : Id} (h : OV β κ D w S v (.mp i)) : v = .map (some (β i)) ∧ D i := by
  cases h with
  | rv _ _ h => cases h
  | mp _ hx => exact ⟨rfl, hx⟩
theorem RV.isOw {v : Value} {p : PV} (h : RV w S v p) : p.isOw = false := by cases h <;> rfl
theorem RV.nOw {v : Value} {p : PV} (h : RV w S v p) : nOw p := by
  cases h with
  | ag vs ps hl h1 hv =>
    show ps.all (fun p => !p.isOw) = true
    rw [List.all_eq_true]; intro p hp
    obtain ⟨j, hj⟩ := List.getElem?_of_mem hp
    simp [(hv j p hj).isOw]
  | _ => trivial
/-- A closed slice: its cells. -/
theorem OV.cl_inv {D : Id → Prop} {v : Value} {sz n : Nat} {g : Nat → List PV} (h : OV β κ D w S v (.cl sz n g)) : ∃ A c, v = .slice A n c ∧ n ≤ c ∧ (0 < n → c ≤ 9223372036854775807 ∧ ∃ a, A = some a ∧ S a.block ∧ ∀ i, i < n → (g i).length = sz ∧ ∀ j p, (g i)[j]? = some p → ∃ u, w.cell? (a.add (i * sz + j)) = some u ∧ u.oneCell' = true ∧ RV w S u p) := by
  cases h with
  | rv _ _ h => cases h with
    | cl0 A c => exact ⟨A, c, rfl, Nat.zero_le _, fun h => absurd h (by omega)⟩
    | cl a _ c _ _ val hn hc hS hl hcell h1 hv => exact ⟨some a, c, rfl, hn, fun _ => ⟨hc, a, rfl, hS, fun i hi => ⟨hl i hi, fun j p hp => ⟨_, hcell i j p hi hp, h1 i j p hi hp, hv i j p hi hp⟩⟩⟩⟩
theorem RV.pc_mk {a : Addr} {cs : List PV} (hS : S a.block) (h : ∀ j p, cs[j]? = some p → ∃ u, w.cell? (a.add j) = some u ∧ u.oneCell' = true ∧ RV w S u p) : RV w S (.pointer (some a)) (.pc cs) := by
  have hex : ∀ j, ∃ v, ∀ p, cs[j]? = some p → w.cell? (a.add j) = some v ∧ v.oneCell' = true ∧ RV w S v p := by
    intro j
    cases hj : cs[j]? with
    | none => exact ⟨undef, fun p hp => by cases hp⟩
    | some p => obtain ⟨v, hv⟩ := h j p hj; exact ⟨v, fun q hq => by cases hq; exact hv⟩
  obtain ⟨val, hval⟩ := Classical.axiomOfChoice hex
  exact .pc a cs val hS (fun j p hp => (hval j p hp).1) (fun j p hp => (hval j p hp).2.1) (fun j p hp => (hval j p hp).2.2)
theorem RV.cl_mk {A : Option Addr} {n c sz : Nat} {g : Nat → List PV} (hn : n ≤ c) (h : 0 < n → c ≤ 9223372036854775807 ∧ ∃ a, A = some a ∧ S a.block ∧ ∀ i, i < n → (g i).length = sz ∧ ∀ j p, (g i)[j]? = some p → ∃ u, w.cell? (a.add (i * sz + j)) = some u ∧ u.oneCell' = true ∧ RV w S u p) : RV w S (.slice A n c) (.cl sz n g) := by
  rcases Nat.eq_zero_or_pos n with rfl | hp
  · exact .cl0 A c sz g
  · obtain ⟨hc, a, rfl, hS, hg⟩ := h hp
    have hex : ∀ i, ∃ f : Nat → Value, ∀ j p, i < n → (g i)[j]? = some p → w.cell? (a.add (i * sz + j)) = some (f j) ∧ (f j).oneCell' = true ∧ RV w S (f j) p := by
      intro i
      have hex : ∀ j, ∃ v, ∀ p, i < n → (g i)[j]? = some p → w.cell? (a.add (i * sz + j)) = some v ∧ v.oneCell' = true ∧ RV w S v p := by
        intro j
        by_cases hi : i < n
        · cases hj : (g i)[j]? with
          | none => exact ⟨undef, fun p _ hp => by cases hp⟩
          | some p => obtain ⟨v, hv⟩ := (hg i hi).2 j p hj; exact ⟨v, fun q _ hq => by cases hq; exact hv⟩
        · exact ⟨undef, fun p h _ => absurd h hi⟩
      obtain ⟨f, hf⟩ := Classical.axiomOfChoice hex
      exact ⟨f, fun j p hi hp => hf j p hi hp⟩
    obtain ⟨val, hval⟩ := Classical.axiomOfChoice hex
    exact .cl a n c sz g val hn hc hS (fun i hi => (hg i hi).1) (fun i j p hi hp => (hval i j p hi hp).1) (fun i j p hi hp => (hval i j p hi hp).2.1) (fun i j p hi hp => (hval i j p hi hp).2.2)
theorem run_place {a : Addr} {f : Field} (h : P.cellsOf f.type ≠ 0) (w : World) : (fieldPlace a f).run P w = .ok (a.add f.offset) w := by
  obtain ⟨i, hi, hs⟩ := sz_info h
  have : i.size ≠ 0 := by rw [hs]; exact h
  simp [fieldPlace, sizeOf, typeInfo, hi, this]
theorem p_fieldAddr {t : TypeId} {x : Operand} {f off sz ft : Nat} (ho : o.op = .fieldAddr t x f) (hf : (tyD P t).fs[f]? = some (off, sz, ft)) (hk : tk P t = .struct) (hz : sz ≠ 0) {a : Addr} (ha : ρ x = .pointer (some a)) :
    (execOp ρ o).run P w = .ok (.value (.pointer (some (a.add off)))) w := by
  obtain ⟨fs, fd, hu, h1, rfl, rfl, rfl⟩ := fs_at hk hf
  simp [execOp, ho, Instr.fieldAt, run_underlying hu, h1, ha, Instr.sureAddr, run_place hz]
theorem p_load {t : TypeId} {x : Operand} {cs : List PV} (ho : o.op = .load t x) {a : Addr} (ha : ρ x = .pointer (some a)) (hc : ∀ j p, cs[j]? = some p → ∃ v, w.cell? (a.add j) = some v ∧ v.oneCell' = true ∧ (p.isOw = false → OV β κ D w S v p)) (h : (ldo (tyD P t) cs).ok) :
    ∃ v, (execOp ρ o).run P w = .ok (.value v) w ∧ OV β κ D w S v (ld (tyD P t) cs).v := by
  obtain ⟨v, hr, hv⟩ := ok_ld hc h
  exact ⟨v, by simp [execOp, ho, Instr.loadAt, ha, Instr.sureAddr, hr], hv⟩
end
end Go.Proofs.YtppfogbgbpadiaaW.AW
namespace Go.Proofs.YtppfogbgbpadiaaW.AW
open Go Go.RowKit
set_option linter.unusedVariables false
set_option linter.unusedSimpArgs false
section
variable {P : Program} {β κ : Id → Nat} {w : World} {S : Nat → Prop} {m : Mem} {D : Id → Prop} {e : Operand → PV} {ρ : Operand → Value} {o : Oper} {cs : List Bool}
theorem run_part' {t : TypeId} {vs : Array Value} {off : Nat} {qs : List PV} {D : Id → Prop} (hl : vs.size = off + qs.length) (hv : ∀ j p, qs[j]? = some p → (vs.getD (off + j) undef).oneCell' = true ∧ OV β κ D w S (vs.getD (off + j) undef) p) (h : (ld (tyD P t) qs).ok) :
    ∃ v, (part t vs off).run P w = .ok v w ∧ OV β κ D w S v (ld (tyD P t) qs).v := by
  have hk : (tyD P t).k = tk P t := rfl
  unfold ld at h ⊢
  rw [hk] at h ⊢
  have scalar : tk P t ≠ .other → tk P t ≠ .struct → ∀ p r, qs = p :: r → ∃ v, (part t vs off).run P w = .ok v w ∧ OV β κ D w S v p := by
    intro h1 h2 p r e
    obtain ⟨_, ho⟩ := hv 0 p (by rw [e]; rfl)
    have e2 : vs[off]? = some (vs.getD (off + 0) undef) := by
      have : off < vs.size := by rw [hl, e]; simp
      simp [Array.getD, this]
    generalize vs.getD (off + 0) undef = u at e2 ho
    exact ⟨u, by simp [part, run_agg_no h1 h2, e2], ho⟩
  cases hT : tk P t with
  | struct =>
    rw [hT] at h
    obtain ⟨fs, hu⟩ := tk_struct hT
    have hs : P.cellsOf t ≤ qs.length := h
    refine ⟨.agg (vs.extract off (off + P.cellsOf t)), by simp [part, run_agg_struct hu, run_sz hu], .ag _ _ (by simp [tyD]; omega) (fun j p hp => ?_) (fun j p hp => ?_)⟩
    all_goals
      have hp' : qs[j]? = some p ∧ j < P.cellsOf t := by
        rw [List.getElem?_take] at hp
        split at hp
        · exact ⟨hp, by assumption⟩
        · cases hp
      have e : (vs.extract off (off + P.cellsOf t)).getD j undef = vs.getD (off + j) undef := by
        have h1 : off + j < vs.size := by have := (List.getElem?_eq_some_iff.1 hp'.1).1; omega
        simp only [Array.getD_eq_getD_getElem?, Array.getElem?_extract]
        rw [if_pos (by omega)]
      rw [e]
    · exact (hv j p hp'.1).1
    · exact (hv j p hp'.1).2
  | other => rw [hT] at h; exact h.elim
  | _ =>
    rw [hT] at h
    cases qs with
    | nil => exact h.elim
    | cons p r => exact scalar (by rw [hT]; simp) (by rw [hT]; simp) p r rfl
theorem p_indexAddr {t : TypeId} {x i : Operand} {k : IntKind} {ix : Int} (ho : o.op = .indexAddr t x i) (hi : ρ i = .int k ix) {a : Addr} {n c : Nat} (hx : ρ x = .slice (some a) n c) (ht : (tyD P t).eok = true) (h0 : 0 ≤ ix) (h1 : ix < n) :
    (execOp ρ o).run P w = .ok (.value (.pointer (some (a.add (ix.toNat * (tyD P t).es))))) w := by
  obtain ⟨el, i0, z, hu, hi0, _, hs, _⟩ := el_of ht
  simp [execOp, ho, Instr.indexAt, hi, hx, asIntOf, run_underlying hu, sizeOf, typeInfo, hi0, h0, h1, hs]
theorem run_slice' {t : TypeId} {A : Option Addr} {n c : Nat} (ht : (tyD P t).eok = true) {lo hi : Option Value} {l h : Option Int} (hl : ∀ v, lo = some v → ∃ k x, v = .int k x ∧ l = some x) (hl0 : lo = none → l = none) (hh : ∀ v, hi = some v → ∃ k x, v = .int k x ∧ h = some x) (hh0 : hi = none → h = none)
    (h0 : 0 ≤ l.getD 0) (h1 : l.getD 0 ≤ h.getD n) (h2 : h.getD n ≤ n) (hc : n ≤ c) :
    (Instr.sliceAt t (.slice A n c) lo hi none).run P w = .ok (.slice (if c = (l.getD 0).toNat then A else A.map (·.add ((l.getD 0).toNat * (tyD P t).es))) (h.getD n - l.getD 0).toNat (c - (l.getD 0).toNat)) w := by
  obtain ⟨el, i0, z, hu, hi0, _, hs, _⟩ := el_of ht
  cases lo with
  | none =>
    obtain rfl := hl0 rfl
    cases hi with
    | none =>
      obtain rfl := hh0 rfl
      simp [Instr.sliceAt, Instr.slice, run_underlying hu, Instr.sliceBounds, sizeOf, typeInfo, hi0, hs]
    | some v =>
      obtain ⟨k, x, rfl, rfl⟩ := hh v rfl
      simp only [Option.getD_some, Option.getD_none] at h0 h1 h2
      have hx : 0 ≤ x ∧ x ≤ (c : Int) := by omega
      simp [Instr.sliceAt, Instr.slice, run_underlying hu, Instr.sliceBounds, Instr.sliceBound, asIntOf, hx, sizeOf, typeInfo, hi0, hs]
  | some u =>
    obtain ⟨k', y, rfl, rfl⟩ := hl u rfl
    cases hi with
    | none =>
      obtain rfl := hh0 rfl
      simp only [Option.getD_some, Option.getD_none] at h0 h1 h2
      have hx : 0 ≤ y ∧ y ≤ (n : Int) := by omega
      have e : n - y.toNat = ((n : Int) - y).toNat := by omega
      simp [Instr.sliceAt, Instr.slice, run_underlying hu, Instr.sliceBounds, Instr.sliceBound, asIntOf, hx, sizeOf, typeInfo, hi0, hs, e]
    | some v =>
      obtain ⟨k, x, rfl, rfl⟩ := hh v rfl
      simp only [Option.getD_some] at h0 h1 h2
      have hx : 0 ≤ x ∧ x ≤ (c : Int) := by omega
      have hy : 0 ≤ y ∧ y ≤ ((x.toNat : Nat) : Int) := by omega
      have e : x.toNat - y.toNat = (x - y).toNat := by omega
      have hm : ¬ max x 0 < y := by omega
      simp [hm, Instr.sliceAt, Instr.slice, run_underlying hu, Instr.sliceBounds, Instr.sliceBound, asIntOf, hx, hy, sizeOf, typeInfo, hi0, hs, e]
theorem run_slice_s {t : TypeId} {s : ByteArray} (ht : tk P t = .string) {lo hi : Option Value} {l h : Option Int} (hl : ∀ v, lo = some v → ∃ k x, v = .int k x ∧ l = some x) (hl0 : lo = none → l = none) (hh : ∀ v, hi = some v → ∃ k x, v = .int k x ∧ h = some x) (hh0 : hi = none → h = none)
    (h0 : 0 ≤ l.getD 0) (h1 : l.getD 0 ≤ h.getD s.size) (h2 : h.getD s.size ≤ s.size) :
    (Instr.sliceAt t (.string s) lo hi none).run P w = .ok (.string (s.extract (l.getD 0).toNat (h.getD s.size).toNat)) w := by
  have hu := tk_string ht
  cases lo with
  | none =>
    obtain rfl := hl0 rfl
    cases hi with
    | none =>
      obtain rfl := hh0 rfl
      simp [Instr.sliceAt, Instr.slice, run_underlying hu, Instr.sliceBounds]
    | some v =>
      obtain ⟨k, x, rfl, rfl⟩ := hh v rfl
      simp only [Option.getD_some, Option.getD_none] at h0 h1 h2
      have hx : 0 ≤ x ∧ x ≤ (s.size : Int) := by omega
      simp [Instr.sliceAt, Instr.slice, run_underlying hu, Instr.sliceBounds, Instr.sliceBound, asIntOf, hx]
  | some u =>
    obtain ⟨k', y, rfl, rfl⟩ := hl u rfl
    cases hi with
    | none =>
      obtain rfl := hh0 rfl
      simp only [Option.getD_some, Option.getD_none] at h0 h1 h2
      have hx : 0 ≤ y ∧ y ≤ (s.size : Int) := by omega
      simp [Instr.sliceAt, Instr.slice, run_underlying hu, Instr.sliceBounds, Instr.sliceBound, asIntOf, hx]
    | some v =>
      obtain ⟨k, x, rfl, rfl⟩ := hh v rfl
      simp only [Option.getD_some] at h0 h1 h2
      have hx : 0 ≤ x ∧ x ≤ (s.size : Int) := by omega
      have hy : 0 ≤ y ∧ y ≤ ((x.toNat : Nat) : Int) := by omega
      have hm : ¬ max x 0 < y := by omega
      simp [hm, Instr.sliceAt, Instr.slice, run_underlying hu, Instr.sliceBounds, Instr.sliceBound, asIntOf, hx, hy]
theorem optI_ok (he : ∀ x, OV β κ D w S (ρ x) (e x)) {lo : Option Operand} {l : Option Int} (h : optI e lo = some l) : (∀ v, lo.map ρ = some v → ∃ k x, v = .int k x ∧ l = some x) ∧ (lo.map ρ = none → l = none) := by
  cases lo with
  | none => simp only [optI, Option.some.injEq] at h; subst h; exact ⟨fun v hv => by simp at hv, fun _ => rfl⟩
  | some x =>
    have hx := he x
    simp only [optI] at h
    split at h
    · rename_i k n hq
      rw [hq] at hx
      simp only [Option.some.injEq] at h
      subst h
      refine ⟨fun v hv => ?_, fun hv => by simp at hv⟩
      simp only [Option.map_some, Option.some.injEq] at hv
      exact ⟨k, n, hv ▸ hx.int_inv.1, rfl⟩
    · cases h
theorem aadd_add (a : Addr) (m n : Nat) : (a.add m).add n = a.add (m + n) := by
  unfold Addr.add
  by_cases h1 : m = 0 <;> by_cases h2 : n = 0 <;> simp [h1, h2, Nat.add_assoc]
/-- A cut of a closed slice. -/
theorem cut_cl {A : Option Addr} {n c sz l h : Nat} {g : Nat → List PV} (hn : n ≤ c) (hl : l ≤ h) (hh : h ≤ n)
    (H : 0 < n → c ≤ 9223372036854775807 ∧ ∃ a, A = some a ∧ S a.block ∧ ∀ i, i < n → (g i).length = sz ∧ ∀ j p, (g i)[j]? = some p → ∃ u, w.cell? (a.add (i * sz + j)) = some u ∧ u.oneCell' = true ∧ RV w S u p) :
    RV w S (.slice (if c = l then A else A.map (·.add (l * sz))) (h - l) (c - l)) (.cl sz (h - l) (fun i => g (l + i))) := by
  refine RV.cl_mk (by omega) (fun hp => ?_)
  obtain ⟨hc, a, rfl, hS, hg⟩ := H (by omega)
  rw [if_neg (by omega)]
  refine ⟨by omega, a.add (l * sz), rfl, by rw [aadd_block]; exact hS, fun i hi => ⟨(hg (l + i) (by omega)).1, fun j p hj => ?_⟩⟩
  obtain ⟨u, h1, h2⟩ := (hg (l + i) (by omega)).2 j p hj
  exact ⟨u, by rw [aadd_add, ← Nat.add_assoc, ← Nat.add_mul]; exact h1, h2⟩
theorem p_slice (he : ∀ x, OV β κ D w S (ρ x) (e x)) {t : TypeId} {x : Operand} {lo hi : Option Operand} {l h : Option Int} (ho : o.op = .slice t x lo hi none) (h1 : optI e lo = some l) (h2 : optI e hi = some h) (hk : (aslice P t (e x) l h).ok) :
    ∃ v, (execOp ρ o).run P w = .ok (.value v) w ∧ OV β κ D w S v (aslice P t (e x) l h).v := by
  have hx := he x
  obtain ⟨a1, a2⟩ := optI_ok he h1
  obtain ⟨b1, b2⟩ := optI_ok he h2
  have run_ : ∀ v r, ρ x = v → (Instr.sliceAt t v (lo.map ρ) (hi.map ρ) none).run P w = .ok r w → (execOp ρ o).run P w = .ok (.value r) w := fun v r e1 e2 => by simp [execOp, ho, e1, e2]
  unfold aslice at hk ⊢
  split at hk
  · rename_i hq; rw [hq] at hx
    obtain ⟨hv, hb⟩ := hx.str_inv
    obtain ⟨k1, k2, k3, k4⟩ := hk
    exact ⟨_, run_ _ _ hv (run_slice_s k1 a1 a2 b1 b2 k2 k3 k4), .str_mk (by rw [ByteArray.size_extract]; omega)⟩
  · rename_i sz n g hq; rw [hq] at hx
    obtain ⟨A, c, hv, hn, H⟩ := hx.cl_inv
    obtain ⟨k0, k1, k2, k3, k4⟩ := hk
    refine ⟨_, run_ _ _ hv (run_slice' k1 a1 a2 b1 b2 k2 k3 k4 hn), ?_⟩
    have := cut_cl (l := (l.getD 0).toNat) (h := (h.getD n).toNat) hn (by omega) (by omega) H
    have e1 : (h.getD n).toNat - (l.getD 0).toNat = (h.getD n - l.getD 0).toNat := by omega
    rw [e1] at this
    rw [k0]
    exact .rv _ _ this
  · rename_i i sz n off len hq; rw [hq] at hx
    obtain ⟨A, c, hv, hxx, hl, hn, hkk, hc, hA⟩ := hx.sl_inv
    obtain ⟨k0, k1, k2, k3, k4⟩ := hk
    refine ⟨_, run_ _ _ hv (run_slice' k1 a1 a2 b1 b2 k2 k3 k4 hl), .sl _ _ _ _ _ _ _ hxx (by omega) (by omega) (by omega) hc (fun hp => ?_)⟩
    rw [if_neg (by omega), hA (by omega), k0]
    show some ((⟨β i, off * sz, none⟩ : Addr).add _) = _
    rw [Addr.add_lit, Nat.add_mul]
  · rename_i hq; rw [hq] at hx
    have hv := hx.nils_inv
    obtain ⟨k0, k1, k2⟩ := hk
    have hr := run_slice' (w := w) (A := none) (n := 0) (c := 0) k0 a1 a2 b1 b2 (by omega) (by rw [k1]; simp [k2]) (by simp [k2]) (Nat.le_refl 0)
    refine ⟨_, run_ _ _ hv hr, ?_⟩
    have e0 : (l.getD 0).toNat = 0 := by rw [k1]; rfl
    have e1 : (h.getD ((0 : Nat) : Int) - l.getD 0).toNat = 0 := by rw [k1]; show (h.getD 0 - 0).toNat = 0; rw [k2]; rfl
    rw [e0, e1]
    exact .rv _ _ .nils
  · exact hk.elim
end
end Go.Proofs.YtppfogbgbpadiaaW.AW
namespace Go.Proofs.YtppfogbgbpadiaaW.AW
open Go Go.RowKit
set_option linter.unusedVariables false
set_option linter.unusedSimpArgs false
theorem fold_at (off : Nat) : ∀ (vs : List Value) (k : Nat) (cells : Array Value), ((vs.zipIdx k).foldl (fun cs (x : Value × Nat) => cs.setIfInBounds (off + x.2) x.1) cells).size = cells.size ∧
    ∀ x, ((vs.zipIdx k).foldl (fun cs (x : Value × Nat) => cs.setIfInBounds (off + x.2) x.1) cells)[x]? = if off + k ≤ x ∧ x < off + k + vs.length ∧ x < cells.size then vs[x - (off + k)]? else cells[x]?
  | [], k, cells => by
    refine ⟨rfl, fun x => ?_⟩
    rw [if_neg (by simp; omega)]; rfl
  | v :: r, k, cells => by
    obtain ⟨h1, h2⟩ := fold_at off r (k + 1) (cells.setIfInBounds (off + k) v)
    simp only [List.zipIdx_cons, List.foldl_cons]
    refine ⟨by rw [h1, Array.size_setIfInBounds], fun x => ?_⟩
    rw [h2 x, Array.size_setIfInBounds, List.length_cons]
    by_cases hx : off + k = x
    · subst hx
      rw [if_neg (by omega), Array.getElem?_setIfInBounds, if_pos rfl]
      by_cases hs : off + k < cells.size
      · rw [if_pos hs, if_pos (by omega), Nat.sub_self]; rfl
      · rw [if_neg hs, if_neg (by omega)]; simp; omega
    · by_cases hin : off + (k + 1) ≤ x ∧ x < off + (k + 1) + r.length ∧ x < cells.size
      · rw [if_pos hin, if_pos (by omega), show x - (off + k) = (x - (off + (k + 1))) + 1 by omega, List.getElem?_cons_succ]
      · rw [if_neg hin, if_neg (by omega), Array.getElem?_setIfInBounds, if_neg hx]
section
variable {P : Program} {β κ : Id → Nat} {w : World} {S : Nat → Prop} {m : Mem} {e : Operand → PV} {ρ : Operand → Value} {o : Oper} {cs : List Bool} {D : Id → Prop}
/-- Cells, one by one. -/
def CR (β κ : Id → Nat) (D : Id → Prop) (w : World) (S : Nat → Prop) (vs : Array Value) (ps : List PV) : Prop := vs.size = ps.length ∧ ∀ j p, ps[j]? = some p → (vs.getD j undef).oneCell' = true ∧ OV β κ D w S (vs.getD j undef) p
theorem CR.one {v : Value} {p : PV} (h : OV β κ D w S v p) (h1 : v.oneCell' = true) (hc : v.cells = #[v]) : CR β κ D w S v.cells [p] := by
  rw [hc]
  refine ⟨rfl, fun j q hq => ?_⟩
  cases j with
  | zero => simp only [List.getElem?_cons_zero, Option.some.injEq] at hq; subst hq; exact ⟨h1, h⟩
  | succ j => simp at hq
theorem CR.of {v : Value} {p : PV} {qs : List PV} (h : OV β κ D w S v p) (hp : pcells p = some qs) : CR β κ D w S v.cells qs := by
  cases p with
  | und => cases hp
  | gd _ _ => cases hp
  | tu _ => cases hp
  | ifs _ _ => cases hp
  | ag ps => simp only [pcells, Option.some.injEq] at hp; subst hp; obtain ⟨vs, rfl, hl, hv⟩ := h.ag_inv; exact ⟨hl, hv⟩
  | bool b => simp only [pcells, Option.some.injEq] at hp; subst hp; have e := h.bool_inv; subst e; exact CR.one h rfl rfl
  | int k n => simp only [pcells, Option.some.injEq] at hp; subst hp; have e := h.int_inv.1; subst e; exact CR.one h rfl rfl
  | str s => simp only [pcells, Option.some.injEq] at hp; subst hp; have e := h.str_inv.1; subst e; exact CR.one h rfl rfl
  | nils => simp only [pcells, Option.some.injEq] at hp; subst hp; have e := h.nils_inv; subst e; exact CR.one h rfl rfl
  | cl sz n g => simp only [pcells, Option.some.injEq] at hp; subst hp; obtain ⟨A, c, rfl, _⟩ := h.cl_inv; exact CR.one h rfl rfl
  | sl i sz n off len => simp only [pcells, Option.some.injEq] at hp; subst hp; obtain ⟨A, c, rfl, _⟩ := h.sl_inv; exact CR.one h rfl rfl
  | pc qs => simp only [pcells, Option.some.injEq] at hp; subst hp; obtain ⟨a, rfl, _⟩ := h.pc_inv; exact CR.one h rfl rfl
  | bp i j => simp only [pcells, Option.some.injEq] at hp; subst hp; have e := h.bp_inv.1; subst e; exact CR.one h rfl rfl
  | pt i sz n k j => simp only [pcells, Option.some.injEq] at hp; subst hp; have e := h.pt_inv.1; subst e; exact CR.one h rfl rfl
  | mp i => simp only [pcells, Option.some.injEq] at hp; subst hp; have e := h.mp_inv.1; subst e; exact CR.one h rfl rfl
  | ow _ _ _ => cases hp
  | fn f ps => 
    simp only [pcells, Option.some.injEq] at hp; subst hp
    have e : ∃ vs, v = .func (.func f) #[] vs := by
      cases h with
      | rv _ _ h => cases h
      | fn _ vs _ _ _ => exact ⟨vs, rfl⟩
    obtain ⟨vs, rfl⟩ := e
    exact CR.one h rfl rfl
theorem CR.at_ {vs : Array Value} {ps : List PV} (h : CR β κ D w S vs ps) {j : Nat} {p : PV} (hp : ps[j]? = some p) : ∃ v, vs[j]? = some v ∧ v.oneCell' = true ∧ OV β κ D w S v p := by
  have hj : j < vs.size := by rw [h.1]; exact (List.getElem?_eq_some_iff.1 hp).1
  obtain ⟨h1, h2⟩ := h.2 j p hp
  exact ⟨vs.getD j undef, by simp [Array.getD, hj], h1, h2⟩
theorem CR.mk_ {vs : Array Value} {ps : List PV} (hl : vs.size = ps.length) (h : ∀ (j : Nat) (p : PV), ps[j]? = some p → ∃ v, vs[j]? = some v ∧ v.oneCell' = true ∧ OV β κ D w S v p) : CR β κ D w S vs ps := by
  refine ⟨hl, fun j p hp => ?_⟩
  obtain ⟨v, h1, h2⟩ := h j p hp
  have : vs.getD j undef = v := by simp [Array.getD_eq_getD_getElem?, h1]
  rw [this]; exact h2
theorem CR.splice {cur vs : Array Value} {ps qs : List PV} (h : CR β κ D w S cur ps) (hv : CR β κ D w S vs qs) {off : Nat} (hf : off + qs.length ≤ ps.length) {new : Array Value} (hs : new.size = cur.size)
    (hn : ∀ x, new[x]? = if off ≤ x ∧ x < off + vs.size ∧ x < cur.size then vs[x - off]? else cur[x]?) : CR β κ D w S new (ps.take off ++ qs ++ ps.drop (off + qs.length)) := by
  have hl : (ps.take off).length = off := by rw [List.length_take]; omega
  refine CR.mk_ (by simp only [List.length_append, hl, List.length_drop]; rw [hs, h.1]; omega) (fun j p hp => ?_)
  have hj := (List.getElem?_eq_some_iff.1 hp).1
  simp only [List.length_append, hl, List.length_drop] at hj
  rw [hn j]
  rw [List.append_assoc, List.getElem?_append] at hp
  by_cases h1 : j < off
  · rw [if_pos (by omega), List.getElem?_take, if_pos h1] at hp
    rw [if_neg (by omega)]
    exact h.at_ hp
  · rw [if_neg (by omega), hl, List.getElem?_append] at hp
    by_cases h2 : j - off < qs.length
    · rw [if_pos h2] at hp
      rw [if_pos (by rw [hv.1, h.1]; omega)]
      exact hv.at_ hp
    · rw [if_neg h2, List.getElem?_drop] at hp
      rw [if_neg (by rw [hv.1]; omega)]
      exact h.at_ (by rw [← hp]; congr 1; omega)
theorem fill_ok (place : Nat → Option (Nat × Nat)) (fs : List (Nat × Nat × Nat)) (hp : ∀ i off sz ft, fs[i]? = some (off, sz, ft) → place i = some (off, sz)) : ∀ (parts : List (Nat × Value)) (qs : List (Nat × PV)) (cells : Array Value) (ps rs : List PV),
    parts.length = qs.length → (∀ (j i : Nat) (q : PV), qs[j]? = some (i, q) → ∃ v, parts[j]? = some (i, v) ∧ OV β κ D w S v q) → CR β κ D w S cells ps → afill fs ps qs = some rs → ∃ cs', Instr.fill place cells parts = some cs' ∧ CR β κ D w S cs' rs
  | [], qs, cells, ps, rs, hl, _, hc, ha => by
    cases qs with
    | nil => simp only [afill, Option.some.injEq] at ha; subst ha; exact ⟨cells, rfl, hc⟩
    | cons _ _ => cases hl
  | (i, v) :: r, qs, cells, ps, rs, hl, hq, hc, ha => by
    cases qs with
    | nil => cases hl
    | cons x qs =>
      obtain ⟨i', q⟩ := x
      obtain ⟨v', h1, h2⟩ := hq 0 i' q rfl
      simp only [List.getElem?_cons_zero, Option.some.injEq, Prod.mk.injEq] at h1
      obtain ⟨rfl, rfl⟩ := h1
      simp only [afill] at ha
      split at ha
      · rename_i off sz ft us hf hu
        split at ha
        · rename_i hsz
          have hv := CR.of h2 hu
          have hpl := hp _ _ _ _ hf
          obtain ⟨g1, g2⟩ := fold_at off v.cells.toList 0 cells
          have hz : v.cells.size = sz := by rw [hv.1]; exact hsz.1
          have e : v.cells.zipIdx.foldl (fun cs (x : Value × Nat) => cs.setIfInBounds (off + x.2) x.1) cells = (v.cells.toList.zipIdx 0).foldl (fun cs (x : Value × Nat) => cs.setIfInBounds (off + x.2) x.1) cells := by
            rw [← Array.foldl_toList]; simp
          have hc2 := CR.splice hc hv (off := off) (by rw [hsz.1]; exact hsz.2) g1 (fun x => by rw [g2 x]; simp)
          rw [hsz.1] at hc2
          obtain ⟨cs', h3, h4⟩ := fill_ok place fs hp r qs _ _ rs (by simpa using hl) (fun j i q hj => hq (j + 1) i q hj) hc2 ha
          refine ⟨cs', ?_, h4⟩
          simp only [Instr.fill, hpl]
          rw [if_neg (by rw [hz, hc.1]; simp; omega)]
          exact e ▸ h3
        · cases ha
      · cases ha
end
end Go.Proofs.YtppfogbgbpadiaaW.AW
namespace Go.Proofs.YtppfogbgbpadiaaW.AW
open Go Go.RowKit
set_option linter.unusedVariables false
set_option linter.unusedSimpArgs false
section
variable {P : Program} {β κ : Id → Nat} {w : World} {S : Nat → Prop} {m : Mem} {e : Operand → PV} {ρ : Operand → Value} {o : Oper} {cs : List Bool} {D : Id → Prop}
theorem ofVal_ok {v : Value} : OV β κ D w S v (ofVal v) := by
  unfold ofVal
  split
  · exact .bool_mk
  · split
    · exact .int_mk (by assumption)
    · exact .rv _ _ (.und _)
  · split
    · exact .str_mk (by assumption)
    · exact .rv _ _ (.und _)
  · exact .rv _ _ .nils
  · exact .rv _ _ (.und _)
theorem zero_ok {t : TypeId} (h : (tyD P t).zok = true) : ∃ z, (∀ w, (zeroValue t).run P w = .ok z w) ∧ z.cells.size = P.cellsOf t ∧ z.cells.all (·.oneCell') = true ∧ CR β κ D w S z.cells (tyD P t).zc := by
  cases hi : P.info? t with
  | none => simp [tyD, hi] at h
  | some i =>
    cases hz : i.zero with
    | none => simp [tyD, hi, hz] at h
    | some z =>
      simp only [tyD, hi, hz, Option.bind_some, Option.map_some, Option.getD_some, Bool.and_eq_true, decide_eq_true_eq] at h
      have ez : (tyD P t).zc = z.cells.toList.map ofVal := by simp [tyD, zcells, hi, hz]
      refine ⟨z, fun w => by simp [zeroValue, typeInfo, hi, hz], h.1.2, h.1.1, CR.mk_ (by rw [ez]; simp) (fun j p hp => ?_)⟩
      rw [ez, List.getElem?_map] at hp
      obtain ⟨v, hv, rfl⟩ := Option.map_eq_some_iff.1 hp
      exact ⟨v, by simpa using hv, (Array.all_eq_true_iff_forall_mem.1 h.1.1) v (by have := List.mem_of_getElem? hv; simpa using this), ofVal_ok⟩
theorem run_places {fs : Array Field} (h : fs.all (fun f => (P.info? f.type).isSome) = true) (w : World) : (fs.mapM (fun f => do pure (f.offset, ← sizeOf f.type) : Field → Sem (Nat × Nat))).run P w = .ok (fs.map (fun f => (f.offset, P.cellsOf f.type))) w := by
  obtain ⟨l⟩ := fs
  have key : ∀ l : List Field, (∀ f ∈ l, (P.info? f.type).isSome = true) → (l.mapM (fun f => do pure (f.offset, ← sizeOf f.type) : Field → Sem (Nat × Nat))).run P w = .ok (l.map (fun f => (f.offset, P.cellsOf f.type))) w := by
    intro l
    induction l with
    | nil => intro _; simp
    | cons f r ih =>
      intro hf
      obtain ⟨i, hi⟩ := Option.isSome_iff_exists.1 (hf f (by simp))
      have := ih (fun g hg => hf g (by simp [hg]))
      simp [List.mapM_cons, sizeOf, typeInfo, hi, this, Program.cellsOf]
      simp [sizeOf, typeInfo, Program.cellsOf] at this
      simp [this]
  have := key l (fun f hf => by simpa using (Array.all_eq_true_iff_forall_mem.1 h) f (by simpa using hf))
  simp [Array.mapM_eq_mapM_toList] at *
  simp [this]
end
end Go.Proofs.YtppfogbgbpadiaaW.AW
namespace Go.Proofs.YtppfogbgbpadiaaW.AW
open Go Go.RowKit
set_option linter.unusedVariables false
set_option linter.unusedSimpArgs false
section
variable {P : Program} {β κ : Id → Nat} {A : Id → Nat → Prop} {w : World} {S : Nat → Prop} {m : Mem} {D : Id → Prop} {e : Operand → PV} {ρ : Operand → Value} {o : Oper} {cs : List Bool}
theorem TV.ov {D : Id → Prop} {F : Nat → Prop} {v : Value} {p : PV} (h : TV β κ D w S F v p) (hp : p.isOw = false) : OV β κ D w S v p := by
  rcases h with ⟨h, _⟩ | h
  · exact h
  · cases h with
    | rv _ _ _ h _ => exact .rv _ _ h
    | no _ _ _ _ _ => cases hp
    | ow => cases hp
theorem blk_cells {D : Id → Prop} {A : Nat → Prop} {b sz n c : Nat} {g : Nat → List PV} (h : Blk β κ D w S A b sz n c g) {k : Nat} (hk : k < n) (j0 : Nat) : ∀ j p, ((g k).drop j0)[j]? = some p → ∃ v, w.cell? ((⟨b, k * sz + j0, none⟩ : Addr).add j) = some v ∧ v.oneCell' = true ∧ (p.isOw = false → OV β κ D w S v p) := by
  intro j p hp
  obtain ⟨cur, e, fz, F, h1, hz, h2, h3, h4, h5, h6⟩ := h
  rw [List.getElem?_drop] at hp
  obtain ⟨a, b'⟩ := h6 k _ p hk hp
  have hj : j0 + j < sz := by rw [← h4 k hk]; exact (List.getElem?_eq_some_iff.1 hp).1
  have hlt : k * sz + (j0 + j) < cur.size := by
    rw [h2]
    have : (k + 1) * sz ≤ c * sz := Nat.mul_le_mul_right _ (by omega)
    rw [Nat.succ_mul] at this
    omega
  refine ⟨_, ?_, a, b'.ov⟩
  rw [Addr.add_lit, Nat.add_assoc, cell_of_row w b _ cur e fz h1]
  simp [Array.getD, hlt]
theorem box_cells (hm : MRD w S D m β κ A) {i : Id} {ps : List PV} (h : m.o i = some (.box ps)) (j0 : Nat) : ∀ j p, (ps.drop j0)[j]? = some p → ∃ v, w.cell? ((⟨β i, j0, none⟩ : Addr).add j) = some v ∧ v.oneCell' = true ∧ (p.isOw = false → OV β κ D w S v p) := by
  have := blk_cells (hm.ob i _ h) (k := 0) Nat.zero_lt_one j0
  simpa using this
theorem row_cells (hm : MRD w S D m β κ A) {i : Id} {sz n : Nat} {g : Nat → List PV} (h : m.o i = some (.row sz n g)) {k : Nat} (hk : k < n) (j0 : Nat) : ∀ j p, ((g k).drop j0)[j]? = some p → ∃ v, w.cell? ((⟨β i, k * sz + j0, none⟩ : Addr).add j) = some v ∧ v.oneCell' = true ∧ (p.isOw = false → OV β κ D w S v p) := by
  rcases hm.ob i _ h with ⟨_, h0, _⟩ | ⟨_, _, _, h1⟩
  · omega
  exact blk_cells h1 hk j0
theorem zval_ok {D : Id → Prop} {t : TypeId} (h : (tyD P t).zvk = true) : ∃ z, (∀ w, (zeroValue t).run P w = .ok z w) ∧ OV β κ D w S z (tyD P t).zv := by
  cases hi : P.info? t with
  | none => simp [tyD, hi] at h
  | some i =>
    cases hz : i.zero with
    | none => simp [tyD, hi, hz] at h
    | some z =>
      refine ⟨z, fun w => by simp [zeroValue, typeInfo, hi, hz], ?_⟩
      have e : (tyD P t).zv = zval P t := rfl
      rw [e]
      simp only [zval, hi, hz, Option.bind_some]
      cases z
      case agg cs =>
        simp only [tyD, hi, hz, Option.bind_some] at h
        refine .ag cs _ (by simp) (fun j p hp => ?_) (fun j p hp => ?_)
        all_goals
          rw [List.getElem?_map] at hp
          obtain ⟨v, hv, rfl⟩ := Option.map_eq_some_iff.1 hp
          have hv' : cs[j]? = some v := by simpa using hv
          have e2 : cs.getD j undef = v := by simp [Array.getD_eq_getD_getElem?, hv']
          rw [e2]
        · exact (Array.all_eq_true_iff_forall_mem.1 h) v (Array.mem_of_getElem? hv')
        · exact ofVal_ok
      all_goals exact ofVal_ok
theorem tk_map {t : TypeId} {kt et : TypeId} (h : tk P t = .map kt et) : P.underlying t = some (.map kt et) := by
  unfold tk at h
  split at h <;> first | (cases h; assumption) | cases h
theorem Ents.isKey {ents : Array MapEntry} {clock : Nat} {f : Int → Option PV} (h : Ents w S ents clock f) : ∀ x ∈ ents.toList, MapKept.IsKey (.int .i64) x.key := fun x hx => by
  obtain ⟨k, p, h1, _⟩ := h.key x hx
  rw [h1]; rfl
theorem Ents.find {ents : Array MapEntry} {clock : Nat} {f : Int → Option PV} (h : Ents w S ents clock f) (k : Int) :
    (Instr.findNow (.int .i64) (.int .i64 k) ents.toList 0 = some none ∧ f k = none ∧ ∀ x ∈ ents.toList, x.key ≠ .int .i64 k) ∨ ∃ (i : Nat) (e : MapEntry) (p : PV), Instr.findNow (.int .i64) (.int .i64 k) ents.toList 0 = some (some (i, e.val)) ∧ ents.toList[i]? = some e ∧ e.key = .int .i64 k ∧ f k = some p ∧ RV w S e.val p := by
  rcases MapKept.findNow_spec (d := .int .i64) (k := .int .i64 k) rfl ents.toList 0 h.isKey with ⟨h1, h2⟩ | ⟨j, e, h1, h2, h3⟩
  · refine .inl ⟨h1, ?_, h2⟩
    cases hf : f k with
    | none => rfl
    | some p => obtain ⟨e, he, hk⟩ := h.all k p hf; exact absurd hk (h2 e he)
  · obtain ⟨k', p, a1, _, a2, a3⟩ := h.key e (List.mem_of_getElem? h2)
    rw [h3] at a1
    cases a1
    exact .inr ⟨j, e, p, by simpa using h1, h2, h3, a2, a3⟩
theorem tkU8_spec {t : TypeId} (h : tkU8 P t) : ∃ e, P.underlying t = some (.slice e) ∧ P.underlying e = some (.int .u8) := by
  unfold tkU8 at h
  split at h
  · rename_i e he
    refine ⟨e, ?_, tk_int h⟩
    unfold tk at he
    split at he <;> first | (cases he; assumption) | cases he
  · exact h.elim
theorem conv_bytes {s d : TypeId} (h1 : tkU8 P s) (h2 : tk P d = .string) {A : Option Addr} {n c : Nat} {g : Nat → List PV} (h : 0 < n → ∃ a, A = some a ∧ ∀ i, i < n → ∃ x : Int, w.cell? (a.add i) = some (.int .u8 x) ∧ 0 ≤ x ∧ x ≤ 255 ∧ g i = [.int .u8 x]) :
    (convert s d (.slice A n c)).run P w = .ok (.string (bytesG n g)) w := by
  obtain ⟨e, hs, he⟩ := tkU8_spec h1
  have hd := tk_string h2
  cases A with
  | none =>
    have hn : n = 0 := by
      rcases Nat.eq_zero_or_pos n with h0 | h0
      · exact h0
      · obtain ⟨a, ha, _⟩ := h h0; cases ha
    subst hn
    rw [run_convert_bytes_nil w s e hs he 0 c d hd]; rfl
  | some a =>
    have hl : ((List.range n).map (fun i => byteAt (g i))).length = n := by simp
    have := run_convert_bytes_back w s d e a c ((List.range n).map (fun i => byteAt (g i))) hs he hd (fun j hj => by
      have hj' : j < n := by rw [hl] at hj; exact hj
      obtain ⟨a', ha, hx⟩ := h (by omega)
      cases ha
      obtain ⟨x, e1, e2, e3, e4⟩ := hx j hj'
      rw [e1]
      simp [e4, byteAt]
      have : x.toNat < 256 := by omega
      omega)
    rw [hl] at this
    exact this
theorem bytesG_size (n : Nat) (g : Nat → List PV) : (bytesG n g).size = n := by simp [bytesG, ByteArray.size]
theorem p_convM (hm : MRD w S D m β κ A) (he : ∀ x, OV β κ D w S (ρ x) (e x)) {s d : TypeId} {x : Operand} (ho : o.op = .convert s d x) (h : (aconvM P s d m (e x)).ok) : ∃ v, (execOp ρ o).run P w = .ok (.value v) w ∧ OV β κ D w S v (aconvM P s d m (e x)).v := by
  have key : ∀ A n c g, ρ x = .slice A n c → tkU8 P s → tk P d = .string → n ≤ 9223372036854775807 → (0 < n → ∃ a, A = some a ∧ ∀ i, i < n → ∃ x : Int, w.cell? (a.add i) = some (.int .u8 x) ∧ 0 ≤ x ∧ x ≤ 255 ∧ g i = [.int .u8 x]) →
      ∃ v, (execOp ρ o).run P w = .ok (.value v) w ∧ OV β κ D w S v (.str (bytesG n g)) := fun A n c g e1 h1 h2 h3 h4 =>
    ⟨_, by simp only [execOp, ho, e1, Sem.run_bind, conv_bytes h1 h2 h4]; rfl, .str_mk (by rw [bytesG_size]; exact h3)⟩
  have hx := he x
  unfold aconvM at h ⊢
  split at h
  · rename_i n g hq
    rw [hq] at hx
    obtain ⟨A', c, e1, hn, H⟩ := hx.cl_inv
    obtain ⟨h1, h2, h3⟩ := h
    refine key A' n c g e1 h1 h2 ?_ (fun h0 => ?_)
    · rcases Nat.eq_zero_or_pos n with h0 | h0
      · omega
      · have := (H h0).1; omega
    · obtain ⟨_, a, ha, _, hc⟩ := H h0
      refine ⟨a, ha, fun i hi => ?_⟩
      obtain ⟨y, hy⟩ := h3 i hi
      obtain ⟨u, u1, _, u3⟩ := (hc i hi).2 0 (.int .u8 y) (by rw [hy]; rfl)
      cases u3 with
      | int _ _ hb =>
        rw [show IntKind.u8.min = 0 from rfl, show IntKind.u8.max = 255 from rfl] at hb
        exact ⟨y, by simpa using u1, hb.1, hb.2, hy⟩
  · rename_i hq
    rw [hq] at hx
    obtain ⟨h1, h2⟩ := h
    exact key none 0 0 (fun _ => []) hx.nils_inv h1 h2 (Nat.zero_le _) (fun h => absurd h (Nat.lt_irrefl 0))
  · rename_i i n off len hq
    rw [hq] at hx
    obtain ⟨A', c, e1, hxx, hl, hn, hkk, hc, hA⟩ := hx.sl_inv
    split at h
    · rename_i n' g hb
      obtain ⟨rfl, h1, h2, h3⟩ := h
      refine key A' len c (fun i => g (off + i)) e1 h1 h2 (by omega) (fun h0 => ?_)
      refine ⟨_, hA (by omega), fun j hj => ?_⟩
      obtain ⟨y, hy⟩ := h3 j hj
      obtain ⟨u, u1, _, u3⟩ := row_cells hm hb (k := off + j) (by omega) 0 0 (.int .u8 y) (by simp [hy])
      obtain ⟨rfl, hbb⟩ := (u3 rfl).int_inv
      rw [show IntKind.u8.min = 0 from rfl, show IntKind.u8.max = 255 from rfl] at hbb
      refine ⟨y, ?_, hbb.1, hbb.2, hy⟩
      rw [Addr.add_lit] at u1 ⊢
      rw [← u1]; congr 2; omega
    · exact h.elim
  · exact p_conv he ho h
theorem builtin_len {t : TypeId} {x : Value} {v : Value} (h : (Builtin.len_ #[t] o.type #[x]).run P w = .ok v w) {c : Call} {xo : Operand} (ho : o.op = .call c) (hc : c.callee = .builtin .len) (ha : c.args = #[xo]) (ht : c.argTypes = #[t]) (hx : ρ xo = x) : (execOp ρ o).run P w = .ok (.value v) w := by
  simp [execOp, ho, resolve, hc, ha, ht, hx, invoke, builtin, h]
theorem apure_ok (hm : MRD w S D m β κ A) (he : ∀ x, OV β κ D w S (ρ x) (e x)) (hcs : cs.all id = true) {op : Op} (ho : o.op = op) (h : (apure P cs op e m).ok) : ∃ v, (execOp ρ o).run P w = .ok (.value v) w ∧ OV β κ D w S v (apure P cs op e m).v := by
  unfold apure at h ⊢
  split at h
  · exact ⟨_, by simp [execOp, ho], he _⟩
  · exact ⟨_, by simp [execOp, ho], he _⟩
  · split at h
    · exact p_pick he ho hcs (by assumption)
    · exact h.elim
  · split at h
    · exact p_not he ho (by assumption)
    · exact h.elim
  · split at h
    · exact p_neg he ho (by assumption)
    · exact h.elim
  · exact p_binOp he ho h
  · exact p_convM hm he ho h
  · split at h
    · exact p_extract he ho (by assumption) h
    · exact h.elim
  · -- field
    rename_i t x f
    split at h
    · rename_i off sz ft hf
      split at h
      · rename_i ps hx
        obtain ⟨hk, hoff, hl⟩ := h
        obtain ⟨fs, fd, hu, h1, rfl, rfl, rfl⟩ := fs_at hk hf
        have hv := he x
        rw [hx] at hv
        obtain ⟨vs, e1, h2, h3⟩ := hv.ag_inv
        obtain ⟨v, hr, ho2⟩ := run_part' (P := P) (t := fd.type) (vs := vs) (off := fd.offset) (qs := ps.drop fd.offset) (D := D) (by rw [h2, List.length_drop]; omega) (fun j p hp => by rw [List.getElem?_drop] at hp; exact h3 _ p hp) hl
        exact ⟨v, by simp [execOp, ho, Instr.field, run_underlying hu, h1, e1, asAgg, hr], ho2⟩
      · exact h.elim
    · exact h.elim
  · -- index
    split at h
    · rename_i s k n hx hi
      exact p_index he ho hx hi h.1 h.2.1 h.2.2
    · exact h.elim
  · -- fieldAddr
    rename_i t x f
    split at h
    · rename_i off sz ft hf
      have hv := he x
      split at h <;> rename_i hx
      · rw [hx] at hv
        obtain ⟨e1, h1⟩ := hv.bp_inv
        refine ⟨_, p_fieldAddr (w := w) ho hf h.1 h.2 e1, ?_⟩
        rw [Addr.add_lit]; exact .bp _ _ h1
      · rw [hx] at hv
        obtain ⟨e1, h1, h2⟩ := hv.pt_inv
        refine ⟨_, p_fieldAddr (w := w) ho hf h.1 h.2 e1, ?_⟩
        rw [Addr.add_lit, Nat.add_assoc]; exact .pt _ _ _ _ _ h1 h2
      · rw [hx] at hv
        obtain ⟨a, e1, h1, h2⟩ := hv.pc_inv
        refine ⟨_, p_fieldAddr (w := w) ho hf h.1 h.2 e1, .rv _ _ (RV.pc_mk (by rw [aadd_block]; exact h1) (fun j p hp => ?_))⟩
        rw [List.getElem?_drop] at hp
        obtain ⟨u, h3, h4⟩ := h2 _ p hp
        exact ⟨u, by rw [aadd_add]; exact h3, h4⟩
      · exact h.elim
    · exact h.elim
  · -- indexAddr
    rename_i t x i
    split at h
    · rename_i sz n g k ix hx hi
      have hv := he x; have hw := he i
      rw [hx] at hv; rw [hi] at hw
      obtain ⟨A, c, e1, h1, H⟩ := hv.cl_inv
      obtain ⟨k0, k1, k2, k3⟩ := h
      obtain ⟨hc, a, rfl, hS, hg⟩ := H (by omega)
      refine ⟨_, p_indexAddr (w := w) ho hw.int_inv.1 e1 k1 k2 k3, .rv _ _ (RV.pc_mk (by rw [aadd_block]; exact hS) (fun j p hp => ?_))⟩
      obtain ⟨u, h3, h4⟩ := (hg ix.toNat (by omega)).2 j p hp
      exact ⟨u, by rw [aadd_add, k0]; exact h3, h4⟩
    · rename_i i' sz n off len k ix hx hi
      have hv := he x; have hw := he i
      rw [hx] at hv; rw [hi] at hw
      obtain ⟨A, c, e1, hxx, hl, hn, hkk, hc, hA⟩ := hv.sl_inv
      obtain ⟨k0, k1, k2, k3⟩ := h
      have hAA := hA (by omega)
      subst hAA
      refine ⟨_, p_indexAddr (w := w) ho hw.int_inv.1 e1 k1 k2 k3, ?_⟩
      rw [Addr.add_lit, k0, ← Nat.add_mul]
      exact .pt _ _ _ _ 0 hxx (by omega)
    · exact h.elim
  · -- load
    rename_i t x
    have hv := he x
    split at h
    · rename_i ps hx
      rw [hx] at hv
      obtain ⟨a, e1, h1, h2⟩ := hv.pc_inv
      exact p_load ho e1 (fun j p hp => by obtain ⟨u, h3, h4, h5⟩ := h2 j p hp; exact ⟨u, h3, h4, fun _ => .rv _ _ h5⟩) (ldo_of h (fun p hp => by obtain ⟨j, hj⟩ := List.getElem?_of_mem hp; obtain ⟨u, _, _, h5⟩ := h2 j p hj; exact h5.nOw))
    · rename_i i j hx
      rw [hx] at hv
      obtain ⟨e1, h1⟩ := hv.bp_inv
      split at h
      · rename_i ps hb
        exact p_load ho e1 (box_cells hm hb j) h
      · exact h.elim
    · rename_i i sz n k j hx
      rw [hx] at hv
      obtain ⟨e1, h1, h2⟩ := hv.pt_inv
      split at h
      · rename_i sz' n' g hb
        obtain ⟨rfl, rfl, h3⟩ := h
        exact p_load ho e1 (row_cells hm hb h2 j) h3
      · exact h.elim
    · exact h.elim
  · -- slice
    split at h
    · rename_i h1 h2
      exact p_slice he ho h1 h2 h
    · exact h.elim
  · -- lookup
    rename_i t x i ok
    split at h
    · rename_i q k hx hi
      have hv := he x; have hw := he i
      rw [hx] at hv; rw [hi] at hw
      obtain ⟨e1, h1⟩ := hv.mp_inv
      split at h
      · rename_i f hf
        split at h
        · rename_i kt et ht
          obtain ⟨hkt, hz⟩ := h
          obtain ⟨z, hzr, hzo⟩ := zval_ok (β := β) (κ := κ) (D := D) (w := w) (S := S) hz
          obtain ⟨_, ents, clock, a1, a2⟩ := hm.ob _ _ hf
          have hu := tk_map (P := P) (t := t) ht
          have hku := tk_int hkt
          have hck : (Instr.checkKey ents.isEmpty 10000 kt (.int .i64 k)).run P w = .ok () w := MapKept.run_checkKey hku (k := .int .i64 k) rfl _ 9999
          have hg : (getObj (β q)).run P w = .ok (.map ents clock) w := MapKept.run_getObj_map a1
          have fin : ∀ v, (Instr.lookup t (ρ x) (ρ i) ok).run P w = .ok (if ok = true then .tuple #[v, .bool (f k).isSome] else v) w → OV β κ D w S v ((f k).getD (tyD P et).zv) →
              ∃ v, (execOp ρ o).run P w = .ok (.value v) w ∧ OV β κ D w S v (if ok = true then .tu [(f k).getD (tyD P et).zv, .bool (f k).isSome] else (f k).getD (tyD P et).zv) := by
            intro v r1 ho'
            refine ⟨_, by simp only [execOp, ho, Sem.run_bind, r1]; rfl, ?_⟩
            cases ok
            · exact ho'
            · refine .tu _ _ rfl (fun j p hp => ?_)
              match j, hp with
              | 0, hp => simp at hp; subst hp; exact ho'
              | 1, hp => simp at hp; subst hp; exact .bool_mk
          rcases a2.find k with ⟨b1, b2, _⟩ | ⟨i', e', p, b1, _, _, b2, b3⟩
          · refine fin z ?_ (by rw [b2]; exact hzo)
            have hfk := MapKept.run_findKey (w := w) hku b1
            rw [e1, hw.int_inv.1]
            simp only [Instr.lookup, Sem.run_bind, run_underlying hu, hg, hck, hfk, Result.andThen_ok, hzr, b2]
            cases ok <;> simp [hzr, hck, hfk]
          · refine fin e'.val ?_ (by rw [b2]; exact .rv _ _ b3)
            have hfk := MapKept.run_findKey (w := w) hku b1
            rw [e1, hw.int_inv.1]
            simp only [Instr.lookup, Sem.run_bind, run_underlying hu, hg, hck, hfk, Result.andThen_ok, hzr, b2]
            cases ok <;> simp [hzr, hck, hfk]
        · exact h.elim
      · exact h.elim
    · exact h.elim
  · -- nilCheck
    rename_i x
    have hv := he x
    split at h <;> rename_i hx
    · rw [hx] at hv; exact ⟨_, by simp [execOp, ho, hv.bp_inv.1], hv.bp_inv.1 ▸ hv⟩
    · rw [hx] at hv; exact ⟨_, by simp [execOp, ho, hv.pt_inv.1], hv.pt_inv.1 ▸ hv⟩
    · rw [hx] at hv
      obtain ⟨a, e1, _⟩ := hv.pc_inv
      exact ⟨_, by simp [execOp, ho, e1], e1 ▸ hv⟩
    · rw [hx] at hv
      rename_i f ps
      have e1 : ∃ vs, ρ x = .func (.func f) #[] vs := by
        generalize ρ x = v at hv
        cases hv with
        | rv _ _ h => cases h
        | fn _ vs _ _ _ => exact ⟨vs, rfl⟩
      obtain ⟨vs, e1⟩ := e1
      exact ⟨_, by simp [execOp, ho, e1], e1 ▸ hv⟩
    · exact h.elim
  · -- makeFunc
    rename_i f fi ca
    have h' : fi = #[] := h
    subst h'
    exact ⟨_, by simp [execOp, ho, Instr.makeFunc], .fn f (ca.map ρ) _ (by simp) (fun j p hp => by
      rw [List.getElem?_map] at hp
      obtain ⟨q, h1, rfl⟩ := Option.map_eq_some_iff.1 hp
      have h2 : ca[j]? = some q := by simpa using h1
      have : (ca.map ρ).getD j undef = ρ q := by simp [Array.getD_eq_getD_getElem?, h2]
      rw [this]; exact he q)⟩
  · -- makeInterface
    rename_i t x
    obtain ⟨el, _, _, hu, _⟩ := el_of h
    exact ⟨_, by simp [execOp, ho, Instr.makeInterface, underlying, hu], .ifs t _ _ (he x)⟩
  · -- build
    rename_i t ps
    split at h
    · rename_i qs hf
      obtain ⟨hk, hz⟩ := h
      obtain ⟨fs, hu⟩ := tk_struct hk
      obtain ⟨z, hzr, hzs, hz1, hzc⟩ := zero_ok (β := β) (κ := κ) (D := D) (w := w) (S := S) hz
      have hfs : fs.all (fun f => (P.info? f.type).isSome) = true := by
        simp only [tyD, hu, Bool.and_eq_true] at hz
        exact hz.2
      have hpl := run_places (P := P) hfs w
      obtain ⟨cs', h3, h4⟩ := fill_ok (β := β) (κ := κ) (D := D) (w := w) (S := S) (fun i => (fs.map (fun f => (f.offset, P.cellsOf f.type)))[i]?) (tyD P t).fs (fun i off sz ft hi => by
        obtain ⟨fs', fd, hu', h1, rfl, rfl, rfl⟩ := fs_at hk hi
        rw [hu] at hu'
        cases hu'
        simp [h1]) (ps.toList.map (fun x => (x.1, ρ x.2))) (ps.toList.map (fun x => (x.1, e x.2))) z.cells (tyD P t).zc qs (by simp) (fun j i q hq => by
          rw [List.getElem?_map] at hq
          obtain ⟨x, h5, h6⟩ := Option.map_eq_some_iff.1 hq
          simp only [Prod.mk.injEq] at h6
          obtain ⟨rfl, rfl⟩ := h6
          exact ⟨ρ x.2, by rw [List.getElem?_map, h5]; rfl, he _⟩) hzc hf
      refine ⟨.agg cs', ?_, .ag _ _ h4.1 (fun j p hp => (h4.2 j p hp).1) (fun j p hp => (h4.2 j p hp).2)⟩
      have e2 : (ps.map (fun x => (x.1, ρ x.2))).toList = ps.toList.map (fun x => (x.1, ρ x.2)) := by simp
      have e3 : (zeroValue t).run P w = .ok z w := hzr w
      have hpl2 : (Array.mapM (fun f : Field => Prod.mk f.offset <$> sizeOf f.type) fs).run P w = .ok (fs.map (fun f => (f.offset, P.cellsOf f.type))) w := by simpa using hpl
      simp only [Array.getElem?_map] at h3
      simp [execOp, ho, Instr.build, run_underlying hu, hpl2, e3, h3]
    · exact h.elim
  · -- builtins
    rename_i c
    split at h
    · rename_i hc
      split at h
      · rename_i x t ha ht
        have ha' : c.args = #[x] := by rw [← Array.toArray_toList (xs := c.args), ha]
        have ht' : c.argTypes = #[t] := by rw [← Array.toArray_toList (xs := c.argTypes), ht]
        have hv := he x
        unfold alen at h ⊢
        split at h <;> rename_i hx <;> (try exact h.elim) <;> rw [hx] at hv
        · obtain ⟨e1, h1⟩ := hv.str_inv
          exact ⟨_, builtin_len (v := goInt _) (by simp [Builtin.len_, run_underlying (tk_string h)]) ho hc ha' ht' e1, .int_mk (by rw [show IntKind.i64.min = -9223372036854775808 from rfl, show IntKind.i64.max = 9223372036854775807 from rfl]; omega)⟩
        all_goals obtain ⟨el, i0, z, hu, _⟩ := el_of h
        · obtain ⟨A, c', e1, h1, H⟩ := hv.cl_inv
          rename_i sz n g _
          exact ⟨_, builtin_len (v := goInt n) (by simp [Builtin.len_, run_underlying hu]) ho hc ha' ht' e1, .int_mk (by
            rw [show IntKind.i64.min = -9223372036854775808 from rfl, show IntKind.i64.max = 9223372036854775807 from rfl]
            rcases Nat.eq_zero_or_pos n with h0 | h0
            · omega
            · have := (H h0).1; omega)⟩
        · obtain ⟨A, c', e1, h1, h2, h3, h4, h5, h6⟩ := hv.sl_inv
          rename_i i sz n off len _
          exact ⟨_, builtin_len (v := goInt len) (by simp [Builtin.len_, run_underlying hu]) ho hc ha' ht' e1, .int_mk (by
            rw [show IntKind.i64.min = -9223372036854775808 from rfl, show IntKind.i64.max = 9223372036854775807 from rfl]
            omega)⟩
        · exact ⟨_, builtin_len (v := goInt 0) (by simp [Builtin.len_, run_underlying hu]) ho hc ha' ht' hv.nils_inv, .int_mk (by decide)⟩
      · exact h.elim
    · rename_i hc
      split at h
      · rename_i x y ha
        have ha' : c.args = #[x, y] := by rw [← Array.toArray_toList (xs := c.args), ha]
        split at h
        · rename_i k a k' b hx hy
          have h' : k = k' := h
          subst h'
          have h1 := he x; have h2 := he y
          rw [hx] at h1; rw [hy] at h2
          refine ⟨.int k (if b > a then b else a), ?_, .int_mk ?_⟩
          · have := run_max_int2 (P := P) w c.argTypes o.type k k a b
            simp [execOp, ho, resolve, hc, ha', h1.int_inv.1, h2.int_inv.1, invoke, builtin, this]
          · have := h1.int_inv.2; have := h2.int_inv.2; split <;> omega
        · exact h.elim
      · exact h.elim
    · rename_i hc
      split at h
      · rename_i x y ha
        have ha' : c.args = #[x, y] := by rw [← Array.toArray_toList (xs := c.args), ha]
        split at h
        · rename_i k a k' b hx hy
          have h' : k = k' := h
          subst h'
          have h1 := he x; have h2 := he y
          rw [hx] at h1; rw [hy] at h2
          refine ⟨.int k (if b < a then b else a), ?_, .int_mk ?_⟩
          · have := run_min_int2 (P := P) w c.argTypes o.type k k a b
            simp [execOp, ho, resolve, hc, ha', h1.int_inv.1, h2.int_inv.1, invoke, builtin, this]
          · have := h1.int_inv.2; have := h2.int_inv.2; split <;> omega
        · exact h.elim
      · exact h.elim
    · exact h.elim
  · exact h.elim
end
end Go.Proofs.YtppfogbgbpadiaaW.AW
namespace Go.Proofs.YtppfogbgbpadiaaW.AW
open Go Go.RowKit
set_option linter.unusedVariables false
set_option linter.unusedSimpArgs false
/-- A new object (q's memory may be taken up by it: q is no more). -/
def Mem.gone (m : Mem) (q : Option Id) : Id → Option Ob := match q with | none => m.o | some o => upd m.o o none
def Mem.grow (m : Mem) (q : Option Id) (x : Ob) : Mem := ⟨upd (m.gone q) [m.nx] (some x), m.nx + 1⟩
def Mem.set (m : Mem) (o : Id) (x : Ob) : Mem := ⟨upd m.o o (some x), m.nx⟩
section
variable {P : Program} {β κ : Id → Nat} {A : Id → Nat → Prop} {w w' : World} {S : Nat → Prop} {m : Mem} {D : Id → Prop}
theorem gone_at {q : Option Id} {o : Id} {x : Ob} (h : m.gone q o = some x) : m.o o = some x ∧ q ≠ some o := by
  cases q with
  | none => exact ⟨h, by simp⟩
  | some p =>
    simp only [Mem.gone, upd] at h
    split at h
    · cases h
    · exact ⟨h, fun e => by cases e; contradiction⟩
theorem hb_ne {o : Id} {n : Nat} (h : hb o n) : o ≠ [n] := fun e => by subst e; simp [hb] at h
theorem MRD.keepS (hm : MRD w S D m β κ A) (hold : ∀ k, k < w.heap.size → ¬ own m A k → w'.heap[k]? = w.heap[k]?) : ∀ k, S k → w'.heap[k]? = w.heap[k]? :=
  fun k hk => hold k (hm.lt k hk) (fun ⟨o, x, h1, h2⟩ => hm.ns o x k h1 h2 hk)
/-- The next name is in use by nobody. -/
def Fr (D : Id → Prop) (n : Nat) : Prop := ∀ o, hb o (n + 1) → ¬ hb o n → ¬ D o
/-- One more name in use. -/
abbrev gdN (D : Id → Prop) (n : Nat) : Id → Prop := fun o => D o ∨ (hb o (n + 1) ∧ ¬ hb o n)
theorem Fr.hd (n : Nat) : Fr (dN n) n := fun o _ h h2 => h h2
theorem Fr.ne {n : Nat} (fr : Fr D n) {o : Id} (h : D o) : o ≠ [n] := fun e => fr [n] (by simp [hb]) (by simp [hb]) (e ▸ h)
theorem gdN_dN (n : Nat) : gdN (dN n) n = dN (n + 1) := funext fun o => propext ⟨fun h => h.elim (fun h => hb.mono h (Nat.le_succ _)) (·.1), fun h => (Classical.em (hb o n)).elim .inl (fun h2 => .inr ⟨h, h2⟩)⟩
theorem gd_new (n : Nat) : gdN D n [n] := .inr ⟨by simp [hb], by simp [hb]⟩
theorem MRD.grow (fr : Fr D m.nx) (hm : MRD w S D m β κ A) (q : Option Id) {x : Ob} {g K : Nat} {B : Nat → Prop} (hos : w'.os = w.os) (ht : w'.tape = w.tape) (hout : w'.output = w.output) (hsz : w.heap.size ≤ w'.heap.size)
    (hB : ∀ k, B k → w.heap.size ≤ k ∨ ∃ o x0, q = some o ∧ m.o o = some x0 ∧ A o k)
    (hold : ∀ k, k < w.heap.size → (∀ o x0, q = some o → m.o o = some x0 → ¬ A o k) → w'.heap[k]? = w.heap[k]?)
    (hOB : OB (upd β [m.nx] g) (upd κ [m.nx] K) (gdN D m.nx) w' S B [m.nx] x) :
    ExtD w S D m β κ A w' S (gdN D m.nx) (m.grow q x) (upd β [m.nx] g) (upd κ [m.nx] K) (upd A [m.nx] B) ∧ MRD w' S (gdN D m.nx) (m.grow q x) (upd β [m.nx] g) (upd κ [m.nx] K) (upd A [m.nx] B) := by
  have hβ : ∀ o, D o → upd β [m.nx] g o = β o ∧ upd κ [m.nx] K o = κ o := fun o ho => by simp [upd, fr.ne ho]
  have hA : ∀ o, D o → upd A [m.nx] B o = A o := fun o ho => by simp [upd, fr.ne ho]
  have hAn : upd A [m.nx] B [m.nx] = B := by simp [upd]
  have hold' : ∀ k, k < w.heap.size → ¬ own m A k → w'.heap[k]? = w.heap[k]? := fun k hk hn => hold k hk (fun o x0 _ h1 h2 => hn ⟨o, x0, h1, h2⟩)
  have hS := hm.keepS hold'
  have at_ : ∀ o y, (m.grow q x).o o = some y → (o = [m.nx] ∧ y = x) ∨ (D o ∧ m.o o = some y ∧ q ≠ some o) := fun o y h => by
    by_cases e : o = [m.nx]
    · subst e; simp [Mem.grow, upd] at h; exact .inl ⟨rfl, h.symm⟩
    · simp only [Mem.grow, upd, if_neg e] at h
      obtain ⟨h1, h2⟩ := gone_at h
      exact .inr ⟨hm.nx o y h1, h1, h2⟩
  refine ⟨⟨hos, ht, hout, hsz, fun _ h => h, hβ, hold', Nat.le_succ _, fun _ h => .inl h, ?_, fun k hk => .inl hk⟩, ⟨fun o y h => ?_, fun o y k h hk hs => ?_, fun o o' y y' k h h' hk hk' => ?_, fun o y h => ?_, fun k hk => Nat.lt_of_lt_of_le (hm.lt k hk) hsz⟩⟩
  · rintro k ⟨o, y, h, hk⟩
    rcases at_ o y h with ⟨rfl, rfl⟩ | ⟨h1, h2, _⟩
    · rw [hAn] at hk
      rcases hB k hk with h1 | ⟨o', x0, _, h1, h2⟩
      · exact .inl h1
      · exact .inr ⟨o', x0, h1, h2⟩
    · rw [hA o h1] at hk; exact .inr ⟨o, y, h2, hk⟩
  · rcases at_ o y h with ⟨rfl, rfl⟩ | ⟨h1, h2, h3⟩
    · rw [hAn]; exact hOB
    · rw [hA o h1]
      exact (hm.ob o y h2).move hβ (fun _ h => .inl h) (fun _ h => h) hS h1 (fun k hk => hold k ((hm.ob o y h2).lt hk) (fun o' x0 e h4 h5 => h3 (by rw [hm.dj o o' y x0 k h2 h4 hk h5]; exact e)))
  · rcases at_ o y h with ⟨rfl, rfl⟩ | ⟨h1, h2, h3⟩
    · rw [hAn] at hk
      rcases hB k hk with h1 | ⟨o', x0, _, h1, h2⟩
      · have := hm.lt k hs; omega
      · exact hm.ns o' x0 k h1 h2 hs
    · rw [hA o h1] at hk; exact hm.ns o y k h2 hk hs
  · rcases at_ o y h with ⟨rfl, rfl⟩ | ⟨h1, h2, h3⟩ <;> rcases at_ o' y' h' with ⟨rfl, rfl⟩ | ⟨h1', h2', h3'⟩
    · rfl
    · rw [hAn] at hk; rw [hA o' h1'] at hk'
      rcases hB k hk with h4 | ⟨o2, x0, e, h4, h5⟩
      · have := (hm.ob o' y' h2').lt hk'; omega
      · have := hm.dj o' o2 y' x0 k h2' h4 hk' h5; subst this; exact absurd e h3'
    · rw [hAn] at hk'; rw [hA o h1] at hk
      rcases hB k hk' with h4 | ⟨o2, x0, e, h4, h5⟩
      · have := (hm.ob o y h2).lt hk; omega
      · have := hm.dj o o2 y x0 k h2 h4 hk h5; subst this; exact absurd e h3
    · rw [hA o h1] at hk; rw [hA o' h1'] at hk'
      exact hm.dj o o' y y' k h2 h2' hk hk'
  · rcases at_ o y h with ⟨rfl, rfl⟩ | ⟨h1, _⟩
    · exact gd_new _
    · exact .inl h1
/-- An object's cells are written. -/
theorem MRD.put (hm : MRD w S D m β κ A) {i : Id} {x x' : Ob} {B : Nat → Prop} (h : m.o i = some x) (hos : w'.os = w.os) (ht : w'.tape = w.tape) (hout : w'.output = w.output) (hsz : w'.heap.size = w.heap.size)
    (hB : ∀ k, B k → A i k) (hold : ∀ k, ¬ A i k → w'.heap[k]? = w.heap[k]?) (hOB : OB β κ D w' S B i x') :
    ExtD w S D m β κ A w' S D (m.set i x') β κ (upd A i B) ∧ MRD w' S D (m.set i x') β κ (upd A i B) := by
  have hold' : ∀ k, k < w.heap.size → ¬ own m A k → w'.heap[k]? = w.heap[k]? := fun k hk hn => hold k (fun h2 => hn ⟨i, x, h, h2⟩)
  have hS := hm.keepS hold'
  have at_ : ∀ o y, (m.set i x').o o = some y → (o = i ∧ y = x') ∨ (o ≠ i ∧ m.o o = some y) := fun o y ho => by
    simp only [Mem.set, upd] at ho
    by_cases e : o = i
    · rw [if_pos e] at ho; cases ho; exact .inl ⟨e, rfl⟩
    · rw [if_neg e] at ho; exact .inr ⟨e, ho⟩
  have hA : ∀ o, o ≠ i → upd A i B o = A o := fun o ho => by simp [upd, ho]
  have hAi : upd A i B i = B := by simp [upd]
  have old : ∀ o y k, (m.set i x').o o = some y → upd A i B o k → ∃ y', m.o o = some y' ∧ A o k := fun o y k ho hk => by
    rcases at_ o y ho with ⟨rfl, rfl⟩ | ⟨h1, h2⟩
    · rw [hAi] at hk; exact ⟨x, h, hB k hk⟩
    · rw [hA o h1] at hk; exact ⟨y, h2, hk⟩
  refine ⟨⟨hos, ht, hout, Nat.le_of_eq hsz.symm, fun _ h => h, fun _ _ => ⟨rfl, rfl⟩, hold', Nat.le_refl _, fun _ h => h, ?_, fun k hk => .inl hk⟩, ⟨fun o y ho => ?_, fun o y k ho hk hs => ?_, fun o o' y y' k h1 h2 h3 h4 => ?_, fun o y ho => ?_, fun k hk => by rw [hsz]; exact hm.lt k hk⟩⟩
  · rintro k ⟨o, y, ho, hk⟩
    obtain ⟨y', h1, h2⟩ := old o y k ho hk
    exact .inr ⟨o, y', h1, h2⟩
  · rcases at_ o y ho with ⟨rfl, rfl⟩ | ⟨h1, h2⟩
    · rw [hAi]; exact hOB
    · rw [hA o h1]
      exact (hm.ob o y h2).move (fun _ _ => ⟨rfl, rfl⟩) (fun _ h => h) (fun _ h => h) hS (hm.nx o y h2) (fun k hk => hold k (fun h3 => h1 (hm.dj o i y x k h2 h hk h3)))
  · obtain ⟨y', h1, h2⟩ := old o y k ho hk
    exact hm.ns o y' k h1 h2 hs
  · obtain ⟨z, a1, a2⟩ := old o y k h1 h3
    obtain ⟨z', b1, b2⟩ := old o' y' k h2 h4
    exact hm.dj o o' z z' k a1 b1 a2 b2
  · rcases at_ o y ho with ⟨rfl, rfl⟩ | ⟨_, h4⟩
    · exact hm.nx o x h
    · exact hm.nx o y h4
end
end Go.Proofs.YtppfogbgbpadiaaW.AW
namespace Go.Proofs.YtppfogbgbpadiaaW.AW
open Go Go.RowKit
set_option linter.unusedVariables false
/-- THE CONTRACT of a function: from the arguments and the memory to the answer and the memory then. -/
def AC (P : Program) (f : FuncId) (args : List PV) (m : Mem) (r : PV) (m' : Mem) : Prop := (∃ fn, P.funcs[f]? = some fn ∧ fn.body.isNone = false ∧ (fn.name == "runtime.NumGoroutine") = false) ∧
  ∀ (w : World) (vs : Array Value) (S : Nat → Prop) (β κ : Id → Nat) (A : Id → Nat → Prop), MR w S m β κ A → vs.size = args.length → (∀ i p, args[i]? = some p → OV β κ (dN m.nx) w S (vs.getD i undef) p) →
    Calls P f vs w fun e w' => ∃ v S' β' κ' A', e = .returned v ∧ OV β' κ' (dN m'.nx) w' S' v r ∧ MR w' S' m' β' κ' A' ∧ Ext w S m β κ A w' S' m' β' κ' A'
/-- What an operation leaves: the model's value and world, the words' answer and memory. -/
def Left (w : World) (S : Nat → Prop) (D : Id → Prop) (m : Mem) (β κ : Id → Nat) (A : Id → Nat → Prop) (K : PV → Mem → Prop) (v : Value) (w' : World) : Prop :=
  ∃ r m' S' D' β' κ' A', K r m' ∧ ExtD w S D m β κ A w' S' D' m' β' κ' A' ∧ MRD w' S' D' m' β' κ' A' ∧ OV β' κ' D' w' S' v r ∧ ∀ o, D' o ↔ D o ∨ (hb o m'.nx ∧ ¬ hb o m.nx)
theorem dsame {D : Id → Prop} {n : Nat} (o : Id) : D o ↔ D o ∨ (hb o n ∧ ¬ hb o n) := ⟨.inl, fun h => h.elim id (fun h => absurd h.1 h.2)⟩
/-- A name is in use with all that begins with it. -/
def TC (D : Id → Prop) : Prop := ∀ o q, o ≠ [] → D o → D (o ++ q)
theorem hb_app {u : Id} {q : Id} {n : Nat} (hu : u ≠ []) : hb (u ++ q) n ↔ hb u n := by
  cases u with
  | nil => exact absurd rfl hu
  | cons c u => exact Iff.rfl
theorem TC_dN (n : Nat) : TC (dN n) := fun o q ho h => (hb_app ho).2 h
/-- The same, whatever other names are in use. -/
def ACD (P : Program) (f : FuncId) (args : List PV) (m : Mem) (r : PV) (m' : Mem) : Prop := (∃ fn, P.funcs[f]? = some fn ∧ fn.body.isNone = false ∧ (fn.name == "runtime.NumGoroutine") = false) ∧
  ∀ (D : Id → Prop), TC D → (∀ o, hb o m'.nx → ¬ hb o m.nx → ¬ D o) → ∀ (w : World) (vs : Array Value) (S : Nat → Prop) (β κ : Id → Nat) (A : Id → Nat → Prop), MRD w S D m β κ A → vs.size = args.length → (∀ i p, args[i]? = some p → OV β κ D w S (vs.getD i undef) p) →
    Calls P f vs w fun e w' => ∃ v, e = .returned v ∧ Left w S D m β κ A (fun q n => q = r ∧ n = m') v w'
/-- Two steps that do the same to the objects W. -/
def Same2 (W : List Id) (m m' m2 m2' : Mem) : Prop := m2'.nx = m'.nx ∧ ∀ o, (m2'.o o = m2.o o ∧ m'.o o = m.o o) ∨ (o ∈ W ∧ m2'.o o = m'.o o)
/-- A call that looks at R and W alone, and changes W alone. -/
def ACT (P : Program) (f : FuncId) (args : List PV) (m : Mem) (r : PV) (m' : Mem) (R W : List Id) : Prop := m.nx ≤ m'.nx ∧
  ∀ m2 : Mem, m2.nx = m.nx → (∀ o ∈ R ++ W, m2.o o = m.o o) → ∃ m2', Same2 W m m' m2 m2' ∧ ACD P f args m2 r m2'
def gdv (cs : List Bool) (v : PV) : PV := match cs with | [] => v | cs => .gd cs v
/-- What follows, shut. -/
def k2 (K : PV → Mem → Prop) (r : PV) (m' : Mem) (R W : List Id) : Prop := K r m'
def kD (K : PV → Mem → List Id → List Id → Prop) (R W : List Id) (r : PV) (m' : Mem) : Prop := K r m' R W
/-- A call from this very memory: what it may answer and leave. -/
def ACY (P : Program) (f : FuncId) (args : List PV) (m : Mem) (Ψ : PV → Mem → Prop) : Prop := (∃ fn, P.funcs[f]? = some fn ∧ fn.body.isNone = false ∧ (fn.name == "runtime.NumGoroutine") = false) ∧
  ∀ (w : World) (vs : Array Value) (S : Nat → Prop) (β κ : Id → Nat) (A : Id → Nat → Prop), MR w S m β κ A → vs.size = args.length → (∀ i p, args[i]? = some p → OV β κ (dN m.nx) w S (vs.getD i undef) p) →
    Calls P f vs w fun e w' => ∃ v, e = .returned v ∧ Left w S (dN m.nx) m β κ A Ψ v w'
/-- A call; under a guard it leaves memory alone; dr: in a region that draws its order. -/
def acall (dr : Bool) (P : Program) (cs : List Bool) (f : FuncId) (args : List PV) (m : Mem) (K : PV → Mem → List Id → List Id → Prop) : Prop :=
  (∃ r m' R W, (cs.all id = true → ACT P f args m r m' R W) ∧ (cs.all id = true ∨ m' = m) ∧ K (gdv cs r) m' R W) ∨ (dr = false ∧ cs = [] ∧ ∃ Ψ, ACY P f args m Ψ ∧ ∀ r m', Ψ r m' → K r m' [] [])
def splice (cs : List PV) (j : Nat) (vs : List PV) : List PV := cs.take j ++ vs ++ cs.drop (j + vs.length)
def astore (P : Program) (t : TypeId) (a x : PV) (m : Mem) (K : PV → Mem → Prop) : Prop := match pcells x with
  | some vs => match a with
    | .bp o j => match m.o o with
      | some (.box cs) => (vs.length = (tyD P t).sz ∧ tk P t ≠ .other ∧ j + vs.length ≤ cs.length) ∧ K .und (m.set o (.box (splice cs j vs)))
      | _ => False
    | .pt o sz n i j => match m.o o with
      | some (.row sz' n' g) => (vs.length = (tyD P t).sz ∧ tk P t ≠ .other ∧ sz' = sz ∧ n' = n ∧ j + vs.length ≤ sz) ∧ K .und (m.set o (.row sz' n' (upd g i (splice (g i) j vs))))
      | _ => False
    | _ => False
  | none => False
def okIdx : Nat → List (Nat × Operand) → Bool
  | _, [] => true
  | k, (i, _) :: r => i == k && okIdx (k + 1) r
def allCells : List PV → Option (List (List PV))
  | [] => some []
  | p :: r => match pcells p, allCells r with | some c, some cs => some (c :: cs) | _, _ => none
/-- What an append takes from its second argument: how many elements, their cells, cells an element. -/
def asrc (m : Mem) : PV → Option (Nat × (Nat → List PV) × Nat)
  | .nils => some (0, fun _ => [], 0)
  | .cl sz n g => some (n, g, sz)
  | .sl o sz n off len => match m.o o with | some (.row sz' n' g) => if sz' = sz ∧ n' = n then some (len, fun i => g (off + i), sz) else none | _ => none
  | .str b => some (b.size, fun i => [.int .u8 (bt b i)], 1)
  | _ => none
/-- What is copied out of one's own rows owns nothing from within. -/
def aflat (m : Mem) : PV → Prop
  | .sl o sz n off len => match m.o o with | some (.row _ _ g) => ∀ i, i < len → (g (off + i)).all (fun p => !p.isOw) = true | _ => True
  | _ => True
def aappend (P : Program) (t : TypeId) (s x : PV) (m : Mem) (K : PV → Mem → Prop) : Prop := match asrc m x with
  | some (k, gs, sz) => match s with
    | .nils => ((tyD P t).eok = true ∧ (k = 0 ∨ sz = (tyD P t).es) ∧ k * (tyD P t).eb ≤ 140737488355328) ∧ aflat m x ∧ K (.sl [m.nx] (tyD P t).es k 0 k) (m.grow none (.row (tyD P t).es k gs))
    | .sl o sz0 n off len => match m.o o with
      | some (.row sz' n' g) => ((tyD P t).eok = true ∧ (k = 0 ∨ sz = (tyD P t).es) ∧ sz' = (tyD P t).es ∧ sz0 = (tyD P t).es ∧ n' = n ∧ off = 0 ∧ (len + k) * (tyD P t).eb ≤ 140737488355328) ∧ aflat m x ∧
          K (.sl [m.nx] (tyD P t).es (len + k) 0 (len + k)) (m.grow (some o) (.row (tyD P t).es (len + k) (fun i => if i < len then g i else gs (i - len))))
      | _ => False
    | _ => False
  | none => False
/-- It is closed as it stands. -/
def PV.clo1 : PV → Bool
  | .und | .bool _ | .int _ _ | .str _ | .nils | .cl _ _ _ | .pc _ => true
  | _ => false
def PV.clo : PV → Bool
  | .ag cs => cs.all PV.clo1
  | p => p.clo1
def hintOk (e : Operand → PV) : Option Operand → Prop
  | none => True
  | some x => match e x with | .int _ _ => True | _ => False
/-- What is carried out under a guard that is known. -/
def onG (cs : List Bool) (p q : Prop) : Prop := if cs.all id = true then p else q
def aop (P : Program) (cs : List Bool) (op : Op) (e : Operand → PV) (m : Mem) (K : PV → Mem → Prop) : Prop := match op with
  | .box t x => onG cs (match pcells (e x) with | some vs => K (.bp [m.nx] 0) (m.grow none (.box vs)) | none => False) (K (gdv cs .und) m)
  | .alloc t => onG cs ((tyD P t).zok = true ∧ K (.bp [m.nx] 0) (m.grow none (.box (tyD P t).zc))) (K (gdv cs .und) m)
  | .store t a x => onG cs (astore P t (e a) (e x) m K) (K (gdv cs .und) m)
  | .buildSlice t n ps => onG cs (match allCells (ps.toList.map (fun x => e x.2)) with
    | some cc => ((tyD P t).eok = true ∧ okIdx 0 ps.toList = true ∧ ps.size = n ∧ (∀ c ∈ cc, c.length = (tyD P t).es) ∧ n * (tyD P t).es ≤ 16777216) ∧ K (.sl [m.nx] (tyD P t).es n 0 n) (m.grow none (.row (tyD P t).es n (fun i => cc.getD i [])))
    | none => False) (K (gdv cs .und) m)
  | .makeSlice t l c => onG cs (match e l, e c with
    | .int _ l, .int _ c => ((tyD P t).eok = true ∧ 0 ≤ l ∧ l ≤ c ∧ c * (tyD P t).eb ≤ 140737488355328) ∧ K (.sl [m.nx] (tyD P t).es l.toNat 0 l.toNat) (m.grow none (.row (tyD P t).es l.toNat (fun _ => (tyD P t).ez)))
    | _, _ => False) (K (gdv cs .und) m)
  | .makeMap t r => onG cs ((match (tyD P t).k with | .map _ _ => True | _ => False) ∧ hintOk e r ∧ K (.mp [m.nx]) (m.grow none (.map (fun _ => none)))) (K (gdv cs .und) m)
  | .mapUpdate t x k v => onG cs (match e x, e k with
    | .mp o, .int .i64 i => match m.o o with
      | some (.map f) => (match (tyD P t).k with | .map kt _ => tk P kt = .int .i64 | _ => False) ∧ (e v).clo = true ∧ K .und (m.set o (.map (upd f i (some (e v)))))
      | _ => False
    | _, _ => False) (K (gdv cs .und) m)
  | .convert s d x => match e x with
    | .str b => if tkU8 P d then onG cs ((tk P s = .string ∧ (tyD P d).eok = true ∧ (tyD P d).es = 1) ∧ K (.sl [m.nx] 1 b.size 0 b.size) (m.grow none (.row 1 b.size (fun i => [.int .u8 (bt b i)])))) (K (gdv cs .und) m)
      else (cs.all id = true → (apure P cs (.convert s d x) e m).ok) ∧ K (gdv cs (apure P cs (.convert s d x) e m).v) m
    | .sl o sz n off len => if s = d then onG cs (match m.o o with
        | some (.row sz' n' g) => (tkU8 P d ∧ sz' = 1 ∧ sz = 1 ∧ n' = n ∧ 0 < len ∧ rowU8 n g) ∧ K (.sl o sz n off len) (m.set o (.row sz' n' g))
        | _ => False) (K (gdv cs .und) m)
      else (cs.all id = true → (apure P cs (.convert s d x) e m).ok) ∧ K (gdv cs (apure P cs (.convert s d x) e m).v) m
    | _ => (cs.all id = true → (apure P cs (.convert s d x) e m).ok) ∧ K (gdv cs (apure P cs (.convert s d x) e m).v) m
  | .call c => match c.callee with
    | .builtin .delete => onG cs (match c.args.toList, c.argTypes.toList with
      | [x, k], t :: _ => (match e x, e k with
        | .mp o, .int .i64 i => match m.o o with
          | some (.map f) => (match (tyD P t).k with | .map kt _ => tk P kt = .int .i64 | _ => False) ∧ K (.tu []) (m.set o (.map (upd f i none)))
          | _ => False
        | _, _ => False)
      | _, _ => False) (K (gdv cs .und) m)
    | .builtin .append => onG cs (match c.args.toList, c.argTypes.toList with | [s, x], [t, t'] => ((∃ e', P.underlying t' = some (.slice e')) ∨ P.underlying t' = some .string) ∧ aappend P t (e s) (e x) m K | _, _ => False) (K (gdv cs .und) m)
    | .builtin b => (cs.all id = true → (apure P cs (.call c) e m).ok) ∧ K (gdv cs (apure P cs (.call c) e m).v) m
    | .value f => match e f with | .fn g caps => acall false P cs g (c.args.toList.map e ++ caps) m (k2 K) | _ => False
    | .invoke _ _ => False
  | op => (cs.all id = true → (apure P cs op e m).ok) ∧ K (gdv cs (apure P cs op e m).v) m
/-- Objects that a value names. -/
def idL : PV → List Id
  | .bp o _ => [o] | .pt o _ _ _ _ => [o] | .mp o => [o] | .sl o _ _ _ _ => [o] | _ => []
/-- What an operation looks at, and what it changes or makes. -/
def rdN (op : Op) (e : Operand → PV) : List Id := match op with
  | .load _ x => idL (e x)
  | .lookup _ x _ _ => idL (e x)
  | .convert _ _ x => idL (e x)
  | .call c => match c.callee with
    | .builtin .append => (match c.args.toList with | [_, x] => idL (e x) | _ => [])
    | _ => []
  | _ => []
def wrN (op : Op) (e : Operand → PV) (m : Mem) : List Id := match op with
  | .box _ _ | .alloc _ | .buildSlice _ _ _ | .makeSlice _ _ _ | .makeMap _ _ => [[m.nx]]
  | .store _ a _ => idL (e a)
  | .mapUpdate _ x _ _ => idL (e x)
  | .convert s d x => (match e x with | .str _ => [[m.nx]] | .sl o _ _ _ _ => if s = d then [o] else [] | _ => [])
  | .call c => match c.callee with
    | .builtin .append => (match c.args.toList with | [s, _] => idL (e s) ++ [[m.nx]] | _ => [])
    | .builtin .delete => (match c.args.toList with | [x, _] => idL (e x) | _ => [])
    | _ => []
  | _ => []
/-- An operation, and its objects. -/
def aopD (P : Program) (cs : List Bool) (op : Op) (e : Operand → PV) (m : Mem) (K : PV → Mem → List Id → List Id → Prop) : Prop := match op with
  | .call c => match c.callee with
    | .value f => match e f with | .fn g caps => acall true P cs g (c.args.toList.map e ++ caps) m K | _ => False
    | _ => aop P cs (.call c) e m (kD K (rdN (.call c) e) (wrN (.call c) e m))
  | op => aop P cs op e m (kD K (rdN op e) (wrN op e m))
def AS.ev (s : AS) : Operand → PV
  | .tmp t => s.t t
  | .const v => ofVal v
  | .func f => .fn f []
  | .global _ => .und
/-- The slot that operation j of a region fills. -/
def gtmp (ds : List (Option Tmp)) (j : Nat) : Option Tmp := (ds[j]?).bind id
/-- Under which tests an operation is carried out. -/
def agd (ds : List (Option Tmp)) (s : AS) : Option (Nat × Bool) → Option (List Bool)
  | none => some []
  | some (j, b) => match gtmp ds j with
    | some t => match s.t t with
      | .bool x => some [bif b then x else !x]
      | .gd cs (.bool x) => some (cs ++ [bif b then x else !x])
      | _ => none
    | none => none
def arun (P : Program) (nt : Nat) (ds : List (Option Tmp)) : List Oper → (AS → Prop) → AS → Prop
  | [], K, s => K s
  | o :: rest, K, s => match agd ds s o.guard with
    | some cs => (o.dst.all (· < nt) = true) ∧ aop P cs o.op (fun x => strip cs (s.ev x)) s.m (fun r m' => arun P nt ds rest K (({ s with m := m' } : AS).put o.dst r))
    | none => False
end Go.Proofs.YtppfogbgbpadiaaW.AW
namespace Go.Proofs.YtppfogbgbpadiaaW.AW
open Go Go.RowKit
set_option linter.unusedVariables false
set_option linter.unusedSimpArgs false
section
variable {P : Program} {β κ : Id → Nat} {A : Id → Nat → Prop} {w : World} {S : Nat → Prop} {m : Mem} {D : Id → Prop} {e : Operand → PV} {ρ : Operand → Value} {o : Oper} {cs : List Bool}
theorem OV.cap {D : Id → Prop} {v : Value} {p : PV} (h : OV β κ D w S v p) {o : Id} {g K : Nat} (hx : ¬ D o) {w' : World} {n : Nat} (hS : ∀ k, S k → w'.heap[k]? = w.heap[k]?) : OV (upd β o g) (upd κ o K) (gdN D n) w' S v p :=
  h.move (fun i hi => by have : i ≠ o := fun e => hx (e ▸ hi); simp [upd, this]) (fun _ h => .inl h) (fun _ h => h) hS
theorem alloc_old (w : World) (x : Obj) {k : Nat} (h : k < w.heap.size) : (w.alloc x).heap[k]? = w.heap[k]? := heap_alloc_old w x k h
theorem addr_add0 (g j : Nat) : (⟨g, 0, none⟩ : Addr).add j = ⟨g, j, none⟩ := by rw [Addr.add_lit, Nat.zero_add]
/-- A block of cells that own nothing. -/
theorem Blk.flat {D : Id → Prop} {b sz n c : Nat} {g : Nat → List PV} {cur : Array Value} {e : TypeId} {fz : Nat × Nat} (hh : w.heap[b]? = some (.cells cur e fz)) (hz : fzOk fz cur.size) (hs : cur.size = c * sz) (hn : n ≤ c) (hl : ∀ i, i < n → (g i).length = sz)
    (hc : ∀ i j p, i < n → (g i)[j]? = some p → ∃ v, cur[i * sz + j]? = some v ∧ v.oneCell' = true ∧ OV β κ D w S v p) : Blk β κ D w S (fun k => k = b) b sz n c g := by
  refine ⟨cur, e, fz, fun _ _ _ => False, hh, hz, hs, hn, hl, ⟨fun _ _ h => h, fun _ _ _ _ _ h => h.elim, fun _ _ _ h => h.elim, fun k => by simp⟩, fun i j p hi hp => ?_⟩
  obtain ⟨v, h1, h2, h3⟩ := hc i j p hi hp
  have : cur.getD (i * sz + j) undef = v := by simp [Array.getD_eq_getD_getElem?, h1]
  rw [this]
  exact ⟨h2, .inl ⟨h3, fun _ h => h⟩⟩
/-- A variable is made. -/
theorem new_box (fr : Fr D m.nx) (hm : MRD w S D m β κ A) {cur : Array Value} {ps : List PV} (hc : CR β κ D w S cur ps) (el : TypeId) (K : PV → Mem → Prop) (hK : K (.bp [m.nx] 0) (m.grow none (.box ps))) : Left w S D m β κ A K (.pointer (some ⟨w.heap.size, 0, none⟩)) (w.alloc (.cells cur el)) := by
  have hS : ∀ k, S k → (w.alloc (.cells cur el)).heap[k]? = w.heap[k]? := fun k hk => alloc_old w _ (hm.lt k hk)
  have eβ : upd β [m.nx] w.heap.size [m.nx] = w.heap.size := by simp [upd]
  have hb : Blk (upd β [m.nx] w.heap.size) (upd κ [m.nx] 1) (gdN D m.nx) (w.alloc (.cells cur el)) S (fun k => k = w.heap.size) w.heap.size ps.length 1 1 (fun _ => ps) :=
    Blk.flat (heap_alloc_new w _) (.inl rfl) (by rw [hc.1, Nat.one_mul]) (Nat.le_refl _) (fun _ _ => rfl) (fun i j p hi hp => by
      obtain rfl : i = 0 := by omega
      obtain ⟨v, h1, h2, h3⟩ := hc.at_ hp
      exact ⟨v, by simpa using h1, h2, h3.cap (fun h => fr.ne h rfl) hS⟩)
  obtain ⟨h1, h2⟩ := hm.grow fr none (x := .box ps) (g := w.heap.size) (K := 1) (w' := w.alloc (.cells cur el)) (B := fun k => k = w.heap.size) rfl rfl rfl (by simp) (fun k hk => .inl (by omega)) (fun k hk _ => alloc_old w _ hk)
    (by show Blk _ _ _ _ _ _ (upd β [m.nx] w.heap.size [m.nx]) _ _ _ _; rw [eβ]; exact hb)
  refine ⟨_, _, _, _, _, _, _, hK, h1, h2, ?_, fun _ => Iff.rfl⟩
  have := OV.bp (β := upd β [m.nx] w.heap.size) (κ := upd κ [m.nx] 1) (D := gdN D m.nx) (w := w.alloc (.cells cur el)) (S := S) [m.nx] 0 (gd_new _)
  rwa [eβ] at this
/-- A row is made. -/
theorem new_row (fr : Fr D m.nx) (hm : MRD w S D m β κ A) (q : Option Id) {w' : World} {gb cap sz n : Nat} {g : Nat → List PV} {B : Nat → Prop} (hos : w'.os = w.os) (ht : w'.tape = w.tape) (hout : w'.output = w.output) (hsz : w.heap.size ≤ w'.heap.size)
    (hB : ∀ k, B k → w.heap.size ≤ k ∨ ∃ o x0, q = some o ∧ m.o o = some x0 ∧ A o k) (hold : ∀ k, k < w.heap.size → (∀ o x0, q = some o → m.o o = some x0 → ¬ A o k) → w'.heap[k]? = w.heap[k]?)
    (hblk : Blk β κ D w' S B gb sz n cap g) (hcap : cap ≤ 9223372036854775807) (hs0 : 0 < sz) (K : PV → Mem → Prop) (hK : K (.sl [m.nx] sz n 0 n) (m.grow q (.row sz n g))) :
    Left w S D m β κ A K (.slice (some ⟨gb, 0, none⟩) n cap) w' := by
  have hS : ∀ k, S k → w'.heap[k]? = w.heap[k]? := hm.keepS (fun k hk hn => hold k hk (fun o x0 _ h1 h2 => hn ⟨o, x0, h1, h2⟩))
  have eβ : upd β [m.nx] gb [m.nx] = gb := by simp [upd]
  have eκ : upd κ [m.nx] cap [m.nx] = cap := by simp [upd]
  have hn : n ≤ cap := by obtain ⟨_, _, _, _, _, _, _, h, _⟩ := hblk; exact h
  have hv : OV (upd β [m.nx] gb) (upd κ [m.nx] cap) (gdN D m.nx) w' S (.slice (some ⟨gb, 0, none⟩) n cap) (.sl [m.nx] sz n 0 n) :=
    .sl _ _ _ _ _ _ _ (gd_new _) hn (by omega) (by rw [eκ]; omega) (by rw [eκ]; exact hcap) (fun _ => by rw [eβ]; simp)
  have hmv : Blk (upd β [m.nx] gb) (upd κ [m.nx] cap) (gdN D m.nx) w' S B gb sz n cap g := hblk.move (fun i hi => by simp [upd, fr.ne hi]) (fun _ h => .inl h) (fun _ h => h) (fun _ _ => rfl) (fun _ _ => rfl)
  rcases Nat.eq_zero_or_pos cap with h0 | h0
  · obtain ⟨h1, h2⟩ := hm.grow fr q (x := .row sz n g) (g := gb) (K := cap) (B := fun _ => False) hos ht hout hsz (fun k hk => hk.elim) hold (.inl ⟨by rw [eκ]; exact h0, by omega, fun _ h => h⟩)
    exact ⟨_, _, _, _, _, _, _, hK, h1, h2, hv, fun _ => Iff.rfl⟩
  · obtain ⟨h1, h2⟩ := hm.grow fr q (x := .row sz n g) (g := gb) (K := cap) (B := B) hos ht hout hsz hB hold (.inr ⟨by rw [eκ]; exact h0, by rw [eκ]; exact hcap, hs0, by rw [eβ, eκ]; exact hmv⟩)
    exact ⟨_, _, _, _, _, _, _, hK, h1, h2, hv, fun _ => Iff.rfl⟩
/-- A row of nothing that lies nowhere. -/
theorem new_none (fr : Fr D m.nx) (hm : MRD w S D m β κ A) (q : Option Id) {sz : Nat} {g : Nat → List PV} {Ad : Option Addr} (K : PV → Mem → Prop) (hK : K (.sl [m.nx] sz 0 0 0) (m.grow q (.row sz 0 g))) : Left w S D m β κ A K (.slice Ad 0 0) w := by
  have eκ : upd κ [m.nx] 0 [m.nx] = 0 := by simp [upd]
  obtain ⟨h1, h2⟩ := hm.grow fr q (x := .row sz 0 g) (g := 0) (K := 0) (w' := w) (B := fun _ => False) rfl rfl rfl (Nat.le_refl _) (fun k hk => hk.elim) (fun _ _ _ => rfl) (.inl ⟨eκ, rfl, fun _ h => h⟩)
  exact ⟨_, _, _, _, _, _, _, hK, h1, h2, .sl _ _ _ _ _ _ _ (gd_new _) (Nat.le_refl _) (Nat.le_refl _) (by rw [eκ]) (by rw [eκ]; exact Nat.zero_le _) (fun h => absurd h (Nat.lt_irrefl 0)), fun _ => Iff.rfl⟩
/-- Cells stored into a row of which nothing is frozen. -/
theorem run_stores (g o : Nat) (t : TypeId) (fz : Nat × Nat) : ∀ (vs : List Value) (i : Nat) (cur : Array Value) (w : World), w.heap[g]? = some (.cells cur t fz) → fzOk fz cur.size → o + i + vs.length ≤ cur.size → (∀ v ∈ vs, v.oneCell' = true) →
    (storeCells ⟨g, o, none⟩ vs i).run P w = .ok () (w.setRow g (cur.toList.take (o + i) ++ vs ++ cur.toList.drop (o + i + vs.length)).toArray)
  | [], i, cur, w, hg, _, _, _ => by
    simp only [storeCells, List.append_nil, List.length_nil, Nat.add_zero, List.take_append_drop, Array.toArray_toList]
    rw [setRow_self w g cur t fz hg]
    rfl
  | v :: rest, i, cur, w, hg, hz, hl, h1 => by
    have hi : o + i < cur.size := by simp at hl; omega
    have hadd : (⟨g, o, none⟩ : Addr).add i = ⟨g, o + i, none⟩ := by unfold Addr.add; split <;> simp_all
    have hcell : w.cell? ⟨g, o + i, none⟩ = some cur[o + i] := by simp [World.cell?, hg, hi]
    have hfro : w.frozen? ⟨g, o + i, none⟩ = false := by
      obtain ⟨lo, hi'⟩ := fz
      simp only [World.frozen?, hg, Bool.and_eq_false_iff, decide_eq_false_iff_not]
      simp only [fzOk, Prod.mk.injEq] at hz
      omega
    have hst : (store ((⟨g, o, none⟩ : Addr).add i) v).run P w = .ok () (w.setRow g (cur.setIfInBounds (o + i) v)) := by
      rw [hadd, run_store P w _ v _ (h1 v (by simp)), hcell]
      simp [hfro, setCell_eq_setRow w g (o + i) cur t fz v hg]
    have ih := run_stores g o t fz rest (i + 1) (cur.setIfInBounds (o + i) v) (w.setRow g (cur.setIfInBounds (o + i) v)) (setRow_heap w g cur _ t _ hg) (by simpa using hz) (by simp at hl ⊢; omega) (fun x hx => h1 x (by simp [hx]))
    simp only [storeCells, Sem.run_bind, hst, Result.andThen_ok, ih, setRow_setRow]
    congr 3
    have e := list_seg_step cur.toList (o + i) v rest (by simp at hl ⊢; omega)
    simpa [Array.toList_setIfInBounds, Nat.add_assoc] using e
/-- Cells of a block are written: what they owned is let go. -/
theorem Blk.store {D : Id → Prop} {B : Nat → Prop} {b sz n c : Nat} {g : Nat → List PV} (h : Blk β κ D w S B b sz n c g) (hS : ¬ S b) {k j : Nat} (hk : k < n) {vs : Array Value} {ps : List PV} (hv : CR β κ D w S vs ps) (hj : j + ps.length ≤ sz) :
    ∃ cur e fz cur', w.heap[b]? = some (.cells cur e fz) ∧ fzOk fz cur.size ∧ k * sz + j + vs.size ≤ cur.size ∧ cur' = (cur.toList.take (k * sz + j) ++ vs.toList ++ cur.toList.drop (k * sz + j + vs.size)).toArray ∧
      ∃ B', (∀ k, B' k → B k) ∧ Blk β κ D (w.setRow b cur') S B' b sz n c (upd g k (splice (g k) j ps)) := by
  obtain ⟨cur, e, fz, F, h1, hz, h2, h3, h4, h5, h6⟩ := h
  have hsz : (k + 1) * sz ≤ c * sz := Nat.mul_le_mul_right _ (by omega)
  rw [Nat.succ_mul] at hsz
  have hvs := hv.1
  refine ⟨cur, e, fz, _, h1, hz, by omega, rfl, fun x => x = b ∨ ∃ i j', (F i j' x ∧ ¬ (i = k ∧ j ≤ j' ∧ j' < j + ps.length)), fun x hx => ?_, ?_⟩
  · rcases hx with rfl | ⟨i, j', hx, _⟩
    · exact (h5.eq _).2 (.inl rfl)
    · exact (h5.eq _).2 (.inr ⟨i, j', hx⟩)
  have hS' : ∀ x, S x → ∀ cur', (w.setRow b cur').heap[x]? = w.heap[x]? := fun x hx cur' => setRow_other w b x _ (fun e => hS (e ▸ hx))
  have hcs : ((cur.toList.take (k * sz + j) ++ vs.toList ++ cur.toList.drop (k * sz + j + vs.size)).toArray).size = cur.size := by simp; omega
  have at_ : ∀ y, ((cur.toList.take (k * sz + j) ++ vs.toList ++ cur.toList.drop (k * sz + j + vs.size)).toArray).getD y undef = if k * sz + j ≤ y ∧ y < k * sz + j + vs.size then vs.getD (y - (k * sz + j)) undef else cur.getD y undef := fun y => by
    simp only [Array.getD_eq_getD_getElem?, List.getElem?_toArray, List.append_assoc]
    have hl : (cur.toList.take (k * sz + j)).length = k * sz + j := by simp; omega
    rw [List.getElem?_append, hl]
    by_cases hy : y < k * sz + j
    · rw [if_pos hy, if_neg (by omega), List.getElem?_take, if_pos hy]; simp
    · rw [if_neg hy, List.getElem?_append]
      by_cases hy2 : y - (k * sz + j) < vs.toList.length
      · rw [if_pos hy2, if_pos (by simp at hy2; omega)]; simp
      · rw [if_neg hy2, if_neg (by simp at hy2; omega), List.getElem?_drop]
        have : k * sz + j + vs.size + (y - (k * sz + j) - vs.toList.length) = y := by simp at hy2 ⊢; omega
        rw [this]; simp
  have hlk : (g k).length = sz := h4 k hk
  have hlen : (splice (g k) j ps).length = sz := by simp [splice]; omega
  refine ⟨_, e, fz, fun i j' x => F i j' x ∧ ¬ (i = k ∧ j ≤ j' ∧ j' < j + ps.length), setRow_heap w _ _ _ _ _ h1, by rw [hcs]; exact hz, by rw [hcs]; exact h2, h3, fun i hi => ?_, ⟨fun i j' h => h5.nb i j' h.1, fun i j1 i' j2 x a b => h5.dj i j1 i' j2 x a.1 b.1, fun i j' x h => h5.dm i j' x h.1, fun x => Iff.rfl⟩, fun i j' p hi hp => ?_⟩
  · unfold upd; split
    · exact hlen
    · exact h4 i hi
  have lt_ : ∀ a b : Nat, a < b → a * sz + sz ≤ b * sz := fun a b hab => by have := Nat.mul_le_mul_right sz (show a + 1 ≤ b by omega); rwa [Nat.succ_mul] at this
  have hmv : ∀ F0 : Nat → Prop, (∀ x, F0 x → x ≠ b) → ∀ v q, TV β κ D w S F0 v q → TV β κ D (w.setRow b ((cur.toList.take (k * sz + j) ++ vs.toList ++ cur.toList.drop (k * sz + j + vs.size)).toArray)) S F0 v q := fun F0 hF v q hq =>
    hq.move (fun _ _ => ⟨rfl, rfl⟩) (fun _ h => h) (fun _ h => h) (fun x hx => hS' x hx _) (fun x hx => setRow_other w b x _ (hF x hx))
  have hnb : ∀ i j' x, F i j' x → x ≠ b := fun i j' x hx e => h5.nb i j' (e ▸ hx)
  have same : ∀ v q, ¬ (i = k ∧ j ≤ j' ∧ j' < j + ps.length) → TV β κ D w S (F i j') v q → TV β κ D (w.setRow b ((cur.toList.take (k * sz + j) ++ vs.toList ++ cur.toList.drop (k * sz + j + vs.size)).toArray)) S (fun x => F i j' x ∧ ¬ (i = k ∧ j ≤ j' ∧ j' < j + ps.length)) v q := fun v q hc hq => by
    have e : (fun x => F i j' x ∧ ¬ (i = k ∧ j ≤ j' ∧ j' < j + ps.length)) = F i j' := by funext x; simp only [hc, not_false_eq_true, and_true]
    rw [e]; exact hmv _ (hnb i j') v q hq
  rw [at_]
  unfold upd at hp
  by_cases ek : i = k
  · subst ek
    rw [if_pos rfl] at hp
    have hj' : j' < sz := by rw [← hlen]; exact (List.getElem?_eq_some_iff.1 hp).1
    have ltk : ((g i).take j).length = j := by rw [List.length_take]; omega
    simp only [splice, List.append_assoc] at hp
    rw [List.getElem?_append, ltk] at hp
    by_cases hin : j ≤ j' ∧ j' < j + ps.length
    · rw [if_pos (by omega)]
      rw [if_neg (by omega), List.getElem?_append, if_pos (by omega)] at hp
      have e1 : i * sz + j' - (i * sz + j) = j' - j := by omega
      rw [e1]
      exact ⟨(hv.2 _ p hp).1, .inl ⟨(hv.2 _ p hp).2.move (fun _ _ => ⟨rfl, rfl⟩) (fun _ h => h) (fun _ h => h) (fun x hx => hS' x hx _), fun x hx => hx.2 ⟨rfl, hin⟩⟩⟩
    · rw [if_neg (by omega)]
      have hp2 : (g i)[j']? = some p := by
        by_cases hlt : j' < j
        · rw [if_pos (by omega), List.getElem?_take, if_pos hlt] at hp; exact hp
        · rw [if_neg (by omega), List.getElem?_append, if_neg (by omega), List.getElem?_drop] at hp
          rw [← hp]; congr 1; omega
      exact ⟨(h6 i j' p hi hp2).1, same _ _ (fun h => hin h.2) (h6 i j' p hi hp2).2⟩
  · rw [if_neg ek] at hp
    have hj' : j' < sz := by rw [← h4 i hi]; exact (List.getElem?_eq_some_iff.1 hp).1
    rw [if_neg (by
      rcases Nat.lt_or_gt_of_ne ek with hlt | hlt
      · have := lt_ _ _ hlt; omega
      · have := lt_ _ _ hlt; omega)]
    exact ⟨(h6 i j' p hi hp).1, same _ _ (fun h => ek h.1) (h6 i j' p hi hp).2⟩
variable (hm : MRD w S D m β κ A) (he : ∀ x, OV β κ D w S (ρ x) (e x)) (fr : Fr D m.nx)
include hm he fr
theorem o_box {t : TypeId} {x : Operand} {vs : List PV} (ho : o.op = .box t x) (hv : pcells (e x) = some vs) (K : PV → Mem → Prop) (hK : K (.bp [m.nx] 0) (m.grow none (.box vs))) : ∃ v w', (execOp ρ o).run P w = .ok (.value v) w' ∧ Left w S D m β κ A K v w' :=
  ⟨_, _, by simp [execOp, ho, Instr.box, newVar, newRow], new_box fr hm (CR.of (he x) hv) t K hK⟩
omit he in
theorem o_alloc {t : TypeId} (ho : o.op = .alloc t) (hz : (tyD P t).zok = true) (K : PV → Mem → Prop) (hK : K (.bp [m.nx] 0) (m.grow none (.box (tyD P t).zc))) : ∃ v w', (execOp ρ o).run P w = .ok (.value v) w' ∧ Left w S D m β κ A K v w' := by
  obtain ⟨z, hzr, hzs, hz1, hzc⟩ := zero_ok (β := β) (κ := κ) (D := D) (w := w) (S := S) hz
  exact ⟨_, _, by simp [execOp, ho, Instr.alloc, newVar, newRow, hzr], new_box fr hm hzc t K hK⟩
omit fr in
theorem o_store {t : TypeId} {a x : Operand} (ho : o.op = .store t a x) (K : PV → Mem → Prop) (h : astore P t (e a) (e x) m K) : ∃ w', (execOp ρ o).run P w = .ok .skip w' ∧ Left w S D m β κ A K undef w' := by
  unfold astore at h
  split at h
  · rename_i vs hvs
    have hv := CR.of (he x) hvs
    have ha := he a
    have one : ∀ u ∈ (ρ x).cells.toList, u.oneCell' = true := fun u hu => by
      obtain ⟨j, hj⟩ := List.getElem?_of_mem hu
      have hlt : j < vs.length := by rw [← hv.1]; simpa using (List.getElem?_eq_some_iff.1 hj).1
      obtain ⟨v, h1, h2, _⟩ := hv.at_ (List.getElem?_eq_getElem hlt)
      have : (ρ x).cells[j]? = some u := by simpa using hj
      rw [this] at h1; cases h1; exact h2
    have run_ : ∀ (g off : Nat) (cur : Array Value) (el : TypeId) (fz : Nat × Nat), ρ a = .pointer (some ⟨g, off, none⟩) → w.heap[g]? = some (.cells cur el fz) → fzOk fz cur.size → off + (ρ x).cells.size ≤ cur.size → vs.length = (tyD P t).sz → tk P t ≠ .other →
        (execOp ρ o).run P w = .ok .skip (w.setRow g (cur.toList.take off ++ (ρ x).cells.toList ++ cur.toList.drop (off + (ρ x).cells.size)).toArray) := by
      intro g off cur el fz h1 h2 hz h3 h4 h5
      have hst := run_stores (P := P) g off el fz (ρ x).cells.toList 0 cur w h2 hz (by simpa using h3) one
      obtain ⟨d, hd⟩ := Option.isSome_iff_exists.1 (tk_some h5)
      have hsz := run_sz hd w
      have e1 : (ρ x).cells.size = P.cellsOf t := by rw [hv.1, h4]; rfl
      simp only [Nat.add_zero, Array.length_toList] at hst
      simp [execOp, ho, Instr.storeAt, h1, Instr.sureAddr, storeVar, hsz, e1, hst]
    split at h
    · rename_i i j hx
      rw [hx] at ha
      obtain ⟨e1, h1⟩ := ha.bp_inv
      split at h
      · rename_i ps hb
        obtain ⟨⟨k1, k2, k3⟩, hK⟩ := h
        have hbk : ¬ S (β i) := by
          have := hm.ob i _ hb
          obtain ⟨_, _, _, _, _, _, _, _, _, h5, _⟩ := (this : Blk _ _ _ _ _ _ _ _ _ _ _)
          exact hm.ns i _ _ hb ((h5.eq _).2 (.inl rfl))
        obtain ⟨cur, el, fz, cur', g1, g2, g3, rfl, B', g4, g5⟩ := Blk.store (hm.ob i _ hb : Blk _ _ _ _ _ _ _ _ _ _ _) hbk (k := 0) (j := j) Nat.zero_lt_one hv k3
        rw [Nat.zero_mul, Nat.zero_add] at *
        obtain ⟨p1, p2⟩ := hm.put (x' := .box (splice ps j vs)) (B := B') hb (w' := w.setRow (β i) _) rfl rfl rfl (by simp) g4 (fun k hk => setRow_other w _ k _ (fun e => hk (by
          have := hm.ob i _ hb
          obtain ⟨_, _, _, _, _, _, _, _, _, h5, _⟩ := (this : Blk _ _ _ _ _ _ _ _ _ _ _)
          exact (h5.eq _).2 (.inl e)))) (by
          show Blk _ _ _ _ _ _ _ _ _ _ _
          have e2 : (splice ps j vs).length = ps.length := by simp [splice]; omega
          rw [e2]
          obtain ⟨c1, c2, c3, c4, c5, c6, c7, c8, c9, c10, c11⟩ := g5
          exact ⟨c1, c2, c3, c4, c5, c6, c7, c8, fun i hi => e2, c10, fun i' j' p hi hp => c11 i' j' p hi (by
            obtain rfl : i' = 0 := by omega
            simpa [upd] using hp)⟩)
        exact ⟨_, run_ _ _ _ _ _ e1 g1 g2 g3 k1 k2, _, _, _, _, _, _, _, hK, p1, p2, .rv _ _ (.und _), dsame⟩
      · exact h.elim
    · rename_i i sz n k j hx
      rw [hx] at ha
      obtain ⟨e1, h1, h2⟩ := ha.pt_inv
      split at h
      · rename_i sz' n' g hb
        obtain ⟨⟨k1, k2, rfl, rfl, k5⟩, hK⟩ := h
        rcases hm.ob i _ hb with ⟨_, h0, _⟩ | ⟨q1, q2, q3, hblk⟩
        · omega
        have hAb : A i (β i) := by obtain ⟨_, _, _, _, _, _, _, _, _, h5, _⟩ := hblk; exact (h5.eq _).2 (.inl rfl)
        obtain ⟨cur, el, fz, cur', g1, g2, g3, rfl, B', g4, g5⟩ := Blk.store hblk (hm.ns i _ _ hb hAb) (k := k) (j := j) h2 hv k5
        obtain ⟨p1, p2⟩ := hm.put (x' := .row sz' n' (upd g k (splice (g k) j vs))) (B := B') hb (w' := w.setRow (β i) _) rfl rfl rfl (by simp) g4 (fun k hk => setRow_other w _ k _ (fun e => hk (e ▸ hAb))) (.inr ⟨q1, q2, q3, g5⟩)
        exact ⟨_, run_ _ _ _ _ _ e1 g1 g2 g3 k1 k2, _, _, _, _, _, _, _, hK, p1, p2, .rv _ _ (.und _), dsame⟩
      · exact h.elim
    · exact h.elim
  · exact h.elim
end
end Go.Proofs.YtppfogbgbpadiaaW.AW
namespace Go.Proofs.YtppfogbgbpadiaaW.AW
open Go Go.RowKit
set_option linter.unusedVariables false
set_option linter.unusedSimpArgs false
theorem fillRow (size N : Nat) : ∀ (parts : List Value) (k : Nat) (cells : Array Value), (∀ v ∈ parts, v.cells.size = size) → cells.size = N * size → k + parts.length ≤ N →
    ∃ cs', Instr.fill (fun i => some (i * size, size)) cells ((parts.zipIdx k).map (fun x => (x.2, x.1))) = some cs' ∧ cs'.size = cells.size ∧ (∀ x, x < k * size → cs'[x]? = cells[x]?) ∧ ∀ (i : Nat) (v : Value), parts[i]? = some v → ∀ j, j < size → cs'[(k + i) * size + j]? = v.cells[j]?
  | [], k, cells, _, _, _ => ⟨cells, rfl, rfl, fun _ _ => rfl, fun i v h => by simp at h⟩
  | v :: r, k, cells, h1, h2, h3 => by
    have hv := h1 v (by simp)
    have hk : (k + 1) * size ≤ N * size := Nat.mul_le_mul_right _ (by simp at h3; omega)
    rw [Nat.succ_mul] at hk
    obtain ⟨g1, g2⟩ := fold_at (k * size) v.cells.toList 0 cells
    have e : v.cells.zipIdx.foldl (fun cs (x : Value × Nat) => cs.setIfInBounds (k * size + x.2) x.1) cells = (v.cells.toList.zipIdx 0).foldl (fun cs (x : Value × Nat) => cs.setIfInBounds (k * size + x.2) x.1) cells := by
      rw [← Array.foldl_toList]; simp
    obtain ⟨cs', r1, r2, r3, r4⟩ := fillRow size N r (k + 1) _ (fun u hu => h1 u (by simp [hu])) (g1.trans h2) (by simp at h3; omega)
    refine ⟨cs', ?_, r2.trans g1, fun x hx => ?_, fun i u hi j hj => ?_⟩
    · simp only [List.zipIdx_cons, List.map_cons, Instr.fill]
      rw [if_neg (by rw [hv]; simp; omega)]
      exact e ▸ r1
    · rw [r3 x (by rw [Nat.succ_mul]; omega), g2 x, if_neg (by omega)]
    · cases i with
      | zero =>
        simp only [List.getElem?_cons_zero, Option.some.injEq] at hi
        subst hi
        rw [Nat.add_zero, r3 _ (by rw [Nat.succ_mul]; omega), g2, if_pos (by simp; omega)]
        simp
      | succ i =>
        simp only [List.getElem?_cons_succ] at hi
        rw [show k + (i + 1) = k + 1 + i by omega]
        exact r4 i u hi j hj
theorem okIdx_zip (ρ : Operand → Value) : ∀ (k : Nat) (l : List (Nat × Operand)), okIdx k l = true → l.map (fun x => (x.1, ρ x.2)) = ((l.map (fun x => ρ x.2)).zipIdx k).map (fun x => (x.2, x.1))
  | _, [], _ => rfl
  | k, (i, x) :: r, h => by
    simp only [okIdx, Bool.and_eq_true, beq_iff_eq] at h
    obtain ⟨rfl, h⟩ := h
    simp only [List.map_cons, List.zipIdx_cons]
    rw [okIdx_zip ρ (i + 1) r h]
section
variable {P : Program} {β κ : Id → Nat} {A : Id → Nat → Prop} {w : World} {S : Nat → Prop} {m : Mem} {D : Id → Prop} {e : Operand → PV} {ρ : Operand → Value} {o : Oper} {cs : List Bool}
theorem allCells_at {D : Id → Prop} : ∀ {ps : List PV} {cc : List (List PV)} {vs : List Value}, allCells ps = some cc → vs.length = ps.length → (∀ (j : Nat) (p : PV), ps[j]? = some p → ∃ v, vs[j]? = some v ∧ OV β κ D w S v p) →
    cc.length = ps.length ∧ ∀ (i : Nat) (c : List PV), cc[i]? = some c → ∃ v, vs[i]? = some v ∧ CR β κ D w S v.cells c
  | [], cc, vs, h, hl, _ => by simp only [allCells, Option.some.injEq] at h; subst h; exact ⟨rfl, fun i c hc => by simp at hc⟩
  | p :: r, cc, vs, h, hl, hv => by
    simp only [allCells] at h
    split at h
    · rename_i c cs' h1 h2
      simp only [Option.some.injEq] at h
      subst h
      cases vs with
      | nil => cases hl
      | cons v vs =>
        obtain ⟨i1, i2⟩ := allCells_at h2 (by simpa using hl) (fun j q hq => by obtain ⟨u, a, b⟩ := hv (j + 1) q (by simpa using hq); exact ⟨u, by simpa using a, b⟩)
        refine ⟨by simp [i1], fun i d hd => ?_⟩
        cases i with
        | zero =>
          simp only [List.getElem?_cons_zero, Option.some.injEq] at hd
          subst hd
          obtain ⟨u, a, b⟩ := hv 0 p rfl
          simp only [List.getElem?_cons_zero, Option.some.injEq] at a
          subst a
          exact ⟨v, rfl, CR.of b h1⟩
        | succ i => obtain ⟨u, a, b⟩ := i2 i d (by simpa using hd); exact ⟨u, by simpa using a, b⟩
    · cases h
variable (hm : MRD w S D m β κ A) (he : ∀ x, OV β κ D w S (ρ x) (e x)) (fr : Fr D m.nx)
include hm he fr
theorem o_buildSlice {t : TypeId} {n : Nat} {ps : Array (Nat × Operand)} {cc : List (List PV)} (ho : o.op = .buildSlice t n ps) (hcc : allCells (ps.toList.map (fun x => e x.2)) = some cc) (h1 : (tyD P t).eok = true) (h2 : okIdx 0 ps.toList = true) (h3 : ps.size = n) (h4 : ∀ c ∈ cc, c.length = (tyD P t).es) (h5 : n * (tyD P t).es ≤ 16777216)
    (K : PV → Mem → Prop) (hK : K (.sl [m.nx] (tyD P t).es n 0 n) (m.grow none (.row (tyD P t).es n (fun i => cc.getD i [])))) : ∃ v w', (execOp ρ o).run P w = .ok (.value v) w' ∧ Left w S D m β κ A K v w' := by
  obtain ⟨el, i0, z, hu, hi0, hz0, hs, _, hzs, hz1, hpos, _⟩ := el_of h1
  obtain ⟨c1, c2⟩ := allCells_at (β := β) (κ := κ) (D := D) (w := w) (S := S) (vs := ps.toList.map (fun x => ρ x.2)) hcc (by simp) (fun j p hp => by
    rw [List.getElem?_map] at hp
    obtain ⟨x, hx, rfl⟩ := Option.map_eq_some_iff.1 hp
    exact ⟨ρ x.2, by rw [List.getElem?_map, hx]; rfl, he _⟩)
  have hn : cc.length = n := by rw [c1, List.length_map, Array.length_toList, h3]
  have hvs : ∀ v ∈ ps.toList.map (fun x => ρ x.2), v.cells.size = (tyD P t).es := fun v hv => by
    obtain ⟨i, hi⟩ := List.getElem?_of_mem hv
    have hlt : i < cc.length := by have := (List.getElem?_eq_some_iff.1 hi).1; simp at this; omega
    obtain ⟨u, a, b⟩ := c2 i _ (List.getElem?_eq_getElem hlt)
    rw [hi] at a; cases a
    rw [b.1]; exact h4 _ (List.getElem_mem _)
  have hz : zeroValue el = zeroValue el := rfl
  obtain ⟨cur, f1, f2, _, f4⟩ := fillRow (tyD P t).es n (ps.toList.map (fun x => ρ x.2)) 0 ((Array.range (n * (tyD P t).es)).map ((if n * (tyD P t).es = 0 then #[] else z.cells)[· % (if n * (tyD P t).es = 0 then #[] else z.cells).size]!)) hvs (by simp) (by simp; omega)
  have ez := okIdx_zip ρ 0 ps.toList h2
  rw [← ez] at f1
  have hlim : ¬ n * (tyD P t).es > 2 ^ 24 := by have : (2 : Nat) ^ 24 = 16777216 := rfl; omega
  have hblk : Blk β κ D (w.alloc (.cells cur el)) S (fun k => k = w.heap.size) w.heap.size (tyD P t).es n n (fun i => cc.getD i []) := by
    refine Blk.flat (heap_alloc_new w _) (.inl rfl) (by rw [f2]; simp) (Nat.le_refl n) (fun i hi => ?_) (fun i j p hi hp => ?_)
    · have : cc[i]? = some cc[i] := List.getElem?_eq_getElem (by omega)
      simp only [List.getD_eq_getElem?_getD, this, Option.getD_some]
      exact h4 _ (List.getElem_mem _)
    · have hc : cc[i]? = some cc[i] := List.getElem?_eq_getElem (by omega)
      simp only [List.getD_eq_getElem?_getD, hc, Option.getD_some] at hp
      obtain ⟨v, a, b⟩ := c2 i _ hc
      obtain ⟨u, q1, q2, q3⟩ := b.at_ hp
      have hj : j < (tyD P t).es := by have := h4 _ (List.mem_of_getElem? hc); rw [← this]; exact (List.getElem?_eq_some_iff.1 hp).1
      have := f4 i v a j hj
      rw [Nat.zero_add] at this
      exact ⟨u, this.trans q1, q2, q3.move (fun _ _ => ⟨rfl, rfl⟩) (fun _ h => h) (fun _ h => h) (fun k hk => alloc_old w _ (hm.lt k hk))⟩
  refine ⟨.slice (some ⟨w.heap.size, 0, none⟩) n n, w.alloc (.cells cur el), ?_, new_row (w' := w.alloc (.cells cur el)) fr hm none rfl rfl rfl (by simp) (fun k hk => .inl (by omega)) (fun k hk _ => alloc_old w _ hk) hblk ?_ hpos K hK⟩
  · by_cases h0 : n * (tyD P t).es = 0
    · simp only [if_pos h0] at f1
      have hr0 : Array.range 0 = #[] := rfl
      simp only [h0, hr0, Array.map_empty] at f1
      simp [execOp, ho, Instr.buildSlice, run_underlying hu, sizeOf, typeInfo, hi0, hs, h0, newRow, hr0, f1]
    · simp only [if_neg h0] at f1
      simp [execOp, ho, Instr.buildSlice, run_underlying hu, sizeOf, typeInfo, hi0, hs, h0, newRow, zeroValue, hz0, hlim, f1]
  · have : n * 1 ≤ n * (tyD P t).es := Nat.mul_le_mul_left _ hpos
    omega
theorem o_makeSlice {t : TypeId} {lx cx : Operand} {kl kc : IntKind} {l c : Int} (ho : o.op = .makeSlice t lx cx) (hl : e lx = .int kl l) (hc : e cx = .int kc c) (h1 : (tyD P t).eok = true) (h2 : 0 ≤ l) (h3 : l ≤ c) (h4 : c * (tyD P t).eb ≤ 140737488355328)
    (K : PV → Mem → Prop) (hK : K (.sl [m.nx] (tyD P t).es l.toNat 0 l.toNat) (m.grow none (.row (tyD P t).es l.toNat (fun _ => (tyD P t).ez)))) : ∃ v w', (execOp ρ o).run P w = .ok (.value v) w' ∧ Left w S D m β κ A K v w' := by
  obtain ⟨el, i0, z, hu, hi0, hz0, hs, hby, hzs, hz1, hpos, hez, hbp⟩ := el_of h1
  have vl := he lx; rw [hl] at vl
  have vc := he cx; rw [hc] at vc
  obtain ⟨n, rfl⟩ := Int.eq_ofNat_of_zero_le (show 0 ≤ c by omega)
  have hle : n * 1 ≤ n * (tyD P t).eb := Nat.mul_le_mul_left _ hbp
  have hq : ((n * (tyD P t).eb : Nat) : Int) ≤ 140737488355328 := by rw [Int.natCast_mul]; exact h4
  have hn47 : n ≤ 140737488355328 := by
    generalize n * (tyD P t).eb = q at hle hq
    omega
  have hr := run_make (P := P) w t el i0 z hu hi0 hz0 kl kc l n h2 h3 (by rw [hby, Int.mul_comm]; exact Int.le_trans h4 (by decide)) (by omega)
  simp only [Int.ofNat_eq_natCast, Int.toNat_natCast] at hr vc
  have hblk : Blk β κ D (w.alloc (.cells (madeCells z.cells (n * i0.size)) el)) S (fun k => k = w.heap.size) w.heap.size (tyD P t).es l.toNat n (fun _ => (tyD P t).ez) := by
    refine Blk.flat (heap_alloc_new w _) (.inl rfl) (by rw [size_madeCells, hs]) (by omega) (fun i hi => by rw [hez]; simp [hzs]) (fun i j p hi hp => ?_)
    rw [hez, List.getElem?_map] at hp
    obtain ⟨v, hv, rfl⟩ := Option.map_eq_some_iff.1 hp
    have hj : j < (tyD P t).es := by rw [← hzs]; simpa using (List.getElem?_eq_some_iff.1 hv).1
    have hlt : i * (tyD P t).es + j < n * (tyD P t).es := by
      have : (i + 1) * (tyD P t).es ≤ n * (tyD P t).es := Nat.mul_le_mul_right _ (by omega)
      rw [Nat.succ_mul] at this; omega
    have hmod : (i * (tyD P t).es + j) % (tyD P t).es = j := by rw [Nat.add_comm, Nat.add_mul_mod_self_right, Nat.mod_eq_of_lt hj]
    refine ⟨v, ?_, hz1 v (List.mem_of_getElem? hv), ofVal_ok⟩
    have hv' : z.cells[j]? = some v := by simpa using hv
    simp only [madeCells, hs, Array.getElem?_map, Array.getElem?_range, hlt, if_true, Option.map_some, Option.some.injEq, hzs, hmod]
    rw [getElem!_def, hv']
  exact ⟨_, _, by simp only [execOp, ho, vl.int_inv.1, vc.int_inv.1]; simp only [Sem.run_bind, hr]; rfl, new_row (w' := w.alloc (.cells (madeCells z.cells (n * i0.size)) el)) fr hm none rfl rfl rfl (by simp) (fun k hk => .inl (by omega)) (fun k hk _ => alloc_old w _ hk) hblk (by omega) hpos K hK⟩
/-- A string's bytes, in a row of one's own. -/
theorem o_toBytes {s d : TypeId} {x : Operand} {b : ByteArray} (ho : o.op = .convert s d x) (hx : e x = .str b) (h1 : tkU8 P d) (h2 : tk P s = .string) (h3 : (tyD P d).eok = true) (h4 : (tyD P d).es = 1)
    (K : PV → Mem → Prop) (hK : K (.sl [m.nx] 1 b.size 0 b.size) (m.grow none (.row 1 b.size (fun i => [.int .u8 (bt b i)])))) : ∃ v w', (execOp ρ o).run P w = .ok (.value v) w' ∧ Left w S D m β κ A K v w' := by
  obtain ⟨e', hd, he'⟩ := tkU8_spec h1
  have hv := he x; rw [hx] at hv
  obtain ⟨e1, hb⟩ := hv.str_inv
  have hs := tk_string h2
  have hr := Go.Lib.run_convert_string_bytes (P := P) w s d e' b hs hd he'
  have hsz := Go.Lib.bytesWorld_size w e' b
  have hcs : (Go.Lib.bytesCells w e' b).size = grownCap w b.size 0 e' := by
    have := grownCap_ge w b.size 0 e'
    have : b.data.size = b.size := rfl
    simp [Go.Lib.bytesCells]; omega
  have hblk : Blk β κ D (Go.Lib.bytesWorld w e' b) S (fun k => k = w.heap.size) w.heap.size 1 b.size (grownCap w b.size 0 e') (fun i => [.int .u8 (bt b i)]) := by
    refine Blk.flat (Go.Lib.bytesWorld_at_new w e' b) (.inr (Nat.le_refl _)) (by rw [hcs, Nat.mul_one]) (grownCap_ge w b.size 0 e') (fun _ _ => rfl) (fun i j p hi hp => ?_)
    cases j with
    | succ j => simp at hp
    | zero =>
      simp only [List.getElem?_cons_zero, Option.some.injEq] at hp
      subst hp
      have hi' : i < b.data.size := hi
      have e0 : bt b i = ((b[i]'hi).toNat : Int) := by simp [bt, hi]
      refine ⟨.int .u8 (bt b i), ?_, rfl, .int_mk ?_⟩
      · rw [Nat.mul_one, Nat.add_zero, e0]
        rw [Go.Lib.bytesCells, Array.getElem?_append_left (by simpa using hi'), Array.getElem?_map, Array.getElem?_eq_getElem hi']
        rfl
      · rw [e0, show IntKind.u8.min = 0 from rfl, show IntKind.u8.max = 255 from rfl]
        have := (b[i]'hi).toNat_lt
        omega
  refine ⟨_, _, by simp only [execOp, ho, e1, Sem.run_bind, hr]; rfl, new_row (w' := Go.Lib.bytesWorld w e' b) fr hm none rfl rfl rfl (by omega) (fun k hk => .inl (by omega)) (fun k hk _ => Go.Lib.bytesWorld_at_old w e' b k hk) hblk ?_ Nat.one_pos K hK⟩
  have := grownCap_le_maxLen w b.size 0 e' (by unfold maxLen; omega)
  unfold maxLen at this; omega
end
/-- Bytes told to be bytes: the run-time marks the block. -/
theorem o_bytesSelf {P : Program} {β κ : Id → Nat} {A : Id → Nat → Prop} {w : World} {S : Nat → Prop} {m : Mem} {D : Id → Prop} {e : Operand → PV} {ρ : Operand → Value} {o : Oper} (hm : MRD w S D m β κ A) (he : ∀ x, OV β κ D w S (ρ x) (e x)) {t : TypeId} {x : Operand} {i : Id} {n off len : Nat} {g : Nat → List PV} (ho : o.op = .convert t t x) (hx : e x = .sl i 1 n off len) (h1 : tkU8 P t) (hb : m.o i = some (.row 1 n g)) (hl : 0 < len) (hu : rowU8 n g)
    (K : PV → Mem → Prop) (hK : K (.sl i 1 n off len) (m.set i (.row 1 n g))) : ∃ v w', (execOp ρ o).run P w = .ok (.value v) w' ∧ Left w S D m β κ A K v w' := by
  obtain ⟨e', hd, he'⟩ := tkU8_spec h1
  have hv := he x; rw [hx] at hv
  obtain ⟨A', c, e1, hxx, hlc, hn, hkk, hc, hA⟩ := hv.sl_inv
  have hA' := hA (by omega)
  rcases hm.ob i _ hb with ⟨h0, _, _⟩ | ⟨k0, k1, _, hblk⟩
  · omega
  obtain ⟨cur, el, fz, F, hh, hz, hs, hnn, hll, hF, hcell⟩ := hblk
  obtain ⟨lo, hi⟩ := fz
  have hlt : β i < w.heap.size := by
    rcases Nat.lt_or_ge (β i) w.heap.size with h | h
    · exact h
    · rw [Array.getElem?_eq_none h] at hh; cases hh
  have hat : (w.freeze ⟨β i, cur.size, none⟩ 1).heap[β i]? = some (.cells cur el (if lo == hi then (cur.size, cur.size + 1) else (min lo cur.size, max hi (cur.size + 1)))) := by
    unfold World.freeze
    rw [if_neg (by decide)]
    simp only [Array.getElem?_modify, if_true, hh, Option.map_some]
  have hold : ∀ k, k ≠ β i → (w.freeze ⟨β i, cur.size, none⟩ 1).heap[k]? = w.heap[k]? := fun k hk => by
    unfold World.freeze
    rw [if_neg (by decide)]
    simp only [Array.getElem?_modify, if_neg (Ne.symm hk)]
  have hsz : (w.freeze ⟨β i, cur.size, none⟩ 1).heap.size = w.heap.size := by
    unfold World.freeze
    rw [if_neg (by decide)]
    simp
  have hsh : w.shape? (β i) = some (el, cur.size) := by unfold World.shape?; rw [hh]
  have hr : (execOp ρ o).run P w = .ok (.value (ρ x)) (w.freeze ⟨β i, cur.size, none⟩ 1) := by
    simp [execOp, ho, e1, hA', convert, run_underlying hd, run_underlying he', markStringish, hsh]
  have hfz : fzOk (if lo == hi then (cur.size, cur.size + 1) else (min lo cur.size, max hi (cur.size + 1))) cur.size := by
    rcases hz with h | h
    · cases h; exact .inr (Nat.le_refl _)
    · simp only at h
      split
      · exact .inr (Nat.le_refl _)
      · exact .inr (by simp only; omega)
  have hnS : ¬ S (β i) := hm.ns i _ _ hb ((hF.eq _).2 (.inl rfl))
  have hB : Blk β κ D (w.freeze ⟨β i, cur.size, none⟩ 1) S (fun k => k = β i) (β i) 1 n (κ i) g := by
    refine Blk.flat hat hfz hs hnn hll (fun a j p ha hp => ?_)
    obtain ⟨y, hy⟩ := hu a ha
    rw [hy] at hp
    cases j with
    | succ j => simp at hp
    | zero =>
      simp only [List.getElem?_cons_zero, Option.some.injEq] at hp
      subst hp
      obtain ⟨q1, q2⟩ := hcell a 0 (.int .u8 y) ha (by rw [hy]; rfl)
      have hlt2 : a * 1 + 0 < cur.size := by omega
      obtain ⟨u, eu⟩ : ∃ u, cur[a * 1 + 0]? = some u := ⟨_, Array.getElem?_eq_getElem hlt2⟩
      have eq : cur.getD (a * 1 + 0) undef = u := by rw [Array.getD_eq_getD_getElem?, eu]; rfl
      rw [eq] at q1 q2
      refine ⟨u, eu, q1, ?_⟩
      rcases q2 with ⟨q, _⟩ | q
      · have := q.int_inv; rw [this.1]; exact .int_mk this.2
      · cases q with
        | rv _ _ _ h _ => have := (OV.rv (β := β) (κ := κ) (D := D) _ _ h).int_inv; rw [this.1]; exact .int_mk this.2
  obtain ⟨p1, p2⟩ := hm.put (x' := .row 1 n g) (B := fun k => k = β i) hb (w' := w.freeze ⟨β i, cur.size, none⟩ 1) (by unfold World.freeze; rw [if_neg (by decide)]) (by unfold World.freeze; rw [if_neg (by decide)]) (by unfold World.freeze; rw [if_neg (by decide)]) hsz
    (fun k hk => (hF.eq k).2 (.inl hk)) (fun k hk => hold k (fun e => hk ((hF.eq k).2 (.inl e)))) (.inr ⟨k0, k1, Nat.one_pos, hB⟩)
  exact ⟨_, _, hr, _, _, _, _, _, _, _, hK, p1, p2, by rw [e1]; exact .sl _ _ _ _ _ _ _ hxx hlc hn hkk hc hA, dsame⟩
end Go.Proofs.YtppfogbgbpadiaaW.AW
namespace Go.Proofs.YtppfogbgbpadiaaW.AW
open Go Go.RowKit
set_option linter.unusedVariables false
set_option linter.unusedSimpArgs false
section
variable {P : Program} {β κ : Id → Nat} {A : Id → Nat → Prop} {w : World} {S : Nat → Prop} {m : Mem} {D : Id → Prop} {e : Operand → PV} {ρ : Operand → Value} {o : Oper} {cs : List Bool}
theorem clo1_rv {D : Id → Prop} {v : Value} {p : PV} (h : OV β κ D w S v p) (hc : p.clo1 = true) : RV w S v p := by
  cases h with
  | rv _ _ h => exact h
  | _ => cases hc
theorem clo_rv {D : Id → Prop} {v : Value} {p : PV} (h : OV β κ D w S v p) (hc : p.clo = true) : RV w S v p := by
  cases h with
  | rv _ _ h => exact h
  | ag vs ps hl h1 hv =>
    refine .ag vs ps hl h1 (fun j p hp => clo1_rv (hv j p hp) ?_)
    exact List.all_eq_true.1 (show ps.all PV.clo1 = true from hc) p (List.mem_of_getElem? hp)
  | _ => cases hc
theorem o_makeMap (fr : Fr D m.nx) (hm : MRD w S D m β κ A) {t : TypeId} {r : Option Operand} (ho : o.op = .makeMap t r) (he : ∀ x, OV β κ D w S (ρ x) (e x)) (h1 : match (tyD P t).k with | .map _ _ => True | _ => False) (h2 : hintOk e r)
    (K : PV → Mem → Prop) (hK : K (.mp [m.nx]) (m.grow none (.map (fun _ => none)))) : ∃ v w', (execOp ρ o).run P w = .ok (.value v) w' ∧ Left w S D m β κ A K v w' := by
  have eβ : upd β [m.nx] w.heap.size [m.nx] = w.heap.size := by simp [upd]
  obtain ⟨g1, g2⟩ := hm.grow fr none (x := .map (fun _ => none)) (g := w.heap.size) (K := 0) (w' := w.alloc (.map #[] 0)) (B := fun k => k = w.heap.size) rfl rfl rfl (by simp) (fun k hk => .inl (by omega)) (fun k hk _ => alloc_old w _ hk)
    ⟨fun k => by rw [eβ], #[], 0, by rw [eβ]; exact heap_alloc_new w _, ⟨MapKept.stamped_empty 0, fun e he => by simp at he, fun k p h => by cases h⟩⟩
  have hu : ∃ kt et, P.underlying t = some (.map kt et) := by
    have : (tyD P t).k = tk P t := rfl
    rw [this] at h1
    split at h1
    · rename_i kt et hk; exact ⟨kt, et, tk_map hk⟩
    · exact h1.elim
  obtain ⟨kt, et, hu⟩ := hu
  refine ⟨.map (some w.heap.size), w.alloc (.map #[] 0), ?_, _, _, _, _, _, _, _, hK, g1, g2, ?_, fun _ => Iff.rfl⟩
  · cases r with
    | none => simp [execOp, ho, Instr.makeMap]
    | some x =>
      have hx := he x
      simp only [hintOk] at h2
      split at h2
      · rename_i k n hq
        rw [hq] at hx
        simp [execOp, ho, Instr.makeMap, run_underlying hu, hx.int_inv.1, asInt, asIntOf]
      · exact h2.elim
  · have := OV.mp (β := upd β [m.nx] w.heap.size) (κ := upd κ [m.nx] 0) (D := gdN D m.nx) (w := w.alloc (.map #[] 0)) (S := S) [m.nx] (gd_new _)
    rwa [eβ] at this
theorem put_map (hm : MRD w S D m β κ A) {q : Id} {f f' : Int → Option PV} (h : m.o q = some (.map f)) {ents ents' : Array MapEntry} {clock clock' : Nat} (hh : w.heap[β q]? = some (.map ents clock)) (hE : Ents w S ents' clock' f') {K : PV → Mem → Prop} {r : PV} {v : Value} (hK : K r (m.set q (.map f'))) (hv : r = .und ∨ (r = .tu [] ∧ v = .tuple #[])) :
    Left w S D m β κ A K v { w with heap := w.heap.setIfInBounds (β q) (.map ents' clock') } := by
  obtain ⟨hA, _⟩ := hm.ob q _ h
  have hq : A q (β q) := (hA _).2 rfl
  obtain ⟨s1, s2⟩ := MapKept.heap_set (o' := .map ents' clock') hh
  have hS : ∀ k, S k → ({ w with heap := w.heap.setIfInBounds (β q) (.map ents' clock') } : World).heap[k]? = w.heap[k]? := fun k hk => s2 k (fun e => hm.ns q _ _ h hq (e ▸ hk))
  obtain ⟨p1, p2⟩ := hm.put (x' := .map f') (B := A q) h (w' := { w with heap := w.heap.setIfInBounds (β q) (.map ents' clock') }) rfl rfl rfl (by simp) (fun k hk => hk) (fun k hk => s2 k (fun e => hk (e ▸ hq))) ⟨hA, ents', clock', s1, hE.move (fun _ h => h) hS⟩
  refine ⟨r, _, _, _, _, _, _, hK, p1, p2, ?_, dsame⟩
  rcases hv with rfl | ⟨rfl, rfl⟩
  · exact .rv _ _ (.und _)
  · exact .tu _ _ rfl (fun j p hp => by simp at hp)
theorem mem_modify {es : Array MapEntry} {i : Nat} {g : MapEntry → MapEntry} {x : MapEntry} (h : x ∈ (es.modify i g).toList) : (∃ y, es.toList[i]? = some y ∧ x = g y) ∨ ∃ j, j ≠ i ∧ es.toList[j]? = some x := by
  obtain ⟨j, hj⟩ := List.getElem?_of_mem h
  rw [Array.getElem?_toList, Array.getElem?_modify] at hj
  by_cases e : i = j
  · subst e
    rw [if_pos rfl] at hj
    obtain ⟨y, hy, rfl⟩ := Option.map_eq_some_iff.1 hj
    exact .inl ⟨y, by simpa using hy, rfl⟩
  · rw [if_neg e] at hj
    exact .inr ⟨j, Ne.symm e, by simpa using hj⟩
theorem stamped_ne {es : Array MapEntry} {clock : Nat} (h : MapKept.Stamped es clock) {i j : Nat} {x y : MapEntry} (hi : es.toList[i]? = some x) (hj : es.toList[j]? = some y) (e : x.key = y.key) : i = j := by
  have hn := h.2.2
  have h1 : (es.toList.map (·.key))[i]? = some x.key := by rw [List.getElem?_map, hi]; rfl
  have h2 : (es.toList.map (·.key))[j]? = some y.key := by rw [List.getElem?_map, hj]; rfl
  rw [e] at h1
  exact (List.getElem?_inj (List.getElem?_eq_some_iff.1 h1).1 hn).1 (h1.trans h2.symm)
theorem o_mapUpdate (hm : MRD w S D m β κ A) (he : ∀ x, OV β κ D w S (ρ x) (e x)) {t : TypeId} {x k v : Operand} {q : Id} {i : Int} {f : Int → Option PV} (ho : o.op = .mapUpdate t x k v) (hx : e x = .mp q) (hk : e k = .int .i64 i) (hq : m.o q = some (.map f)) (ht : match (tyD P t).k with | .map kt _ => tk P kt = .int .i64 | _ => False) (hc : (e v).clo = true)
    (K : PV → Mem → Prop) (hK : K .und (m.set q (.map (upd f i (some (e v)))))) : ∃ w', (execOp ρ o).run P w = .ok .skip w' ∧ Left w S D m β κ A K undef w' := by
  have vx := he x; rw [hx] at vx
  have vk := he k; rw [hk] at vk
  obtain ⟨e1, _⟩ := vx.mp_inv
  obtain ⟨e2, hi⟩ := vk.int_inv
  have rv := clo_rv (he v) hc
  have hkk : (tyD P t).k = tk P t := rfl
  rw [hkk] at ht
  split at ht
  · rename_i kt et hkt
    have hu := tk_map hkt
    have hku := tk_int ht
    obtain ⟨_, ents, clock, a1, a2⟩ := hm.ob _ _ hq
    have hck : (Instr.checkKey false 10000 kt (.int .i64 i)).run P w = .ok () w := MapKept.run_checkKey hku (k := .int .i64 i) rfl _ 9999
    rcases a2.find i with ⟨b1, b2, b3⟩ | ⟨j, e', p, b1, b2, b3, b4, b5⟩
    · have hr : (Instr.mapUpdate t (.map (some (β q))) (.int .i64 i) (ρ v)).run P w = .ok () { w with heap := w.heap.setIfInBounds (β q) (.map (ents.push { key := .int .i64 i, val := ρ v, born := clock }) (clock + 1)) } := by
        simp [Instr.mapUpdate, run_underlying hu, MapKept.run_getObj_map a1, hck, MapKept.run_findKey hku b1, MapKept.run_setObj_map _ a1]
      refine ⟨_, by simp only [execOp, ho, e1, e2, Sem.run_bind, hr]; rfl, put_map hm hq a1 (f' := upd f i (some (e v))) ⟨MapKept.stamped_push a2.st b3, fun x hx => ?_, fun k p hp => ?_⟩ hK (.inl rfl)⟩
      · simp only [Array.toList_push, List.mem_append, List.mem_singleton] at hx
        rcases hx with hx | rfl
        · obtain ⟨k', p', c1, c2, c3, c4⟩ := a2.key x hx
          refine ⟨k', p', c1, c2, ?_, c4⟩
          unfold upd; rw [if_neg (fun e => b3 x hx (by rw [c1, e]))]; exact c3
        · exact ⟨i, e v, rfl, hi, by simp [upd], rv⟩
      · by_cases ek : k = i
        · subst ek; exact ⟨{ key := .int .i64 k, val := ρ v, born := clock }, by simp, rfl⟩
        · simp only [upd, if_neg ek] at hp
          obtain ⟨x, hx, hxk⟩ := a2.all k p hp
          exact ⟨x, by simp [hx], hxk⟩
    · have hj : ents[j]? = some e' := by simpa using b2
      have hr : (Instr.mapUpdate t (.map (some (β q))) (.int .i64 i) (ρ v)).run P w = .ok () { w with heap := w.heap.setIfInBounds (β q) (.map (ents.modify j fun e => { e with key := .int .i64 i, val := ρ v }) clock) } := by
        simp [Instr.mapUpdate, run_underlying hu, MapKept.run_getObj_map a1, hck, MapKept.run_findKey hku b1, MapKept.run_setObj_map _ a1, hj, b3, MapKept.run_keyThatStays (d := .int .i64) (k := .int .i64 i) rfl]
      have hkey : ∀ e0, ents[j]? = some e0 → ({ e0 with key := .int .i64 i, val := ρ v } : MapEntry).key = e0.key := fun e0 h0 => by rw [hj] at h0; cases h0; exact b3.symm
      refine ⟨_, by simp only [execOp, ho, e1, e2, Sem.run_bind, hr]; rfl, put_map hm hq a1 (f' := upd f i (some (e v))) ⟨MapKept.stamped_modify a2.st j (fun e => { e with key := .int .i64 i, val := ρ v }) (fun _ _ => rfl) (fun e0 _ h0 => hkey e0 h0), fun x hx => ?_, fun k p hp => ?_⟩ hK (.inl rfl)⟩
      · rcases mem_modify hx with ⟨y, _, rfl⟩ | ⟨j', hne, hj'⟩
        · exact ⟨i, e v, rfl, hi, by simp [upd], rv⟩
        · obtain ⟨k', p', c1, c2, c3, c4⟩ := a2.key x (List.mem_of_getElem? hj')
          refine ⟨k', p', c1, c2, ?_, c4⟩
          unfold upd; rw [if_neg (fun e => hne (stamped_ne a2.st hj' b2 (by rw [c1, e, b3])))]; exact c3
      · by_cases ek : k = i
        · subst ek
          refine ⟨{ e' with key := .int .i64 k, val := ρ v }, ?_, rfl⟩
          have : (ents.modify j fun e => { e with key := .int .i64 k, val := ρ v })[j]? = some { e' with key := .int .i64 k, val := ρ v } := by rw [Array.getElem?_modify, if_pos rfl, hj]; rfl
          exact Array.mem_toList_iff.2 (Array.mem_of_getElem? this)
        · simp only [upd, if_neg ek] at hp
          obtain ⟨x, hx, hxk⟩ := a2.all k p hp
          obtain ⟨j', hj'⟩ := List.getElem?_of_mem hx
          have hne : j ≠ j' := fun e => by subst e; rw [b2] at hj'; cases hj'; rw [b3] at hxk; cases hxk; exact ek rfl
          refine ⟨x, ?_, hxk⟩
          have : (ents.modify j fun e => { e with key := .int .i64 i, val := ρ v })[j']? = some x := by rw [Array.getElem?_modify, if_neg hne]; simpa using hj'
          exact Array.mem_toList_iff.2 (Array.mem_of_getElem? this)
  · exact ht.elim
theorem o_delete (hm : MRD w S D m β κ A) {t t' : TypeId} {ty : TypeId} {vx vk : Value} {q : Id} {i : Int} {f : Int → Option PV} {ts : List TypeId} (hx : OV β κ D w S vx (.mp q)) (hk : OV β κ D w S vk (.int .i64 i)) (hq : m.o q = some (.map f)) (ht : match (tyD P t).k with | .map kt _ => tk P kt = .int .i64 | _ => False)
    (K : PV → Mem → Prop) (hK : K (.tu []) (m.set q (.map (upd f i none)))) : ∃ v w', (Builtin.delete_ (t :: ts).toArray ty #[vx, vk]).run P w = .ok v w' ∧ Left w S D m β κ A K v w' := by
  obtain ⟨e1, _⟩ := hx.mp_inv
  obtain ⟨e2, hi⟩ := hk.int_inv
  have hkk : (tyD P t).k = tk P t := rfl
  rw [hkk] at ht
  split at ht
  · rename_i kt et hkt
    have hu := tk_map hkt
    have hku := tk_int ht
    obtain ⟨_, ents, clock, a1, a2⟩ := hm.ob _ _ hq
    have hck : (Instr.checkKey ents.isEmpty 10000 kt (.int .i64 i)).run P w = .ok () w := MapKept.run_checkKey hku (k := .int .i64 i) rfl _ 9999
    rw [e1, e2]
    rcases a2.find i with ⟨b1, b2, b3⟩ | ⟨j, e', p, b1, b2, b3, b4, b5⟩
    · refine ⟨_, _, by simp [Builtin.delete_, run_underlying hu, MapKept.run_getObj_map a1, hck, MapKept.run_findKey hku b1, MapKept.run_setObj_map _ a1], put_map hm hq a1 (f' := upd f i none) ⟨a2.st, fun x hx => ?_, fun k p hp => ?_⟩ hK (.inr ⟨rfl, rfl⟩)⟩
      · obtain ⟨k', p', c1, c2, c3, c4⟩ := a2.key x hx
        refine ⟨k', p', c1, c2, ?_, c4⟩
        unfold upd; rw [if_neg (fun e => b3 x hx (by rw [c1, e]))]; exact c3
      · by_cases ek : k = i
        · subst ek; simp [upd] at hp
        · simp only [upd, if_neg ek] at hp; exact a2.all k p hp
    · have hj : j < ents.size := by have := (List.getElem?_eq_some_iff.1 b2).1; simpa using this
      have er : (ents.eraseIdxIfInBounds j).toList = ents.toList.eraseIdx j := by simp [Array.eraseIdxIfInBounds, hj]
      refine ⟨_, _, by simp [Builtin.delete_, run_underlying hu, MapKept.run_getObj_map a1, hck, MapKept.run_findKey hku b1, MapKept.run_setObj_map _ a1], put_map hm hq a1 (f' := upd f i none) ⟨MapKept.stamped_erase a2.st j, fun x hx => ?_, fun k p hp => ?_⟩ hK (.inr ⟨rfl, rfl⟩)⟩
      · rw [er] at hx
        obtain ⟨j', hj', hne⟩ := (List.mem_eraseIdx_iff_getElem?.1 hx)
        obtain ⟨k', p', c1, c2, c3, c4⟩ := a2.key x (List.mem_of_getElem? hne)
        refine ⟨k', p', c1, c2, ?_, c4⟩
        unfold upd; rw [if_neg (fun e => hj' (stamped_ne a2.st hne b2 (by rw [c1, e, b3])))]; exact c3
      · by_cases ek : k = i
        · subst ek; simp [upd] at hp
        · simp only [upd, if_neg ek] at hp
          obtain ⟨x, hx, hxk⟩ := a2.all k p hp
          obtain ⟨j', hj'⟩ := List.getElem?_of_mem hx
          refine ⟨x, ?_, hxk⟩
          rw [er, List.mem_eraseIdx_iff_getElem?]
          exact ⟨j', fun e => by subst e; rw [b2] at hj'; cases hj'; rw [b3] at hxk; cases hxk; exact ek rfl, hj'⟩
  · exact ht.elim
end
end Go.Proofs.YtppfogbgbpadiaaW.AW
namespace Go.Proofs.YtppfogbgbpadiaaW.AW
open Go Go.RowKit
set_option linter.unusedVariables false
set_option linter.unusedSimpArgs false
section
variable {P : Program} {β κ : Id → Nat} {A : Id → Nat → Prop} {w : World} {S : Nat → Prop} {m : Mem} {e : Operand → PV} {ρ : Operand → Value} {o : Oper} {cs : List Bool} {D : Id → Prop}
/-- Elements of so many cells each, one behind the other: values at which the cells read. -/
def News (β κ : Id → Nat) (D : Id → Prop) (w : World) (S : Nat → Prop) (k es : Nat) (gs : Nat → List PV) (news : List Value) : Prop :=
  news.length = k * es ∧ (∀ u ∈ news, u.oneCell' = true) ∧ (∀ i, i < k → (gs i).length = es) ∧ ∀ i j p, i < k → (gs i)[j]? = some p → ∃ u, news[i * es + j]? = some u ∧ u.oneCell' = true ∧ OV β κ D w S u p
theorem News.none {es : Nat} {gs : Nat → List PV} : News β κ D w S 0 es gs [] := ⟨by simp, fun u hu => by simp at hu, fun i hi => absurd hi (Nat.not_lt_zero i), fun i j p hi => absurd hi (Nat.not_lt_zero i)⟩
theorem news_of {a : Addr} {k es : Nat} {gs : Nat → List PV} (h0 : 0 < es) (h : ∀ i, i < k → (gs i).length = es ∧ ∀ j p, (gs i)[j]? = some p → ∃ u, w.cell? (a.add (i * es + j)) = some u ∧ u.oneCell' = true ∧ OV β κ D w S u p) :
    ∃ news, News β κ D w S k es gs news ∧ ∀ j u, news[j]? = some u → w.cell? (a.add j) = some u := by
  have at_ : ∀ x, x < k * es → ∃ u, w.cell? (a.add x) = some u ∧ u.oneCell' = true := fun x hx => by
    have hi : x / es < k := Nat.div_lt_of_lt_mul (by rwa [Nat.mul_comm] at hx)
    obtain ⟨hl, hc⟩ := h _ hi
    have hj : x % es < (gs (x / es)).length := by rw [hl]; exact Nat.mod_lt _ h0
    obtain ⟨u, h1, h2, _⟩ := hc _ _ (List.getElem?_eq_getElem hj)
    have e : x / es * es + x % es = x := by rw [Nat.mul_comm]; exact Nat.div_add_mod _ _
    exact ⟨u, e ▸ h1, h2⟩
  have get_ : ∀ x, x < k * es → ((List.range (k * es)).map (fun x => (w.cell? (a.add x)).getD undef))[x]? = some ((w.cell? (a.add x)).getD undef) := fun x hx => by simp [hx]
  refine ⟨(List.range (k * es)).map (fun x => (w.cell? (a.add x)).getD undef), ⟨by simp, fun u hu => ?_, fun i hi => (h i hi).1, fun i j p hi hp => ?_⟩, fun j u hu => ?_⟩
  · obtain ⟨x, hx, rfl⟩ := List.mem_map.1 hu
    obtain ⟨u, h1, h2⟩ := at_ x (by simpa using hx)
    rw [h1]; exact h2
  · obtain ⟨hl, hc⟩ := h i hi
    obtain ⟨u, h1, h2, h3⟩ := hc j p hp
    have hj : j < es := by rw [← hl]; exact (List.getElem?_eq_some_iff.1 hp).1
    have hlt : i * es + j < k * es := by
      have : (i + 1) * es ≤ k * es := Nat.mul_le_mul_right _ hi
      rw [Nat.succ_mul] at this; omega
    exact ⟨u, by rw [get_ _ hlt, h1]; rfl, h2, h3⟩
  · have hx : j < k * es := by simpa using (List.getElem?_eq_some_iff.1 hu).1
    rw [get_ j hx] at hu
    obtain ⟨v, h1, _⟩ := at_ j hx
    rw [h1] at hu ⊢
    exact hu
theorem src_slice {t' : TypeId} {a : Addr} {n c es : Nat} {news : List Value} (hk : (∃ e', P.underlying t' = some (.slice e')) ∨ P.underlying t' = some .string) (hl : news.length = n * es) (h1 : ∀ u ∈ news, u.oneCell' = true) (hn : ∀ j u, news[j]? = some u → w.cell? (a.add j) = some u) :
    Src P es t' (.slice (some a) n c) n news w :=
  ⟨hk, fun _ => rfl, run_firstCells_some w es n a n c news hl hn, run_firstCells_some w.drew es n a n c news hl (by simpa using hn), hl, h1⟩
theorem src_none {t' : TypeId} {A : Option Addr} {c es : Nat} (hk : (∃ e', P.underlying t' = some (.slice e')) ∨ P.underlying t' = some .string) : Src P es t' (.slice A 0 c) 0 [] w := by
  cases A with
  | none => exact ⟨hk, fun _ => rfl, run_firstCells_none w es 0 0 c, run_firstCells_none w.drew es 0 0 c, by simp, fun _ h => by cases h⟩
  | some a => exact src_slice hk (by simp) (fun u hu => by cases hu) (fun j u hu => by simp at hu)
theorem src_ok (hm : MRD w S D m β κ A) {v : Value} {x : PV} {k sz es : Nat} {gs : Nat → List PV} {t' : TypeId} (hv : OV β κ D w S v x) (h : asrc m x = some (k, gs, sz)) (hfl : aflat m x) (hz : k = 0 ∨ sz = es) (h0 : 0 < es) (hk : (∃ e', P.underlying t' = some (.slice e')) ∨ P.underlying t' = some .string) :
    ∃ news, Src P es t' v k news w ∧ News β κ D w S k es gs news := by
  unfold asrc at h
  split at h
  · simp only [Option.some.injEq, Prod.mk.injEq] at h
    obtain ⟨rfl, rfl, rfl⟩ := h
    have e := hv.nils_inv; subst e
    exact ⟨[], src_none hk, News.none⟩
  · simp only [Option.some.injEq, Prod.mk.injEq] at h
    obtain ⟨rfl, rfl, rfl⟩ := h
    obtain ⟨A, c, rfl, hn, H⟩ := hv.cl_inv
    rename_i sz n g
    rcases Nat.eq_zero_or_pos n with rfl | hp
    · exact ⟨[], src_none hk, News.none⟩
    · obtain ⟨hc, a, rfl, hS, hg⟩ := H hp
      obtain rfl : sz = es := by rcases hz with hz | hz; omega; exact hz
      obtain ⟨news, h1, h2⟩ := news_of (β := β) (κ := κ) (D := D) (S := S) h0 (fun i hi => ⟨(hg i hi).1, fun j p hp => by obtain ⟨u, a1, a2, a3⟩ := (hg i hi).2 j p hp; exact ⟨u, a1, a2, .rv _ _ a3⟩⟩)
      exact ⟨news, src_slice hk h1.1 h1.2.1 h2, h1⟩
  · rename_i i sz0 n off len
    split at h
    · rename_i sz' n' g hb
      split at h
      · rename_i hq
        obtain ⟨rfl, rfl⟩ := hq
        simp only [Option.some.injEq, Prod.mk.injEq] at h
        obtain ⟨rfl, rfl, rfl⟩ := h
        obtain ⟨A, c, rfl, hx, hl, hn, hkk, hc, hA⟩ := hv.sl_inv
        rcases Nat.eq_zero_or_pos len with rfl | hp
        · exact ⟨[], src_none hk, News.none⟩
        · obtain rfl := hA (by omega)
          obtain rfl : sz' = es := by rcases hz with hz | hz; omega; exact hz
          simp only [aflat, hb] at hfl
          obtain ⟨news, h1, h2⟩ := news_of (a := ⟨β i, off * sz', none⟩) (k := len) (gs := fun i => g (off + i)) (β := β) (κ := κ) (D := D) (w := w) (S := S) h0 (fun j hj => ⟨by
            rcases hm.ob i _ hb with ⟨_, hz0, _⟩ | ⟨_, _, _, hblk⟩
            · omega
            · obtain ⟨_, _, _, _, _, _, _, _, h4, _⟩ := hblk
              exact h4 _ (by omega), fun q p hp => by
            obtain ⟨u, a1, a2, a3⟩ := row_cells hm hb (k := off + j) (by omega) 0 q p (by simpa using hp)
            have hp0 : p.isOw = false := by simpa using List.all_eq_true.1 (hfl j hj) p (List.mem_of_getElem? hp)
            refine ⟨u, ?_, a2, a3 hp0⟩
            rw [Addr.add_lit] at a1 ⊢
            rw [← a1]; congr 2; rw [Nat.add_mul]; omega⟩)
          exact ⟨news, src_slice hk h1.1 h1.2.1 h2, h1⟩
      · cases h
    · cases h
  · simp only [Option.some.injEq, Prod.mk.injEq] at h
    obtain ⟨rfl, rfl, rfl⟩ := h
    obtain ⟨e, hb⟩ := hv.str_inv
    subst e
    rename_i b
    by_cases hb0 : b.size = 0
    · refine ⟨[], ⟨hk, fun _ => rfl, ?_, ?_, by simp [hb0], fun _ h => by cases h⟩, by rw [hb0]; exact News.none⟩
      all_goals
        have hd : b.data = #[] := Array.eq_empty_of_size_eq_zero hb0
        simp [Builtin.firstCells, hd]
    · obtain rfl : 1 = es := by rcases hz with hz | hz; exact absurd hz hb0; exact hz
      refine ⟨byteCells b, ⟨hk, fun _ => rfl, firstCells_string b w, firstCells_string b w.drew, by rw [byteCells_length, Nat.mul_one], fun u hu => by
        obtain ⟨_, _, rfl⟩ := List.mem_map.1 hu; rfl⟩, by rw [byteCells_length, Nat.mul_one], fun u hu => by obtain ⟨_, _, rfl⟩ := List.mem_map.1 hu; rfl, fun i hi => rfl, fun i j p hi hp => ?_⟩
      cases j with
      | succ j => simp at hp
      | zero =>
        simp only [List.getElem?_cons_zero, Option.some.injEq] at hp
        subst hp
        have e1 : (byteCells b)[i * 1 + 0]? = some (.int .u8 (bt b i)) := by
          rw [Nat.mul_one, Nat.add_zero]
          have hi' : i < b.data.toList.length := by rw [Array.length_toList]; exact hi
          simp only [byteCells, List.getElem?_map, List.getElem?_eq_getElem hi', Option.map_some, Option.some.injEq]
          have : bt b i = ((b[i]'hi).toNat : Int) := by simp [bt, hi]
          rw [this]
          congr 2
        refine ⟨_, e1, rfl, .int_mk ?_⟩
        have : bt b i = ((b[i]'hi).toNat : Int) := by simp [bt, hi]
        rw [this, show IntKind.u8.min = 0 from rfl, show IntKind.u8.max = 255 from rfl]
        have := (b[i]'hi).toNat_lt
        omega
  · cases h
theorem append_room {t t' ty el : TypeId} {i : TypeInfo} (ht : P.underlying t = some (.slice el)) (hi : P.info? el = some i) {g sLen sCap n : Nat} {x : Value} {news : List Value} {cur : Array Value} {e' : TypeId} (hs : Src P i.size t' x n news w) {fz : Nat × Nat} (hg : w.heap[g]? = some (.cells cur e' fz)) (hzf : fzOk fz cur.size) (hroom : sLen + n ≤ sCap) (hfit : sLen * i.size + news.length ≤ cur.size) :
    (Builtin.append_ #[t, t'] ty #[.slice (some ⟨g, 0, none⟩) sLen sCap, x]).run P w = .ok (.slice (some ⟨g, 0, none⟩) (sLen + n) sCap) (w.setRow g (cur.toList.take (sLen * i.size) ++ news ++ cur.toList.drop (sLen * i.size + news.length)).toArray) := by
  have hst := run_stores (P := P) g (sLen * i.size) e' fz news 0 cur w hg hzf (by simpa using hfit) hs.one
  simp only [Nat.add_zero] at hst
  have ha : (⟨g, 0, none⟩ : Addr).add (sLen * i.size) = ⟨g, sLen * i.size, none⟩ := by rw [Addr.add_lit, Nat.zero_add]
  rcases hs.kind with ⟨e', hk⟩ | hk <;> simp only [Builtin.append_] <;> simp [run_underlying ht, run_underlying hk, sizeOf, typeInfo, hi, hs.len, hroom, hs.cells, ha, hst]
theorem append_zero {t t' ty el : TypeId} {i : TypeInfo} (ht : P.underlying t = some (.slice el)) (hi : P.info? el = some i) {A : Option Addr} {sCap : Nat} {x : Value} (hs : Src P i.size t' x 0 [] w) :
    (Builtin.append_ #[t, t'] ty #[.slice A 0 sCap, x]).run P w = .ok (.slice A 0 sCap) w := by
  rcases hs.kind with ⟨e', hk⟩ | hk <;> cases A <;> simp [Builtin.append_, run_underlying ht, run_underlying hk, sizeOf, typeInfo, hi, hs.len, hs.cells, storeCells]
/-- Cells of a row and new ones behind them. -/
theorem cat_blk {es len k cap : Nat} {b : Nat} {F : Nat → Nat → Nat → Prop} {B : Nat → Prop} {n : Nat} {g gs : Nat → List PV} {olds news : List Value} {w' : World} {cur' : Array Value} {e' : TypeId} {fz' : Nat × Nat} {gb : Nat} (h0 : 0 < es)
    (hF : Fp n es b F B) (hlen : len ≤ n) (ho : olds.length = len * es) (hgl : ∀ i, i < len → (g i).length = es)
    (hg : ∀ i j p, i < len → (g i)[j]? = some p → ∃ u, olds[i * es + j]? = some u ∧ u.oneCell' = true ∧ TV β κ D w' S (F i j) u p) (hn : News β κ D w' S k es gs news)
    (hh : w'.heap[gb]? = some (.cells cur' e' fz')) (hz : fzOk fz' cur'.size) (hs : cur'.size = cap * es) (hc : len + k ≤ cap) (hcur : ∃ rest, cur' = (olds ++ news ++ rest).toArray) (hgb : ∀ i j, ¬ F i j gb) :
    Blk β κ D w' S (fun x => x = gb ∨ ∃ i j, i < len ∧ F i j x) gb es (len + k) cap (fun i => if i < len then g i else gs (i - len)) := by
  obtain ⟨rest, rfl⟩ := hcur
  refine ⟨_, e', fz', fun i j x => i < len ∧ F i j x, hh, hz, hs, hc, fun i hi => ?_, ⟨fun i j h => hgb i j h.2, fun i j i' j' x a c => hF.dj i j i' j' x a.2 c.2, fun i j x h => ⟨by omega, (hF.dm i j x h.2).2⟩, fun x => Iff.rfl⟩, fun i j p hi hp => ?_⟩
  · show (if i < len then g i else gs (i - len)).length = es
    split
    · exact hgl i (by assumption)
    · exact hn.2.2.1 _ (by omega)
  · by_cases h : i < len
    · simp only [if_pos h] at hp
      obtain ⟨u, h1, h2, h3⟩ := hg i j p h hp
      have hlt := (List.getElem?_eq_some_iff.1 h1).1
      have : ((olds ++ news ++ rest).toArray).getD (i * es + j) undef = u := by
        simp only [Array.getD_eq_getD_getElem?, List.getElem?_toArray, List.append_assoc]
        rw [List.getElem?_append_left hlt, h1]; rfl
      rw [this]
      refine ⟨h2, ?_⟩
      have e1 : (fun x => i < len ∧ F i j x) = F i j := by funext x; simp [h]
      show TV β κ D w' S (fun x => i < len ∧ F i j x) u p
      rw [e1]; exact h3
    · simp only [if_neg h] at hp
      obtain ⟨u, h1, h2, h3⟩ := hn.2.2.2 (i - len) j p (by omega) hp
      have hlt := (List.getElem?_eq_some_iff.1 h1).1
      have e1 : i * es + j = len * es + ((i - len) * es + j) := by
        rw [← Nat.add_assoc, ← Nat.add_mul]; congr 2; omega
      have : ((olds ++ news ++ rest).toArray).getD (i * es + j) undef = u := by
        simp only [Array.getD_eq_getD_getElem?, List.getElem?_toArray, List.append_assoc]
        rw [List.getElem?_append_right (by rw [e1, ho]; omega), e1, ho, Nat.add_sub_cancel_left, List.getElem?_append_left hlt, h1]; rfl
      rw [this]
      exact ⟨h2, .inl ⟨h3, fun x hx => h hx.1⟩⟩
theorem News.move {k es : Nat} {gs : Nat → List PV} {news : List Value} {w' : World} (hS : ∀ x, S x → w'.heap[x]? = w.heap[x]?) (h : News β κ D w S k es gs news) : News β κ D w' S k es gs news :=
  ⟨h.1, h.2.1, h.2.2.1, fun i j p hi hp => by obtain ⟨u, a, b, c⟩ := h.2.2.2 i j p hi hp; exact ⟨u, a, b, c.move (fun _ _ => ⟨rfl, rfl⟩) (fun _ h => h) (fun _ h => h) hS⟩⟩
theorem none_blk {es k cap gb : Nat} {gs : Nat → List PV} {news : List Value} {w' : World} {cur' : Array Value} {e' : TypeId} {fz' : Nat × Nat} (h0 : 0 < es) (hn : News β κ D w' S k es gs news)
    (hh : w'.heap[gb]? = some (.cells cur' e' fz')) (hz : fzOk fz' cur'.size) (hs : cur'.size = cap * es) (hc : k ≤ cap) (hcur : ∃ rest, cur' = (news ++ rest).toArray) : Blk β κ D w' S (fun x => x = gb) gb es k cap gs := by
  obtain ⟨rest, rfl⟩ := hcur
  refine Blk.flat hh hz hs hc hn.2.2.1 (fun i j p hi hp => ?_)
  obtain ⟨u, h1, h2, h3⟩ := hn.2.2.2 i j p hi hp
  exact ⟨u, by simp only [List.getElem?_toArray]; rw [List.getElem?_append_left (List.getElem?_eq_some_iff.1 h1).1]; exact h1, h2, h3⟩
theorem o_append (hm : MRD w S D m β κ A) {t t' ty : TypeId} {vs vx : Value} {s x : PV} (hvs : OV β κ D w S vs s) (hvx : OV β κ D w S vx x) (hk : (∃ e', P.underlying t' = some (.slice e')) ∨ P.underlying t' = some .string) (K : PV → Mem → Prop) (fr : ∀ r m', K r m' → m'.nx = m.nx + 1 → Fr D m.nx) (h : aappend P t s x m K) :
    ∃ v w', (Builtin.append_ #[t, t'] ty #[vs, vx]).run P w = .ok v w' ∧ Left w S D m β κ A K v w' := by
  unfold aappend at h
  split at h
  · rename_i k gs sz hsrc
    split at h
    · -- onto nil
      obtain ⟨⟨h1, h2, h3⟩, hfl, hK⟩ := h
      obtain ⟨el, i0, z, hu, hi0, hz0, hs, hby, hzs, hz1, hpos, _, hbp⟩ := el_of h1
      obtain ⟨news, n1, n2⟩ := src_ok hm hvx hsrc hfl h2 hpos hk
      have e := hvs.nils_inv; subst e
      have hle : k * 1 ≤ k * (tyD P t).eb := Nat.mul_le_mul_left _ hbp
      rcases Nat.eq_zero_or_pos k with rfl | hp
      · have hnil : news = [] := List.eq_nil_of_length_eq_zero (by simpa using n2.1)
        subst hnil
        exact ⟨_, _, append_zero hu hi0 (by rw [hs]; exact n1), new_none (fr _ _ hK rfl) hm none K hK⟩
      · have hr := run_append_grow_src (P := P) w t t' ty el i0 z hu hi0 hz0 none 0 0 [] (by simp [Builtin.firstCells]) vx k news (by rw [hs]; exact n1) (by omega) (by omega) (Nat.le_trans (Nat.mul_le_mul_right _ (Nat.le_of_eq (nextslicecap_zero (by omega)))) (by rw [hby]; simpa using (Nat.le_trans h3 (by decide))))
        simp only [Nat.zero_add, List.nil_append] at hr
        have hge := grownCap_ge w k 0 el
        have hcm := grownCap_le_maxLen w k 0 el (by unfold maxLen; omega)
        have hS' : ∀ c : Array Value, ∀ j, S j → (w.drew.alloc (.cells c el)).heap[j]? = w.heap[j]? := fun c j hj => heap_alloc_old w.drew _ j (hm.lt j hj)
        refine ⟨_, _, hr, new_row (w' := w.drew.alloc _) (B := fun x => x = w.heap.size) (fr _ _ hK rfl) hm none rfl rfl rfl (by simp) (fun j hj => .inl (by omega)) (fun j hj _ => heap_alloc_old w.drew _ j hj) (none_blk hpos (n2.move (hS' _)) (heap_alloc_new w.drew _) (.inl rfl) ?_ hge ?_) hcm hpos K hK⟩
        · simp only [Array.size_append, List.size_toArray, n2.1, size_zeroCells, hzs]
          rw [← Nat.add_mul]; congr 1; omega
        · exact ⟨(Builtin.zeroCells z.cells (grownCap w k 0 el - k)).toList, by apply Array.toList_inj.1; simp⟩
    · rename_i i0' sz0 n off len
      split at h
      · rename_i sz' n' g hb
        obtain ⟨⟨h1, h2, rfl, rfl, rfl, rfl, h7⟩, hfl, hK⟩ := h
        obtain ⟨el, i0, z, hu, hi0, hz0, hs, hby, hzs, hz1, hpos, _, hbp⟩ := el_of h1
        obtain ⟨news, n1, n2⟩ := src_ok hm hvx hsrc hfl h2 hpos hk
        obtain ⟨Ad, c, rfl, hx, hl, hn, hkk, hc, hA⟩ := hvs.sl_inv
        rw [Nat.zero_add] at hn hkk
        subst hkk
        have hle : (len + k) * 1 ≤ (len + k) * (tyD P t).eb := Nat.mul_le_mul_left _ hbp
        have hS' : ∀ c : Array Value, ∀ j, S j → (w.drew.alloc (.cells c el)).heap[j]? = w.heap[j]? := fun c j hj => heap_alloc_old w.drew _ j (hm.lt j hj)
        -- nowhere
        rcases Nat.eq_zero_or_pos (κ i0') with hκ | hκ
        · have hlen : len = 0 := by omega
          subst hlen
          rw [Nat.zero_add] at hle h7
          rcases Nat.eq_zero_or_pos k with rfl | hp
          · have hnil : news = [] := List.eq_nil_of_length_eq_zero (by simpa using n2.1)
            subst hnil
            rw [hκ]
            exact ⟨_, _, append_zero hu hi0 (by rw [hs]; exact n1), new_none (fr _ _ hK rfl) hm (some i0') K hK⟩
          · have hfc : (Builtin.firstCells i0.size 0 (.slice Ad 0 (κ i0'))).run P w.drew = .ok ([] : List Value).toArray w.drew := by
              cases Ad with
              | none => exact run_firstCells_none w.drew _ 0 0 _
              | some a => exact run_firstCells_some w.drew _ 0 a 0 _ [] (by simp) (fun j u hu => by simp at hu)
            have hr := run_append_grow_src (P := P) w t t' ty el i0 z hu hi0 hz0 Ad 0 (κ i0') [] hfc vx k news (by rw [hs]; exact n1) (by omega) (by omega) (by rw [hκ]; exact Nat.le_trans (Nat.mul_le_mul_right _ (Nat.le_of_eq (nextslicecap_zero (by omega)))) (by rw [hby]; simpa using (Nat.le_trans h7 (by decide))))
            simp only [Nat.zero_add, List.nil_append] at hr hK
            have hge := grownCap_ge w k (κ i0') el
            have hcm := grownCap_le_maxLen w k (κ i0') el (by unfold maxLen; omega)
            have e0 : (fun i => if i < 0 then g i else gs (i - 0)) = gs := by funext i; simp
            rw [e0] at hK
            refine ⟨_, _, hr, new_row (w' := w.drew.alloc _) (B := fun x => x = w.heap.size) (fr _ _ hK rfl) hm (some i0') rfl rfl rfl (by simp) (fun j hj => .inl (by omega)) (fun j hj _ => heap_alloc_old w.drew _ j hj) (none_blk hpos (n2.move (hS' _)) (heap_alloc_new w.drew _) (.inl rfl) ?_ hge ?_) hcm hpos K hK⟩
            · simp only [Array.size_append, List.size_toArray, n2.1, size_zeroCells, hzs]
              rw [← Nat.add_mul]; congr 1; omega
            · exact ⟨(Builtin.zeroCells z.cells (grownCap w k (κ i0') el - k)).toList, by apply Array.toList_inj.1; simp⟩
        · obtain rfl := hA hκ
          rw [Nat.zero_mul] at *
          rcases hm.ob i0' _ hb with ⟨hz, _⟩ | ⟨_, _, _, hblk⟩
          · omega
          obtain ⟨cur, e', fz, F, g1, gz, g2, g3, g6, gF, g7⟩ := hblk
          have hAb : A i0' (β i0') := (gF.eq _).2 (.inl rfl)
          have hSb : ¬ S (β i0') := hm.ns _ _ _ hb hAb
          have hFlt : ∀ i j x, F i j x → x < w.heap.size ∧ A i0' x := fun i j x hx => by
            have : A i0' x := (gF.eq x).2 (.inr ⟨i, j, hx⟩)
            exact ⟨(hm.ob i0' _ hb).lt this, this⟩
          have olds_len : (cur.toList.take (len * (tyD P t).es)).length = len * (tyD P t).es := by
            have : len * (tyD P t).es ≤ κ i0' * (tyD P t).es := Nat.mul_le_mul_right _ hl
            simp; omega
          have olds_at : ∀ w' : World, (∀ x, S x → w'.heap[x]? = w.heap[x]?) → (∀ i j x, F i j x → w'.heap[x]? = w.heap[x]?) → ∀ i j p, i < len → (g i)[j]? = some p → ∃ u, (cur.toList.take (len * (tyD P t).es))[i * (tyD P t).es + j]? = some u ∧ u.oneCell' = true ∧ TV β κ D w' S (F i j) u p := fun w' hw1 hw2 i j p hi hp => by
            obtain ⟨a1, a2⟩ := g7 i j p (by omega) hp
            have hj : j < (tyD P t).es := by rw [← g6 i (by omega)]; exact (List.getElem?_eq_some_iff.1 hp).1
            have hlt : i * (tyD P t).es + j < len * (tyD P t).es := by
              have : (i + 1) * (tyD P t).es ≤ len * (tyD P t).es := Nat.mul_le_mul_right _ hi
              rw [Nat.succ_mul] at this; omega
            have hlt2 : i * (tyD P t).es + j < cur.size := by rw [List.length_take] at olds_len; simp at olds_len; omega
            refine ⟨_, ?_, a1, a2.move (fun _ _ => ⟨rfl, rfl⟩) (fun _ h => h) (fun _ h => h) hw1 (hw2 i j)⟩
            rw [List.getElem?_take, if_pos hlt]
            simp [Array.getD, hlt2]
          have hBown : ∀ gb : Nat, (w.heap.size ≤ gb ∨ A i0' gb) → ∀ x, (x = gb ∨ ∃ i j, i < len ∧ F i j x) → w.heap.size ≤ x ∨ ∃ o x0, some i0' = some o ∧ m.o o = some x0 ∧ A o x := fun gb hgb x hx => by
            rcases hx with rfl | ⟨i, j, _, hx⟩
            · rcases hgb with h | h
              · exact .inl h
              · exact .inr ⟨i0', _, rfl, hb, h⟩
            · exact .inr ⟨i0', _, rfl, hb, (hFlt i j x hx).2⟩
          by_cases hroom : len + k ≤ κ i0'
          · have hfit : len * i0.size + news.length ≤ cur.size := by
              rw [n2.1, hs, g2, ← Nat.add_mul]; exact Nat.mul_le_mul_right _ hroom
            have hr := append_room (ty := ty) hu hi0 (by rw [hs]; exact n1) g1 gz hroom hfit
            rw [hs] at hr
            have hw1 : ∀ c : Array Value, ∀ x, S x → (w.setRow (β i0') c).heap[x]? = w.heap[x]? := fun c x hx => setRow_other w _ x _ (fun e => hSb (e ▸ hx))
            have hcs : ((cur.toList.take (len * (tyD P t).es) ++ news ++ cur.toList.drop (len * (tyD P t).es + news.length)).toArray).size = cur.size := by
              simp only [List.size_toArray, List.length_append, olds_len, List.length_drop, Array.length_toList, n2.1]
              rw [hs, n2.1] at hfit
              omega
            exact ⟨_, _, hr, new_row (w' := w.setRow _ _) (fr _ _ hK rfl) hm (some i0') rfl rfl rfl (by simp) (hBown (β i0') (.inr hAb)) (fun j hj hne => setRow_other w _ j _ (fun e => hne i0' _ rfl hb (e ▸ hAb)))
              (cat_blk hpos gF (by omega) olds_len (fun i hi => g6 i (by omega)) (olds_at _ (hw1 _) (fun i j x hx => setRow_other w _ x _ (fun e => gF.nb i j (e ▸ hx)))) (n2.move (hw1 _)) (setRow_heap w _ _ _ _ _ g1) (by rw [hcs]; exact gz) (by rw [hcs]; exact g2) hroom ⟨_, rfl⟩ gF.nb) hc hpos K hK⟩
          · have hfc : (Builtin.firstCells i0.size len (.slice (some ⟨β i0', 0, none⟩) len (κ i0'))).run P w.drew = .ok (cur.toList.take (len * (tyD P t).es)).toArray w.drew := by
              refine run_firstCells_some w.drew _ len _ len _ _ (by rw [hs]; exact olds_len) (fun j u hu => ?_)
              rw [List.getElem?_take] at hu
              split at hu
              · rw [addr_add0]
                show w.cell? _ = _
                rw [cell_of_row w _ _ cur e' fz g1]; simpa using hu
              · cases hu
            have hr := run_append_grow_src (P := P) w t t' ty el i0 z hu hi0 hz0 (some ⟨β i0', 0, none⟩) len (κ i0') _ hfc vx k news (by rw [hs]; exact n1) (by omega) (by omega) (growslice_fits (by omega) (by rw [hby]; exact Nat.le_trans h7 (by decide)))
            have hge := grownCap_ge w (len + k) (κ i0') el
            have hcm := grownCap_le_maxLen w (len + k) (κ i0') el (by unfold maxLen; omega)
            refine ⟨_, _, hr, new_row (w' := w.drew.alloc _) (fr _ _ hK rfl) hm (some i0') rfl rfl rfl (by simp) (hBown w.heap.size (.inl (Nat.le_refl _))) (fun j hj _ => heap_alloc_old w.drew _ j hj)
              (cat_blk hpos gF (by omega) olds_len (fun i hi => g6 i (by omega)) (olds_at _ (hS' _) (fun i j x hx => heap_alloc_old w.drew _ x (hFlt i j x hx).1)) (n2.move (hS' _)) (heap_alloc_new w.drew _) (.inl rfl) ?_ hge ?_ (fun i j hx => by have := (hFlt i j _ hx).1; omega)) hcm hpos K hK⟩
            · simp only [Array.size_append, List.size_toArray, List.length_append, olds_len, n2.1, size_zeroCells, hzs]
              rw [← Nat.add_mul, ← Nat.add_mul]; congr 1; omega
            · exact ⟨(Builtin.zeroCells z.cells (grownCap w (len + k) (κ i0') el - (len + k))).toList, by apply Array.toList_inj.1; simp⟩
      · exact h.elim
    · exact h.elim
  · exact h.elim
end
end Go.Proofs.YtppfogbgbpadiaaW.AW
