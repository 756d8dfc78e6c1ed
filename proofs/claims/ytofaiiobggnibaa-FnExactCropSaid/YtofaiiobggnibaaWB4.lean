/- An abstract state of a function's frame, in words of its own, and what it says of a frame and a world of the model. Plain words and lemmas: no statement of the program. -/
import Derived.Below
import Derived.LoopN
import Derived.OpenShut
import Derived.MapKept
import Derived.Laws.Cover4
import Derived.Laws.MakeOwn
import Derived.Laws.StructEq
namespace Go.Proofs.YtofaiiobggnibaaW.AW
open Go Go.RowKit
set_option linter.unusedVariables false

abbrev Id := List Nat
/-- What a slot or a cell holds. cl: a slice that is only read (element size, length, cells of an element); sl: a slice of an object of one's own (object, element size, its length, from, length); ow: in a cell alone: a slice whose row is owned by the cell; pc: an address of cells that are only read; bp: of a variable's cell; pt: of an element's cell; mp: a map of one's own; gd: known where all of cs hold. -/
inductive PV where
  | und
  | bool (b : Bool)
  | int (k : IntKind) (n : Int)
  | str (s : ByteArray)
  | nils
  | cl (sz n : Nat) (g : Nat → List PV)
  | sl (o : Id) (sz n off len : Nat)
  | ow (sz n : Nat) (g : Nat → List PV)
  | pc (cs : List PV)
  | bp (o : Id) (j : Nat)
  | pt (o : Id) (sz n i j : Nat)
  | mp (o : Id)
  | ag (cs : List PV)
  | tu (vs : List PV)
  | fn (f : FuncId) (caps : List PV)
  | gd (cs : List Bool) (p : PV)
/-- Memory of one's own: a variable, a row of elements, a map from whole numbers, what is left of a map that is gone through. -/
inductive Ob where
  | no
  | box (cs : List PV)
  | row (sz n : Nat) (g : Nat → List PV)
  | map (f : Int → Option PV)
  | it (es : List (Int × PV))
structure Mem where
  o : Id → Option Ob
  nx : Nat
structure AS where
  t : Nat → PV
  m : Mem
def hb : Id → Nat → Prop
  | [], _ => False
  | k :: _, n => k < n

/-- A value that is only read: its blocks are S's. -/
inductive RV (w : World) (S : Nat → Prop) : Value → PV → Prop
  | und (v) : RV w S v .und
  | bool (b) : RV w S (.bool b) (.bool b)
  | int (k n) (h : k.min ≤ n ∧ n ≤ k.max) : RV w S (.int k n) (.int k n)
  | str (s) (h : s.size ≤ 9223372036854775807) : RV w S (.string s) (.str s)
  | nils : RV w S (.slice none 0 0) .nils
  | cl0 (A c sz g) : RV w S (.slice A 0 c) (.cl sz 0 g)
  | cl (a n c sz g) (val : Nat → Nat → Value) (hn : n ≤ c) (hc : c ≤ 9223372036854775807) (hS : S a.block) (hl : ∀ i, i < n → (g i).length = sz)
      (hcell : ∀ i j p, i < n → (g i)[j]? = some p → w.cell? (a.add (i * sz + j)) = some (val i j)) (h1 : ∀ i j p, i < n → (g i)[j]? = some p → (val i j).oneCell' = true)
      (hv : ∀ i j p, i < n → (g i)[j]? = some p → RV w S (val i j) p) : RV w S (.slice (some a) n c) (.cl sz n g)
  | pc (a cs) (val : Nat → Value) (hS : S a.block) (hcell : ∀ j p, cs[j]? = some p → w.cell? (a.add j) = some (val j)) (h1 : ∀ j p, cs[j]? = some p → (val j).oneCell' = true)
      (hv : ∀ j p, cs[j]? = some p → RV w S (val j) p) : RV w S (.pointer (some a)) (.pc cs)
  | ag (vs : Array Value) (ps) (hl : vs.size = ps.length) (h1 : ∀ j p, ps[j]? = some p → (vs.getD j undef).oneCell' = true) (hv : ∀ j p, ps[j]? = some p → RV w S (vs.getD j undef) p) : RV w S (.agg vs) (.ag ps)
  | tu (vs : Array Value) (ps) (hl : vs.size = ps.length) (hv : ∀ j p, ps[j]? = some p → RV w S (vs.getD j undef) p) : RV w S (.tuple vs) (.tu ps)
  | gd (cs v p) (h : cs.all id = true → RV w S v p) (hu : cs.all id = false → v = undef) : RV w S v (.gd cs p)
/-- A value of the frame. β: where an object lies; κ: how many elements its block has room for. -/
inductive OV (β κ : Id → Nat) (D : Id → Prop) (w : World) (S : Nat → Prop) : Value → PV → Prop
  | rv (v p) (h : RV w S v p) : OV β κ D w S v p
  | sl (o sz n off len A c) (hx : D o) (hl : len ≤ c) (hn : off + len ≤ n) (hk : off + c = κ o) (hc : κ o ≤ 9223372036854775807) (hA : 0 < c → A = some ⟨β o, off * sz, none⟩) : OV β κ D w S (.slice A len c) (.sl o sz n off len)
  | bp (o j) (hx : D o) : OV β κ D w S (.pointer (some ⟨β o, j, none⟩)) (.bp o j)
  | pt (o sz n i j) (hx : D o) (hi : i < n) : OV β κ D w S (.pointer (some ⟨β o, i * sz + j, none⟩)) (.pt o sz n i j)
  | mp (o) (hx : D o) : OV β κ D w S (.map (some (β o))) (.mp o)
  | ag (vs : Array Value) (ps) (hl : vs.size = ps.length) (h1 : ∀ j p, ps[j]? = some p → (vs.getD j undef).oneCell' = true) (hv : ∀ j p, ps[j]? = some p → OV β κ D w S (vs.getD j undef) p) : OV β κ D w S (.agg vs) (.ag ps)
  | tu (vs : Array Value) (ps) (hl : vs.size = ps.length) (hv : ∀ j p, ps[j]? = some p → OV β κ D w S (vs.getD j undef) p) : OV β κ D w S (.tuple vs) (.tu ps)
  | fn (f) (vs : Array Value) (ps) (hl : vs.size = ps.length) (hv : ∀ j p, ps[j]? = some p → OV β κ D w S (vs.getD j undef) p) : OV β κ D w S (.func (.func f) #[] vs) (.fn f ps)
  | gd (cs v p) (h : cs.all id = true → OV β κ D w S v p) (hu : cs.all id = false → v = undef) : OV β κ D w S v (.gd cs p)
/-- Nothing of the block is frozen. -/
def fzOk (fz : Nat × Nat) (n : Nat) : Prop := fz.2 = 0 ∨ n ≤ fz.1
/-- What the cells of a block own: F i j the cell's, A all of it. -/
structure Fp (n sz b : Nat) (F : Nat → Nat → Nat → Prop) (A : Nat → Prop) : Prop where
  nb : ∀ i j, ¬ F i j b
  dj : ∀ i j i' j' k, F i j k → F i' j' k → i = i' ∧ j = j'
  dm : ∀ i j k, F i j k → i < n ∧ j < sz
  eq : ∀ k, A k ↔ k = b ∨ ∃ i j, F i j k
/-- A cell that owns what it leads to: the blocks F. -/
inductive CV (w : World) (S : Nat → Prop) : (Nat → Prop) → Value → PV → Prop
  | rv (F v p) (h : RV w S v p) (h0 : ∀ k, ¬ F k) : CV w S F v p
  | no (F A sz g) (h0 : ∀ k, ¬ F k) : CV w S F (.slice A 0 0) (.ow sz 0 g)
  | ow (A b n c sz g) (cur : Array Value) (e : TypeId) (fz : Nat × Nat) (F : Nat → Nat → Nat → Prop) (hz : fzOk fz cur.size) (hp : 0 < c) (hn : n ≤ c) (hm : c ≤ 9223372036854775807) (h0 : 0 < sz) (hh : w.heap[b]? = some (.cells cur e fz)) (hs : cur.size = c * sz) (hl : ∀ i, i < n → (g i).length = sz)
      (hF : Fp n sz b F A) (h1 : ∀ i j p, i < n → (g i)[j]? = some p → (cur.getD (i * sz + j) undef).oneCell' = true) (hv : ∀ i j p, i < n → (g i)[j]? = some p → CV w S (F i j) (cur.getD (i * sz + j) undef) p) :
      CV w S A (.slice (some ⟨b, 0, none⟩) n c) (.ow sz n g)
def TV (β κ : Id → Nat) (D : Id → Prop) (w : World) (S : Nat → Prop) (F : Nat → Prop) (v : Value) (p : PV) : Prop := (OV β κ D w S v p ∧ ∀ k, ¬ F k) ∨ CV w S F v p
/-- A block of cells. -/
def Blk (β κ : Id → Nat) (D : Id → Prop) (w : World) (S : Nat → Prop) (A : Nat → Prop) (b sz n c : Nat) (g : Nat → List PV) : Prop :=
  ∃ cur e fz F, w.heap[b]? = some (.cells cur e fz) ∧ fzOk fz cur.size ∧ cur.size = c * sz ∧ n ≤ c ∧ (∀ i, i < n → (g i).length = sz) ∧ Fp n sz b F A ∧
    ∀ i j p, i < n → (g i)[j]? = some p → (cur.getD (i * sz + j) undef).oneCell' = true ∧ TV β κ D w S (F i j) (cur.getD (i * sz + j) undef) p
/-- A map's entries: what each key has. -/
structure Ents (w : World) (S : Nat → Prop) (ents : Array MapEntry) (clock : Nat) (f : Int → Option PV) : Prop where
  st : MapKept.Stamped ents clock
  key : ∀ e ∈ ents.toList, ∃ k p, e.key = .int .i64 k ∧ (IntKind.i64.min ≤ k ∧ k ≤ IntKind.i64.max) ∧ f k = some p ∧ RV w S e.val p
  all : ∀ k p, f k = some p → ∃ e ∈ ents.toList, e.key = .int .i64 k
/-- Entries one by one. -/
def Pairs (f : Int → Option PV) : List MapEntry → List (Int × PV) → Prop
  | [], [] => True
  | e :: l, (k, p) :: r => e.key = .int .i64 k ∧ f k = some p ∧ Pairs f l r
  | _, _ => False
/-- What an object's block holds; A: the blocks that are its own. -/
def OB (β κ : Id → Nat) (D : Id → Prop) (w : World) (S : Nat → Prop) (A : Nat → Prop) (o : Id) : Ob → Prop
  | .no => False
  | .box cs => Blk β κ D w S A (β o) cs.length 1 1 (fun _ => cs)
  | .row sz n g => (κ o = 0 ∧ n = 0 ∧ ∀ k, ¬ A k) ∨ (0 < κ o ∧ κ o ≤ 9223372036854775807 ∧ 0 < sz ∧ Blk β κ D w S A (β o) sz n (κ o) g)
  | .map f => (∀ k, A k ↔ k = β o) ∧ ∃ ents clock, w.heap[β o]? = some (.map ents clock) ∧ Ents w S ents clock f
  | .it es => ∃ b ents clock seen f, b ≠ β o ∧ (∀ k, A k ↔ k = β o ∨ k = b) ∧ w.heap[b]? = some (.map ents clock) ∧ w.heap[β o]? = some (.mapIter (some b) clock seen clock) ∧ Ents w S ents clock f ∧ Pairs f (ents.toList.filter (fun e => !seen.contains e.born)) es
structure MRD (w : World) (S : Nat → Prop) (D : Id → Prop) (m : Mem) (β κ : Id → Nat) (A : Id → Nat → Prop) : Prop where
  ob : ∀ o x, m.o o = some x → OB β κ D w S (A o) o x
  ns : ∀ o x k, m.o o = some x → A o k → ¬ S k
  dj : ∀ o o' x x' k, m.o o = some x → m.o o' = some x' → A o k → A o' k → o = o'
  nx : ∀ o x, m.o o = some x → D o
  lt : ∀ k, S k → k < w.heap.size

/-- The names in use where so many were given out, one behind the other. -/
abbrev dN (n : Nat) : Id → Prop := fun o => hb o n
abbrev MR (w : World) (S : Nat → Prop) (m : Mem) (β κ : Id → Nat) (A : Id → Nat → Prop) : Prop := MRD w S (dN m.nx) m β κ A
/-- The blocks that are one's own. -/
def own (m : Mem) (A : Id → Nat → Prop) (k : Nat) : Prop := ∃ o x, m.o o = some x ∧ A o k

/-- From one memory to a later one: what stays. -/
structure ExtD (w : World) (S : Nat → Prop) (D : Id → Prop) (m : Mem) (β κ : Id → Nat) (A : Id → Nat → Prop) (w' : World) (S' : Nat → Prop) (D' : Id → Prop) (m' : Mem) (β' κ' : Id → Nat) (A' : Id → Nat → Prop) : Prop where
  os : w'.os = w.os
  tape : w'.tape = w.tape
  output : w'.output = w.output
  size : w.heap.size ≤ w'.heap.size
  sub : ∀ k, S k → S' k
  be : ∀ o, D o → β' o = β o ∧ κ' o = κ o
  keep : ∀ k, k < w.heap.size → ¬ own m A k → w'.heap[k]? = w.heap[k]?
  le : m.nx ≤ m'.nx
  dl : ∀ o, D o → D' o
  new : ∀ k, own m' A' k → w.heap.size ≤ k ∨ own m A k
  snew : ∀ k, S' k → S k ∨ w.heap.size ≤ k ∨ own m A k
abbrev Ext (w : World) (S : Nat → Prop) (m : Mem) (β κ : Id → Nat) (A : Id → Nat → Prop) (w' : World) (S' : Nat → Prop) (m' : Mem) (β' κ' : Id → Nat) (A' : Id → Nat → Prop) : Prop := ExtD w S (dN m.nx) m β κ A w' S' (dN m'.nx) m' β' κ' A'

theorem ExtD.refl (w : World) (S : Nat → Prop) (D : Id → Prop) (m : Mem) (β κ : Id → Nat) (A : Id → Nat → Prop) : ExtD w S D m β κ A w S D m β κ A :=
  ⟨rfl, rfl, rfl, Nat.le_refl _, fun _ h => h, fun _ _ => ⟨rfl, rfl⟩, fun _ _ _ => rfl, Nat.le_refl _, fun _ h => h, fun k h => .inr h, fun _ h => .inl h⟩
theorem Ext.refl (w : World) (S : Nat → Prop) (m : Mem) (β κ : Id → Nat) (A : Id → Nat → Prop) : Ext w S m β κ A w S m β κ A := ExtD.refl _ _ _ _ _ _ _
theorem hb.mono {o : Id} {n n' : Nat} (h : hb o n) (hn : n ≤ n') : hb o n' := by
  cases o with
  | nil => exact h
  | cons k q => exact Nat.lt_of_lt_of_le h hn
theorem ExtD.trans {w w1 w2 : World} {S S1 S2 : Nat → Prop} {D D1 D2 : Id → Prop} {m m1 m2 : Mem} {β κ β1 κ1 β2 κ2 : Id → Nat} {A A1 A2 : Id → Nat → Prop} (h : ExtD w S D m β κ A w1 S1 D1 m1 β1 κ1 A1) (k : ExtD w1 S1 D1 m1 β1 κ1 A1 w2 S2 D2 m2 β2 κ2 A2) : ExtD w S D m β κ A w2 S2 D2 m2 β2 κ2 A2 where
  os := k.os.trans h.os
  tape := k.tape.trans h.tape
  output := k.output.trans h.output
  size := Nat.le_trans h.size k.size
  sub := fun i hi => k.sub i (h.sub i hi)
  be := fun o ho => ⟨(k.be o (h.dl o ho)).1.trans (h.be o ho).1, (k.be o (h.dl o ho)).2.trans (h.be o ho).2⟩
  keep := fun i hi hn => by
    rw [k.keep i (Nat.lt_of_lt_of_le hi h.size) (fun hm => ?_), h.keep i hi hn]
    rcases h.new i hm with h1 | h1
    · omega
    · exact hn h1
  le := Nat.le_trans h.le k.le
  dl := fun o ho => k.dl o (h.dl o ho)
  new := fun i hi => by
    rcases k.new i hi with h1 | h1
    · exact .inl (Nat.le_trans h.size h1)
    · exact h.new i h1
  snew := fun i hi => by
    rcases k.snew i hi with h1 | h1 | h1
    · exact h.snew i h1
    · exact .inr (.inl (Nat.le_trans h.size h1))
    · rcases h.new i h1 with h3 | h3
      · exact .inr (.inl h3)
      · exact .inr (.inr h3)

theorem cell_move {w w' : World} {a : Addr} (h : w'.heap[a.block]? = w.heap[a.block]?) : w'.cell? a = w.cell? a := by simp [World.cell?, h]
theorem aadd_block (a : Addr) (i : Nat) : (a.add i).block = a.block := by unfold Addr.add; split <;> rfl
theorem RV.move {w w' : World} {S S' : Nat → Prop} (hS : ∀ k, S k → S' k) (hw : ∀ k, S k → w'.heap[k]? = w.heap[k]?) {v : Value} {p : PV} (h : RV w S v p) : RV w' S' v p := by
  induction h with
  | und v => exact .und v
  | bool b => exact .bool b
  | int k n h => exact .int k n h
  | str s h => exact .str s h
  | nils => exact .nils
  | cl0 A c sz g => exact .cl0 A c sz g
  | cl a n c sz g val hn hc hb hl hcell h1 hv ih =>
    exact .cl a n c sz g val hn hc (hS _ hb) hl (fun i j p hi hp => (cell_move (w := w) (w' := w') (a := a.add (i * sz + j)) (by rw [aadd_block]; exact hw _ hb)).trans (hcell i j p hi hp)) h1 ih
  | pc a cs val hb hcell h1 hv ih => exact .pc a cs val (hS _ hb) (fun j p hp => (cell_move (w := w) (w' := w') (a := a.add j) (by rw [aadd_block]; exact hw _ hb)).trans (hcell j p hp)) h1 ih
  | ag vs ps hl h1 hv ih => exact .ag vs ps hl h1 ih
  | tu vs ps hl hv ih => exact .tu vs ps hl ih
  | gd cs v p h hu ih => exact .gd cs v p ih hu
theorem OV.move {β κ β' κ' : Id → Nat} {D D' : Id → Prop} {w w' : World} {S S' : Nat → Prop} (hβ : ∀ o, D o → β' o = β o ∧ κ' o = κ o) (hn : ∀ o, D o → D' o) (hS : ∀ k, S k → S' k) (hw : ∀ k, S k → w'.heap[k]? = w.heap[k]?) {v : Value} {p : PV} (h : OV β κ D w S v p) : OV β' κ' D' w' S' v p := by
  induction h with
  | rv v p h => exact .rv v p (h.move hS hw)
  | sl o sz n off len A c hx hl hn2 hk hc hA => exact .sl o sz n off len A c (hn o hx) hl hn2 (by rw [(hβ o hx).2]; exact hk) (by rw [(hβ o hx).2]; exact hc) (fun h => by rw [(hβ o hx).1]; exact hA h)
  | bp o j hx => have := OV.bp (β := β') (κ := κ') (D := D') (w := w') (S := S') o j (hn o hx); rwa [(hβ o hx).1] at this
  | pt o sz n i j hx hi => have := OV.pt (β := β') (κ := κ') (D := D') (w := w') (S := S') o sz n i j (hn o hx) hi; rwa [(hβ o hx).1] at this
  | mp o hx => have := OV.mp (β := β') (κ := κ') (D := D') (w := w') (S := S') o (hn o hx); rwa [(hβ o hx).1] at this
  | ag vs ps hl h1 hv ih => exact .ag vs ps hl h1 ih
  | tu vs ps hl hv ih => exact .tu vs ps hl ih
  | fn f vs ps hl hv ih => exact .fn f vs ps hl ih
  | gd cs v p h hu ih => exact .gd cs v p ih hu
theorem CV.move {w w' : World} {S S' : Nat → Prop} (hS : ∀ k, S k → S' k) (hw : ∀ k, S k → w'.heap[k]? = w.heap[k]?) {F : Nat → Prop} {v : Value} {p : PV} (h : CV w S F v p) : (∀ k, F k → w'.heap[k]? = w.heap[k]?) → CV w' S' F v p := by
  induction h with
  | rv F v p h h0 => exact fun _ => .rv F v p (h.move hS hw) h0
  | no F A sz g h0 => exact fun _ => .no F A sz g h0
  | ow A b n c sz g cur e fz F hz hp hn hm h0 hh hs hl hF h1 hv ih =>
    intro hA
    exact .ow A b n c sz g cur e fz F hz hp hn hm h0 ((hA b ((hF.eq b).2 (.inl rfl))).trans hh) hs hl hF h1 (fun i j p hi hp => ih i j p hi hp (fun k hk => hA k ((hF.eq k).2 (.inr ⟨i, j, hk⟩))))
theorem TV.move {β κ β' κ' : Id → Nat} {D D' : Id → Prop} {w w' : World} {S S' : Nat → Prop} (hβ : ∀ o, D o → β' o = β o ∧ κ' o = κ o) (hn : ∀ o, D o → D' o) (hS : ∀ k, S k → S' k) (hw : ∀ k, S k → w'.heap[k]? = w.heap[k]?) {F : Nat → Prop} {v : Value} {p : PV} (hF : ∀ k, F k → w'.heap[k]? = w.heap[k]?) (h : TV β κ D w S F v p) : TV β' κ' D' w' S' F v p := by
  rcases h with ⟨h, h0⟩ | h
  · exact .inl ⟨h.move hβ hn hS hw, h0⟩
  · exact .inr (h.move hS hw hF)
theorem Blk.move {β κ β' κ' : Id → Nat} {D D' : Id → Prop} {w w' : World} {S S' : Nat → Prop} (hβ : ∀ o, D o → β' o = β o ∧ κ' o = κ o) (hn : ∀ o, D o → D' o) (hS : ∀ k, S k → S' k) (hw : ∀ k, S k → w'.heap[k]? = w.heap[k]?) {A : Nat → Prop} {b sz n c : Nat} {g : Nat → List PV} (hA : ∀ k, A k → w'.heap[k]? = w.heap[k]?) (h : Blk β κ D w S A b sz n c g) : Blk β' κ' D' w' S' A b sz n c g := by
  obtain ⟨cur, e, fz, F, h1, hz, h2, h3, h4, h5, h6⟩ := h
  exact ⟨cur, e, fz, F, (hA b ((h5.eq b).2 (.inl rfl))).trans h1, hz, h2, h3, h4, h5, fun i j p hi hp => ⟨(h6 i j p hi hp).1, (h6 i j p hi hp).2.move hβ hn hS hw (fun k hk => hA k ((h5.eq k).2 (.inr ⟨i, j, hk⟩)))⟩⟩
theorem Ents.move {w w' : World} {S S' : Nat → Prop} (hS : ∀ k, S k → S' k) (hw : ∀ k, S k → w'.heap[k]? = w.heap[k]?) {ents : Array MapEntry} {clock : Nat} {f : Int → Option PV} (h : Ents w S ents clock f) : Ents w' S' ents clock f :=
  ⟨h.st, fun e he => by obtain ⟨k, p, h1, h2, h3, h4⟩ := h.key e he; exact ⟨k, p, h1, h2, h3, h4.move hS hw⟩, h.all⟩
/-- What stands in S stays, the objects' own blocks apart. -/
theorem ExtD.held {w w' : World} {S S' : Nat → Prop} {D D' : Id → Prop} {m m' : Mem} {β κ β' κ' : Id → Nat} {A A' : Id → Nat → Prop} (h : ExtD w S D m β κ A w' S' D' m' β' κ' A') (hm : MRD w S D m β κ A) : ∀ k, S k → w'.heap[k]? = w.heap[k]? :=
  fun k hk => h.keep k (hm.lt k hk) (fun ⟨o, x, h1, h2⟩ => hm.ns o x k h1 h2 hk)
theorem OV.ext {w w' : World} {S S' : Nat → Prop} {D D' : Id → Prop} {m m' : Mem} {β κ β' κ' : Id → Nat} {A A' : Id → Nat → Prop} (h : ExtD w S D m β κ A w' S' D' m' β' κ' A') (hm : MRD w S D m β κ A) {v : Value} {p : PV} (hv : OV β κ D w S v p) : OV β' κ' D' w' S' v p :=
  hv.move h.be h.dl h.sub (h.held hm)
theorem OB.move {β κ β' κ' : Id → Nat} {D D' : Id → Prop} {w w' : World} {S S' : Nat → Prop} (hβ : ∀ o, D o → β' o = β o ∧ κ' o = κ o) (hn : ∀ o, D o → D' o) (hS : ∀ k, S k → S' k) (hw : ∀ k, S k → w'.heap[k]? = w.heap[k]?) {A : Nat → Prop} {o : Id} {x : Ob} (ho : D o) (hA : ∀ k, A k → w'.heap[k]? = w.heap[k]?) (h : OB β κ D w S A o x) : OB β' κ' D' w' S' A o x := by
  obtain ⟨e1, e2⟩ := hβ o ho
  cases x with
  | no => exact h
  | box cs =>
    have := Blk.move hβ hn hS hw hA h
    simp only [OB, e1]; exact this
  | row sz n g =>
    simp only [OB, e1, e2] at h ⊢
    rcases h with h | ⟨h1, h2, h3, h4⟩
    · exact .inl h
    · exact .inr ⟨h1, h2, h3, h4.move hβ hn hS hw hA⟩
  | map f =>
    simp only [OB, e1] at h ⊢
    obtain ⟨h1, ents, clock, h2, h3⟩ := h
    exact ⟨h1, ents, clock, (hA _ ((h1 _).2 rfl)).trans h2, h3.move hS hw⟩
  | it es =>
    simp only [OB, e1] at h ⊢
    obtain ⟨b, ents, clock, seen, all, h1, h2, h3, h4, h5, h6⟩ := h
    exact ⟨b, ents, clock, seen, all, h1, h2, (hA _ ((h2 _).2 (.inr rfl))).trans h3, (hA _ ((h2 _).2 (.inl rfl))).trans h4, h5.move hS hw, h6⟩
theorem CV.lt {w : World} {S : Nat → Prop} {F : Nat → Prop} {v : Value} {p : PV} (h : CV w S F v p) : ∀ k, F k → k < w.heap.size := by
  induction h with
  | rv F v p h h0 => exact fun k hk => absurd hk (h0 k)
  | no F A sz g h0 => exact fun k hk => absurd hk (h0 k)
  | ow A b n c sz g cur e fz F hz hp hn hm h0 hh hs hl hF h1 hv ih =>
    intro k hk
    rcases (hF.eq k).1 hk with rfl | ⟨i, j, hk⟩
    · exact (Array.getElem?_eq_some_iff.1 hh).1
    · obtain ⟨hi, hj⟩ := hF.dm i j k hk
      exact ih i j _ hi (List.getElem?_eq_getElem (by rw [hl i hi]; exact hj)) k hk
theorem Blk.lt {β κ : Id → Nat} {D : Id → Prop} {w : World} {S : Nat → Prop} {A : Nat → Prop} {b sz n c : Nat} {g : Nat → List PV} (h : Blk β κ D w S A b sz n c g) {k : Nat} (hk : A k) : k < w.heap.size := by
  obtain ⟨cur, e, fz, F, h1, hz, h2, h3, h4, h5, h6⟩ := h
  rcases (h5.eq k).1 hk with rfl | ⟨i, j, hk⟩
  · exact (Array.getElem?_eq_some_iff.1 h1).1
  · obtain ⟨hi, hj⟩ := h5.dm i j k hk
    rcases (h6 i j _ hi (List.getElem?_eq_getElem (by rw [h4 i hi]; exact hj))).2 with ⟨_, h0⟩ | h7
    · exact absurd hk (h0 k)
    · exact h7.lt k hk
theorem OB.lt {β κ : Id → Nat} {D : Id → Prop} {w : World} {S : Nat → Prop} {A : Nat → Prop} {o : Id} {x : Ob} (h : OB β κ D w S A o x) {k : Nat} (hk : A k) : k < w.heap.size := by
  cases x with
  | no => exact h.elim
  | box cs => exact Blk.lt h hk
  | row sz n g =>
    rcases h with ⟨_, _, h⟩ | ⟨_, _, _, h⟩
    · exact absurd hk (h k)
    · exact h.lt hk
  | map f =>
    obtain ⟨h1, ents, clock, h2, h3⟩ := h
    rw [(h1 k).1 hk]; exact (Array.getElem?_eq_some_iff.1 h2).1
  | it es =>
    obtain ⟨b, ents, clock, seen, all, h1, h2, h3, h4, h5⟩ := h
    rcases (h2 k).1 hk with rfl | rfl
    · exact (Array.getElem?_eq_some_iff.1 h4).1
    · exact (Array.getElem?_eq_some_iff.1 h3).1

/-- The frame: what its slots hold, its memory; what there was at the call (w0 ..) stays. -/
structure FRD (w0 : World) (S0 : Nat → Prop) (m0 : Mem) (β0 κ0 : Id → Nat) (A0 : Id → Nat → Prop) (nt : Nat) (s : AS) (a : Act) (w : World) (D : Id → Prop) (β κ : Id → Nat) (A : Id → Nat → Prop) (S : Nat → Prop) : Prop where
  df : a.defers = []
  sz : a.tmps.size = nt
  tv : ∀ t, OV β κ D w S (a.tmps.getD t undef) (s.t t)
  mr : MRD w S D s.m β κ A
  ex : ExtD w0 S0 (dN m0.nx) m0 β0 κ0 A0 w S D s.m β κ A
abbrev FR (w0 : World) (S0 : Nat → Prop) (m0 : Mem) (β0 κ0 : Id → Nat) (A0 : Id → Nat → Prop) (nt : Nat) (s : AS) (a : Act) (w : World) (β κ : Id → Nat) (A : Id → Nat → Prop) (S : Nat → Prop) : Prop := FRD w0 S0 m0 β0 κ0 A0 nt s a w (dN s.m.nx) β κ A S

def upd {K α : Type} [DecidableEq K] (f : K → α) (k : K) (v : α) : K → α := fun i => if i = k then v else f i
theorem upd_at {K α : Type} [DecidableEq K] (f : K → α) (k : K) (v : α) (i : K) : upd f k v i = if i = k then v else f i := rfl
def AS.put (s : AS) (d : Option Tmp) (v : PV) : AS := match d with | some d => { s with t := upd s.t d v } | none => s
theorem FRD.step {w0 : World} {S0 : Nat → Prop} {m0 : Mem} {β0 κ0 : Id → Nat} {A0 : Id → Nat → Prop} {nt : Nat} {s : AS} {a : Act} {w : World} {D : Id → Prop} {β κ : Id → Nat} {A : Id → Nat → Prop} {S : Nat → Prop} (h : FRD w0 S0 m0 β0 κ0 A0 nt s a w D β κ A S)
    {w' : World} {D' : Id → Prop} {m' : Mem} {β' κ' : Id → Nat} {A' : Id → Nat → Prop} {S' : Nat → Prop} (he : ExtD w S D s.m β κ A w' S' D' m' β' κ' A') (hm : MRD w' S' D' m' β' κ' A') {d : Option Tmp} (hd : ∀ i, d = some i → i < nt) {v : Value} {p : PV} (hv : OV β' κ' D' w' S' v p) :
    FRD w0 S0 m0 β0 κ0 A0 nt (({ s with m := m' } : AS).put d p) (a.put d v) w' D' β' κ' A' S' := by
  cases d with
  | none => exact ⟨h.df, h.sz, fun t => (h.tv t).ext he h.mr, hm, h.ex.trans he⟩
  | some i =>
    refine ⟨h.df, by simp [Act.put, h.sz], fun t => ?_, hm, h.ex.trans he⟩
    have hi : i < a.tmps.size := by rw [h.sz]; exact hd i rfl
    show OV _ _ _ _ _ ((a.tmps.setIfInBounds i v).getD t undef) (upd s.t i p t)
    unfold upd
    by_cases e : t = i
    · subst e
      rw [if_pos rfl]
      have : (a.tmps.setIfInBounds t v).getD t undef = v := by simp [Array.getD, hi]
      rw [this]; exact hv
    · rw [if_neg e]
      have : (a.tmps.setIfInBounds i v).getD t undef = a.tmps.getD t undef := by
        simp only [Array.getD_eq_getD_getElem?, Array.getElem?_setIfInBounds, if_neg (Ne.symm e)]
      rw [this]; exact (h.tv t).ext he h.mr
theorem FR.step {w0 : World} {S0 : Nat → Prop} {m0 : Mem} {β0 κ0 : Id → Nat} {A0 : Id → Nat → Prop} {nt : Nat} {s : AS} {a : Act} {w : World} {β κ : Id → Nat} {A : Id → Nat → Prop} {S : Nat → Prop} (h : FR w0 S0 m0 β0 κ0 A0 nt s a w β κ A S)
    {w' : World} {m' : Mem} {β' κ' : Id → Nat} {A' : Id → Nat → Prop} {S' : Nat → Prop} (he : Ext w S s.m β κ A w' S' m' β' κ' A') (hm : MR w' S' m' β' κ' A') {d : Option Tmp} (hdl : ∀ i, d = some i → i < nt) {v : Value} {p : PV} (hv : OV β' κ' (dN m'.nx) w' S' v p) :
    FR w0 S0 m0 β0 κ0 A0 nt (({ s with m := m' } : AS).put d p) (a.put d v) w' β' κ' A' S' := by
  have := FRD.step h he hm hdl hv
  cases d <;> exact this
end Go.Proofs.YtofaiiobggnibaaW.AW
namespace Go.Proofs.YtofaiiobggnibaaW.AW
open Go Go.RowKit
set_option linter.unusedVariables false

def ofVal : Value → PV
  | .bool b => .bool b
  | .int k n => if k.min ≤ n ∧ n ≤ k.max then .int k n else .und
  | .string s => if s.size ≤ 9223372036854775807 then .str s else .und
  | .slice none 0 0 => .nils
  | _ => .und
/-- What kind of type it is. -/
inductive TK where
  | bool | int (k : IntKind) | string | struct | slice (e : TypeId) | map (k e : TypeId) | ptr | func | other
  deriving DecidableEq
/-- What is asked of a type: kind, cells, the fields' offsets, sizes, types, the zero's cells (and that they are to be had); of a slice's element: cells, bytes, whether it can be made, its zero. -/
structure TD where
  k : TK
  sz : Nat
  fs : List (Nat × Nat × Nat)
  zc : List PV
  zok : Bool
  es : Nat
  eb : Nat
  eok : Bool
  ez : List PV
  zv : PV
  zvk : Bool
  eqf : Bool
  eqk : List TK
def tk (P : Program) (t : TypeId) : TK := match P.underlying t with
  | some .bool => .bool | some (.int k) => .int k | some .string => .string | some (.struct _) => .struct | some (.slice e) => .slice e | some (.map k e) => .map k e | some (.pointer _) => .ptr | some (.func _ _ _) => .func | _ => .other
def zcells (P : Program) (t : TypeId) : Array Value := match (P.info? t).bind (·.zero) with | some z => z.cells | none => #[]
def zval (P : Program) (t : TypeId) : PV := match (P.info? t).bind (·.zero) with | some (.agg cs) => .ag (cs.toList.map ofVal) | some v => ofVal v | none => .und
def scal (P : Program) (t : TypeId) : Bool := match P.underlying t with | some .bool => true | some (.int _) => true | some .string => true | _ => false
def eqFs (P : Program) : Nat → List Field → Bool
  | _, [] => true
  | i, f :: r => f.name != "_" && f.offset == i && scal P f.type && eqFs P (i + 1) r
def tyD (P : Program) (t : TypeId) : TD where
  k := tk P t
  sz := P.cellsOf t
  fs := match P.underlying t with | some (.struct fs) => fs.toList.map (fun f => (f.offset, P.cellsOf f.type, f.type)) | _ => []
  zc := (zcells P t).toList.map ofVal
  zok := (((P.info? t).bind (·.zero)).map (fun z => z.cells.all (·.oneCell') && decide (z.cells.size = P.cellsOf t))).getD false && (match P.underlying t with | some (.struct fs) => fs.all (fun f => (P.info? f.type).isSome) | _ => true)
  es := match P.underlying t with | some (.slice e) => P.cellsOf e | _ => 0
  eb := match P.underlying t with | some (.slice e) => P.bytesOf e | _ => 0
  eok := match P.underlying t with | some (.slice e) => (((P.info? e).bind (·.zero)).map (fun z => decide (z.cells.size = P.cellsOf e) && z.cells.all (·.oneCell') && decide (0 < P.cellsOf e) && decide (0 < P.bytesOf e))).getD false | _ => false
  ez := match P.underlying t with | some (.slice e) => (zcells P e).toList.map ofVal | _ => []
  zv := zval P t
  zvk := match (P.info? t).bind (·.zero) with | some (.agg cs) => cs.all (·.oneCell') | some _ => true | none => false
  eqf := match P.underlying t with | some (.struct fs) => eqFs P 0 fs.toList && !P.stoodInHeld t && !P.eqGuardType P.depth t | _ => false
  eqk := match P.underlying t with | some (.struct fs) => fs.toList.map (fun f => tk P f.type) | _ => []

/-- A value with the condition under which it is had. -/
structure PR where
  ok : Prop
  v : PV
def no : PR := ⟨False, .und⟩
def bt (s : ByteArray) (i : Int) : Int := if h : i.toNat < s.size then ((s[i.toNat]'h).toNat : Int) else 0
def ibits (b : BinOp) (k : IntKind) (x y : Int) : Int := match b with
  | .and => k.wrap (BitVec.ofInt k.bits x &&& BitVec.ofInt k.bits y).toNat
  | .or => k.wrap (BitVec.ofInt k.bits x ||| BitVec.ofInt k.bits y).toNat
  | .xor => k.wrap (BitVec.ofInt k.bits x ^^^ BitVec.ofInt k.bits y).toNat
  | .andNot => k.wrap (BitVec.ofInt k.bits x &&& ~~~BitVec.ofInt k.bits y).toNat
  | _ => 0
def aint (b : BinOp) (k : IntKind) (x : Int) (k' : IntKind) (y : Int) : PR := match b with
  | .add => ⟨k = k', .int k (k.wrap (x + y))⟩
  | .sub => ⟨k = k', .int k (k.wrap (x - y))⟩
  | .mul => ⟨k = k', .int k (k.wrap (x * y))⟩
  | .quo => ⟨k = k' ∧ y ≠ 0, .int k (k.wrap (x.tdiv y))⟩
  | .rem => ⟨k = k' ∧ y ≠ 0, .int k (x.tmod y)⟩
  | .shl => ⟨0 ≤ y, .int k (k.wrap (x * 2 ^ min y.toNat k.bits))⟩
  | .shr => ⟨0 ≤ y, .int k (x.fdiv (2 ^ min y.toNat k.bits))⟩
  | .lss => ⟨k = k', .bool (decide (x < y))⟩
  | .leq => ⟨k = k', .bool (decide (x ≤ y))⟩
  | .gtr => ⟨k = k', .bool (decide (y < x))⟩
  | .geq => ⟨k = k', .bool (decide (y ≤ x))⟩
  | .eql => ⟨k = k', .bool (decide (x = y))⟩
  | .neq => ⟨k = k', .bool (!decide (x = y))⟩
  | b => ⟨k = k', .int k (ibits b k x y)⟩
def astr (b : BinOp) (x y : ByteArray) : PR := match b with
  | .add => ⟨x.size + y.size ≤ 9223372036854775807, .str (x ++ y)⟩
  | .eql => ⟨True, .bool (decide (x = y))⟩
  | .neq => ⟨True, .bool (!decide (x = y))⟩
  | .lss => ⟨True, .bool (Op.bytesLess x.toList y.toList)⟩
  | .leq => ⟨True, .bool (Op.bytesLess x.toList y.toList || decide (x = y))⟩
  | .gtr => ⟨True, .bool (!(Op.bytesLess x.toList y.toList || decide (x = y)))⟩
  | .geq => ⟨True, .bool (!Op.bytesLess x.toList y.toList)⟩
  | _ => no
def aeq1 : TK → PV → PV → Option Bool
  | .int _, .int k a, .int k' b => if k = k' then some (decide (a = b)) else none
  | .string, .str a, .str b => some (decide (a = b))
  | .bool, .bool a, .bool b => some (a == b)
  | _, _, _ => none
def aeqs : List TK → List PV → List PV → Option Bool
  | [], [], [] => some true
  | t :: ts, x :: xs, y :: ys => match aeq1 t x y, aeqs ts xs ys with | some a, some b => some (a && b) | _, _ => none
  | _, _, _ => none
def abin (P : Program) (b : BinOp) (t : TypeId) : PV → PV → PR
  | .int k x, .int k' y => aint b k x k' y
  | .str x, .str y => astr b x y
  | .bool x, .bool y => match b with
    | .eql => ⟨tk P t = .bool, .bool (x == y)⟩
    | .neq => ⟨tk P t = .bool, .bool (!(x == y))⟩
    | _ => no
  | .ag xs, .ag ys => match aeqs (tyD P t).eqk xs ys with
    | some r => match b with
      | .eql => ⟨(tyD P t).eqf = true, .bool r⟩
      | .neq => ⟨(tyD P t).eqf = true, .bool (!r)⟩
      | _ => no
    | none => no
  | _, _ => no
/-- Known under cs: taken where the guard is cs (or longer). -/
def within : List Bool → List Bool → Prop
  | [], _ => True
  | a :: ds, b :: cs => a = b ∧ within ds cs
  | _, _ => False
theorem within_all : ∀ {ds cs : List Bool}, within ds cs → cs.all id = true → ds.all id = true
  | [], _, _, _ => rfl
  | a :: ds, b :: cs, h, hc => by
    rw [List.all_cons, Bool.and_eq_true] at hc ⊢
    exact ⟨by rw [h.1]; exact hc.1, within_all h.2 hc.2⟩
  | _ :: _, [], h, _ => h.elim
instance within_dec : ∀ ds cs : List Bool, Decidable (within ds cs)
  | [], _ => .isTrue trivial
  | a :: ds, b :: cs => by unfold within; exact @instDecidableAnd _ _ _ (within_dec ds cs)
  | _ :: _, [] => .isFalse (fun h => h)
def strip (cs : List Bool) : PV → PV
  | .gd ds p => if within ds cs then p else .gd ds p
  | p => p
def pickv (cs : List Bool) (t : Bool) (a b : PV) : PV := match strip (cs ++ [t]) a, strip (cs ++ [!t]) b with
  | .bool x, .bool y => .bool (bif t then x else y)
  | p, q => bif t then p else q
theorem pickv_t {cs : List Bool} {a b : PV} : pickv cs true a b = strip (cs ++ [true]) a := by
  unfold pickv; split
  · rename_i h _; rw [h]; rfl
  · rfl
theorem pickv_f {cs : List Bool} {a b : PV} : pickv cs false a b = strip (cs ++ [true]) b := by
  unfold pickv; split
  · rename_i h; rw [show (cs ++ [true]) = (cs ++ [!false]) from rfl, h]; rfl
  · rfl
theorem pickv_bb {cs : List Bool} {t x y : Bool} : pickv cs t (.bool x) (.bool y) = .bool (bif t then x else y) := rfl
theorem pickv_gb {cs ds : List Bool} {t x y : Bool} : pickv cs t (.gd ds (.bool x)) (.bool y) = if within ds (cs ++ [t]) then .bool (bif t then x else y) else bif t then .gd ds (.bool x) else .bool y := by
  by_cases h : within ds (cs ++ [t]) <;> simp only [pickv, strip, h, if_true, if_false]
theorem pickv_bg {cs ds : List Bool} {t x y : Bool} : pickv cs t (.bool x) (.gd ds (.bool y)) = if within ds (cs ++ [!t]) then .bool (bif t then x else y) else bif t then .bool x else .gd ds (.bool y) := by
  by_cases h : within ds (cs ++ [!t]) <;> simp only [pickv, strip, h, if_true, if_false]
theorem pickv_gg {cs ds es : List Bool} {t x y : Bool} : pickv cs t (.gd ds (.bool x)) (.gd es (.bool y)) = if within ds (cs ++ [t]) then (if within es (cs ++ [!t]) then .bool (bif t then x else y) else bif t then .bool x else .gd es (.bool y)) else bif t then .gd ds (.bool x) else if within es (cs ++ [!t]) then .bool y else .gd es (.bool y) := by
  by_cases h : within ds (cs ++ [t]) <;> by_cases h' : within es (cs ++ [!t]) <;> simp only [pickv, strip, h, h', if_true, if_false]
def ld (d : TD) (cs : List PV) : PR := match d.k with
  | .struct => ⟨d.sz ≤ cs.length, .ag (cs.take d.sz)⟩
  | .other => no
  | _ => match cs with | p :: _ => ⟨True, p⟩ | [] => no
/-- It owns nothing from within. -/
def PV.isOw : PV → Bool
  | .ow _ _ _ => true
  | _ => false
def nOw : PV → Prop
  | .ow _ _ _ => False
  | .ag cs => cs.all (fun p => !p.isOw) = true
  | _ => True
def ldo (d : TD) (cs : List PV) : PR := ⟨(ld d cs).ok ∧ nOw (ld d cs).v, (ld d cs).v⟩
def pcells : PV → Option (List PV)
  | .ag cs => some cs
  | .und | .gd _ _ | .tu _ | .ow _ _ _ => none
  | p => some [p]
end Go.Proofs.YtofaiiobggnibaaW.AW
namespace Go.Proofs.YtofaiiobggnibaaW.AW
open Go Go.RowKit
set_option linter.unusedVariables false

def optI (e : Operand → PV) : Option Operand → Option (Option Int)
  | none => some none
  | some x => match e x with | .int _ n => some (some n) | _ => none
def aslice (P : Program) (t : TypeId) (x : PV) (lo hi : Option Int) : PR := match x with
  | .str s => let l := lo.getD 0; let h := hi.getD s.size; ⟨tk P t = .string ∧ 0 ≤ l ∧ l ≤ h ∧ h ≤ s.size, .str (s.extract l.toNat h.toNat)⟩
  | .cl sz n g => let l := lo.getD 0; let h := hi.getD n; ⟨(tyD P t).es = sz ∧ (tyD P t).eok = true ∧ 0 ≤ l ∧ l ≤ h ∧ h ≤ n, .cl sz (h - l).toNat (fun i => g (l.toNat + i))⟩
  | .sl o sz n off len => let l := lo.getD 0; let h := hi.getD len; ⟨(tyD P t).es = sz ∧ (tyD P t).eok = true ∧ 0 ≤ l ∧ l ≤ h ∧ h ≤ len, .sl o sz n (off + l.toNat) (h - l).toNat⟩
  | .nils => ⟨(tyD P t).eok = true ∧ lo.getD 0 = 0 ∧ hi.getD 0 = 0, .nils⟩
  | _ => no
def alen (P : Program) (t : TypeId) : PV → PR
  | .str s => ⟨tk P t = .string, .int .i64 s.size⟩
  | .cl _ n _ => ⟨(tyD P t).eok = true, .int .i64 n⟩
  | .sl _ _ _ _ n => ⟨(tyD P t).eok = true, .int .i64 n⟩
  | .nils => ⟨(tyD P t).eok = true, .int .i64 0⟩
  | _ => no
def aconv (P : Program) (s d : TypeId) : PV → PR
  | .int k n => match tk P s, tk P d with
    | .int _, .int q => ⟨True, .int q (q.wrap n)⟩
    | .int _, .string => ⟨True, .str (Utf8.encode n)⟩
    | _, _ => no
  | .str x => match tk P s, tk P d with
    | .string, .string => ⟨True, .str x⟩
    | _, _ => no
  | _ => no
/-- The bytes of a row. -/
def byteAt : List PV → UInt8
  | [.int .u8 n] => UInt8.ofNat n.toNat
  | _ => 0
def bytesG (n : Nat) (g : Nat → List PV) : ByteArray := ⟨((List.range n).map (fun i => byteAt (g i))).toArray⟩
def rowU8 (n : Nat) (g : Nat → List PV) : Prop := ∀ i, i < n → ∃ x, g i = [.int .u8 x]
def tkU8 (P : Program) (t : TypeId) : Prop := match tk P t with | .slice e => tk P e = .int .u8 | _ => False
instance (P : Program) (t : TypeId) : Decidable (tkU8 P t) := by unfold tkU8; split <;> infer_instance
/-- Conversions that read memory: bytes to a string. -/
def aconvM (P : Program) (s d : TypeId) (m : Mem) : PV → PR
  | .cl 1 n g => ⟨tkU8 P s ∧ tk P d = .string ∧ rowU8 n g, .str (bytesG n g)⟩
  | .nils => ⟨tkU8 P s ∧ tk P d = .string, .str .empty⟩
  | .sl o 1 n off len => match m.o o with
    | some (.row 1 n' g) => ⟨n' = n ∧ tkU8 P s ∧ tk P d = .string ∧ rowU8 len (fun i => g (off + i)), .str (bytesG len (fun i => g (off + i)))⟩
    | _ => no
  | p => aconv P s d p
def afill (fs : List (Nat × Nat × Nat)) : List PV → List (Nat × PV) → Option (List PV)
  | cs, [] => some cs
  | cs, (i, v) :: r => match fs[i]?, pcells v with
    | some (off, sz, _), some vs => if vs.length = sz ∧ off + sz ≤ cs.length then afill fs (cs.take off ++ vs ++ cs.drop (off + sz)) r else none
    | _, _ => none
/-- The operations that leave memory alone. -/
def apure (P : Program) (cs : List Bool) (op : Op) (e : Operand → PV) (m : Mem) : PR := match op with
  | .move x | .assign x => ⟨True, e x⟩
  | .pick c a b => match e c with | .bool t => ⟨True, pickv cs t (e a) (e b)⟩ | _ => no
  | .unOp .not _ x => match e x with | .bool b => ⟨True, .bool !b⟩ | _ => no
  | .unOp .neg _ x => match e x with | .int k n => ⟨True, .int k (k.wrap (0 - n))⟩ | _ => no
  | .binOp b t x y _ => abin P b t (e x) (e y)
  | .convert s d x => aconvM P s d m (e x)
  | .extract x i => match e x with | .tu ps => ⟨i < ps.length, ps.getD i .und⟩ | _ => no
  | .field t x f => match (tyD P t).fs[f]? with
    | some (off, _, ft) => match e x with
      | .ag cs => ⟨(tyD P t).k = .struct ∧ off ≤ cs.length ∧ (ld (tyD P ft) (cs.drop off)).ok, (ld (tyD P ft) (cs.drop off)).v⟩
      | _ => no
    | none => no
  | .index t x i => match e x, e i with
    | .str s, .int _ n => ⟨tk P t = .string ∧ 0 ≤ n ∧ n < s.size, .int .u8 (bt s n)⟩
    | _, _ => no
  | .fieldAddr t x f => match (tyD P t).fs[f]? with
    | some (off, sz, _) => match e x with
      | .bp o j => ⟨(tyD P t).k = .struct ∧ sz ≠ 0, .bp o (j + off)⟩
      | .pt o es n i j => ⟨(tyD P t).k = .struct ∧ sz ≠ 0, .pt o es n i (j + off)⟩
      | .pc cs => ⟨(tyD P t).k = .struct ∧ sz ≠ 0, .pc (cs.drop off)⟩
      | _ => no
    | none => no
  | .indexAddr t x i => match e x, e i with
    | .cl sz n g, .int _ ix => ⟨(tyD P t).es = sz ∧ (tyD P t).eok = true ∧ 0 ≤ ix ∧ ix < n, .pc (g ix.toNat)⟩
    | .sl o sz n off len, .int _ ix => ⟨(tyD P t).es = sz ∧ (tyD P t).eok = true ∧ 0 ≤ ix ∧ ix < len, .pt o sz n (off + ix.toNat) 0⟩
    | _, _ => no
  | .load t x => match e x with
    | .pc cs => ld (tyD P t) cs
    | .bp o j => match m.o o with | some (.box cs) => ldo (tyD P t) (cs.drop j) | _ => no
    | .pt o sz n i j => match m.o o with | some (.row sz' n' g) => ⟨sz' = sz ∧ n' = n ∧ (ldo (tyD P t) ((g i).drop j)).ok, (ld (tyD P t) ((g i).drop j)).v⟩ | _ => no
    | _ => no
  | .slice t x lo hi none => match optI e lo, optI e hi with
    | some l, some h => aslice P t (e x) l h
    | _, _ => no
  | .lookup t x i ok => match e x, e i with
    | .mp o, .int .i64 k => match m.o o with
      | some (.map f) => match (tyD P t).k with
        | .map kt et => ⟨tk P kt = .int .i64 ∧ (tyD P et).zvk = true, if ok then .tu [(f k).getD (tyD P et).zv, .bool (f k).isSome] else (f k).getD (tyD P et).zv⟩
        | _ => no
      | _ => no
    | _, _ => no
  | .nilCheck x => match e x with
    | .bp o j => ⟨True, .bp o j⟩
    | .pt o sz n i j => ⟨True, .pt o sz n i j⟩
    | .pc cs => ⟨True, .pc cs⟩
    | .fn f ps => ⟨True, .fn f ps⟩
    | _ => no
  | .makeFunc (.func f) fi ca => ⟨fi = #[], .fn f (ca.toList.map e)⟩
  | .build t ps => match afill (tyD P t).fs (tyD P t).zc (ps.toList.map (fun x => (x.1, e x.2))) with
    | some cs => ⟨(tyD P t).k = .struct ∧ (tyD P t).zok = true, .ag cs⟩
    | none => no
  | .call c => match c.callee with
    | .builtin .len => match c.args.toList, c.argTypes.toList with | [x], [t] => alen P t (e x) | _, _ => no
    | .builtin .max => match c.args.toList with | [x, y] => (match e x, e y with | .int k a, .int k' b => ⟨k = k', .int k (if b > a then b else a)⟩ | _, _ => no) | _ => no
    | .builtin .min => match c.args.toList with | [x, y] => (match e x, e y with | .int k a, .int k' b => ⟨k = k', .int k (if b < a then b else a)⟩ | _, _ => no) | _ => no
    | _ => no
  | _ => no

section inv
variable {β κ : Id → Nat} {D : Id → Prop} {w : World} {S : Nat → Prop} {v : Value}
theorem OV.bool_inv {b : Bool} (h : OV β κ D w S v (.bool b)) : v = .bool b := by cases h with | rv _ _ h => cases h; rfl
theorem OV.int_inv {k : IntKind} {n : Int} (h : OV β κ D w S v (.int k n)) : v = .int k n ∧ k.min ≤ n ∧ n ≤ k.max := by cases h with | rv _ _ h => cases h with | int _ _ h => exact ⟨rfl, h⟩
theorem OV.str_inv {s : ByteArray} (h : OV β κ D w S v (.str s)) : v = .string s ∧ s.size ≤ 9223372036854775807 := by cases h with | rv _ _ h => cases h with | str _ h => exact ⟨rfl, h⟩
theorem OV.nils_inv (h : OV β κ D w S v .nils) : v = .slice none 0 0 := by cases h with | rv _ _ h => cases h; rfl
theorem OV.int_mk {k : IntKind} {n : Int} (h : k.min ≤ n ∧ n ≤ k.max) : OV β κ D w S (.int k n) (.int k n) := .rv _ _ (.int _ _ h)
theorem OV.bool_mk {b : Bool} : OV β κ D w S (.bool b) (.bool b) := .rv _ _ (.bool _)
theorem OV.str_mk {s : ByteArray} (h : s.size ≤ 9223372036854775807) : OV β κ D w S (.string s) (.str s) := .rv _ _ (.str _ h)
theorem wrap_in (k : IntKind) (n : Int) : k.min ≤ k.wrap n ∧ k.wrap n ≤ k.max := by
  have h := Go.wf_wrap k n
  simpa [Lit.wf] using h
theorem OV.wrap_mk {k : IntKind} {n : Int} : OV β κ D w S (.int k (k.wrap n)) (.int k (k.wrap n)) := .int_mk (wrap_in k n)
theorem OV.strip {cs : List Bool} {p : PV} (h : OV β κ D w S v p) (hc : cs.all id = true) : OV β κ D w S v (strip cs p) := by
  cases p with
  | gd ds q =>
    show OV β κ D w S v (if within ds cs then q else .gd ds q)
    by_cases hw : within ds cs
    · rw [if_pos hw]
      have hd : ds.all id = true := within_all hw hc
      cases h with
      | rv _ _ h => cases h with | gd _ _ _ h _ => exact .rv _ _ (h hd)
      | gd _ _ _ h _ => exact h hd
    · rw [if_neg hw]
      exact h
  | _ => exact h
end inv
end Go.Proofs.YtofaiiobggnibaaW.AW
namespace Go.Proofs.YtofaiiobggnibaaW.AW
open Go Go.RowKit
set_option linter.unusedVariables false
set_option linter.unusedSimpArgs false

section
variable {P : Program} {β κ : Id → Nat} {D : Id → Prop} {w : World} {S : Nat → Prop}
theorem tk_some {t : TypeId} (h : tk P t ≠ .other) : (P.underlying t).isSome = true := by
  unfold tk at h
  cases hu : P.underlying t with
  | none => rw [hu] at h; exact absurd rfl h
  | some d => rfl
theorem tk_bool {t : TypeId} (h : tk P t = .bool) : P.underlying t = some .bool := by
  unfold tk at h; split at h <;> first | assumption | cases h
theorem tk_int {t : TypeId} {k : IntKind} (h : tk P t = .int k) : P.underlying t = some (.int k) := by
  unfold tk at h; split at h <;> first | (cases h; assumption) | cases h
theorem tk_string {t : TypeId} (h : tk P t = .string) : P.underlying t = some .string := by
  unfold tk at h; split at h <;> first | assumption | cases h
theorem tk_struct {t : TypeId} (h : tk P t = .struct) : ∃ fs, P.underlying t = some (.struct fs) := by
  unfold tk at h; split at h <;> first | exact ⟨_, by assumption⟩ | cases h
theorem bytes_eq {a b : ByteArray} : (a.toList == b.toList) = decide (a = b) := by
  rw [Bool.eq_iff_iff, beq_iff_eq, ByteArray.toList_eq, ByteArray.toList_eq, decide_eq_true_eq]
  exact ⟨fun h => ByteArray.ext (Array.toList_inj.mp h), fun h => by rw [h]⟩
theorem int_beq (a c : Int) : (a == c) = decide (a = c) := by rw [Bool.eq_iff_iff]; simp
theorem tmod_in {k : IntKind} {x y : Int} (h : k.min ≤ x ∧ x ≤ k.max) : k.min ≤ x.tmod y ∧ x.tmod y ≤ k.max := by
  have h0 : k.min ≤ 0 ∧ 0 ≤ k.max := by cases k <;> decide
  have h1 := Int.natAbs_tmod x y
  have h2 := Nat.mod_le x.natAbs y.natAbs
  rcases Int.le_total 0 x with hx | hx
  · have h3 := Int.tmod_nonneg y hx
    omega
  · have h3 := Int.tmod_nonneg y (show 0 ≤ -x by omega)
    rw [Int.neg_tmod] at h3
    omega
theorem fdiv_in {k : IntKind} {x : Int} {n : Nat} (h : k.min ≤ x ∧ x ≤ k.max) : k.min ≤ x.fdiv (2 ^ n) ∧ x.fdiv (2 ^ n) ≤ k.max := by
  have h0 : k.min ≤ 0 ∧ 0 ≤ k.max := by cases k <;> decide
  have hp : (1 : Int) ≤ 2 ^ n := by exact_mod_cast Nat.one_le_two_pow
  rw [Int.fdiv_eq_ediv_of_nonneg _ (by omega)]
  rcases Int.le_total 0 x with hx | hx
  · have h1 := Int.ediv_nonneg hx (show 0 ≤ (2:Int) ^ n by omega)
    have h2 := Int.ediv_le_self (2 ^ n) hx
    omega
  · have h1 : x / 2 ^ n ≤ 0 := Int.ediv_le_of_le_mul (by omega) (by simpa using hx)
    have h2 : x ≤ x / 2 ^ n := by
      rw [Int.le_ediv_iff_mul_le (by omega)]
      have := Int.mul_le_mul_of_nonneg_left (show -(2:Int)^n ≤ -1 by omega) (show 0 ≤ -x by omega)
      have e : -x * -(2:Int)^n = x * 2^n := by rw [Int.neg_mul_neg]
      rw [e] at this; omega
    omega
theorem part_one {t : TypeId} {vs : Array Value} {i : Nat} {v : Value} (h : vs[i]? = some v) (ht : scal P t = true) (w : World) : (part t vs i).run P w = .ok v w := by
  have ha : (isAgg t).run P w = .ok false w := by
    unfold scal at ht
    cases hu : P.underlying t with
    | none => rw [hu] at ht; cases ht
    | some d => rw [hu] at ht; cases d <;> simp_all [isAgg, run_underlying hu]
  simp [part, ha, h]
theorem eq1_ok {t : TypeId} {vx vy : Value} {x y : PV} {r : Bool} (hx : OV β κ D w S vx x) (hy : OV β κ D w S vy y) (h : aeq1 (tk P t) x y = some r) (d : Nat) : (Op.equalIn (d + 1) t vx vy).run P w = .ok r w := by
  unfold aeq1 at h
  split at h
  · rename_i k0 k a k' b ht
    split at h
    · rename_i hk
      subst hk
      simp only [Option.some.injEq] at h; subst h
      rw [hx.int_inv.1, hy.int_inv.1, run_equalIn_int w d t k _ a b (tk_int ht), int_beq]
    · cases h
  · rename_i a b ht
    simp only [Option.some.injEq] at h; subst h
    rw [hx.str_inv.1, hy.str_inv.1, run_equalIn_string w d t a b (tk_string ht), bytes_eq]
  · rename_i a b ht
    simp only [Option.some.injEq] at h; subst h
    rw [hx.bool_inv, hy.bool_inv, run_equalIn_bool' w d t a b (tk_bool ht)]
  · cases h
theorem eqs_ok {vx vy : Array Value} (d : Nat) : ∀ (fs : List Field) (i : Nat) (xs ys : List PV) (r : Bool), eqFs P i fs = true → aeqs (fs.map (fun f => tk P f.type)) xs ys = some r →
    (∀ (j : Nat) p, xs[j]? = some p → ∃ v, vx[i + j]? = some v ∧ OV β κ D w S v p) → (∀ (j : Nat) p, ys[j]? = some p → ∃ v, vy[i + j]? = some v ∧ OV β κ D w S v p) → (Op.eqFields (d + 1) vx vy fs).run P w = .ok r w
  | [], i, xs, ys, r, _, h, _, _ => by
    cases xs <;> cases ys <;> simp only [List.map_nil, aeqs, Option.some.injEq] at h <;> first | (subst h; simp [Op.eqFields]) | cases h
  | f :: fs, i, xs, ys, r, hf, h, hx, hy => by
    simp only [eqFs, Bool.and_eq_true, bne_iff_ne, beq_iff_eq] at hf
    obtain ⟨⟨⟨h1, h2⟩, h3⟩, h4⟩ := hf
    cases xs with
    | nil => simp [aeqs] at h
    | cons x xs =>
      cases ys with
      | nil => simp [aeqs] at h
      | cons y ys =>
        simp only [List.map_cons, aeqs] at h
        split at h
        · rename_i a b ha hb
          simp only [Option.some.injEq] at h; subst h
          obtain ⟨v, v1, v2⟩ := hx 0 x rfl
          obtain ⟨u, u1, u2⟩ := hy 0 y rfl
          have ih := eqs_ok d fs (i + 1) xs ys b h4 hb (fun j p hp => by have := hx (j + 1) p (by simpa using hp); rwa [show i + 1 + j = i + (j + 1) by omega]) (fun j p hp => by have := hy (j + 1) p (by simpa using hp); rwa [show i + 1 + j = i + (j + 1) by omega])
          have e1 : (part f.type vx f.offset).run P w = .ok v w := part_one (by rw [h2]; exact v1) h3 w
          have e2 : (part f.type vy f.offset).run P w = .ok u w := part_one (by rw [h2]; exact u1) h3 w
          have e3 := eq1_ok (P := P) (t := f.type) v2 u2 ha d
          simp only [Op.eqFields]
          rw [if_pos h1]
          cases a <;> simp [e1, e2, e3, ih]
        · cases h
theorem ag_at {ps : List PV} {v : Value} (h : OV β κ D w S v (.ag ps)) : ∃ vs : Array Value, v = .agg vs ∧ ∀ (j : Nat) p, ps[j]? = some p → ∃ u, vs[j]? = some u ∧ OV β κ D w S u p := by
  have key : ∀ (vs : Array Value), vs.size = ps.length → (∀ j p, ps[j]? = some p → OV β κ D w S (vs.getD j undef) p) → ∀ (j : Nat) p, ps[j]? = some p → ∃ u, vs[j]? = some u ∧ OV β κ D w S u p := fun vs hl hv j p hp => by
    have hj : j < vs.size := by rw [hl]; exact (List.getElem?_eq_some_iff.1 hp).1
    exact ⟨vs.getD j undef, by simp [Array.getD, hj], hv j p hp⟩
  cases h with
  | rv _ _ h => cases h with | ag vs _ hl h1 hv => exact ⟨vs, rfl, key vs hl (fun j p hp => .rv _ _ (hv j p hp))⟩
  | ag vs _ hl h1 hv => exact ⟨vs, rfl, key vs hl hv⟩
theorem eqStruct {t : TypeId} {x y : Value} {xs ys : List PV} {r : Bool} (hx : OV β κ D w S x (.ag xs)) (hy : OV β κ D w S y (.ag ys)) (h : aeqs (tyD P t).eqk xs ys = some r) (hf : (tyD P t).eqf = true) :
    ∃ vx vy, x = .agg vx ∧ y = .agg vy ∧ (Op.equalIn 10000 t (.agg vx) (.agg vy)).run P w = .ok r w ∧ P.eqGuardType P.depth t = false := by
  obtain ⟨vx, rfl, v1⟩ := ag_at hx
  obtain ⟨vy, rfl, v2⟩ := ag_at hy
  cases hu : P.underlying t with
  | none => simp [tyD, hu] at hf
  | some d =>
    cases d <;> try (simp [tyD, hu] at hf; done)
    rename_i fs
    simp only [tyD, hu, Bool.and_eq_true, Bool.not_eq_true'] at hf h
    have hfo : P.fieldsOf t = fs := by simp [Program.fieldsOf, hu]
    refine ⟨vx, vy, rfl, rfl, ?_, hf.2⟩
    rw [run_equalIn_struct w 9999 t vx vy (by rw [hfo]; exact hu) hf.1.2, hfo]
    exact eqs_ok 9998 fs.toList 0 xs ys r hf.1.1 h (fun j p hp => by rw [Nat.zero_add]; exact v1 j p hp) (fun j p hp => by rw [Nat.zero_add]; exact v2 j p hp)
theorem ok_bin {b : BinOp} {t : TypeId} {x y : PV} {vx vy : Value} (hx : OV β κ D w S vx x) (hy : OV β κ D w S vy y) (h : (abin P b t x y).ok) :
    ∃ v, (binOp b t vx vy).run P w = .ok v w ∧ OV β κ D w S v (abin P b t x y).v := by
  unfold abin at h ⊢
  split at h <;> rename_i k a k' c
  · obtain ⟨rfl, h1⟩ := hx.int_inv
    obtain ⟨rfl, h2⟩ := hy.int_inv
    cases b <;> simp only [aint] at h ⊢
    case add => obtain rfl := h; exact ⟨_, by simp [binOp, Op.intArith], .wrap_mk⟩
    case sub => obtain rfl := h; exact ⟨_, by simp [binOp, Op.intArith], .wrap_mk⟩
    case mul => obtain rfl := h; exact ⟨_, by simp [binOp, Op.intArith], .wrap_mk⟩
    case quo => obtain ⟨rfl, hc⟩ := h; exact ⟨_, by simp [binOp, Op.intDiv, hc], .wrap_mk⟩
    case rem => obtain ⟨rfl, hc⟩ := h; exact ⟨_, by simp [binOp, Op.intDiv, hc], .int_mk (tmod_in h1)⟩
    case shl => exact ⟨_, by simp [binOp, Op.shift, show ¬ c < 0 by omega], .wrap_mk⟩
    case shr => exact ⟨_, by simp [binOp, Op.shift, show ¬ c < 0 by omega], .int_mk (fdiv_in h1)⟩
    case lss => obtain rfl := h; exact ⟨_, by simp [binOp, Op.intCmp], .bool_mk⟩
    case leq => obtain rfl := h; exact ⟨_, by simp [binOp, Op.intCmp], .bool_mk⟩
    case gtr => obtain rfl := h; exact ⟨_, by simp [binOp, Op.intCmp], .bool_mk⟩
    case geq => obtain rfl := h; exact ⟨_, by simp [binOp, Op.intCmp], .bool_mk⟩
    case eql => obtain rfl := h; exact ⟨_, by simp [binOp, Op.intCmp, int_beq], .bool_mk⟩
    case neq => obtain rfl := h; exact ⟨_, by simp [binOp, Op.intCmp, bne, int_beq], .bool_mk⟩
    all_goals (obtain rfl := h; exact ⟨_, by simp [binOp, Op.intBits, ibits], .wrap_mk⟩)
  · obtain ⟨rfl, h1⟩ := hx.str_inv
    obtain ⟨rfl, h2⟩ := hy.str_inv
    cases b <;> simp only [astr, no] at h ⊢
    case add =>
      have e : ¬ ((k'.size + c.size : Nat) : Int) > IntKind.i64.max := by rw [show IntKind.i64.max = 9223372036854775807 from rfl]; omega
      exact ⟨.string (k' ++ c), by simp only [binOp, Op.stringOp]; rw [if_neg e]; rfl, .str_mk (by rw [ByteArray.size_append]; exact h)⟩
    all_goals exact ⟨_, by simp only [binOp, Op.stringOp, bytes_eq]; rfl, .bool_mk⟩
  · obtain rfl := hx.bool_inv
    obtain rfl := hy.bool_inv
    cases b <;> simp only [no] at h ⊢
    case eql => exact ⟨_, run_eql_bool w t _ _ (tk_bool h), .bool_mk⟩
    case neq => exact ⟨_, run_neq_bool w t _ _ (tk_bool h), .bool_mk⟩
  · split at h
    · rename_i r hr
      cases b <;> simp only [no] at h ⊢
      case eql => obtain ⟨vx, vy, rfl, rfl, e, _⟩ := eqStruct hx hy hr h; exact ⟨_, by rw [run_eql_struct, e]; rfl, .bool_mk⟩
      case neq => obtain ⟨vx, vy, rfl, rfl, e, _⟩ := eqStruct hx hy hr h; exact ⟨_, by rw [run_neq_struct, e]; rfl, .bool_mk⟩
    · exact h.elim
  · exact h.elim

theorem info_of {t : TypeId} {d : TypeDesc} (h : P.underlying t = some d) : ∃ i, P.info? t = some i := by
  unfold Program.underlying at h
  cases hi : P.info? t with
  | none => rw [hi] at h; cases h
  | some i => exact ⟨i, rfl⟩
theorem run_sz {t : TypeId} {d : TypeDesc} (h : P.underlying t = some d) (w : World) : (sizeOf t).run P w = .ok (P.cellsOf t) w := by
  obtain ⟨i, hi⟩ := info_of h
  simp [sizeOf, typeInfo, hi, Program.cellsOf]
theorem run_agg_struct {t : TypeId} {fs : Array Field} (h : P.underlying t = some (.struct fs)) (w : World) : (isAgg t).run P w = .ok true w := by
  simp [isAgg, run_underlying h]
theorem run_agg_no {t : TypeId} (h : tk P t ≠ .other) (h2 : tk P t ≠ .struct) (w : World) : (isAgg t).run P w = .ok false w := by
  unfold tk at h h2
  cases hu : P.underlying t with
  | none => rw [hu] at h; exact absurd rfl h
  | some d => rw [hu] at h h2; cases d <;> simp_all [isAgg, run_underlying hu]
theorem nOw_isOw {p : PV} (h : nOw p) : p.isOw = false := by cases p <;> first | rfl | exact h.elim
/-- A value read at an address whose cells are known. -/
theorem ok_ld {t : TypeId} {a : Addr} {cs : List PV} (hc : ∀ j p, cs[j]? = some p → ∃ v, w.cell? (a.add j) = some v ∧ v.oneCell' = true ∧ (p.isOw = false → OV β κ D w S v p)) (h : (ldo (tyD P t) cs).ok) :
    ∃ v, (loadVar t a).run P w = .ok v w ∧ OV β κ D w S v (ld (tyD P t) cs).v := by
  have hk : (tyD P t).k = tk P t := rfl
  obtain ⟨h, hn⟩ := h
  unfold ld at h hn ⊢
  rw [hk] at h hn ⊢
  have scalar : tk P t ≠ .other → tk P t ≠ .struct → ∀ p r, cs = p :: r → nOw p → ∃ v, (loadVar t a).run P w = .ok v w ∧ OV β κ D w S v p := by
    intro h1 h2 p r e hp
    obtain ⟨v, hv, _, ho⟩ := hc 0 p (by rw [e]; rfl)
    rw [Addr.add_zero'] at hv
    exact ⟨v, by simp [loadVar, run_agg_no h1 h2, hv], ho (nOw_isOw hp)⟩
  cases hT : tk P t with
  | struct =>
    rw [hT] at h hn
    obtain ⟨fs, hu⟩ := tk_struct hT
    have hs : P.cellsOf t ≤ cs.length := h
    have hn' : ∀ p ∈ cs.take (P.cellsOf t), p.isOw = false := fun p hp => by
      have := List.all_eq_true.1 (show (cs.take (P.cellsOf t)).all (fun p => !p.isOw) = true from hn) p hp
      simpa using this
    have hex : ∀ j, ∃ v, ∀ p, cs[j]? = some p → w.cell? (a.add j) = some v ∧ v.oneCell' = true ∧ (p.isOw = false → OV β κ D w S v p) := by
      intro j
      cases hj : cs[j]? with
      | none => exact ⟨undef, fun p hp => by cases hp⟩
      | some p => obtain ⟨v, hv⟩ := hc j p hj; exact ⟨v, fun q hq => by cases hq; exact hv⟩
    obtain ⟨val, hval⟩ := Classical.axiomOfChoice hex
    have hr := run_loadCells (P := P) w a (P.cellsOf t) val (fun j hj => (hval j _ (List.getElem?_eq_getElem (Nat.lt_of_lt_of_le hj hs))).1)
    refine ⟨.agg ((List.range (P.cellsOf t)).map val).toArray, ?_, ?_⟩
    · simp [loadVar, run_agg_struct hu, run_sz hu, hr]
    · refine .ag _ _ (by simp [tyD]; omega) (fun j p hp => ?_) (fun j p hp => ?_)
      all_goals
        have hp' : cs[j]? = some p ∧ j < P.cellsOf t := by
          rw [List.getElem?_take] at hp
          split at hp
          · exact ⟨hp, by assumption⟩
          · cases hp
        have e : (((List.range (P.cellsOf t)).map val).toArray).getD j undef = val j := by simp [Array.getD, hp'.2]
        rw [e]
      · exact (hval j p hp'.1).2.1
      · exact (hval j p hp'.1).2.2 (hn' p (List.mem_of_getElem? hp))
  | other => rw [hT] at h; exact h.elim
  | _ =>
    rw [hT] at h hn
    cases cs with
    | nil => exact h.elim
    | cons p r => exact scalar (by rw [hT]; simp) (by rw [hT]; simp) p r rfl hn
theorem ldo_of {d : TD} {cs : List PV} (h : (ld d cs).ok) (hc : ∀ p ∈ cs, nOw p) : (ldo d cs).ok := by
  refine ⟨h, ?_⟩
  unfold ld at h ⊢
  cases hd : d.k <;> rw [hd] at h <;> simp only at h ⊢
  all_goals first
    | exact h.elim
    | (show (cs.take d.sz).all (fun p => !p.isOw) = true
       rw [List.all_eq_true]; intro p hp; simp [nOw_isOw (hc p (List.mem_of_mem_take hp))])
    | (cases cs with
       | nil => exact h.elim
       | cons p r => exact hc p (by simp))
end
end Go.Proofs.YtofaiiobggnibaaW.AW
