/- An abstract state of a function's frame, in words of its own, and what it says of a frame and a world of the model. Plain words and lemmas: no statement of the program. -/
import Derived.Below
import Derived.LoopN
import Derived.OpenShut
import Derived.MapKept
namespace Go.Proofs.YtolejglfohagnaaW.AW
open Go Go.RowKit
set_option linter.unusedVariables false

abbrev Id := List Nat
/-- What a slot or a cell holds. cl: a slice that is only read (element size, length, cells of an element); sl: a slice of an object of one's own (object, element size, its length, from, length); ow: in a cell alone: a slice whose row is owned by the cell; pc: an address of cells that are only read; bp: of a variable's cell; pt: of an element's cell; mp: a map of one's own; gd: known where all of cs hold. -/
inductive PV where
  | und
  | bool (b : Bool)
  | int (k : IntKind) (n : Int)
  | str (s : ByteArray)
  | nils
  | cl (sz n : Nat) (g : Nat → List PV)
  | sl (o : Id) (sz n off len : Nat)
  | ow (sz n : Nat) (g : Nat → List PV)
  | pc (cs : List PV)
  | bp (o : Id) (j : Nat)
  | pt (o : Id) (sz n i j : Nat)
  | mp (o : Id)
  | ag (cs : List PV)
  | tu (vs : List PV)
  | fn (f : FuncId) (caps : List PV)
  | gd (cs : List Bool) (p : PV)
/-- Memory of one's own: a variable, a row of elements, a map from whole numbers, what is left of a map that is gone through. -/
inductive Ob where
  | no
  | box (cs : List PV)
  | row (sz n : Nat) (g : Nat → List PV)
  | map (f : Int → Option PV)
  | it (es : List (Int × PV))
structure Mem where
  o : Id → Option Ob
  nx : Nat
structure AS where
  t : Nat → PV
  m : Mem
def hb : Id → Nat → Prop
  | [], _ => False
  | k :: _, n => k < n

/-- A value that is only read: its blocks are S's. -/
inductive RV (w : World) (S : Nat → Prop) : Value → PV → Prop
  | und (v) : RV w S v .und
  | bool (b) : RV w S (.bool b) (.bool b)
  | int (k n) (h : k.min ≤ n ∧ n ≤ k.max) : RV w S (.int k n) (.int k n)
  | str (s) (h : s.size ≤ 9223372036854775807) : RV w S (.string s) (.str s)
  | nils : RV w S (.slice none 0 0) .nils
  | cl0 (A c sz g) : RV w S (.slice A 0 c) (.cl sz 0 g)
  | cl (a n c sz g) (val : Nat → Nat → Value) (hn : n ≤ c) (hc : c ≤ 9223372036854775807) (hS : S a.block) (hl : ∀ i, i < n → (g i).length = sz)
      (hcell : ∀ i j p, i < n → (g i)[j]? = some p → w.cell? (a.add (i * sz + j)) = some (val i j)) (h1 : ∀ i j p, i < n → (g i)[j]? = some p → (val i j).oneCell' = true)
      (hv : ∀ i j p, i < n → (g i)[j]? = some p → RV w S (val i j) p) : RV w S (.slice (some a) n c) (.cl sz n g)
  | pc (a cs) (val : Nat → Value) (hS : S a.block) (hcell : ∀ j p, cs[j]? = some p → w.cell? (a.add j) = some (val j)) (h1 : ∀ j p, cs[j]? = some p → (val j).oneCell' = true)
      (hv : ∀ j p, cs[j]? = some p → RV w S (val j) p) : RV w S (.pointer (some a)) (.pc cs)
  | ag (vs : Array Value) (ps) (hl : vs.size = ps.length) (h1 : ∀ j p, ps[j]? = some p → (vs.getD j undef).oneCell' = true) (hv : ∀ j p, ps[j]? = some p → RV w S (vs.getD j undef) p) : RV w S (.agg vs) (.ag ps)
  | tu (vs : Array Value) (ps) (hl : vs.size = ps.length) (hv : ∀ j p, ps[j]? = some p → RV w S (vs.getD j undef) p) : RV w S (.tuple vs) (.tu ps)
  | gd (cs v p) (h : cs.all id = true → RV w S v p) (hu : cs.all id = false → v = undef) : RV w S v (.gd cs p)
/-- A value of the frame. β: where an object lies; κ: how many elements its block has room for. -/
inductive OV (β κ : Id → Nat) (D : Id → Prop) (w : World) (S : Nat → Prop) : Value → PV → Prop
  | rv (v p) (h : RV w S v p) : OV β κ D w S v p
  | sl (o sz n off len A c) (hx : D o) (hl : len ≤ c) (hn : off + len ≤ n) (hk : off + c = κ o) (hc : κ o ≤ 9223372036854775807) (hA : 0 < c → A = some ⟨β o, off * sz, none⟩) : OV β κ D w S (.slice A len c) (.sl o sz n off len)
  | bp (o j) (hx : D o) : OV β κ D w S (.pointer (some ⟨β o, j, none⟩)) (.bp o j)
  | pt (o sz n i j) (hx : D o) (hi : i < n) : OV β κ D w S (.pointer (some ⟨β o, i * sz + j, none⟩)) (.pt o sz n i j)
  | mp (o) (hx : D o) : OV β κ D w S (.map (some (β o))) (.mp o)
  | ag (vs : Array Value) (ps) (hl : vs.size = ps.length) (h1 : ∀ j p, ps[j]? = some p → (vs.getD j undef).oneCell' = true) (hv : ∀ j p, ps[j]? = some p → OV β κ D w S (vs.getD j undef) p) : OV β κ D w S (.agg vs) (.ag ps)
  | tu (vs : Array Value) (ps) (hl : vs.size = ps.length) (hv : ∀ j p, ps[j]? = some p → OV β κ D w S (vs.getD j undef) p) : OV β κ D w S (.tuple vs) (.tu ps)
  | fn (f) (vs : Array Value) (ps) (hl : vs.size = ps.length) (hv : ∀ j p, ps[j]? = some p → OV β κ D w S (vs.getD j undef) p) : OV β κ D w S (.func (.func f) #[] vs) (.fn f ps)
  | gd (cs v p) (h : cs.all id = true → OV β κ D w S v p) (hu : cs.all id = false → v = undef) : OV β κ D w S v (.gd cs p)
/-- Nothing of the block is frozen. -/
def fzOk (fz : Nat × Nat) (n : Nat) : Prop := fz.2 = 0 ∨ n ≤ fz.1
/-- What the cells of a block own: F i j the cell's, A all of it. -/
structure Fp (n sz b : Nat) (F : Nat → Nat → Nat → Prop) (A : Nat → Prop) : Prop where
  nb : ∀ i j, ¬ F i j b
  dj : ∀ i j i' j' k, F i j k → F i' j' k → i = i' ∧ j = j'
  dm : ∀ i j k, F i j k → i < n ∧ j < sz
  eq : ∀ k, A k ↔ k = b ∨ ∃ i j, F i j k
/-- A cell that owns what it leads to: the blocks F. -/
inductive CV (w : World) (S : Nat → Prop) : (Nat → Prop) → Value → PV → Prop
  | rv (F v p) (h : RV w S v p) (h0 : ∀ k, ¬ F k) : CV w S F v p
  | no (F A sz g) (h0 : ∀ k, ¬ F k) : CV w S F (.slice A 0 0) (.ow sz 0 g)
  | ow (A b n c sz g) (cur : Array Value) (e : TypeId) (fz : Nat × Nat) (F : Nat → Nat → Nat → Prop) (hz : fzOk fz cur.size) (hp : 0 < c) (hn : n ≤ c) (hm : c ≤ 9223372036854775807) (h0 : 0 < sz) (hh : w.heap[b]? = some (.cells cur e fz)) (hs : cur.size = c * sz) (hl : ∀ i, i < n → (g i).length = sz)
      (hF : Fp n sz b F A) (h1 : ∀ i j p, i < n → (g i)[j]? = some p → (cur.getD (i * sz + j) undef).oneCell' = true) (hv : ∀ i j p, i < n → (g i)[j]? = some p → CV w S (F i j) (cur.getD (i * sz + j) undef) p) :
      CV w S A (.slice (some ⟨b, 0, none⟩) n c) (.ow sz n g)
def TV (β κ : Id → Nat) (D : Id → Prop) (w : World) (S : Nat → Prop) (F : Nat → Prop) (v : Value) (p : PV) : Prop := (OV β κ D w S v p ∧ ∀ k, ¬ F k) ∨ CV w S F v p
/-- A block of cells. -/
def Blk (β κ : Id → Nat) (D : Id → Prop) (w : World) (S : Nat → Prop) (A : Nat → Prop) (b sz n c : Nat) (g : Nat → List PV) : Prop :=
  ∃ cur e fz F, w.heap[b]? = some (.cells cur e fz) ∧ fzOk fz cur.size ∧ cur.size = c * sz ∧ n ≤ c ∧ (∀ i, i < n → (g i).length = sz) ∧ Fp n sz b F A ∧
    ∀ i j p, i < n → (g i)[j]? = some p → (cur.getD (i * sz + j) undef).oneCell' = true ∧ TV β κ D w S (F i j) (cur.getD (i * sz + j) undef) p
/-- A map's entries: what each key has. -/
structure Ents (w : World) (S : Nat → Prop) (ents : Array MapEntry) (clock : Nat) (f : Int → Option PV) : Prop where
  st : MapKept.Stamped ents clock
  key : ∀ e ∈ ents.toList, ∃ k p, e.key = .int .i64 k ∧ (IntKind.i64.min ≤ k ∧ k ≤ IntKind.i64.max) ∧ f k = some p ∧ RV w S e.val p
  all : ∀ k p, f k = some p → ∃ e ∈ ents.toList, e.key = .int .i64 k
/-- Entries one by one. -/
def Pairs (f : Int → Option PV) : List MapEntry → List (Int × PV) → Prop
  | [], [] => True
  | e :: l, (k, p) :: r => e.key = .int .i64 k ∧ f k = some p ∧ Pairs f l r
  | _, _ => False
/-- What an object's block holds; A: the blocks that are its own. -/
def OB (β κ : Id → Nat) (D : Id → Prop) (w : World) (S : Nat → Prop) (A : Nat → Prop) (o : Id) : Ob → Prop
  | .no => False
  | .box cs => Blk β κ D w S A (β o) cs.length 1 1 (fun _ => cs)
  | .row sz n g => (κ o = 0 ∧ n = 0 ∧ ∀ k, ¬ A k) ∨ (0 < κ o ∧ κ o ≤ 9223372036854775807 ∧ 0 < sz ∧ Blk β κ D w S A (β o) sz n (κ o) g)
  | .map f => (∀ k, A k ↔ k = β o) ∧ ∃ ents clock, w.heap[β o]? = some (.map ents clock) ∧ Ents w S ents clock f
  | .it es => ∃ b ents clock seen f, b ≠ β o ∧ (∀ k, A k ↔ k = β o ∨ k = b) ∧ w.heap[b]? = some (.map ents clock) ∧ w.heap[β o]? = some (.mapIter (some b) clock seen clock) ∧ Ents w S ents clock f ∧ Pairs f (ents.toList.filter (fun e => !seen.contains e.born)) es
structure MRD (w : World) (S : Nat → Prop) (D : Id → Prop) (m : Mem) (β κ : Id → Nat) (A : Id → Nat → Prop) : Prop where
  ob : ∀ o x, m.o o = some x → OB β κ D w S (A o) o x
  ns : ∀ o x k, m.o o = some x → A o k → ¬ S k
  dj : ∀ o o' x x' k, m.o o = some x → m.o o' = some x' → A o k → A o' k → o = o'
  nx : ∀ o x, m.o o = some x → D o
  lt : ∀ k, S k → k < w.heap.size

/-- The names in use where so many were given out, one behind the other. -/
abbrev dN (n : Nat) : Id → Prop := fun o => hb o n
abbrev MR (w : World) (S : Nat → Prop) (m : Mem) (β κ : Id → Nat) (A : Id → Nat → Prop) : Prop := MRD w S (dN m.nx) m β κ A
/-- The blocks that are one's own. -/
def own (m : Mem) (A : Id → Nat → Prop) (k : Nat) : Prop := ∃ o x, m.o o = some x ∧ A o k

/-- From one memory to a later one: what stays. -/
structure ExtD (w : World) (S : Nat → Prop) (D : Id → Prop) (m : Mem) (β κ : Id → Nat) (A : Id → Nat → Prop) (w' : World) (S' : Nat → Prop) (D' : Id → Prop) (m' : Mem) (β' κ' : Id → Nat) (A' : Id → Nat → Prop) : Prop where
  os : w'.os = w.os
  tape : w'.tape = w.tape
  output : w'.output = w.output
  size : w.heap.size ≤ w'.heap.size
  sub : ∀ k, S k → S' k
  be : ∀ o, D o → β' o = β o ∧ κ' o = κ o
  keep : ∀ k, k < w.heap.size → ¬ own m A k → w'.heap[k]? = w.heap[k]?
  le : m.nx ≤ m'.nx
  dl : ∀ o, D o → D' o
  new : ∀ k, own m' A' k → w.heap.size ≤ k ∨ own m A k
  snew : ∀ k, S' k → S k ∨ w.heap.size ≤ k ∨ own m A k
abbrev Ext (w : World) (S : Nat → Prop) (m : Mem) (β κ : Id → Nat) (A : Id → Nat → Prop) (w' : World) (S' : Nat → Prop) (m' : Mem) (β' κ' : Id → Nat) (A' : Id → Nat → Prop) : Prop := ExtD w S (dN m.nx) m β κ A w' S' (dN m'.nx) m' β' κ' A'

theorem ExtD.refl (w : World) (S : Nat → Prop) (D : Id → Prop) (m : Mem) (β κ : Id → Nat) (A : Id → Nat → Prop) : ExtD w S D m β κ A w S D m β κ A :=
  ⟨rfl, rfl, rfl, Nat.le_refl _, fun _ h => h, fun _ _ => ⟨rfl, rfl⟩, fun _ _ _ => rfl, Nat.le_refl _, fun _ h => h, fun k h => .inr h, fun _ h => .inl h⟩
theorem Ext.refl (w : World) (S : Nat → Prop) (m : Mem) (β κ : Id → Nat) (A : Id → Nat → Prop) : Ext w S m β κ A w S m β κ A := ExtD.refl _ _ _ _ _ _ _
theorem hb.mono {o : Id} {n n' : Nat} (h : hb o n) (hn : n ≤ n') : hb o n' := by
  cases o with
  | nil => exact h
  | cons k q => exact Nat.lt_of_lt_of_le h hn
theorem ExtD.trans {w w1 w2 : World} {S S1 S2 : Nat → Prop} {D D1 D2 : Id → Prop} {m m1 m2 : Mem} {β κ β1 κ1 β2 κ2 : Id → Nat} {A A1 A2 : Id → Nat → Prop} (h : ExtD w S D m β κ A w1 S1 D1 m1 β1 κ1 A1) (k : ExtD w1 S1 D1 m1 β1 κ1 A1 w2 S2 D2 m2 β2 κ2 A2) : ExtD w S D m β κ A w2 S2 D2 m2 β2 κ2 A2 where
  os := k.os.trans h.os
  tape := k.tape.trans h.tape
  output := k.output.trans h.output
  size := Nat.le_trans h.size k.size
  sub := fun i hi => k.sub i (h.sub i hi)
  be := fun o ho => ⟨(k.be o (h.dl o ho)).1.trans (h.be o ho).1, (k.be o (h.dl o ho)).2.trans (h.be o ho).2⟩
  keep := fun i hi hn => by
    rw [k.keep i (Nat.lt_of_lt_of_le hi h.size) (fun hm => ?_), h.keep i hi hn]
    rcases h.new i hm with h1 | h1
    · omega
    · exact hn h1
  le := Nat.le_trans h.le k.le
  dl := fun o ho => k.dl o (h.dl o ho)
  new := fun i hi => by
    rcases k.new i hi with h1 | h1
    · exact .inl (Nat.le_trans h.size h1)
    · exact h.new i h1
  snew := fun i hi => by
    rcases k.snew i hi with h1 | h1 | h1
    · exact h.snew i h1
    · exact .inr (.inl (Nat.le_trans h.size h1))
    · rcases h.new i h1 with h3 | h3
      · exact .inr (.inl h3)
      · exact .inr (.inr h3)

theorem cell_move {w w' : World} {a : Addr} (h : w'.heap[a.block]? = w.heap[a.block]?) : w'.cell? a = w.cell? a := by simp [World.cell?, h]
theorem aadd_block (a : Addr) (i : Nat) : (a.add i).block = a.block := by unfold Addr.add; split <;> rfl
theorem RV.move {w w' : World} {S S' : Nat → Prop} (hS : ∀ k, S k → S' k) (hw : ∀ k, S k → w'.heap[k]? = w.heap[k]?) {v : Value} {p : PV} (h : RV w S v p) : RV w' S' v p := by
  induction h with
  | und v => exact .und v
  | bool b => exact .bool b
  | int k n h => exact .int k n h
  | str s h => exact .str s h
  | nils => exact .nils
  | cl0 A c sz g => exact .cl0 A c sz g
  | cl a n c sz g val hn hc hb hl hcell h1 hv ih =>
    exact .cl a n c sz g val hn hc (hS _ hb) hl (fun i j p hi hp => (cell_move (w := w) (w' := w') (a := a.add (i * sz + j)) (by rw [aadd_block]; exact hw _ hb)).trans (hcell i j p hi hp)) h1 ih
  | pc a cs val hb hcell h1 hv ih => exact .pc a cs val (hS _ hb) (fun j p hp => (cell_move (w := w) (w' := w') (a := a.add j) (by rw [aadd_block]; exact hw _ hb)).trans (hcell j p hp)) h1 ih
  | ag vs ps hl h1 hv ih => exact .ag vs ps hl h1 ih
  | tu vs ps hl hv ih => exact .tu vs ps hl ih
  | gd cs v p h hu ih => exact .gd cs v p ih hu
theorem OV.move {β κ β' κ' : Id → Nat} {D D' : Id → Prop} {w w' : World} {S S' : Nat → Prop} (hβ : ∀ o, D o → β' o = β o ∧ κ' o = κ o) (hn : ∀ o, D o → D' o) (hS : ∀ k, S k → S' k) (hw : ∀ k, S k → w'.heap[k]? = w.heap[k]?) {v : Value} {p : PV} (h : OV β κ D w S v p) : OV β' κ' D' w' S' v p := by
  induction h with
  | rv v p h => exact .rv v p (h.move hS hw)
  | sl o sz n off len A c hx hl hn2 hk hc hA => exact .sl o sz n off len A c (hn o hx) hl hn2 (by rw [(hβ o hx).2]; exact hk) (by rw [(hβ o hx).2]; exact hc) (fun h => by rw [(hβ o hx).1]; exact hA h)
  | bp o j hx => have := OV.bp (β := β') (κ := κ') (D := D') (w := w') (S := S') o j (hn o hx); rwa [(hβ o hx).1] at this
  | pt o sz n i j hx hi => have := OV.pt (β := β') (κ := κ') (D := D') (w := w') (S := S') o sz n i j (hn o hx) hi; rwa [(hβ o hx).1] at this
  | mp o hx => have := OV.mp (β := β') (κ := κ') (D := D') (w := w') (S := S') o (hn o hx); rwa [(hβ o hx).1] at this
  | ag vs ps hl h1 hv ih => exact .ag vs ps hl h1 ih
  | tu vs ps hl hv ih => exact .tu vs ps hl ih
  | fn f vs ps hl hv ih => exact .fn f vs ps hl ih
  | gd cs v p h hu ih => exact .gd cs v p ih hu
theorem CV.move {w w' : World} {S S' : Nat → Prop} (hS : ∀ k, S k → S' k) (hw : ∀ k, S k → w'.heap[k]? = w.heap[k]?) {F : Nat → Prop} {v : Value} {p : PV} (h : CV w S F v p) : (∀ k, F k → w'.heap[k]? = w.heap[k]?) → CV w' S' F v p := by
  induction h with
  | rv F v p h h0 => exact fun _ => .rv F v p (h.move hS hw) h0
  | no F A sz g h0 => exact fun _ => .no F A sz g h0
  | ow A b n c sz g cur e fz F hz hp hn hm h0 hh hs hl hF h1 hv ih =>
    intro hA
    exact .ow A b n c sz g cur e fz F hz hp hn hm h0 ((hA b ((hF.eq b).2 (.inl rfl))).trans hh) hs hl hF h1 (fun i j p hi hp => ih i j p hi hp (fun k hk => hA k ((hF.eq k).2 (.inr ⟨i, j, hk⟩))))
theorem TV.move {β κ β' κ' : Id → Nat} {D D' : Id → Prop} {w w' : World} {S S' : Nat → Prop} (hβ : ∀ o, D o → β' o = β o ∧ κ' o = κ o) (hn : ∀ o, D o → D' o) (hS : ∀ k, S k → S' k) (hw : ∀ k, S k → w'.heap[k]? = w.heap[k]?) {F : Nat → Prop} {v : Value} {p : PV} (hF : ∀ k, F k → w'.heap[k]? = w.heap[k]?) (h : TV β κ D w S F v p) : TV β' κ' D' w' S' F v p := by
  rcases h with ⟨h, h0⟩ | h
  · exact .inl ⟨h.move hβ hn hS hw, h0⟩
  · exact .inr (h.move hS hw hF)
theorem Blk.move {β κ β' κ' : Id → Nat} {D D' : Id → Prop} {w w' : World} {S S' : Nat → Prop} (hβ : ∀ o, D o → β' o = β o ∧ κ' o = κ o) (hn : ∀ o, D o → D' o) (hS : ∀ k, S k → S' k) (hw : ∀ k, S k → w'.heap[k]? = w.heap[k]?) {A : Nat → Prop} {b sz n c : Nat} {g : Nat → List PV} (hA : ∀ k, A k → w'.heap[k]? = w.heap[k]?) (h : Blk β κ D w S A b sz n c g) : Blk β' κ' D' w' S' A b sz n c g := by
  obtain ⟨cur, e, fz, F, h1, hz, h2, h3, h4, h5, h6⟩ := h
  exact ⟨cur, e, fz, F, (hA b ((h5.eq b).2 (.inl rfl))).trans h1, hz, h2, h3, h4, h5, fun i j p hi hp => ⟨(h6 i j p hi hp).1, (h6 i j p hi hp).2.move hβ hn hS hw (fun k hk => hA k ((h5.eq k).2 (.inr ⟨i, j, hk⟩)))⟩⟩
theorem Ents.move {w w' : World} {S S' : Nat → Prop} (hS : ∀ k, S k → S' k) (hw : ∀ k, S k → w'.heap[k]? = w.heap[k]?) {ents : Array MapEntry} {clock : Nat} {f : Int → Option PV} (h : Ents w S ents clock f) : Ents w' S' ents clock f :=
  ⟨h.st, fun e he => by obtain ⟨k, p, h1, h2, h3, h4⟩ := h.key e he; exact ⟨k, p, h1, h2, h3, h4.move hS hw⟩, h.all⟩
/-- What stands in S stays, the objects' own blocks apart. -/
theorem ExtD.held {w w' : World} {S S' : Nat → Prop} {D D' : Id → Prop} {m m' : Mem} {β κ β' κ' : Id → Nat} {A A' : Id → Nat → Prop} (h : ExtD w S D m β κ A w' S' D' m' β' κ' A') (hm : MRD w S D m β κ A) : ∀ k, S k → w'.heap[k]? = w.heap[k]? :=
  fun k hk => h.keep k (hm.lt k hk) (fun ⟨o, x, h1, h2⟩ => hm.ns o x k h1 h2 hk)
theorem OV.ext {w w' : World} {S S' : Nat → Prop} {D D' : Id → Prop} {m m' : Mem} {β κ β' κ' : Id → Nat} {A A' : Id → Nat → Prop} (h : ExtD w S D m β κ A w' S' D' m' β' κ' A') (hm : MRD w S D m β κ A) {v : Value} {p : PV} (hv : OV β κ D w S v p) : OV β' κ' D' w' S' v p :=
  hv.move h.be h.dl h.sub (h.held hm)
theorem OB.move {β κ β' κ' : Id → Nat} {D D' : Id → Prop} {w w' : World} {S S' : Nat → Prop} (hβ : ∀ o, D o → β' o = β o ∧ κ' o = κ o) (hn : ∀ o, D o → D' o) (hS : ∀ k, S k → S' k) (hw : ∀ k, S k → w'.heap[k]? = w.heap[k]?) {A : Nat → Prop} {o : Id} {x : Ob} (ho : D o) (hA : ∀ k, A k → w'.heap[k]? = w.heap[k]?) (h : OB β κ D w S A o x) : OB β' κ' D' w' S' A o x := by
  obtain ⟨e1, e2⟩ := hβ o ho
  cases x with
  | no => exact h
  | box cs =>
    have := Blk.move hβ hn hS hw hA h
    simp only [OB, e1]; exact this
  | row sz n g =>
    simp only [OB, e1, e2] at h ⊢
    rcases h with h | ⟨h1, h2, h3, h4⟩
    · exact .inl h
    · exact .inr ⟨h1, h2, h3, h4.move hβ hn hS hw hA⟩
  | map f =>
    simp only [OB, e1] at h ⊢
    obtain ⟨h1, ents, clock, h2, h3⟩ := h
    exact ⟨h1, ents, clock, (hA _ ((h1 _).2 rfl)).trans h2, h3.move hS hw⟩
  | it es =>
    simp only [OB, e1] at h ⊢
    obtain ⟨b, ents, clock, seen, all, h1, h2, h3, h4, h5, h6⟩ := h
    exact ⟨b, ents, clock, seen, all, h1, h2, (hA _ ((h2 _).2 (.inr rfl))).trans h3, (hA _ ((h2 _).2 (.inl rfl))).trans h4, h5.move hS hw, h6⟩
theorem CV.lt {w : World} {S : Nat → Prop} {F : Nat → Prop} {v : Value} {p : PV} (h : CV w S F v p) : ∀ k, F k → k < w.heap.size := by
  induction h with
  | rv F v p h h0 => exact fun k hk => absurd hk (h0 k)
  | no F A sz g h0 => exact fun k hk => absurd hk (h0 k)
  | ow A b n c sz g cur e fz F hz hp hn hm h0 hh hs hl hF h1 hv ih =>
    intro k hk
    rcases (hF.eq k).1 hk with rfl | ⟨i, j, hk⟩
    · exact (Array.getElem?_eq_some_iff.1 hh).1
    · obtain ⟨hi, hj⟩ := hF.dm i j k hk
      exact ih i j _ hi (List.getElem?_eq_getElem (by rw [hl i hi]; exact hj)) k hk
theorem Blk.lt {β κ : Id → Nat} {D : Id → Prop} {w : World} {S : Nat → Prop} {A : Nat → Prop} {b sz n c : Nat} {g : Nat → List PV} (h : Blk β κ D w S A b sz n c g) {k : Nat} (hk : A k) : k < w.heap.size := by
  obtain ⟨cur, e, fz, F, h1, hz, h2, h3, h4, h5, h6⟩ := h
  rcases (h5.eq k).1 hk with rfl | ⟨i, j, hk⟩
  · exact (Array.getElem?_eq_some_iff.1 h1).1
  · obtain ⟨hi, hj⟩ := h5.dm i j k hk
    rcases (h6 i j _ hi (List.getElem?_eq_getElem (by rw [h4 i hi]; exact hj))).2 with ⟨_, h0⟩ | h7
    · exact absurd hk (h0 k)
    · exact h7.lt k hk
theorem OB.lt {β κ : Id → Nat} {D : Id → Prop} {w : World} {S : Nat → Prop} {A : Nat → Prop} {o : Id} {x : Ob} (h : OB β κ D w S A o x) {k : Nat} (hk : A k) : k < w.heap.size := by
  cases x with
  | no => exact h.elim
  | box cs => exact Blk.lt h hk
  | row sz n g =>
    rcases h with ⟨_, _, h⟩ | ⟨_, _, _, h⟩
    · exact absurd hk (h k)
    · exact h.lt hk
  | map f =>
    obtain ⟨h1, ents, clock, h2, h3⟩ := h
    rw [(h1 k).1 hk]; exact (Array.getElem?_eq_some_iff.1 h2).1
  | it es =>
    obtain ⟨b, ents, clock, seen, all, h1, h2, h3, h4, h5⟩ := h
    rcases (h2 k).1 hk with rfl | rfl
    · exact (Array.getElem?_eq_some_iff.1 h4).1
    · exact (Array.getElem?_eq_some_iff.1 h3).1

/-- The frame: what its slots hold, its memory; what there was at the call (w0 ..) stays. -/
structure FRD (w0 : World) (S0 : Nat → Prop) (m0 : Mem) (β0 κ0 : Id → Nat) (A0 : Id → Nat → Prop) (nt : Nat) (s : AS) (a : Act) (w : World) (D : Id → Prop) (β κ : Id → Nat) (A : Id → Nat → Prop) (S : Nat → Prop) : Prop where
  df : a.defers = []
  sz : a.tmps.size = nt
  tv : ∀ t, OV β κ D w S (a.tmps.getD t undef) (s.t t)
  mr : MRD w S D s.m β κ A
  ex : ExtD w0 S0 (dN m0.nx) m0 β0 κ0 A0 w S D s.m β κ A
abbrev FR (w0 : World) (S0 : Nat → Prop) (m0 : Mem) (β0 κ0 : Id → Nat) (A0 : Id → Nat → Prop) (nt : Nat) (s : AS) (a : Act) (w : World) (β κ : Id → Nat) (A : Id → Nat → Prop) (S : Nat → Prop) : Prop := FRD w0 S0 m0 β0 κ0 A0 nt s a w (dN s.m.nx) β κ A S

def upd {K α : Type} [DecidableEq K] (f : K → α) (k : K) (v : α) : K → α := fun i => if i = k then v else f i
theorem upd_at {K α : Type} [DecidableEq K] (f : K → α) (k : K) (v : α) (i : K) : upd f k v i = if i = k then v else f i := rfl
def AS.put (s : AS) (d : Option Tmp) (v : PV) : AS := match d with | some d => { s with t := upd s.t d v } | none => s
theorem FRD.step {w0 : World} {S0 : Nat → Prop} {m0 : Mem} {β0 κ0 : Id → Nat} {A0 : Id → Nat → Prop} {nt : Nat} {s : AS} {a : Act} {w : World} {D : Id → Prop} {β κ : Id → Nat} {A : Id → Nat → Prop} {S : Nat → Prop} (h : FRD w0 S0 m0 β0 κ0 A0 nt s a w D β κ A S)
    {w' : World} {D' : Id → Prop} {m' : Mem} {β' κ' : Id → Nat} {A' : Id → Nat → Prop} {S' : Nat → Prop} (he : ExtD w S D s.m β κ A w' S' D' m' β' κ' A') (hm : MRD w' S' D' m' β' κ' A') {d : Option Tmp} (hd : ∀ i, d = some i → i < nt) {v : Value} {p : PV} (hv : OV β' κ' D' w' S' v p) :
    FRD w0 S0 m0 β0 κ0 A0 nt (({ s with m := m' } : AS).put d p) (a.put d v) w' D' β' κ' A' S' := by
  cases d with
  | none => exact ⟨h.df, h.sz, fun t => (h.tv t).ext he h.mr, hm, h.ex.trans he⟩
  | some i =>
    refine ⟨h.df, by simp [Act.put, h.sz], fun t => ?_, hm, h.ex.trans he⟩
    have hi : i < a.tmps.size := by rw [h.sz]; exact hd i rfl
    show OV _ _ _ _ _ ((a.tmps.setIfInBounds i v).getD t undef) (upd s.t i p t)
    unfold upd
    by_cases e : t = i
    · subst e
      rw [if_pos rfl]
      have : (a.tmps.setIfInBounds t v).getD t undef = v := by simp [Array.getD, hi]
      rw [this]; exact hv
    · rw [if_neg e]
      have : (a.tmps.setIfInBounds i v).getD t undef = a.tmps.getD t undef := by
        simp only [Array.getD_eq_getD_getElem?, Array.getElem?_setIfInBounds, if_neg (Ne.symm e)]
      rw [this]; exact (h.tv t).ext he h.mr
theorem FR.step {w0 : World} {S0 : Nat → Prop} {m0 : Mem} {β0 κ0 : Id → Nat} {A0 : Id → Nat → Prop} {nt : Nat} {s : AS} {a : Act} {w : World} {β κ : Id → Nat} {A : Id → Nat → Prop} {S : Nat → Prop} (h : FR w0 S0 m0 β0 κ0 A0 nt s a w β κ A S)
    {w' : World} {m' : Mem} {β' κ' : Id → Nat} {A' : Id → Nat → Prop} {S' : Nat → Prop} (he : Ext w S s.m β κ A w' S' m' β' κ' A') (hm : MR w' S' m' β' κ' A') {d : Option Tmp} (hdl : ∀ i, d = some i → i < nt) {v : Value} {p : PV} (hv : OV β' κ' (dN m'.nx) w' S' v p) :
    FR w0 S0 m0 β0 κ0 A0 nt (({ s with m := m' } : AS).put d p) (a.put d v) w' β' κ' A' S' := by
  have := FRD.step h he hm hdl hv
  cases d <;> exact this
end Go.Proofs.YtolejglfohagnaaW.AW
