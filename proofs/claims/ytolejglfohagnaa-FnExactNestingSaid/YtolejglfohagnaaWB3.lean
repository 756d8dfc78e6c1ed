/- What an operation yields that leaves memory alone, and that it does. Plain words: no statement of the program. -/
import Derived.Test.YtolejglfohagnaaWB2
namespace Go.Proofs.YtolejglfohagnaaW.AW
open Go Go.RowKit
set_option linter.unusedVariables false

def optI (e : Operand → PV) : Option Operand → Option (Option Int)
  | none => some none
  | some x => match e x with | .int _ n => some (some n) | _ => none
def aslice (P : Program) (t : TypeId) (x : PV) (lo hi : Option Int) : PR := match x with
  | .str s => let l := lo.getD 0; let h := hi.getD s.size; ⟨tk P t = .string ∧ 0 ≤ l ∧ l ≤ h ∧ h ≤ s.size, .str (s.extract l.toNat h.toNat)⟩
  | .cl sz n g => let l := lo.getD 0; let h := hi.getD n; ⟨(tyD P t).es = sz ∧ (tyD P t).eok = true ∧ 0 ≤ l ∧ l ≤ h ∧ h ≤ n, .cl sz (h - l).toNat (fun i => g (l.toNat + i))⟩
  | .sl o sz n off len => let l := lo.getD 0; let h := hi.getD len; ⟨(tyD P t).es = sz ∧ (tyD P t).eok = true ∧ 0 ≤ l ∧ l ≤ h ∧ h ≤ len, .sl o sz n (off + l.toNat) (h - l).toNat⟩
  | .nils => ⟨(tyD P t).eok = true ∧ lo.getD 0 = 0 ∧ hi.getD 0 = 0, .nils⟩
  | _ => no
def alen (P : Program) (t : TypeId) : PV → PR
  | .str s => ⟨tk P t = .string, .int .i64 s.size⟩
  | .cl _ n _ => ⟨(tyD P t).eok = true, .int .i64 n⟩
  | .sl _ _ _ _ n => ⟨(tyD P t).eok = true, .int .i64 n⟩
  | .nils => ⟨(tyD P t).eok = true, .int .i64 0⟩
  | _ => no
def aconv (P : Program) (s d : TypeId) : PV → PR
  | .int k n => match tk P s, tk P d with
    | .int _, .int q => ⟨True, .int q (q.wrap n)⟩
    | .int _, .string => ⟨True, .str (Utf8.encode n)⟩
    | _, _ => no
  | .str x => match tk P s, tk P d with
    | .string, .string => ⟨True, .str x⟩
    | _, _ => no
  | _ => no
/-- The bytes of a row. -/
def byteAt : List PV → UInt8
  | [.int .u8 n] => UInt8.ofNat n.toNat
  | _ => 0
def bytesG (n : Nat) (g : Nat → List PV) : ByteArray := ⟨((List.range n).map (fun i => byteAt (g i))).toArray⟩
def rowU8 (n : Nat) (g : Nat → List PV) : Prop := ∀ i, i < n → ∃ x, g i = [.int .u8 x]
def tkU8 (P : Program) (t : TypeId) : Prop := match tk P t with | .slice e => tk P e = .int .u8 | _ => False
instance (P : Program) (t : TypeId) : Decidable (tkU8 P t) := by unfold tkU8; split <;> infer_instance
/-- Conversions that read memory: bytes to a string. -/
def aconvM (P : Program) (s d : TypeId) (m : Mem) : PV → PR
  | .cl 1 n g => ⟨tkU8 P s ∧ tk P d = .string ∧ rowU8 n g, .str (bytesG n g)⟩
  | .nils => ⟨tkU8 P s ∧ tk P d = .string, .str .empty⟩
  | .sl o 1 n off len => match m.o o with
    | some (.row 1 n' g) => ⟨n' = n ∧ tkU8 P s ∧ tk P d = .string ∧ rowU8 len (fun i => g (off + i)), .str (bytesG len (fun i => g (off + i)))⟩
    | _ => no
  | p => aconv P s d p
def afill (fs : List (Nat × Nat × Nat)) : List PV → List (Nat × PV) → Option (List PV)
  | cs, [] => some cs
  | cs, (i, v) :: r => match fs[i]?, pcells v with
    | some (off, sz, _), some vs => if vs.length = sz ∧ off + sz ≤ cs.length then afill fs (cs.take off ++ vs ++ cs.drop (off + sz)) r else none
    | _, _ => none
/-- The operations that leave memory alone. -/
def apure (P : Program) (cs : List Bool) (op : Op) (e : Operand → PV) (m : Mem) : PR := match op with
  | .move x | .assign x => ⟨True, e x⟩
  | .pick c a b => match e c with | .bool t => ⟨True, pickv cs t (e a) (e b)⟩ | _ => no
  | .unOp .not _ x => match e x with | .bool b => ⟨True, .bool !b⟩ | _ => no
  | .unOp .neg _ x => match e x with | .int k n => ⟨True, .int k (k.wrap (0 - n))⟩ | _ => no
  | .binOp b t x y _ => abin P b t (e x) (e y)
  | .convert s d x => aconvM P s d m (e x)
  | .extract x i => match e x with | .tu ps => ⟨i < ps.length, ps.getD i .und⟩ | _ => no
  | .field t x f => match (tyD P t).fs[f]? with
    | some (off, _, ft) => match e x with
      | .ag cs => ⟨(tyD P t).k = .struct ∧ off ≤ cs.length ∧ (ld (tyD P ft) (cs.drop off)).ok, (ld (tyD P ft) (cs.drop off)).v⟩
      | _ => no
    | none => no
  | .index t x i => match e x, e i with
    | .str s, .int _ n => ⟨tk P t = .string ∧ 0 ≤ n ∧ n < s.size, .int .u8 (bt s n)⟩
    | _, _ => no
  | .fieldAddr t x f => match (tyD P t).fs[f]? with
    | some (off, sz, _) => match e x with
      | .bp o j => ⟨(tyD P t).k = .struct ∧ sz ≠ 0, .bp o (j + off)⟩
      | .pt o es n i j => ⟨(tyD P t).k = .struct ∧ sz ≠ 0, .pt o es n i (j + off)⟩
      | .pc cs => ⟨(tyD P t).k = .struct ∧ sz ≠ 0, .pc (cs.drop off)⟩
      | _ => no
    | none => no
  | .indexAddr t x i => match e x, e i with
    | .cl sz n g, .int _ ix => ⟨(tyD P t).es = sz ∧ (tyD P t).eok = true ∧ 0 ≤ ix ∧ ix < n, .pc (g ix.toNat)⟩
    | .sl o sz n off len, .int _ ix => ⟨(tyD P t).es = sz ∧ (tyD P t).eok = true ∧ 0 ≤ ix ∧ ix < len, .pt o sz n (off + ix.toNat) 0⟩
    | _, _ => no
  | .load t x => match e x with
    | .pc cs => ld (tyD P t) cs
    | .bp o j => match m.o o with | some (.box cs) => ldo (tyD P t) (cs.drop j) | _ => no
    | .pt o sz n i j => match m.o o with | some (.row sz' n' g) => ⟨sz' = sz ∧ n' = n ∧ (ldo (tyD P t) ((g i).drop j)).ok, (ld (tyD P t) ((g i).drop j)).v⟩ | _ => no
    | _ => no
  | .slice t x lo hi none => match optI e lo, optI e hi with
    | some l, some h => aslice P t (e x) l h
    | _, _ => no
  | .lookup t x i ok => match e x, e i with
    | .mp o, .int .i64 k => match m.o o with
      | some (.map f) => match (tyD P t).k with
        | .map kt et => ⟨tk P kt = .int .i64 ∧ (tyD P et).zvk = true, if ok then .tu [(f k).getD (tyD P et).zv, .bool (f k).isSome] else (f k).getD (tyD P et).zv⟩
        | _ => no
      | _ => no
    | _, _ => no
  | .nilCheck x => match e x with
    | .bp o j => ⟨True, .bp o j⟩
    | .pt o sz n i j => ⟨True, .pt o sz n i j⟩
    | .pc cs => ⟨True, .pc cs⟩
    | .fn f ps => ⟨True, .fn f ps⟩
    | _ => no
  | .makeFunc (.func f) fi ca => ⟨fi = #[], .fn f (ca.toList.map e)⟩
  | .build t ps => match afill (tyD P t).fs (tyD P t).zc (ps.toList.map (fun x => (x.1, e x.2))) with
    | some cs => ⟨(tyD P t).k = .struct ∧ (tyD P t).zok = true, .ag cs⟩
    | none => no
  | .call c => match c.callee with
    | .builtin .len => match c.args.toList, c.argTypes.toList with | [x], [t] => alen P t (e x) | _, _ => no
    | .builtin .max => match c.args.toList with | [x, y] => (match e x, e y with | .int k a, .int k' b => ⟨k = k', .int k (if b > a then b else a)⟩ | _, _ => no) | _ => no
    | .builtin .min => match c.args.toList with | [x, y] => (match e x, e y with | .int k a, .int k' b => ⟨k = k', .int k (if b < a then b else a)⟩ | _, _ => no) | _ => no
    | _ => no
  | _ => no

section inv
variable {β κ : Id → Nat} {D : Id → Prop} {w : World} {S : Nat → Prop} {v : Value}
theorem OV.bool_inv {b : Bool} (h : OV β κ D w S v (.bool b)) : v = .bool b := by cases h with | rv _ _ h => cases h; rfl
theorem OV.int_inv {k : IntKind} {n : Int} (h : OV β κ D w S v (.int k n)) : v = .int k n ∧ k.min ≤ n ∧ n ≤ k.max := by cases h with | rv _ _ h => cases h with | int _ _ h => exact ⟨rfl, h⟩
theorem OV.str_inv {s : ByteArray} (h : OV β κ D w S v (.str s)) : v = .string s ∧ s.size ≤ 9223372036854775807 := by cases h with | rv _ _ h => cases h with | str _ h => exact ⟨rfl, h⟩
theorem OV.nils_inv (h : OV β κ D w S v .nils) : v = .slice none 0 0 := by cases h with | rv _ _ h => cases h; rfl
theorem OV.int_mk {k : IntKind} {n : Int} (h : k.min ≤ n ∧ n ≤ k.max) : OV β κ D w S (.int k n) (.int k n) := .rv _ _ (.int _ _ h)
theorem OV.bool_mk {b : Bool} : OV β κ D w S (.bool b) (.bool b) := .rv _ _ (.bool _)
theorem OV.str_mk {s : ByteArray} (h : s.size ≤ 9223372036854775807) : OV β κ D w S (.string s) (.str s) := .rv _ _ (.str _ h)
theorem wrap_in (k : IntKind) (n : Int) : k.min ≤ k.wrap n ∧ k.wrap n ≤ k.max := by
  have h := Go.wf_wrap k n
  simpa [Lit.wf] using h
theorem OV.wrap_mk {k : IntKind} {n : Int} : OV β κ D w S (.int k (k.wrap n)) (.int k (k.wrap n)) := .int_mk (wrap_in k n)
theorem OV.strip {cs : List Bool} {p : PV} (h : OV β κ D w S v p) (hc : cs.all id = true) : OV β κ D w S v (strip cs p) := by
  cases p with
  | gd ds q =>
    show OV β κ D w S v (if within ds cs then q else .gd ds q)
    by_cases hw : within ds cs
    · rw [if_pos hw]
      have hd : ds.all id = true := within_all hw hc
      cases h with
      | rv _ _ h => cases h with | gd _ _ _ h _ => exact .rv _ _ (h hd)
      | gd _ _ _ h _ => exact h hd
    · rw [if_neg hw]
      exact h
  | _ => exact h
end inv
end Go.Proofs.YtolejglfohagnaaW.AW
