/- The operations over the abstract state: what each yields, and under which condition. Plain words: no statement of the program. -/
import Derived.Test.YtolejglfohagnaaWB1
namespace Go.Proofs.YtolejglfohagnaaW.AW
open Go Go.RowKit
set_option linter.unusedVariables false

def ofVal : Value → PV
  | .bool b => .bool b
  | .int k n => if k.min ≤ n ∧ n ≤ k.max then .int k n else .und
  | .string s => if s.size ≤ 9223372036854775807 then .str s else .und
  | .slice none 0 0 => .nils
  | _ => .und
/-- What kind of type it is. -/
inductive TK where
  | bool | int (k : IntKind) | string | struct | slice (e : TypeId) | map (k e : TypeId) | ptr | func | other
  deriving DecidableEq
/-- What is asked of a type: kind, cells, the fields' offsets, sizes, types, the zero's cells (and that they are to be had); of a slice's element: cells, bytes, whether it can be made, its zero. -/
structure TD where
  k : TK
  sz : Nat
  fs : List (Nat × Nat × Nat)
  zc : List PV
  zok : Bool
  es : Nat
  eb : Nat
  eok : Bool
  ez : List PV
  zv : PV
  zvk : Bool
  eqf : Bool
  eqk : List TK
def tk (P : Program) (t : TypeId) : TK := match P.underlying t with
  | some .bool => .bool | some (.int k) => .int k | some .string => .string | some (.struct _) => .struct | some (.slice e) => .slice e | some (.map k e) => .map k e | some (.pointer _) => .ptr | some (.func _ _ _) => .func | _ => .other
def zcells (P : Program) (t : TypeId) : Array Value := match (P.info? t).bind (·.zero) with | some z => z.cells | none => #[]
def zval (P : Program) (t : TypeId) : PV := match (P.info? t).bind (·.zero) with | some (.agg cs) => .ag (cs.toList.map ofVal) | some v => ofVal v | none => .und
def scal (P : Program) (t : TypeId) : Bool := match P.underlying t with | some .bool => true | some (.int _) => true | some .string => true | _ => false
def eqFs (P : Program) : Nat → List Field → Bool
  | _, [] => true
  | i, f :: r => f.name != "_" && f.offset == i && scal P f.type && eqFs P (i + 1) r
def tyD (P : Program) (t : TypeId) : TD where
  k := tk P t
  sz := P.cellsOf t
  fs := match P.underlying t with | some (.struct fs) => fs.toList.map (fun f => (f.offset, P.cellsOf f.type, f.type)) | _ => []
  zc := (zcells P t).toList.map ofVal
  zok := (((P.info? t).bind (·.zero)).map (fun z => z.cells.all (·.oneCell') && decide (z.cells.size = P.cellsOf t))).getD false && (match P.underlying t with | some (.struct fs) => fs.all (fun f => (P.info? f.type).isSome) | _ => true)
  es := match P.underlying t with | some (.slice e) => P.cellsOf e | _ => 0
  eb := match P.underlying t with | some (.slice e) => P.bytesOf e | _ => 0
  eok := match P.underlying t with | some (.slice e) => (((P.info? e).bind (·.zero)).map (fun z => decide (z.cells.size = P.cellsOf e) && z.cells.all (·.oneCell') && decide (0 < P.cellsOf e) && decide (0 < P.bytesOf e))).getD false | _ => false
  ez := match P.underlying t with | some (.slice e) => (zcells P e).toList.map ofVal | _ => []
  zv := zval P t
  zvk := match (P.info? t).bind (·.zero) with | some (.agg cs) => cs.all (·.oneCell') | some _ => true | none => false
  eqf := match P.underlying t with | some (.struct fs) => eqFs P 0 fs.toList && !P.stoodInHeld t && !P.eqGuardType P.depth t | _ => false
  eqk := match P.underlying t with | some (.struct fs) => fs.toList.map (fun f => tk P f.type) | _ => []

/-- A value with the condition under which it is had. -/
structure PR where
  ok : Prop
  v : PV
def no : PR := ⟨False, .und⟩
def bt (s : ByteArray) (i : Int) : Int := if h : i.toNat < s.size then ((s[i.toNat]'h).toNat : Int) else 0
def ibits (b : BinOp) (k : IntKind) (x y : Int) : Int := match b with
  | .and => k.wrap (BitVec.ofInt k.bits x &&& BitVec.ofInt k.bits y).toNat
  | .or => k.wrap (BitVec.ofInt k.bits x ||| BitVec.ofInt k.bits y).toNat
  | .xor => k.wrap (BitVec.ofInt k.bits x ^^^ BitVec.ofInt k.bits y).toNat
  | .andNot => k.wrap (BitVec.ofInt k.bits x &&& ~~~BitVec.ofInt k.bits y).toNat
  | _ => 0
def aint (b : BinOp) (k : IntKind) (x : Int) (k' : IntKind) (y : Int) : PR := match b with
  | .add => ⟨k = k', .int k (k.wrap (x + y))⟩
  | .sub => ⟨k = k', .int k (k.wrap (x - y))⟩
  | .mul => ⟨k = k', .int k (k.wrap (x * y))⟩
  | .quo => ⟨k = k' ∧ y ≠ 0, .int k (k.wrap (x.tdiv y))⟩
  | .rem => ⟨k = k' ∧ y ≠ 0, .int k (x.tmod y)⟩
  | .shl => ⟨0 ≤ y, .int k (k.wrap (x * 2 ^ min y.toNat k.bits))⟩
  | .shr => ⟨0 ≤ y, .int k (x.fdiv (2 ^ min y.toNat k.bits))⟩
  | .lss => ⟨k = k', .bool (decide (x < y))⟩
  | .leq => ⟨k = k', .bool (decide (x ≤ y))⟩
  | .gtr => ⟨k = k', .bool (decide (y < x))⟩
  | .geq => ⟨k = k', .bool (decide (y ≤ x))⟩
  | .eql => ⟨k = k', .bool (decide (x = y))⟩
  | .neq => ⟨k = k', .bool (!decide (x = y))⟩
  | b => ⟨k = k', .int k (ibits b k x y)⟩
def astr (b : BinOp) (x y : ByteArray) : PR := match b with
  | .add => ⟨x.size + y.size ≤ 9223372036854775807, .str (x ++ y)⟩
  | .eql => ⟨True, .bool (decide (x = y))⟩
  | .neq => ⟨True, .bool (!decide (x = y))⟩
  | .lss => ⟨True, .bool (Op.bytesLess x.toList y.toList)⟩
  | .leq => ⟨True, .bool (Op.bytesLess x.toList y.toList || decide (x = y))⟩
  | .gtr => ⟨True, .bool (!(Op.bytesLess x.toList y.toList || decide (x = y)))⟩
  | .geq => ⟨True, .bool (!Op.bytesLess x.toList y.toList)⟩
  | _ => no
def aeq1 : TK → PV → PV → Option Bool
  | .int _, .int k a, .int k' b => if k = k' then some (decide (a = b)) else none
  | .string, .str a, .str b => some (decide (a = b))
  | .bool, .bool a, .bool b => some (a == b)
  | _, _, _ => none
def aeqs : List TK → List PV → List PV → Option Bool
  | [], [], [] => some true
  | t :: ts, x :: xs, y :: ys => match aeq1 t x y, aeqs ts xs ys with | some a, some b => some (a && b) | _, _ => none
  | _, _, _ => none
def abin (P : Program) (b : BinOp) (t : TypeId) : PV → PV → PR
  | .int k x, .int k' y => aint b k x k' y
  | .str x, .str y => astr b x y
  | .bool x, .bool y => match b with
    | .eql => ⟨tk P t = .bool, .bool (x == y)⟩
    | .neq => ⟨tk P t = .bool, .bool (!(x == y))⟩
    | _ => no
  | .ag xs, .ag ys => match aeqs (tyD P t).eqk xs ys with
    | some r => match b with
      | .eql => ⟨(tyD P t).eqf = true, .bool r⟩
      | .neq => ⟨(tyD P t).eqf = true, .bool (!r)⟩
      | _ => no
    | none => no
  | _, _ => no
/-- Known under cs: taken where the guard is cs (or longer). -/
def within : List Bool → List Bool → Prop
  | [], _ => True
  | a :: ds, b :: cs => a = b ∧ within ds cs
  | _, _ => False
theorem within_all : ∀ {ds cs : List Bool}, within ds cs → cs.all id = true → ds.all id = true
  | [], _, _, _ => rfl
  | a :: ds, b :: cs, h, hc => by
    rw [List.all_cons, Bool.and_eq_true] at hc ⊢
    exact ⟨by rw [h.1]; exact hc.1, within_all h.2 hc.2⟩
  | _ :: _, [], h, _ => h.elim
instance within_dec : ∀ ds cs : List Bool, Decidable (within ds cs)
  | [], _ => .isTrue trivial
  | a :: ds, b :: cs => by unfold within; exact @instDecidableAnd _ _ _ (within_dec ds cs)
  | _ :: _, [] => .isFalse (fun h => h)
def strip (cs : List Bool) : PV → PV
  | .gd ds p => if within ds cs then p else .gd ds p
  | p => p
def pickv (cs : List Bool) (t : Bool) (a b : PV) : PV := match strip (cs ++ [t]) a, strip (cs ++ [!t]) b with
  | .bool x, .bool y => .bool (bif t then x else y)
  | p, q => bif t then p else q
theorem pickv_t {cs : List Bool} {a b : PV} : pickv cs true a b = strip (cs ++ [true]) a := by
  unfold pickv; split
  · rename_i h _; rw [h]; rfl
  · rfl
theorem pickv_f {cs : List Bool} {a b : PV} : pickv cs false a b = strip (cs ++ [true]) b := by
  unfold pickv; split
  · rename_i h; rw [show (cs ++ [true]) = (cs ++ [!false]) from rfl, h]; rfl
  · rfl
theorem pickv_bb {cs : List Bool} {t x y : Bool} : pickv cs t (.bool x) (.bool y) = .bool (bif t then x else y) := rfl
theorem pickv_gb {cs ds : List Bool} {t x y : Bool} : pickv cs t (.gd ds (.bool x)) (.bool y) = if within ds (cs ++ [t]) then .bool (bif t then x else y) else bif t then .gd ds (.bool x) else .bool y := by
  by_cases h : within ds (cs ++ [t]) <;> simp only [pickv, strip, h, if_true, if_false]
theorem pickv_bg {cs ds : List Bool} {t x y : Bool} : pickv cs t (.bool x) (.gd ds (.bool y)) = if within ds (cs ++ [!t]) then .bool (bif t then x else y) else bif t then .bool x else .gd ds (.bool y) := by
  by_cases h : within ds (cs ++ [!t]) <;> simp only [pickv, strip, h, if_true, if_false]
theorem pickv_gg {cs ds es : List Bool} {t x y : Bool} : pickv cs t (.gd ds (.bool x)) (.gd es (.bool y)) = if within ds (cs ++ [t]) then (if within es (cs ++ [!t]) then .bool (bif t then x else y) else bif t then .bool x else .gd es (.bool y)) else bif t then .gd ds (.bool x) else if within es (cs ++ [!t]) then .bool y else .gd es (.bool y) := by
  by_cases h : within ds (cs ++ [t]) <;> by_cases h' : within es (cs ++ [!t]) <;> simp only [pickv, strip, h, h', if_true, if_false]
def ld (d : TD) (cs : List PV) : PR := match d.k with
  | .struct => ⟨d.sz ≤ cs.length, .ag (cs.take d.sz)⟩
  | .other => no
  | _ => match cs with | p :: _ => ⟨True, p⟩ | [] => no
/-- It owns nothing from within. -/
def PV.isOw : PV → Bool
  | .ow _ _ _ => true
  | _ => false
def nOw : PV → Prop
  | .ow _ _ _ => False
  | .ag cs => cs.all (fun p => !p.isOw) = true
  | _ => True
def ldo (d : TD) (cs : List PV) : PR := ⟨(ld d cs).ok ∧ nOw (ld d cs).v, (ld d cs).v⟩
def pcells : PV → Option (List PV)
  | .ag cs => some cs
  | .und | .gd _ _ | .tu _ | .ow _ _ _ => none
  | p => some [p]
end Go.Proofs.YtolejglfohagnaaW.AW
