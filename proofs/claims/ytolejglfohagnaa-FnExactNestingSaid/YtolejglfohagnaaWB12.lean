/- All the operations over the abstract state; calls by contract. Plain words: no statement of the program. -/
import Derived.Test.YtolejglfohagnaaWB11
import Derived.Deep.AppendSrc
namespace Go.Proofs.YtolejglfohagnaaW.AW
open Go Go.RowKit
set_option linter.unusedVariables false

/-- THE CONTRACT of a function: from the arguments and the memory to the answer and the memory then. -/
def AC (P : Program) (f : FuncId) (args : List PV) (m : Mem) (r : PV) (m' : Mem) : Prop := (∃ fn, P.funcs[f]? = some fn ∧ fn.body.isNone = false ∧ (fn.name == "runtime.NumGoroutine") = false) ∧
  ∀ (w : World) (vs : Array Value) (S : Nat → Prop) (β κ : Id → Nat) (A : Id → Nat → Prop), MR w S m β κ A → vs.size = args.length → (∀ i p, args[i]? = some p → OV β κ (dN m.nx) w S (vs.getD i undef) p) →
    Calls P f vs w fun e w' => ∃ v S' β' κ' A', e = .returned v ∧ OV β' κ' (dN m'.nx) w' S' v r ∧ MR w' S' m' β' κ' A' ∧ Ext w S m β κ A w' S' m' β' κ' A'
/-- What an operation leaves: the model's value and world, the words' answer and memory. -/
def Left (w : World) (S : Nat → Prop) (D : Id → Prop) (m : Mem) (β κ : Id → Nat) (A : Id → Nat → Prop) (K : PV → Mem → Prop) (v : Value) (w' : World) : Prop :=
  ∃ r m' S' D' β' κ' A', K r m' ∧ ExtD w S D m β κ A w' S' D' m' β' κ' A' ∧ MRD w' S' D' m' β' κ' A' ∧ OV β' κ' D' w' S' v r ∧ ∀ o, D' o ↔ D o ∨ (hb o m'.nx ∧ ¬ hb o m.nx)
theorem dsame {D : Id → Prop} {n : Nat} (o : Id) : D o ↔ D o ∨ (hb o n ∧ ¬ hb o n) := ⟨.inl, fun h => h.elim id (fun h => absurd h.1 h.2)⟩
/-- A name is in use with all that begins with it. -/
def TC (D : Id → Prop) : Prop := ∀ o q, o ≠ [] → D o → D (o ++ q)
theorem hb_app {u : Id} {q : Id} {n : Nat} (hu : u ≠ []) : hb (u ++ q) n ↔ hb u n := by
  cases u with
  | nil => exact absurd rfl hu
  | cons c u => exact Iff.rfl
theorem TC_dN (n : Nat) : TC (dN n) := fun o q ho h => (hb_app ho).2 h
/-- The same, whatever other names are in use. -/
def ACD (P : Program) (f : FuncId) (args : List PV) (m : Mem) (r : PV) (m' : Mem) : Prop := (∃ fn, P.funcs[f]? = some fn ∧ fn.body.isNone = false ∧ (fn.name == "runtime.NumGoroutine") = false) ∧
  ∀ (D : Id → Prop), TC D → (∀ o, hb o m'.nx → ¬ hb o m.nx → ¬ D o) → ∀ (w : World) (vs : Array Value) (S : Nat → Prop) (β κ : Id → Nat) (A : Id → Nat → Prop), MRD w S D m β κ A → vs.size = args.length → (∀ i p, args[i]? = some p → OV β κ D w S (vs.getD i undef) p) →
    Calls P f vs w fun e w' => ∃ v, e = .returned v ∧ Left w S D m β κ A (fun q n => q = r ∧ n = m') v w'
/-- Two steps that do the same to the objects W. -/
def Same2 (W : List Id) (m m' m2 m2' : Mem) : Prop := m2'.nx = m'.nx ∧ ∀ o, (m2'.o o = m2.o o ∧ m'.o o = m.o o) ∨ (o ∈ W ∧ m2'.o o = m'.o o)
/-- A call that looks at R and W alone, and changes W alone. -/
def ACT (P : Program) (f : FuncId) (args : List PV) (m : Mem) (r : PV) (m' : Mem) (R W : List Id) : Prop := m.nx ≤ m'.nx ∧
  ∀ m2 : Mem, m2.nx = m.nx → (∀ o ∈ R ++ W, m2.o o = m.o o) → ∃ m2', Same2 W m m' m2 m2' ∧ ACD P f args m2 r m2'
def gdv (cs : List Bool) (v : PV) : PV := match cs with | [] => v | cs => .gd cs v
/-- What follows, shut. -/
def k2 (K : PV → Mem → Prop) (r : PV) (m' : Mem) (R W : List Id) : Prop := K r m'
def kD (K : PV → Mem → List Id → List Id → Prop) (R W : List Id) (r : PV) (m' : Mem) : Prop := K r m' R W
/-- A call; under a guard it leaves memory alone. -/
def acall (P : Program) (cs : List Bool) (f : FuncId) (args : List PV) (m : Mem) (K : PV → Mem → List Id → List Id → Prop) : Prop :=
  ∃ r m' R W, (cs.all id = true → ACT P f args m r m' R W) ∧ (cs.all id = true ∨ m' = m) ∧ K (gdv cs r) m' R W
def splice (cs : List PV) (j : Nat) (vs : List PV) : List PV := cs.take j ++ vs ++ cs.drop (j + vs.length)
def astore (P : Program) (t : TypeId) (a x : PV) (m : Mem) (K : PV → Mem → Prop) : Prop := match pcells x with
  | some vs => match a with
    | .bp o j => match m.o o with
      | some (.box cs) => (vs.length = (tyD P t).sz ∧ tk P t ≠ .other ∧ j + vs.length ≤ cs.length) ∧ K .und (m.set o (.box (splice cs j vs)))
      | _ => False
    | .pt o sz n i j => match m.o o with
      | some (.row sz' n' g) => (vs.length = (tyD P t).sz ∧ tk P t ≠ .other ∧ sz' = sz ∧ n' = n ∧ j + vs.length ≤ sz) ∧ K .und (m.set o (.row sz' n' (upd g i (splice (g i) j vs))))
      | _ => False
    | _ => False
  | none => False
def okIdx : Nat → List (Nat × Operand) → Bool
  | _, [] => true
  | k, (i, _) :: r => i == k && okIdx (k + 1) r
def allCells : List PV → Option (List (List PV))
  | [] => some []
  | p :: r => match pcells p, allCells r with | some c, some cs => some (c :: cs) | _, _ => none
/-- What an append takes from its second argument: how many elements, their cells, cells an element. -/
def asrc (m : Mem) : PV → Option (Nat × (Nat → List PV) × Nat)
  | .nils => some (0, fun _ => [], 0)
  | .cl sz n g => some (n, g, sz)
  | .sl o sz n off len => match m.o o with | some (.row sz' n' g) => if sz' = sz ∧ n' = n then some (len, fun i => g (off + i), sz) else none | _ => none
  | .str b => some (b.size, fun i => [.int .u8 (bt b i)], 1)
  | _ => none
/-- What is copied out of one's own rows owns nothing from within. -/
def aflat (m : Mem) : PV → Prop
  | .sl o sz n off len => match m.o o with | some (.row _ _ g) => ∀ i, i < len → (g (off + i)).all (fun p => !p.isOw) = true | _ => True
  | _ => True
def aappend (P : Program) (t : TypeId) (s x : PV) (m : Mem) (K : PV → Mem → Prop) : Prop := match asrc m x with
  | some (k, gs, sz) => match s with
    | .nils => ((tyD P t).eok = true ∧ (k = 0 ∨ sz = (tyD P t).es) ∧ k * (tyD P t).eb ≤ 140737488355328) ∧ aflat m x ∧ K (.sl [m.nx] (tyD P t).es k 0 k) (m.grow none (.row (tyD P t).es k gs))
    | .sl o sz0 n off len => match m.o o with
      | some (.row sz' n' g) => ((tyD P t).eok = true ∧ (k = 0 ∨ sz = (tyD P t).es) ∧ sz' = (tyD P t).es ∧ sz0 = (tyD P t).es ∧ n' = n ∧ off = 0 ∧ (len + k) * (tyD P t).eb ≤ 140737488355328) ∧ aflat m x ∧
          K (.sl [m.nx] (tyD P t).es (len + k) 0 (len + k)) (m.grow (some o) (.row (tyD P t).es (len + k) (fun i => if i < len then g i else gs (i - len))))
      | _ => False
    | _ => False
  | none => False
/-- It is closed as it stands. -/
def PV.clo1 : PV → Bool
  | .und | .bool _ | .int _ _ | .str _ | .nils | .cl _ _ _ | .pc _ => true
  | _ => false
def PV.clo : PV → Bool
  | .ag cs => cs.all PV.clo1
  | p => p.clo1
def hintOk (e : Operand → PV) : Option Operand → Prop
  | none => True
  | some x => match e x with | .int _ _ => True | _ => False
/-- What is carried out under a guard that is known. -/
def onG (cs : List Bool) (p q : Prop) : Prop := if cs.all id = true then p else q
def aop (P : Program) (cs : List Bool) (op : Op) (e : Operand → PV) (m : Mem) (K : PV → Mem → Prop) : Prop := match op with
  | .box t x => onG cs (match pcells (e x) with | some vs => K (.bp [m.nx] 0) (m.grow none (.box vs)) | none => False) (K (gdv cs .und) m)
  | .alloc t => onG cs ((tyD P t).zok = true ∧ K (.bp [m.nx] 0) (m.grow none (.box (tyD P t).zc))) (K (gdv cs .und) m)
  | .store t a x => onG cs (astore P t (e a) (e x) m K) (K (gdv cs .und) m)
  | .buildSlice t n ps => onG cs (match allCells (ps.toList.map (fun x => e x.2)) with
    | some cc => ((tyD P t).eok = true ∧ okIdx 0 ps.toList = true ∧ ps.size = n ∧ (∀ c ∈ cc, c.length = (tyD P t).es) ∧ n * (tyD P t).es ≤ 16777216) ∧ K (.sl [m.nx] (tyD P t).es n 0 n) (m.grow none (.row (tyD P t).es n (fun i => cc.getD i [])))
    | none => False) (K (gdv cs .und) m)
  | .makeSlice t l c => onG cs (match e l, e c with
    | .int _ l, .int _ c => ((tyD P t).eok = true ∧ 0 ≤ l ∧ l ≤ c ∧ c * (tyD P t).eb ≤ 140737488355328) ∧ K (.sl [m.nx] (tyD P t).es l.toNat 0 l.toNat) (m.grow none (.row (tyD P t).es l.toNat (fun _ => (tyD P t).ez)))
    | _, _ => False) (K (gdv cs .und) m)
  | .makeMap t r => onG cs ((match (tyD P t).k with | .map _ _ => True | _ => False) ∧ hintOk e r ∧ K (.mp [m.nx]) (m.grow none (.map (fun _ => none)))) (K (gdv cs .und) m)
  | .mapUpdate t x k v => onG cs (match e x, e k with
    | .mp o, .int .i64 i => match m.o o with
      | some (.map f) => (match (tyD P t).k with | .map kt _ => tk P kt = .int .i64 | _ => False) ∧ (e v).clo = true ∧ K .und (m.set o (.map (upd f i (some (e v)))))
      | _ => False
    | _, _ => False) (K (gdv cs .und) m)
  | .convert s d x => match e x with
    | .str b => if tkU8 P d then onG cs ((tk P s = .string ∧ (tyD P d).eok = true ∧ (tyD P d).es = 1) ∧ K (.sl [m.nx] 1 b.size 0 b.size) (m.grow none (.row 1 b.size (fun i => [.int .u8 (bt b i)])))) (K (gdv cs .und) m)
      else (cs.all id = true → (apure P cs (.convert s d x) e m).ok) ∧ K (gdv cs (apure P cs (.convert s d x) e m).v) m
    | _ => (cs.all id = true → (apure P cs (.convert s d x) e m).ok) ∧ K (gdv cs (apure P cs (.convert s d x) e m).v) m
  | .call c => match c.callee with
    | .builtin .delete => onG cs (match c.args.toList, c.argTypes.toList with
      | [x, k], t :: _ => (match e x, e k with
        | .mp o, .int .i64 i => match m.o o with
          | some (.map f) => (match (tyD P t).k with | .map kt _ => tk P kt = .int .i64 | _ => False) ∧ K (.tu []) (m.set o (.map (upd f i none)))
          | _ => False
        | _, _ => False)
      | _, _ => False) (K (gdv cs .und) m)
    | .builtin .append => onG cs (match c.args.toList, c.argTypes.toList with | [s, x], [t, t'] => ((∃ e', P.underlying t' = some (.slice e')) ∨ P.underlying t' = some .string) ∧ aappend P t (e s) (e x) m K | _, _ => False) (K (gdv cs .und) m)
    | .builtin b => (cs.all id = true → (apure P cs (.call c) e m).ok) ∧ K (gdv cs (apure P cs (.call c) e m).v) m
    | .value f => match e f with | .fn g caps => acall P cs g (c.args.toList.map e ++ caps) m (k2 K) | _ => False
    | .invoke _ _ => False
  | op => (cs.all id = true → (apure P cs op e m).ok) ∧ K (gdv cs (apure P cs op e m).v) m

/-- Objects that a value names. -/
def idL : PV → List Id
  | .bp o _ => [o] | .pt o _ _ _ _ => [o] | .mp o => [o] | .sl o _ _ _ _ => [o] | _ => []
/-- What an operation looks at, and what it changes or makes. -/
def rdN (op : Op) (e : Operand → PV) : List Id := match op with
  | .load _ x => idL (e x)
  | .lookup _ x _ _ => idL (e x)
  | .convert _ _ x => idL (e x)
  | .call c => match c.callee with
    | .builtin .append => (match c.args.toList with | [_, x] => idL (e x) | _ => [])
    | _ => []
  | _ => []
def wrN (op : Op) (e : Operand → PV) (m : Mem) : List Id := match op with
  | .box _ _ | .alloc _ | .buildSlice _ _ _ | .makeSlice _ _ _ | .makeMap _ _ => [[m.nx]]
  | .store _ a _ => idL (e a)
  | .mapUpdate _ x _ _ => idL (e x)
  | .convert _ _ x => (match e x with | .str _ => [[m.nx]] | _ => [])
  | .call c => match c.callee with
    | .builtin .append => (match c.args.toList with | [s, _] => idL (e s) ++ [[m.nx]] | _ => [])
    | .builtin .delete => (match c.args.toList with | [x, _] => idL (e x) | _ => [])
    | _ => []
  | _ => []
/-- An operation, and its objects. -/
def aopD (P : Program) (cs : List Bool) (op : Op) (e : Operand → PV) (m : Mem) (K : PV → Mem → List Id → List Id → Prop) : Prop := match op with
  | .call c => match c.callee with
    | .value f => match e f with | .fn g caps => acall P cs g (c.args.toList.map e ++ caps) m K | _ => False
    | _ => aop P cs (.call c) e m (kD K (rdN (.call c) e) (wrN (.call c) e m))
  | op => aop P cs op e m (kD K (rdN op e) (wrN op e m))
def AS.ev (s : AS) : Operand → PV
  | .tmp t => s.t t
  | .const v => ofVal v
  | .func f => .fn f []
  | .global _ => .und
/-- The slot that operation j of a region fills. -/
def gtmp (ds : List (Option Tmp)) (j : Nat) : Option Tmp := (ds[j]?).bind id
/-- Under which tests an operation is carried out. -/
def agd (ds : List (Option Tmp)) (s : AS) : Option (Nat × Bool) → Option (List Bool)
  | none => some []
  | some (j, b) => match gtmp ds j with
    | some t => match s.t t with
      | .bool x => some [bif b then x else !x]
      | .gd cs (.bool x) => some (cs ++ [bif b then x else !x])
      | _ => none
    | none => none
def arun (P : Program) (nt : Nat) (ds : List (Option Tmp)) : List Oper → (AS → Prop) → AS → Prop
  | [], K, s => K s
  | o :: rest, K, s => match agd ds s o.guard with
    | some cs => (o.dst.all (· < nt) = true) ∧ aop P cs o.op (fun x => strip cs (s.ev x)) s.m (fun r m' => arun P nt ds rest K (({ s with m := m' } : AS).put o.dst r))
    | none => False
end Go.Proofs.YtolejglfohagnaaW.AW
