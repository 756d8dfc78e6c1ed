/- The words' own equations in one, for simp. Plain lemmas: no statement of the program. -/
import Derived.Test.YtolejglfohagnaaWB25
namespace Go.Proofs.YtolejglfohagnaaW.AW
open Go Go.RowKit
set_option linter.unusedVariables false
set_option linter.unusedSimpArgs false

theorem vc_skip {C : Cx} {P : Program} {Q : Exit → AS → Prop} {s : AS} : vc C P .skip Q s = Q .normal s := rfl
theorem vc_ret {C : Cx} {P : Program} {Q : Exit → AS → Prop} {s : AS} : vc C P .ret Q s = Q .ret s := rfl
theorem vc_exit {C : Cx} {P : Program} {Q : Exit → AS → Prop} {s : AS} {n : Nat} : vc C P (.exit n) Q s = Q (.exit n) s := rfl
theorem vc_block {C : Cx} {P : Program} {Q : Exit → AS → Prop} {s : AS} {n : Nat} {c : Code} : vc C P (.block n c) Q s = vc C P c (blockA n Q) s := rfl
theorem vc_cond {C : Cx} {P : Program} {Q : Exit → AS → Prop} {s : AS} {x : Operand} {a b : Code} : vc C P (.cond x a b) Q s = match s.ev x with | .bool t => (t = true → vc C P a Q s) ∧ (t = false → vc C P b Q s) | _ => False := rfl
theorem vc_region {C : Cx} {P : Program} {Q : Exit → AS → Prop} {s : AS} {n : Nat} {ops : Array Oper} : vc C P (.region n ops false) Q s = arun P C.nt (ops.toList.map (·.dst)) ops.toList (Q .normal) s := rfl
theorem vc_drawn {C : Cx} {P : Program} {Q : Exit → AS → Prop} {s : AS} {n : Nat} {ops : Array Oper} : vc C P (.region n ops true) Q s = (P.follows .mixedOrders = true ∧ drawOk ops = true ∧ arunD P C.nt (ops.toList.map (·.dst)) (nds ops.toList []) 0 [] [] ops.toList (Q .normal) s) := rfl
theorem vc_loop {C : Cx} {P : Program} {Q : Exit → AS → Prop} {s : AS} {c : Code} : vc C P (.loop c) Q s = AL C P c Q s := rfl
theorem thenA_n {K : AS → Prop} {Q : Exit → AS → Prop} {s : AS} : thenA K Q .normal s = K s := rfl
theorem thenA_r {K : AS → Prop} {Q : Exit → AS → Prop} {s : AS} : thenA K Q .ret s = Q .ret s := rfl
theorem thenA_e {K : AS → Prop} {Q : Exit → AS → Prop} {s : AS} {n : Nat} : thenA K Q (.exit n) s = Q (.exit n) s := rfl
theorem blockA_n {Q : Exit → AS → Prop} {s : AS} {n : Nat} : blockA n Q .normal s = Q .normal s := rfl
theorem blockA_r {Q : Exit → AS → Prop} {s : AS} {n : Nat} : blockA n Q .ret s = Q .ret s := rfl
theorem blockA_e {Q : Exit → AS → Prop} {s : AS} {n k : Nat} : blockA n Q (.exit k) s = if k = n then Q .normal s else Q (.exit k) s := rfl
theorem AS_t {t : Nat → PV} {m : Mem} : (⟨t, m⟩ : AS).t = t := rfl
theorem AS_m {t : Nat → PV} {m : Mem} : (⟨t, m⟩ : AS).m = m := rfl
theorem grow_nx {m : Mem} {q : Option Id} {x : Ob} : (m.grow q x).nx = m.nx + 1 := rfl
theorem grow_o {m : Mem} {q : Option Id} {x : Ob} : (m.grow q x).o = upd (m.gone q) [m.nx] (some x) := rfl
theorem gone_n {m : Mem} : m.gone none = m.o := rfl
theorem gone_s {m : Mem} {o : Id} : m.gone (some o) = upd m.o o none := rfl
theorem set_nx {m : Mem} {o : Id} {x : Ob} : (m.set o x).nx = m.nx := rfl
theorem set_o {m : Mem} {o : Id} {x : Ob} : (m.set o x).o = upd m.o o (some x) := rfl
theorem drop_nx {m : Mem} {o : Id} : (m.drop o).nx = m.nx := rfl
theorem drop_o {m : Mem} {o : Id} : (m.drop o).o = upd m.o o none := rfl
theorem growN_b {m : Mem} {cs : List PV} : m.growN (.box cs) = m.grow none (.box cs) := rfl
theorem growN_r {m : Mem} {sz n : Nat} {g : Nat → List PV} : m.growN (.row sz n g) = m.grow none (.row sz n g) := rfl
theorem growN_m {m : Mem} {f : Int → Option PV} : m.growN (.map f) = m.grow none (.map f) := rfl
theorem growN_n {m : Mem} : m.growN .no = ⟨m.o, m.nx + 1⟩ := rfl
theorem setN_b {m : Mem} {o : Id} {cs : List PV} : m.setN o (.box cs) = m.set o (.box cs) := rfl
theorem setN_r {m : Mem} {o : Id} {sz n : Nat} {g : Nat → List PV} : m.setN o (.row sz n g) = m.set o (.row sz n g) := rfl
theorem setN_m {m : Mem} {o : Id} {f : Int → Option PV} : m.setN o (.map f) = m.set o (.map f) := rfl
theorem setN_n {m : Mem} {o : Id} : m.setN o .no = m.drop o := rfl
theorem aft_c {ns : List Id} {m : Mem} {o : Id} {src : List Id} {x : Ob} {l : List Ob} : Mem.aft ns m (o :: src) (x :: l) = Mem.aft ns (m.setN o (reO ns x)) src l := rfl
theorem aft_g {ns : List Id} {m : Mem} {x : Ob} {l : List Ob} : Mem.aft ns m [] (x :: l) = Mem.aft ns (m.growN (reO ns x)) [] l := rfl
theorem aft_n {ns : List Id} {m : Mem} : Mem.aft ns m [] [] = m := rfl
theorem aft_e {ns : List Id} {m : Mem} {o : Id} {src : List Id} : Mem.aft ns m (o :: src) [] = m := rfl
theorem wr64 {n : Int} (h0 : -9223372036854775808 ≤ n) (h1 : n ≤ 9223372036854775807) : IntKind.i64.wrap n = n := w64
/-- What follows an operation, shut till its answer is told. -/
def nxt (P : Program) (nt : Nat) (ds : List (Option Tmp)) (rest : List Oper) (K : AS → Prop) (s : AS) (d : Option Tmp) (r : PV) (m' : Mem) : Prop := arun P nt ds rest K (({ s with m := m' } : AS).put d r)
def nxtD (P : Program) (nt : Nat) (ds : List (Option Tmp)) (N : List Nat) (i : Nat) (rd wr : List (Nat × List Id)) (rest : List Oper) (K : AS → Prop) (s : AS) (d : Option Tmp) (r : PV) (m' : Mem) (R W : List Id) : Prop := evB N rd wr i R W = true ∧ arunD P nt ds N (i + 1) (addE i R rd) (addE i W wr) rest K (({ s with m := m' } : AS).put d r)
theorem k2_is {K : PV → Mem → Prop} {r : PV} {m' : Mem} {R W : List Id} : k2 K r m' R W = K r m' := rfl
theorem kD_is {K : PV → Mem → List Id → List Id → Prop} {r : PV} {m' : Mem} {R W : List Id} : kD K R W r m' = K r m' R W := rfl
theorem nxt_is {P : Program} {nt : Nat} {ds : List (Option Tmp)} {rest : List Oper} {K : AS → Prop} {s : AS} {d : Option Tmp} {r : PV} {m' : Mem} : nxt P nt ds rest K s d r m' = arun P nt ds rest K (({ s with m := m' } : AS).put d r) := rfl
theorem nxtD_is {P : Program} {nt : Nat} {ds : List (Option Tmp)} {N : List Nat} {i : Nat} {rd wr : List (Nat × List Id)} {rest : List Oper} {K : AS → Prop} {s : AS} {d : Option Tmp} {r : PV} {m' : Mem} {R W : List Id} : nxtD P nt ds N i rd wr rest K s d r m' R W = (evB N rd wr i R W = true ∧ arunD P nt ds N (i + 1) (addE i R rd) (addE i W wr) rest K (({ s with m := m' } : AS).put d r)) := rfl
theorem arun_n {P : Program} {nt : Nat} {ds : List (Option Tmp)} {o : Oper} {rest : List Oper} {K : AS → Prop} {s : AS} : arun P nt ds (o :: rest) K s = match agd ds s o.guard with
    | some cs => (o.dst.all (· < nt) = true) ∧ aop P cs o.op (fun x => strip cs (s.ev x)) s.m (nxt P nt ds rest K s o.dst)
    | none => False := rfl
theorem arunD_n {P : Program} {nt : Nat} {ds : List (Option Tmp)} {N : List Nat} {i : Nat} {rd wr : List (Nat × List Id)} {o : Oper} {rest : List Oper} {K : AS → Prop} {s : AS} : arunD P nt ds N i rd wr (o :: rest) K s = match agd ds s o.guard with
    | some cs => (o.dst.all (· < nt) = true) ∧ aopD P cs o.op (fun x => strip cs (s.ev x)) s.m (nxtD P nt ds N i rd wr rest K s o.dst)
    | none => False := rfl
theorem VS : type_of% (And.intro @vc_skip <| And.intro @vc_ret <| And.intro @vc_exit <| And.intro @vc_seq <| And.intro @vc_block <| And.intro @vc_cond <| And.intro @vc_region <| And.intro @vc_loop <| And.intro @thenA_n <| And.intro @thenA_r <| And.intro @thenA_e <| And.intro @blockA_n <| And.intro @blockA_r <| And.intro @blockA_e <| And.intro @AS_t <| And.intro @AS_m <| And.intro @grow_nx <| And.intro @grow_o <| And.intro @gone_n <| And.intro @gone_s <| And.intro @set_nx <| And.intro @set_o <| And.intro @drop_nx <| And.intro @drop_o <| And.intro @growN_b <| And.intro @growN_r <| And.intro @growN_m <| And.intro @growN_n <| And.intro @setN_b <| And.intro @setN_r <| And.intro @setN_m <| And.intro @setN_n <| And.intro @aft_c <| And.intro @aft_g <| And.intro @aft_n <| And.intro @aft_e <| And.intro @ML_nx <| And.intro @ML_at <| And.intro @arun.eq_1 <| And.intro @arun_n <| And.intro @vc_drawn <| And.intro @arunD.eq_1 <| And.intro @arunD_n <| And.intro @nxt_is <| And.intro @nxtD_is <| And.intro @agd.eq_1 @agd.eq_2) :=
  And.intro @vc_skip <| And.intro @vc_ret <| And.intro @vc_exit <| And.intro @vc_seq <| And.intro @vc_block <| And.intro @vc_cond <| And.intro @vc_region <| And.intro @vc_loop <| And.intro @thenA_n <| And.intro @thenA_r <| And.intro @thenA_e <| And.intro @blockA_n <| And.intro @blockA_r <| And.intro @blockA_e <| And.intro @AS_t <| And.intro @AS_m <| And.intro @grow_nx <| And.intro @grow_o <| And.intro @gone_n <| And.intro @gone_s <| And.intro @set_nx <| And.intro @set_o <| And.intro @drop_nx <| And.intro @drop_o <| And.intro @growN_b <| And.intro @growN_r <| And.intro @growN_m <| And.intro @growN_n <| And.intro @setN_b <| And.intro @setN_r <| And.intro @setN_m <| And.intro @setN_n <| And.intro @aft_c <| And.intro @aft_g <| And.intro @aft_n <| And.intro @aft_e <| And.intro @ML_nx <| And.intro @ML_at <| And.intro @arun.eq_1 <| And.intro @arun_n <| And.intro @vc_drawn <| And.intro @arunD.eq_1 <| And.intro @arunD_n <| And.intro @nxt_is <| And.intro @nxtD_is <| And.intro @agd.eq_1 @agd.eq_2
/-- Told of data: what is nameless, what leads into no closed memory, what is lent. -/
theorem NR_iff : (NR .und ↔ True) ∧ (∀ b, NR (.bool b) ↔ True) ∧ (∀ k n, NR (.int k n) ↔ True) ∧ (∀ s, NR (.str s) ↔ True) ∧ (NR .nils ↔ True) ∧ (∀ o sz n off len, NR (.sl o sz n off len) ↔ True) ∧ (∀ o j, NR (.bp o j) ↔ True) ∧
    (∀ sz n g, NR (.ow sz n g) ↔ ∀ i, i < n → ∀ p ∈ g i, NR p) ∧ (∀ ps, NR (.ag ps) ↔ ∀ p ∈ ps, NR p) ∧ (∀ ps, NR (.tu ps) ↔ ∀ p ∈ ps, NR p) :=
  ⟨⟨fun _ => trivial, fun _ => .und⟩, fun b => ⟨fun _ => trivial, fun _ => .bool b⟩, fun k n => ⟨fun _ => trivial, fun _ => .int k n⟩, fun s => ⟨fun _ => trivial, fun _ => .str s⟩, ⟨fun _ => trivial, fun _ => .nils⟩, fun o sz n off len => ⟨fun _ => trivial, fun _ => .sl o sz n off len⟩, fun o j => ⟨fun _ => trivial, fun _ => .bp o j⟩,
    fun sz n g => ⟨fun h => by cases h; assumption, fun h => .ow sz n g h⟩, fun ps => ⟨fun h => by cases h; assumption, fun h => .ag ps h⟩, fun ps => ⟨fun h => by cases h; assumption, fun h => .tu ps h⟩⟩
theorem Nl_nil : Nl [] ↔ True := ⟨fun _ => trivial, fun _ p h => by simp at h⟩
theorem Nl_cons {p : PV} {r : List PV} : Nl (p :: r) ↔ p.nl = true ∧ Nl r := by simp [Nl]
theorem Cvl_nil : Cvl [] [] ↔ True := Iff.rfl
theorem Cvl_cons {p q : PV} {r s : List PV} : Cvl (p :: r) (q :: s) ↔ Cv p q ∧ Cvl r s := Iff.rfl
/-- The elements of a list, as a slice's. -/
def lpv {X : Type} (pv : X → List PV) (xs : List X) (i : Nat) : List PV := match xs[i]? with | some x => pv x | none => []
theorem lpv_at {X : Type} {pv : X → List PV} {xs : List X} {i : Nat} (h : i < xs.length) : lpv pv xs i = pv xs[i] := by simp [lpv, h]
theorem lpv_mem {X : Type} {pv : X → List PV} {xs : List X} {i : Nat} {p : PV} (h : p ∈ lpv pv xs i) : ∃ x ∈ xs, p ∈ pv x := by
  unfold lpv at h
  split at h
  · rename_i x hx; exact ⟨x, List.mem_of_getElem? hx, h⟩
  · simp at h
theorem Nl_lpv {X : Type} {pv : X → List PV} {xs : List X} {i : Nat} (h : ∀ x, Nl (pv x)) : Nl (lpv pv xs i) := fun p hp => by obtain ⟨x, _, hx⟩ := lpv_mem hp; exact h x p hx
theorem NR_lpv {X : Type} {pv : X → List PV} {xs : List X} {i : Nat} (h : ∀ x, ∀ p ∈ pv x, NR p) : ∀ p ∈ lpv pv xs i, NR p := fun p hp => by obtain ⟨x, _, hx⟩ := lpv_mem hp; exact h x p hx
theorem Cvl_lpv {X : Type} {pv qv : X → List PV} {xs : List X} {i : Nat} (h : ∀ x, Cvl (pv x) (qv x)) : Cvl (lpv pv xs i) (lpv qv xs i) := by
  unfold lpv
  cases xs[i]? with
  | none => trivial
  | some x => exact h x
/-- f up to i, g from there on. -/
def upto {X : Type} (i : Nat) (f g : Nat → X) (j : Nat) : X := if j < i then f j else g j
theorem upto_self {X : Type} {i : Nat} {f g : Nat → X} : upto i f g i = g i := by simp [upto]
theorem upto_0 {X : Type} {f g : Nat → X} {j : Nat} : upto 0 f g j = g j := by simp [upto]
theorem upto_eq {X : Type} {i : Nat} {f g : Nat → X} : upto (i + 1) f g i = f i := by simp [upto]
theorem upto_ne {X : Type} {i j : Nat} {f g : Nat → X} (h : j ≠ i) : upto (i + 1) f g j = upto i f g j := by
  unfold upto
  by_cases q : j < i
  · rw [if_pos q, if_pos (by omega)]
  · rw [if_neg q, if_neg (by omega)]
theorem upto_lt {X : Type} {i j : Nat} {f g : Nat → X} (h : j < i) : upto i f g j = f j := by simp [upto, h]
theorem upto_ge {X : Type} {i j : Nat} {f g : Nat → X} (h : i ≤ j) : upto i f g j = g j := by simp [upto, show ¬ j < i by omega]
theorem Nl_upto {i j : Nat} {f g : Nat → List PV} (hf : ∀ j, Nl (f j)) (hg : ∀ j, Nl (g j)) : Nl (upto i f g j) := by
  unfold upto; split
  · exact hf j
  · exact hg j
theorem sz_mk (l : List UInt8) : (ByteArray.mk l.toArray).size = l.length := by simp [ByteArray.size]
/-- Lean's own equations, in one. -/
theorem VZ : type_of% (And.intro (@upto_self (List PV)) <| And.intro @pickv_t <| And.intro @pickv_f <| And.intro @pickv_bb <| And.intro @pickv_gb <| And.intro @pickv_bg <| And.intro @pickv_gg <| And.intro (@upd_at Id (Option Ob) _) <| And.intro (@upd_at Nat PV _) <| And.intro (@upd_at Int (Option PV) _) <| And.intro (@upd_at Nat (List PV) _) <| And.intro @mi64 <| And.intro @ma64 <| And.intro @miu8 <| And.intro @mau8 <| And.intro @miu64 <| And.intro @mau64 <| And.intro @and_self <| And.intro @and_true <| And.intro @true_and <| And.intro @and_false <| And.intro @false_and <| And.intro @if_true.{1} <| And.intro @if_false.{1} <| And.intro @List.getD_cons_zero.{0} <| And.intro @List.getD_cons_succ.{0} <| And.intro @List.map_cons.{0, 0} <| And.intro @List.map_nil.{0, 0} <| And.intro @List.getElem?_cons_succ.{0} <| And.intro @List.getElem?_cons_zero.{0} <| And.intro @List.getElem?_nil.{0} <| And.intro @Option.bind_some.{0, 0} <| And.intro @id_eq.{1} <| And.intro @List.all_nil.{0} <| And.intro @forall_const.{1} <| And.intro @forall_const.{0} <| And.intro @Option.all_some.{0} <| And.intro @Option.all_none.{0} <| And.intro @Option.getD_none.{0} <| And.intro @Option.getD_some.{0} <| And.intro @Nat.sub_self <| And.intro @Nat.lt_irrefl <| And.intro @Nat.zero_add <| And.intro @Nat.add_zero <| And.intro @decide_true <| And.intro @decide_false <| And.intro @implies_true.{1} <| And.intro @implies_true.{0} <| And.intro @List.nil_append.{0} <| And.intro @List.append_nil.{0} <| And.intro @List.cons_append.{0} <| And.intro @cond_false.{1} <| And.intro @cond_true.{1} <| And.intro @List.all_cons.{0} <| And.intro @Bool.and_true <| And.intro @Bool.not_true <| And.intro @Bool.not_false <| And.intro @List.drop_zero.{0} <| And.intro @List.drop_succ_cons.{0} <| And.intro @List.take_zero.{0} <| And.intro @List.take_succ_cons.{0} <| And.intro @List.drop_nil.{0} <| And.intro @List.take_nil.{0} <| And.intro @List.length_cons.{0} <| And.intro @List.length_nil.{0} <| And.intro @ne_eq.{1} <| And.intro @not_false_eq_true <| And.intro @not_true_eq_false <| And.intro @Nat.one_ne_zero <| And.intro @Nat.add_one_ne_zero <| And.intro @true_or <| And.intro @or_true <| And.intro @or_self <| And.intro @beq_self_eq_true.{0} <| And.intro @List.size_toArray.{0} <| And.intro @List.mem_cons.{0} <| And.intro @List.not_mem_nil.{0} <| And.intro @or_false <| And.intro @forall_eq.{1} <| And.intro @forall_eq_or_imp.{1} <| And.intro @Int.toNat_natCast <| And.intro @Option.map_some.{0, 0} <| And.intro @Option.bind_none.{0, 0} <| And.intro @Option.map_none.{0, 0} <| And.intro @List.set_cons_zero.{0} <| And.intro @List.set_cons_succ.{0} <| And.intro @Option.isSome_some.{0} <| And.intro @Option.isSome_none.{0} <| And.intro @eq_self.{1} <| And.intro @true_implies <| And.intro @false_implies <| And.intro @Bool.false_eq_true <| And.intro @Bool.true_eq_false <| And.intro @sz_mk <| And.intro @k2_is <| And.intro @kD_is <| And.intro @evOk_p <| And.intro @evOk_e <| And.intro @addE_n <| And.intro @addE_c <| And.intro @List.flatMap_cons.{0, 0} <| And.intro @List.flatMap_nil.{0, 0} @Bool.not_not) :=
  And.intro (@upto_self (List PV)) <| And.intro @pickv_t <| And.intro @pickv_f <| And.intro @pickv_bb <| And.intro @pickv_gb <| And.intro @pickv_bg <| And.intro @pickv_gg <| And.intro (@upd_at Id (Option Ob) _) <| And.intro (@upd_at Nat PV _) <| And.intro (@upd_at Int (Option PV) _) <| And.intro (@upd_at Nat (List PV) _) <| And.intro @mi64 <| And.intro @ma64 <| And.intro @miu8 <| And.intro @mau8 <| And.intro @miu64 <| And.intro @mau64 <| And.intro @and_self <| And.intro @and_true <| And.intro @true_and <| And.intro @and_false <| And.intro @false_and <| And.intro @if_true.{1} <| And.intro @if_false.{1} <| And.intro @List.getD_cons_zero.{0} <| And.intro @List.getD_cons_succ.{0} <| And.intro @List.map_cons.{0, 0} <| And.intro @List.map_nil.{0, 0} <| And.intro @List.getElem?_cons_succ.{0} <| And.intro @List.getElem?_cons_zero.{0} <| And.intro @List.getElem?_nil.{0} <| And.intro @Option.bind_some.{0, 0} <| And.intro @id_eq.{1} <| And.intro @List.all_nil.{0} <| And.intro @forall_const.{1} <| And.intro @forall_const.{0} <| And.intro @Option.all_some.{0} <| And.intro @Option.all_none.{0} <| And.intro @Option.getD_none.{0} <| And.intro @Option.getD_some.{0} <| And.intro @Nat.sub_self <| And.intro @Nat.lt_irrefl <| And.intro @Nat.zero_add <| And.intro @Nat.add_zero <| And.intro @decide_true <| And.intro @decide_false <| And.intro @implies_true.{1} <| And.intro @implies_true.{0} <| And.intro @List.nil_append.{0} <| And.intro @List.append_nil.{0} <| And.intro @List.cons_append.{0} <| And.intro @cond_false.{1} <| And.intro @cond_true.{1} <| And.intro @List.all_cons.{0} <| And.intro @Bool.and_true <| And.intro @Bool.not_true <| And.intro @Bool.not_false <| And.intro @List.drop_zero.{0} <| And.intro @List.drop_succ_cons.{0} <| And.intro @List.take_zero.{0} <| And.intro @List.take_succ_cons.{0} <| And.intro @List.drop_nil.{0} <| And.intro @List.take_nil.{0} <| And.intro @List.length_cons.{0} <| And.intro @List.length_nil.{0} <| And.intro @ne_eq.{1} <| And.intro @not_false_eq_true <| And.intro @not_true_eq_false <| And.intro @Nat.one_ne_zero <| And.intro @Nat.add_one_ne_zero <| And.intro @true_or <| And.intro @or_true <| And.intro @or_self <| And.intro @beq_self_eq_true.{0} <| And.intro @List.size_toArray.{0} <| And.intro @List.mem_cons.{0} <| And.intro @List.not_mem_nil.{0} <| And.intro @or_false <| And.intro @forall_eq.{1} <| And.intro @forall_eq_or_imp.{1} <| And.intro @Int.toNat_natCast <| And.intro @Option.map_some.{0, 0} <| And.intro @Option.bind_none.{0, 0} <| And.intro @Option.map_none.{0, 0} <| And.intro @List.set_cons_zero.{0} <| And.intro @List.set_cons_succ.{0} <| And.intro @Option.isSome_some.{0} <| And.intro @Option.isSome_none.{0} <| And.intro @eq_self.{1} <| And.intro @true_implies <| And.intro @false_implies <| And.intro @Bool.false_eq_true <| And.intro @Bool.true_eq_false <| And.intro @sz_mk <| And.intro @k2_is <| And.intro @kD_is <| And.intro @evOk_p <| And.intro @evOk_e <| And.intro @addE_n <| And.intro @addE_c <| And.intro @List.flatMap_cons.{0, 0} <| And.intro @List.flatMap_nil.{0, 0} @Bool.not_not
/-- So much taken off, or -1. -/
def lessBy (left : Int) (n : Nat) : Int := if left - n < 0 then -1 else left - n
theorem lessBy_m1 {l : Int} {n : Nat} (h : l - n < 0) : lessBy l n = -1 := if_pos h
theorem lessBy_ok {l : Int} {n : Nat} (h : ¬ l - n < 0) : lessBy l n = l - n := if_neg h
theorem lessBy_cases (l : Int) (n : Nat) : (l - n < 0 ∧ lessBy l n = -1) ∨ (0 ≤ l - n ∧ lessBy l n = l - n) := by unfold lessBy; split <;> omega
end Go.Proofs.YtolejglfohagnaaW.AW
