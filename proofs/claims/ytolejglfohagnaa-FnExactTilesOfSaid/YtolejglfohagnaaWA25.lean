/- The words' own equations in one, for simp. Plain lemmas: no statement of the program. -/
import Derived.Test.YtolejglfohagnaaWA24
namespace Go.Proofs.YtolejglfohagnaaW.AW
open Go Go.RowKit
set_option linter.unusedVariables false
set_option linter.unusedSimpArgs false

def obT (m : Mem) (o : Id) (x : Ob) : Prop := match m.o o with | some y => ObC y x | none => False
def obsT (m : Mem) : List Id → List Ob → Prop
  | o :: os, x :: xs => obT m o x ∧ obsT m os xs
  | [], [] => True
  | _, _ => False
theorem obsT_spec {m : Mem} : ∀ {src : List Id} {obs : List Ob}, obsT m src obs → src.length = obs.length ∧ ∀ (k : Nat) (o : Id) (x' : Ob), src[k]? = some o → obs[k]? = some x' → ∃ x, m.o o = some x ∧ ObC x x'
  | [], [], _ => ⟨rfl, fun k o x' h => by simp at h⟩
  | o :: os, x :: xs, ⟨h1, h2⟩ => by
    obtain ⟨h3, h4⟩ := obsT_spec h2
    refine ⟨by simp [h3], fun k o' x' a b => ?_⟩
    cases k with
    | zero =>
      simp at a b; subst a; subst b
      unfold obT at h1
      split at h1
      · rename_i y hy; exact ⟨y, hy, h1⟩
      · exact h1.elim
    | succ k => exact h4 k o' x' (by simpa using a) (by simpa using b)
section
variable {C : Cx} {P : Program} {c : Code} {Q : Exit → AS → Prop} {s : AS}
theorem Ret_O {rs : List ResultVar} {n0 : Nat} {e : Exit} (r : Own) (src : List Id) (obs : List Ob) (hok : (ares P s rs).ok) (hv : (ares P s rs).v = r.pv (fun j => src.getD j [j])) (hr : r.ok obs.length) (hT : obsT s.m src obs)
    (hfix : ∀ k, k < n0 → src[k]? = some [k] := by decide) (h0 : n0 ≤ obs.length := by first | decide | simp) (hnd : src.Nodup := by decide) (he : e = .ret ∨ e = .normal := by first | exact .inl rfl | exact .inr rfl) : RetT C P rs n0 (r.pv (fun j => [j])) (ML obs) e s :=
  Ret_L r src obs he hok hv hr h0 (obsT_spec hT).1 hfix hnd (obsT_spec hT).2
theorem Told_O {n0 : Nat} (hn : C.m0.nx = n0) (l : List (Nat × Own)) (src : List Id) (obs : List Ob) (hT : obsT s.m src obs) (ht : ∀ kp ∈ l, s.t kp.1 = kp.2.pv (fun j => src.getD j [j]) ∧ kp.2.ok obs.length)
    (hfix : ∀ k, k < n0 → src[k]? = some [k] := by decide) (h0 : n0 ≤ obs.length := by first | decide | simp) (hnd : src.Nodup := by decide) : Told C s ⟨ofL (l.map (fun kp => (kp.1, kp.2.pv (fun j => [j])))), ML obs⟩ :=
  Told_L l src obs (hn ▸ h0) (obsT_spec hT).1 (hn ▸ hfix) hnd (obsT_spec hT).2 ht
end
theorem RetT.told {C : Cx} {P : Program} {rs : List ResultVar} {n0 : Nat} {r : PV} {m' : Mem} {e : Exit} {s s' : AS} (h : Told C s s') (hr : RetT C P rs n0 r m' e s') : RetT C P rs n0 r m' e s := by
  obtain ⟨u, h1, h2⟩ := hr
  exact ⟨u, h.trans h1, h2⟩
theorem acall_O {P : Program} {m : Mem} {K : PV → Mem → Prop} {g : FuncId} {args : List PV} {o1 o2 : List Ob} (r : Own) (src : List Id) (args1 : List Own) (h : AC P g (args1.map (Own.pv (fun j => [j]))) (ML o1) (r.pv (fun j => [j])) (ML o2)) (hk : K (r.pv (fun j => src.getD j [j])) (m.puts src o2))
    (ha : args = args1.map (Own.pv (fun j => src.getD j [j]))) (hT : obsT m src o1) (hok : ∀ x ∈ args1, x.ok o1.length) (hr : r.ok o2.length) (hc : ∀ x ∈ o2, ObC x x) (hx : ∀ o ∈ src, hb o m.nx) (h12 : o2.length = o1.length := by rfl) (hnd : src.Nodup := by decide) : acall P [] g args m K :=
  acall_h src args1 h ha hok h12 (obsT_spec hT).1 hnd hx (obsT_spec hT).2 hr hc hk
/-- A value as it is lent: one's own slices (of F) as closed ones. -/
def lend (m : Mem) (F : List Id) : PV → PV → Prop
  | .sl o sz n off len, .cl sz' n' g' => sz' = sz ∧ n' = len ∧ o ∈ F ∧ match m.o o with | some (.row sz0 n0 g) => sz0 = sz ∧ n0 = n ∧ ∀ i, i < len → g' i = g (off + i) ∧ ∀ p ∈ g (off + i), Clo p | _ => False
  | p, q => q = p ∧ Clo p
def lends (m : Mem) (F : List Id) : List PV → List PV → Prop
  | p :: ps, q :: qs => lend m F p q ∧ lends m F ps qs
  | [], [] => True
  | _, _ => False
theorem lend_ok {m : Mem} {F : List Id} {p q : PV} (h : lend m F p q) : Wc m (fun o => o ∈ F) p q := by
  unfold lend at h
  split at h
  · obtain ⟨rfl, rfl, h1, h2⟩ := h
    split at h2
    · rename_i ho
      obtain ⟨rfl, rfl, h3⟩ := h2
      exact .close _ _ _ _ _ _ _ h1 ho (fun i hi => by rw [(h3 i hi).1]) (fun i j p p' hi hp hp' => by rw [(h3 i hi).1, hp] at hp'; cases hp'; exact (h3 i hi).2 p (List.mem_of_getElem? hp) _ _)
    · exact h2.elim
  · obtain ⟨rfl, h2⟩ := h
    exact h2 _ _
theorem lends_ok {m : Mem} {F : List Id} : ∀ {ps qs : List PV}, lends m F ps qs → qs.length = ps.length ∧ ∀ (i : Nat) (p q : PV), ps[i]? = some p → qs[i]? = some q → Wc m (fun o => o ∈ F) p q
  | [], [], _ => ⟨rfl, fun i p q h => by simp at h⟩
  | p :: ps, q :: qs, ⟨h1, h2⟩ => by
    obtain ⟨h3, h4⟩ := lends_ok h2
    refine ⟨by simp [h3], fun i p' q' hp hq => ?_⟩
    cases i with
    | zero => simp at hp hq; subst hp; subst hq; exact lend_ok h1
    | succ i => exact h4 i p' q' (by simpa using hp) (by simpa using hq)
/-- A call that is lent one's own slices and hands back a closed value. -/
theorem acall_F {P : Program} {m : Mem} {K : PV → Mem → Prop} {cs : List Bool} {g : FuncId} {args : List PV} {r : PV} (args1 : List PV) (F : List Id) (h : AC P g args1 (E 0) r (E 0)) (hl : lends m F args args1) (hr : Clo r) (hn : NR r) (hk : K (gdv cs r) m) : acall P cs g args m K :=
  acall_f args1 (fun o => o ∈ F) h (lends_ok hl).1 (lends_ok hl).2 hr hn hk
/-- A call on closed values that hands back objects. -/
theorem acall_N {P : Program} {m : Mem} {K : PV → Mem → Prop} {g : FuncId} {args : List PV} {obs : List Ob} (r : Own) (h : AC P g args (E 0) (r.pv (fun j => [j])) (ML obs)) (ha : ∀ p ∈ args, Clo p) (hr : r.ok obs.length) (hc : ∀ x ∈ obs, ObC x x) (hk : K (r.pv (fun j => [m.nx + j])) (m.adds obs)) : acall P [] g args m K :=
  acall_L args (fun _ => False) h rfl (fun i p q h1 h2 => by rw [h1] at h2; cases h2; exact ha p (List.mem_of_getElem? h1) _ _) hr hc (.inl fun _ h => h) hk
theorem CloS : (Clo .und ∧ Clo .nils ∧ (∀ b, Clo (.bool b)) ∧ (∀ k n, Clo (.int k n)) ∧ (∀ s, Clo (.str s)) ∧ (∀ sz n g, Clo (.cl sz n g)) ∧ ∀ ps, Clo (.pc ps)) ∧ (∀ ps, Clo (.ag ps) ↔ ∀ p ∈ ps, Clo p) ∧ (∀ ps, Clo (.tu ps) ↔ ∀ p ∈ ps, Clo p) :=
  ⟨⟨Clo_und, Clo_nils, fun _ => Clo_bool, fun _ _ => Clo_int, fun _ => Clo_str, fun _ _ _ => Clo_cl, fun _ => Clo_pc⟩, fun _ => Clo_ag_iff, fun _ => Clo_tu_iff⟩
theorem vc_skip {C : Cx} {P : Program} {Q : Exit → AS → Prop} {s : AS} : vc C P .skip Q s = Q .normal s := rfl
theorem vc_ret {C : Cx} {P : Program} {Q : Exit → AS → Prop} {s : AS} : vc C P .ret Q s = Q .ret s := rfl
theorem vc_exit {C : Cx} {P : Program} {Q : Exit → AS → Prop} {s : AS} {n : Nat} : vc C P (.exit n) Q s = Q (.exit n) s := rfl
theorem vc_block {C : Cx} {P : Program} {Q : Exit → AS → Prop} {s : AS} {n : Nat} {c : Code} : vc C P (.block n c) Q s = vc C P c (blockA n Q) s := rfl
theorem vc_cond {C : Cx} {P : Program} {Q : Exit → AS → Prop} {s : AS} {x : Operand} {a b : Code} : vc C P (.cond x a b) Q s = match s.ev x with | .bool t => (t = true → vc C P a Q s) ∧ (t = false → vc C P b Q s) | _ => False := rfl
theorem vc_region {C : Cx} {P : Program} {Q : Exit → AS → Prop} {s : AS} {n : Nat} {ops : Array Oper} : vc C P (.region n ops false) Q s = arun P C.nt (ops.toList.map (·.dst)) ops.toList (Q .normal) s := rfl
theorem vc_drawn {C : Cx} {P : Program} {Q : Exit → AS → Prop} {s : AS} {n : Nat} {ops : Array Oper} : vc C P (.region n ops true) Q s = (P.follows .mixedOrders = true ∧ drawOk ops = true ∧ arunD P C.nt (ops.toList.map (·.dst)) (single ops) 0 ops.toList (Q .normal) s) := rfl
theorem vc_loop {C : Cx} {P : Program} {Q : Exit → AS → Prop} {s : AS} {c : Code} : vc C P (.loop c) Q s = AL C P c Q s := rfl
theorem thenA_n {K : AS → Prop} {Q : Exit → AS → Prop} {s : AS} : thenA K Q .normal s = K s := rfl
theorem thenA_r {K : AS → Prop} {Q : Exit → AS → Prop} {s : AS} : thenA K Q .ret s = Q .ret s := rfl
theorem thenA_e {K : AS → Prop} {Q : Exit → AS → Prop} {s : AS} {n : Nat} : thenA K Q (.exit n) s = Q (.exit n) s := rfl
theorem blockA_n {Q : Exit → AS → Prop} {s : AS} {n : Nat} : blockA n Q .normal s = Q .normal s := rfl
theorem blockA_r {Q : Exit → AS → Prop} {s : AS} {n : Nat} : blockA n Q .ret s = Q .ret s := rfl
theorem blockA_e {Q : Exit → AS → Prop} {s : AS} {n k : Nat} : blockA n Q (.exit k) s = if k = n then Q .normal s else Q (.exit k) s := rfl
theorem AS_t {t : Nat → PV} {m : Mem} : (⟨t, m⟩ : AS).t = t := rfl
theorem AS_m {t : Nat → PV} {m : Mem} : (⟨t, m⟩ : AS).m = m := rfl
theorem grow_nx {m : Mem} {q : Option Id} {x : Ob} : (m.grow q x).nx = m.nx + 1 := rfl
theorem grow_o {m : Mem} {q : Option Id} {x : Ob} : (m.grow q x).o = upd (m.gone q) [m.nx] (some x) := rfl
theorem gone_n {m : Mem} : m.gone none = m.o := rfl
theorem gone_s {m : Mem} {o : Id} : m.gone (some o) = upd m.o o none := rfl
theorem set_nx {m : Mem} {o : Id} {x : Ob} : (m.set o x).nx = m.nx := rfl
theorem set_o {m : Mem} {o : Id} {x : Ob} : (m.set o x).o = upd m.o o (some x) := rfl
theorem E_nx {n : Nat} : (E n).nx = n := rfl
theorem E_o {n : Nat} {i : Id} : (E n).o i = none := rfl
theorem adds_c {m : Mem} {x : Ob} {l : List Ob} : m.adds (x :: l) = (m.grow none x).adds l := rfl
theorem adds_n {m : Mem} : m.adds [] = m := rfl
theorem puts_c {m : Mem} {o : Id} {os : List Id} {x : Ob} {l : List Ob} : m.puts (o :: os) (x :: l) = (m.set o x).puts os l := rfl
theorem puts_n {m : Mem} {l : List Ob} : m.puts [] l = m := by cases l <;> rfl
theorem wr64 {n : Int} (h0 : -9223372036854775808 ≤ n) (h1 : n ≤ 9223372036854775807) : IntKind.i64.wrap n = n := w64
theorem VS : type_of% (And.intro @vc_skip <| And.intro @vc_ret <| And.intro @vc_exit <| And.intro @vc_seq <| And.intro @vc_block <| And.intro @vc_cond <| And.intro @vc_region <| And.intro @vc_loop <| And.intro @thenA_n <| And.intro @thenA_r <| And.intro @thenA_e <| And.intro @blockA_n <| And.intro @blockA_r <| And.intro @blockA_e <|
    And.intro @AS_t <| And.intro @AS_m <| And.intro @grow_nx <| And.intro @grow_o <| And.intro @gone_n <| And.intro @gone_s <| And.intro @set_nx <| And.intro @set_o <| And.intro @E_nx <| And.intro @E_o <| And.intro @adds_c <| And.intro @adds_n <| And.intro @puts_c <| And.intro @puts_n <| And.intro @ML_nx <| And.intro @ML_at <| And.intro @arun.eq_1 <| And.intro @arun.eq_2 <| And.intro @vc_drawn <| And.intro @arunD.eq_1 <| And.intro @arunD.eq_2 <| And.intro @agd.eq_1 @agd.eq_2) :=
  And.intro @vc_skip <| And.intro @vc_ret <| And.intro @vc_exit <| And.intro @vc_seq <| And.intro @vc_block <| And.intro @vc_cond <| And.intro @vc_region <| And.intro @vc_loop <| And.intro @thenA_n <| And.intro @thenA_r <| And.intro @thenA_e <| And.intro @blockA_n <| And.intro @blockA_r <| And.intro @blockA_e <|
    And.intro @AS_t <| And.intro @AS_m <| And.intro @grow_nx <| And.intro @grow_o <| And.intro @gone_n <| And.intro @gone_s <| And.intro @set_nx <| And.intro @set_o <| And.intro @E_nx <| And.intro @E_o <| And.intro @adds_c <| And.intro @adds_n <| And.intro @puts_c <| And.intro @puts_n <| And.intro @ML_nx <| And.intro @ML_at <| And.intro @arun.eq_1 <| And.intro @arun.eq_2 <| And.intro @vc_drawn <| And.intro @arunD.eq_1 <| And.intro @arunD.eq_2 <| And.intro @agd.eq_1 @agd.eq_2
end Go.Proofs.YtolejglfohagnaaW.AW
