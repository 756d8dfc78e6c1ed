/- What leaves memory alone yields what the words say. Plain lemmas: no statement of the program. -/
import Derived.Test.YtofaiiobggnibaaWB4
namespace Go.Proofs.YtofaiiobggnibaaW.AW
open Go Go.RowKit
set_option linter.unusedVariables false
set_option linter.unusedSimpArgs false

section
variable {P : Program} {β κ : Id → Nat} {w : World} {S : Nat → Prop} {m : Mem} {D : Id → Prop} {e : Operand → PV} {ρ : Operand → Value} {o : Oper} {cs : List Bool}
theorem pickv_ok {D : Id → Prop} {t : Bool} {a b : PV} {va vb : Value} (ha : OV β κ D w S va a) (hb' : OV β κ D w S vb b) (hc : cs.all id = true) : OV β κ D w S (if t = true then va else vb) (pickv cs t a b) := by
  have h1 := fun ht : t = true => ha.strip (cs := cs ++ [t]) (by rw [List.all_append, hc, ht]; rfl)
  have h2 := fun ht : t = false => hb'.strip (cs := cs ++ [!t]) (by rw [List.all_append, hc, ht]; rfl)
  unfold pickv
  generalize strip (cs ++ [t]) a = p at h1
  generalize strip (cs ++ [!t]) b = q at h2
  cases t with
  | true =>
    have h := h1 rfl
    rw [if_pos rfl]
    cases p <;> cases q <;> first | exact h | (obtain rfl := h.bool_inv; exact .bool_mk)
  | false =>
    have h := h2 rfl
    rw [if_neg (by simp)]
    cases p <;> cases q <;> first | exact h | (obtain rfl := h.bool_inv; exact .bool_mk)
theorem guard_of {b : BinOp} {t : TypeId} {x y : PV} {D : Id → Prop} {vx vy : Value} (hx : OV β κ D w S vx x) (hy : OV β κ D w S vy y) (h : (abin P b t x y).ok) (ox oy : Operand) : (eqGuard b t ox oy vx vy).run P w = .ok () w := by
  unfold abin at h
  split at h
  · obtain ⟨rfl, _⟩ := hx.int_inv; obtain ⟨rfl, _⟩ := hy.int_inv; cases b <;> rfl
  · obtain ⟨rfl, _⟩ := hx.str_inv; obtain ⟨rfl, _⟩ := hy.str_inv; cases b <;> rfl
  · obtain rfl := hx.bool_inv; obtain rfl := hy.bool_inv; cases b <;> rfl
  · split at h
    · rename_i r hr
      have hf : (tyD P t).eqf = true := by cases b <;> simp only [no] at h <;> first | exact h | exact h.elim
      obtain ⟨vx, vy, rfl, rfl, _, e⟩ := eqStruct hx hy hr hf
      exact run_eqGuard_agg w b t ox oy vx vy e
    · exact h.elim
  · exact h.elim
variable (he : ∀ x, OV β κ D w S (ρ x) (e x))
include he
theorem p_binOp {b : BinOp} {t t' : TypeId} {x y : Operand} (ho : o.op = .binOp b t x y t') (h : (abin P b t (e x) (e y)).ok) : ∃ v, (execOp ρ o).run P w = .ok (.value v) w ∧ OV β κ D w S v (abin P b t (e x) (e y)).v := by
  obtain ⟨v, hr, hv⟩ := ok_bin (he x) (he y) h
  exact ⟨v, by simp [execOp, ho, guard_of (he x) (he y) h, hr], hv⟩
theorem p_pick {c a b : Operand} {t : Bool} (ho : o.op = .pick c a b) (hc : cs.all id = true) (ht : e c = .bool t) : ∃ v, (execOp ρ o).run P w = .ok (.value v) w ∧ OV β κ D w S v (pickv cs t (e a) (e b)) := by
  have h := he c; rw [ht] at h
  refine ⟨_, ?_, pickv_ok (t := t) (he a) (he b) hc⟩
  simp [execOp, ho, h.bool_inv, asBool]
theorem p_not {x : Operand} {t : TypeId} {b : Bool} (ho : o.op = .unOp .not t x) (hx : e x = .bool b) : ∃ v, (execOp ρ o).run P w = .ok (.value v) w ∧ OV β κ D w S v (.bool !b) := by
  have h := he x; rw [hx] at h
  exact ⟨_, by simp [execOp, ho, h.bool_inv, Op.unary], .bool_mk⟩
theorem p_neg {x : Operand} {t : TypeId} {k : IntKind} {n : Int} (ho : o.op = .unOp .neg t x) (hx : e x = .int k n) : ∃ v, (execOp ρ o).run P w = .ok (.value v) w ∧ OV β κ D w S v (.int k (k.wrap (0 - n))) := by
  have h := he x; rw [hx] at h
  exact ⟨.int k (k.wrap (0 - n)), by simp [execOp, ho, h.int_inv.1, Op.unary, Op.intArith], .wrap_mk⟩
theorem p_conv {s d : TypeId} {x : Operand} (ho : o.op = .convert s d x) (h : (aconv P s d (e x)).ok) : ∃ v, (execOp ρ o).run P w = .ok (.value v) w ∧ OV β κ D w S v (aconv P s d (e x)).v := by
  have hx := he x
  unfold aconv at h ⊢
  split at h
  · rename_i k n hq
    rw [hq] at hx
    obtain ⟨hv, hb⟩ := hx.int_inv
    split at h
    · rename_i q' q h1 h2
      exact ⟨_, by simp [execOp, ho, hv, convert, run_underlying (tk_int h1), run_underlying (tk_int h2), Conv.intToInt], .wrap_mk⟩
    · rename_i q' h1 h2
      exact ⟨_, by simp [execOp, ho, hv, convert, run_underlying (tk_int h1), run_underlying (tk_string h2), Conv.intToString], .str_mk (Nat.le_trans (encode_size_le _) (by decide))⟩
    · exact h.elim
  · rename_i s' hq
    rw [hq] at hx
    obtain ⟨hv, hb⟩ := hx.str_inv
    split at h
    · rename_i h1 h2
      exact ⟨_, by simp [execOp, ho, hv, convert, run_underlying (tk_string h1), run_underlying (tk_string h2)], .str_mk hb⟩
    · exact h.elim
  · exact h.elim
theorem p_extract {x : Operand} {i : Nat} {ps : List PV} (ho : o.op = .extract x i) (hx : e x = .tu ps) (hi : i < ps.length) : ∃ v, (execOp ρ o).run P w = .ok (.value v) w ∧ OV β κ D w S v (ps.getD i .und) := by
  have h := he x; rw [hx] at h
  have key : ∃ vs : Array Value, ρ x = .tuple vs ∧ vs.size = ps.length ∧ ∀ j p, ps[j]? = some p → OV β κ D w S (vs.getD j undef) p := by
    generalize ρ x = v at h
    cases h with
    | rv _ _ h => cases h with | tu vs _ hl hv => exact ⟨vs, rfl, hl, fun j p hp => .rv _ _ (hv j p hp)⟩
    | tu vs _ hl hv => exact ⟨vs, rfl, hl, hv⟩
  obtain ⟨vs, hv, hl, hp⟩ := key
  have h2 := hp i _ (List.getElem?_eq_getElem hi)
  have e1 : ps.getD i .und = ps[i] := by simp [List.getD, hi]
  have e2 : vs[i]? = some (vs.getD i undef) := by simp [Array.getD, hl, hi]
  rw [e1]
  exact ⟨vs.getD i undef, by simp only [execOp, ho, hv, Instr.extract, e2]; rfl, h2⟩
theorem p_index {x i : Operand} {t : TypeId} {s : ByteArray} {k : IntKind} {n : Int} (ho : o.op = .index t x i) (hx : e x = .str s) (hi : e i = .int k n) (ht : tk P t = .string) (h0 : 0 ≤ n) (h1 : n < s.size) :
    ∃ v, (execOp ρ o).run P w = .ok (.value v) w ∧ OV β κ D w S v (.int .u8 (bt s n)) := by
  have a := he x; rw [hx] at a
  have b := he i; rw [hi] at b
  have hn : n.toNat < s.size := by omega
  have e2 : s[n.toNat]? = some (s[n.toNat]'hn) := by simp [hn]
  have hr := run_index_string (P := P) w t s k n (tk_string ht)
  rw [dif_pos ⟨h0, h1⟩] at hr
  refine ⟨.int .u8 (s[n.toNat]'hn).toNat, by simp [execOp, ho, a.str_inv.1, b.int_inv.1, hr], ?_⟩
  have : bt s n = ((s[n.toNat]'hn).toNat : Int) := by simp [bt, hn]
  rw [this]
  refine .int_mk ?_
  have := (s[n.toNat]'hn).toNat_lt
  rw [show IntKind.u8.min = 0 from rfl, show IntKind.u8.max = 255 from rfl]
  omega
end
end Go.Proofs.YtofaiiobggnibaaW.AW
namespace Go.Proofs.YtofaiiobggnibaaW.AW
open Go Go.RowKit
set_option linter.unusedVariables false
set_option linter.unusedSimpArgs false

section
variable {P : Program} {β κ : Id → Nat} {w : World} {S : Nat → Prop} {m : Mem} {D : Id → Prop} {e : Operand → PV} {ρ : Operand → Value} {o : Oper} {cs : List Bool}
theorem fs_at {t : TypeId} {f off sz ft : Nat} (hk : tk P t = .struct) (h : (tyD P t).fs[f]? = some (off, sz, ft)) : ∃ fs fd, P.underlying t = some (.struct fs) ∧ fs[f]? = some fd ∧ fd.offset = off ∧ P.cellsOf fd.type = sz ∧ fd.type = ft := by
  obtain ⟨fs, hu⟩ := tk_struct hk
  have e : (tyD P t).fs = fs.toList.map (fun f => (f.offset, P.cellsOf f.type, f.type)) := by simp only [tyD, hu]
  rw [e, List.getElem?_map] at h
  obtain ⟨fd, h1, h2⟩ := Option.map_eq_some_iff.1 h
  simp only [Prod.mk.injEq] at h2
  exact ⟨fs, fd, hu, by simpa using h1, h2.1, h2.2.1, h2.2.2⟩
theorem sz_info {t : TypeId} (h : P.cellsOf t ≠ 0) : ∃ i, P.info? t = some i ∧ i.size = P.cellsOf t := by
  unfold Program.cellsOf at h ⊢
  cases hi : P.info? t with
  | none => rw [hi] at h; exact absurd rfl h
  | some i => exact ⟨i, rfl, rfl⟩
theorem el_of {t : TypeId} (h : (tyD P t).eok = true) : ∃ el i z, P.underlying t = some (.slice el) ∧ P.info? el = some i ∧ i.zero = some z ∧ i.size = (tyD P t).es ∧ i.bytes = (tyD P t).eb ∧ z.cells.size = (tyD P t).es ∧ (∀ u ∈ z.cells.toList, u.oneCell' = true) ∧ 0 < (tyD P t).es ∧ (tyD P t).ez = z.cells.toList.map ofVal ∧ 0 < (tyD P t).eb := by
  cases hu : P.underlying t with
  | none => simp [tyD, hu] at h
  | some d =>
    cases d <;> try (simp [tyD, hu] at h; done)
    rename_i el
    cases hi : P.info? el with
    | none => simp [tyD, hu, hi] at h
    | some i =>
      cases hz : i.zero with
      | none => simp [tyD, hu, hi, hz] at h
      | some z =>
        simp only [tyD, hu, hi, hz, Option.bind_some, Option.map_some, Option.getD_some, Bool.and_eq_true, decide_eq_true_eq] at h
        refine ⟨el, i, z, rfl, hi, hz, by simp [tyD, hu, Program.cellsOf, hi], by simp [tyD, hu, Program.bytesOf, hi], by simp [tyD, hu]; exact h.1.1.1, ?_, by simp [tyD, hu]; exact h.1.2, by simp [tyD, hu, zcells, hi, hz], by simp [tyD, hu]; exact h.2⟩
        intro u hu'
        exact (Array.all_eq_true_iff_forall_mem.1 h.1.1.2) u (by simpa using hu')
theorem OV.ag_inv {D : Id → Prop} {v : Value} {ps : List PV} (h : OV β κ D w S v (.ag ps)) : ∃ vs : Array Value, v = .agg vs ∧ vs.size = ps.length ∧ ∀ j p, ps[j]? = some p → (vs.getD j undef).oneCell' = true ∧ OV β κ D w S (vs.getD j undef) p := by
  cases h with
  | rv _ _ h => cases h with | ag vs _ hl h1 hv => exact ⟨vs, rfl, hl, fun j p hp => ⟨h1 j p hp, .rv _ _ (hv j p hp)⟩⟩
  | ag vs _ hl h1 hv => exact ⟨vs, rfl, hl, fun j p hp => ⟨h1 j p hp, hv j p hp⟩⟩
theorem OV.pc_inv {D : Id → Prop} {v : Value} {cs : List PV} (h : OV β κ D w S v (.pc cs)) : ∃ a, v = .pointer (some a) ∧ S a.block ∧ ∀ j p, cs[j]? = some p → ∃ u, w.cell? (a.add j) = some u ∧ u.oneCell' = true ∧ RV w S u p := by
  cases h with | rv _ _ h => cases h with | pc a _ val hS hc h1 hv => exact ⟨a, rfl, hS, fun j p hp => ⟨_, hc j p hp, h1 j p hp, hv j p hp⟩⟩
theorem OV.bp_inv {D : Id → Prop} {v : Value} {i : Id} {j : Nat} (h : OV β κ D w S v (.bp i j)) : v = .pointer (some ⟨β i, j, none⟩) ∧ D i := by
  cases h with
  | rv _ _ h => cases h
  | bp _ _ hx => exact ⟨rfl, hx⟩
theorem OV.pt_inv {D : Id → Prop} {v : Value} {i : Id} {sz n k j : Nat} (h : OV β κ D w S v (.pt i sz n k j)) : v = .pointer (some ⟨β i, k * sz + j, none⟩) ∧ D i ∧ k < n := by
  cases h with
  | rv _ _ h => cases h
  | pt _ _ _ _ _ hx hi => exact ⟨rfl, hx, hi⟩
theorem OV.sl_inv {D : Id → Prop} {v : Value} {i : Id} {sz n off len : Nat} (h : OV β κ D w S v (.sl i sz n off len)) : ∃ A c, v = .slice A len c ∧ D i ∧ len ≤ c ∧ off + len ≤ n ∧ off + c = κ i ∧ κ i ≤ 9223372036854775807 ∧ (0 < c → A = some ⟨β i, off * sz, none⟩) := by
  cases h with
  | rv _ _ h => cases h
  | sl _ _ _ _ _ A c hx hl hn hk hc hA => exact ⟨A, c, rfl, hx, hl, hn, hk, hc, hA⟩
theorem OV.mp_inv {D : Id → Prop} {v : Value} {i : Id} (h : OV β κ D w S v (.mp i)) : v = .map (some (β i)) ∧ D i := by
  cases h with
  | rv _ _ h => cases h
  | mp _ hx => exact ⟨rfl, hx⟩
theorem RV.isOw {v : Value} {p : PV} (h : RV w S v p) : p.isOw = false := by cases h <;> rfl
theorem RV.nOw {v : Value} {p : PV} (h : RV w S v p) : nOw p := by
  cases h with
  | ag vs ps hl h1 hv =>
    show ps.all (fun p => !p.isOw) = true
    rw [List.all_eq_true]; intro p hp
    obtain ⟨j, hj⟩ := List.getElem?_of_mem hp
    simp [(hv j p hj).isOw]
  | _ => trivial
/-- A closed slice: its cells. -/
theorem OV.cl_inv {D : Id → Prop} {v : Value} {sz n : Nat} {g : Nat → List PV} (h : OV β κ D w S v (.cl sz n g)) : ∃ A c, v = .slice A n c ∧ n ≤ c ∧ (0 < n → c ≤ 9223372036854775807 ∧ ∃ a, A = some a ∧ S a.block ∧ ∀ i, i < n → (g i).length = sz ∧ ∀ j p, (g i)[j]? = some p → ∃ u, w.cell? (a.add (i * sz + j)) = some u ∧ u.oneCell' = true ∧ RV w S u p) := by
  cases h with
  | rv _ _ h => cases h with
    | cl0 A c => exact ⟨A, c, rfl, Nat.zero_le _, fun h => absurd h (by omega)⟩
    | cl a _ c _ _ val hn hc hS hl hcell h1 hv => exact ⟨some a, c, rfl, hn, fun _ => ⟨hc, a, rfl, hS, fun i hi => ⟨hl i hi, fun j p hp => ⟨_, hcell i j p hi hp, h1 i j p hi hp, hv i j p hi hp⟩⟩⟩⟩
theorem RV.pc_mk {a : Addr} {cs : List PV} (hS : S a.block) (h : ∀ j p, cs[j]? = some p → ∃ u, w.cell? (a.add j) = some u ∧ u.oneCell' = true ∧ RV w S u p) : RV w S (.pointer (some a)) (.pc cs) := by
  have hex : ∀ j, ∃ v, ∀ p, cs[j]? = some p → w.cell? (a.add j) = some v ∧ v.oneCell' = true ∧ RV w S v p := by
    intro j
    cases hj : cs[j]? with
    | none => exact ⟨undef, fun p hp => by cases hp⟩
    | some p => obtain ⟨v, hv⟩ := h j p hj; exact ⟨v, fun q hq => by cases hq; exact hv⟩
  obtain ⟨val, hval⟩ := Classical.axiomOfChoice hex
  exact .pc a cs val hS (fun j p hp => (hval j p hp).1) (fun j p hp => (hval j p hp).2.1) (fun j p hp => (hval j p hp).2.2)
theorem RV.cl_mk {A : Option Addr} {n c sz : Nat} {g : Nat → List PV} (hn : n ≤ c) (h : 0 < n → c ≤ 9223372036854775807 ∧ ∃ a, A = some a ∧ S a.block ∧ ∀ i, i < n → (g i).length = sz ∧ ∀ j p, (g i)[j]? = some p → ∃ u, w.cell? (a.add (i * sz + j)) = some u ∧ u.oneCell' = true ∧ RV w S u p) : RV w S (.slice A n c) (.cl sz n g) := by
  rcases Nat.eq_zero_or_pos n with rfl | hp
  · exact .cl0 A c sz g
  · obtain ⟨hc, a, rfl, hS, hg⟩ := h hp
    have hex : ∀ i, ∃ f : Nat → Value, ∀ j p, i < n → (g i)[j]? = some p → w.cell? (a.add (i * sz + j)) = some (f j) ∧ (f j).oneCell' = true ∧ RV w S (f j) p := by
      intro i
      have hex : ∀ j, ∃ v, ∀ p, i < n → (g i)[j]? = some p → w.cell? (a.add (i * sz + j)) = some v ∧ v.oneCell' = true ∧ RV w S v p := by
        intro j
        by_cases hi : i < n
        · cases hj : (g i)[j]? with
          | none => exact ⟨undef, fun p _ hp => by cases hp⟩
          | some p => obtain ⟨v, hv⟩ := (hg i hi).2 j p hj; exact ⟨v, fun q _ hq => by cases hq; exact hv⟩
        · exact ⟨undef, fun p h _ => absurd h hi⟩
      obtain ⟨f, hf⟩ := Classical.axiomOfChoice hex
      exact ⟨f, fun j p hi hp => hf j p hi hp⟩
    obtain ⟨val, hval⟩ := Classical.axiomOfChoice hex
    exact .cl a n c sz g val hn hc hS (fun i hi => (hg i hi).1) (fun i j p hi hp => (hval i j p hi hp).1) (fun i j p hi hp => (hval i j p hi hp).2.1) (fun i j p hi hp => (hval i j p hi hp).2.2)
theorem run_place {a : Addr} {f : Field} (h : P.cellsOf f.type ≠ 0) (w : World) : (fieldPlace a f).run P w = .ok (a.add f.offset) w := by
  obtain ⟨i, hi, hs⟩ := sz_info h
  have : i.size ≠ 0 := by rw [hs]; exact h
  simp [fieldPlace, sizeOf, typeInfo, hi, this]
theorem p_fieldAddr {t : TypeId} {x : Operand} {f off sz ft : Nat} (ho : o.op = .fieldAddr t x f) (hf : (tyD P t).fs[f]? = some (off, sz, ft)) (hk : tk P t = .struct) (hz : sz ≠ 0) {a : Addr} (ha : ρ x = .pointer (some a)) :
    (execOp ρ o).run P w = .ok (.value (.pointer (some (a.add off)))) w := by
  obtain ⟨fs, fd, hu, h1, rfl, rfl, rfl⟩ := fs_at hk hf
  simp [execOp, ho, Instr.fieldAt, run_underlying hu, h1, ha, Instr.sureAddr, run_place hz]
theorem p_load {t : TypeId} {x : Operand} {cs : List PV} (ho : o.op = .load t x) {a : Addr} (ha : ρ x = .pointer (some a)) (hc : ∀ j p, cs[j]? = some p → ∃ v, w.cell? (a.add j) = some v ∧ v.oneCell' = true ∧ (p.isOw = false → OV β κ D w S v p)) (h : (ldo (tyD P t) cs).ok) :
    ∃ v, (execOp ρ o).run P w = .ok (.value v) w ∧ OV β κ D w S v (ld (tyD P t) cs).v := by
  obtain ⟨v, hr, hv⟩ := ok_ld hc h
  exact ⟨v, by simp [execOp, ho, Instr.loadAt, ha, Instr.sureAddr, hr], hv⟩
end
end Go.Proofs.YtofaiiobggnibaaW.AW
namespace Go.Proofs.YtofaiiobggnibaaW.AW
open Go Go.RowKit
set_option linter.unusedVariables false
set_option linter.unusedSimpArgs false

section
variable {P : Program} {β κ : Id → Nat} {w : World} {S : Nat → Prop} {m : Mem} {D : Id → Prop} {e : Operand → PV} {ρ : Operand → Value} {o : Oper} {cs : List Bool}
theorem run_part' {t : TypeId} {vs : Array Value} {off : Nat} {qs : List PV} {D : Id → Prop} (hl : vs.size = off + qs.length) (hv : ∀ j p, qs[j]? = some p → (vs.getD (off + j) undef).oneCell' = true ∧ OV β κ D w S (vs.getD (off + j) undef) p) (h : (ld (tyD P t) qs).ok) :
    ∃ v, (part t vs off).run P w = .ok v w ∧ OV β κ D w S v (ld (tyD P t) qs).v := by
  have hk : (tyD P t).k = tk P t := rfl
  unfold ld at h ⊢
  rw [hk] at h ⊢
  have scalar : tk P t ≠ .other → tk P t ≠ .struct → ∀ p r, qs = p :: r → ∃ v, (part t vs off).run P w = .ok v w ∧ OV β κ D w S v p := by
    intro h1 h2 p r e
    obtain ⟨_, ho⟩ := hv 0 p (by rw [e]; rfl)
    have e2 : vs[off]? = some (vs.getD (off + 0) undef) := by
      have : off < vs.size := by rw [hl, e]; simp
      simp [Array.getD, this]
    generalize vs.getD (off + 0) undef = u at e2 ho
    exact ⟨u, by simp [part, run_agg_no h1 h2, e2], ho⟩
  cases hT : tk P t with
  | struct =>
    rw [hT] at h
    obtain ⟨fs, hu⟩ := tk_struct hT
    have hs : P.cellsOf t ≤ qs.length := h
    refine ⟨.agg (vs.extract off (off + P.cellsOf t)), by simp [part, run_agg_struct hu, run_sz hu], .ag _ _ (by simp [tyD]; omega) (fun j p hp => ?_) (fun j p hp => ?_)⟩
    all_goals
      have hp' : qs[j]? = some p ∧ j < P.cellsOf t := by
        rw [List.getElem?_take] at hp
        split at hp
        · exact ⟨hp, by assumption⟩
        · cases hp
      have e : (vs.extract off (off + P.cellsOf t)).getD j undef = vs.getD (off + j) undef := by
        have h1 : off + j < vs.size := by have := (List.getElem?_eq_some_iff.1 hp'.1).1; omega
        simp only [Array.getD_eq_getD_getElem?, Array.getElem?_extract]
        rw [if_pos (by omega)]
      rw [e]
    · exact (hv j p hp'.1).1
    · exact (hv j p hp'.1).2
  | other => rw [hT] at h; exact h.elim
  | _ =>
    rw [hT] at h
    cases qs with
    | nil => exact h.elim
    | cons p r => exact scalar (by rw [hT]; simp) (by rw [hT]; simp) p r rfl
theorem p_indexAddr {t : TypeId} {x i : Operand} {k : IntKind} {ix : Int} (ho : o.op = .indexAddr t x i) (hi : ρ i = .int k ix) {a : Addr} {n c : Nat} (hx : ρ x = .slice (some a) n c) (ht : (tyD P t).eok = true) (h0 : 0 ≤ ix) (h1 : ix < n) :
    (execOp ρ o).run P w = .ok (.value (.pointer (some (a.add (ix.toNat * (tyD P t).es))))) w := by
  obtain ⟨el, i0, z, hu, hi0, _, hs, _⟩ := el_of ht
  simp [execOp, ho, Instr.indexAt, hi, hx, asIntOf, run_underlying hu, sizeOf, typeInfo, hi0, h0, h1, hs]
theorem run_slice' {t : TypeId} {A : Option Addr} {n c : Nat} (ht : (tyD P t).eok = true) {lo hi : Option Value} {l h : Option Int} (hl : ∀ v, lo = some v → ∃ k x, v = .int k x ∧ l = some x) (hl0 : lo = none → l = none) (hh : ∀ v, hi = some v → ∃ k x, v = .int k x ∧ h = some x) (hh0 : hi = none → h = none)
    (h0 : 0 ≤ l.getD 0) (h1 : l.getD 0 ≤ h.getD n) (h2 : h.getD n ≤ n) (hc : n ≤ c) :
    (Instr.sliceAt t (.slice A n c) lo hi none).run P w = .ok (.slice (if c = (l.getD 0).toNat then A else A.map (·.add ((l.getD 0).toNat * (tyD P t).es))) (h.getD n - l.getD 0).toNat (c - (l.getD 0).toNat)) w := by
  obtain ⟨el, i0, z, hu, hi0, _, hs, _⟩ := el_of ht
  cases lo with
  | none =>
    obtain rfl := hl0 rfl
    cases hi with
    | none =>
      obtain rfl := hh0 rfl
      simp [Instr.sliceAt, Instr.slice, run_underlying hu, Instr.sliceBounds, sizeOf, typeInfo, hi0, hs]
    | some v =>
      obtain ⟨k, x, rfl, rfl⟩ := hh v rfl
      simp only [Option.getD_some, Option.getD_none] at h0 h1 h2
      have hx : 0 ≤ x ∧ x ≤ (c : Int) := by omega
      simp [Instr.sliceAt, Instr.slice, run_underlying hu, Instr.sliceBounds, Instr.sliceBound, asIntOf, hx, sizeOf, typeInfo, hi0, hs]
  | some u =>
    obtain ⟨k', y, rfl, rfl⟩ := hl u rfl
    cases hi with
    | none =>
      obtain rfl := hh0 rfl
      simp only [Option.getD_some, Option.getD_none] at h0 h1 h2
      have hx : 0 ≤ y ∧ y ≤ (n : Int) := by omega
      have e : n - y.toNat = ((n : Int) - y).toNat := by omega
      simp [Instr.sliceAt, Instr.slice, run_underlying hu, Instr.sliceBounds, Instr.sliceBound, asIntOf, hx, sizeOf, typeInfo, hi0, hs, e]
    | some v =>
      obtain ⟨k, x, rfl, rfl⟩ := hh v rfl
      simp only [Option.getD_some] at h0 h1 h2
      have hx : 0 ≤ x ∧ x ≤ (c : Int) := by omega
      have hy : 0 ≤ y ∧ y ≤ ((x.toNat : Nat) : Int) := by omega
      have e : x.toNat - y.toNat = (x - y).toNat := by omega
      have hm : ¬ max x 0 < y := by omega
      simp [hm, Instr.sliceAt, Instr.slice, run_underlying hu, Instr.sliceBounds, Instr.sliceBound, asIntOf, hx, hy, sizeOf, typeInfo, hi0, hs, e]
theorem run_slice_s {t : TypeId} {s : ByteArray} (ht : tk P t = .string) {lo hi : Option Value} {l h : Option Int} (hl : ∀ v, lo = some v → ∃ k x, v = .int k x ∧ l = some x) (hl0 : lo = none → l = none) (hh : ∀ v, hi = some v → ∃ k x, v = .int k x ∧ h = some x) (hh0 : hi = none → h = none)
    (h0 : 0 ≤ l.getD 0) (h1 : l.getD 0 ≤ h.getD s.size) (h2 : h.getD s.size ≤ s.size) :
    (Instr.sliceAt t (.string s) lo hi none).run P w = .ok (.string (s.extract (l.getD 0).toNat (h.getD s.size).toNat)) w := by
  have hu := tk_string ht
  cases lo with
  | none =>
    obtain rfl := hl0 rfl
    cases hi with
    | none =>
      obtain rfl := hh0 rfl
      simp [Instr.sliceAt, Instr.slice, run_underlying hu, Instr.sliceBounds]
    | some v =>
      obtain ⟨k, x, rfl, rfl⟩ := hh v rfl
      simp only [Option.getD_some, Option.getD_none] at h0 h1 h2
      have hx : 0 ≤ x ∧ x ≤ (s.size : Int) := by omega
      simp [Instr.sliceAt, Instr.slice, run_underlying hu, Instr.sliceBounds, Instr.sliceBound, asIntOf, hx]
  | some u =>
    obtain ⟨k', y, rfl, rfl⟩ := hl u rfl
    cases hi with
    | none =>
      obtain rfl := hh0 rfl
      simp only [Option.getD_some, Option.getD_none] at h0 h1 h2
      have hx : 0 ≤ y ∧ y ≤ (s.size : Int) := by omega
      simp [Instr.sliceAt, Instr.slice, run_underlying hu, Instr.sliceBounds, Instr.sliceBound, asIntOf, hx]
    | some v =>
      obtain ⟨k, x, rfl, rfl⟩ := hh v rfl
      simp only [Option.getD_some] at h0 h1 h2
      have hx : 0 ≤ x ∧ x ≤ (s.size : Int) := by omega
      have hy : 0 ≤ y ∧ y ≤ ((x.toNat : Nat) : Int) := by omega
      have hm : ¬ max x 0 < y := by omega
      simp [hm, Instr.sliceAt, Instr.slice, run_underlying hu, Instr.sliceBounds, Instr.sliceBound, asIntOf, hx, hy]
theorem optI_ok (he : ∀ x, OV β κ D w S (ρ x) (e x)) {lo : Option Operand} {l : Option Int} (h : optI e lo = some l) : (∀ v, lo.map ρ = some v → ∃ k x, v = .int k x ∧ l = some x) ∧ (lo.map ρ = none → l = none) := by
  cases lo with
  | none => simp only [optI, Option.some.injEq] at h; subst h; exact ⟨fun v hv => by simp at hv, fun _ => rfl⟩
  | some x =>
    have hx := he x
    simp only [optI] at h
    split at h
    · rename_i k n hq
      rw [hq] at hx
      simp only [Option.some.injEq] at h
      subst h
      refine ⟨fun v hv => ?_, fun hv => by simp at hv⟩
      simp only [Option.map_some, Option.some.injEq] at hv
      exact ⟨k, n, hv ▸ hx.int_inv.1, rfl⟩
    · cases h
theorem aadd_add (a : Addr) (m n : Nat) : (a.add m).add n = a.add (m + n) := by
  unfold Addr.add
  by_cases h1 : m = 0 <;> by_cases h2 : n = 0 <;> simp [h1, h2, Nat.add_assoc]
/-- A cut of a closed slice. -/
theorem cut_cl {A : Option Addr} {n c sz l h : Nat} {g : Nat → List PV} (hn : n ≤ c) (hl : l ≤ h) (hh : h ≤ n)
    (H : 0 < n → c ≤ 9223372036854775807 ∧ ∃ a, A = some a ∧ S a.block ∧ ∀ i, i < n → (g i).length = sz ∧ ∀ j p, (g i)[j]? = some p → ∃ u, w.cell? (a.add (i * sz + j)) = some u ∧ u.oneCell' = true ∧ RV w S u p) :
    RV w S (.slice (if c = l then A else A.map (·.add (l * sz))) (h - l) (c - l)) (.cl sz (h - l) (fun i => g (l + i))) := by
  refine RV.cl_mk (by omega) (fun hp => ?_)
  obtain ⟨hc, a, rfl, hS, hg⟩ := H (by omega)
  rw [if_neg (by omega)]
  refine ⟨by omega, a.add (l * sz), rfl, by rw [aadd_block]; exact hS, fun i hi => ⟨(hg (l + i) (by omega)).1, fun j p hj => ?_⟩⟩
  obtain ⟨u, h1, h2⟩ := (hg (l + i) (by omega)).2 j p hj
  exact ⟨u, by rw [aadd_add, ← Nat.add_assoc, ← Nat.add_mul]; exact h1, h2⟩
theorem p_slice (he : ∀ x, OV β κ D w S (ρ x) (e x)) {t : TypeId} {x : Operand} {lo hi : Option Operand} {l h : Option Int} (ho : o.op = .slice t x lo hi none) (h1 : optI e lo = some l) (h2 : optI e hi = some h) (hk : (aslice P t (e x) l h).ok) :
    ∃ v, (execOp ρ o).run P w = .ok (.value v) w ∧ OV β κ D w S v (aslice P t (e x) l h).v := by
  have hx := he x
  obtain ⟨a1, a2⟩ := optI_ok he h1
  obtain ⟨b1, b2⟩ := optI_ok he h2
  have run_ : ∀ v r, ρ x = v → (Instr.sliceAt t v (lo.map ρ) (hi.map ρ) none).run P w = .ok r w → (execOp ρ o).run P w = .ok (.value r) w := fun v r e1 e2 => by simp [execOp, ho, e1, e2]
  unfold aslice at hk ⊢
  split at hk
  · rename_i hq; rw [hq] at hx
    obtain ⟨hv, hb⟩ := hx.str_inv
    obtain ⟨k1, k2, k3, k4⟩ := hk
    exact ⟨_, run_ _ _ hv (run_slice_s k1 a1 a2 b1 b2 k2 k3 k4), .str_mk (by rw [ByteArray.size_extract]; omega)⟩
  · rename_i sz n g hq; rw [hq] at hx
    obtain ⟨A, c, hv, hn, H⟩ := hx.cl_inv
    obtain ⟨k0, k1, k2, k3, k4⟩ := hk
    refine ⟨_, run_ _ _ hv (run_slice' k1 a1 a2 b1 b2 k2 k3 k4 hn), ?_⟩
    have := cut_cl (l := (l.getD 0).toNat) (h := (h.getD n).toNat) hn (by omega) (by omega) H
    have e1 : (h.getD n).toNat - (l.getD 0).toNat = (h.getD n - l.getD 0).toNat := by omega
    rw [e1] at this
    rw [k0]
    exact .rv _ _ this
  · rename_i i sz n off len hq; rw [hq] at hx
    obtain ⟨A, c, hv, hxx, hl, hn, hkk, hc, hA⟩ := hx.sl_inv
    obtain ⟨k0, k1, k2, k3, k4⟩ := hk
    refine ⟨_, run_ _ _ hv (run_slice' k1 a1 a2 b1 b2 k2 k3 k4 hl), .sl _ _ _ _ _ _ _ hxx (by omega) (by omega) (by omega) hc (fun hp => ?_)⟩
    rw [if_neg (by omega), hA (by omega), k0]
    show some ((⟨β i, off * sz, none⟩ : Addr).add _) = _
    rw [Addr.add_lit, Nat.add_mul]
  · rename_i hq; rw [hq] at hx
    have hv := hx.nils_inv
    obtain ⟨k0, k1, k2⟩ := hk
    have hr := run_slice' (w := w) (A := none) (n := 0) (c := 0) k0 a1 a2 b1 b2 (by omega) (by rw [k1]; simp [k2]) (by simp [k2]) (Nat.le_refl 0)
    refine ⟨_, run_ _ _ hv hr, ?_⟩
    have e0 : (l.getD 0).toNat = 0 := by rw [k1]; rfl
    have e1 : (h.getD ((0 : Nat) : Int) - l.getD 0).toNat = 0 := by rw [k1]; show (h.getD 0 - 0).toNat = 0; rw [k2]; rfl
    rw [e0, e1]
    exact .rv _ _ .nils
  · exact hk.elim
end
end Go.Proofs.YtofaiiobggnibaaW.AW
namespace Go.Proofs.YtofaiiobggnibaaW.AW
open Go Go.RowKit
set_option linter.unusedVariables false
set_option linter.unusedSimpArgs false

theorem fold_at (off : Nat) : ∀ (vs : List Value) (k : Nat) (cells : Array Value), ((vs.zipIdx k).foldl (fun cs (x : Value × Nat) => cs.setIfInBounds (off + x.2) x.1) cells).size = cells.size ∧
    ∀ x, ((vs.zipIdx k).foldl (fun cs (x : Value × Nat) => cs.setIfInBounds (off + x.2) x.1) cells)[x]? = if off + k ≤ x ∧ x < off + k + vs.length ∧ x < cells.size then vs[x - (off + k)]? else cells[x]?
  | [], k, cells => by
    refine ⟨rfl, fun x => ?_⟩
    rw [if_neg (by simp; omega)]; rfl
  | v :: r, k, cells => by
    obtain ⟨h1, h2⟩ := fold_at off r (k + 1) (cells.setIfInBounds (off + k) v)
    simp only [List.zipIdx_cons, List.foldl_cons]
    refine ⟨by rw [h1, Array.size_setIfInBounds], fun x => ?_⟩
    rw [h2 x, Array.size_setIfInBounds, List.length_cons]
    by_cases hx : off + k = x
    · subst hx
      rw [if_neg (by omega), Array.getElem?_setIfInBounds, if_pos rfl]
      by_cases hs : off + k < cells.size
      · rw [if_pos hs, if_pos (by omega), Nat.sub_self]; rfl
      · rw [if_neg hs, if_neg (by omega)]; simp; omega
    · by_cases hin : off + (k + 1) ≤ x ∧ x < off + (k + 1) + r.length ∧ x < cells.size
      · rw [if_pos hin, if_pos (by omega), show x - (off + k) = (x - (off + (k + 1))) + 1 by omega, List.getElem?_cons_succ]
      · rw [if_neg hin, if_neg (by omega), Array.getElem?_setIfInBounds, if_neg hx]

section
variable {P : Program} {β κ : Id → Nat} {w : World} {S : Nat → Prop} {m : Mem} {e : Operand → PV} {ρ : Operand → Value} {o : Oper} {cs : List Bool} {D : Id → Prop}
/-- Cells, one by one. -/
def CR (β κ : Id → Nat) (D : Id → Prop) (w : World) (S : Nat → Prop) (vs : Array Value) (ps : List PV) : Prop := vs.size = ps.length ∧ ∀ j p, ps[j]? = some p → (vs.getD j undef).oneCell' = true ∧ OV β κ D w S (vs.getD j undef) p
theorem CR.one {v : Value} {p : PV} (h : OV β κ D w S v p) (h1 : v.oneCell' = true) (hc : v.cells = #[v]) : CR β κ D w S v.cells [p] := by
  rw [hc]
  refine ⟨rfl, fun j q hq => ?_⟩
  cases j with
  | zero => simp only [List.getElem?_cons_zero, Option.some.injEq] at hq; subst hq; exact ⟨h1, h⟩
  | succ j => simp at hq
theorem CR.of {v : Value} {p : PV} {qs : List PV} (h : OV β κ D w S v p) (hp : pcells p = some qs) : CR β κ D w S v.cells qs := by
  cases p with
  | und => cases hp
  | gd _ _ => cases hp
  | tu _ => cases hp
  | ag ps => simp only [pcells, Option.some.injEq] at hp; subst hp; obtain ⟨vs, rfl, hl, hv⟩ := h.ag_inv; exact ⟨hl, hv⟩
  | bool b => simp only [pcells, Option.some.injEq] at hp; subst hp; have e := h.bool_inv; subst e; exact CR.one h rfl rfl
  | int k n => simp only [pcells, Option.some.injEq] at hp; subst hp; have e := h.int_inv.1; subst e; exact CR.one h rfl rfl
  | str s => simp only [pcells, Option.some.injEq] at hp; subst hp; have e := h.str_inv.1; subst e; exact CR.one h rfl rfl
  | nils => simp only [pcells, Option.some.injEq] at hp; subst hp; have e := h.nils_inv; subst e; exact CR.one h rfl rfl
  | cl sz n g => simp only [pcells, Option.some.injEq] at hp; subst hp; obtain ⟨A, c, rfl, _⟩ := h.cl_inv; exact CR.one h rfl rfl
  | sl i sz n off len => simp only [pcells, Option.some.injEq] at hp; subst hp; obtain ⟨A, c, rfl, _⟩ := h.sl_inv; exact CR.one h rfl rfl
  | pc qs => simp only [pcells, Option.some.injEq] at hp; subst hp; obtain ⟨a, rfl, _⟩ := h.pc_inv; exact CR.one h rfl rfl
  | bp i j => simp only [pcells, Option.some.injEq] at hp; subst hp; have e := h.bp_inv.1; subst e; exact CR.one h rfl rfl
  | pt i sz n k j => simp only [pcells, Option.some.injEq] at hp; subst hp; have e := h.pt_inv.1; subst e; exact CR.one h rfl rfl
  | mp i => simp only [pcells, Option.some.injEq] at hp; subst hp; have e := h.mp_inv.1; subst e; exact CR.one h rfl rfl
  | ow _ _ _ => cases hp
  | fn f ps => 
    simp only [pcells, Option.some.injEq] at hp; subst hp
    have e : ∃ vs, v = .func (.func f) #[] vs := by
      cases h with
      | rv _ _ h => cases h
      | fn _ vs _ _ _ => exact ⟨vs, rfl⟩
    obtain ⟨vs, rfl⟩ := e
    exact CR.one h rfl rfl
theorem CR.at_ {vs : Array Value} {ps : List PV} (h : CR β κ D w S vs ps) {j : Nat} {p : PV} (hp : ps[j]? = some p) : ∃ v, vs[j]? = some v ∧ v.oneCell' = true ∧ OV β κ D w S v p := by
  have hj : j < vs.size := by rw [h.1]; exact (List.getElem?_eq_some_iff.1 hp).1
  obtain ⟨h1, h2⟩ := h.2 j p hp
  exact ⟨vs.getD j undef, by simp [Array.getD, hj], h1, h2⟩
theorem CR.mk_ {vs : Array Value} {ps : List PV} (hl : vs.size = ps.length) (h : ∀ (j : Nat) (p : PV), ps[j]? = some p → ∃ v, vs[j]? = some v ∧ v.oneCell' = true ∧ OV β κ D w S v p) : CR β κ D w S vs ps := by
  refine ⟨hl, fun j p hp => ?_⟩
  obtain ⟨v, h1, h2⟩ := h j p hp
  have : vs.getD j undef = v := by simp [Array.getD_eq_getD_getElem?, h1]
  rw [this]; exact h2
theorem CR.splice {cur vs : Array Value} {ps qs : List PV} (h : CR β κ D w S cur ps) (hv : CR β κ D w S vs qs) {off : Nat} (hf : off + qs.length ≤ ps.length) {new : Array Value} (hs : new.size = cur.size)
    (hn : ∀ x, new[x]? = if off ≤ x ∧ x < off + vs.size ∧ x < cur.size then vs[x - off]? else cur[x]?) : CR β κ D w S new (ps.take off ++ qs ++ ps.drop (off + qs.length)) := by
  have hl : (ps.take off).length = off := by rw [List.length_take]; omega
  refine CR.mk_ (by simp only [List.length_append, hl, List.length_drop]; rw [hs, h.1]; omega) (fun j p hp => ?_)
  have hj := (List.getElem?_eq_some_iff.1 hp).1
  simp only [List.length_append, hl, List.length_drop] at hj
  rw [hn j]
  rw [List.append_assoc, List.getElem?_append] at hp
  by_cases h1 : j < off
  · rw [if_pos (by omega), List.getElem?_take, if_pos h1] at hp
    rw [if_neg (by omega)]
    exact h.at_ hp
  · rw [if_neg (by omega), hl, List.getElem?_append] at hp
    by_cases h2 : j - off < qs.length
    · rw [if_pos h2] at hp
      rw [if_pos (by rw [hv.1, h.1]; omega)]
      exact hv.at_ hp
    · rw [if_neg h2, List.getElem?_drop] at hp
      rw [if_neg (by rw [hv.1]; omega)]
      exact h.at_ (by rw [← hp]; congr 1; omega)
theorem fill_ok (place : Nat → Option (Nat × Nat)) (fs : List (Nat × Nat × Nat)) (hp : ∀ i off sz ft, fs[i]? = some (off, sz, ft) → place i = some (off, sz)) : ∀ (parts : List (Nat × Value)) (qs : List (Nat × PV)) (cells : Array Value) (ps rs : List PV),
    parts.length = qs.length → (∀ (j i : Nat) (q : PV), qs[j]? = some (i, q) → ∃ v, parts[j]? = some (i, v) ∧ OV β κ D w S v q) → CR β κ D w S cells ps → afill fs ps qs = some rs → ∃ cs', Instr.fill place cells parts = some cs' ∧ CR β κ D w S cs' rs
  | [], qs, cells, ps, rs, hl, _, hc, ha => by
    cases qs with
    | nil => simp only [afill, Option.some.injEq] at ha; subst ha; exact ⟨cells, rfl, hc⟩
    | cons _ _ => cases hl
  | (i, v) :: r, qs, cells, ps, rs, hl, hq, hc, ha => by
    cases qs with
    | nil => cases hl
    | cons x qs =>
      obtain ⟨i', q⟩ := x
      obtain ⟨v', h1, h2⟩ := hq 0 i' q rfl
      simp only [List.getElem?_cons_zero, Option.some.injEq, Prod.mk.injEq] at h1
      obtain ⟨rfl, rfl⟩ := h1
      simp only [afill] at ha
      split at ha
      · rename_i off sz ft us hf hu
        split at ha
        · rename_i hsz
          have hv := CR.of h2 hu
          have hpl := hp _ _ _ _ hf
          obtain ⟨g1, g2⟩ := fold_at off v.cells.toList 0 cells
          have hz : v.cells.size = sz := by rw [hv.1]; exact hsz.1
          have e : v.cells.zipIdx.foldl (fun cs (x : Value × Nat) => cs.setIfInBounds (off + x.2) x.1) cells = (v.cells.toList.zipIdx 0).foldl (fun cs (x : Value × Nat) => cs.setIfInBounds (off + x.2) x.1) cells := by
            rw [← Array.foldl_toList]; simp
          have hc2 := CR.splice hc hv (off := off) (by rw [hsz.1]; exact hsz.2) g1 (fun x => by rw [g2 x]; simp)
          rw [hsz.1] at hc2
          obtain ⟨cs', h3, h4⟩ := fill_ok place fs hp r qs _ _ rs (by simpa using hl) (fun j i q hj => hq (j + 1) i q hj) hc2 ha
          refine ⟨cs', ?_, h4⟩
          simp only [Instr.fill, hpl]
          rw [if_neg (by rw [hz, hc.1]; simp; omega)]
          exact e ▸ h3
        · cases ha
      · cases ha
end
end Go.Proofs.YtofaiiobggnibaaW.AW
namespace Go.Proofs.YtofaiiobggnibaaW.AW
open Go Go.RowKit
set_option linter.unusedVariables false
set_option linter.unusedSimpArgs false

section
variable {P : Program} {β κ : Id → Nat} {w : World} {S : Nat → Prop} {m : Mem} {e : Operand → PV} {ρ : Operand → Value} {o : Oper} {cs : List Bool} {D : Id → Prop}
theorem ofVal_ok {v : Value} : OV β κ D w S v (ofVal v) := by
  unfold ofVal
  split
  · exact .bool_mk
  · split
    · exact .int_mk (by assumption)
    · exact .rv _ _ (.und _)
  · split
    · exact .str_mk (by assumption)
    · exact .rv _ _ (.und _)
  · exact .rv _ _ .nils
  · exact .rv _ _ (.und _)
theorem zero_ok {t : TypeId} (h : (tyD P t).zok = true) : ∃ z, (∀ w, (zeroValue t).run P w = .ok z w) ∧ z.cells.size = P.cellsOf t ∧ z.cells.all (·.oneCell') = true ∧ CR β κ D w S z.cells (tyD P t).zc := by
  cases hi : P.info? t with
  | none => simp [tyD, hi] at h
  | some i =>
    cases hz : i.zero with
    | none => simp [tyD, hi, hz] at h
    | some z =>
      simp only [tyD, hi, hz, Option.bind_some, Option.map_some, Option.getD_some, Bool.and_eq_true, decide_eq_true_eq] at h
      have ez : (tyD P t).zc = z.cells.toList.map ofVal := by simp [tyD, zcells, hi, hz]
      refine ⟨z, fun w => by simp [zeroValue, typeInfo, hi, hz], h.1.2, h.1.1, CR.mk_ (by rw [ez]; simp) (fun j p hp => ?_)⟩
      rw [ez, List.getElem?_map] at hp
      obtain ⟨v, hv, rfl⟩ := Option.map_eq_some_iff.1 hp
      exact ⟨v, by simpa using hv, (Array.all_eq_true_iff_forall_mem.1 h.1.1) v (by have := List.mem_of_getElem? hv; simpa using this), ofVal_ok⟩
theorem run_places {fs : Array Field} (h : fs.all (fun f => (P.info? f.type).isSome) = true) (w : World) : (fs.mapM (fun f => do pure (f.offset, ← sizeOf f.type) : Field → Sem (Nat × Nat))).run P w = .ok (fs.map (fun f => (f.offset, P.cellsOf f.type))) w := by
  obtain ⟨l⟩ := fs
  have key : ∀ l : List Field, (∀ f ∈ l, (P.info? f.type).isSome = true) → (l.mapM (fun f => do pure (f.offset, ← sizeOf f.type) : Field → Sem (Nat × Nat))).run P w = .ok (l.map (fun f => (f.offset, P.cellsOf f.type))) w := by
    intro l
    induction l with
    | nil => intro _; simp
    | cons f r ih =>
      intro hf
      obtain ⟨i, hi⟩ := Option.isSome_iff_exists.1 (hf f (by simp))
      have := ih (fun g hg => hf g (by simp [hg]))
      simp [List.mapM_cons, sizeOf, typeInfo, hi, this, Program.cellsOf]
      simp [sizeOf, typeInfo, Program.cellsOf] at this
      simp [this]
  have := key l (fun f hf => by simpa using (Array.all_eq_true_iff_forall_mem.1 h) f (by simpa using hf))
  simp [Array.mapM_eq_mapM_toList] at *
  simp [this]
end
end Go.Proofs.YtofaiiobggnibaaW.AW
