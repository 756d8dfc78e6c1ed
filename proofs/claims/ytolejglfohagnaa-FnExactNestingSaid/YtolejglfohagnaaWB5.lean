/- What leaves memory alone yields what the words say. Plain lemmas: no statement of the program. -/
import Derived.Test.YtolejglfohagnaaWB4
namespace Go.Proofs.YtolejglfohagnaaW.AW
open Go Go.RowKit
set_option linter.unusedVariables false
set_option linter.unusedSimpArgs false

section
variable {P : Program} {β κ : Id → Nat} {w : World} {S : Nat → Prop} {m : Mem} {D : Id → Prop} {e : Operand → PV} {ρ : Operand → Value} {o : Oper} {cs : List Bool}
theorem pickv_ok {D : Id → Prop} {t : Bool} {a b : PV} {va vb : Value} (ha : OV β κ D w S va a) (hb' : OV β κ D w S vb b) (hc : cs.all id = true) : OV β κ D w S (if t = true then va else vb) (pickv cs t a b) := by
  have h1 := fun ht : t = true => ha.strip (cs := cs ++ [t]) (by rw [List.all_append, hc, ht]; rfl)
  have h2 := fun ht : t = false => hb'.strip (cs := cs ++ [!t]) (by rw [List.all_append, hc, ht]; rfl)
  unfold pickv
  generalize strip (cs ++ [t]) a = p at h1
  generalize strip (cs ++ [!t]) b = q at h2
  cases t with
  | true =>
    have h := h1 rfl
    rw [if_pos rfl]
    cases p <;> cases q <;> first | exact h | (obtain rfl := h.bool_inv; exact .bool_mk)
  | false =>
    have h := h2 rfl
    rw [if_neg (by simp)]
    cases p <;> cases q <;> first | exact h | (obtain rfl := h.bool_inv; exact .bool_mk)
theorem guard_of {b : BinOp} {t : TypeId} {x y : PV} {D : Id → Prop} {vx vy : Value} (hx : OV β κ D w S vx x) (hy : OV β κ D w S vy y) (h : (abin P b t x y).ok) (ox oy : Operand) : (eqGuard b t ox oy vx vy).run P w = .ok () w := by
  unfold abin at h
  split at h
  · obtain ⟨rfl, _⟩ := hx.int_inv; obtain ⟨rfl, _⟩ := hy.int_inv; cases b <;> rfl
  · obtain ⟨rfl, _⟩ := hx.str_inv; obtain ⟨rfl, _⟩ := hy.str_inv; cases b <;> rfl
  · obtain rfl := hx.bool_inv; obtain rfl := hy.bool_inv; cases b <;> rfl
  · split at h
    · rename_i r hr
      have hf : (tyD P t).eqf = true := by cases b <;> simp only [no] at h <;> first | exact h | exact h.elim
      obtain ⟨vx, vy, rfl, rfl, _, e⟩ := eqStruct hx hy hr hf
      exact run_eqGuard_agg w b t ox oy vx vy e
    · exact h.elim
  · exact h.elim
variable (he : ∀ x, OV β κ D w S (ρ x) (e x))
include he
theorem p_binOp {b : BinOp} {t t' : TypeId} {x y : Operand} (ho : o.op = .binOp b t x y t') (h : (abin P b t (e x) (e y)).ok) : ∃ v, (execOp ρ o).run P w = .ok (.value v) w ∧ OV β κ D w S v (abin P b t (e x) (e y)).v := by
  obtain ⟨v, hr, hv⟩ := ok_bin (he x) (he y) h
  exact ⟨v, by simp [execOp, ho, guard_of (he x) (he y) h, hr], hv⟩
theorem p_pick {c a b : Operand} {t : Bool} (ho : o.op = .pick c a b) (hc : cs.all id = true) (ht : e c = .bool t) : ∃ v, (execOp ρ o).run P w = .ok (.value v) w ∧ OV β κ D w S v (pickv cs t (e a) (e b)) := by
  have h := he c; rw [ht] at h
  refine ⟨_, ?_, pickv_ok (t := t) (he a) (he b) hc⟩
  simp [execOp, ho, h.bool_inv, asBool]
theorem p_not {x : Operand} {t : TypeId} {b : Bool} (ho : o.op = .unOp .not t x) (hx : e x = .bool b) : ∃ v, (execOp ρ o).run P w = .ok (.value v) w ∧ OV β κ D w S v (.bool !b) := by
  have h := he x; rw [hx] at h
  exact ⟨_, by simp [execOp, ho, h.bool_inv, Op.unary], .bool_mk⟩
theorem p_neg {x : Operand} {t : TypeId} {k : IntKind} {n : Int} (ho : o.op = .unOp .neg t x) (hx : e x = .int k n) : ∃ v, (execOp ρ o).run P w = .ok (.value v) w ∧ OV β κ D w S v (.int k (k.wrap (0 - n))) := by
  have h := he x; rw [hx] at h
  exact ⟨.int k (k.wrap (0 - n)), by simp [execOp, ho, h.int_inv.1, Op.unary, Op.intArith], .wrap_mk⟩
theorem p_conv {s d : TypeId} {x : Operand} (ho : o.op = .convert s d x) (h : (aconv P s d (e x)).ok) : ∃ v, (execOp ρ o).run P w = .ok (.value v) w ∧ OV β κ D w S v (aconv P s d (e x)).v := by
  have hx := he x
  unfold aconv at h ⊢
  split at h
  · rename_i k n hq
    rw [hq] at hx
    obtain ⟨hv, hb⟩ := hx.int_inv
    split at h
    · rename_i q' q h1 h2
      exact ⟨_, by simp [execOp, ho, hv, convert, run_underlying (tk_int h1), run_underlying (tk_int h2), Conv.intToInt], .wrap_mk⟩
    · rename_i q' h1 h2
      exact ⟨_, by simp [execOp, ho, hv, convert, run_underlying (tk_int h1), run_underlying (tk_string h2), Conv.intToString], .str_mk (Nat.le_trans (encode_size_le _) (by decide))⟩
    · exact h.elim
  · rename_i s' hq
    rw [hq] at hx
    obtain ⟨hv, hb⟩ := hx.str_inv
    split at h
    · rename_i h1 h2
      exact ⟨_, by simp [execOp, ho, hv, convert, run_underlying (tk_string h1), run_underlying (tk_string h2)], .str_mk hb⟩
    · exact h.elim
  · exact h.elim
theorem p_extract {x : Operand} {i : Nat} {ps : List PV} (ho : o.op = .extract x i) (hx : e x = .tu ps) (hi : i < ps.length) : ∃ v, (execOp ρ o).run P w = .ok (.value v) w ∧ OV β κ D w S v (ps.getD i .und) := by
  have h := he x; rw [hx] at h
  have key : ∃ vs : Array Value, ρ x = .tuple vs ∧ vs.size = ps.length ∧ ∀ j p, ps[j]? = some p → OV β κ D w S (vs.getD j undef) p := by
    generalize ρ x = v at h
    cases h with
    | rv _ _ h => cases h with | tu vs _ hl hv => exact ⟨vs, rfl, hl, fun j p hp => .rv _ _ (hv j p hp)⟩
    | tu vs _ hl hv => exact ⟨vs, rfl, hl, hv⟩
  obtain ⟨vs, hv, hl, hp⟩ := key
  have h2 := hp i _ (List.getElem?_eq_getElem hi)
  have e1 : ps.getD i .und = ps[i] := by simp [List.getD, hi]
  have e2 : vs[i]? = some (vs.getD i undef) := by simp [Array.getD, hl, hi]
  rw [e1]
  exact ⟨vs.getD i undef, by simp only [execOp, ho, hv, Instr.extract, e2]; rfl, h2⟩
theorem p_index {x i : Operand} {t : TypeId} {s : ByteArray} {k : IntKind} {n : Int} (ho : o.op = .index t x i) (hx : e x = .str s) (hi : e i = .int k n) (ht : tk P t = .string) (h0 : 0 ≤ n) (h1 : n < s.size) :
    ∃ v, (execOp ρ o).run P w = .ok (.value v) w ∧ OV β κ D w S v (.int .u8 (bt s n)) := by
  have a := he x; rw [hx] at a
  have b := he i; rw [hi] at b
  have hn : n.toNat < s.size := by omega
  have e2 : s[n.toNat]? = some (s[n.toNat]'hn) := by simp [hn]
  have hr := run_index_string (P := P) w t s k n (tk_string ht)
  rw [dif_pos ⟨h0, h1⟩] at hr
  refine ⟨.int .u8 (s[n.toNat]'hn).toNat, by simp [execOp, ho, a.str_inv.1, b.int_inv.1, hr], ?_⟩
  have : bt s n = ((s[n.toNat]'hn).toNat : Int) := by simp [bt, hn]
  rw [this]
  refine .int_mk ?_
  have := (s[n.toNat]'hn).toNat_lt
  rw [show IntKind.u8.min = 0 from rfl, show IntKind.u8.max = 255 from rfl]
  omega
end
end Go.Proofs.YtolejglfohagnaaW.AW
