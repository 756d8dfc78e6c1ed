/- The operations that leave memory alone: the model's run of them. Plain lemmas: no statement of the program. -/
import Derived.Test.YtolejglfohagnaaWB3
import Derived.Laws.Cover4
import Derived.Laws.MakeOwn
import Derived.Laws.StructEq
namespace Go.Proofs.YtolejglfohagnaaW.AW
open Go Go.RowKit
set_option linter.unusedVariables false
set_option linter.unusedSimpArgs false

section
variable {P : Program} {β κ : Id → Nat} {D : Id → Prop} {w : World} {S : Nat → Prop}
theorem tk_some {t : TypeId} (h : tk P t ≠ .other) : (P.underlying t).isSome = true := by
  unfold tk at h
  cases hu : P.underlying t with
  | none => rw [hu] at h; exact absurd rfl h
  | some d => rfl
theorem tk_bool {t : TypeId} (h : tk P t = .bool) : P.underlying t = some .bool := by
  unfold tk at h; split at h <;> first | assumption | cases h
theorem tk_int {t : TypeId} {k : IntKind} (h : tk P t = .int k) : P.underlying t = some (.int k) := by
  unfold tk at h; split at h <;> first | (cases h; assumption) | cases h
theorem tk_string {t : TypeId} (h : tk P t = .string) : P.underlying t = some .string := by
  unfold tk at h; split at h <;> first | assumption | cases h
theorem tk_struct {t : TypeId} (h : tk P t = .struct) : ∃ fs, P.underlying t = some (.struct fs) := by
  unfold tk at h; split at h <;> first | exact ⟨_, by assumption⟩ | cases h
theorem bytes_eq {a b : ByteArray} : (a.toList == b.toList) = decide (a = b) := by
  rw [Bool.eq_iff_iff, beq_iff_eq, ByteArray.toList_eq, ByteArray.toList_eq, decide_eq_true_eq]
  exact ⟨fun h => ByteArray.ext (Array.toList_inj.mp h), fun h => by rw [h]⟩
theorem int_beq (a c : Int) : (a == c) = decide (a = c) := by rw [Bool.eq_iff_iff]; simp
theorem tmod_in {k : IntKind} {x y : Int} (h : k.min ≤ x ∧ x ≤ k.max) : k.min ≤ x.tmod y ∧ x.tmod y ≤ k.max := by
  have h0 : k.min ≤ 0 ∧ 0 ≤ k.max := by cases k <;> decide
  have h1 := Int.natAbs_tmod x y
  have h2 := Nat.mod_le x.natAbs y.natAbs
  rcases Int.le_total 0 x with hx | hx
  · have h3 := Int.tmod_nonneg y hx
    omega
  · have h3 := Int.tmod_nonneg y (show 0 ≤ -x by omega)
    rw [Int.neg_tmod] at h3
    omega
theorem fdiv_in {k : IntKind} {x : Int} {n : Nat} (h : k.min ≤ x ∧ x ≤ k.max) : k.min ≤ x.fdiv (2 ^ n) ∧ x.fdiv (2 ^ n) ≤ k.max := by
  have h0 : k.min ≤ 0 ∧ 0 ≤ k.max := by cases k <;> decide
  have hp : (1 : Int) ≤ 2 ^ n := by exact_mod_cast Nat.one_le_two_pow
  rw [Int.fdiv_eq_ediv_of_nonneg _ (by omega)]
  rcases Int.le_total 0 x with hx | hx
  · have h1 := Int.ediv_nonneg hx (show 0 ≤ (2:Int) ^ n by omega)
    have h2 := Int.ediv_le_self (2 ^ n) hx
    omega
  · have h1 : x / 2 ^ n ≤ 0 := Int.ediv_le_of_le_mul (by omega) (by simpa using hx)
    have h2 : x ≤ x / 2 ^ n := by
      rw [Int.le_ediv_iff_mul_le (by omega)]
      have := Int.mul_le_mul_of_nonneg_left (show -(2:Int)^n ≤ -1 by omega) (show 0 ≤ -x by omega)
      have e : -x * -(2:Int)^n = x * 2^n := by rw [Int.neg_mul_neg]
      rw [e] at this; omega
    omega
theorem part_one {t : TypeId} {vs : Array Value} {i : Nat} {v : Value} (h : vs[i]? = some v) (ht : scal P t = true) (w : World) : (part t vs i).run P w = .ok v w := by
  have ha : (isAgg t).run P w = .ok false w := by
    unfold scal at ht
    cases hu : P.underlying t with
    | none => rw [hu] at ht; cases ht
    | some d => rw [hu] at ht; cases d <;> simp_all [isAgg, run_underlying hu]
  simp [part, ha, h]
theorem eq1_ok {t : TypeId} {vx vy : Value} {x y : PV} {r : Bool} (hx : OV β κ D w S vx x) (hy : OV β κ D w S vy y) (h : aeq1 (tk P t) x y = some r) (d : Nat) : (Op.equalIn (d + 1) t vx vy).run P w = .ok r w := by
  unfold aeq1 at h
  split at h
  · rename_i k0 k a k' b ht
    split at h
    · rename_i hk
      subst hk
      simp only [Option.some.injEq] at h; subst h
      rw [hx.int_inv.1, hy.int_inv.1, run_equalIn_int w d t k _ a b (tk_int ht), int_beq]
    · cases h
  · rename_i a b ht
    simp only [Option.some.injEq] at h; subst h
    rw [hx.str_inv.1, hy.str_inv.1, run_equalIn_string w d t a b (tk_string ht), bytes_eq]
  · rename_i a b ht
    simp only [Option.some.injEq] at h; subst h
    rw [hx.bool_inv, hy.bool_inv, run_equalIn_bool' w d t a b (tk_bool ht)]
  · cases h
theorem eqs_ok {vx vy : Array Value} (d : Nat) : ∀ (fs : List Field) (i : Nat) (xs ys : List PV) (r : Bool), eqFs P i fs = true → aeqs (fs.map (fun f => tk P f.type)) xs ys = some r →
    (∀ (j : Nat) p, xs[j]? = some p → ∃ v, vx[i + j]? = some v ∧ OV β κ D w S v p) → (∀ (j : Nat) p, ys[j]? = some p → ∃ v, vy[i + j]? = some v ∧ OV β κ D w S v p) → (Op.eqFields (d + 1) vx vy fs).run P w = .ok r w
  | [], i, xs, ys, r, _, h, _, _ => by
    cases xs <;> cases ys <;> simp only [List.map_nil, aeqs, Option.some.injEq] at h <;> first | (subst h; simp [Op.eqFields]) | cases h
  | f :: fs, i, xs, ys, r, hf, h, hx, hy => by
    simp only [eqFs, Bool.and_eq_true, bne_iff_ne, beq_iff_eq] at hf
    obtain ⟨⟨⟨h1, h2⟩, h3⟩, h4⟩ := hf
    cases xs with
    | nil => simp [aeqs] at h
    | cons x xs =>
      cases ys with
      | nil => simp [aeqs] at h
      | cons y ys =>
        simp only [List.map_cons, aeqs] at h
        split at h
        · rename_i a b ha hb
          simp only [Option.some.injEq] at h; subst h
          obtain ⟨v, v1, v2⟩ := hx 0 x rfl
          obtain ⟨u, u1, u2⟩ := hy 0 y rfl
          have ih := eqs_ok d fs (i + 1) xs ys b h4 hb (fun j p hp => by have := hx (j + 1) p (by simpa using hp); rwa [show i + 1 + j = i + (j + 1) by omega]) (fun j p hp => by have := hy (j + 1) p (by simpa using hp); rwa [show i + 1 + j = i + (j + 1) by omega])
          have e1 : (part f.type vx f.offset).run P w = .ok v w := part_one (by rw [h2]; exact v1) h3 w
          have e2 : (part f.type vy f.offset).run P w = .ok u w := part_one (by rw [h2]; exact u1) h3 w
          have e3 := eq1_ok (P := P) (t := f.type) v2 u2 ha d
          simp only [Op.eqFields]
          rw [if_pos h1]
          cases a <;> simp [e1, e2, e3, ih]
        · cases h
theorem ag_at {ps : List PV} {v : Value} (h : OV β κ D w S v (.ag ps)) : ∃ vs : Array Value, v = .agg vs ∧ ∀ (j : Nat) p, ps[j]? = some p → ∃ u, vs[j]? = some u ∧ OV β κ D w S u p := by
  have key : ∀ (vs : Array Value), vs.size = ps.length → (∀ j p, ps[j]? = some p → OV β κ D w S (vs.getD j undef) p) → ∀ (j : Nat) p, ps[j]? = some p → ∃ u, vs[j]? = some u ∧ OV β κ D w S u p := fun vs hl hv j p hp => by
    have hj : j < vs.size := by rw [hl]; exact (List.getElem?_eq_some_iff.1 hp).1
    exact ⟨vs.getD j undef, by simp [Array.getD, hj], hv j p hp⟩
  cases h with
  | rv _ _ h => cases h with | ag vs _ hl h1 hv => exact ⟨vs, rfl, key vs hl (fun j p hp => .rv _ _ (hv j p hp))⟩
  | ag vs _ hl h1 hv => exact ⟨vs, rfl, key vs hl hv⟩
theorem eqStruct {t : TypeId} {x y : Value} {xs ys : List PV} {r : Bool} (hx : OV β κ D w S x (.ag xs)) (hy : OV β κ D w S y (.ag ys)) (h : aeqs (tyD P t).eqk xs ys = some r) (hf : (tyD P t).eqf = true) :
    ∃ vx vy, x = .agg vx ∧ y = .agg vy ∧ (Op.equalIn 10000 t (.agg vx) (.agg vy)).run P w = .ok r w ∧ P.eqGuardType P.depth t = false := by
  obtain ⟨vx, rfl, v1⟩ := ag_at hx
  obtain ⟨vy, rfl, v2⟩ := ag_at hy
  cases hu : P.underlying t with
  | none => simp [tyD, hu] at hf
  | some d =>
    cases d <;> try (simp [tyD, hu] at hf; done)
    rename_i fs
    simp only [tyD, hu, Bool.and_eq_true, Bool.not_eq_true'] at hf h
    have hfo : P.fieldsOf t = fs := by simp [Program.fieldsOf, hu]
    refine ⟨vx, vy, rfl, rfl, ?_, hf.2⟩
    rw [run_equalIn_struct w 9999 t vx vy (by rw [hfo]; exact hu) hf.1.2, hfo]
    exact eqs_ok 9998 fs.toList 0 xs ys r hf.1.1 h (fun j p hp => by rw [Nat.zero_add]; exact v1 j p hp) (fun j p hp => by rw [Nat.zero_add]; exact v2 j p hp)
theorem ok_bin {b : BinOp} {t : TypeId} {x y : PV} {vx vy : Value} (hx : OV β κ D w S vx x) (hy : OV β κ D w S vy y) (h : (abin P b t x y).ok) :
    ∃ v, (binOp b t vx vy).run P w = .ok v w ∧ OV β κ D w S v (abin P b t x y).v := by
  unfold abin at h ⊢
  split at h <;> rename_i k a k' c
  · obtain ⟨rfl, h1⟩ := hx.int_inv
    obtain ⟨rfl, h2⟩ := hy.int_inv
    cases b <;> simp only [aint] at h ⊢
    case add => obtain rfl := h; exact ⟨_, by simp [binOp, Op.intArith], .wrap_mk⟩
    case sub => obtain rfl := h; exact ⟨_, by simp [binOp, Op.intArith], .wrap_mk⟩
    case mul => obtain rfl := h; exact ⟨_, by simp [binOp, Op.intArith], .wrap_mk⟩
    case quo => obtain ⟨rfl, hc⟩ := h; exact ⟨_, by simp [binOp, Op.intDiv, hc], .wrap_mk⟩
    case rem => obtain ⟨rfl, hc⟩ := h; exact ⟨_, by simp [binOp, Op.intDiv, hc], .int_mk (tmod_in h1)⟩
    case shl => exact ⟨_, by simp [binOp, Op.shift, show ¬ c < 0 by omega], .wrap_mk⟩
    case shr => exact ⟨_, by simp [binOp, Op.shift, show ¬ c < 0 by omega], .int_mk (fdiv_in h1)⟩
    case lss => obtain rfl := h; exact ⟨_, by simp [binOp, Op.intCmp], .bool_mk⟩
    case leq => obtain rfl := h; exact ⟨_, by simp [binOp, Op.intCmp], .bool_mk⟩
    case gtr => obtain rfl := h; exact ⟨_, by simp [binOp, Op.intCmp], .bool_mk⟩
    case geq => obtain rfl := h; exact ⟨_, by simp [binOp, Op.intCmp], .bool_mk⟩
    case eql => obtain rfl := h; exact ⟨_, by simp [binOp, Op.intCmp, int_beq], .bool_mk⟩
    case neq => obtain rfl := h; exact ⟨_, by simp [binOp, Op.intCmp, bne, int_beq], .bool_mk⟩
    all_goals (obtain rfl := h; exact ⟨_, by simp [binOp, Op.intBits, ibits], .wrap_mk⟩)
  · obtain ⟨rfl, h1⟩ := hx.str_inv
    obtain ⟨rfl, h2⟩ := hy.str_inv
    cases b <;> simp only [astr, no] at h ⊢
    case add =>
      have e : ¬ ((k'.size + c.size : Nat) : Int) > IntKind.i64.max := by rw [show IntKind.i64.max = 9223372036854775807 from rfl]; omega
      exact ⟨.string (k' ++ c), by simp only [binOp, Op.stringOp]; rw [if_neg e]; rfl, .str_mk (by rw [ByteArray.size_append]; exact h)⟩
    all_goals exact ⟨_, by simp only [binOp, Op.stringOp, bytes_eq]; rfl, .bool_mk⟩
  · obtain rfl := hx.bool_inv
    obtain rfl := hy.bool_inv
    cases b <;> simp only [no] at h ⊢
    case eql => exact ⟨_, run_eql_bool w t _ _ (tk_bool h), .bool_mk⟩
    case neq => exact ⟨_, run_neq_bool w t _ _ (tk_bool h), .bool_mk⟩
  · split at h
    · rename_i r hr
      cases b <;> simp only [no] at h ⊢
      case eql => obtain ⟨vx, vy, rfl, rfl, e, _⟩ := eqStruct hx hy hr h; exact ⟨_, by rw [run_eql_struct, e]; rfl, .bool_mk⟩
      case neq => obtain ⟨vx, vy, rfl, rfl, e, _⟩ := eqStruct hx hy hr h; exact ⟨_, by rw [run_neq_struct, e]; rfl, .bool_mk⟩
    · exact h.elim
  · exact h.elim

theorem info_of {t : TypeId} {d : TypeDesc} (h : P.underlying t = some d) : ∃ i, P.info? t = some i := by
  unfold Program.underlying at h
  cases hi : P.info? t with
  | none => rw [hi] at h; cases h
  | some i => exact ⟨i, rfl⟩
theorem run_sz {t : TypeId} {d : TypeDesc} (h : P.underlying t = some d) (w : World) : (sizeOf t).run P w = .ok (P.cellsOf t) w := by
  obtain ⟨i, hi⟩ := info_of h
  simp [sizeOf, typeInfo, hi, Program.cellsOf]
theorem run_agg_struct {t : TypeId} {fs : Array Field} (h : P.underlying t = some (.struct fs)) (w : World) : (isAgg t).run P w = .ok true w := by
  simp [isAgg, run_underlying h]
theorem run_agg_no {t : TypeId} (h : tk P t ≠ .other) (h2 : tk P t ≠ .struct) (w : World) : (isAgg t).run P w = .ok false w := by
  unfold tk at h h2
  cases hu : P.underlying t with
  | none => rw [hu] at h; exact absurd rfl h
  | some d => rw [hu] at h h2; cases d <;> simp_all [isAgg, run_underlying hu]
theorem nOw_isOw {p : PV} (h : nOw p) : p.isOw = false := by cases p <;> first | rfl | exact h.elim
/-- A value read at an address whose cells are known. -/
theorem ok_ld {t : TypeId} {a : Addr} {cs : List PV} (hc : ∀ j p, cs[j]? = some p → ∃ v, w.cell? (a.add j) = some v ∧ v.oneCell' = true ∧ (p.isOw = false → OV β κ D w S v p)) (h : (ldo (tyD P t) cs).ok) :
    ∃ v, (loadVar t a).run P w = .ok v w ∧ OV β κ D w S v (ld (tyD P t) cs).v := by
  have hk : (tyD P t).k = tk P t := rfl
  obtain ⟨h, hn⟩ := h
  unfold ld at h hn ⊢
  rw [hk] at h hn ⊢
  have scalar : tk P t ≠ .other → tk P t ≠ .struct → ∀ p r, cs = p :: r → nOw p → ∃ v, (loadVar t a).run P w = .ok v w ∧ OV β κ D w S v p := by
    intro h1 h2 p r e hp
    obtain ⟨v, hv, _, ho⟩ := hc 0 p (by rw [e]; rfl)
    rw [Addr.add_zero'] at hv
    exact ⟨v, by simp [loadVar, run_agg_no h1 h2, hv], ho (nOw_isOw hp)⟩
  cases hT : tk P t with
  | struct =>
    rw [hT] at h hn
    obtain ⟨fs, hu⟩ := tk_struct hT
    have hs : P.cellsOf t ≤ cs.length := h
    have hn' : ∀ p ∈ cs.take (P.cellsOf t), p.isOw = false := fun p hp => by
      have := List.all_eq_true.1 (show (cs.take (P.cellsOf t)).all (fun p => !p.isOw) = true from hn) p hp
      simpa using this
    have hex : ∀ j, ∃ v, ∀ p, cs[j]? = some p → w.cell? (a.add j) = some v ∧ v.oneCell' = true ∧ (p.isOw = false → OV β κ D w S v p) := by
      intro j
      cases hj : cs[j]? with
      | none => exact ⟨undef, fun p hp => by cases hp⟩
      | some p => obtain ⟨v, hv⟩ := hc j p hj; exact ⟨v, fun q hq => by cases hq; exact hv⟩
    obtain ⟨val, hval⟩ := Classical.axiomOfChoice hex
    have hr := run_loadCells (P := P) w a (P.cellsOf t) val (fun j hj => (hval j _ (List.getElem?_eq_getElem (Nat.lt_of_lt_of_le hj hs))).1)
    refine ⟨.agg ((List.range (P.cellsOf t)).map val).toArray, ?_, ?_⟩
    · simp [loadVar, run_agg_struct hu, run_sz hu, hr]
    · refine .ag _ _ (by simp [tyD]; omega) (fun j p hp => ?_) (fun j p hp => ?_)
      all_goals
        have hp' : cs[j]? = some p ∧ j < P.cellsOf t := by
          rw [List.getElem?_take] at hp
          split at hp
          · exact ⟨hp, by assumption⟩
          · cases hp
        have e : (((List.range (P.cellsOf t)).map val).toArray).getD j undef = val j := by simp [Array.getD, hp'.2]
        rw [e]
      · exact (hval j p hp'.1).2.1
      · exact (hval j p hp'.1).2.2 (hn' p (List.mem_of_getElem? hp))
  | other => rw [hT] at h; exact h.elim
  | _ =>
    rw [hT] at h hn
    cases cs with
    | nil => exact h.elim
    | cons p r => exact scalar (by rw [hT]; simp) (by rw [hT]; simp) p r rfl hn
theorem ldo_of {d : TD} {cs : List PV} (h : (ld d cs).ok) (hc : ∀ p ∈ cs, nOw p) : (ldo d cs).ok := by
  refine ⟨h, ?_⟩
  unfold ld at h ⊢
  cases hd : d.k <;> rw [hd] at h <;> simp only at h ⊢
  all_goals first
    | exact h.elim
    | (show (cs.take d.sz).all (fun p => !p.isOw) = true
       rw [List.all_eq_true]; intro p hp; simp [nOw_isOw (hc p (List.mem_of_mem_take hp))])
    | (cases cs with
       | nil => exact h.elim
       | cons p r => exact hc p (by simp))
end
end Go.Proofs.YtolejglfohagnaaW.AW
