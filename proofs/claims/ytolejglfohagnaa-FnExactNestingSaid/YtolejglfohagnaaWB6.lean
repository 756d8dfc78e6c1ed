/- Addresses, loads, cuts, lengths over the abstract state. Plain lemmas: no statement of the program. -/
import Derived.Test.YtolejglfohagnaaWB5
namespace Go.Proofs.YtolejglfohagnaaW.AW
open Go Go.RowKit
set_option linter.unusedVariables false
set_option linter.unusedSimpArgs false

section
variable {P : Program} {β κ : Id → Nat} {w : World} {S : Nat → Prop} {m : Mem} {D : Id → Prop} {e : Operand → PV} {ρ : Operand → Value} {o : Oper} {cs : List Bool}
theorem fs_at {t : TypeId} {f off sz ft : Nat} (hk : tk P t = .struct) (h : (tyD P t).fs[f]? = some (off, sz, ft)) : ∃ fs fd, P.underlying t = some (.struct fs) ∧ fs[f]? = some fd ∧ fd.offset = off ∧ P.cellsOf fd.type = sz ∧ fd.type = ft := by
  obtain ⟨fs, hu⟩ := tk_struct hk
  have e : (tyD P t).fs = fs.toList.map (fun f => (f.offset, P.cellsOf f.type, f.type)) := by simp only [tyD, hu]
  rw [e, List.getElem?_map] at h
  obtain ⟨fd, h1, h2⟩ := Option.map_eq_some_iff.1 h
  simp only [Prod.mk.injEq] at h2
  exact ⟨fs, fd, hu, by simpa using h1, h2.1, h2.2.1, h2.2.2⟩
theorem sz_info {t : TypeId} (h : P.cellsOf t ≠ 0) : ∃ i, P.info? t = some i ∧ i.size = P.cellsOf t := by
  unfold Program.cellsOf at h ⊢
  cases hi : P.info? t with
  | none => rw [hi] at h; exact absurd rfl h
  | some i => exact ⟨i, rfl, rfl⟩
theorem el_of {t : TypeId} (h : (tyD P t).eok = true) : ∃ el i z, P.underlying t = some (.slice el) ∧ P.info? el = some i ∧ i.zero = some z ∧ i.size = (tyD P t).es ∧ i.bytes = (tyD P t).eb ∧ z.cells.size = (tyD P t).es ∧ (∀ u ∈ z.cells.toList, u.oneCell' = true) ∧ 0 < (tyD P t).es ∧ (tyD P t).ez = z.cells.toList.map ofVal ∧ 0 < (tyD P t).eb := by
  cases hu : P.underlying t with
  | none => simp [tyD, hu] at h
  | some d =>
    cases d <;> try (simp [tyD, hu] at h; done)
    rename_i el
    cases hi : P.info? el with
    | none => simp [tyD, hu, hi] at h
    | some i =>
      cases hz : i.zero with
      | none => simp [tyD, hu, hi, hz] at h
      | some z =>
        simp only [tyD, hu, hi, hz, Option.bind_some, Option.map_some, Option.getD_some, Bool.and_eq_true, decide_eq_true_eq] at h
        refine ⟨el, i, z, rfl, hi, hz, by simp [tyD, hu, Program.cellsOf, hi], by simp [tyD, hu, Program.bytesOf, hi], by simp [tyD, hu]; exact h.1.1.1, ?_, by simp [tyD, hu]; exact h.1.2, by simp [tyD, hu, zcells, hi, hz], by simp [tyD, hu]; exact h.2⟩
        intro u hu'
        exact (Array.all_eq_true_iff_forall_mem.1 h.1.1.2) u (by simpa using hu')
theorem OV.ag_inv {D : Id → Prop} {v : Value} {ps : List PV} (h : OV β κ D w S v (.ag ps)) : ∃ vs : Array Value, v = .agg vs ∧ vs.size = ps.length ∧ ∀ j p, ps[j]? = some p → (vs.getD j undef).oneCell' = true ∧ OV β κ D w S (vs.getD j undef) p := by
  cases h with
  | rv _ _ h => cases h with | ag vs _ hl h1 hv => exact ⟨vs, rfl, hl, fun j p hp => ⟨h1 j p hp, .rv _ _ (hv j p hp)⟩⟩
  | ag vs _ hl h1 hv => exact ⟨vs, rfl, hl, fun j p hp => ⟨h1 j p hp, hv j p hp⟩⟩
theorem OV.pc_inv {D : Id → Prop} {v : Value} {cs : List PV} (h : OV β κ D w S v (.pc cs)) : ∃ a, v = .pointer (some a) ∧ S a.block ∧ ∀ j p, cs[j]? = some p → ∃ u, w.cell? (a.add j) = some u ∧ u.oneCell' = true ∧ RV w S u p := by
  cases h with | rv _ _ h => cases h with | pc a _ val hS hc h1 hv => exact ⟨a, rfl, hS, fun j p hp => ⟨_, hc j p hp, h1 j p hp, hv j p hp⟩⟩
theorem OV.bp_inv {D : Id → Prop} {v : Value} {i : Id} {j : Nat} (h : OV β κ D w S v (.bp i j)) : v = .pointer (some ⟨β i, j, none⟩) ∧ D i := by
  cases h with
  | rv _ _ h => cases h
  | bp _ _ hx => exact ⟨rfl, hx⟩
theorem OV.pt_inv {D : Id → Prop} {v : Value} {i : Id} {sz n k j : Nat} (h : OV β κ D w S v (.pt i sz n k j)) : v = .pointer (some ⟨β i, k * sz + j, none⟩) ∧ D i ∧ k < n := by
  cases h with
  | rv _ _ h => cases h
  | pt _ _ _ _ _ hx hi => exact ⟨rfl, hx, hi⟩
theorem OV.sl_inv {D : Id → Prop} {v : Value} {i : Id} {sz n off len : Nat} (h : OV β κ D w S v (.sl i sz n off len)) : ∃ A c, v = .slice A len c ∧ D i ∧ len ≤ c ∧ off + len ≤ n ∧ off + c = κ i ∧ κ i ≤ 9223372036854775807 ∧ (0 < c → A = some ⟨β i, off * sz, none⟩) := by
  cases h with
  | rv _ _ h => cases h
  | sl _ _ _ _ _ A c hx hl hn hk hc hA => exact ⟨A, c, rfl, hx, hl, hn, hk, hc, hA⟩
theorem OV.mp_inv {D : Id → Prop} {v : Value} {i : Id} (h : OV β κ D w S v (.mp i)) : v = .map (some (β i)) ∧ D i := by
  cases h with
  | rv _ _ h => cases h
  | mp _ hx => exact ⟨rfl, hx⟩
theorem RV.isOw {v : Value} {p : PV} (h : RV w S v p) : p.isOw = false := by cases h <;> rfl
theorem RV.nOw {v : Value} {p : PV} (h : RV w S v p) : nOw p := by
  cases h with
  | ag vs ps hl h1 hv =>
    show ps.all (fun p => !p.isOw) = true
    rw [List.all_eq_true]; intro p hp
    obtain ⟨j, hj⟩ := List.getElem?_of_mem hp
    simp [(hv j p hj).isOw]
  | _ => trivial
/-- A closed slice: its cells. -/
theorem OV.cl_inv {D : Id → Prop} {v : Value} {sz n : Nat} {g : Nat → List PV} (h : OV β κ D w S v (.cl sz n g)) : ∃ A c, v = .slice A n c ∧ n ≤ c ∧ (0 < n → c ≤ 9223372036854775807 ∧ ∃ a, A = some a ∧ S a.block ∧ ∀ i, i < n → (g i).length = sz ∧ ∀ j p, (g i)[j]? = some p → ∃ u, w.cell? (a.add (i * sz + j)) = some u ∧ u.oneCell' = true ∧ RV w S u p) := by
  cases h with
  | rv _ _ h => cases h with
    | cl0 A c => exact ⟨A, c, rfl, Nat.zero_le _, fun h => absurd h (by omega)⟩
    | cl a _ c _ _ val hn hc hS hl hcell h1 hv => exact ⟨some a, c, rfl, hn, fun _ => ⟨hc, a, rfl, hS, fun i hi => ⟨hl i hi, fun j p hp => ⟨_, hcell i j p hi hp, h1 i j p hi hp, hv i j p hi hp⟩⟩⟩⟩
theorem RV.pc_mk {a : Addr} {cs : List PV} (hS : S a.block) (h : ∀ j p, cs[j]? = some p → ∃ u, w.cell? (a.add j) = some u ∧ u.oneCell' = true ∧ RV w S u p) : RV w S (.pointer (some a)) (.pc cs) := by
  have hex : ∀ j, ∃ v, ∀ p, cs[j]? = some p → w.cell? (a.add j) = some v ∧ v.oneCell' = true ∧ RV w S v p := by
    intro j
    cases hj : cs[j]? with
    | none => exact ⟨undef, fun p hp => by cases hp⟩
    | some p => obtain ⟨v, hv⟩ := h j p hj; exact ⟨v, fun q hq => by cases hq; exact hv⟩
  obtain ⟨val, hval⟩ := Classical.axiomOfChoice hex
  exact .pc a cs val hS (fun j p hp => (hval j p hp).1) (fun j p hp => (hval j p hp).2.1) (fun j p hp => (hval j p hp).2.2)
theorem RV.cl_mk {A : Option Addr} {n c sz : Nat} {g : Nat → List PV} (hn : n ≤ c) (h : 0 < n → c ≤ 9223372036854775807 ∧ ∃ a, A = some a ∧ S a.block ∧ ∀ i, i < n → (g i).length = sz ∧ ∀ j p, (g i)[j]? = some p → ∃ u, w.cell? (a.add (i * sz + j)) = some u ∧ u.oneCell' = true ∧ RV w S u p) : RV w S (.slice A n c) (.cl sz n g) := by
  rcases Nat.eq_zero_or_pos n with rfl | hp
  · exact .cl0 A c sz g
  · obtain ⟨hc, a, rfl, hS, hg⟩ := h hp
    have hex : ∀ i, ∃ f : Nat → Value, ∀ j p, i < n → (g i)[j]? = some p → w.cell? (a.add (i * sz + j)) = some (f j) ∧ (f j).oneCell' = true ∧ RV w S (f j) p := by
      intro i
      have hex : ∀ j, ∃ v, ∀ p, i < n → (g i)[j]? = some p → w.cell? (a.add (i * sz + j)) = some v ∧ v.oneCell' = true ∧ RV w S v p := by
        intro j
        by_cases hi : i < n
        · cases hj : (g i)[j]? with
          | none => exact ⟨undef, fun p _ hp => by cases hp⟩
          | some p => obtain ⟨v, hv⟩ := (hg i hi).2 j p hj; exact ⟨v, fun q _ hq => by cases hq; exact hv⟩
        · exact ⟨undef, fun p h _ => absurd h hi⟩
      obtain ⟨f, hf⟩ := Classical.axiomOfChoice hex
      exact ⟨f, fun j p hi hp => hf j p hi hp⟩
    obtain ⟨val, hval⟩ := Classical.axiomOfChoice hex
    exact .cl a n c sz g val hn hc hS (fun i hi => (hg i hi).1) (fun i j p hi hp => (hval i j p hi hp).1) (fun i j p hi hp => (hval i j p hi hp).2.1) (fun i j p hi hp => (hval i j p hi hp).2.2)
theorem run_place {a : Addr} {f : Field} (h : P.cellsOf f.type ≠ 0) (w : World) : (fieldPlace a f).run P w = .ok (a.add f.offset) w := by
  obtain ⟨i, hi, hs⟩ := sz_info h
  have : i.size ≠ 0 := by rw [hs]; exact h
  simp [fieldPlace, sizeOf, typeInfo, hi, this]
theorem p_fieldAddr {t : TypeId} {x : Operand} {f off sz ft : Nat} (ho : o.op = .fieldAddr t x f) (hf : (tyD P t).fs[f]? = some (off, sz, ft)) (hk : tk P t = .struct) (hz : sz ≠ 0) {a : Addr} (ha : ρ x = .pointer (some a)) :
    (execOp ρ o).run P w = .ok (.value (.pointer (some (a.add off)))) w := by
  obtain ⟨fs, fd, hu, h1, rfl, rfl, rfl⟩ := fs_at hk hf
  simp [execOp, ho, Instr.fieldAt, run_underlying hu, h1, ha, Instr.sureAddr, run_place hz]
theorem p_load {t : TypeId} {x : Operand} {cs : List PV} (ho : o.op = .load t x) {a : Addr} (ha : ρ x = .pointer (some a)) (hc : ∀ j p, cs[j]? = some p → ∃ v, w.cell? (a.add j) = some v ∧ v.oneCell' = true ∧ (p.isOw = false → OV β κ D w S v p)) (h : (ldo (tyD P t) cs).ok) :
    ∃ v, (execOp ρ o).run P w = .ok (.value v) w ∧ OV β κ D w S v (ld (tyD P t) cs).v := by
  obtain ⟨v, hr, hv⟩ := ok_ld hc h
  exact ⟨v, by simp [execOp, ho, Instr.loadAt, ha, Instr.sureAddr, hr], hv⟩
end
end Go.Proofs.YtolejglfohagnaaW.AW
