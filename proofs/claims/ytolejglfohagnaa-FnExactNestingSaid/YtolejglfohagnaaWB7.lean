/- What leaves memory alone, all of it. Plain lemmas: no statement of the program. -/
import Derived.Test.YtolejglfohagnaaWB6
namespace Go.Proofs.YtolejglfohagnaaW.AW
open Go Go.RowKit
set_option linter.unusedVariables false
set_option linter.unusedSimpArgs false

section
variable {P : Program} {β κ : Id → Nat} {w : World} {S : Nat → Prop} {m : Mem} {D : Id → Prop} {e : Operand → PV} {ρ : Operand → Value} {o : Oper} {cs : List Bool}
theorem run_part' {t : TypeId} {vs : Array Value} {off : Nat} {qs : List PV} {D : Id → Prop} (hl : vs.size = off + qs.length) (hv : ∀ j p, qs[j]? = some p → (vs.getD (off + j) undef).oneCell' = true ∧ OV β κ D w S (vs.getD (off + j) undef) p) (h : (ld (tyD P t) qs).ok) :
    ∃ v, (part t vs off).run P w = .ok v w ∧ OV β κ D w S v (ld (tyD P t) qs).v := by
  have hk : (tyD P t).k = tk P t := rfl
  unfold ld at h ⊢
  rw [hk] at h ⊢
  have scalar : tk P t ≠ .other → tk P t ≠ .struct → ∀ p r, qs = p :: r → ∃ v, (part t vs off).run P w = .ok v w ∧ OV β κ D w S v p := by
    intro h1 h2 p r e
    obtain ⟨_, ho⟩ := hv 0 p (by rw [e]; rfl)
    have e2 : vs[off]? = some (vs.getD (off + 0) undef) := by
      have : off < vs.size := by rw [hl, e]; simp
      simp [Array.getD, this]
    generalize vs.getD (off + 0) undef = u at e2 ho
    exact ⟨u, by simp [part, run_agg_no h1 h2, e2], ho⟩
  cases hT : tk P t with
  | struct =>
    rw [hT] at h
    obtain ⟨fs, hu⟩ := tk_struct hT
    have hs : P.cellsOf t ≤ qs.length := h
    refine ⟨.agg (vs.extract off (off + P.cellsOf t)), by simp [part, run_agg_struct hu, run_sz hu], .ag _ _ (by simp [tyD]; omega) (fun j p hp => ?_) (fun j p hp => ?_)⟩
    all_goals
      have hp' : qs[j]? = some p ∧ j < P.cellsOf t := by
        rw [List.getElem?_take] at hp
        split at hp
        · exact ⟨hp, by assumption⟩
        · cases hp
      have e : (vs.extract off (off + P.cellsOf t)).getD j undef = vs.getD (off + j) undef := by
        have h1 : off + j < vs.size := by have := (List.getElem?_eq_some_iff.1 hp'.1).1; omega
        simp only [Array.getD_eq_getD_getElem?, Array.getElem?_extract]
        rw [if_pos (by omega)]
      rw [e]
    · exact (hv j p hp'.1).1
    · exact (hv j p hp'.1).2
  | other => rw [hT] at h; exact h.elim
  | _ =>
    rw [hT] at h
    cases qs with
    | nil => exact h.elim
    | cons p r => exact scalar (by rw [hT]; simp) (by rw [hT]; simp) p r rfl
theorem p_indexAddr {t : TypeId} {x i : Operand} {k : IntKind} {ix : Int} (ho : o.op = .indexAddr t x i) (hi : ρ i = .int k ix) {a : Addr} {n c : Nat} (hx : ρ x = .slice (some a) n c) (ht : (tyD P t).eok = true) (h0 : 0 ≤ ix) (h1 : ix < n) :
    (execOp ρ o).run P w = .ok (.value (.pointer (some (a.add (ix.toNat * (tyD P t).es))))) w := by
  obtain ⟨el, i0, z, hu, hi0, _, hs, _⟩ := el_of ht
  simp [execOp, ho, Instr.indexAt, hi, hx, asIntOf, run_underlying hu, sizeOf, typeInfo, hi0, h0, h1, hs]
theorem run_slice' {t : TypeId} {A : Option Addr} {n c : Nat} (ht : (tyD P t).eok = true) {lo hi : Option Value} {l h : Option Int} (hl : ∀ v, lo = some v → ∃ k x, v = .int k x ∧ l = some x) (hl0 : lo = none → l = none) (hh : ∀ v, hi = some v → ∃ k x, v = .int k x ∧ h = some x) (hh0 : hi = none → h = none)
    (h0 : 0 ≤ l.getD 0) (h1 : l.getD 0 ≤ h.getD n) (h2 : h.getD n ≤ n) (hc : n ≤ c) :
    (Instr.sliceAt t (.slice A n c) lo hi none).run P w = .ok (.slice (if c = (l.getD 0).toNat then A else A.map (·.add ((l.getD 0).toNat * (tyD P t).es))) (h.getD n - l.getD 0).toNat (c - (l.getD 0).toNat)) w := by
  obtain ⟨el, i0, z, hu, hi0, _, hs, _⟩ := el_of ht
  cases lo with
  | none =>
    obtain rfl := hl0 rfl
    cases hi with
    | none =>
      obtain rfl := hh0 rfl
      simp [Instr.sliceAt, Instr.slice, run_underlying hu, Instr.sliceBounds, sizeOf, typeInfo, hi0, hs]
    | some v =>
      obtain ⟨k, x, rfl, rfl⟩ := hh v rfl
      simp only [Option.getD_some, Option.getD_none] at h0 h1 h2
      have hx : 0 ≤ x ∧ x ≤ (c : Int) := by omega
      simp [Instr.sliceAt, Instr.slice, run_underlying hu, Instr.sliceBounds, Instr.sliceBound, asIntOf, hx, sizeOf, typeInfo, hi0, hs]
  | some u =>
    obtain ⟨k', y, rfl, rfl⟩ := hl u rfl
    cases hi with
    | none =>
      obtain rfl := hh0 rfl
      simp only [Option.getD_some, Option.getD_none] at h0 h1 h2
      have hx : 0 ≤ y ∧ y ≤ (n : Int) := by omega
      have e : n - y.toNat = ((n : Int) - y).toNat := by omega
      simp [Instr.sliceAt, Instr.slice, run_underlying hu, Instr.sliceBounds, Instr.sliceBound, asIntOf, hx, sizeOf, typeInfo, hi0, hs, e]
    | some v =>
      obtain ⟨k, x, rfl, rfl⟩ := hh v rfl
      simp only [Option.getD_some] at h0 h1 h2
      have hx : 0 ≤ x ∧ x ≤ (c : Int) := by omega
      have hy : 0 ≤ y ∧ y ≤ ((x.toNat : Nat) : Int) := by omega
      have e : x.toNat - y.toNat = (x - y).toNat := by omega
      have hm : ¬ max x 0 < y := by omega
      simp [hm, Instr.sliceAt, Instr.slice, run_underlying hu, Instr.sliceBounds, Instr.sliceBound, asIntOf, hx, hy, sizeOf, typeInfo, hi0, hs, e]
theorem run_slice_s {t : TypeId} {s : ByteArray} (ht : tk P t = .string) {lo hi : Option Value} {l h : Option Int} (hl : ∀ v, lo = some v → ∃ k x, v = .int k x ∧ l = some x) (hl0 : lo = none → l = none) (hh : ∀ v, hi = some v → ∃ k x, v = .int k x ∧ h = some x) (hh0 : hi = none → h = none)
    (h0 : 0 ≤ l.getD 0) (h1 : l.getD 0 ≤ h.getD s.size) (h2 : h.getD s.size ≤ s.size) :
    (Instr.sliceAt t (.string s) lo hi none).run P w = .ok (.string (s.extract (l.getD 0).toNat (h.getD s.size).toNat)) w := by
  have hu := tk_string ht
  cases lo with
  | none =>
    obtain rfl := hl0 rfl
    cases hi with
    | none =>
      obtain rfl := hh0 rfl
      simp [Instr.sliceAt, Instr.slice, run_underlying hu, Instr.sliceBounds]
    | some v =>
      obtain ⟨k, x, rfl, rfl⟩ := hh v rfl
      simp only [Option.getD_some, Option.getD_none] at h0 h1 h2
      have hx : 0 ≤ x ∧ x ≤ (s.size : Int) := by omega
      simp [Instr.sliceAt, Instr.slice, run_underlying hu, Instr.sliceBounds, Instr.sliceBound, asIntOf, hx]
  | some u =>
    obtain ⟨k', y, rfl, rfl⟩ := hl u rfl
    cases hi with
    | none =>
      obtain rfl := hh0 rfl
      simp only [Option.getD_some, Option.getD_none] at h0 h1 h2
      have hx : 0 ≤ y ∧ y ≤ (s.size : Int) := by omega
      simp [Instr.sliceAt, Instr.slice, run_underlying hu, Instr.sliceBounds, Instr.sliceBound, asIntOf, hx]
    | some v =>
      obtain ⟨k, x, rfl, rfl⟩ := hh v rfl
      simp only [Option.getD_some] at h0 h1 h2
      have hx : 0 ≤ x ∧ x ≤ (s.size : Int) := by omega
      have hy : 0 ≤ y ∧ y ≤ ((x.toNat : Nat) : Int) := by omega
      have hm : ¬ max x 0 < y := by omega
      simp [hm, Instr.sliceAt, Instr.slice, run_underlying hu, Instr.sliceBounds, Instr.sliceBound, asIntOf, hx, hy]
theorem optI_ok (he : ∀ x, OV β κ D w S (ρ x) (e x)) {lo : Option Operand} {l : Option Int} (h : optI e lo = some l) : (∀ v, lo.map ρ = some v → ∃ k x, v = .int k x ∧ l = some x) ∧ (lo.map ρ = none → l = none) := by
  cases lo with
  | none => simp only [optI, Option.some.injEq] at h; subst h; exact ⟨fun v hv => by simp at hv, fun _ => rfl⟩
  | some x =>
    have hx := he x
    simp only [optI] at h
    split at h
    · rename_i k n hq
      rw [hq] at hx
      simp only [Option.some.injEq] at h
      subst h
      refine ⟨fun v hv => ?_, fun hv => by simp at hv⟩
      simp only [Option.map_some, Option.some.injEq] at hv
      exact ⟨k, n, hv ▸ hx.int_inv.1, rfl⟩
    · cases h
theorem aadd_add (a : Addr) (m n : Nat) : (a.add m).add n = a.add (m + n) := by
  unfold Addr.add
  by_cases h1 : m = 0 <;> by_cases h2 : n = 0 <;> simp [h1, h2, Nat.add_assoc]
/-- A cut of a closed slice. -/
theorem cut_cl {A : Option Addr} {n c sz l h : Nat} {g : Nat → List PV} (hn : n ≤ c) (hl : l ≤ h) (hh : h ≤ n)
    (H : 0 < n → c ≤ 9223372036854775807 ∧ ∃ a, A = some a ∧ S a.block ∧ ∀ i, i < n → (g i).length = sz ∧ ∀ j p, (g i)[j]? = some p → ∃ u, w.cell? (a.add (i * sz + j)) = some u ∧ u.oneCell' = true ∧ RV w S u p) :
    RV w S (.slice (if c = l then A else A.map (·.add (l * sz))) (h - l) (c - l)) (.cl sz (h - l) (fun i => g (l + i))) := by
  refine RV.cl_mk (by omega) (fun hp => ?_)
  obtain ⟨hc, a, rfl, hS, hg⟩ := H (by omega)
  rw [if_neg (by omega)]
  refine ⟨by omega, a.add (l * sz), rfl, by rw [aadd_block]; exact hS, fun i hi => ⟨(hg (l + i) (by omega)).1, fun j p hj => ?_⟩⟩
  obtain ⟨u, h1, h2⟩ := (hg (l + i) (by omega)).2 j p hj
  exact ⟨u, by rw [aadd_add, ← Nat.add_assoc, ← Nat.add_mul]; exact h1, h2⟩
theorem p_slice (he : ∀ x, OV β κ D w S (ρ x) (e x)) {t : TypeId} {x : Operand} {lo hi : Option Operand} {l h : Option Int} (ho : o.op = .slice t x lo hi none) (h1 : optI e lo = some l) (h2 : optI e hi = some h) (hk : (aslice P t (e x) l h).ok) :
    ∃ v, (execOp ρ o).run P w = .ok (.value v) w ∧ OV β κ D w S v (aslice P t (e x) l h).v := by
  have hx := he x
  obtain ⟨a1, a2⟩ := optI_ok he h1
  obtain ⟨b1, b2⟩ := optI_ok he h2
  have run_ : ∀ v r, ρ x = v → (Instr.sliceAt t v (lo.map ρ) (hi.map ρ) none).run P w = .ok r w → (execOp ρ o).run P w = .ok (.value r) w := fun v r e1 e2 => by simp [execOp, ho, e1, e2]
  unfold aslice at hk ⊢
  split at hk
  · rename_i hq; rw [hq] at hx
    obtain ⟨hv, hb⟩ := hx.str_inv
    obtain ⟨k1, k2, k3, k4⟩ := hk
    exact ⟨_, run_ _ _ hv (run_slice_s k1 a1 a2 b1 b2 k2 k3 k4), .str_mk (by rw [ByteArray.size_extract]; omega)⟩
  · rename_i sz n g hq; rw [hq] at hx
    obtain ⟨A, c, hv, hn, H⟩ := hx.cl_inv
    obtain ⟨k0, k1, k2, k3, k4⟩ := hk
    refine ⟨_, run_ _ _ hv (run_slice' k1 a1 a2 b1 b2 k2 k3 k4 hn), ?_⟩
    have := cut_cl (l := (l.getD 0).toNat) (h := (h.getD n).toNat) hn (by omega) (by omega) H
    have e1 : (h.getD n).toNat - (l.getD 0).toNat = (h.getD n - l.getD 0).toNat := by omega
    rw [e1] at this
    rw [k0]
    exact .rv _ _ this
  · rename_i i sz n off len hq; rw [hq] at hx
    obtain ⟨A, c, hv, hxx, hl, hn, hkk, hc, hA⟩ := hx.sl_inv
    obtain ⟨k0, k1, k2, k3, k4⟩ := hk
    refine ⟨_, run_ _ _ hv (run_slice' k1 a1 a2 b1 b2 k2 k3 k4 hl), .sl _ _ _ _ _ _ _ hxx (by omega) (by omega) (by omega) hc (fun hp => ?_)⟩
    rw [if_neg (by omega), hA (by omega), k0]
    show some ((⟨β i, off * sz, none⟩ : Addr).add _) = _
    rw [Addr.add_lit, Nat.add_mul]
  · rename_i hq; rw [hq] at hx
    have hv := hx.nils_inv
    obtain ⟨k0, k1, k2⟩ := hk
    have hr := run_slice' (w := w) (A := none) (n := 0) (c := 0) k0 a1 a2 b1 b2 (by omega) (by rw [k1]; simp [k2]) (by simp [k2]) (Nat.le_refl 0)
    refine ⟨_, run_ _ _ hv hr, ?_⟩
    have e0 : (l.getD 0).toNat = 0 := by rw [k1]; rfl
    have e1 : (h.getD ((0 : Nat) : Int) - l.getD 0).toNat = 0 := by rw [k1]; show (h.getD 0 - 0).toNat = 0; rw [k2]; rfl
    rw [e0, e1]
    exact .rv _ _ .nils
  · exact hk.elim
end
end Go.Proofs.YtolejglfohagnaaW.AW
