/- Rows made: literals, make, append. Plain lemmas: no statement of the program. -/
import Derived.Test.YtolejglfohagnaaWB13
import Derived.Lib.ConvBytes
namespace Go.Proofs.YtolejglfohagnaaW.AW
open Go Go.RowKit
set_option linter.unusedVariables false
set_option linter.unusedSimpArgs false

theorem fillRow (size N : Nat) : ∀ (parts : List Value) (k : Nat) (cells : Array Value), (∀ v ∈ parts, v.cells.size = size) → cells.size = N * size → k + parts.length ≤ N →
    ∃ cs', Instr.fill (fun i => some (i * size, size)) cells ((parts.zipIdx k).map (fun x => (x.2, x.1))) = some cs' ∧ cs'.size = cells.size ∧ (∀ x, x < k * size → cs'[x]? = cells[x]?) ∧ ∀ (i : Nat) (v : Value), parts[i]? = some v → ∀ j, j < size → cs'[(k + i) * size + j]? = v.cells[j]?
  | [], k, cells, _, _, _ => ⟨cells, rfl, rfl, fun _ _ => rfl, fun i v h => by simp at h⟩
  | v :: r, k, cells, h1, h2, h3 => by
    have hv := h1 v (by simp)
    have hk : (k + 1) * size ≤ N * size := Nat.mul_le_mul_right _ (by simp at h3; omega)
    rw [Nat.succ_mul] at hk
    obtain ⟨g1, g2⟩ := fold_at (k * size) v.cells.toList 0 cells
    have e : v.cells.zipIdx.foldl (fun cs (x : Value × Nat) => cs.setIfInBounds (k * size + x.2) x.1) cells = (v.cells.toList.zipIdx 0).foldl (fun cs (x : Value × Nat) => cs.setIfInBounds (k * size + x.2) x.1) cells := by
      rw [← Array.foldl_toList]; simp
    obtain ⟨cs', r1, r2, r3, r4⟩ := fillRow size N r (k + 1) _ (fun u hu => h1 u (by simp [hu])) (g1.trans h2) (by simp at h3; omega)
    refine ⟨cs', ?_, r2.trans g1, fun x hx => ?_, fun i u hi j hj => ?_⟩
    · simp only [List.zipIdx_cons, List.map_cons, Instr.fill]
      rw [if_neg (by rw [hv]; simp; omega)]
      exact e ▸ r1
    · rw [r3 x (by rw [Nat.succ_mul]; omega), g2 x, if_neg (by omega)]
    · cases i with
      | zero =>
        simp only [List.getElem?_cons_zero, Option.some.injEq] at hi
        subst hi
        rw [Nat.add_zero, r3 _ (by rw [Nat.succ_mul]; omega), g2, if_pos (by simp; omega)]
        simp
      | succ i =>
        simp only [List.getElem?_cons_succ] at hi
        rw [show k + (i + 1) = k + 1 + i by omega]
        exact r4 i u hi j hj
theorem okIdx_zip (ρ : Operand → Value) : ∀ (k : Nat) (l : List (Nat × Operand)), okIdx k l = true → l.map (fun x => (x.1, ρ x.2)) = ((l.map (fun x => ρ x.2)).zipIdx k).map (fun x => (x.2, x.1))
  | _, [], _ => rfl
  | k, (i, x) :: r, h => by
    simp only [okIdx, Bool.and_eq_true, beq_iff_eq] at h
    obtain ⟨rfl, h⟩ := h
    simp only [List.map_cons, List.zipIdx_cons]
    rw [okIdx_zip ρ (i + 1) r h]
section
variable {P : Program} {β κ : Id → Nat} {A : Id → Nat → Prop} {w : World} {S : Nat → Prop} {m : Mem} {D : Id → Prop} {e : Operand → PV} {ρ : Operand → Value} {o : Oper} {cs : List Bool}
theorem allCells_at {D : Id → Prop} : ∀ {ps : List PV} {cc : List (List PV)} {vs : List Value}, allCells ps = some cc → vs.length = ps.length → (∀ (j : Nat) (p : PV), ps[j]? = some p → ∃ v, vs[j]? = some v ∧ OV β κ D w S v p) →
    cc.length = ps.length ∧ ∀ (i : Nat) (c : List PV), cc[i]? = some c → ∃ v, vs[i]? = some v ∧ CR β κ D w S v.cells c
  | [], cc, vs, h, hl, _ => by simp only [allCells, Option.some.injEq] at h; subst h; exact ⟨rfl, fun i c hc => by simp at hc⟩
  | p :: r, cc, vs, h, hl, hv => by
    simp only [allCells] at h
    split at h
    · rename_i c cs' h1 h2
      simp only [Option.some.injEq] at h
      subst h
      cases vs with
      | nil => cases hl
      | cons v vs =>
        obtain ⟨i1, i2⟩ := allCells_at h2 (by simpa using hl) (fun j q hq => by obtain ⟨u, a, b⟩ := hv (j + 1) q (by simpa using hq); exact ⟨u, by simpa using a, b⟩)
        refine ⟨by simp [i1], fun i d hd => ?_⟩
        cases i with
        | zero =>
          simp only [List.getElem?_cons_zero, Option.some.injEq] at hd
          subst hd
          obtain ⟨u, a, b⟩ := hv 0 p rfl
          simp only [List.getElem?_cons_zero, Option.some.injEq] at a
          subst a
          exact ⟨v, rfl, CR.of b h1⟩
        | succ i => obtain ⟨u, a, b⟩ := i2 i d (by simpa using hd); exact ⟨u, by simpa using a, b⟩
    · cases h
variable (hm : MRD w S D m β κ A) (he : ∀ x, OV β κ D w S (ρ x) (e x)) (fr : Fr D m.nx)
include hm he fr
theorem o_buildSlice {t : TypeId} {n : Nat} {ps : Array (Nat × Operand)} {cc : List (List PV)} (ho : o.op = .buildSlice t n ps) (hcc : allCells (ps.toList.map (fun x => e x.2)) = some cc) (h1 : (tyD P t).eok = true) (h2 : okIdx 0 ps.toList = true) (h3 : ps.size = n) (h4 : ∀ c ∈ cc, c.length = (tyD P t).es) (h5 : n * (tyD P t).es ≤ 16777216)
    (K : PV → Mem → Prop) (hK : K (.sl [m.nx] (tyD P t).es n 0 n) (m.grow none (.row (tyD P t).es n (fun i => cc.getD i [])))) : ∃ v w', (execOp ρ o).run P w = .ok (.value v) w' ∧ Left w S D m β κ A K v w' := by
  obtain ⟨el, i0, z, hu, hi0, hz0, hs, _, hzs, hz1, hpos, _⟩ := el_of h1
  obtain ⟨c1, c2⟩ := allCells_at (β := β) (κ := κ) (D := D) (w := w) (S := S) (vs := ps.toList.map (fun x => ρ x.2)) hcc (by simp) (fun j p hp => by
    rw [List.getElem?_map] at hp
    obtain ⟨x, hx, rfl⟩ := Option.map_eq_some_iff.1 hp
    exact ⟨ρ x.2, by rw [List.getElem?_map, hx]; rfl, he _⟩)
  have hn : cc.length = n := by rw [c1, List.length_map, Array.length_toList, h3]
  have hvs : ∀ v ∈ ps.toList.map (fun x => ρ x.2), v.cells.size = (tyD P t).es := fun v hv => by
    obtain ⟨i, hi⟩ := List.getElem?_of_mem hv
    have hlt : i < cc.length := by have := (List.getElem?_eq_some_iff.1 hi).1; simp at this; omega
    obtain ⟨u, a, b⟩ := c2 i _ (List.getElem?_eq_getElem hlt)
    rw [hi] at a; cases a
    rw [b.1]; exact h4 _ (List.getElem_mem _)
  have hz : zeroValue el = zeroValue el := rfl
  obtain ⟨cur, f1, f2, _, f4⟩ := fillRow (tyD P t).es n (ps.toList.map (fun x => ρ x.2)) 0 ((Array.range (n * (tyD P t).es)).map ((if n * (tyD P t).es = 0 then #[] else z.cells)[· % (if n * (tyD P t).es = 0 then #[] else z.cells).size]!)) hvs (by simp) (by simp; omega)
  have ez := okIdx_zip ρ 0 ps.toList h2
  rw [← ez] at f1
  have hlim : ¬ n * (tyD P t).es > 2 ^ 24 := by have : (2 : Nat) ^ 24 = 16777216 := rfl; omega
  have hblk : Blk β κ D (w.alloc (.cells cur el)) S (fun k => k = w.heap.size) w.heap.size (tyD P t).es n n (fun i => cc.getD i []) := by
    refine Blk.flat (heap_alloc_new w _) (.inl rfl) (by rw [f2]; simp) (Nat.le_refl n) (fun i hi => ?_) (fun i j p hi hp => ?_)
    · have : cc[i]? = some cc[i] := List.getElem?_eq_getElem (by omega)
      simp only [List.getD_eq_getElem?_getD, this, Option.getD_some]
      exact h4 _ (List.getElem_mem _)
    · have hc : cc[i]? = some cc[i] := List.getElem?_eq_getElem (by omega)
      simp only [List.getD_eq_getElem?_getD, hc, Option.getD_some] at hp
      obtain ⟨v, a, b⟩ := c2 i _ hc
      obtain ⟨u, q1, q2, q3⟩ := b.at_ hp
      have hj : j < (tyD P t).es := by have := h4 _ (List.mem_of_getElem? hc); rw [← this]; exact (List.getElem?_eq_some_iff.1 hp).1
      have := f4 i v a j hj
      rw [Nat.zero_add] at this
      exact ⟨u, this.trans q1, q2, q3.move (fun _ _ => ⟨rfl, rfl⟩) (fun _ h => h) (fun _ h => h) (fun k hk => alloc_old w _ (hm.lt k hk))⟩
  refine ⟨.slice (some ⟨w.heap.size, 0, none⟩) n n, w.alloc (.cells cur el), ?_, new_row (w' := w.alloc (.cells cur el)) fr hm none rfl rfl rfl (by simp) (fun k hk => .inl (by omega)) (fun k hk _ => alloc_old w _ hk) hblk ?_ hpos K hK⟩
  · by_cases h0 : n * (tyD P t).es = 0
    · simp only [if_pos h0] at f1
      have hr0 : Array.range 0 = #[] := rfl
      simp only [h0, hr0, Array.map_empty] at f1
      simp [execOp, ho, Instr.buildSlice, run_underlying hu, sizeOf, typeInfo, hi0, hs, h0, newRow, hr0, f1]
    · simp only [if_neg h0] at f1
      simp [execOp, ho, Instr.buildSlice, run_underlying hu, sizeOf, typeInfo, hi0, hs, h0, newRow, zeroValue, hz0, hlim, f1]
  · have : n * 1 ≤ n * (tyD P t).es := Nat.mul_le_mul_left _ hpos
    omega
theorem o_makeSlice {t : TypeId} {lx cx : Operand} {kl kc : IntKind} {l c : Int} (ho : o.op = .makeSlice t lx cx) (hl : e lx = .int kl l) (hc : e cx = .int kc c) (h1 : (tyD P t).eok = true) (h2 : 0 ≤ l) (h3 : l ≤ c) (h4 : c * (tyD P t).eb ≤ 140737488355328)
    (K : PV → Mem → Prop) (hK : K (.sl [m.nx] (tyD P t).es l.toNat 0 l.toNat) (m.grow none (.row (tyD P t).es l.toNat (fun _ => (tyD P t).ez)))) : ∃ v w', (execOp ρ o).run P w = .ok (.value v) w' ∧ Left w S D m β κ A K v w' := by
  obtain ⟨el, i0, z, hu, hi0, hz0, hs, hby, hzs, hz1, hpos, hez, hbp⟩ := el_of h1
  have vl := he lx; rw [hl] at vl
  have vc := he cx; rw [hc] at vc
  obtain ⟨n, rfl⟩ := Int.eq_ofNat_of_zero_le (show 0 ≤ c by omega)
  have hle : n * 1 ≤ n * (tyD P t).eb := Nat.mul_le_mul_left _ hbp
  have hq : ((n * (tyD P t).eb : Nat) : Int) ≤ 140737488355328 := by rw [Int.natCast_mul]; exact h4
  have hn47 : n ≤ 140737488355328 := by
    generalize n * (tyD P t).eb = q at hle hq
    omega
  have hr := run_make (P := P) w t el i0 z hu hi0 hz0 kl kc l n h2 h3 (by rw [hby, Int.mul_comm]; exact Int.le_trans h4 (by decide)) (by omega)
  simp only [Int.ofNat_eq_natCast, Int.toNat_natCast] at hr vc
  have hblk : Blk β κ D (w.alloc (.cells (madeCells z.cells (n * i0.size)) el)) S (fun k => k = w.heap.size) w.heap.size (tyD P t).es l.toNat n (fun _ => (tyD P t).ez) := by
    refine Blk.flat (heap_alloc_new w _) (.inl rfl) (by rw [size_madeCells, hs]) (by omega) (fun i hi => by rw [hez]; simp [hzs]) (fun i j p hi hp => ?_)
    rw [hez, List.getElem?_map] at hp
    obtain ⟨v, hv, rfl⟩ := Option.map_eq_some_iff.1 hp
    have hj : j < (tyD P t).es := by rw [← hzs]; simpa using (List.getElem?_eq_some_iff.1 hv).1
    have hlt : i * (tyD P t).es + j < n * (tyD P t).es := by
      have : (i + 1) * (tyD P t).es ≤ n * (tyD P t).es := Nat.mul_le_mul_right _ (by omega)
      rw [Nat.succ_mul] at this; omega
    have hmod : (i * (tyD P t).es + j) % (tyD P t).es = j := by rw [Nat.add_comm, Nat.add_mul_mod_self_right, Nat.mod_eq_of_lt hj]
    refine ⟨v, ?_, hz1 v (List.mem_of_getElem? hv), ofVal_ok⟩
    have hv' : z.cells[j]? = some v := by simpa using hv
    simp only [madeCells, hs, Array.getElem?_map, Array.getElem?_range, hlt, if_true, Option.map_some, Option.some.injEq, hzs, hmod]
    rw [getElem!_def, hv']
  exact ⟨_, _, by simp only [execOp, ho, vl.int_inv.1, vc.int_inv.1]; simp only [Sem.run_bind, hr]; rfl, new_row (w' := w.alloc (.cells (madeCells z.cells (n * i0.size)) el)) fr hm none rfl rfl rfl (by simp) (fun k hk => .inl (by omega)) (fun k hk _ => alloc_old w _ hk) hblk (by omega) hpos K hK⟩
/-- A string's bytes, in a row of one's own. -/
theorem o_toBytes {s d : TypeId} {x : Operand} {b : ByteArray} (ho : o.op = .convert s d x) (hx : e x = .str b) (h1 : tkU8 P d) (h2 : tk P s = .string) (h3 : (tyD P d).eok = true) (h4 : (tyD P d).es = 1)
    (K : PV → Mem → Prop) (hK : K (.sl [m.nx] 1 b.size 0 b.size) (m.grow none (.row 1 b.size (fun i => [.int .u8 (bt b i)])))) : ∃ v w', (execOp ρ o).run P w = .ok (.value v) w' ∧ Left w S D m β κ A K v w' := by
  obtain ⟨e', hd, he'⟩ := tkU8_spec h1
  have hv := he x; rw [hx] at hv
  obtain ⟨e1, hb⟩ := hv.str_inv
  have hs := tk_string h2
  have hr := Go.Lib.run_convert_string_bytes (P := P) w s d e' b hs hd he'
  have hsz := Go.Lib.bytesWorld_size w e' b
  have hcs : (Go.Lib.bytesCells w e' b).size = grownCap w b.size 0 e' := by
    have := grownCap_ge w b.size 0 e'
    have : b.data.size = b.size := rfl
    simp [Go.Lib.bytesCells]; omega
  have hblk : Blk β κ D (Go.Lib.bytesWorld w e' b) S (fun k => k = w.heap.size) w.heap.size 1 b.size (grownCap w b.size 0 e') (fun i => [.int .u8 (bt b i)]) := by
    refine Blk.flat (Go.Lib.bytesWorld_at_new w e' b) (.inr (Nat.le_refl _)) (by rw [hcs, Nat.mul_one]) (grownCap_ge w b.size 0 e') (fun _ _ => rfl) (fun i j p hi hp => ?_)
    cases j with
    | succ j => simp at hp
    | zero =>
      simp only [List.getElem?_cons_zero, Option.some.injEq] at hp
      subst hp
      have hi' : i < b.data.size := hi
      have e0 : bt b i = ((b[i]'hi).toNat : Int) := by simp [bt, hi]
      refine ⟨.int .u8 (bt b i), ?_, rfl, .int_mk ?_⟩
      · rw [Nat.mul_one, Nat.add_zero, e0]
        rw [Go.Lib.bytesCells, Array.getElem?_append_left (by simpa using hi'), Array.getElem?_map, Array.getElem?_eq_getElem hi']
        rfl
      · rw [e0, show IntKind.u8.min = 0 from rfl, show IntKind.u8.max = 255 from rfl]
        have := (b[i]'hi).toNat_lt
        omega
  refine ⟨_, _, by simp only [execOp, ho, e1, Sem.run_bind, hr]; rfl, new_row (w' := Go.Lib.bytesWorld w e' b) fr hm none rfl rfl rfl (by omega) (fun k hk => .inl (by omega)) (fun k hk _ => Go.Lib.bytesWorld_at_old w e' b k hk) hblk ?_ Nat.one_pos K hK⟩
  have := grownCap_le_maxLen w b.size 0 e' (by unfold maxLen; omega)
  unfold maxLen at this; omega
end
end Go.Proofs.YtolejglfohagnaaW.AW
