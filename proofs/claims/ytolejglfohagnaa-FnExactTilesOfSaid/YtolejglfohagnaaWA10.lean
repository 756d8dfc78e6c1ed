/- What leaves memory alone: the whole lemma. Plain lemmas: no statement of the program. -/
import Derived.Test.YtolejglfohagnaaWA9
namespace Go.Proofs.YtolejglfohagnaaW.AW
open Go Go.RowKit
set_option linter.unusedVariables false
set_option linter.unusedSimpArgs false

section
variable {P : Program} {β κ : Id → Nat} {w : World} {S : Nat → Prop} {m : Mem} {e : Operand → PV} {ρ : Operand → Value} {o : Oper} {cs : List Bool}
theorem box_cells (hm : MR w S m β κ) {i : Id} {ps : List PV} (h : m.o i = some (.box ps)) (j0 : Nat) : ∀ j p, (ps.drop j0)[j]? = some p → ∃ v, w.cell? ((⟨β i, j0, none⟩ : Addr).add j) = some v ∧ v.oneCell' = true ∧ OV β κ m.nx w S v p := by
  intro j p hp
  obtain ⟨cur, e, h1, h2, h3⟩ := hm.ob i _ h
  rw [List.getElem?_drop] at hp
  obtain ⟨a, b⟩ := h3 _ p hp
  have hj : j0 + j < cur.size := by rw [h2]; exact (List.getElem?_eq_some_iff.1 hp).1
  refine ⟨_, ?_, a, b⟩
  rw [Addr.add_lit, cell_of_row w (β i) (j0 + j) cur e (0, 0) h1]
  simp [Array.getD, hj]
theorem row_cells (hm : MR w S m β κ) {i : Id} {sz n : Nat} {g : Nat → List PV} (h : m.o i = some (.row sz n g)) {k : Nat} (hk : k < n) (j0 : Nat) : ∀ j p, ((g k).drop j0)[j]? = some p → ∃ v, w.cell? ((⟨β i, k * sz + j0, none⟩ : Addr).add j) = some v ∧ v.oneCell' = true ∧ OV β κ m.nx w S v p := by
  intro j p hp
  rcases hm.ob i _ h with ⟨_, h0⟩ | ⟨cur, e, h1, h2, h3, _, _, h6, h7⟩
  · omega
  rw [List.getElem?_drop] at hp
  obtain ⟨a, b⟩ := h7 k _ p hk hp
  have hj : j0 + j < sz := by rw [← h6 k hk]; exact (List.getElem?_eq_some_iff.1 hp).1
  have hlt : k * sz + (j0 + j) < cur.size := by
    rw [h2]
    have : (k + 1) * sz ≤ κ i * sz := Nat.mul_le_mul_right _ (by omega)
    rw [Nat.succ_mul] at this
    omega
  refine ⟨_, ?_, a, b⟩
  rw [Addr.add_lit, Nat.add_assoc, cell_of_row w (β i) _ cur e (0, 0) h1]
  simp [Array.getD, hlt]
theorem builtin_len {t : TypeId} {x : Value} {v : Value} (h : (Builtin.len_ #[t] o.type #[x]).run P w = .ok v w) {c : Call} {xo : Operand} (ho : o.op = .call c) (hc : c.callee = .builtin .len) (ha : c.args = #[xo]) (ht : c.argTypes = #[t]) (hx : ρ xo = x) : (execOp ρ o).run P w = .ok (.value v) w := by
  simp [execOp, ho, resolve, hc, ha, ht, hx, invoke, builtin, h]
theorem apure_ok (hm : MR w S m β κ) (he : ∀ x, OV β κ m.nx w S (ρ x) (e x)) (hcs : cs.all id = true) {op : Op} (ho : o.op = op) (h : (apure P cs op e m).ok) : ∃ v, (execOp ρ o).run P w = .ok (.value v) w ∧ OV β κ m.nx w S v (apure P cs op e m).v := by
  unfold apure at h ⊢
  split at h
  · exact ⟨_, by simp [execOp, ho], he _⟩
  · exact ⟨_, by simp [execOp, ho], he _⟩
  · split at h
    · exact p_pick he ho hcs (by assumption)
    · exact h.elim
  · split at h
    · exact p_not he ho (by assumption)
    · exact h.elim
  · split at h
    · exact p_neg he ho (by assumption)
    · exact h.elim
  · exact p_binOp he ho h
  · exact p_conv he ho h
  · split at h
    · exact p_extract he ho (by assumption) h
    · exact h.elim
  · -- field
    rename_i t x f
    split at h
    · rename_i off sz ft hf
      split at h
      · rename_i ps hx
        obtain ⟨hk, hoff, hl⟩ := h
        obtain ⟨fs, fd, hu, h1, rfl, rfl, rfl⟩ := fs_at hk hf
        have hv := he x
        rw [hx] at hv
        obtain ⟨vs, e1, h2, h3⟩ := hv.ag_inv
        obtain ⟨v, hr, ho2⟩ := run_part' (P := P) (t := fd.type) (vs := vs) (off := fd.offset) (qs := ps.drop fd.offset) (nx := m.nx) (by rw [h2, List.length_drop]; omega) (fun j p hp => by rw [List.getElem?_drop] at hp; exact h3 _ p hp) hl
        exact ⟨v, by simp [execOp, ho, Instr.field, run_underlying hu, h1, e1, asAgg, hr], ho2⟩
      · exact h.elim
    · exact h.elim
  · -- index
    split at h
    · rename_i s k n hx hi
      exact p_index he ho hx hi h.1 h.2.1 h.2.2
    · exact h.elim
  · -- fieldAddr
    rename_i t x f
    split at h
    · rename_i off sz ft hf
      have hv := he x
      split at h <;> rename_i hx
      · rw [hx] at hv
        obtain ⟨e1, h1⟩ := hv.bp_inv
        refine ⟨_, p_fieldAddr (w := w) ho hf h.1 h.2 e1, ?_⟩
        rw [Addr.add_lit]; exact .bp _ _ h1
      · rw [hx] at hv
        obtain ⟨e1, h1, h2⟩ := hv.pt_inv
        refine ⟨_, p_fieldAddr (w := w) ho hf h.1 h.2 e1, ?_⟩
        rw [Addr.add_lit, Nat.add_assoc]; exact .pt _ _ _ _ _ h1 h2
      · rw [hx] at hv
        obtain ⟨a, e1, h1, h2⟩ := hv.pc_inv
        refine ⟨_, p_fieldAddr (w := w) ho hf h.1 h.2 e1, .rv _ _ (RV.pc_mk (by rw [aadd_block]; exact h1) (fun j p hp => ?_))⟩
        rw [List.getElem?_drop] at hp
        obtain ⟨u, h3, h4⟩ := h2 _ p hp
        exact ⟨u, by rw [aadd_add]; exact h3, h4⟩
      · exact h.elim
    · exact h.elim
  · -- indexAddr
    rename_i t x i
    split at h
    · rename_i sz n g k ix hx hi
      have hv := he x; have hw := he i
      rw [hx] at hv; rw [hi] at hw
      obtain ⟨A, c, e1, h1, H⟩ := hv.cl_inv
      obtain ⟨k0, k1, k2, k3⟩ := h
      obtain ⟨hc, a, rfl, hS, hg⟩ := H (by omega)
      refine ⟨_, p_indexAddr (w := w) ho hw.int_inv.1 e1 k1 k2 k3, .rv _ _ (RV.pc_mk (by rw [aadd_block]; exact hS) (fun j p hp => ?_))⟩
      obtain ⟨u, h3, h4⟩ := (hg ix.toNat (by omega)).2 j p hp
      exact ⟨u, by rw [aadd_add, k0]; exact h3, h4⟩
    · rename_i i' sz n off len k ix hx hi
      have hv := he x; have hw := he i
      rw [hx] at hv; rw [hi] at hw
      obtain ⟨A, c, e1, hxx, hl, hn, hkk, hc, hA⟩ := hv.sl_inv
      obtain ⟨k0, k1, k2, k3⟩ := h
      have hAA := hA (by omega)
      subst hAA
      refine ⟨_, p_indexAddr (w := w) ho hw.int_inv.1 e1 k1 k2 k3, ?_⟩
      rw [Addr.add_lit, k0, ← Nat.add_mul]
      exact .pt _ _ _ _ 0 hxx (by omega)
    · exact h.elim
  · -- load
    rename_i t x
    have hv := he x
    split at h
    · rename_i ps hx
      rw [hx] at hv
      obtain ⟨a, e1, h1, h2⟩ := hv.pc_inv
      exact p_load ho e1 (fun j p hp => by obtain ⟨u, h3, h4, h5⟩ := h2 j p hp; exact ⟨u, h3, h4, .rv _ _ h5⟩) h
    · rename_i i j hx
      rw [hx] at hv
      obtain ⟨e1, h1⟩ := hv.bp_inv
      split at h
      · rename_i ps hb
        exact p_load ho e1 (box_cells hm hb j) h
      · exact h.elim
    · rename_i i sz n k j hx
      rw [hx] at hv
      obtain ⟨e1, h1, h2⟩ := hv.pt_inv
      split at h
      · rename_i sz' n' g hb
        obtain ⟨rfl, rfl, h3⟩ := h
        exact p_load ho e1 (row_cells hm hb h2 j) h3
      · exact h.elim
    · exact h.elim
  · -- slice
    split at h
    · rename_i h1 h2
      exact p_slice he ho h1 h2 h
    · exact h.elim
  · -- nilCheck
    rename_i x
    have hv := he x
    split at h <;> rename_i hx
    · rw [hx] at hv; exact ⟨_, by simp [execOp, ho, hv.bp_inv.1], hv.bp_inv.1 ▸ hv⟩
    · rw [hx] at hv; exact ⟨_, by simp [execOp, ho, hv.pt_inv.1], hv.pt_inv.1 ▸ hv⟩
    · rw [hx] at hv
      obtain ⟨a, e1, _⟩ := hv.pc_inv
      exact ⟨_, by simp [execOp, ho, e1], e1 ▸ hv⟩
    · rw [hx] at hv
      rename_i f ps
      have e1 : ∃ vs, ρ x = .func (.func f) #[] vs := by
        generalize ρ x = v at hv
        cases hv with
        | rv _ _ h => cases h
        | fn _ vs _ _ _ => exact ⟨vs, rfl⟩
      obtain ⟨vs, e1⟩ := e1
      exact ⟨_, by simp [execOp, ho, e1], e1 ▸ hv⟩
    · exact h.elim
  · -- makeFunc
    rename_i f fi ca
    have h' : fi = #[] := h
    subst h'
    exact ⟨_, by simp [execOp, ho, Instr.makeFunc], .fn f (ca.map ρ) _ (by simp) (fun j p hp => by
      rw [List.getElem?_map] at hp
      obtain ⟨q, h1, rfl⟩ := Option.map_eq_some_iff.1 hp
      have h2 : ca[j]? = some q := by simpa using h1
      have : (ca.map ρ).getD j undef = ρ q := by simp [Array.getD_eq_getD_getElem?, h2]
      rw [this]; exact he q)⟩
  · -- build
    rename_i t ps
    split at h
    · rename_i qs hf
      obtain ⟨hk, hz⟩ := h
      obtain ⟨fs, hu⟩ := tk_struct hk
      obtain ⟨z, hzr, hzs, hz1, hzc⟩ := zero_ok (β := β) (κ := κ) (nx := m.nx) (w := w) (S := S) hz
      have hfs : fs.all (fun f => (P.info? f.type).isSome) = true := by
        simp only [tyD, hu, Bool.and_eq_true] at hz
        exact hz.2
      have hpl := run_places (P := P) hfs w
      obtain ⟨cs', h3, h4⟩ := fill_ok (β := β) (κ := κ) (nx := m.nx) (w := w) (S := S) (fun i => (fs.map (fun f => (f.offset, P.cellsOf f.type)))[i]?) (tyD P t).fs (fun i off sz ft hi => by
        obtain ⟨fs', fd, hu', h1, rfl, rfl, rfl⟩ := fs_at hk hi
        rw [hu] at hu'
        cases hu'
        simp [h1]) (ps.toList.map (fun x => (x.1, ρ x.2))) (ps.toList.map (fun x => (x.1, e x.2))) z.cells (tyD P t).zc qs (by simp) (fun j i q hq => by
          rw [List.getElem?_map] at hq
          obtain ⟨x, h5, h6⟩ := Option.map_eq_some_iff.1 hq
          simp only [Prod.mk.injEq] at h6
          obtain ⟨rfl, rfl⟩ := h6
          exact ⟨ρ x.2, by rw [List.getElem?_map, h5]; rfl, he _⟩) hzc hf
      refine ⟨.agg cs', ?_, .ag _ _ h4.1 (fun j p hp => (h4.2 j p hp).1) (fun j p hp => (h4.2 j p hp).2)⟩
      have e2 : (ps.map (fun x => (x.1, ρ x.2))).toList = ps.toList.map (fun x => (x.1, ρ x.2)) := by simp
      have e3 : (zeroValue t).run P w = .ok z w := hzr w
      have hpl2 : (Array.mapM (fun f : Field => Prod.mk f.offset <$> sizeOf f.type) fs).run P w = .ok (fs.map (fun f => (f.offset, P.cellsOf f.type))) w := by simpa using hpl
      simp only [Array.getElem?_map] at h3
      simp [execOp, ho, Instr.build, run_underlying hu, hpl2, e3, h3]
    · exact h.elim
  · -- builtins
    rename_i c
    split at h
    · rename_i hc
      split at h
      · rename_i x t ha ht
        have ha' : c.args = #[x] := by rw [← Array.toArray_toList (xs := c.args), ha]
        have ht' : c.argTypes = #[t] := by rw [← Array.toArray_toList (xs := c.argTypes), ht]
        have hv := he x
        unfold alen at h ⊢
        split at h <;> rename_i hx <;> (try exact h.elim) <;> rw [hx] at hv
        · obtain ⟨e1, h1⟩ := hv.str_inv
          exact ⟨_, builtin_len (v := goInt _) (by simp [Builtin.len_, run_underlying (tk_string h)]) ho hc ha' ht' e1, .int_mk (by rw [show IntKind.i64.min = -9223372036854775808 from rfl, show IntKind.i64.max = 9223372036854775807 from rfl]; omega)⟩
        all_goals obtain ⟨el, i0, z, hu, _⟩ := el_of h
        · obtain ⟨A, c', e1, h1, H⟩ := hv.cl_inv
          rename_i sz n g _
          exact ⟨_, builtin_len (v := goInt n) (by simp [Builtin.len_, run_underlying hu]) ho hc ha' ht' e1, .int_mk (by
            rw [show IntKind.i64.min = -9223372036854775808 from rfl, show IntKind.i64.max = 9223372036854775807 from rfl]
            rcases Nat.eq_zero_or_pos n with h0 | h0
            · omega
            · have := (H h0).1; omega)⟩
        · obtain ⟨A, c', e1, h1, h2, h3, h4, h5, h6⟩ := hv.sl_inv
          rename_i i sz n off len _
          exact ⟨_, builtin_len (v := goInt len) (by simp [Builtin.len_, run_underlying hu]) ho hc ha' ht' e1, .int_mk (by
            rw [show IntKind.i64.min = -9223372036854775808 from rfl, show IntKind.i64.max = 9223372036854775807 from rfl]
            omega)⟩
        · exact ⟨_, builtin_len (v := goInt 0) (by simp [Builtin.len_, run_underlying hu]) ho hc ha' ht' hv.nils_inv, .int_mk (by decide)⟩
      · exact h.elim
    · rename_i hc
      split at h
      · rename_i x y ha
        have ha' : c.args = #[x, y] := by rw [← Array.toArray_toList (xs := c.args), ha]
        split at h
        · rename_i k a k' b hx hy
          have h' : k = k' := h
          subst h'
          have h1 := he x; have h2 := he y
          rw [hx] at h1; rw [hy] at h2
          refine ⟨.int k (if b > a then b else a), ?_, .int_mk ?_⟩
          · have := run_max_int2 (P := P) w c.argTypes o.type k k a b
            simp [execOp, ho, resolve, hc, ha', h1.int_inv.1, h2.int_inv.1, invoke, builtin, this]
          · have := h1.int_inv.2; have := h2.int_inv.2; split <;> omega
        · exact h.elim
      · exact h.elim
    · rename_i hc
      split at h
      · rename_i x y ha
        have ha' : c.args = #[x, y] := by rw [← Array.toArray_toList (xs := c.args), ha]
        split at h
        · rename_i k a k' b hx hy
          have h' : k = k' := h
          subst h'
          have h1 := he x; have h2 := he y
          rw [hx] at h1; rw [hy] at h2
          refine ⟨.int k (if b < a then b else a), ?_, .int_mk ?_⟩
          · have := run_min_int2 (P := P) w c.argTypes o.type k k a b
            simp [execOp, ho, resolve, hc, ha', h1.int_inv.1, h2.int_inv.1, invoke, builtin, this]
          · have := h1.int_inv.2; have := h2.int_inv.2; split <;> omega
        · exact h.elim
      · exact h.elim
    · exact h.elim
  · exact h.elim
end
end Go.Proofs.YtolejglfohagnaaW.AW
