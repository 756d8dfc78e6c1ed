/- What leaves memory alone: the whole lemma. Plain lemmas: no statement of the program. -/
import Derived.Test.YtolejglfohagnaaWB9
import Derived.Laws.IdiomStrings
import Derived.Laws.BytesArg
namespace Go.Proofs.YtolejglfohagnaaW.AW
open Go Go.RowKit
set_option linter.unusedVariables false
set_option linter.unusedSimpArgs false

section
variable {P : Program} {β κ : Id → Nat} {A : Id → Nat → Prop} {w : World} {S : Nat → Prop} {m : Mem} {D : Id → Prop} {e : Operand → PV} {ρ : Operand → Value} {o : Oper} {cs : List Bool}
theorem TV.ov {D : Id → Prop} {F : Nat → Prop} {v : Value} {p : PV} (h : TV β κ D w S F v p) (hp : p.isOw = false) : OV β κ D w S v p := by
  rcases h with ⟨h, _⟩ | h
  · exact h
  · cases h with
    | rv _ _ _ h _ => exact .rv _ _ h
    | no _ _ _ _ _ => cases hp
    | ow => cases hp
theorem blk_cells {D : Id → Prop} {A : Nat → Prop} {b sz n c : Nat} {g : Nat → List PV} (h : Blk β κ D w S A b sz n c g) {k : Nat} (hk : k < n) (j0 : Nat) : ∀ j p, ((g k).drop j0)[j]? = some p → ∃ v, w.cell? ((⟨b, k * sz + j0, none⟩ : Addr).add j) = some v ∧ v.oneCell' = true ∧ (p.isOw = false → OV β κ D w S v p) := by
  intro j p hp
  obtain ⟨cur, e, fz, F, h1, hz, h2, h3, h4, h5, h6⟩ := h
  rw [List.getElem?_drop] at hp
  obtain ⟨a, b'⟩ := h6 k _ p hk hp
  have hj : j0 + j < sz := by rw [← h4 k hk]; exact (List.getElem?_eq_some_iff.1 hp).1
  have hlt : k * sz + (j0 + j) < cur.size := by
    rw [h2]
    have : (k + 1) * sz ≤ c * sz := Nat.mul_le_mul_right _ (by omega)
    rw [Nat.succ_mul] at this
    omega
  refine ⟨_, ?_, a, b'.ov⟩
  rw [Addr.add_lit, Nat.add_assoc, cell_of_row w b _ cur e fz h1]
  simp [Array.getD, hlt]
theorem box_cells (hm : MRD w S D m β κ A) {i : Id} {ps : List PV} (h : m.o i = some (.box ps)) (j0 : Nat) : ∀ j p, (ps.drop j0)[j]? = some p → ∃ v, w.cell? ((⟨β i, j0, none⟩ : Addr).add j) = some v ∧ v.oneCell' = true ∧ (p.isOw = false → OV β κ D w S v p) := by
  have := blk_cells (hm.ob i _ h) (k := 0) Nat.zero_lt_one j0
  simpa using this
theorem row_cells (hm : MRD w S D m β κ A) {i : Id} {sz n : Nat} {g : Nat → List PV} (h : m.o i = some (.row sz n g)) {k : Nat} (hk : k < n) (j0 : Nat) : ∀ j p, ((g k).drop j0)[j]? = some p → ∃ v, w.cell? ((⟨β i, k * sz + j0, none⟩ : Addr).add j) = some v ∧ v.oneCell' = true ∧ (p.isOw = false → OV β κ D w S v p) := by
  rcases hm.ob i _ h with ⟨_, h0, _⟩ | ⟨_, _, _, h1⟩
  · omega
  exact blk_cells h1 hk j0
theorem zval_ok {D : Id → Prop} {t : TypeId} (h : (tyD P t).zvk = true) : ∃ z, (∀ w, (zeroValue t).run P w = .ok z w) ∧ OV β κ D w S z (tyD P t).zv := by
  cases hi : P.info? t with
  | none => simp [tyD, hi] at h
  | some i =>
    cases hz : i.zero with
    | none => simp [tyD, hi, hz] at h
    | some z =>
      refine ⟨z, fun w => by simp [zeroValue, typeInfo, hi, hz], ?_⟩
      have e : (tyD P t).zv = zval P t := rfl
      rw [e]
      simp only [zval, hi, hz, Option.bind_some]
      cases z
      case agg cs =>
        simp only [tyD, hi, hz, Option.bind_some] at h
        refine .ag cs _ (by simp) (fun j p hp => ?_) (fun j p hp => ?_)
        all_goals
          rw [List.getElem?_map] at hp
          obtain ⟨v, hv, rfl⟩ := Option.map_eq_some_iff.1 hp
          have hv' : cs[j]? = some v := by simpa using hv
          have e2 : cs.getD j undef = v := by simp [Array.getD_eq_getD_getElem?, hv']
          rw [e2]
        · exact (Array.all_eq_true_iff_forall_mem.1 h) v (Array.mem_of_getElem? hv')
        · exact ofVal_ok
      all_goals exact ofVal_ok
theorem tk_map {t : TypeId} {kt et : TypeId} (h : tk P t = .map kt et) : P.underlying t = some (.map kt et) := by
  unfold tk at h
  split at h <;> first | (cases h; assumption) | cases h
theorem Ents.isKey {ents : Array MapEntry} {clock : Nat} {f : Int → Option PV} (h : Ents w S ents clock f) : ∀ x ∈ ents.toList, MapKept.IsKey (.int .i64) x.key := fun x hx => by
  obtain ⟨k, p, h1, _⟩ := h.key x hx
  rw [h1]; rfl
theorem Ents.find {ents : Array MapEntry} {clock : Nat} {f : Int → Option PV} (h : Ents w S ents clock f) (k : Int) :
    (Instr.findNow (.int .i64) (.int .i64 k) ents.toList 0 = some none ∧ f k = none ∧ ∀ x ∈ ents.toList, x.key ≠ .int .i64 k) ∨ ∃ (i : Nat) (e : MapEntry) (p : PV), Instr.findNow (.int .i64) (.int .i64 k) ents.toList 0 = some (some (i, e.val)) ∧ ents.toList[i]? = some e ∧ e.key = .int .i64 k ∧ f k = some p ∧ RV w S e.val p := by
  rcases MapKept.findNow_spec (d := .int .i64) (k := .int .i64 k) rfl ents.toList 0 h.isKey with ⟨h1, h2⟩ | ⟨j, e, h1, h2, h3⟩
  · refine .inl ⟨h1, ?_, h2⟩
    cases hf : f k with
    | none => rfl
    | some p => obtain ⟨e, he, hk⟩ := h.all k p hf; exact absurd hk (h2 e he)
  · obtain ⟨k', p, a1, _, a2, a3⟩ := h.key e (List.mem_of_getElem? h2)
    rw [h3] at a1
    cases a1
    exact .inr ⟨j, e, p, by simpa using h1, h2, h3, a2, a3⟩
theorem tkU8_spec {t : TypeId} (h : tkU8 P t) : ∃ e, P.underlying t = some (.slice e) ∧ P.underlying e = some (.int .u8) := by
  unfold tkU8 at h
  split at h
  · rename_i e he
    refine ⟨e, ?_, tk_int h⟩
    unfold tk at he
    split at he <;> first | (cases he; assumption) | cases he
  · exact h.elim
theorem conv_bytes {s d : TypeId} (h1 : tkU8 P s) (h2 : tk P d = .string) {A : Option Addr} {n c : Nat} {g : Nat → List PV} (h : 0 < n → ∃ a, A = some a ∧ ∀ i, i < n → ∃ x : Int, w.cell? (a.add i) = some (.int .u8 x) ∧ 0 ≤ x ∧ x ≤ 255 ∧ g i = [.int .u8 x]) :
    (convert s d (.slice A n c)).run P w = .ok (.string (bytesG n g)) w := by
  obtain ⟨e, hs, he⟩ := tkU8_spec h1
  have hd := tk_string h2
  cases A with
  | none =>
    have hn : n = 0 := by
      rcases Nat.eq_zero_or_pos n with h0 | h0
      · exact h0
      · obtain ⟨a, ha, _⟩ := h h0; cases ha
    subst hn
    rw [run_convert_bytes_nil w s e hs he 0 c d hd]; rfl
  | some a =>
    have hl : ((List.range n).map (fun i => byteAt (g i))).length = n := by simp
    have := run_convert_bytes_back w s d e a c ((List.range n).map (fun i => byteAt (g i))) hs he hd (fun j hj => by
      have hj' : j < n := by rw [hl] at hj; exact hj
      obtain ⟨a', ha, hx⟩ := h (by omega)
      cases ha
      obtain ⟨x, e1, e2, e3, e4⟩ := hx j hj'
      rw [e1]
      simp [e4, byteAt]
      have : x.toNat < 256 := by omega
      omega)
    rw [hl] at this
    exact this
theorem bytesG_size (n : Nat) (g : Nat → List PV) : (bytesG n g).size = n := by simp [bytesG, ByteArray.size]
theorem p_convM (hm : MRD w S D m β κ A) (he : ∀ x, OV β κ D w S (ρ x) (e x)) {s d : TypeId} {x : Operand} (ho : o.op = .convert s d x) (h : (aconvM P s d m (e x)).ok) : ∃ v, (execOp ρ o).run P w = .ok (.value v) w ∧ OV β κ D w S v (aconvM P s d m (e x)).v := by
  have key : ∀ A n c g, ρ x = .slice A n c → tkU8 P s → tk P d = .string → n ≤ 9223372036854775807 → (0 < n → ∃ a, A = some a ∧ ∀ i, i < n → ∃ x : Int, w.cell? (a.add i) = some (.int .u8 x) ∧ 0 ≤ x ∧ x ≤ 255 ∧ g i = [.int .u8 x]) →
      ∃ v, (execOp ρ o).run P w = .ok (.value v) w ∧ OV β κ D w S v (.str (bytesG n g)) := fun A n c g e1 h1 h2 h3 h4 =>
    ⟨_, by simp only [execOp, ho, e1, Sem.run_bind, conv_bytes h1 h2 h4]; rfl, .str_mk (by rw [bytesG_size]; exact h3)⟩
  have hx := he x
  unfold aconvM at h ⊢
  split at h
  · rename_i n g hq
    rw [hq] at hx
    obtain ⟨A', c, e1, hn, H⟩ := hx.cl_inv
    obtain ⟨h1, h2, h3⟩ := h
    refine key A' n c g e1 h1 h2 ?_ (fun h0 => ?_)
    · rcases Nat.eq_zero_or_pos n with h0 | h0
      · omega
      · have := (H h0).1; omega
    · obtain ⟨_, a, ha, _, hc⟩ := H h0
      refine ⟨a, ha, fun i hi => ?_⟩
      obtain ⟨y, hy⟩ := h3 i hi
      obtain ⟨u, u1, _, u3⟩ := (hc i hi).2 0 (.int .u8 y) (by rw [hy]; rfl)
      cases u3 with
      | int _ _ hb =>
        rw [show IntKind.u8.min = 0 from rfl, show IntKind.u8.max = 255 from rfl] at hb
        exact ⟨y, by simpa using u1, hb.1, hb.2, hy⟩
  · rename_i hq
    rw [hq] at hx
    obtain ⟨h1, h2⟩ := h
    exact key none 0 0 (fun _ => []) hx.nils_inv h1 h2 (Nat.zero_le _) (fun h => absurd h (Nat.lt_irrefl 0))
  · rename_i i n off len hq
    rw [hq] at hx
    obtain ⟨A', c, e1, hxx, hl, hn, hkk, hc, hA⟩ := hx.sl_inv
    split at h
    · rename_i n' g hb
      obtain ⟨rfl, h1, h2, h3⟩ := h
      refine key A' len c (fun i => g (off + i)) e1 h1 h2 (by omega) (fun h0 => ?_)
      refine ⟨_, hA (by omega), fun j hj => ?_⟩
      obtain ⟨y, hy⟩ := h3 j hj
      obtain ⟨u, u1, _, u3⟩ := row_cells hm hb (k := off + j) (by omega) 0 0 (.int .u8 y) (by simp [hy])
      obtain ⟨rfl, hbb⟩ := (u3 rfl).int_inv
      rw [show IntKind.u8.min = 0 from rfl, show IntKind.u8.max = 255 from rfl] at hbb
      refine ⟨y, ?_, hbb.1, hbb.2, hy⟩
      rw [Addr.add_lit] at u1 ⊢
      rw [← u1]; congr 2; omega
    · exact h.elim
  · exact p_conv he ho h
theorem builtin_len {t : TypeId} {x : Value} {v : Value} (h : (Builtin.len_ #[t] o.type #[x]).run P w = .ok v w) {c : Call} {xo : Operand} (ho : o.op = .call c) (hc : c.callee = .builtin .len) (ha : c.args = #[xo]) (ht : c.argTypes = #[t]) (hx : ρ xo = x) : (execOp ρ o).run P w = .ok (.value v) w := by
  simp [execOp, ho, resolve, hc, ha, ht, hx, invoke, builtin, h]
theorem apure_ok (hm : MRD w S D m β κ A) (he : ∀ x, OV β κ D w S (ρ x) (e x)) (hcs : cs.all id = true) {op : Op} (ho : o.op = op) (h : (apure P cs op e m).ok) : ∃ v, (execOp ρ o).run P w = .ok (.value v) w ∧ OV β κ D w S v (apure P cs op e m).v := by
  unfold apure at h ⊢
  split at h
  · exact ⟨_, by simp [execOp, ho], he _⟩
  · exact ⟨_, by simp [execOp, ho], he _⟩
  · split at h
    · exact p_pick he ho hcs (by assumption)
    · exact h.elim
  · split at h
    · exact p_not he ho (by assumption)
    · exact h.elim
  · split at h
    · exact p_neg he ho (by assumption)
    · exact h.elim
  · exact p_binOp he ho h
  · exact p_convM hm he ho h
  · split at h
    · exact p_extract he ho (by assumption) h
    · exact h.elim
  · -- field
    rename_i t x f
    split at h
    · rename_i off sz ft hf
      split at h
      · rename_i ps hx
        obtain ⟨hk, hoff, hl⟩ := h
        obtain ⟨fs, fd, hu, h1, rfl, rfl, rfl⟩ := fs_at hk hf
        have hv := he x
        rw [hx] at hv
        obtain ⟨vs, e1, h2, h3⟩ := hv.ag_inv
        obtain ⟨v, hr, ho2⟩ := run_part' (P := P) (t := fd.type) (vs := vs) (off := fd.offset) (qs := ps.drop fd.offset) (D := D) (by rw [h2, List.length_drop]; omega) (fun j p hp => by rw [List.getElem?_drop] at hp; exact h3 _ p hp) hl
        exact ⟨v, by simp [execOp, ho, Instr.field, run_underlying hu, h1, e1, asAgg, hr], ho2⟩
      · exact h.elim
    · exact h.elim
  · -- index
    split at h
    · rename_i s k n hx hi
      exact p_index he ho hx hi h.1 h.2.1 h.2.2
    · exact h.elim
  · -- fieldAddr
    rename_i t x f
    split at h
    · rename_i off sz ft hf
      have hv := he x
      split at h <;> rename_i hx
      · rw [hx] at hv
        obtain ⟨e1, h1⟩ := hv.bp_inv
        refine ⟨_, p_fieldAddr (w := w) ho hf h.1 h.2 e1, ?_⟩
        rw [Addr.add_lit]; exact .bp _ _ h1
      · rw [hx] at hv
        obtain ⟨e1, h1, h2⟩ := hv.pt_inv
        refine ⟨_, p_fieldAddr (w := w) ho hf h.1 h.2 e1, ?_⟩
        rw [Addr.add_lit, Nat.add_assoc]; exact .pt _ _ _ _ _ h1 h2
      · rw [hx] at hv
        obtain ⟨a, e1, h1, h2⟩ := hv.pc_inv
        refine ⟨_, p_fieldAddr (w := w) ho hf h.1 h.2 e1, .rv _ _ (RV.pc_mk (by rw [aadd_block]; exact h1) (fun j p hp => ?_))⟩
        rw [List.getElem?_drop] at hp
        obtain ⟨u, h3, h4⟩ := h2 _ p hp
        exact ⟨u, by rw [aadd_add]; exact h3, h4⟩
      · exact h.elim
    · exact h.elim
  · -- indexAddr
    rename_i t x i
    split at h
    · rename_i sz n g k ix hx hi
      have hv := he x; have hw := he i
      rw [hx] at hv; rw [hi] at hw
      obtain ⟨A, c, e1, h1, H⟩ := hv.cl_inv
      obtain ⟨k0, k1, k2, k3⟩ := h
      obtain ⟨hc, a, rfl, hS, hg⟩ := H (by omega)
      refine ⟨_, p_indexAddr (w := w) ho hw.int_inv.1 e1 k1 k2 k3, .rv _ _ (RV.pc_mk (by rw [aadd_block]; exact hS) (fun j p hp => ?_))⟩
      obtain ⟨u, h3, h4⟩ := (hg ix.toNat (by omega)).2 j p hp
      exact ⟨u, by rw [aadd_add, k0]; exact h3, h4⟩
    · rename_i i' sz n off len k ix hx hi
      have hv := he x; have hw := he i
      rw [hx] at hv; rw [hi] at hw
      obtain ⟨A, c, e1, hxx, hl, hn, hkk, hc, hA⟩ := hv.sl_inv
      obtain ⟨k0, k1, k2, k3⟩ := h
      have hAA := hA (by omega)
      subst hAA
      refine ⟨_, p_indexAddr (w := w) ho hw.int_inv.1 e1 k1 k2 k3, ?_⟩
      rw [Addr.add_lit, k0, ← Nat.add_mul]
      exact .pt _ _ _ _ 0 hxx (by omega)
    · exact h.elim
  · -- load
    rename_i t x
    have hv := he x
    split at h
    · rename_i ps hx
      rw [hx] at hv
      obtain ⟨a, e1, h1, h2⟩ := hv.pc_inv
      exact p_load ho e1 (fun j p hp => by obtain ⟨u, h3, h4, h5⟩ := h2 j p hp; exact ⟨u, h3, h4, fun _ => .rv _ _ h5⟩) (ldo_of h (fun p hp => by obtain ⟨j, hj⟩ := List.getElem?_of_mem hp; obtain ⟨u, _, _, h5⟩ := h2 j p hj; exact h5.nOw))
    · rename_i i j hx
      rw [hx] at hv
      obtain ⟨e1, h1⟩ := hv.bp_inv
      split at h
      · rename_i ps hb
        exact p_load ho e1 (box_cells hm hb j) h
      · exact h.elim
    · rename_i i sz n k j hx
      rw [hx] at hv
      obtain ⟨e1, h1, h2⟩ := hv.pt_inv
      split at h
      · rename_i sz' n' g hb
        obtain ⟨rfl, rfl, h3⟩ := h
        exact p_load ho e1 (row_cells hm hb h2 j) h3
      · exact h.elim
    · exact h.elim
  · -- slice
    split at h
    · rename_i h1 h2
      exact p_slice he ho h1 h2 h
    · exact h.elim
  · -- lookup
    rename_i t x i ok
    split at h
    · rename_i q k hx hi
      have hv := he x; have hw := he i
      rw [hx] at hv; rw [hi] at hw
      obtain ⟨e1, h1⟩ := hv.mp_inv
      split at h
      · rename_i f hf
        split at h
        · rename_i kt et ht
          obtain ⟨hkt, hz⟩ := h
          obtain ⟨z, hzr, hzo⟩ := zval_ok (β := β) (κ := κ) (D := D) (w := w) (S := S) hz
          obtain ⟨_, ents, clock, a1, a2⟩ := hm.ob _ _ hf
          have hu := tk_map (P := P) (t := t) ht
          have hku := tk_int hkt
          have hck : (Instr.checkKey ents.isEmpty 10000 kt (.int .i64 k)).run P w = .ok () w := MapKept.run_checkKey hku (k := .int .i64 k) rfl _ 9999
          have hg : (getObj (β q)).run P w = .ok (.map ents clock) w := MapKept.run_getObj_map a1
          have fin : ∀ v, (Instr.lookup t (ρ x) (ρ i) ok).run P w = .ok (if ok = true then .tuple #[v, .bool (f k).isSome] else v) w → OV β κ D w S v ((f k).getD (tyD P et).zv) →
              ∃ v, (execOp ρ o).run P w = .ok (.value v) w ∧ OV β κ D w S v (if ok = true then .tu [(f k).getD (tyD P et).zv, .bool (f k).isSome] else (f k).getD (tyD P et).zv) := by
            intro v r1 ho'
            refine ⟨_, by simp only [execOp, ho, Sem.run_bind, r1]; rfl, ?_⟩
            cases ok
            · exact ho'
            · refine .tu _ _ rfl (fun j p hp => ?_)
              match j, hp with
              | 0, hp => simp at hp; subst hp; exact ho'
              | 1, hp => simp at hp; subst hp; exact .bool_mk
          rcases a2.find k with ⟨b1, b2, _⟩ | ⟨i', e', p, b1, _, _, b2, b3⟩
          · refine fin z ?_ (by rw [b2]; exact hzo)
            have hfk := MapKept.run_findKey (w := w) hku b1
            rw [e1, hw.int_inv.1]
            simp only [Instr.lookup, Sem.run_bind, run_underlying hu, hg, hck, hfk, Result.andThen_ok, hzr, b2]
            cases ok <;> simp [hzr, hck, hfk]
          · refine fin e'.val ?_ (by rw [b2]; exact .rv _ _ b3)
            have hfk := MapKept.run_findKey (w := w) hku b1
            rw [e1, hw.int_inv.1]
            simp only [Instr.lookup, Sem.run_bind, run_underlying hu, hg, hck, hfk, Result.andThen_ok, hzr, b2]
            cases ok <;> simp [hzr, hck, hfk]
        · exact h.elim
      · exact h.elim
    · exact h.elim
  · -- nilCheck
    rename_i x
    have hv := he x
    split at h <;> rename_i hx
    · rw [hx] at hv; exact ⟨_, by simp [execOp, ho, hv.bp_inv.1], hv.bp_inv.1 ▸ hv⟩
    · rw [hx] at hv; exact ⟨_, by simp [execOp, ho, hv.pt_inv.1], hv.pt_inv.1 ▸ hv⟩
    · rw [hx] at hv
      obtain ⟨a, e1, _⟩ := hv.pc_inv
      exact ⟨_, by simp [execOp, ho, e1], e1 ▸ hv⟩
    · rw [hx] at hv
      rename_i f ps
      have e1 : ∃ vs, ρ x = .func (.func f) #[] vs := by
        generalize ρ x = v at hv
        cases hv with
        | rv _ _ h => cases h
        | fn _ vs _ _ _ => exact ⟨vs, rfl⟩
      obtain ⟨vs, e1⟩ := e1
      exact ⟨_, by simp [execOp, ho, e1], e1 ▸ hv⟩
    · exact h.elim
  · -- makeFunc
    rename_i f fi ca
    have h' : fi = #[] := h
    subst h'
    exact ⟨_, by simp [execOp, ho, Instr.makeFunc], .fn f (ca.map ρ) _ (by simp) (fun j p hp => by
      rw [List.getElem?_map] at hp
      obtain ⟨q, h1, rfl⟩ := Option.map_eq_some_iff.1 hp
      have h2 : ca[j]? = some q := by simpa using h1
      have : (ca.map ρ).getD j undef = ρ q := by simp [Array.getD_eq_getD_getElem?, h2]
      rw [this]; exact he q)⟩
  · -- build
    rename_i t ps
    split at h
    · rename_i qs hf
      obtain ⟨hk, hz⟩ := h
      obtain ⟨fs, hu⟩ := tk_struct hk
      obtain ⟨z, hzr, hzs, hz1, hzc⟩ := zero_ok (β := β) (κ := κ) (D := D) (w := w) (S := S) hz
      have hfs : fs.all (fun f => (P.info? f.type).isSome) = true := by
        simp only [tyD, hu, Bool.and_eq_true] at hz
        exact hz.2
      have hpl := run_places (P := P) hfs w
      obtain ⟨cs', h3, h4⟩ := fill_ok (β := β) (κ := κ) (D := D) (w := w) (S := S) (fun i => (fs.map (fun f => (f.offset, P.cellsOf f.type)))[i]?) (tyD P t).fs (fun i off sz ft hi => by
        obtain ⟨fs', fd, hu', h1, rfl, rfl, rfl⟩ := fs_at hk hi
        rw [hu] at hu'
        cases hu'
        simp [h1]) (ps.toList.map (fun x => (x.1, ρ x.2))) (ps.toList.map (fun x => (x.1, e x.2))) z.cells (tyD P t).zc qs (by simp) (fun j i q hq => by
          rw [List.getElem?_map] at hq
          obtain ⟨x, h5, h6⟩ := Option.map_eq_some_iff.1 hq
          simp only [Prod.mk.injEq] at h6
          obtain ⟨rfl, rfl⟩ := h6
          exact ⟨ρ x.2, by rw [List.getElem?_map, h5]; rfl, he _⟩) hzc hf
      refine ⟨.agg cs', ?_, .ag _ _ h4.1 (fun j p hp => (h4.2 j p hp).1) (fun j p hp => (h4.2 j p hp).2)⟩
      have e2 : (ps.map (fun x => (x.1, ρ x.2))).toList = ps.toList.map (fun x => (x.1, ρ x.2)) := by simp
      have e3 : (zeroValue t).run P w = .ok z w := hzr w
      have hpl2 : (Array.mapM (fun f : Field => Prod.mk f.offset <$> sizeOf f.type) fs).run P w = .ok (fs.map (fun f => (f.offset, P.cellsOf f.type))) w := by simpa using hpl
      simp only [Array.getElem?_map] at h3
      simp [execOp, ho, Instr.build, run_underlying hu, hpl2, e3, h3]
    · exact h.elim
  · -- builtins
    rename_i c
    split at h
    · rename_i hc
      split at h
      · rename_i x t ha ht
        have ha' : c.args = #[x] := by rw [← Array.toArray_toList (xs := c.args), ha]
        have ht' : c.argTypes = #[t] := by rw [← Array.toArray_toList (xs := c.argTypes), ht]
        have hv := he x
        unfold alen at h ⊢
        split at h <;> rename_i hx <;> (try exact h.elim) <;> rw [hx] at hv
        · obtain ⟨e1, h1⟩ := hv.str_inv
          exact ⟨_, builtin_len (v := goInt _) (by simp [Builtin.len_, run_underlying (tk_string h)]) ho hc ha' ht' e1, .int_mk (by rw [show IntKind.i64.min = -9223372036854775808 from rfl, show IntKind.i64.max = 9223372036854775807 from rfl]; omega)⟩
        all_goals obtain ⟨el, i0, z, hu, _⟩ := el_of h
        · obtain ⟨A, c', e1, h1, H⟩ := hv.cl_inv
          rename_i sz n g _
          exact ⟨_, builtin_len (v := goInt n) (by simp [Builtin.len_, run_underlying hu]) ho hc ha' ht' e1, .int_mk (by
            rw [show IntKind.i64.min = -9223372036854775808 from rfl, show IntKind.i64.max = 9223372036854775807 from rfl]
            rcases Nat.eq_zero_or_pos n with h0 | h0
            · omega
            · have := (H h0).1; omega)⟩
        · obtain ⟨A, c', e1, h1, h2, h3, h4, h5, h6⟩ := hv.sl_inv
          rename_i i sz n off len _
          exact ⟨_, builtin_len (v := goInt len) (by simp [Builtin.len_, run_underlying hu]) ho hc ha' ht' e1, .int_mk (by
            rw [show IntKind.i64.min = -9223372036854775808 from rfl, show IntKind.i64.max = 9223372036854775807 from rfl]
            omega)⟩
        · exact ⟨_, builtin_len (v := goInt 0) (by simp [Builtin.len_, run_underlying hu]) ho hc ha' ht' hv.nils_inv, .int_mk (by decide)⟩
      · exact h.elim
    · rename_i hc
      split at h
      · rename_i x y ha
        have ha' : c.args = #[x, y] := by rw [← Array.toArray_toList (xs := c.args), ha]
        split at h
        · rename_i k a k' b hx hy
          have h' : k = k' := h
          subst h'
          have h1 := he x; have h2 := he y
          rw [hx] at h1; rw [hy] at h2
          refine ⟨.int k (if b > a then b else a), ?_, .int_mk ?_⟩
          · have := run_max_int2 (P := P) w c.argTypes o.type k k a b
            simp [execOp, ho, resolve, hc, ha', h1.int_inv.1, h2.int_inv.1, invoke, builtin, this]
          · have := h1.int_inv.2; have := h2.int_inv.2; split <;> omega
        · exact h.elim
      · exact h.elim
    · rename_i hc
      split at h
      · rename_i x y ha
        have ha' : c.args = #[x, y] := by rw [← Array.toArray_toList (xs := c.args), ha]
        split at h
        · rename_i k a k' b hx hy
          have h' : k = k' := h
          subst h'
          have h1 := he x; have h2 := he y
          rw [hx] at h1; rw [hy] at h2
          refine ⟨.int k (if b < a then b else a), ?_, .int_mk ?_⟩
          · have := run_min_int2 (P := P) w c.argTypes o.type k k a b
            simp [execOp, ho, resolve, hc, ha', h1.int_inv.1, h2.int_inv.1, invoke, builtin, this]
          · have := h1.int_inv.2; have := h2.int_inv.2; split <;> omega
        · exact h.elim
      · exact h.elim
    · exact h.elim
  · exact h.elim
end
end Go.Proofs.YtolejglfohagnaaW.AW
