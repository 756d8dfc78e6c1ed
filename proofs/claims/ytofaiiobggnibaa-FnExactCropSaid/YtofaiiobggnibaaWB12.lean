/- What leaves memory alone: the whole lemma. Plain lemmas: no statement of the program. -/
import Derived.Test.YtofaiiobggnibaaWB9
import Derived.Laws.IdiomStrings
import Derived.Laws.BytesArg
import Derived.Deep.AppendSrc
namespace Go.Proofs.YtofaiiobggnibaaW.AW
open Go Go.RowKit
set_option linter.unusedVariables false
set_option linter.unusedSimpArgs false

section
variable {P : Program} {β κ : Id → Nat} {A : Id → Nat → Prop} {w : World} {S : Nat → Prop} {m : Mem} {D : Id → Prop} {e : Operand → PV} {ρ : Operand → Value} {o : Oper} {cs : List Bool}
theorem TV.ov {D : Id → Prop} {F : Nat → Prop} {v : Value} {p : PV} (h : TV β κ D w S F v p) (hp : p.isOw = false) : OV β κ D w S v p := by
  rcases h with ⟨h, _⟩ | h
  · exact h
  · cases h with
    | rv _ _ _ h _ => exact .rv _ _ h
    | no _ _ _ _ _ => cases hp
    | ow => cases hp
theorem blk_cells {D : Id → Prop} {A : Nat → Prop} {b sz n c : Nat} {g : Nat → List PV} (h : Blk β κ D w S A b sz n c g) {k : Nat} (hk : k < n) (j0 : Nat) : ∀ j p, ((g k).drop j0)[j]? = some p → ∃ v, w.cell? ((⟨b, k * sz + j0, none⟩ : Addr).add j) = some v ∧ v.oneCell' = true ∧ (p.isOw = false → OV β κ D w S v p) := by
  intro j p hp
  obtain ⟨cur, e, fz, F, h1, hz, h2, h3, h4, h5, h6⟩ := h
  rw [List.getElem?_drop] at hp
  obtain ⟨a, b'⟩ := h6 k _ p hk hp
  have hj : j0 + j < sz := by rw [← h4 k hk]; exact (List.getElem?_eq_some_iff.1 hp).1
  have hlt : k * sz + (j0 + j) < cur.size := by
    rw [h2]
    have : (k + 1) * sz ≤ c * sz := Nat.mul_le_mul_right _ (by omega)
    rw [Nat.succ_mul] at this
    omega
  refine ⟨_, ?_, a, b'.ov⟩
  rw [Addr.add_lit, Nat.add_assoc, cell_of_row w b _ cur e fz h1]
  simp [Array.getD, hlt]
theorem box_cells (hm : MRD w S D m β κ A) {i : Id} {ps : List PV} (h : m.o i = some (.box ps)) (j0 : Nat) : ∀ j p, (ps.drop j0)[j]? = some p → ∃ v, w.cell? ((⟨β i, j0, none⟩ : Addr).add j) = some v ∧ v.oneCell' = true ∧ (p.isOw = false → OV β κ D w S v p) := by
  have := blk_cells (hm.ob i _ h) (k := 0) Nat.zero_lt_one j0
  simpa using this
theorem row_cells (hm : MRD w S D m β κ A) {i : Id} {sz n : Nat} {g : Nat → List PV} (h : m.o i = some (.row sz n g)) {k : Nat} (hk : k < n) (j0 : Nat) : ∀ j p, ((g k).drop j0)[j]? = some p → ∃ v, w.cell? ((⟨β i, k * sz + j0, none⟩ : Addr).add j) = some v ∧ v.oneCell' = true ∧ (p.isOw = false → OV β κ D w S v p) := by
  rcases hm.ob i _ h with ⟨_, h0, _⟩ | ⟨_, _, _, h1⟩
  · omega
  exact blk_cells h1 hk j0
theorem zval_ok {D : Id → Prop} {t : TypeId} (h : (tyD P t).zvk = true) : ∃ z, (∀ w, (zeroValue t).run P w = .ok z w) ∧ OV β κ D w S z (tyD P t).zv := by
  cases hi : P.info? t with
  | none => simp [tyD, hi] at h
  | some i =>
    cases hz : i.zero with
    | none => simp [tyD, hi, hz] at h
    | some z =>
      refine ⟨z, fun w => by simp [zeroValue, typeInfo, hi, hz], ?_⟩
      have e : (tyD P t).zv = zval P t := rfl
      rw [e]
      simp only [zval, hi, hz, Option.bind_some]
      cases z
      case agg cs =>
        simp only [tyD, hi, hz, Option.bind_some] at h
        refine .ag cs _ (by simp) (fun j p hp => ?_) (fun j p hp => ?_)
        all_goals
          rw [List.getElem?_map] at hp
          obtain ⟨v, hv, rfl⟩ := Option.map_eq_some_iff.1 hp
          have hv' : cs[j]? = some v := by simpa using hv
          have e2 : cs.getD j undef = v := by simp [Array.getD_eq_getD_getElem?, hv']
          rw [e2]
        · exact (Array.all_eq_true_iff_forall_mem.1 h) v (Array.mem_of_getElem? hv')
        · exact ofVal_ok
      all_goals exact ofVal_ok
theorem tk_map {t : TypeId} {kt et : TypeId} (h : tk P t = .map kt et) : P.underlying t = some (.map kt et) := by
  unfold tk at h
  split at h <;> first | (cases h; assumption) | cases h
theorem Ents.isKey {ents : Array MapEntry} {clock : Nat} {f : Int → Option PV} (h : Ents w S ents clock f) : ∀ x ∈ ents.toList, MapKept.IsKey (.int .i64) x.key := fun x hx => by
  obtain ⟨k, p, h1, _⟩ := h.key x hx
  rw [h1]; rfl
theorem Ents.find {ents : Array MapEntry} {clock : Nat} {f : Int → Option PV} (h : Ents w S ents clock f) (k : Int) :
    (Instr.findNow (.int .i64) (.int .i64 k) ents.toList 0 = some none ∧ f k = none ∧ ∀ x ∈ ents.toList, x.key ≠ .int .i64 k) ∨ ∃ (i : Nat) (e : MapEntry) (p : PV), Instr.findNow (.int .i64) (.int .i64 k) ents.toList 0 = some (some (i, e.val)) ∧ ents.toList[i]? = some e ∧ e.key = .int .i64 k ∧ f k = some p ∧ RV w S e.val p := by
  rcases MapKept.findNow_spec (d := .int .i64) (k := .int .i64 k) rfl ents.toList 0 h.isKey with ⟨h1, h2⟩ | ⟨j, e, h1, h2, h3⟩
  · refine .inl ⟨h1, ?_, h2⟩
    cases hf : f k with
    | none => rfl
    | some p => obtain ⟨e, he, hk⟩ := h.all k p hf; exact absurd hk (h2 e he)
  · obtain ⟨k', p, a1, _, a2, a3⟩ := h.key e (List.mem_of_getElem? h2)
    rw [h3] at a1
    cases a1
    exact .inr ⟨j, e, p, by simpa using h1, h2, h3, a2, a3⟩
theorem tkU8_spec {t : TypeId} (h : tkU8 P t) : ∃ e, P.underlying t = some (.slice e) ∧ P.underlying e = some (.int .u8) := by
  unfold tkU8 at h
  split at h
  · rename_i e he
    refine ⟨e, ?_, tk_int h⟩
    unfold tk at he
    split at he <;> first | (cases he; assumption) | cases he
  · exact h.elim
theorem conv_bytes {s d : TypeId} (h1 : tkU8 P s) (h2 : tk P d = .string) {A : Option Addr} {n c : Nat} {g : Nat → List PV} (h : 0 < n → ∃ a, A = some a ∧ ∀ i, i < n → ∃ x : Int, w.cell? (a.add i) = some (.int .u8 x) ∧ 0 ≤ x ∧ x ≤ 255 ∧ g i = [.int .u8 x]) :
    (convert s d (.slice A n c)).run P w = .ok (.string (bytesG n g)) w := by
  obtain ⟨e, hs, he⟩ := tkU8_spec h1
  have hd := tk_string h2
  cases A with
  | none =>
    have hn : n = 0 := by
      rcases Nat.eq_zero_or_pos n with h0 | h0
      · exact h0
      · obtain ⟨a, ha, _⟩ := h h0; cases ha
    subst hn
    rw [run_convert_bytes_nil w s e hs he 0 c d hd]; rfl
  | some a =>
    have hl : ((List.range n).map (fun i => byteAt (g i))).length = n := by simp
    have := run_convert_bytes_back w s d e a c ((List.range n).map (fun i => byteAt (g i))) hs he hd (fun j hj => by
      have hj' : j < n := by rw [hl] at hj; exact hj
      obtain ⟨a', ha, hx⟩ := h (by omega)
      cases ha
      obtain ⟨x, e1, e2, e3, e4⟩ := hx j hj'
      rw [e1]
      simp [e4, byteAt]
      have : x.toNat < 256 := by omega
      omega)
    rw [hl] at this
    exact this
theorem bytesG_size (n : Nat) (g : Nat → List PV) : (bytesG n g).size = n := by simp [bytesG, ByteArray.size]
theorem p_convM (hm : MRD w S D m β κ A) (he : ∀ x, OV β κ D w S (ρ x) (e x)) {s d : TypeId} {x : Operand} (ho : o.op = .convert s d x) (h : (aconvM P s d m (e x)).ok) : ∃ v, (execOp ρ o).run P w = .ok (.value v) w ∧ OV β κ D w S v (aconvM P s d m (e x)).v := by
  have key : ∀ A n c g, ρ x = .slice A n c → tkU8 P s → tk P d = .string → n ≤ 9223372036854775807 → (0 < n → ∃ a, A = some a ∧ ∀ i, i < n → ∃ x : Int, w.cell? (a.add i) = some (.int .u8 x) ∧ 0 ≤ x ∧ x ≤ 255 ∧ g i = [.int .u8 x]) →
      ∃ v, (execOp ρ o).run P w = .ok (.value v) w ∧ OV β κ D w S v (.str (bytesG n g)) := fun A n c g e1 h1 h2 h3 h4 =>
    ⟨_, by simp only [execOp, ho, e1, Sem.run_bind, conv_bytes h1 h2 h4]; rfl, .str_mk (by rw [bytesG_size]; exact h3)⟩
  have hx := he x
  unfold aconvM at h ⊢
  split at h
  · rename_i n g hq
    rw [hq] at hx
    obtain ⟨A', c, e1, hn, H⟩ := hx.cl_inv
    obtain ⟨h1, h2, h3⟩ := h
    refine key A' n c g e1 h1 h2 ?_ (fun h0 => ?_)
    · rcases Nat.eq_zero_or_pos n with h0 | h0
      · omega
      · have := (H h0).1; omega
    · obtain ⟨_, a, ha, _, hc⟩ := H h0
      refine ⟨a, ha, fun i hi => ?_⟩
      obtain ⟨y, hy⟩ := h3 i hi
      obtain ⟨u, u1, _, u3⟩ := (hc i hi).2 0 (.int .u8 y) (by rw [hy]; rfl)
      cases u3 with
      | int _ _ hb =>
        rw [show IntKind.u8.min = 0 from rfl, show IntKind.u8.max = 255 from rfl] at hb
        exact ⟨y, by simpa using u1, hb.1, hb.2, hy⟩
  · rename_i hq
    rw [hq] at hx
    obtain ⟨h1, h2⟩ := h
    exact key none 0 0 (fun _ => []) hx.nils_inv h1 h2 (Nat.zero_le _) (fun h => absurd h (Nat.lt_irrefl 0))
  · rename_i i n off len hq
    rw [hq] at hx
    obtain ⟨A', c, e1, hxx, hl, hn, hkk, hc, hA⟩ := hx.sl_inv
    split at h
    · rename_i n' g hb
      obtain ⟨rfl, h1, h2, h3⟩ := h
      refine key A' len c (fun i => g (off + i)) e1 h1 h2 (by omega) (fun h0 => ?_)
      refine ⟨_, hA (by omega), fun j hj => ?_⟩
      obtain ⟨y, hy⟩ := h3 j hj
      obtain ⟨u, u1, _, u3⟩ := row_cells hm hb (k := off + j) (by omega) 0 0 (.int .u8 y) (by simp [hy])
      obtain ⟨rfl, hbb⟩ := (u3 rfl).int_inv
      rw [show IntKind.u8.min = 0 from rfl, show IntKind.u8.max = 255 from rfl] at hbb
      refine ⟨y, ?_, hbb.1, hbb.2, hy⟩
      rw [Addr.add_lit] at u1 ⊢
      rw [← u1]; congr 2; omega
    · exact h.elim
  · exact p_conv he ho h
theorem builtin_len {t : TypeId} {x : Value} {v : Value} (h : (Builtin.len_ #[t] o.type #[x]).run P w = .ok v w) {c : Call} {xo : Operand} (ho : o.op = .call c) (hc : c.callee = .builtin .len) (ha : c.args = #[xo]) (ht : c.argTypes = #[t]) (hx : ρ xo = x) : (execOp ρ o).run P w = .ok (.value v) w := by
  simp [execOp, ho, resolve, hc, ha, ht, hx, invoke, builtin, h]
theorem apure_ok (hm : MRD w S D m β κ A) (he : ∀ x, OV β κ D w S (ρ x) (e x)) (hcs : cs.all id = true) {op : Op} (ho : o.op = op) (h : (apure P cs op e m).ok) : ∃ v, (execOp ρ o).run P w = .ok (.value v) w ∧ OV β κ D w S v (apure P cs op e m).v := by
  unfold apure at h ⊢
  split at h
  · exact ⟨_, by simp [execOp, ho], he _⟩
  · exact ⟨_, by simp [execOp, ho], he _⟩
  · split at h
    · exact p_pick he ho hcs (by assumption)
    · exact h.elim
  · split at h
    · exact p_not he ho (by assumption)
    · exact h.elim
  · split at h
    · exact p_neg he ho (by assumption)
    · exact h.elim
  · exact p_binOp he ho h
  · exact p_convM hm he ho h
  · split at h
    · exact p_extract he ho (by assumption) h
    · exact h.elim
  · -- field
    rename_i t x f
    split at h
    · rename_i off sz ft hf
      split at h
      · rename_i ps hx
        obtain ⟨hk, hoff, hl⟩ := h
        obtain ⟨fs, fd, hu, h1, rfl, rfl, rfl⟩ := fs_at hk hf
        have hv := he x
        rw [hx] at hv
        obtain ⟨vs, e1, h2, h3⟩ := hv.ag_inv
        obtain ⟨v, hr, ho2⟩ := run_part' (P := P) (t := fd.type) (vs := vs) (off := fd.offset) (qs := ps.drop fd.offset) (D := D) (by rw [h2, List.length_drop]; omega) (fun j p hp => by rw [List.getElem?_drop] at hp; exact h3 _ p hp) hl
        exact ⟨v, by simp [execOp, ho, Instr.field, run_underlying hu, h1, e1, asAgg, hr], ho2⟩
      · exact h.elim
    · exact h.elim
  · -- index
    split at h
    · rename_i s k n hx hi
      exact p_index he ho hx hi h.1 h.2.1 h.2.2
    · exact h.elim
  · -- fieldAddr
    rename_i t x f
    split at h
    · rename_i off sz ft hf
      have hv := he x
      split at h <;> rename_i hx
      · rw [hx] at hv
        obtain ⟨e1, h1⟩ := hv.bp_inv
        refine ⟨_, p_fieldAddr (w := w) ho hf h.1 h.2 e1, ?_⟩
        rw [Addr.add_lit]; exact .bp _ _ h1
      · rw [hx] at hv
        obtain ⟨e1, h1, h2⟩ := hv.pt_inv
        refine ⟨_, p_fieldAddr (w := w) ho hf h.1 h.2 e1, ?_⟩
        rw [Addr.add_lit, Nat.add_assoc]; exact .pt _ _ _ _ _ h1 h2
      · rw [hx] at hv
        obtain ⟨a, e1, h1, h2⟩ := hv.pc_inv
        refine ⟨_, p_fieldAddr (w := w) ho hf h.1 h.2 e1, .rv _ _ (RV.pc_mk (by rw [aadd_block]; exact h1) (fun j p hp => ?_))⟩
        rw [List.getElem?_drop] at hp
        obtain ⟨u, h3, h4⟩ := h2 _ p hp
        exact ⟨u, by rw [aadd_add]; exact h3, h4⟩
      · exact h.elim
    · exact h.elim
  · -- indexAddr
    rename_i t x i
    split at h
    · rename_i sz n g k ix hx hi
      have hv := he x; have hw := he i
      rw [hx] at hv; rw [hi] at hw
      obtain ⟨A, c, e1, h1, H⟩ := hv.cl_inv
      obtain ⟨k0, k1, k2, k3⟩ := h
      obtain ⟨hc, a, rfl, hS, hg⟩ := H (by omega)
      refine ⟨_, p_indexAddr (w := w) ho hw.int_inv.1 e1 k1 k2 k3, .rv _ _ (RV.pc_mk (by rw [aadd_block]; exact hS) (fun j p hp => ?_))⟩
      obtain ⟨u, h3, h4⟩ := (hg ix.toNat (by omega)).2 j p hp
      exact ⟨u, by rw [aadd_add, k0]; exact h3, h4⟩
    · rename_i i' sz n off len k ix hx hi
      have hv := he x; have hw := he i
      rw [hx] at hv; rw [hi] at hw
      obtain ⟨A, c, e1, hxx, hl, hn, hkk, hc, hA⟩ := hv.sl_inv
      obtain ⟨k0, k1, k2, k3⟩ := h
      have hAA := hA (by omega)
      subst hAA
      refine ⟨_, p_indexAddr (w := w) ho hw.int_inv.1 e1 k1 k2 k3, ?_⟩
      rw [Addr.add_lit, k0, ← Nat.add_mul]
      exact .pt _ _ _ _ 0 hxx (by omega)
    · exact h.elim
  · -- load
    rename_i t x
    have hv := he x
    split at h
    · rename_i ps hx
      rw [hx] at hv
      obtain ⟨a, e1, h1, h2⟩ := hv.pc_inv
      exact p_load ho e1 (fun j p hp => by obtain ⟨u, h3, h4, h5⟩ := h2 j p hp; exact ⟨u, h3, h4, fun _ => .rv _ _ h5⟩) (ldo_of h (fun p hp => by obtain ⟨j, hj⟩ := List.getElem?_of_mem hp; obtain ⟨u, _, _, h5⟩ := h2 j p hj; exact h5.nOw))
    · rename_i i j hx
      rw [hx] at hv
      obtain ⟨e1, h1⟩ := hv.bp_inv
      split at h
      · rename_i ps hb
        exact p_load ho e1 (box_cells hm hb j) h
      · exact h.elim
    · rename_i i sz n k j hx
      rw [hx] at hv
      obtain ⟨e1, h1, h2⟩ := hv.pt_inv
      split at h
      · rename_i sz' n' g hb
        obtain ⟨rfl, rfl, h3⟩ := h
        exact p_load ho e1 (row_cells hm hb h2 j) h3
      · exact h.elim
    · exact h.elim
  · -- slice
    split at h
    · rename_i h1 h2
      exact p_slice he ho h1 h2 h
    · exact h.elim
  · -- lookup
    rename_i t x i ok
    split at h
    · rename_i q k hx hi
      have hv := he x; have hw := he i
      rw [hx] at hv; rw [hi] at hw
      obtain ⟨e1, h1⟩ := hv.mp_inv
      split at h
      · rename_i f hf
        split at h
        · rename_i kt et ht
          obtain ⟨hkt, hz⟩ := h
          obtain ⟨z, hzr, hzo⟩ := zval_ok (β := β) (κ := κ) (D := D) (w := w) (S := S) hz
          obtain ⟨_, ents, clock, a1, a2⟩ := hm.ob _ _ hf
          have hu := tk_map (P := P) (t := t) ht
          have hku := tk_int hkt
          have hck : (Instr.checkKey ents.isEmpty 10000 kt (.int .i64 k)).run P w = .ok () w := MapKept.run_checkKey hku (k := .int .i64 k) rfl _ 9999
          have hg : (getObj (β q)).run P w = .ok (.map ents clock) w := MapKept.run_getObj_map a1
          have fin : ∀ v, (Instr.lookup t (ρ x) (ρ i) ok).run P w = .ok (if ok = true then .tuple #[v, .bool (f k).isSome] else v) w → OV β κ D w S v ((f k).getD (tyD P et).zv) →
              ∃ v, (execOp ρ o).run P w = .ok (.value v) w ∧ OV β κ D w S v (if ok = true then .tu [(f k).getD (tyD P et).zv, .bool (f k).isSome] else (f k).getD (tyD P et).zv) := by
            intro v r1 ho'
            refine ⟨_, by simp only [execOp, ho, Sem.run_bind, r1]; rfl, ?_⟩
            cases ok
            · exact ho'
            · refine .tu _ _ rfl (fun j p hp => ?_)
              match j, hp with
              | 0, hp => simp at hp; subst hp; exact ho'
              | 1, hp => simp at hp; subst hp; exact .bool_mk
          rcases a2.find k with ⟨b1, b2, _⟩ | ⟨i', e', p, b1, _, _, b2, b3⟩
          · refine fin z ?_ (by rw [b2]; exact hzo)
            have hfk := MapKept.run_findKey (w := w) hku b1
            rw [e1, hw.int_inv.1]
            simp only [Instr.lookup, Sem.run_bind, run_underlying hu, hg, hck, hfk, Result.andThen_ok, hzr, b2]
            cases ok <;> simp [hzr, hck, hfk]
          · refine fin e'.val ?_ (by rw [b2]; exact .rv _ _ b3)
            have hfk := MapKept.run_findKey (w := w) hku b1
            rw [e1, hw.int_inv.1]
            simp only [Instr.lookup, Sem.run_bind, run_underlying hu, hg, hck, hfk, Result.andThen_ok, hzr, b2]
            cases ok <;> simp [hzr, hck, hfk]
        · exact h.elim
      · exact h.elim
    · exact h.elim
  · -- nilCheck
    rename_i x
    have hv := he x
    split at h <;> rename_i hx
    · rw [hx] at hv; exact ⟨_, by simp [execOp, ho, hv.bp_inv.1], hv.bp_inv.1 ▸ hv⟩
    · rw [hx] at hv; exact ⟨_, by simp [execOp, ho, hv.pt_inv.1], hv.pt_inv.1 ▸ hv⟩
    · rw [hx] at hv
      obtain ⟨a, e1, _⟩ := hv.pc_inv
      exact ⟨_, by simp [execOp, ho, e1], e1 ▸ hv⟩
    · rw [hx] at hv
      rename_i f ps
      have e1 : ∃ vs, ρ x = .func (.func f) #[] vs := by
        generalize ρ x = v at hv
        cases hv with
        | rv _ _ h => cases h
        | fn _ vs _ _ _ => exact ⟨vs, rfl⟩
      obtain ⟨vs, e1⟩ := e1
      exact ⟨_, by simp [execOp, ho, e1], e1 ▸ hv⟩
    · exact h.elim
  · -- makeFunc
    rename_i f fi ca
    have h' : fi = #[] := h
    subst h'
    exact ⟨_, by simp [execOp, ho, Instr.makeFunc], .fn f (ca.map ρ) _ (by simp) (fun j p hp => by
      rw [List.getElem?_map] at hp
      obtain ⟨q, h1, rfl⟩ := Option.map_eq_some_iff.1 hp
      have h2 : ca[j]? = some q := by simpa using h1
      have : (ca.map ρ).getD j undef = ρ q := by simp [Array.getD_eq_getD_getElem?, h2]
      rw [this]; exact he q)⟩
  · -- build
    rename_i t ps
    split at h
    · rename_i qs hf
      obtain ⟨hk, hz⟩ := h
      obtain ⟨fs, hu⟩ := tk_struct hk
      obtain ⟨z, hzr, hzs, hz1, hzc⟩ := zero_ok (β := β) (κ := κ) (D := D) (w := w) (S := S) hz
      have hfs : fs.all (fun f => (P.info? f.type).isSome) = true := by
        simp only [tyD, hu, Bool.and_eq_true] at hz
        exact hz.2
      have hpl := run_places (P := P) hfs w
      obtain ⟨cs', h3, h4⟩ := fill_ok (β := β) (κ := κ) (D := D) (w := w) (S := S) (fun i => (fs.map (fun f => (f.offset, P.cellsOf f.type)))[i]?) (tyD P t).fs (fun i off sz ft hi => by
        obtain ⟨fs', fd, hu', h1, rfl, rfl, rfl⟩ := fs_at hk hi
        rw [hu] at hu'
        cases hu'
        simp [h1]) (ps.toList.map (fun x => (x.1, ρ x.2))) (ps.toList.map (fun x => (x.1, e x.2))) z.cells (tyD P t).zc qs (by simp) (fun j i q hq => by
          rw [List.getElem?_map] at hq
          obtain ⟨x, h5, h6⟩ := Option.map_eq_some_iff.1 hq
          simp only [Prod.mk.injEq] at h6
          obtain ⟨rfl, rfl⟩ := h6
          exact ⟨ρ x.2, by rw [List.getElem?_map, h5]; rfl, he _⟩) hzc hf
      refine ⟨.agg cs', ?_, .ag _ _ h4.1 (fun j p hp => (h4.2 j p hp).1) (fun j p hp => (h4.2 j p hp).2)⟩
      have e2 : (ps.map (fun x => (x.1, ρ x.2))).toList = ps.toList.map (fun x => (x.1, ρ x.2)) := by simp
      have e3 : (zeroValue t).run P w = .ok z w := hzr w
      have hpl2 : (Array.mapM (fun f : Field => Prod.mk f.offset <$> sizeOf f.type) fs).run P w = .ok (fs.map (fun f => (f.offset, P.cellsOf f.type))) w := by simpa using hpl
      simp only [Array.getElem?_map] at h3
      simp [execOp, ho, Instr.build, run_underlying hu, hpl2, e3, h3]
    · exact h.elim
  · -- builtins
    rename_i c
    split at h
    · rename_i hc
      split at h
      · rename_i x t ha ht
        have ha' : c.args = #[x] := by rw [← Array.toArray_toList (xs := c.args), ha]
        have ht' : c.argTypes = #[t] := by rw [← Array.toArray_toList (xs := c.argTypes), ht]
        have hv := he x
        unfold alen at h ⊢
        split at h <;> rename_i hx <;> (try exact h.elim) <;> rw [hx] at hv
        · obtain ⟨e1, h1⟩ := hv.str_inv
          exact ⟨_, builtin_len (v := goInt _) (by simp [Builtin.len_, run_underlying (tk_string h)]) ho hc ha' ht' e1, .int_mk (by rw [show IntKind.i64.min = -9223372036854775808 from rfl, show IntKind.i64.max = 9223372036854775807 from rfl]; omega)⟩
        all_goals obtain ⟨el, i0, z, hu, _⟩ := el_of h
        · obtain ⟨A, c', e1, h1, H⟩ := hv.cl_inv
          rename_i sz n g _
          exact ⟨_, builtin_len (v := goInt n) (by simp [Builtin.len_, run_underlying hu]) ho hc ha' ht' e1, .int_mk (by
            rw [show IntKind.i64.min = -9223372036854775808 from rfl, show IntKind.i64.max = 9223372036854775807 from rfl]
            rcases Nat.eq_zero_or_pos n with h0 | h0
            · omega
            · have := (H h0).1; omega)⟩
        · obtain ⟨A, c', e1, h1, h2, h3, h4, h5, h6⟩ := hv.sl_inv
          rename_i i sz n off len _
          exact ⟨_, builtin_len (v := goInt len) (by simp [Builtin.len_, run_underlying hu]) ho hc ha' ht' e1, .int_mk (by
            rw [show IntKind.i64.min = -9223372036854775808 from rfl, show IntKind.i64.max = 9223372036854775807 from rfl]
            omega)⟩
        · exact ⟨_, builtin_len (v := goInt 0) (by simp [Builtin.len_, run_underlying hu]) ho hc ha' ht' hv.nils_inv, .int_mk (by decide)⟩
      · exact h.elim
    · rename_i hc
      split at h
      · rename_i x y ha
        have ha' : c.args = #[x, y] := by rw [← Array.toArray_toList (xs := c.args), ha]
        split at h
        · rename_i k a k' b hx hy
          have h' : k = k' := h
          subst h'
          have h1 := he x; have h2 := he y
          rw [hx] at h1; rw [hy] at h2
          refine ⟨.int k (if b > a then b else a), ?_, .int_mk ?_⟩
          · have := run_max_int2 (P := P) w c.argTypes o.type k k a b
            simp [execOp, ho, resolve, hc, ha', h1.int_inv.1, h2.int_inv.1, invoke, builtin, this]
          · have := h1.int_inv.2; have := h2.int_inv.2; split <;> omega
        · exact h.elim
      · exact h.elim
    · rename_i hc
      split at h
      · rename_i x y ha
        have ha' : c.args = #[x, y] := by rw [← Array.toArray_toList (xs := c.args), ha]
        split at h
        · rename_i k a k' b hx hy
          have h' : k = k' := h
          subst h'
          have h1 := he x; have h2 := he y
          rw [hx] at h1; rw [hy] at h2
          refine ⟨.int k (if b < a then b else a), ?_, .int_mk ?_⟩
          · have := run_min_int2 (P := P) w c.argTypes o.type k k a b
            simp [execOp, ho, resolve, hc, ha', h1.int_inv.1, h2.int_inv.1, invoke, builtin, this]
          · have := h1.int_inv.2; have := h2.int_inv.2; split <;> omega
        · exact h.elim
      · exact h.elim
    · exact h.elim
  · exact h.elim
end
end Go.Proofs.YtofaiiobggnibaaW.AW
namespace Go.Proofs.YtofaiiobggnibaaW.AW
open Go Go.RowKit
set_option linter.unusedVariables false
set_option linter.unusedSimpArgs false

/-- A new object (q's memory may be taken up by it: q is no more). -/
def Mem.gone (m : Mem) (q : Option Id) : Id → Option Ob := match q with | none => m.o | some o => upd m.o o none
def Mem.grow (m : Mem) (q : Option Id) (x : Ob) : Mem := ⟨upd (m.gone q) [m.nx] (some x), m.nx + 1⟩
def Mem.set (m : Mem) (o : Id) (x : Ob) : Mem := ⟨upd m.o o (some x), m.nx⟩
section
variable {P : Program} {β κ : Id → Nat} {A : Id → Nat → Prop} {w w' : World} {S : Nat → Prop} {m : Mem} {D : Id → Prop}
theorem gone_at {q : Option Id} {o : Id} {x : Ob} (h : m.gone q o = some x) : m.o o = some x ∧ q ≠ some o := by
  cases q with
  | none => exact ⟨h, by simp⟩
  | some p =>
    simp only [Mem.gone, upd] at h
    split at h
    · cases h
    · exact ⟨h, fun e => by cases e; contradiction⟩
theorem hb_ne {o : Id} {n : Nat} (h : hb o n) : o ≠ [n] := fun e => by subst e; simp [hb] at h
theorem MRD.keepS (hm : MRD w S D m β κ A) (hold : ∀ k, k < w.heap.size → ¬ own m A k → w'.heap[k]? = w.heap[k]?) : ∀ k, S k → w'.heap[k]? = w.heap[k]? :=
  fun k hk => hold k (hm.lt k hk) (fun ⟨o, x, h1, h2⟩ => hm.ns o x k h1 h2 hk)
/-- The next name is in use by nobody. -/
def Fr (D : Id → Prop) (n : Nat) : Prop := ∀ o, hb o (n + 1) → ¬ hb o n → ¬ D o
/-- One more name in use. -/
abbrev gdN (D : Id → Prop) (n : Nat) : Id → Prop := fun o => D o ∨ (hb o (n + 1) ∧ ¬ hb o n)
theorem Fr.hd (n : Nat) : Fr (dN n) n := fun o _ h h2 => h h2
theorem Fr.ne {n : Nat} (fr : Fr D n) {o : Id} (h : D o) : o ≠ [n] := fun e => fr [n] (by simp [hb]) (by simp [hb]) (e ▸ h)
theorem gdN_dN (n : Nat) : gdN (dN n) n = dN (n + 1) := funext fun o => propext ⟨fun h => h.elim (fun h => hb.mono h (Nat.le_succ _)) (·.1), fun h => (Classical.em (hb o n)).elim .inl (fun h2 => .inr ⟨h, h2⟩)⟩
theorem gd_new (n : Nat) : gdN D n [n] := .inr ⟨by simp [hb], by simp [hb]⟩
theorem MRD.grow (fr : Fr D m.nx) (hm : MRD w S D m β κ A) (q : Option Id) {x : Ob} {g K : Nat} {B : Nat → Prop} (hos : w'.os = w.os) (ht : w'.tape = w.tape) (hout : w'.output = w.output) (hsz : w.heap.size ≤ w'.heap.size)
    (hB : ∀ k, B k → w.heap.size ≤ k ∨ ∃ o x0, q = some o ∧ m.o o = some x0 ∧ A o k)
    (hold : ∀ k, k < w.heap.size → (∀ o x0, q = some o → m.o o = some x0 → ¬ A o k) → w'.heap[k]? = w.heap[k]?)
    (hOB : OB (upd β [m.nx] g) (upd κ [m.nx] K) (gdN D m.nx) w' S B [m.nx] x) :
    ExtD w S D m β κ A w' S (gdN D m.nx) (m.grow q x) (upd β [m.nx] g) (upd κ [m.nx] K) (upd A [m.nx] B) ∧ MRD w' S (gdN D m.nx) (m.grow q x) (upd β [m.nx] g) (upd κ [m.nx] K) (upd A [m.nx] B) := by
  have hβ : ∀ o, D o → upd β [m.nx] g o = β o ∧ upd κ [m.nx] K o = κ o := fun o ho => by simp [upd, fr.ne ho]
  have hA : ∀ o, D o → upd A [m.nx] B o = A o := fun o ho => by simp [upd, fr.ne ho]
  have hAn : upd A [m.nx] B [m.nx] = B := by simp [upd]
  have hold' : ∀ k, k < w.heap.size → ¬ own m A k → w'.heap[k]? = w.heap[k]? := fun k hk hn => hold k hk (fun o x0 _ h1 h2 => hn ⟨o, x0, h1, h2⟩)
  have hS := hm.keepS hold'
  have at_ : ∀ o y, (m.grow q x).o o = some y → (o = [m.nx] ∧ y = x) ∨ (D o ∧ m.o o = some y ∧ q ≠ some o) := fun o y h => by
    by_cases e : o = [m.nx]
    · subst e; simp [Mem.grow, upd] at h; exact .inl ⟨rfl, h.symm⟩
    · simp only [Mem.grow, upd, if_neg e] at h
      obtain ⟨h1, h2⟩ := gone_at h
      exact .inr ⟨hm.nx o y h1, h1, h2⟩
  refine ⟨⟨hos, ht, hout, hsz, fun _ h => h, hβ, hold', Nat.le_succ _, fun _ h => .inl h, ?_, fun k hk => .inl hk⟩, ⟨fun o y h => ?_, fun o y k h hk hs => ?_, fun o o' y y' k h h' hk hk' => ?_, fun o y h => ?_, fun k hk => Nat.lt_of_lt_of_le (hm.lt k hk) hsz⟩⟩
  · rintro k ⟨o, y, h, hk⟩
    rcases at_ o y h with ⟨rfl, rfl⟩ | ⟨h1, h2, _⟩
    · rw [hAn] at hk
      rcases hB k hk with h1 | ⟨o', x0, _, h1, h2⟩
      · exact .inl h1
      · exact .inr ⟨o', x0, h1, h2⟩
    · rw [hA o h1] at hk; exact .inr ⟨o, y, h2, hk⟩
  · rcases at_ o y h with ⟨rfl, rfl⟩ | ⟨h1, h2, h3⟩
    · rw [hAn]; exact hOB
    · rw [hA o h1]
      exact (hm.ob o y h2).move hβ (fun _ h => .inl h) (fun _ h => h) hS h1 (fun k hk => hold k ((hm.ob o y h2).lt hk) (fun o' x0 e h4 h5 => h3 (by rw [hm.dj o o' y x0 k h2 h4 hk h5]; exact e)))
  · rcases at_ o y h with ⟨rfl, rfl⟩ | ⟨h1, h2, h3⟩
    · rw [hAn] at hk
      rcases hB k hk with h1 | ⟨o', x0, _, h1, h2⟩
      · have := hm.lt k hs; omega
      · exact hm.ns o' x0 k h1 h2 hs
    · rw [hA o h1] at hk; exact hm.ns o y k h2 hk hs
  · rcases at_ o y h with ⟨rfl, rfl⟩ | ⟨h1, h2, h3⟩ <;> rcases at_ o' y' h' with ⟨rfl, rfl⟩ | ⟨h1', h2', h3'⟩
    · rfl
    · rw [hAn] at hk; rw [hA o' h1'] at hk'
      rcases hB k hk with h4 | ⟨o2, x0, e, h4, h5⟩
      · have := (hm.ob o' y' h2').lt hk'; omega
      · have := hm.dj o' o2 y' x0 k h2' h4 hk' h5; subst this; exact absurd e h3'
    · rw [hAn] at hk'; rw [hA o h1] at hk
      rcases hB k hk' with h4 | ⟨o2, x0, e, h4, h5⟩
      · have := (hm.ob o y h2).lt hk; omega
      · have := hm.dj o o2 y x0 k h2 h4 hk h5; subst this; exact absurd e h3
    · rw [hA o h1] at hk; rw [hA o' h1'] at hk'
      exact hm.dj o o' y y' k h2 h2' hk hk'
  · rcases at_ o y h with ⟨rfl, rfl⟩ | ⟨h1, _⟩
    · exact gd_new _
    · exact .inl h1
/-- An object's cells are written. -/
theorem MRD.put (hm : MRD w S D m β κ A) {i : Id} {x x' : Ob} {B : Nat → Prop} (h : m.o i = some x) (hos : w'.os = w.os) (ht : w'.tape = w.tape) (hout : w'.output = w.output) (hsz : w'.heap.size = w.heap.size)
    (hB : ∀ k, B k → A i k) (hold : ∀ k, ¬ A i k → w'.heap[k]? = w.heap[k]?) (hOB : OB β κ D w' S B i x') :
    ExtD w S D m β κ A w' S D (m.set i x') β κ (upd A i B) ∧ MRD w' S D (m.set i x') β κ (upd A i B) := by
  have hold' : ∀ k, k < w.heap.size → ¬ own m A k → w'.heap[k]? = w.heap[k]? := fun k hk hn => hold k (fun h2 => hn ⟨i, x, h, h2⟩)
  have hS := hm.keepS hold'
  have at_ : ∀ o y, (m.set i x').o o = some y → (o = i ∧ y = x') ∨ (o ≠ i ∧ m.o o = some y) := fun o y ho => by
    simp only [Mem.set, upd] at ho
    by_cases e : o = i
    · rw [if_pos e] at ho; cases ho; exact .inl ⟨e, rfl⟩
    · rw [if_neg e] at ho; exact .inr ⟨e, ho⟩
  have hA : ∀ o, o ≠ i → upd A i B o = A o := fun o ho => by simp [upd, ho]
  have hAi : upd A i B i = B := by simp [upd]
  have old : ∀ o y k, (m.set i x').o o = some y → upd A i B o k → ∃ y', m.o o = some y' ∧ A o k := fun o y k ho hk => by
    rcases at_ o y ho with ⟨rfl, rfl⟩ | ⟨h1, h2⟩
    · rw [hAi] at hk; exact ⟨x, h, hB k hk⟩
    · rw [hA o h1] at hk; exact ⟨y, h2, hk⟩
  refine ⟨⟨hos, ht, hout, Nat.le_of_eq hsz.symm, fun _ h => h, fun _ _ => ⟨rfl, rfl⟩, hold', Nat.le_refl _, fun _ h => h, ?_, fun k hk => .inl hk⟩, ⟨fun o y ho => ?_, fun o y k ho hk hs => ?_, fun o o' y y' k h1 h2 h3 h4 => ?_, fun o y ho => ?_, fun k hk => by rw [hsz]; exact hm.lt k hk⟩⟩
  · rintro k ⟨o, y, ho, hk⟩
    obtain ⟨y', h1, h2⟩ := old o y k ho hk
    exact .inr ⟨o, y', h1, h2⟩
  · rcases at_ o y ho with ⟨rfl, rfl⟩ | ⟨h1, h2⟩
    · rw [hAi]; exact hOB
    · rw [hA o h1]
      exact (hm.ob o y h2).move (fun _ _ => ⟨rfl, rfl⟩) (fun _ h => h) (fun _ h => h) hS (hm.nx o y h2) (fun k hk => hold k (fun h3 => h1 (hm.dj o i y x k h2 h hk h3)))
  · obtain ⟨y', h1, h2⟩ := old o y k ho hk
    exact hm.ns o y' k h1 h2 hs
  · obtain ⟨z, a1, a2⟩ := old o y k h1 h3
    obtain ⟨z', b1, b2⟩ := old o' y' k h2 h4
    exact hm.dj o o' z z' k a1 b1 a2 b2
  · rcases at_ o y ho with ⟨rfl, rfl⟩ | ⟨_, h4⟩
    · exact hm.nx o x h
    · exact hm.nx o y h4
end
end Go.Proofs.YtofaiiobggnibaaW.AW
namespace Go.Proofs.YtofaiiobggnibaaW.AW
open Go Go.RowKit
set_option linter.unusedVariables false

/-- THE CONTRACT of a function: from the arguments and the memory to the answer and the memory then. -/
def AC (P : Program) (f : FuncId) (args : List PV) (m : Mem) (r : PV) (m' : Mem) : Prop := (∃ fn, P.funcs[f]? = some fn ∧ fn.body.isNone = false ∧ (fn.name == "runtime.NumGoroutine") = false) ∧
  ∀ (w : World) (vs : Array Value) (S : Nat → Prop) (β κ : Id → Nat) (A : Id → Nat → Prop), MR w S m β κ A → vs.size = args.length → (∀ i p, args[i]? = some p → OV β κ (dN m.nx) w S (vs.getD i undef) p) →
    Calls P f vs w fun e w' => ∃ v S' β' κ' A', e = .returned v ∧ OV β' κ' (dN m'.nx) w' S' v r ∧ MR w' S' m' β' κ' A' ∧ Ext w S m β κ A w' S' m' β' κ' A'
/-- What an operation leaves: the model's value and world, the words' answer and memory. -/
def Left (w : World) (S : Nat → Prop) (D : Id → Prop) (m : Mem) (β κ : Id → Nat) (A : Id → Nat → Prop) (K : PV → Mem → Prop) (v : Value) (w' : World) : Prop :=
  ∃ r m' S' D' β' κ' A', K r m' ∧ ExtD w S D m β κ A w' S' D' m' β' κ' A' ∧ MRD w' S' D' m' β' κ' A' ∧ OV β' κ' D' w' S' v r ∧ ∀ o, D' o ↔ D o ∨ (hb o m'.nx ∧ ¬ hb o m.nx)
theorem dsame {D : Id → Prop} {n : Nat} (o : Id) : D o ↔ D o ∨ (hb o n ∧ ¬ hb o n) := ⟨.inl, fun h => h.elim id (fun h => absurd h.1 h.2)⟩
/-- A name is in use with all that begins with it. -/
def TC (D : Id → Prop) : Prop := ∀ o q, o ≠ [] → D o → D (o ++ q)
theorem hb_app {u : Id} {q : Id} {n : Nat} (hu : u ≠ []) : hb (u ++ q) n ↔ hb u n := by
  cases u with
  | nil => exact absurd rfl hu
  | cons c u => exact Iff.rfl
theorem TC_dN (n : Nat) : TC (dN n) := fun o q ho h => (hb_app ho).2 h
/-- The same, whatever other names are in use. -/
def ACD (P : Program) (f : FuncId) (args : List PV) (m : Mem) (r : PV) (m' : Mem) : Prop := (∃ fn, P.funcs[f]? = some fn ∧ fn.body.isNone = false ∧ (fn.name == "runtime.NumGoroutine") = false) ∧
  ∀ (D : Id → Prop), TC D → (∀ o, hb o m'.nx → ¬ hb o m.nx → ¬ D o) → ∀ (w : World) (vs : Array Value) (S : Nat → Prop) (β κ : Id → Nat) (A : Id → Nat → Prop), MRD w S D m β κ A → vs.size = args.length → (∀ i p, args[i]? = some p → OV β κ D w S (vs.getD i undef) p) →
    Calls P f vs w fun e w' => ∃ v, e = .returned v ∧ Left w S D m β κ A (fun q n => q = r ∧ n = m') v w'
/-- Two steps that do the same to the objects W. -/
def Same2 (W : List Id) (m m' m2 m2' : Mem) : Prop := m2'.nx = m'.nx ∧ ∀ o, (m2'.o o = m2.o o ∧ m'.o o = m.o o) ∨ (o ∈ W ∧ m2'.o o = m'.o o)
/-- A call that looks at R and W alone, and changes W alone. -/
def ACT (P : Program) (f : FuncId) (args : List PV) (m : Mem) (r : PV) (m' : Mem) (R W : List Id) : Prop := m.nx ≤ m'.nx ∧
  ∀ m2 : Mem, m2.nx = m.nx → (∀ o ∈ R ++ W, m2.o o = m.o o) → ∃ m2', Same2 W m m' m2 m2' ∧ ACD P f args m2 r m2'
def gdv (cs : List Bool) (v : PV) : PV := match cs with | [] => v | cs => .gd cs v
/-- What follows, shut. -/
def k2 (K : PV → Mem → Prop) (r : PV) (m' : Mem) (R W : List Id) : Prop := K r m'
def kD (K : PV → Mem → List Id → List Id → Prop) (R W : List Id) (r : PV) (m' : Mem) : Prop := K r m' R W
/-- A call; under a guard it leaves memory alone. -/
def acall (P : Program) (cs : List Bool) (f : FuncId) (args : List PV) (m : Mem) (K : PV → Mem → List Id → List Id → Prop) : Prop :=
  ∃ r m' R W, (cs.all id = true → ACT P f args m r m' R W) ∧ (cs.all id = true ∨ m' = m) ∧ K (gdv cs r) m' R W
def splice (cs : List PV) (j : Nat) (vs : List PV) : List PV := cs.take j ++ vs ++ cs.drop (j + vs.length)
def astore (P : Program) (t : TypeId) (a x : PV) (m : Mem) (K : PV → Mem → Prop) : Prop := match pcells x with
  | some vs => match a with
    | .bp o j => match m.o o with
      | some (.box cs) => (vs.length = (tyD P t).sz ∧ tk P t ≠ .other ∧ j + vs.length ≤ cs.length) ∧ K .und (m.set o (.box (splice cs j vs)))
      | _ => False
    | .pt o sz n i j => match m.o o with
      | some (.row sz' n' g) => (vs.length = (tyD P t).sz ∧ tk P t ≠ .other ∧ sz' = sz ∧ n' = n ∧ j + vs.length ≤ sz) ∧ K .und (m.set o (.row sz' n' (upd g i (splice (g i) j vs))))
      | _ => False
    | _ => False
  | none => False
def okIdx : Nat → List (Nat × Operand) → Bool
  | _, [] => true
  | k, (i, _) :: r => i == k && okIdx (k + 1) r
def allCells : List PV → Option (List (List PV))
  | [] => some []
  | p :: r => match pcells p, allCells r with | some c, some cs => some (c :: cs) | _, _ => none
/-- What an append takes from its second argument: how many elements, their cells, cells an element. -/
def asrc (m : Mem) : PV → Option (Nat × (Nat → List PV) × Nat)
  | .nils => some (0, fun _ => [], 0)
  | .cl sz n g => some (n, g, sz)
  | .sl o sz n off len => match m.o o with | some (.row sz' n' g) => if sz' = sz ∧ n' = n then some (len, fun i => g (off + i), sz) else none | _ => none
  | .str b => some (b.size, fun i => [.int .u8 (bt b i)], 1)
  | _ => none
/-- What is copied out of one's own rows owns nothing from within. -/
def aflat (m : Mem) : PV → Prop
  | .sl o sz n off len => match m.o o with | some (.row _ _ g) => ∀ i, i < len → (g (off + i)).all (fun p => !p.isOw) = true | _ => True
  | _ => True
def aappend (P : Program) (t : TypeId) (s x : PV) (m : Mem) (K : PV → Mem → Prop) : Prop := match asrc m x with
  | some (k, gs, sz) => match s with
    | .nils => ((tyD P t).eok = true ∧ (k = 0 ∨ sz = (tyD P t).es) ∧ k * (tyD P t).eb ≤ 140737488355328) ∧ aflat m x ∧ K (.sl [m.nx] (tyD P t).es k 0 k) (m.grow none (.row (tyD P t).es k gs))
    | .sl o sz0 n off len => match m.o o with
      | some (.row sz' n' g) => ((tyD P t).eok = true ∧ (k = 0 ∨ sz = (tyD P t).es) ∧ sz' = (tyD P t).es ∧ sz0 = (tyD P t).es ∧ n' = n ∧ off = 0 ∧ (len + k) * (tyD P t).eb ≤ 140737488355328) ∧ aflat m x ∧
          K (.sl [m.nx] (tyD P t).es (len + k) 0 (len + k)) (m.grow (some o) (.row (tyD P t).es (len + k) (fun i => if i < len then g i else gs (i - len))))
      | _ => False
    | _ => False
  | none => False
/-- It is closed as it stands. -/
def PV.clo1 : PV → Bool
  | .und | .bool _ | .int _ _ | .str _ | .nils | .cl _ _ _ | .pc _ => true
  | _ => false
def PV.clo : PV → Bool
  | .ag cs => cs.all PV.clo1
  | p => p.clo1
def hintOk (e : Operand → PV) : Option Operand → Prop
  | none => True
  | some x => match e x with | .int _ _ => True | _ => False
/-- What is carried out under a guard that is known. -/
def onG (cs : List Bool) (p q : Prop) : Prop := if cs.all id = true then p else q
def aop (P : Program) (cs : List Bool) (op : Op) (e : Operand → PV) (m : Mem) (K : PV → Mem → Prop) : Prop := match op with
  | .box t x => onG cs (match pcells (e x) with | some vs => K (.bp [m.nx] 0) (m.grow none (.box vs)) | none => False) (K (gdv cs .und) m)
  | .alloc t => onG cs ((tyD P t).zok = true ∧ K (.bp [m.nx] 0) (m.grow none (.box (tyD P t).zc))) (K (gdv cs .und) m)
  | .store t a x => onG cs (astore P t (e a) (e x) m K) (K (gdv cs .und) m)
  | .buildSlice t n ps => onG cs (match allCells (ps.toList.map (fun x => e x.2)) with
    | some cc => ((tyD P t).eok = true ∧ okIdx 0 ps.toList = true ∧ ps.size = n ∧ (∀ c ∈ cc, c.length = (tyD P t).es) ∧ n * (tyD P t).es ≤ 16777216) ∧ K (.sl [m.nx] (tyD P t).es n 0 n) (m.grow none (.row (tyD P t).es n (fun i => cc.getD i [])))
    | none => False) (K (gdv cs .und) m)
  | .makeSlice t l c => onG cs (match e l, e c with
    | .int _ l, .int _ c => ((tyD P t).eok = true ∧ 0 ≤ l ∧ l ≤ c ∧ c * (tyD P t).eb ≤ 140737488355328) ∧ K (.sl [m.nx] (tyD P t).es l.toNat 0 l.toNat) (m.grow none (.row (tyD P t).es l.toNat (fun _ => (tyD P t).ez)))
    | _, _ => False) (K (gdv cs .und) m)
  | .makeMap t r => onG cs ((match (tyD P t).k with | .map _ _ => True | _ => False) ∧ hintOk e r ∧ K (.mp [m.nx]) (m.grow none (.map (fun _ => none)))) (K (gdv cs .und) m)
  | .mapUpdate t x k v => onG cs (match e x, e k with
    | .mp o, .int .i64 i => match m.o o with
      | some (.map f) => (match (tyD P t).k with | .map kt _ => tk P kt = .int .i64 | _ => False) ∧ (e v).clo = true ∧ K .und (m.set o (.map (upd f i (some (e v)))))
      | _ => False
    | _, _ => False) (K (gdv cs .und) m)
  | .convert s d x => match e x with
    | .str b => if tkU8 P d then onG cs ((tk P s = .string ∧ (tyD P d).eok = true ∧ (tyD P d).es = 1) ∧ K (.sl [m.nx] 1 b.size 0 b.size) (m.grow none (.row 1 b.size (fun i => [.int .u8 (bt b i)])))) (K (gdv cs .und) m)
      else (cs.all id = true → (apure P cs (.convert s d x) e m).ok) ∧ K (gdv cs (apure P cs (.convert s d x) e m).v) m
    | _ => (cs.all id = true → (apure P cs (.convert s d x) e m).ok) ∧ K (gdv cs (apure P cs (.convert s d x) e m).v) m
  | .call c => match c.callee with
    | .builtin .delete => onG cs (match c.args.toList, c.argTypes.toList with
      | [x, k], t :: _ => (match e x, e k with
        | .mp o, .int .i64 i => match m.o o with
          | some (.map f) => (match (tyD P t).k with | .map kt _ => tk P kt = .int .i64 | _ => False) ∧ K (.tu []) (m.set o (.map (upd f i none)))
          | _ => False
        | _, _ => False)
      | _, _ => False) (K (gdv cs .und) m)
    | .builtin .append => onG cs (match c.args.toList, c.argTypes.toList with | [s, x], [t, t'] => ((∃ e', P.underlying t' = some (.slice e')) ∨ P.underlying t' = some .string) ∧ aappend P t (e s) (e x) m K | _, _ => False) (K (gdv cs .und) m)
    | .builtin b => (cs.all id = true → (apure P cs (.call c) e m).ok) ∧ K (gdv cs (apure P cs (.call c) e m).v) m
    | .value f => match e f with | .fn g caps => acall P cs g (c.args.toList.map e ++ caps) m (k2 K) | _ => False
    | .invoke _ _ => False
  | op => (cs.all id = true → (apure P cs op e m).ok) ∧ K (gdv cs (apure P cs op e m).v) m

/-- Objects that a value names. -/
def idL : PV → List Id
  | .bp o _ => [o] | .pt o _ _ _ _ => [o] | .mp o => [o] | .sl o _ _ _ _ => [o] | _ => []
/-- What an operation looks at, and what it changes or makes. -/
def rdN (op : Op) (e : Operand → PV) : List Id := match op with
  | .load _ x => idL (e x)
  | .lookup _ x _ _ => idL (e x)
  | .convert _ _ x => idL (e x)
  | .call c => match c.callee with
    | .builtin .append => (match c.args.toList with | [_, x] => idL (e x) | _ => [])
    | _ => []
  | _ => []
def wrN (op : Op) (e : Operand → PV) (m : Mem) : List Id := match op with
  | .box _ _ | .alloc _ | .buildSlice _ _ _ | .makeSlice _ _ _ | .makeMap _ _ => [[m.nx]]
  | .store _ a _ => idL (e a)
  | .mapUpdate _ x _ _ => idL (e x)
  | .convert _ _ x => (match e x with | .str _ => [[m.nx]] | _ => [])
  | .call c => match c.callee with
    | .builtin .append => (match c.args.toList with | [s, _] => idL (e s) ++ [[m.nx]] | _ => [])
    | .builtin .delete => (match c.args.toList with | [x, _] => idL (e x) | _ => [])
    | _ => []
  | _ => []
/-- An operation, and its objects. -/
def aopD (P : Program) (cs : List Bool) (op : Op) (e : Operand → PV) (m : Mem) (K : PV → Mem → List Id → List Id → Prop) : Prop := match op with
  | .call c => match c.callee with
    | .value f => match e f with | .fn g caps => acall P cs g (c.args.toList.map e ++ caps) m K | _ => False
    | _ => aop P cs (.call c) e m (kD K (rdN (.call c) e) (wrN (.call c) e m))
  | op => aop P cs op e m (kD K (rdN op e) (wrN op e m))
def AS.ev (s : AS) : Operand → PV
  | .tmp t => s.t t
  | .const v => ofVal v
  | .func f => .fn f []
  | .global _ => .und
/-- The slot that operation j of a region fills. -/
def gtmp (ds : List (Option Tmp)) (j : Nat) : Option Tmp := (ds[j]?).bind id
/-- Under which tests an operation is carried out. -/
def agd (ds : List (Option Tmp)) (s : AS) : Option (Nat × Bool) → Option (List Bool)
  | none => some []
  | some (j, b) => match gtmp ds j with
    | some t => match s.t t with
      | .bool x => some [bif b then x else !x]
      | .gd cs (.bool x) => some (cs ++ [bif b then x else !x])
      | _ => none
    | none => none
def arun (P : Program) (nt : Nat) (ds : List (Option Tmp)) : List Oper → (AS → Prop) → AS → Prop
  | [], K, s => K s
  | o :: rest, K, s => match agd ds s o.guard with
    | some cs => (o.dst.all (· < nt) = true) ∧ aop P cs o.op (fun x => strip cs (s.ev x)) s.m (fun r m' => arun P nt ds rest K (({ s with m := m' } : AS).put o.dst r))
    | none => False
end Go.Proofs.YtofaiiobggnibaaW.AW
