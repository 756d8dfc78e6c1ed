/- Variables, stores: what the model does is what the words say. Plain lemmas: no statement of the program. -/
import Derived.Test.YtolejglfohagnaaWA12
namespace Go.Proofs.YtolejglfohagnaaW.AW
open Go Go.RowKit
set_option linter.unusedVariables false
set_option linter.unusedSimpArgs false

section
variable {P : Program} {β κ : Id → Nat} {w : World} {S : Nat → Prop} {m : Mem} {e : Operand → PV} {ρ : Operand → Value} {o : Oper} {cs : List Bool}
/-- What an operation leaves: the model's value and world, the words' answer and memory. -/
def Left (w : World) (S : Nat → Prop) (m : Mem) (β κ : Id → Nat) (K : PV → Mem → Prop) (v : Value) (w' : World) : Prop :=
  ∃ r m' S' β' κ', K r m' ∧ Ext w S m β κ w' S' m' β' κ' ∧ MR w' S' m' β' κ' ∧ OV β' κ' m'.nx w' S' v r
theorem OV.cap {nx : Nat} {v : Value} {p : PV} (h : OV β κ nx w S v p) {o : Id} {g K : Nat} (hx : ¬ hb o nx) {w' : World} (hS : ∀ k, S k → w'.heap[k]? = w.heap[k]?) : OV (upd β o g) (upd κ o K) (nx + 1) w' S v p :=
  h.move (fun i hi => by have : i ≠ o := fun e => hx (e ▸ hi); simp [upd, this]) (Nat.le_succ _) (fun _ h => h) hS
theorem not_hb (n : Nat) : ¬ hb [n] n := by simp [hb]
theorem alloc_old (w : World) (x : Obj) {k : Nat} (h : k < w.heap.size) : (w.alloc x).heap[k]? = w.heap[k]? := heap_alloc_old w x k h
theorem addr_add0 (g j : Nat) : (⟨g, 0, none⟩ : Addr).add j = ⟨g, j, none⟩ := by rw [Addr.add_lit, Nat.zero_add]
/-- A variable is made. -/
theorem new_box (hm : MR w S m β κ) {cur : Array Value} {ps : List PV} (hc : CR β κ m.nx w S cur ps) (el : TypeId) (K : PV → Mem → Prop) (hK : K (.bp [m.nx] 0) (m.grow none (.box ps))) : Left w S m β κ K (.pointer (some ⟨w.heap.size, 0, none⟩)) (w.alloc (.cells cur el)) := by
  have hS : ∀ k, S k → (w.alloc (.cells cur el)).heap[k]? = w.heap[k]? := fun k hk => alloc_old w _ (hm.lt k hk)
  obtain ⟨h1, h2⟩ := hm.grow none (x := .box ps) (g := w.heap.size) (K := 1) (w' := w.alloc (.cells cur el)) rfl rfl rfl (by simp) (.inl (Nat.le_refl _)) (fun k hk _ => alloc_old w _ hk)
    ⟨cur, el, by rw [show upd β [m.nx] w.heap.size [m.nx] = w.heap.size by simp [upd]]; exact heap_alloc_new w _, hc.1, fun j p hp => ⟨(hc.2 j p hp).1, (hc.2 j p hp).2.cap (not_hb _) hS⟩⟩
  refine ⟨_, _, _, _, _, hK, h1, h2, ?_⟩
  have := OV.bp (β := upd β [m.nx] w.heap.size) (κ := upd κ [m.nx] 1) (nx := m.nx + 1) (w := w.alloc (.cells cur el)) (S := S) [m.nx] 0 (by simp [hb])
  rwa [show upd β [m.nx] w.heap.size [m.nx] = w.heap.size by simp [upd]] at this
/-- A row is made. -/
theorem new_row (hm : MR w S m β κ) (q : Option Id) {w' : World} {gb cap sz n : Nat} {g : Nat → List PV} {cur : Array Value} {el : TypeId} (hos : w'.os = w.os) (ht : w'.tape = w.tape) (hout : w'.output = w.output) (hsz : w.heap.size ≤ w'.heap.size)
    (hg : w.heap.size ≤ gb ∨ (∃ o x0, q = some o ∧ m.o o = some x0 ∧ real κ o x0 ∧ β o = gb)) (hold : ∀ k, k < w.heap.size → (∀ o x0, q = some o → m.o o = some x0 → real κ o x0 → β o ≠ k) → w'.heap[k]? = w.heap[k]?)
    (hb' : w'.heap[gb]? = some (.cells cur el (0, 0))) (hcs : cur.size = cap * sz) (hn : n ≤ cap) (hcap : cap ≤ 9223372036854775807) (hs0 : 0 < sz) (hl : ∀ i, i < n → (g i).length = sz)
    (hc : ∀ i j p, i < n → (g i)[j]? = some p → ∃ v, cur[i * sz + j]? = some v ∧ v.oneCell' = true ∧ OV β κ m.nx w S v p) (K : PV → Mem → Prop) (hK : K (.sl [m.nx] sz n 0 n) (m.grow q (.row sz n g))) :
    Left w S m β κ K (.slice (some ⟨gb, 0, none⟩) n cap) w' := by
  have hS : ∀ k, S k → w'.heap[k]? = w.heap[k]? := fun k hk => hold k (hm.lt k hk) (fun o x0 _ h1 h2 e => hm.ns k ⟨o, x0, h1, h2, e⟩ hk)
  have eβ : upd β [m.nx] gb [m.nx] = gb := by simp [upd]
  have eκ : upd κ [m.nx] cap [m.nx] = cap := by simp [upd]
  obtain ⟨h1, h2⟩ := hm.grow q (x := .row sz n g) (g := gb) (K := cap) hos ht hout hsz (by rcases hg with h | h; exact .inl h; exact .inr (.inl h)) hold
    (.inr ⟨cur, el, by rw [eβ]; exact hb', by rw [eκ]; exact hcs, by rw [eκ]; exact hn, by rw [eκ]; exact hcap, hs0, hl, fun i j p hi hp => by
      obtain ⟨v, h3, h4, h5⟩ := hc i j p hi hp
      have : cur.getD (i * sz + j) undef = v := by simp [Array.getD_eq_getD_getElem?, h3]
      rw [this]
      exact ⟨h4, h5.cap (not_hb _) hS⟩⟩)
  refine ⟨_, _, _, _, _, hK, h1, h2, .sl _ _ _ _ _ _ _ (by simp [hb, Mem.grow]) hn (by omega) (by rw [eκ]; omega) (by rw [eκ]; exact hcap) (fun _ => by rw [eβ]; simp)⟩
/-- A row of nothing that lies nowhere. -/
theorem new_none (hm : MR w S m β κ) {sz : Nat} {g : Nat → List PV} (K : PV → Mem → Prop) (hK : K (.sl [m.nx] sz 0 0 0) (m.grow none (.row sz 0 g))) : Left w S m β κ K (.slice none 0 0) w := by
  have eκ : upd κ [m.nx] 0 [m.nx] = 0 := by simp [upd]
  obtain ⟨h1, h2⟩ := hm.grow none (x := .row sz 0 g) (g := 0) (K := 0) (w' := w) rfl rfl rfl (Nat.le_refl _) (.inr (.inr (by simp [real, eκ]))) (fun _ _ _ => rfl) (.inl ⟨eκ, rfl⟩)
  exact ⟨_, _, _, _, _, hK, h1, h2, .sl _ _ _ _ _ _ _ (by simp [hb, Mem.grow]) (Nat.le_refl _) (Nat.le_refl _) (by rw [eκ]) (by rw [eκ]; exact Nat.zero_le _) (fun h => absurd h (Nat.lt_irrefl 0))⟩
variable (hm : MR w S m β κ) (he : ∀ x, OV β κ m.nx w S (ρ x) (e x))
include hm he
theorem o_box {t : TypeId} {x : Operand} {vs : List PV} (ho : o.op = .box t x) (hv : pcells (e x) = some vs) (K : PV → Mem → Prop) (hK : K (.bp [m.nx] 0) (m.grow none (.box vs))) : ∃ v w', (execOp ρ o).run P w = .ok (.value v) w' ∧ Left w S m β κ K v w' :=
  ⟨_, _, by simp [execOp, ho, Instr.box, newVar, newRow], new_box hm (CR.of (he x) hv) t K hK⟩
omit he in
theorem o_alloc {t : TypeId} (ho : o.op = .alloc t) (hz : (tyD P t).zok = true) (K : PV → Mem → Prop) (hK : K (.bp [m.nx] 0) (m.grow none (.box (tyD P t).zc))) : ∃ v w', (execOp ρ o).run P w = .ok (.value v) w' ∧ Left w S m β κ K v w' := by
  obtain ⟨z, hzr, hzs, hz1, hzc⟩ := zero_ok (β := β) (κ := κ) (nx := m.nx) (w := w) (S := S) hz
  exact ⟨_, _, by simp [execOp, ho, Instr.alloc, newVar, newRow, hzr], new_box hm hzc t K hK⟩
theorem o_store {t : TypeId} {a x : Operand} (ho : o.op = .store t a x) (K : PV → Mem → Prop) (h : astore P t (e a) (e x) m K) : ∃ w', (execOp ρ o).run P w = .ok .skip w' ∧ Left w S m β κ K undef w' := by
  unfold astore at h
  split at h
  · rename_i vs hvs
    have hv := CR.of (he x) hvs
    have ha := he a
    have one : ∀ u ∈ (ρ x).cells.toList, u.oneCell' = true := fun u hu => by
      obtain ⟨j, hj⟩ := List.getElem?_of_mem hu
      have hlt : j < vs.length := by rw [← hv.1]; simpa using (List.getElem?_eq_some_iff.1 hj).1
      obtain ⟨v, h1, h2, _⟩ := hv.at_ (List.getElem?_eq_getElem hlt)
      have : (ρ x).cells[j]? = some u := by simpa using hj
      rw [this] at h1; cases h1; exact h2
    have run_ : ∀ (g off : Nat) (cur : Array Value) (el : TypeId), ρ a = .pointer (some ⟨g, off, none⟩) → w.heap[g]? = some (.cells cur el (0, 0)) → off + vs.length ≤ cur.size → vs.length = (tyD P t).sz → tk P t ≠ .other →
        ∃ cur', (execOp ρ o).run P w = .ok .skip (w.setRow g cur') ∧ cur'.size = cur.size ∧ ∀ y, cur'[y]? = if off ≤ y ∧ y < off + (ρ x).cells.size ∧ y < cur.size then (ρ x).cells[y - off]? else cur[y]? := by
      intro g off cur el h1 h2 h3 h4 h5
      have hl : (ρ x).cells.toList.length = vs.length := by simpa using hv.1
      have hst := run_storeCells_at P g off el (ρ x).cells.toList 0 cur w h2 (by rw [hl]; simpa using h3) one
      obtain ⟨d, hd⟩ := Option.isSome_iff_exists.1 (tk_some h5)
      have hsz := run_sz hd w
      have e1 : (ρ x).cells.size = P.cellsOf t := by rw [hv.1, h4]; rfl
      simp only [Nat.add_zero] at hst
      refine ⟨(cur.toList.take off ++ (ρ x).cells.toList ++ cur.toList.drop (off + (ρ x).cells.toList.length)).toArray, by simp [execOp, ho, Instr.storeAt, h1, Instr.sureAddr, storeVar, hsz, e1, hst], by simp only [List.size_toArray, List.length_append, List.length_take, List.length_drop, Array.length_toList] at hl ⊢; omega, fun y => ?_⟩
      simp only [List.getElem?_toArray]
      have lt_ : (cur.toList.take off).length = off := by simp; omega
      rw [List.append_assoc, List.getElem?_append]
      by_cases hy : y < off
      · rw [if_pos (by rw [lt_]; exact hy), if_neg (by omega), List.getElem?_take, if_pos hy]; simp
      · rw [if_neg (by rw [lt_]; exact hy), lt_, List.getElem?_append]
        have e5 : (ρ x).cells.toList.length = (ρ x).cells.size := Array.length_toList
        have e6 := hv.1
        by_cases hy2 : y - off < (ρ x).cells.toList.length
        · rw [if_pos hy2, if_pos (by omega)]; simp
        · rw [if_neg hy2, if_neg (by omega), List.getElem?_drop]
          have : off + (ρ x).cells.toList.length + (y - off - (ρ x).cells.toList.length) = y := by omega
          rw [this]; simp
    split at h
    · rename_i i j hx
      rw [hx] at ha
      obtain ⟨e1, h1⟩ := ha.bp_inv
      split at h
      · rename_i ps hb
        obtain ⟨⟨k1, k2, k3⟩, hK⟩ := h
        obtain ⟨cur, el, g1, g2, g3⟩ := hm.ob i _ hb
        obtain ⟨cur', r1, r2, r3⟩ := run_ _ _ cur el e1 g1 (by omega) k1 k2
        have hsp := CR.splice (β := β) (κ := κ) (nx := m.nx) (w := w) (S := S) (cur := cur) (ps := ps) ⟨g2, g3⟩ hv k3 r2 r3
        have hS : ∀ k, S k → (w.setRow (β i) cur').heap[k]? = w.heap[k]? := fun k hk => setRow_other w _ k _ (fun e => hm.ns k ⟨i, _, hb, trivial, e.symm⟩ hk)
        obtain ⟨p1, p2⟩ := hm.put (x' := .box (splice ps j vs)) hb trivial trivial (w' := w.setRow (β i) cur') rfl rfl rfl (by simp) (fun k hk => setRow_other w _ k _ hk)
          ⟨cur', el, setRow_heap w _ _ _ _ _ g1, by rw [hsp.1]; rfl, fun j' p hp => ⟨(hsp.2 j' p hp).1, (hsp.2 j' p hp).2.move (fun _ _ => ⟨rfl, rfl⟩) (Nat.le_refl _) (fun _ h => h) hS⟩⟩
        exact ⟨_, r1, _, _, _, _, _, hK, p1, p2, .rv _ _ (.und _)⟩
      · exact h.elim
    · rename_i i sz n k j hx
      rw [hx] at ha
      obtain ⟨e1, h1, h2⟩ := ha.pt_inv
      split at h
      · rename_i sz' n' g hb
        obtain ⟨⟨k1, k2, rfl, rfl, k5⟩, hK⟩ := h
        rcases hm.ob i _ hb with ⟨_, h0⟩ | ⟨cur, el, g1, g2, g3, g4, g5, g6, g7⟩
        · omega
        have hsz : (k + 1) * sz' ≤ κ i * sz' := Nat.mul_le_mul_right _ (by omega)
        rw [Nat.succ_mul] at hsz
        have hr : real κ i (.row sz' n' g) := show 0 < κ i by omega
        obtain ⟨cur', r1, r2, r3⟩ := run_ _ _ cur el e1 g1 (by omega) k1 k2
        have hS : ∀ k, S k → (w.setRow (β i) cur').heap[k]? = w.heap[k]? := fun k hk => setRow_other w _ k _ (fun e => hm.ns k ⟨i, _, hb, hr, e.symm⟩ hk)
        have hlen : (splice (g k) j vs).length = sz' := by
          have := g6 k h2
          simp [splice]; omega
        obtain ⟨p1, p2⟩ := hm.put (x' := .row sz' n' (upd g k (splice (g k) j vs))) hb hr hr (w' := w.setRow (β i) cur') rfl rfl rfl (by simp) (fun k hk => setRow_other w _ k _ hk)
          (.inr ⟨cur', el, setRow_heap w _ _ _ _ _ g1, by rw [r2]; exact g2, g3, g4, g5, fun i' hi' => by
            unfold upd; split
            · exact hlen
            · exact g6 i' hi', fun i' j' p hi' hp => by
            have hmv : ∀ v q, OV β κ m.nx w S v q → OV β κ m.nx (w.setRow (β i) cur') S v q := fun v q hq => hq.move (fun _ _ => ⟨rfl, rfl⟩) (Nat.le_refl _) (fun _ h => h) hS
            have lt_ : ∀ a b : Nat, a < b → a * sz' + sz' ≤ b * sz' := fun a b hab => by have := Nat.mul_le_mul_right sz' (show a + 1 ≤ b by omega); rwa [Nat.succ_mul] at this
            unfold upd at hp
            by_cases ek : i' = k
            · subst ek
              rw [if_pos rfl] at hp
              have hj' : j' < sz' := by rw [← hlen]; exact (List.getElem?_eq_some_iff.1 hp).1
              have lts : (g i').length = sz' := g6 i' hi'
              have ltk : ((g i').take j).length = j := by rw [List.length_take]; omega
              have e3 : cur'.getD (i' * sz' + j') undef = if j ≤ j' ∧ j' < j + vs.length then (ρ x).cells.getD (j' - j) undef else cur.getD (i' * sz' + j') undef := by
                simp only [Array.getD_eq_getD_getElem?, r3]
                by_cases hin : j ≤ j' ∧ j' < j + vs.length
                · rw [if_pos hin, if_pos (by rw [hv.1]; omega)]
                  congr 2; omega
                · rw [if_neg hin, if_neg (by rw [hv.1]; omega)]
              rw [e3]
              simp only [splice, List.append_assoc] at hp
              rw [List.getElem?_append] at hp
              by_cases hin : j ≤ j' ∧ j' < j + vs.length
              · rw [if_pos hin]
                rw [if_neg (by omega), ltk, List.getElem?_append, if_pos (by omega)] at hp
                exact ⟨(hv.2 _ p hp).1, hmv _ _ (hv.2 _ p hp).2⟩
              · rw [if_neg hin]
                have hp2 : (g i')[j']? = some p := by
                  by_cases hlt : j' < j
                  · rw [if_pos (by omega), List.getElem?_take, if_pos hlt] at hp; exact hp
                  · rw [if_neg (by omega), ltk, List.getElem?_append, if_neg (by omega), List.getElem?_drop] at hp
                    rw [← hp]; congr 1; omega
                exact ⟨(g7 i' j' p hi' hp2).1, hmv _ _ (g7 i' j' p hi' hp2).2⟩
            · rw [if_neg ek] at hp
              have hj' : j' < sz' := by rw [← g6 i' hi']; exact (List.getElem?_eq_some_iff.1 hp).1
              have e3 : cur'.getD (i' * sz' + j') undef = cur.getD (i' * sz' + j') undef := by
                simp only [Array.getD_eq_getD_getElem?, r3]
                rw [if_neg]
                rw [hv.1]
                rcases Nat.lt_or_gt_of_ne ek with hlt | hlt
                · have := lt_ _ _ hlt; omega
                · have := lt_ _ _ hlt; omega
              rw [e3]
              exact ⟨(g7 i' j' p hi' hp).1, hmv _ _ (g7 i' j' p hi' hp).2⟩⟩)
        exact ⟨_, r1, _, _, _, _, _, hK, p1, p2, .rv _ _ (.und _)⟩
      · exact h.elim
    · exact h.elim
  · exact h.elim
end
end Go.Proofs.YtolejglfohagnaaW.AW
