/- Variables, stores: what the model does is what the words say. Plain lemmas: no statement of the program. -/
import Derived.Test.YtolejglfohagnaaWB12
namespace Go.Proofs.YtolejglfohagnaaW.AW
open Go Go.RowKit
set_option linter.unusedVariables false
set_option linter.unusedSimpArgs false

section
variable {P : Program} {β κ : Id → Nat} {A : Id → Nat → Prop} {w : World} {S : Nat → Prop} {m : Mem} {D : Id → Prop} {e : Operand → PV} {ρ : Operand → Value} {o : Oper} {cs : List Bool}
theorem OV.cap {D : Id → Prop} {v : Value} {p : PV} (h : OV β κ D w S v p) {o : Id} {g K : Nat} (hx : ¬ D o) {w' : World} {n : Nat} (hS : ∀ k, S k → w'.heap[k]? = w.heap[k]?) : OV (upd β o g) (upd κ o K) (gdN D n) w' S v p :=
  h.move (fun i hi => by have : i ≠ o := fun e => hx (e ▸ hi); simp [upd, this]) (fun _ h => .inl h) (fun _ h => h) hS
theorem not_hb (n : Nat) : ¬ hb [n] n := by simp [hb]
theorem alloc_old (w : World) (x : Obj) {k : Nat} (h : k < w.heap.size) : (w.alloc x).heap[k]? = w.heap[k]? := heap_alloc_old w x k h
theorem addr_add0 (g j : Nat) : (⟨g, 0, none⟩ : Addr).add j = ⟨g, j, none⟩ := by rw [Addr.add_lit, Nat.zero_add]
/-- A block of cells that own nothing. -/
theorem Blk.flat {D : Id → Prop} {b sz n c : Nat} {g : Nat → List PV} {cur : Array Value} {e : TypeId} {fz : Nat × Nat} (hh : w.heap[b]? = some (.cells cur e fz)) (hz : fzOk fz cur.size) (hs : cur.size = c * sz) (hn : n ≤ c) (hl : ∀ i, i < n → (g i).length = sz)
    (hc : ∀ i j p, i < n → (g i)[j]? = some p → ∃ v, cur[i * sz + j]? = some v ∧ v.oneCell' = true ∧ OV β κ D w S v p) : Blk β κ D w S (fun k => k = b) b sz n c g := by
  refine ⟨cur, e, fz, fun _ _ _ => False, hh, hz, hs, hn, hl, ⟨fun _ _ h => h, fun _ _ _ _ _ h => h.elim, fun _ _ _ h => h.elim, fun k => by simp⟩, fun i j p hi hp => ?_⟩
  obtain ⟨v, h1, h2, h3⟩ := hc i j p hi hp
  have : cur.getD (i * sz + j) undef = v := by simp [Array.getD_eq_getD_getElem?, h1]
  rw [this]
  exact ⟨h2, .inl ⟨h3, fun _ h => h⟩⟩
/-- A variable is made. -/
theorem new_box (fr : Fr D m.nx) (hm : MRD w S D m β κ A) {cur : Array Value} {ps : List PV} (hc : CR β κ D w S cur ps) (el : TypeId) (K : PV → Mem → Prop) (hK : K (.bp [m.nx] 0) (m.grow none (.box ps))) : Left w S D m β κ A K (.pointer (some ⟨w.heap.size, 0, none⟩)) (w.alloc (.cells cur el)) := by
  have hS : ∀ k, S k → (w.alloc (.cells cur el)).heap[k]? = w.heap[k]? := fun k hk => alloc_old w _ (hm.lt k hk)
  have eβ : upd β [m.nx] w.heap.size [m.nx] = w.heap.size := by simp [upd]
  have hb : Blk (upd β [m.nx] w.heap.size) (upd κ [m.nx] 1) (gdN D m.nx) (w.alloc (.cells cur el)) S (fun k => k = w.heap.size) w.heap.size ps.length 1 1 (fun _ => ps) :=
    Blk.flat (heap_alloc_new w _) (.inl rfl) (by rw [hc.1, Nat.one_mul]) (Nat.le_refl _) (fun _ _ => rfl) (fun i j p hi hp => by
      obtain rfl : i = 0 := by omega
      obtain ⟨v, h1, h2, h3⟩ := hc.at_ hp
      exact ⟨v, by simpa using h1, h2, h3.cap (fun h => fr.ne h rfl) hS⟩)
  obtain ⟨h1, h2⟩ := hm.grow fr none (x := .box ps) (g := w.heap.size) (K := 1) (w' := w.alloc (.cells cur el)) (B := fun k => k = w.heap.size) rfl rfl rfl (by simp) (fun k hk => .inl (by omega)) (fun k hk _ => alloc_old w _ hk)
    (by show Blk _ _ _ _ _ _ (upd β [m.nx] w.heap.size [m.nx]) _ _ _ _; rw [eβ]; exact hb)
  refine ⟨_, _, _, _, _, _, _, hK, h1, h2, ?_, fun _ => Iff.rfl⟩
  have := OV.bp (β := upd β [m.nx] w.heap.size) (κ := upd κ [m.nx] 1) (D := gdN D m.nx) (w := w.alloc (.cells cur el)) (S := S) [m.nx] 0 (gd_new _)
  rwa [eβ] at this
/-- A row is made. -/
theorem new_row (fr : Fr D m.nx) (hm : MRD w S D m β κ A) (q : Option Id) {w' : World} {gb cap sz n : Nat} {g : Nat → List PV} {B : Nat → Prop} (hos : w'.os = w.os) (ht : w'.tape = w.tape) (hout : w'.output = w.output) (hsz : w.heap.size ≤ w'.heap.size)
    (hB : ∀ k, B k → w.heap.size ≤ k ∨ ∃ o x0, q = some o ∧ m.o o = some x0 ∧ A o k) (hold : ∀ k, k < w.heap.size → (∀ o x0, q = some o → m.o o = some x0 → ¬ A o k) → w'.heap[k]? = w.heap[k]?)
    (hblk : Blk β κ D w' S B gb sz n cap g) (hcap : cap ≤ 9223372036854775807) (hs0 : 0 < sz) (K : PV → Mem → Prop) (hK : K (.sl [m.nx] sz n 0 n) (m.grow q (.row sz n g))) :
    Left w S D m β κ A K (.slice (some ⟨gb, 0, none⟩) n cap) w' := by
  have hS : ∀ k, S k → w'.heap[k]? = w.heap[k]? := hm.keepS (fun k hk hn => hold k hk (fun o x0 _ h1 h2 => hn ⟨o, x0, h1, h2⟩))
  have eβ : upd β [m.nx] gb [m.nx] = gb := by simp [upd]
  have eκ : upd κ [m.nx] cap [m.nx] = cap := by simp [upd]
  have hn : n ≤ cap := by obtain ⟨_, _, _, _, _, _, _, h, _⟩ := hblk; exact h
  have hv : OV (upd β [m.nx] gb) (upd κ [m.nx] cap) (gdN D m.nx) w' S (.slice (some ⟨gb, 0, none⟩) n cap) (.sl [m.nx] sz n 0 n) :=
    .sl _ _ _ _ _ _ _ (gd_new _) hn (by omega) (by rw [eκ]; omega) (by rw [eκ]; exact hcap) (fun _ => by rw [eβ]; simp)
  have hmv : Blk (upd β [m.nx] gb) (upd κ [m.nx] cap) (gdN D m.nx) w' S B gb sz n cap g := hblk.move (fun i hi => by simp [upd, fr.ne hi]) (fun _ h => .inl h) (fun _ h => h) (fun _ _ => rfl) (fun _ _ => rfl)
  rcases Nat.eq_zero_or_pos cap with h0 | h0
  · obtain ⟨h1, h2⟩ := hm.grow fr q (x := .row sz n g) (g := gb) (K := cap) (B := fun _ => False) hos ht hout hsz (fun k hk => hk.elim) hold (.inl ⟨by rw [eκ]; exact h0, by omega, fun _ h => h⟩)
    exact ⟨_, _, _, _, _, _, _, hK, h1, h2, hv, fun _ => Iff.rfl⟩
  · obtain ⟨h1, h2⟩ := hm.grow fr q (x := .row sz n g) (g := gb) (K := cap) (B := B) hos ht hout hsz hB hold (.inr ⟨by rw [eκ]; exact h0, by rw [eκ]; exact hcap, hs0, by rw [eβ, eκ]; exact hmv⟩)
    exact ⟨_, _, _, _, _, _, _, hK, h1, h2, hv, fun _ => Iff.rfl⟩
/-- A row of nothing that lies nowhere. -/
theorem new_none (fr : Fr D m.nx) (hm : MRD w S D m β κ A) (q : Option Id) {sz : Nat} {g : Nat → List PV} {Ad : Option Addr} (K : PV → Mem → Prop) (hK : K (.sl [m.nx] sz 0 0 0) (m.grow q (.row sz 0 g))) : Left w S D m β κ A K (.slice Ad 0 0) w := by
  have eκ : upd κ [m.nx] 0 [m.nx] = 0 := by simp [upd]
  obtain ⟨h1, h2⟩ := hm.grow fr q (x := .row sz 0 g) (g := 0) (K := 0) (w' := w) (B := fun _ => False) rfl rfl rfl (Nat.le_refl _) (fun k hk => hk.elim) (fun _ _ _ => rfl) (.inl ⟨eκ, rfl, fun _ h => h⟩)
  exact ⟨_, _, _, _, _, _, _, hK, h1, h2, .sl _ _ _ _ _ _ _ (gd_new _) (Nat.le_refl _) (Nat.le_refl _) (by rw [eκ]) (by rw [eκ]; exact Nat.zero_le _) (fun h => absurd h (Nat.lt_irrefl 0)), fun _ => Iff.rfl⟩
/-- Cells stored into a row of which nothing is frozen. -/
theorem run_stores (g o : Nat) (t : TypeId) (fz : Nat × Nat) : ∀ (vs : List Value) (i : Nat) (cur : Array Value) (w : World), w.heap[g]? = some (.cells cur t fz) → fzOk fz cur.size → o + i + vs.length ≤ cur.size → (∀ v ∈ vs, v.oneCell' = true) →
    (storeCells ⟨g, o, none⟩ vs i).run P w = .ok () (w.setRow g (cur.toList.take (o + i) ++ vs ++ cur.toList.drop (o + i + vs.length)).toArray)
  | [], i, cur, w, hg, _, _, _ => by
    simp only [storeCells, List.append_nil, List.length_nil, Nat.add_zero, List.take_append_drop, Array.toArray_toList]
    rw [setRow_self w g cur t fz hg]
    rfl
  | v :: rest, i, cur, w, hg, hz, hl, h1 => by
    have hi : o + i < cur.size := by simp at hl; omega
    have hadd : (⟨g, o, none⟩ : Addr).add i = ⟨g, o + i, none⟩ := by unfold Addr.add; split <;> simp_all
    have hcell : w.cell? ⟨g, o + i, none⟩ = some cur[o + i] := by simp [World.cell?, hg, hi]
    have hfro : w.frozen? ⟨g, o + i, none⟩ = false := by
      obtain ⟨lo, hi'⟩ := fz
      simp only [World.frozen?, hg, Bool.and_eq_false_iff, decide_eq_false_iff_not]
      simp only [fzOk] at hz
      omega
    have hst : (store ((⟨g, o, none⟩ : Addr).add i) v).run P w = .ok () (w.setRow g (cur.setIfInBounds (o + i) v)) := by
      rw [hadd, run_store P w _ v _ (h1 v (by simp)), hcell]
      simp [hfro, setCell_eq_setRow w g (o + i) cur t fz v hg]
    have ih := run_stores g o t fz rest (i + 1) (cur.setIfInBounds (o + i) v) (w.setRow g (cur.setIfInBounds (o + i) v)) (setRow_heap w g cur _ t _ hg) (by simpa using hz) (by simp at hl ⊢; omega) (fun x hx => h1 x (by simp [hx]))
    simp only [storeCells, Sem.run_bind, hst, Result.andThen_ok, ih, setRow_setRow]
    congr 3
    have e := list_seg_step cur.toList (o + i) v rest (by simp at hl ⊢; omega)
    simpa [Array.toList_setIfInBounds, Nat.add_assoc] using e
/-- Cells of a block are written: what they owned is let go. -/
theorem Blk.store {D : Id → Prop} {B : Nat → Prop} {b sz n c : Nat} {g : Nat → List PV} (h : Blk β κ D w S B b sz n c g) (hS : ¬ S b) {k j : Nat} (hk : k < n) {vs : Array Value} {ps : List PV} (hv : CR β κ D w S vs ps) (hj : j + ps.length ≤ sz) :
    ∃ cur e fz cur', w.heap[b]? = some (.cells cur e fz) ∧ fzOk fz cur.size ∧ k * sz + j + vs.size ≤ cur.size ∧ cur' = (cur.toList.take (k * sz + j) ++ vs.toList ++ cur.toList.drop (k * sz + j + vs.size)).toArray ∧
      ∃ B', (∀ k, B' k → B k) ∧ Blk β κ D (w.setRow b cur') S B' b sz n c (upd g k (splice (g k) j ps)) := by
  obtain ⟨cur, e, fz, F, h1, hz, h2, h3, h4, h5, h6⟩ := h
  have hsz : (k + 1) * sz ≤ c * sz := Nat.mul_le_mul_right _ (by omega)
  rw [Nat.succ_mul] at hsz
  have hvs := hv.1
  refine ⟨cur, e, fz, _, h1, hz, by omega, rfl, fun x => x = b ∨ ∃ i j', (F i j' x ∧ ¬ (i = k ∧ j ≤ j' ∧ j' < j + ps.length)), fun x hx => ?_, ?_⟩
  · rcases hx with rfl | ⟨i, j', hx, _⟩
    · exact (h5.eq _).2 (.inl rfl)
    · exact (h5.eq _).2 (.inr ⟨i, j', hx⟩)
  have hS' : ∀ x, S x → ∀ cur', (w.setRow b cur').heap[x]? = w.heap[x]? := fun x hx cur' => setRow_other w b x _ (fun e => hS (e ▸ hx))
  have hcs : ((cur.toList.take (k * sz + j) ++ vs.toList ++ cur.toList.drop (k * sz + j + vs.size)).toArray).size = cur.size := by simp; omega
  have at_ : ∀ y, ((cur.toList.take (k * sz + j) ++ vs.toList ++ cur.toList.drop (k * sz + j + vs.size)).toArray).getD y undef = if k * sz + j ≤ y ∧ y < k * sz + j + vs.size then vs.getD (y - (k * sz + j)) undef else cur.getD y undef := fun y => by
    simp only [Array.getD_eq_getD_getElem?, List.getElem?_toArray, List.append_assoc]
    have hl : (cur.toList.take (k * sz + j)).length = k * sz + j := by simp; omega
    rw [List.getElem?_append, hl]
    by_cases hy : y < k * sz + j
    · rw [if_pos hy, if_neg (by omega), List.getElem?_take, if_pos hy]; simp
    · rw [if_neg hy, List.getElem?_append]
      by_cases hy2 : y - (k * sz + j) < vs.toList.length
      · rw [if_pos hy2, if_pos (by simp at hy2; omega)]; simp
      · rw [if_neg hy2, if_neg (by simp at hy2; omega), List.getElem?_drop]
        have : k * sz + j + vs.size + (y - (k * sz + j) - vs.toList.length) = y := by simp at hy2 ⊢; omega
        rw [this]; simp
  have hlk : (g k).length = sz := h4 k hk
  have hlen : (splice (g k) j ps).length = sz := by simp [splice]; omega
  refine ⟨_, e, fz, fun i j' x => F i j' x ∧ ¬ (i = k ∧ j ≤ j' ∧ j' < j + ps.length), setRow_heap w _ _ _ _ _ h1, by rw [hcs]; exact hz, by rw [hcs]; exact h2, h3, fun i hi => ?_, ⟨fun i j' h => h5.nb i j' h.1, fun i j1 i' j2 x a b => h5.dj i j1 i' j2 x a.1 b.1, fun i j' x h => h5.dm i j' x h.1, fun x => Iff.rfl⟩, fun i j' p hi hp => ?_⟩
  · unfold upd; split
    · exact hlen
    · exact h4 i hi
  have lt_ : ∀ a b : Nat, a < b → a * sz + sz ≤ b * sz := fun a b hab => by have := Nat.mul_le_mul_right sz (show a + 1 ≤ b by omega); rwa [Nat.succ_mul] at this
  have hmv : ∀ F0 : Nat → Prop, (∀ x, F0 x → x ≠ b) → ∀ v q, TV β κ D w S F0 v q → TV β κ D (w.setRow b ((cur.toList.take (k * sz + j) ++ vs.toList ++ cur.toList.drop (k * sz + j + vs.size)).toArray)) S F0 v q := fun F0 hF v q hq =>
    hq.move (fun _ _ => ⟨rfl, rfl⟩) (fun _ h => h) (fun _ h => h) (fun x hx => hS' x hx _) (fun x hx => setRow_other w b x _ (hF x hx))
  have hnb : ∀ i j' x, F i j' x → x ≠ b := fun i j' x hx e => h5.nb i j' (e ▸ hx)
  have same : ∀ v q, ¬ (i = k ∧ j ≤ j' ∧ j' < j + ps.length) → TV β κ D w S (F i j') v q → TV β κ D (w.setRow b ((cur.toList.take (k * sz + j) ++ vs.toList ++ cur.toList.drop (k * sz + j + vs.size)).toArray)) S (fun x => F i j' x ∧ ¬ (i = k ∧ j ≤ j' ∧ j' < j + ps.length)) v q := fun v q hc hq => by
    have e : (fun x => F i j' x ∧ ¬ (i = k ∧ j ≤ j' ∧ j' < j + ps.length)) = F i j' := by funext x; simp only [hc, not_false_eq_true, and_true]
    rw [e]; exact hmv _ (hnb i j') v q hq
  rw [at_]
  unfold upd at hp
  by_cases ek : i = k
  · subst ek
    rw [if_pos rfl] at hp
    have hj' : j' < sz := by rw [← hlen]; exact (List.getElem?_eq_some_iff.1 hp).1
    have ltk : ((g i).take j).length = j := by rw [List.length_take]; omega
    simp only [splice, List.append_assoc] at hp
    rw [List.getElem?_append, ltk] at hp
    by_cases hin : j ≤ j' ∧ j' < j + ps.length
    · rw [if_pos (by omega)]
      rw [if_neg (by omega), List.getElem?_append, if_pos (by omega)] at hp
      have e1 : i * sz + j' - (i * sz + j) = j' - j := by omega
      rw [e1]
      exact ⟨(hv.2 _ p hp).1, .inl ⟨(hv.2 _ p hp).2.move (fun _ _ => ⟨rfl, rfl⟩) (fun _ h => h) (fun _ h => h) (fun x hx => hS' x hx _), fun x hx => hx.2 ⟨rfl, hin⟩⟩⟩
    · rw [if_neg (by omega)]
      have hp2 : (g i)[j']? = some p := by
        by_cases hlt : j' < j
        · rw [if_pos (by omega), List.getElem?_take, if_pos hlt] at hp; exact hp
        · rw [if_neg (by omega), List.getElem?_append, if_neg (by omega), List.getElem?_drop] at hp
          rw [← hp]; congr 1; omega
      exact ⟨(h6 i j' p hi hp2).1, same _ _ (fun h => hin h.2) (h6 i j' p hi hp2).2⟩
  · rw [if_neg ek] at hp
    have hj' : j' < sz := by rw [← h4 i hi]; exact (List.getElem?_eq_some_iff.1 hp).1
    rw [if_neg (by
      rcases Nat.lt_or_gt_of_ne ek with hlt | hlt
      · have := lt_ _ _ hlt; omega
      · have := lt_ _ _ hlt; omega)]
    exact ⟨(h6 i j' p hi hp).1, same _ _ (fun h => ek h.1) (h6 i j' p hi hp).2⟩
variable (hm : MRD w S D m β κ A) (he : ∀ x, OV β κ D w S (ρ x) (e x)) (fr : Fr D m.nx)
include hm he fr
theorem o_box {t : TypeId} {x : Operand} {vs : List PV} (ho : o.op = .box t x) (hv : pcells (e x) = some vs) (K : PV → Mem → Prop) (hK : K (.bp [m.nx] 0) (m.grow none (.box vs))) : ∃ v w', (execOp ρ o).run P w = .ok (.value v) w' ∧ Left w S D m β κ A K v w' :=
  ⟨_, _, by simp [execOp, ho, Instr.box, newVar, newRow], new_box fr hm (CR.of (he x) hv) t K hK⟩
omit he in
theorem o_alloc {t : TypeId} (ho : o.op = .alloc t) (hz : (tyD P t).zok = true) (K : PV → Mem → Prop) (hK : K (.bp [m.nx] 0) (m.grow none (.box (tyD P t).zc))) : ∃ v w', (execOp ρ o).run P w = .ok (.value v) w' ∧ Left w S D m β κ A K v w' := by
  obtain ⟨z, hzr, hzs, hz1, hzc⟩ := zero_ok (β := β) (κ := κ) (D := D) (w := w) (S := S) hz
  exact ⟨_, _, by simp [execOp, ho, Instr.alloc, newVar, newRow, hzr], new_box fr hm hzc t K hK⟩
omit fr in
theorem o_store {t : TypeId} {a x : Operand} (ho : o.op = .store t a x) (K : PV → Mem → Prop) (h : astore P t (e a) (e x) m K) : ∃ w', (execOp ρ o).run P w = .ok .skip w' ∧ Left w S D m β κ A K undef w' := by
  unfold astore at h
  split at h
  · rename_i vs hvs
    have hv := CR.of (he x) hvs
    have ha := he a
    have one : ∀ u ∈ (ρ x).cells.toList, u.oneCell' = true := fun u hu => by
      obtain ⟨j, hj⟩ := List.getElem?_of_mem hu
      have hlt : j < vs.length := by rw [← hv.1]; simpa using (List.getElem?_eq_some_iff.1 hj).1
      obtain ⟨v, h1, h2, _⟩ := hv.at_ (List.getElem?_eq_getElem hlt)
      have : (ρ x).cells[j]? = some u := by simpa using hj
      rw [this] at h1; cases h1; exact h2
    have run_ : ∀ (g off : Nat) (cur : Array Value) (el : TypeId) (fz : Nat × Nat), ρ a = .pointer (some ⟨g, off, none⟩) → w.heap[g]? = some (.cells cur el fz) → fzOk fz cur.size → off + (ρ x).cells.size ≤ cur.size → vs.length = (tyD P t).sz → tk P t ≠ .other →
        (execOp ρ o).run P w = .ok .skip (w.setRow g (cur.toList.take off ++ (ρ x).cells.toList ++ cur.toList.drop (off + (ρ x).cells.size)).toArray) := by
      intro g off cur el fz h1 h2 hz h3 h4 h5
      have hst := run_stores (P := P) g off el fz (ρ x).cells.toList 0 cur w h2 hz (by simpa using h3) one
      obtain ⟨d, hd⟩ := Option.isSome_iff_exists.1 (tk_some h5)
      have hsz := run_sz hd w
      have e1 : (ρ x).cells.size = P.cellsOf t := by rw [hv.1, h4]; rfl
      simp only [Nat.add_zero, Array.length_toList] at hst
      simp [execOp, ho, Instr.storeAt, h1, Instr.sureAddr, storeVar, hsz, e1, hst]
    split at h
    · rename_i i j hx
      rw [hx] at ha
      obtain ⟨e1, h1⟩ := ha.bp_inv
      split at h
      · rename_i ps hb
        obtain ⟨⟨k1, k2, k3⟩, hK⟩ := h
        have hbk : ¬ S (β i) := by
          have := hm.ob i _ hb
          obtain ⟨_, _, _, _, _, _, _, _, _, h5, _⟩ := (this : Blk _ _ _ _ _ _ _ _ _ _ _)
          exact hm.ns i _ _ hb ((h5.eq _).2 (.inl rfl))
        obtain ⟨cur, el, fz, cur', g1, g2, g3, rfl, B', g4, g5⟩ := Blk.store (hm.ob i _ hb : Blk _ _ _ _ _ _ _ _ _ _ _) hbk (k := 0) (j := j) Nat.zero_lt_one hv k3
        rw [Nat.zero_mul, Nat.zero_add] at *
        obtain ⟨p1, p2⟩ := hm.put (x' := .box (splice ps j vs)) (B := B') hb (w' := w.setRow (β i) _) rfl rfl rfl (by simp) g4 (fun k hk => setRow_other w _ k _ (fun e => hk (by
          have := hm.ob i _ hb
          obtain ⟨_, _, _, _, _, _, _, _, _, h5, _⟩ := (this : Blk _ _ _ _ _ _ _ _ _ _ _)
          exact (h5.eq _).2 (.inl e)))) (by
          show Blk _ _ _ _ _ _ _ _ _ _ _
          have e2 : (splice ps j vs).length = ps.length := by simp [splice]; omega
          rw [e2]
          obtain ⟨c1, c2, c3, c4, c5, c6, c7, c8, c9, c10, c11⟩ := g5
          exact ⟨c1, c2, c3, c4, c5, c6, c7, c8, fun i hi => e2, c10, fun i' j' p hi hp => c11 i' j' p hi (by
            obtain rfl : i' = 0 := by omega
            simpa [upd] using hp)⟩)
        exact ⟨_, run_ _ _ _ _ _ e1 g1 g2 g3 k1 k2, _, _, _, _, _, _, _, hK, p1, p2, .rv _ _ (.und _), dsame⟩
      · exact h.elim
    · rename_i i sz n k j hx
      rw [hx] at ha
      obtain ⟨e1, h1, h2⟩ := ha.pt_inv
      split at h
      · rename_i sz' n' g hb
        obtain ⟨⟨k1, k2, rfl, rfl, k5⟩, hK⟩ := h
        rcases hm.ob i _ hb with ⟨_, h0, _⟩ | ⟨q1, q2, q3, hblk⟩
        · omega
        have hAb : A i (β i) := by obtain ⟨_, _, _, _, _, _, _, _, _, h5, _⟩ := hblk; exact (h5.eq _).2 (.inl rfl)
        obtain ⟨cur, el, fz, cur', g1, g2, g3, rfl, B', g4, g5⟩ := Blk.store hblk (hm.ns i _ _ hb hAb) (k := k) (j := j) h2 hv k5
        obtain ⟨p1, p2⟩ := hm.put (x' := .row sz' n' (upd g k (splice (g k) j vs))) (B := B') hb (w' := w.setRow (β i) _) rfl rfl rfl (by simp) g4 (fun k hk => setRow_other w _ k _ (fun e => hk (e ▸ hAb))) (.inr ⟨q1, q2, q3, g5⟩)
        exact ⟨_, run_ _ _ _ _ _ e1 g1 g2 g3 k1 k2, _, _, _, _, _, _, _, hK, p1, p2, .rv _ _ (.und _), dsame⟩
      · exact h.elim
    · exact h.elim
  · exact h.elim
end
end Go.Proofs.YtolejglfohagnaaW.AW
