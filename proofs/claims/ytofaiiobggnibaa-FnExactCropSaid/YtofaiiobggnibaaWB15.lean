/- Variables, stores: what the model does is what the words say. Plain lemmas: no statement of the program. -/
import Derived.Test.YtofaiiobggnibaaWB12
import Derived.Lib.ConvBytes
namespace Go.Proofs.YtofaiiobggnibaaW.AW
open Go Go.RowKit
set_option linter.unusedVariables false
set_option linter.unusedSimpArgs false

section
variable {P : Program} {β κ : Id → Nat} {A : Id → Nat → Prop} {w : World} {S : Nat → Prop} {m : Mem} {D : Id → Prop} {e : Operand → PV} {ρ : Operand → Value} {o : Oper} {cs : List Bool}
theorem OV.cap {D : Id → Prop} {v : Value} {p : PV} (h : OV β κ D w S v p) {o : Id} {g K : Nat} (hx : ¬ D o) {w' : World} {n : Nat} (hS : ∀ k, S k → w'.heap[k]? = w.heap[k]?) : OV (upd β o g) (upd κ o K) (gdN D n) w' S v p :=
  h.move (fun i hi => by have : i ≠ o := fun e => hx (e ▸ hi); simp [upd, this]) (fun _ h => .inl h) (fun _ h => h) hS
theorem not_hb (n : Nat) : ¬ hb [n] n := by simp [hb]
theorem alloc_old (w : World) (x : Obj) {k : Nat} (h : k < w.heap.size) : (w.alloc x).heap[k]? = w.heap[k]? := heap_alloc_old w x k h
theorem addr_add0 (g j : Nat) : (⟨g, 0, none⟩ : Addr).add j = ⟨g, j, none⟩ := by rw [Addr.add_lit, Nat.zero_add]
/-- A block of cells that own nothing. -/
theorem Blk.flat {D : Id → Prop} {b sz n c : Nat} {g : Nat → List PV} {cur : Array Value} {e : TypeId} {fz : Nat × Nat} (hh : w.heap[b]? = some (.cells cur e fz)) (hz : fzOk fz cur.size) (hs : cur.size = c * sz) (hn : n ≤ c) (hl : ∀ i, i < n → (g i).length = sz)
    (hc : ∀ i j p, i < n → (g i)[j]? = some p → ∃ v, cur[i * sz + j]? = some v ∧ v.oneCell' = true ∧ OV β κ D w S v p) : Blk β κ D w S (fun k => k = b) b sz n c g := by
  refine ⟨cur, e, fz, fun _ _ _ => False, hh, hz, hs, hn, hl, ⟨fun _ _ h => h, fun _ _ _ _ _ h => h.elim, fun _ _ _ h => h.elim, fun k => by simp⟩, fun i j p hi hp => ?_⟩
  obtain ⟨v, h1, h2, h3⟩ := hc i j p hi hp
  have : cur.getD (i * sz + j) undef = v := by simp [Array.getD_eq_getD_getElem?, h1]
  rw [this]
  exact ⟨h2, .inl ⟨h3, fun _ h => h⟩⟩
/-- A variable is made. -/
theorem new_box (fr : Fr D m.nx) (hm : MRD w S D m β κ A) {cur : Array Value} {ps : List PV} (hc : CR β κ D w S cur ps) (el : TypeId) (K : PV → Mem → Prop) (hK : K (.bp [m.nx] 0) (m.grow none (.box ps))) : Left w S D m β κ A K (.pointer (some ⟨w.heap.size, 0, none⟩)) (w.alloc (.cells cur el)) := by
  have hS : ∀ k, S k → (w.alloc (.cells cur el)).heap[k]? = w.heap[k]? := fun k hk => alloc_old w _ (hm.lt k hk)
  have eβ : upd β [m.nx] w.heap.size [m.nx] = w.heap.size := by simp [upd]
  have hb : Blk (upd β [m.nx] w.heap.size) (upd κ [m.nx] 1) (gdN D m.nx) (w.alloc (.cells cur el)) S (fun k => k = w.heap.size) w.heap.size ps.length 1 1 (fun _ => ps) :=
    Blk.flat (heap_alloc_new w _) (.inl rfl) (by rw [hc.1, Nat.one_mul]) (Nat.le_refl _) (fun _ _ => rfl) (fun i j p hi hp => by
      obtain rfl : i = 0 := by omega
      obtain ⟨v, h1, h2, h3⟩ := hc.at_ hp
      exact ⟨v, by simpa using h1, h2, h3.cap (fun h => fr.ne h rfl) hS⟩)
  obtain ⟨h1, h2⟩ := hm.grow fr none (x := .box ps) (g := w.heap.size) (K := 1) (w' := w.alloc (.cells cur el)) (B := fun k => k = w.heap.size) rfl rfl rfl (by simp) (fun k hk => .inl (by omega)) (fun k hk _ => alloc_old w _ hk)
    (by show Blk _ _ _ _ _ _ (upd β [m.nx] w.heap.size [m.nx]) _ _ _ _; rw [eβ]; exact hb)
  refine ⟨_, _, _, _, _, _, _, hK, h1, h2, ?_, fun _ => Iff.rfl⟩
  have := OV.bp (β := upd β [m.nx] w.heap.size) (κ := upd κ [m.nx] 1) (D := gdN D m.nx) (w := w.alloc (.cells cur el)) (S := S) [m.nx] 0 (gd_new _)
  rwa [eβ] at this
/-- A row is made. -/
theorem new_row (fr : Fr D m.nx) (hm : MRD w S D m β κ A) (q : Option Id) {w' : World} {gb cap sz n : Nat} {g : Nat → List PV} {B : Nat → Prop} (hos : w'.os = w.os) (ht : w'.tape = w.tape) (hout : w'.output = w.output) (hsz : w.heap.size ≤ w'.heap.size)
    (hB : ∀ k, B k → w.heap.size ≤ k ∨ ∃ o x0, q = some o ∧ m.o o = some x0 ∧ A o k) (hold : ∀ k, k < w.heap.size → (∀ o x0, q = some o → m.o o = some x0 → ¬ A o k) → w'.heap[k]? = w.heap[k]?)
    (hblk : Blk β κ D w' S B gb sz n cap g) (hcap : cap ≤ 9223372036854775807) (hs0 : 0 < sz) (K : PV → Mem → Prop) (hK : K (.sl [m.nx] sz n 0 n) (m.grow q (.row sz n g))) :
    Left w S D m β κ A K (.slice (some ⟨gb, 0, none⟩) n cap) w' := by
  have hS : ∀ k, S k → w'.heap[k]? = w.heap[k]? := hm.keepS (fun k hk hn => hold k hk (fun o x0 _ h1 h2 => hn ⟨o, x0, h1, h2⟩))
  have eβ : upd β [m.nx] gb [m.nx] = gb := by simp [upd]
  have eκ : upd κ [m.nx] cap [m.nx] = cap := by simp [upd]
  have hn : n ≤ cap := by obtain ⟨_, _, _, _, _, _, _, h, _⟩ := hblk; exact h
  have hv : OV (upd β [m.nx] gb) (upd κ [m.nx] cap) (gdN D m.nx) w' S (.slice (some ⟨gb, 0, none⟩) n cap) (.sl [m.nx] sz n 0 n) :=
    .sl _ _ _ _ _ _ _ (gd_new _) hn (by omega) (by rw [eκ]; omega) (by rw [eκ]; exact hcap) (fun _ => by rw [eβ]; simp)
  have hmv : Blk (upd β [m.nx] gb) (upd κ [m.nx] cap) (gdN D m.nx) w' S B gb sz n cap g := hblk.move (fun i hi => by simp [upd, fr.ne hi]) (fun _ h => .inl h) (fun _ h => h) (fun _ _ => rfl) (fun _ _ => rfl)
  rcases Nat.eq_zero_or_pos cap with h0 | h0
  · obtain ⟨h1, h2⟩ := hm.grow fr q (x := .row sz n g) (g := gb) (K := cap) (B := fun _ => False) hos ht hout hsz (fun k hk => hk.elim) hold (.inl ⟨by rw [eκ]; exact h0, by omega, fun _ h => h⟩)
    exact ⟨_, _, _, _, _, _, _, hK, h1, h2, hv, fun _ => Iff.rfl⟩
  · obtain ⟨h1, h2⟩ := hm.grow fr q (x := .row sz n g) (g := gb) (K := cap) (B := B) hos ht hout hsz hB hold (.inr ⟨by rw [eκ]; exact h0, by rw [eκ]; exact hcap, hs0, by rw [eβ, eκ]; exact hmv⟩)
    exact ⟨_, _, _, _, _, _, _, hK, h1, h2, hv, fun _ => Iff.rfl⟩
/-- A row of nothing that lies nowhere. -/
theorem new_none (fr : Fr D m.nx) (hm : MRD w S D m β κ A) (q : Option Id) {sz : Nat} {g : Nat → List PV} {Ad : Option Addr} (K : PV → Mem → Prop) (hK : K (.sl [m.nx] sz 0 0 0) (m.grow q (.row sz 0 g))) : Left w S D m β κ A K (.slice Ad 0 0) w := by
  have eκ : upd κ [m.nx] 0 [m.nx] = 0 := by simp [upd]
  obtain ⟨h1, h2⟩ := hm.grow fr q (x := .row sz 0 g) (g := 0) (K := 0) (w' := w) (B := fun _ => False) rfl rfl rfl (Nat.le_refl _) (fun k hk => hk.elim) (fun _ _ _ => rfl) (.inl ⟨eκ, rfl, fun _ h => h⟩)
  exact ⟨_, _, _, _, _, _, _, hK, h1, h2, .sl _ _ _ _ _ _ _ (gd_new _) (Nat.le_refl _) (Nat.le_refl _) (by rw [eκ]) (by rw [eκ]; exact Nat.zero_le _) (fun h => absurd h (Nat.lt_irrefl 0)), fun _ => Iff.rfl⟩
/-- Cells stored into a row of which nothing is frozen. -/
theorem run_stores (g o : Nat) (t : TypeId) (fz : Nat × Nat) : ∀ (vs : List Value) (i : Nat) (cur : Array Value) (w : World), w.heap[g]? = some (.cells cur t fz) → fzOk fz cur.size → o + i + vs.length ≤ cur.size → (∀ v ∈ vs, v.oneCell' = true) →
    (storeCells ⟨g, o, none⟩ vs i).run P w = .ok () (w.setRow g (cur.toList.take (o + i) ++ vs ++ cur.toList.drop (o + i + vs.length)).toArray)
  | [], i, cur, w, hg, _, _, _ => by
    simp only [storeCells, List.append_nil, List.length_nil, Nat.add_zero, List.take_append_drop, Array.toArray_toList]
    rw [setRow_self w g cur t fz hg]
    rfl
  | v :: rest, i, cur, w, hg, hz, hl, h1 => by
    have hi : o + i < cur.size := by simp at hl; omega
    have hadd : (⟨g, o, none⟩ : Addr).add i = ⟨g, o + i, none⟩ := by unfold Addr.add; split <;> simp_all
    have hcell : w.cell? ⟨g, o + i, none⟩ = some cur[o + i] := by simp [World.cell?, hg, hi]
    have hfro : w.frozen? ⟨g, o + i, none⟩ = false := by
      obtain ⟨lo, hi'⟩ := fz
      simp only [World.frozen?, hg, Bool.and_eq_false_iff, decide_eq_false_iff_not]
      simp only [fzOk] at hz
      omega
    have hst : (store ((⟨g, o, none⟩ : Addr).add i) v).run P w = .ok () (w.setRow g (cur.setIfInBounds (o + i) v)) := by
      rw [hadd, run_store P w _ v _ (h1 v (by simp)), hcell]
      simp [hfro, setCell_eq_setRow w g (o + i) cur t fz v hg]
    have ih := run_stores g o t fz rest (i + 1) (cur.setIfInBounds (o + i) v) (w.setRow g (cur.setIfInBounds (o + i) v)) (setRow_heap w g cur _ t _ hg) (by simpa using hz) (by simp at hl ⊢; omega) (fun x hx => h1 x (by simp [hx]))
    simp only [storeCells, Sem.run_bind, hst, Result.andThen_ok, ih, setRow_setRow]
    congr 3
    have e := list_seg_step cur.toList (o + i) v rest (by simp at hl ⊢; omega)
    simpa [Array.toList_setIfInBounds, Nat.add_assoc] using e
/-- Cells of a block are written: what they owned is let go. -/
theorem Blk.store {D : Id → Prop} {B : Nat → Prop} {b sz n c : Nat} {g : Nat → List PV} (h : Blk β κ D w S B b sz n c g) (hS : ¬ S b) {k j : Nat} (hk : k < n) {vs : Array Value} {ps : List PV} (hv : CR β κ D w S vs ps) (hj : j + ps.length ≤ sz) :
    ∃ cur e fz cur', w.heap[b]? = some (.cells cur e fz) ∧ fzOk fz cur.size ∧ k * sz + j + vs.size ≤ cur.size ∧ cur' = (cur.toList.take (k * sz + j) ++ vs.toList ++ cur.toList.drop (k * sz + j + vs.size)).toArray ∧
      ∃ B', (∀ k, B' k → B k) ∧ Blk β κ D (w.setRow b cur') S B' b sz n c (upd g k (splice (g k) j ps)) := by
  obtain ⟨cur, e, fz, F, h1, hz, h2, h3, h4, h5, h6⟩ := h
  have hsz : (k + 1) * sz ≤ c * sz := Nat.mul_le_mul_right _ (by omega)
  rw [Nat.succ_mul] at hsz
  have hvs := hv.1
  refine ⟨cur, e, fz, _, h1, hz, by omega, rfl, fun x => x = b ∨ ∃ i j', (F i j' x ∧ ¬ (i = k ∧ j ≤ j' ∧ j' < j + ps.length)), fun x hx => ?_, ?_⟩
  · rcases hx with rfl | ⟨i, j', hx, _⟩
    · exact (h5.eq _).2 (.inl rfl)
    · exact (h5.eq _).2 (.inr ⟨i, j', hx⟩)
  have hS' : ∀ x, S x → ∀ cur', (w.setRow b cur').heap[x]? = w.heap[x]? := fun x hx cur' => setRow_other w b x _ (fun e => hS (e ▸ hx))
  have hcs : ((cur.toList.take (k * sz + j) ++ vs.toList ++ cur.toList.drop (k * sz + j + vs.size)).toArray).size = cur.size := by simp; omega
  have at_ : ∀ y, ((cur.toList.take (k * sz + j) ++ vs.toList ++ cur.toList.drop (k * sz + j + vs.size)).toArray).getD y undef = if k * sz + j ≤ y ∧ y < k * sz + j + vs.size then vs.getD (y - (k * sz + j)) undef else cur.getD y undef := fun y => by
    simp only [Array.getD_eq_getD_getElem?, List.getElem?_toArray, List.append_assoc]
    have hl : (cur.toList.take (k * sz + j)).length = k * sz + j := by simp; omega
    rw [List.getElem?_append, hl]
    by_cases hy : y < k * sz + j
    · rw [if_pos hy, if_neg (by omega), List.getElem?_take, if_pos hy]; simp
    · rw [if_neg hy, List.getElem?_append]
      by_cases hy2 : y - (k * sz + j) < vs.toList.length
      · rw [if_pos hy2, if_pos (by simp at hy2; omega)]; simp
      · rw [if_neg hy2, if_neg (by simp at hy2; omega), List.getElem?_drop]
        have : k * sz + j + vs.size + (y - (k * sz + j) - vs.toList.length) = y := by simp at hy2 ⊢; omega
        rw [this]; simp
  have hlk : (g k).length = sz := h4 k hk
  have hlen : (splice (g k) j ps).length = sz := by simp [splice]; omega
  refine ⟨_, e, fz, fun i j' x => F i j' x ∧ ¬ (i = k ∧ j ≤ j' ∧ j' < j + ps.length), setRow_heap w _ _ _ _ _ h1, by rw [hcs]; exact hz, by rw [hcs]; exact h2, h3, fun i hi => ?_, ⟨fun i j' h => h5.nb i j' h.1, fun i j1 i' j2 x a b => h5.dj i j1 i' j2 x a.1 b.1, fun i j' x h => h5.dm i j' x h.1, fun x => Iff.rfl⟩, fun i j' p hi hp => ?_⟩
  · unfold upd; split
    · exact hlen
    · exact h4 i hi
  have lt_ : ∀ a b : Nat, a < b → a * sz + sz ≤ b * sz := fun a b hab => by have := Nat.mul_le_mul_right sz (show a + 1 ≤ b by omega); rwa [Nat.succ_mul] at this
  have hmv : ∀ F0 : Nat → Prop, (∀ x, F0 x → x ≠ b) → ∀ v q, TV β κ D w S F0 v q → TV β κ D (w.setRow b ((cur.toList.take (k * sz + j) ++ vs.toList ++ cur.toList.drop (k * sz + j + vs.size)).toArray)) S F0 v q := fun F0 hF v q hq =>
    hq.move (fun _ _ => ⟨rfl, rfl⟩) (fun _ h => h) (fun _ h => h) (fun x hx => hS' x hx _) (fun x hx => setRow_other w b x _ (hF x hx))
  have hnb : ∀ i j' x, F i j' x → x ≠ b := fun i j' x hx e => h5.nb i j' (e ▸ hx)
  have same : ∀ v q, ¬ (i = k ∧ j ≤ j' ∧ j' < j + ps.length) → TV β κ D w S (F i j') v q → TV β κ D (w.setRow b ((cur.toList.take (k * sz + j) ++ vs.toList ++ cur.toList.drop (k * sz + j + vs.size)).toArray)) S (fun x => F i j' x ∧ ¬ (i = k ∧ j ≤ j' ∧ j' < j + ps.length)) v q := fun v q hc hq => by
    have e : (fun x => F i j' x ∧ ¬ (i = k ∧ j ≤ j' ∧ j' < j + ps.length)) = F i j' := by funext x; simp only [hc, not_false_eq_true, and_true]
    rw [e]; exact hmv _ (hnb i j') v q hq
  rw [at_]
  unfold upd at hp
  by_cases ek : i = k
  · subst ek
    rw [if_pos rfl] at hp
    have hj' : j' < sz := by rw [← hlen]; exact (List.getElem?_eq_some_iff.1 hp).1
    have ltk : ((g i).take j).length = j := by rw [List.length_take]; omega
    simp only [splice, List.append_assoc] at hp
    rw [List.getElem?_append, ltk] at hp
    by_cases hin : j ≤ j' ∧ j' < j + ps.length
    · rw [if_pos (by omega)]
      rw [if_neg (by omega), List.getElem?_append, if_pos (by omega)] at hp
      have e1 : i * sz + j' - (i * sz + j) = j' - j := by omega
      rw [e1]
      exact ⟨(hv.2 _ p hp).1, .inl ⟨(hv.2 _ p hp).2.move (fun _ _ => ⟨rfl, rfl⟩) (fun _ h => h) (fun _ h => h) (fun x hx => hS' x hx _), fun x hx => hx.2 ⟨rfl, hin⟩⟩⟩
    · rw [if_neg (by omega)]
      have hp2 : (g i)[j']? = some p := by
        by_cases hlt : j' < j
        · rw [if_pos (by omega), List.getElem?_take, if_pos hlt] at hp; exact hp
        · rw [if_neg (by omega), List.getElem?_append, if_neg (by omega), List.getElem?_drop] at hp
          rw [← hp]; congr 1; omega
      exact ⟨(h6 i j' p hi hp2).1, same _ _ (fun h => hin h.2) (h6 i j' p hi hp2).2⟩
  · rw [if_neg ek] at hp
    have hj' : j' < sz := by rw [← h4 i hi]; exact (List.getElem?_eq_some_iff.1 hp).1
    rw [if_neg (by
      rcases Nat.lt_or_gt_of_ne ek with hlt | hlt
      · have := lt_ _ _ hlt; omega
      · have := lt_ _ _ hlt; omega)]
    exact ⟨(h6 i j' p hi hp).1, same _ _ (fun h => ek h.1) (h6 i j' p hi hp).2⟩
variable (hm : MRD w S D m β κ A) (he : ∀ x, OV β κ D w S (ρ x) (e x)) (fr : Fr D m.nx)
include hm he fr
theorem o_box {t : TypeId} {x : Operand} {vs : List PV} (ho : o.op = .box t x) (hv : pcells (e x) = some vs) (K : PV → Mem → Prop) (hK : K (.bp [m.nx] 0) (m.grow none (.box vs))) : ∃ v w', (execOp ρ o).run P w = .ok (.value v) w' ∧ Left w S D m β κ A K v w' :=
  ⟨_, _, by simp [execOp, ho, Instr.box, newVar, newRow], new_box fr hm (CR.of (he x) hv) t K hK⟩
omit he in
theorem o_alloc {t : TypeId} (ho : o.op = .alloc t) (hz : (tyD P t).zok = true) (K : PV → Mem → Prop) (hK : K (.bp [m.nx] 0) (m.grow none (.box (tyD P t).zc))) : ∃ v w', (execOp ρ o).run P w = .ok (.value v) w' ∧ Left w S D m β κ A K v w' := by
  obtain ⟨z, hzr, hzs, hz1, hzc⟩ := zero_ok (β := β) (κ := κ) (D := D) (w := w) (S := S) hz
  exact ⟨_, _, by simp [execOp, ho, Instr.alloc, newVar, newRow, hzr], new_box fr hm hzc t K hK⟩
omit fr in
theorem o_store {t : TypeId} {a x : Operand} (ho : o.op = .store t a x) (K : PV → Mem → Prop) (h : astore P t (e a) (e x) m K) : ∃ w', (execOp ρ o).run P w = .ok .skip w' ∧ Left w S D m β κ A K undef w' := by
  unfold astore at h
  split at h
  · rename_i vs hvs
    have hv := CR.of (he x) hvs
    have ha := he a
    have one : ∀ u ∈ (ρ x).cells.toList, u.oneCell' = true := fun u hu => by
      obtain ⟨j, hj⟩ := List.getElem?_of_mem hu
      have hlt : j < vs.length := by rw [← hv.1]; simpa using (List.getElem?_eq_some_iff.1 hj).1
      obtain ⟨v, h1, h2, _⟩ := hv.at_ (List.getElem?_eq_getElem hlt)
      have : (ρ x).cells[j]? = some u := by simpa using hj
      rw [this] at h1; cases h1; exact h2
    have run_ : ∀ (g off : Nat) (cur : Array Value) (el : TypeId) (fz : Nat × Nat), ρ a = .pointer (some ⟨g, off, none⟩) → w.heap[g]? = some (.cells cur el fz) → fzOk fz cur.size → off + (ρ x).cells.size ≤ cur.size → vs.length = (tyD P t).sz → tk P t ≠ .other →
        (execOp ρ o).run P w = .ok .skip (w.setRow g (cur.toList.take off ++ (ρ x).cells.toList ++ cur.toList.drop (off + (ρ x).cells.size)).toArray) := by
      intro g off cur el fz h1 h2 hz h3 h4 h5
      have hst := run_stores (P := P) g off el fz (ρ x).cells.toList 0 cur w h2 hz (by simpa using h3) one
      obtain ⟨d, hd⟩ := Option.isSome_iff_exists.1 (tk_some h5)
      have hsz := run_sz hd w
      have e1 : (ρ x).cells.size = P.cellsOf t := by rw [hv.1, h4]; rfl
      simp only [Nat.add_zero, Array.length_toList] at hst
      simp [execOp, ho, Instr.storeAt, h1, Instr.sureAddr, storeVar, hsz, e1, hst]
    split at h
    · rename_i i j hx
      rw [hx] at ha
      obtain ⟨e1, h1⟩ := ha.bp_inv
      split at h
      · rename_i ps hb
        obtain ⟨⟨k1, k2, k3⟩, hK⟩ := h
        have hbk : ¬ S (β i) := by
          have := hm.ob i _ hb
          obtain ⟨_, _, _, _, _, _, _, _, _, h5, _⟩ := (this : Blk _ _ _ _ _ _ _ _ _ _ _)
          exact hm.ns i _ _ hb ((h5.eq _).2 (.inl rfl))
        obtain ⟨cur, el, fz, cur', g1, g2, g3, rfl, B', g4, g5⟩ := Blk.store (hm.ob i _ hb : Blk _ _ _ _ _ _ _ _ _ _ _) hbk (k := 0) (j := j) Nat.zero_lt_one hv k3
        rw [Nat.zero_mul, Nat.zero_add] at *
        obtain ⟨p1, p2⟩ := hm.put (x' := .box (splice ps j vs)) (B := B') hb (w' := w.setRow (β i) _) rfl rfl rfl (by simp) g4 (fun k hk => setRow_other w _ k _ (fun e => hk (by
          have := hm.ob i _ hb
          obtain ⟨_, _, _, _, _, _, _, _, _, h5, _⟩ := (this : Blk _ _ _ _ _ _ _ _ _ _ _)
          exact (h5.eq _).2 (.inl e)))) (by
          show Blk _ _ _ _ _ _ _ _ _ _ _
          have e2 : (splice ps j vs).length = ps.length := by simp [splice]; omega
          rw [e2]
          obtain ⟨c1, c2, c3, c4, c5, c6, c7, c8, c9, c10, c11⟩ := g5
          exact ⟨c1, c2, c3, c4, c5, c6, c7, c8, fun i hi => e2, c10, fun i' j' p hi hp => c11 i' j' p hi (by
            obtain rfl : i' = 0 := by omega
            simpa [upd] using hp)⟩)
        exact ⟨_, run_ _ _ _ _ _ e1 g1 g2 g3 k1 k2, _, _, _, _, _, _, _, hK, p1, p2, .rv _ _ (.und _), dsame⟩
      · exact h.elim
    · rename_i i sz n k j hx
      rw [hx] at ha
      obtain ⟨e1, h1, h2⟩ := ha.pt_inv
      split at h
      · rename_i sz' n' g hb
        obtain ⟨⟨k1, k2, rfl, rfl, k5⟩, hK⟩ := h
        rcases hm.ob i _ hb with ⟨_, h0, _⟩ | ⟨q1, q2, q3, hblk⟩
        · omega
        have hAb : A i (β i) := by obtain ⟨_, _, _, _, _, _, _, _, _, h5, _⟩ := hblk; exact (h5.eq _).2 (.inl rfl)
        obtain ⟨cur, el, fz, cur', g1, g2, g3, rfl, B', g4, g5⟩ := Blk.store hblk (hm.ns i _ _ hb hAb) (k := k) (j := j) h2 hv k5
        obtain ⟨p1, p2⟩ := hm.put (x' := .row sz' n' (upd g k (splice (g k) j vs))) (B := B') hb (w' := w.setRow (β i) _) rfl rfl rfl (by simp) g4 (fun k hk => setRow_other w _ k _ (fun e => hk (e ▸ hAb))) (.inr ⟨q1, q2, q3, g5⟩)
        exact ⟨_, run_ _ _ _ _ _ e1 g1 g2 g3 k1 k2, _, _, _, _, _, _, _, hK, p1, p2, .rv _ _ (.und _), dsame⟩
      · exact h.elim
    · exact h.elim
  · exact h.elim
end
end Go.Proofs.YtofaiiobggnibaaW.AW
namespace Go.Proofs.YtofaiiobggnibaaW.AW
open Go Go.RowKit
set_option linter.unusedVariables false
set_option linter.unusedSimpArgs false

theorem fillRow (size N : Nat) : ∀ (parts : List Value) (k : Nat) (cells : Array Value), (∀ v ∈ parts, v.cells.size = size) → cells.size = N * size → k + parts.length ≤ N →
    ∃ cs', Instr.fill (fun i => some (i * size, size)) cells ((parts.zipIdx k).map (fun x => (x.2, x.1))) = some cs' ∧ cs'.size = cells.size ∧ (∀ x, x < k * size → cs'[x]? = cells[x]?) ∧ ∀ (i : Nat) (v : Value), parts[i]? = some v → ∀ j, j < size → cs'[(k + i) * size + j]? = v.cells[j]?
  | [], k, cells, _, _, _ => ⟨cells, rfl, rfl, fun _ _ => rfl, fun i v h => by simp at h⟩
  | v :: r, k, cells, h1, h2, h3 => by
    have hv := h1 v (by simp)
    have hk : (k + 1) * size ≤ N * size := Nat.mul_le_mul_right _ (by simp at h3; omega)
    rw [Nat.succ_mul] at hk
    obtain ⟨g1, g2⟩ := fold_at (k * size) v.cells.toList 0 cells
    have e : v.cells.zipIdx.foldl (fun cs (x : Value × Nat) => cs.setIfInBounds (k * size + x.2) x.1) cells = (v.cells.toList.zipIdx 0).foldl (fun cs (x : Value × Nat) => cs.setIfInBounds (k * size + x.2) x.1) cells := by
      rw [← Array.foldl_toList]; simp
    obtain ⟨cs', r1, r2, r3, r4⟩ := fillRow size N r (k + 1) _ (fun u hu => h1 u (by simp [hu])) (g1.trans h2) (by simp at h3; omega)
    refine ⟨cs', ?_, r2.trans g1, fun x hx => ?_, fun i u hi j hj => ?_⟩
    · simp only [List.zipIdx_cons, List.map_cons, Instr.fill]
      rw [if_neg (by rw [hv]; simp; omega)]
      exact e ▸ r1
    · rw [r3 x (by rw [Nat.succ_mul]; omega), g2 x, if_neg (by omega)]
    · cases i with
      | zero =>
        simp only [List.getElem?_cons_zero, Option.some.injEq] at hi
        subst hi
        rw [Nat.add_zero, r3 _ (by rw [Nat.succ_mul]; omega), g2, if_pos (by simp; omega)]
        simp
      | succ i =>
        simp only [List.getElem?_cons_succ] at hi
        rw [show k + (i + 1) = k + 1 + i by omega]
        exact r4 i u hi j hj
theorem okIdx_zip (ρ : Operand → Value) : ∀ (k : Nat) (l : List (Nat × Operand)), okIdx k l = true → l.map (fun x => (x.1, ρ x.2)) = ((l.map (fun x => ρ x.2)).zipIdx k).map (fun x => (x.2, x.1))
  | _, [], _ => rfl
  | k, (i, x) :: r, h => by
    simp only [okIdx, Bool.and_eq_true, beq_iff_eq] at h
    obtain ⟨rfl, h⟩ := h
    simp only [List.map_cons, List.zipIdx_cons]
    rw [okIdx_zip ρ (i + 1) r h]
section
variable {P : Program} {β κ : Id → Nat} {A : Id → Nat → Prop} {w : World} {S : Nat → Prop} {m : Mem} {D : Id → Prop} {e : Operand → PV} {ρ : Operand → Value} {o : Oper} {cs : List Bool}
theorem allCells_at {D : Id → Prop} : ∀ {ps : List PV} {cc : List (List PV)} {vs : List Value}, allCells ps = some cc → vs.length = ps.length → (∀ (j : Nat) (p : PV), ps[j]? = some p → ∃ v, vs[j]? = some v ∧ OV β κ D w S v p) →
    cc.length = ps.length ∧ ∀ (i : Nat) (c : List PV), cc[i]? = some c → ∃ v, vs[i]? = some v ∧ CR β κ D w S v.cells c
  | [], cc, vs, h, hl, _ => by simp only [allCells, Option.some.injEq] at h; subst h; exact ⟨rfl, fun i c hc => by simp at hc⟩
  | p :: r, cc, vs, h, hl, hv => by
    simp only [allCells] at h
    split at h
    · rename_i c cs' h1 h2
      simp only [Option.some.injEq] at h
      subst h
      cases vs with
      | nil => cases hl
      | cons v vs =>
        obtain ⟨i1, i2⟩ := allCells_at h2 (by simpa using hl) (fun j q hq => by obtain ⟨u, a, b⟩ := hv (j + 1) q (by simpa using hq); exact ⟨u, by simpa using a, b⟩)
        refine ⟨by simp [i1], fun i d hd => ?_⟩
        cases i with
        | zero =>
          simp only [List.getElem?_cons_zero, Option.some.injEq] at hd
          subst hd
          obtain ⟨u, a, b⟩ := hv 0 p rfl
          simp only [List.getElem?_cons_zero, Option.some.injEq] at a
          subst a
          exact ⟨v, rfl, CR.of b h1⟩
        | succ i => obtain ⟨u, a, b⟩ := i2 i d (by simpa using hd); exact ⟨u, by simpa using a, b⟩
    · cases h
variable (hm : MRD w S D m β κ A) (he : ∀ x, OV β κ D w S (ρ x) (e x)) (fr : Fr D m.nx)
include hm he fr
theorem o_buildSlice {t : TypeId} {n : Nat} {ps : Array (Nat × Operand)} {cc : List (List PV)} (ho : o.op = .buildSlice t n ps) (hcc : allCells (ps.toList.map (fun x => e x.2)) = some cc) (h1 : (tyD P t).eok = true) (h2 : okIdx 0 ps.toList = true) (h3 : ps.size = n) (h4 : ∀ c ∈ cc, c.length = (tyD P t).es) (h5 : n * (tyD P t).es ≤ 16777216)
    (K : PV → Mem → Prop) (hK : K (.sl [m.nx] (tyD P t).es n 0 n) (m.grow none (.row (tyD P t).es n (fun i => cc.getD i [])))) : ∃ v w', (execOp ρ o).run P w = .ok (.value v) w' ∧ Left w S D m β κ A K v w' := by
  obtain ⟨el, i0, z, hu, hi0, hz0, hs, _, hzs, hz1, hpos, _⟩ := el_of h1
  obtain ⟨c1, c2⟩ := allCells_at (β := β) (κ := κ) (D := D) (w := w) (S := S) (vs := ps.toList.map (fun x => ρ x.2)) hcc (by simp) (fun j p hp => by
    rw [List.getElem?_map] at hp
    obtain ⟨x, hx, rfl⟩ := Option.map_eq_some_iff.1 hp
    exact ⟨ρ x.2, by rw [List.getElem?_map, hx]; rfl, he _⟩)
  have hn : cc.length = n := by rw [c1, List.length_map, Array.length_toList, h3]
  have hvs : ∀ v ∈ ps.toList.map (fun x => ρ x.2), v.cells.size = (tyD P t).es := fun v hv => by
    obtain ⟨i, hi⟩ := List.getElem?_of_mem hv
    have hlt : i < cc.length := by have := (List.getElem?_eq_some_iff.1 hi).1; simp at this; omega
    obtain ⟨u, a, b⟩ := c2 i _ (List.getElem?_eq_getElem hlt)
    rw [hi] at a; cases a
    rw [b.1]; exact h4 _ (List.getElem_mem _)
  have hz : zeroValue el = zeroValue el := rfl
  obtain ⟨cur, f1, f2, _, f4⟩ := fillRow (tyD P t).es n (ps.toList.map (fun x => ρ x.2)) 0 ((Array.range (n * (tyD P t).es)).map ((if n * (tyD P t).es = 0 then #[] else z.cells)[· % (if n * (tyD P t).es = 0 then #[] else z.cells).size]!)) hvs (by simp) (by simp; omega)
  have ez := okIdx_zip ρ 0 ps.toList h2
  rw [← ez] at f1
  have hlim : ¬ n * (tyD P t).es > 2 ^ 24 := by have : (2 : Nat) ^ 24 = 16777216 := rfl; omega
  have hblk : Blk β κ D (w.alloc (.cells cur el)) S (fun k => k = w.heap.size) w.heap.size (tyD P t).es n n (fun i => cc.getD i []) := by
    refine Blk.flat (heap_alloc_new w _) (.inl rfl) (by rw [f2]; simp) (Nat.le_refl n) (fun i hi => ?_) (fun i j p hi hp => ?_)
    · have : cc[i]? = some cc[i] := List.getElem?_eq_getElem (by omega)
      simp only [List.getD_eq_getElem?_getD, this, Option.getD_some]
      exact h4 _ (List.getElem_mem _)
    · have hc : cc[i]? = some cc[i] := List.getElem?_eq_getElem (by omega)
      simp only [List.getD_eq_getElem?_getD, hc, Option.getD_some] at hp
      obtain ⟨v, a, b⟩ := c2 i _ hc
      obtain ⟨u, q1, q2, q3⟩ := b.at_ hp
      have hj : j < (tyD P t).es := by have := h4 _ (List.mem_of_getElem? hc); rw [← this]; exact (List.getElem?_eq_some_iff.1 hp).1
      have := f4 i v a j hj
      rw [Nat.zero_add] at this
      exact ⟨u, this.trans q1, q2, q3.move (fun _ _ => ⟨rfl, rfl⟩) (fun _ h => h) (fun _ h => h) (fun k hk => alloc_old w _ (hm.lt k hk))⟩
  refine ⟨.slice (some ⟨w.heap.size, 0, none⟩) n n, w.alloc (.cells cur el), ?_, new_row (w' := w.alloc (.cells cur el)) fr hm none rfl rfl rfl (by simp) (fun k hk => .inl (by omega)) (fun k hk _ => alloc_old w _ hk) hblk ?_ hpos K hK⟩
  · by_cases h0 : n * (tyD P t).es = 0
    · simp only [if_pos h0] at f1
      have hr0 : Array.range 0 = #[] := rfl
      simp only [h0, hr0, Array.map_empty] at f1
      simp [execOp, ho, Instr.buildSlice, run_underlying hu, sizeOf, typeInfo, hi0, hs, h0, newRow, hr0, f1]
    · simp only [if_neg h0] at f1
      simp [execOp, ho, Instr.buildSlice, run_underlying hu, sizeOf, typeInfo, hi0, hs, h0, newRow, zeroValue, hz0, hlim, f1]
  · have : n * 1 ≤ n * (tyD P t).es := Nat.mul_le_mul_left _ hpos
    omega
theorem o_makeSlice {t : TypeId} {lx cx : Operand} {kl kc : IntKind} {l c : Int} (ho : o.op = .makeSlice t lx cx) (hl : e lx = .int kl l) (hc : e cx = .int kc c) (h1 : (tyD P t).eok = true) (h2 : 0 ≤ l) (h3 : l ≤ c) (h4 : c * (tyD P t).eb ≤ 140737488355328)
    (K : PV → Mem → Prop) (hK : K (.sl [m.nx] (tyD P t).es l.toNat 0 l.toNat) (m.grow none (.row (tyD P t).es l.toNat (fun _ => (tyD P t).ez)))) : ∃ v w', (execOp ρ o).run P w = .ok (.value v) w' ∧ Left w S D m β κ A K v w' := by
  obtain ⟨el, i0, z, hu, hi0, hz0, hs, hby, hzs, hz1, hpos, hez, hbp⟩ := el_of h1
  have vl := he lx; rw [hl] at vl
  have vc := he cx; rw [hc] at vc
  obtain ⟨n, rfl⟩ := Int.eq_ofNat_of_zero_le (show 0 ≤ c by omega)
  have hle : n * 1 ≤ n * (tyD P t).eb := Nat.mul_le_mul_left _ hbp
  have hq : ((n * (tyD P t).eb : Nat) : Int) ≤ 140737488355328 := by rw [Int.natCast_mul]; exact h4
  have hn47 : n ≤ 140737488355328 := by
    generalize n * (tyD P t).eb = q at hle hq
    omega
  have hr := run_make (P := P) w t el i0 z hu hi0 hz0 kl kc l n h2 h3 (by rw [hby, Int.mul_comm]; exact Int.le_trans h4 (by decide)) (by omega)
  simp only [Int.ofNat_eq_natCast, Int.toNat_natCast] at hr vc
  have hblk : Blk β κ D (w.alloc (.cells (madeCells z.cells (n * i0.size)) el)) S (fun k => k = w.heap.size) w.heap.size (tyD P t).es l.toNat n (fun _ => (tyD P t).ez) := by
    refine Blk.flat (heap_alloc_new w _) (.inl rfl) (by rw [size_madeCells, hs]) (by omega) (fun i hi => by rw [hez]; simp [hzs]) (fun i j p hi hp => ?_)
    rw [hez, List.getElem?_map] at hp
    obtain ⟨v, hv, rfl⟩ := Option.map_eq_some_iff.1 hp
    have hj : j < (tyD P t).es := by rw [← hzs]; simpa using (List.getElem?_eq_some_iff.1 hv).1
    have hlt : i * (tyD P t).es + j < n * (tyD P t).es := by
      have : (i + 1) * (tyD P t).es ≤ n * (tyD P t).es := Nat.mul_le_mul_right _ (by omega)
      rw [Nat.succ_mul] at this; omega
    have hmod : (i * (tyD P t).es + j) % (tyD P t).es = j := by rw [Nat.add_comm, Nat.add_mul_mod_self_right, Nat.mod_eq_of_lt hj]
    refine ⟨v, ?_, hz1 v (List.mem_of_getElem? hv), ofVal_ok⟩
    have hv' : z.cells[j]? = some v := by simpa using hv
    simp only [madeCells, hs, Array.getElem?_map, Array.getElem?_range, hlt, if_true, Option.map_some, Option.some.injEq, hzs, hmod]
    rw [getElem!_def, hv']
  exact ⟨_, _, by simp only [execOp, ho, vl.int_inv.1, vc.int_inv.1]; simp only [Sem.run_bind, hr]; rfl, new_row (w' := w.alloc (.cells (madeCells z.cells (n * i0.size)) el)) fr hm none rfl rfl rfl (by simp) (fun k hk => .inl (by omega)) (fun k hk _ => alloc_old w _ hk) hblk (by omega) hpos K hK⟩
/-- A string's bytes, in a row of one's own. -/
theorem o_toBytes {s d : TypeId} {x : Operand} {b : ByteArray} (ho : o.op = .convert s d x) (hx : e x = .str b) (h1 : tkU8 P d) (h2 : tk P s = .string) (h3 : (tyD P d).eok = true) (h4 : (tyD P d).es = 1)
    (K : PV → Mem → Prop) (hK : K (.sl [m.nx] 1 b.size 0 b.size) (m.grow none (.row 1 b.size (fun i => [.int .u8 (bt b i)])))) : ∃ v w', (execOp ρ o).run P w = .ok (.value v) w' ∧ Left w S D m β κ A K v w' := by
  obtain ⟨e', hd, he'⟩ := tkU8_spec h1
  have hv := he x; rw [hx] at hv
  obtain ⟨e1, hb⟩ := hv.str_inv
  have hs := tk_string h2
  have hr := Go.Lib.run_convert_string_bytes (P := P) w s d e' b hs hd he'
  have hsz := Go.Lib.bytesWorld_size w e' b
  have hcs : (Go.Lib.bytesCells w e' b).size = grownCap w b.size 0 e' := by
    have := grownCap_ge w b.size 0 e'
    have : b.data.size = b.size := rfl
    simp [Go.Lib.bytesCells]; omega
  have hblk : Blk β κ D (Go.Lib.bytesWorld w e' b) S (fun k => k = w.heap.size) w.heap.size 1 b.size (grownCap w b.size 0 e') (fun i => [.int .u8 (bt b i)]) := by
    refine Blk.flat (Go.Lib.bytesWorld_at_new w e' b) (.inr (Nat.le_refl _)) (by rw [hcs, Nat.mul_one]) (grownCap_ge w b.size 0 e') (fun _ _ => rfl) (fun i j p hi hp => ?_)
    cases j with
    | succ j => simp at hp
    | zero =>
      simp only [List.getElem?_cons_zero, Option.some.injEq] at hp
      subst hp
      have hi' : i < b.data.size := hi
      have e0 : bt b i = ((b[i]'hi).toNat : Int) := by simp [bt, hi]
      refine ⟨.int .u8 (bt b i), ?_, rfl, .int_mk ?_⟩
      · rw [Nat.mul_one, Nat.add_zero, e0]
        rw [Go.Lib.bytesCells, Array.getElem?_append_left (by simpa using hi'), Array.getElem?_map, Array.getElem?_eq_getElem hi']
        rfl
      · rw [e0, show IntKind.u8.min = 0 from rfl, show IntKind.u8.max = 255 from rfl]
        have := (b[i]'hi).toNat_lt
        omega
  refine ⟨_, _, by simp only [execOp, ho, e1, Sem.run_bind, hr]; rfl, new_row (w' := Go.Lib.bytesWorld w e' b) fr hm none rfl rfl rfl (by omega) (fun k hk => .inl (by omega)) (fun k hk _ => Go.Lib.bytesWorld_at_old w e' b k hk) hblk ?_ Nat.one_pos K hK⟩
  have := grownCap_le_maxLen w b.size 0 e' (by unfold maxLen; omega)
  unfold maxLen at this; omega
end
end Go.Proofs.YtofaiiobggnibaaW.AW
namespace Go.Proofs.YtofaiiobggnibaaW.AW
open Go Go.RowKit
set_option linter.unusedVariables false
set_option linter.unusedSimpArgs false

section
variable {P : Program} {β κ : Id → Nat} {A : Id → Nat → Prop} {w : World} {S : Nat → Prop} {m : Mem} {D : Id → Prop} {e : Operand → PV} {ρ : Operand → Value} {o : Oper} {cs : List Bool}
theorem clo1_rv {D : Id → Prop} {v : Value} {p : PV} (h : OV β κ D w S v p) (hc : p.clo1 = true) : RV w S v p := by
  cases h with
  | rv _ _ h => exact h
  | _ => cases hc
theorem clo_rv {D : Id → Prop} {v : Value} {p : PV} (h : OV β κ D w S v p) (hc : p.clo = true) : RV w S v p := by
  cases h with
  | rv _ _ h => exact h
  | ag vs ps hl h1 hv =>
    refine .ag vs ps hl h1 (fun j p hp => clo1_rv (hv j p hp) ?_)
    exact List.all_eq_true.1 (show ps.all PV.clo1 = true from hc) p (List.mem_of_getElem? hp)
  | _ => cases hc
theorem o_makeMap (fr : Fr D m.nx) (hm : MRD w S D m β κ A) {t : TypeId} {r : Option Operand} (ho : o.op = .makeMap t r) (he : ∀ x, OV β κ D w S (ρ x) (e x)) (h1 : match (tyD P t).k with | .map _ _ => True | _ => False) (h2 : hintOk e r)
    (K : PV → Mem → Prop) (hK : K (.mp [m.nx]) (m.grow none (.map (fun _ => none)))) : ∃ v w', (execOp ρ o).run P w = .ok (.value v) w' ∧ Left w S D m β κ A K v w' := by
  have eβ : upd β [m.nx] w.heap.size [m.nx] = w.heap.size := by simp [upd]
  obtain ⟨g1, g2⟩ := hm.grow fr none (x := .map (fun _ => none)) (g := w.heap.size) (K := 0) (w' := w.alloc (.map #[] 0)) (B := fun k => k = w.heap.size) rfl rfl rfl (by simp) (fun k hk => .inl (by omega)) (fun k hk _ => alloc_old w _ hk)
    ⟨fun k => by rw [eβ], #[], 0, by rw [eβ]; exact heap_alloc_new w _, ⟨MapKept.stamped_empty 0, fun e he => by simp at he, fun k p h => by cases h⟩⟩
  have hu : ∃ kt et, P.underlying t = some (.map kt et) := by
    have : (tyD P t).k = tk P t := rfl
    rw [this] at h1
    split at h1
    · rename_i kt et hk; exact ⟨kt, et, tk_map hk⟩
    · exact h1.elim
  obtain ⟨kt, et, hu⟩ := hu
  refine ⟨.map (some w.heap.size), w.alloc (.map #[] 0), ?_, _, _, _, _, _, _, _, hK, g1, g2, ?_, fun _ => Iff.rfl⟩
  · cases r with
    | none => simp [execOp, ho, Instr.makeMap]
    | some x =>
      have hx := he x
      simp only [hintOk] at h2
      split at h2
      · rename_i k n hq
        rw [hq] at hx
        simp [execOp, ho, Instr.makeMap, run_underlying hu, hx.int_inv.1, asInt, asIntOf]
      · exact h2.elim
  · have := OV.mp (β := upd β [m.nx] w.heap.size) (κ := upd κ [m.nx] 0) (D := gdN D m.nx) (w := w.alloc (.map #[] 0)) (S := S) [m.nx] (gd_new _)
    rwa [eβ] at this
theorem put_map (hm : MRD w S D m β κ A) {q : Id} {f f' : Int → Option PV} (h : m.o q = some (.map f)) {ents ents' : Array MapEntry} {clock clock' : Nat} (hh : w.heap[β q]? = some (.map ents clock)) (hE : Ents w S ents' clock' f') {K : PV → Mem → Prop} {r : PV} {v : Value} (hK : K r (m.set q (.map f'))) (hv : r = .und ∨ (r = .tu [] ∧ v = .tuple #[])) :
    Left w S D m β κ A K v { w with heap := w.heap.setIfInBounds (β q) (.map ents' clock') } := by
  obtain ⟨hA, _⟩ := hm.ob q _ h
  have hq : A q (β q) := (hA _).2 rfl
  obtain ⟨s1, s2⟩ := MapKept.heap_set (o' := .map ents' clock') hh
  have hS : ∀ k, S k → ({ w with heap := w.heap.setIfInBounds (β q) (.map ents' clock') } : World).heap[k]? = w.heap[k]? := fun k hk => s2 k (fun e => hm.ns q _ _ h hq (e ▸ hk))
  obtain ⟨p1, p2⟩ := hm.put (x' := .map f') (B := A q) h (w' := { w with heap := w.heap.setIfInBounds (β q) (.map ents' clock') }) rfl rfl rfl (by simp) (fun k hk => hk) (fun k hk => s2 k (fun e => hk (e ▸ hq))) ⟨hA, ents', clock', s1, hE.move (fun _ h => h) hS⟩
  refine ⟨r, _, _, _, _, _, _, hK, p1, p2, ?_, dsame⟩
  rcases hv with rfl | ⟨rfl, rfl⟩
  · exact .rv _ _ (.und _)
  · exact .tu _ _ rfl (fun j p hp => by simp at hp)
theorem mem_modify {es : Array MapEntry} {i : Nat} {g : MapEntry → MapEntry} {x : MapEntry} (h : x ∈ (es.modify i g).toList) : (∃ y, es.toList[i]? = some y ∧ x = g y) ∨ ∃ j, j ≠ i ∧ es.toList[j]? = some x := by
  obtain ⟨j, hj⟩ := List.getElem?_of_mem h
  rw [Array.getElem?_toList, Array.getElem?_modify] at hj
  by_cases e : i = j
  · subst e
    rw [if_pos rfl] at hj
    obtain ⟨y, hy, rfl⟩ := Option.map_eq_some_iff.1 hj
    exact .inl ⟨y, by simpa using hy, rfl⟩
  · rw [if_neg e] at hj
    exact .inr ⟨j, Ne.symm e, by simpa using hj⟩
theorem stamped_ne {es : Array MapEntry} {clock : Nat} (h : MapKept.Stamped es clock) {i j : Nat} {x y : MapEntry} (hi : es.toList[i]? = some x) (hj : es.toList[j]? = some y) (e : x.key = y.key) : i = j := by
  have hn := h.2.2
  have h1 : (es.toList.map (·.key))[i]? = some x.key := by rw [List.getElem?_map, hi]; rfl
  have h2 : (es.toList.map (·.key))[j]? = some y.key := by rw [List.getElem?_map, hj]; rfl
  rw [e] at h1
  exact (List.getElem?_inj (List.getElem?_eq_some_iff.1 h1).1 hn).1 (h1.trans h2.symm)
theorem o_mapUpdate (hm : MRD w S D m β κ A) (he : ∀ x, OV β κ D w S (ρ x) (e x)) {t : TypeId} {x k v : Operand} {q : Id} {i : Int} {f : Int → Option PV} (ho : o.op = .mapUpdate t x k v) (hx : e x = .mp q) (hk : e k = .int .i64 i) (hq : m.o q = some (.map f)) (ht : match (tyD P t).k with | .map kt _ => tk P kt = .int .i64 | _ => False) (hc : (e v).clo = true)
    (K : PV → Mem → Prop) (hK : K .und (m.set q (.map (upd f i (some (e v)))))) : ∃ w', (execOp ρ o).run P w = .ok .skip w' ∧ Left w S D m β κ A K undef w' := by
  have vx := he x; rw [hx] at vx
  have vk := he k; rw [hk] at vk
  obtain ⟨e1, _⟩ := vx.mp_inv
  obtain ⟨e2, hi⟩ := vk.int_inv
  have rv := clo_rv (he v) hc
  have hkk : (tyD P t).k = tk P t := rfl
  rw [hkk] at ht
  split at ht
  · rename_i kt et hkt
    have hu := tk_map hkt
    have hku := tk_int ht
    obtain ⟨_, ents, clock, a1, a2⟩ := hm.ob _ _ hq
    have hck : (Instr.checkKey false 10000 kt (.int .i64 i)).run P w = .ok () w := MapKept.run_checkKey hku (k := .int .i64 i) rfl _ 9999
    rcases a2.find i with ⟨b1, b2, b3⟩ | ⟨j, e', p, b1, b2, b3, b4, b5⟩
    · have hr : (Instr.mapUpdate t (.map (some (β q))) (.int .i64 i) (ρ v)).run P w = .ok () { w with heap := w.heap.setIfInBounds (β q) (.map (ents.push { key := .int .i64 i, val := ρ v, born := clock }) (clock + 1)) } := by
        simp [Instr.mapUpdate, run_underlying hu, MapKept.run_getObj_map a1, hck, MapKept.run_findKey hku b1, MapKept.run_setObj_map _ a1]
      refine ⟨_, by simp only [execOp, ho, e1, e2, Sem.run_bind, hr]; rfl, put_map hm hq a1 (f' := upd f i (some (e v))) ⟨MapKept.stamped_push a2.st b3, fun x hx => ?_, fun k p hp => ?_⟩ hK (.inl rfl)⟩
      · simp only [Array.toList_push, List.mem_append, List.mem_singleton] at hx
        rcases hx with hx | rfl
        · obtain ⟨k', p', c1, c2, c3, c4⟩ := a2.key x hx
          refine ⟨k', p', c1, c2, ?_, c4⟩
          unfold upd; rw [if_neg (fun e => b3 x hx (by rw [c1, e]))]; exact c3
        · exact ⟨i, e v, rfl, hi, by simp [upd], rv⟩
      · by_cases ek : k = i
        · subst ek; exact ⟨{ key := .int .i64 k, val := ρ v, born := clock }, by simp, rfl⟩
        · simp only [upd, if_neg ek] at hp
          obtain ⟨x, hx, hxk⟩ := a2.all k p hp
          exact ⟨x, by simp [hx], hxk⟩
    · have hj : ents[j]? = some e' := by simpa using b2
      have hr : (Instr.mapUpdate t (.map (some (β q))) (.int .i64 i) (ρ v)).run P w = .ok () { w with heap := w.heap.setIfInBounds (β q) (.map (ents.modify j fun e => { e with key := .int .i64 i, val := ρ v }) clock) } := by
        simp [Instr.mapUpdate, run_underlying hu, MapKept.run_getObj_map a1, hck, MapKept.run_findKey hku b1, MapKept.run_setObj_map _ a1, hj, b3, MapKept.run_keyThatStays (d := .int .i64) (k := .int .i64 i) rfl]
      have hkey : ∀ e0, ents[j]? = some e0 → ({ e0 with key := .int .i64 i, val := ρ v } : MapEntry).key = e0.key := fun e0 h0 => by rw [hj] at h0; cases h0; exact b3.symm
      refine ⟨_, by simp only [execOp, ho, e1, e2, Sem.run_bind, hr]; rfl, put_map hm hq a1 (f' := upd f i (some (e v))) ⟨MapKept.stamped_modify a2.st j (fun e => { e with key := .int .i64 i, val := ρ v }) (fun _ _ => rfl) (fun e0 _ h0 => hkey e0 h0), fun x hx => ?_, fun k p hp => ?_⟩ hK (.inl rfl)⟩
      · rcases mem_modify hx with ⟨y, _, rfl⟩ | ⟨j', hne, hj'⟩
        · exact ⟨i, e v, rfl, hi, by simp [upd], rv⟩
        · obtain ⟨k', p', c1, c2, c3, c4⟩ := a2.key x (List.mem_of_getElem? hj')
          refine ⟨k', p', c1, c2, ?_, c4⟩
          unfold upd; rw [if_neg (fun e => hne (stamped_ne a2.st hj' b2 (by rw [c1, e, b3])))]; exact c3
      · by_cases ek : k = i
        · subst ek
          refine ⟨{ e' with key := .int .i64 k, val := ρ v }, ?_, rfl⟩
          have : (ents.modify j fun e => { e with key := .int .i64 k, val := ρ v })[j]? = some { e' with key := .int .i64 k, val := ρ v } := by rw [Array.getElem?_modify, if_pos rfl, hj]; rfl
          exact Array.mem_toList_iff.2 (Array.mem_of_getElem? this)
        · simp only [upd, if_neg ek] at hp
          obtain ⟨x, hx, hxk⟩ := a2.all k p hp
          obtain ⟨j', hj'⟩ := List.getElem?_of_mem hx
          have hne : j ≠ j' := fun e => by subst e; rw [b2] at hj'; cases hj'; rw [b3] at hxk; cases hxk; exact ek rfl
          refine ⟨x, ?_, hxk⟩
          have : (ents.modify j fun e => { e with key := .int .i64 i, val := ρ v })[j']? = some x := by rw [Array.getElem?_modify, if_neg hne]; simpa using hj'
          exact Array.mem_toList_iff.2 (Array.mem_of_getElem? this)
  · exact ht.elim
theorem o_delete (hm : MRD w S D m β κ A) {t t' : TypeId} {ty : TypeId} {vx vk : Value} {q : Id} {i : Int} {f : Int → Option PV} {ts : List TypeId} (hx : OV β κ D w S vx (.mp q)) (hk : OV β κ D w S vk (.int .i64 i)) (hq : m.o q = some (.map f)) (ht : match (tyD P t).k with | .map kt _ => tk P kt = .int .i64 | _ => False)
    (K : PV → Mem → Prop) (hK : K (.tu []) (m.set q (.map (upd f i none)))) : ∃ v w', (Builtin.delete_ (t :: ts).toArray ty #[vx, vk]).run P w = .ok v w' ∧ Left w S D m β κ A K v w' := by
  obtain ⟨e1, _⟩ := hx.mp_inv
  obtain ⟨e2, hi⟩ := hk.int_inv
  have hkk : (tyD P t).k = tk P t := rfl
  rw [hkk] at ht
  split at ht
  · rename_i kt et hkt
    have hu := tk_map hkt
    have hku := tk_int ht
    obtain ⟨_, ents, clock, a1, a2⟩ := hm.ob _ _ hq
    have hck : (Instr.checkKey ents.isEmpty 10000 kt (.int .i64 i)).run P w = .ok () w := MapKept.run_checkKey hku (k := .int .i64 i) rfl _ 9999
    rw [e1, e2]
    rcases a2.find i with ⟨b1, b2, b3⟩ | ⟨j, e', p, b1, b2, b3, b4, b5⟩
    · refine ⟨_, _, by simp [Builtin.delete_, run_underlying hu, MapKept.run_getObj_map a1, hck, MapKept.run_findKey hku b1, MapKept.run_setObj_map _ a1], put_map hm hq a1 (f' := upd f i none) ⟨a2.st, fun x hx => ?_, fun k p hp => ?_⟩ hK (.inr ⟨rfl, rfl⟩)⟩
      · obtain ⟨k', p', c1, c2, c3, c4⟩ := a2.key x hx
        refine ⟨k', p', c1, c2, ?_, c4⟩
        unfold upd; rw [if_neg (fun e => b3 x hx (by rw [c1, e]))]; exact c3
      · by_cases ek : k = i
        · subst ek; simp [upd] at hp
        · simp only [upd, if_neg ek] at hp; exact a2.all k p hp
    · have hj : j < ents.size := by have := (List.getElem?_eq_some_iff.1 b2).1; simpa using this
      have er : (ents.eraseIdxIfInBounds j).toList = ents.toList.eraseIdx j := by simp [Array.eraseIdxIfInBounds, hj]
      refine ⟨_, _, by simp [Builtin.delete_, run_underlying hu, MapKept.run_getObj_map a1, hck, MapKept.run_findKey hku b1, MapKept.run_setObj_map _ a1], put_map hm hq a1 (f' := upd f i none) ⟨MapKept.stamped_erase a2.st j, fun x hx => ?_, fun k p hp => ?_⟩ hK (.inr ⟨rfl, rfl⟩)⟩
      · rw [er] at hx
        obtain ⟨j', hj', hne⟩ := (List.mem_eraseIdx_iff_getElem?.1 hx)
        obtain ⟨k', p', c1, c2, c3, c4⟩ := a2.key x (List.mem_of_getElem? hne)
        refine ⟨k', p', c1, c2, ?_, c4⟩
        unfold upd; rw [if_neg (fun e => hj' (stamped_ne a2.st hne b2 (by rw [c1, e, b3])))]; exact c3
      · by_cases ek : k = i
        · subst ek; simp [upd] at hp
        · simp only [upd, if_neg ek] at hp
          obtain ⟨x, hx, hxk⟩ := a2.all k p hp
          obtain ⟨j', hj'⟩ := List.getElem?_of_mem hx
          refine ⟨x, ?_, hxk⟩
          rw [er, List.mem_eraseIdx_iff_getElem?]
          exact ⟨j', fun e => by subst e; rw [b2] at hj'; cases hj'; rw [b3] at hxk; cases hxk; exact ek rfl, hj'⟩
  · exact ht.elim
end
end Go.Proofs.YtofaiiobggnibaaW.AW
namespace Go.Proofs.YtofaiiobggnibaaW.AW
open Go Go.RowKit
set_option linter.unusedVariables false
set_option linter.unusedSimpArgs false

section
variable {P : Program} {β κ : Id → Nat} {A : Id → Nat → Prop} {w : World} {S : Nat → Prop} {m : Mem} {e : Operand → PV} {ρ : Operand → Value} {o : Oper} {cs : List Bool} {D : Id → Prop}
/-- Elements of so many cells each, one behind the other: values at which the cells read. -/
def News (β κ : Id → Nat) (D : Id → Prop) (w : World) (S : Nat → Prop) (k es : Nat) (gs : Nat → List PV) (news : List Value) : Prop :=
  news.length = k * es ∧ (∀ u ∈ news, u.oneCell' = true) ∧ (∀ i, i < k → (gs i).length = es) ∧ ∀ i j p, i < k → (gs i)[j]? = some p → ∃ u, news[i * es + j]? = some u ∧ u.oneCell' = true ∧ OV β κ D w S u p
theorem News.none {es : Nat} {gs : Nat → List PV} : News β κ D w S 0 es gs [] := ⟨by simp, fun u hu => by simp at hu, fun i hi => absurd hi (Nat.not_lt_zero i), fun i j p hi => absurd hi (Nat.not_lt_zero i)⟩
theorem news_of {a : Addr} {k es : Nat} {gs : Nat → List PV} (h0 : 0 < es) (h : ∀ i, i < k → (gs i).length = es ∧ ∀ j p, (gs i)[j]? = some p → ∃ u, w.cell? (a.add (i * es + j)) = some u ∧ u.oneCell' = true ∧ OV β κ D w S u p) :
    ∃ news, News β κ D w S k es gs news ∧ ∀ j u, news[j]? = some u → w.cell? (a.add j) = some u := by
  have at_ : ∀ x, x < k * es → ∃ u, w.cell? (a.add x) = some u ∧ u.oneCell' = true := fun x hx => by
    have hi : x / es < k := Nat.div_lt_of_lt_mul (by rwa [Nat.mul_comm] at hx)
    obtain ⟨hl, hc⟩ := h _ hi
    have hj : x % es < (gs (x / es)).length := by rw [hl]; exact Nat.mod_lt _ h0
    obtain ⟨u, h1, h2, _⟩ := hc _ _ (List.getElem?_eq_getElem hj)
    have e : x / es * es + x % es = x := by rw [Nat.mul_comm]; exact Nat.div_add_mod _ _
    exact ⟨u, e ▸ h1, h2⟩
  have get_ : ∀ x, x < k * es → ((List.range (k * es)).map (fun x => (w.cell? (a.add x)).getD undef))[x]? = some ((w.cell? (a.add x)).getD undef) := fun x hx => by simp [hx]
  refine ⟨(List.range (k * es)).map (fun x => (w.cell? (a.add x)).getD undef), ⟨by simp, fun u hu => ?_, fun i hi => (h i hi).1, fun i j p hi hp => ?_⟩, fun j u hu => ?_⟩
  · obtain ⟨x, hx, rfl⟩ := List.mem_map.1 hu
    obtain ⟨u, h1, h2⟩ := at_ x (by simpa using hx)
    rw [h1]; exact h2
  · obtain ⟨hl, hc⟩ := h i hi
    obtain ⟨u, h1, h2, h3⟩ := hc j p hp
    have hj : j < es := by rw [← hl]; exact (List.getElem?_eq_some_iff.1 hp).1
    have hlt : i * es + j < k * es := by
      have : (i + 1) * es ≤ k * es := Nat.mul_le_mul_right _ hi
      rw [Nat.succ_mul] at this; omega
    exact ⟨u, by rw [get_ _ hlt, h1]; rfl, h2, h3⟩
  · have hx : j < k * es := by simpa using (List.getElem?_eq_some_iff.1 hu).1
    rw [get_ j hx] at hu
    obtain ⟨v, h1, _⟩ := at_ j hx
    rw [h1] at hu ⊢
    exact hu
theorem src_slice {t' : TypeId} {a : Addr} {n c es : Nat} {news : List Value} (hk : (∃ e', P.underlying t' = some (.slice e')) ∨ P.underlying t' = some .string) (hl : news.length = n * es) (h1 : ∀ u ∈ news, u.oneCell' = true) (hn : ∀ j u, news[j]? = some u → w.cell? (a.add j) = some u) :
    Src P es t' (.slice (some a) n c) n news w :=
  ⟨hk, fun _ => rfl, run_firstCells_some w es n a n c news hl hn, run_firstCells_some w.drew es n a n c news hl (by simpa using hn), hl, h1⟩
theorem src_none {t' : TypeId} {A : Option Addr} {c es : Nat} (hk : (∃ e', P.underlying t' = some (.slice e')) ∨ P.underlying t' = some .string) : Src P es t' (.slice A 0 c) 0 [] w := by
  cases A with
  | none => exact ⟨hk, fun _ => rfl, run_firstCells_none w es 0 0 c, run_firstCells_none w.drew es 0 0 c, by simp, fun _ h => by cases h⟩
  | some a => exact src_slice hk (by simp) (fun u hu => by cases hu) (fun j u hu => by simp at hu)
theorem src_ok (hm : MRD w S D m β κ A) {v : Value} {x : PV} {k sz es : Nat} {gs : Nat → List PV} {t' : TypeId} (hv : OV β κ D w S v x) (h : asrc m x = some (k, gs, sz)) (hfl : aflat m x) (hz : k = 0 ∨ sz = es) (h0 : 0 < es) (hk : (∃ e', P.underlying t' = some (.slice e')) ∨ P.underlying t' = some .string) :
    ∃ news, Src P es t' v k news w ∧ News β κ D w S k es gs news := by
  unfold asrc at h
  split at h
  · simp only [Option.some.injEq, Prod.mk.injEq] at h
    obtain ⟨rfl, rfl, rfl⟩ := h
    have e := hv.nils_inv; subst e
    exact ⟨[], src_none hk, News.none⟩
  · simp only [Option.some.injEq, Prod.mk.injEq] at h
    obtain ⟨rfl, rfl, rfl⟩ := h
    obtain ⟨A, c, rfl, hn, H⟩ := hv.cl_inv
    rename_i sz n g
    rcases Nat.eq_zero_or_pos n with rfl | hp
    · exact ⟨[], src_none hk, News.none⟩
    · obtain ⟨hc, a, rfl, hS, hg⟩ := H hp
      obtain rfl : sz = es := by rcases hz with hz | hz; omega; exact hz
      obtain ⟨news, h1, h2⟩ := news_of (β := β) (κ := κ) (D := D) (S := S) h0 (fun i hi => ⟨(hg i hi).1, fun j p hp => by obtain ⟨u, a1, a2, a3⟩ := (hg i hi).2 j p hp; exact ⟨u, a1, a2, .rv _ _ a3⟩⟩)
      exact ⟨news, src_slice hk h1.1 h1.2.1 h2, h1⟩
  · rename_i i sz0 n off len
    split at h
    · rename_i sz' n' g hb
      split at h
      · rename_i hq
        obtain ⟨rfl, rfl⟩ := hq
        simp only [Option.some.injEq, Prod.mk.injEq] at h
        obtain ⟨rfl, rfl, rfl⟩ := h
        obtain ⟨A, c, rfl, hx, hl, hn, hkk, hc, hA⟩ := hv.sl_inv
        rcases Nat.eq_zero_or_pos len with rfl | hp
        · exact ⟨[], src_none hk, News.none⟩
        · obtain rfl := hA (by omega)
          obtain rfl : sz' = es := by rcases hz with hz | hz; omega; exact hz
          simp only [aflat, hb] at hfl
          obtain ⟨news, h1, h2⟩ := news_of (a := ⟨β i, off * sz', none⟩) (k := len) (gs := fun i => g (off + i)) (β := β) (κ := κ) (D := D) (w := w) (S := S) h0 (fun j hj => ⟨by
            rcases hm.ob i _ hb with ⟨_, hz0, _⟩ | ⟨_, _, _, hblk⟩
            · omega
            · obtain ⟨_, _, _, _, _, _, _, _, h4, _⟩ := hblk
              exact h4 _ (by omega), fun q p hp => by
            obtain ⟨u, a1, a2, a3⟩ := row_cells hm hb (k := off + j) (by omega) 0 q p (by simpa using hp)
            have hp0 : p.isOw = false := by simpa using List.all_eq_true.1 (hfl j hj) p (List.mem_of_getElem? hp)
            refine ⟨u, ?_, a2, a3 hp0⟩
            rw [Addr.add_lit] at a1 ⊢
            rw [← a1]; congr 2; rw [Nat.add_mul]; omega⟩)
          exact ⟨news, src_slice hk h1.1 h1.2.1 h2, h1⟩
      · cases h
    · cases h
  · simp only [Option.some.injEq, Prod.mk.injEq] at h
    obtain ⟨rfl, rfl, rfl⟩ := h
    obtain ⟨e, hb⟩ := hv.str_inv
    subst e
    rename_i b
    by_cases hb0 : b.size = 0
    · refine ⟨[], ⟨hk, fun _ => rfl, ?_, ?_, by simp [hb0], fun _ h => by cases h⟩, by rw [hb0]; exact News.none⟩
      all_goals
        have hd : b.data = #[] := Array.eq_empty_of_size_eq_zero hb0
        simp [Builtin.firstCells, hd]
    · obtain rfl : 1 = es := by rcases hz with hz | hz; exact absurd hz hb0; exact hz
      refine ⟨byteCells b, ⟨hk, fun _ => rfl, firstCells_string b w, firstCells_string b w.drew, by rw [byteCells_length, Nat.mul_one], fun u hu => by
        obtain ⟨_, _, rfl⟩ := List.mem_map.1 hu; rfl⟩, by rw [byteCells_length, Nat.mul_one], fun u hu => by obtain ⟨_, _, rfl⟩ := List.mem_map.1 hu; rfl, fun i hi => rfl, fun i j p hi hp => ?_⟩
      cases j with
      | succ j => simp at hp
      | zero =>
        simp only [List.getElem?_cons_zero, Option.some.injEq] at hp
        subst hp
        have e1 : (byteCells b)[i * 1 + 0]? = some (.int .u8 (bt b i)) := by
          rw [Nat.mul_one, Nat.add_zero]
          have hi' : i < b.data.toList.length := by rw [Array.length_toList]; exact hi
          simp only [byteCells, List.getElem?_map, List.getElem?_eq_getElem hi', Option.map_some, Option.some.injEq]
          have : bt b i = ((b[i]'hi).toNat : Int) := by simp [bt, hi]
          rw [this]
          congr 2
        refine ⟨_, e1, rfl, .int_mk ?_⟩
        have : bt b i = ((b[i]'hi).toNat : Int) := by simp [bt, hi]
        rw [this, show IntKind.u8.min = 0 from rfl, show IntKind.u8.max = 255 from rfl]
        have := (b[i]'hi).toNat_lt
        omega
  · cases h
theorem append_room {t t' ty el : TypeId} {i : TypeInfo} (ht : P.underlying t = some (.slice el)) (hi : P.info? el = some i) {g sLen sCap n : Nat} {x : Value} {news : List Value} {cur : Array Value} {e' : TypeId} (hs : Src P i.size t' x n news w) {fz : Nat × Nat} (hg : w.heap[g]? = some (.cells cur e' fz)) (hzf : fzOk fz cur.size) (hroom : sLen + n ≤ sCap) (hfit : sLen * i.size + news.length ≤ cur.size) :
    (Builtin.append_ #[t, t'] ty #[.slice (some ⟨g, 0, none⟩) sLen sCap, x]).run P w = .ok (.slice (some ⟨g, 0, none⟩) (sLen + n) sCap) (w.setRow g (cur.toList.take (sLen * i.size) ++ news ++ cur.toList.drop (sLen * i.size + news.length)).toArray) := by
  have hst := run_stores (P := P) g (sLen * i.size) e' fz news 0 cur w hg hzf (by simpa using hfit) hs.one
  simp only [Nat.add_zero] at hst
  have ha : (⟨g, 0, none⟩ : Addr).add (sLen * i.size) = ⟨g, sLen * i.size, none⟩ := by rw [Addr.add_lit, Nat.zero_add]
  rcases hs.kind with ⟨e', hk⟩ | hk <;> simp only [Builtin.append_] <;> simp [run_underlying ht, run_underlying hk, sizeOf, typeInfo, hi, hs.len, hroom, hs.cells, ha, hst]
theorem append_zero {t t' ty el : TypeId} {i : TypeInfo} (ht : P.underlying t = some (.slice el)) (hi : P.info? el = some i) {A : Option Addr} {sCap : Nat} {x : Value} (hs : Src P i.size t' x 0 [] w) :
    (Builtin.append_ #[t, t'] ty #[.slice A 0 sCap, x]).run P w = .ok (.slice A 0 sCap) w := by
  rcases hs.kind with ⟨e', hk⟩ | hk <;> cases A <;> simp [Builtin.append_, run_underlying ht, run_underlying hk, sizeOf, typeInfo, hi, hs.len, hs.cells, storeCells]
/-- Cells of a row and new ones behind them. -/
theorem cat_blk {es len k cap : Nat} {b : Nat} {F : Nat → Nat → Nat → Prop} {B : Nat → Prop} {n : Nat} {g gs : Nat → List PV} {olds news : List Value} {w' : World} {cur' : Array Value} {e' : TypeId} {fz' : Nat × Nat} {gb : Nat} (h0 : 0 < es)
    (hF : Fp n es b F B) (hlen : len ≤ n) (ho : olds.length = len * es) (hgl : ∀ i, i < len → (g i).length = es)
    (hg : ∀ i j p, i < len → (g i)[j]? = some p → ∃ u, olds[i * es + j]? = some u ∧ u.oneCell' = true ∧ TV β κ D w' S (F i j) u p) (hn : News β κ D w' S k es gs news)
    (hh : w'.heap[gb]? = some (.cells cur' e' fz')) (hz : fzOk fz' cur'.size) (hs : cur'.size = cap * es) (hc : len + k ≤ cap) (hcur : ∃ rest, cur' = (olds ++ news ++ rest).toArray) (hgb : ∀ i j, ¬ F i j gb) :
    Blk β κ D w' S (fun x => x = gb ∨ ∃ i j, i < len ∧ F i j x) gb es (len + k) cap (fun i => if i < len then g i else gs (i - len)) := by
  obtain ⟨rest, rfl⟩ := hcur
  refine ⟨_, e', fz', fun i j x => i < len ∧ F i j x, hh, hz, hs, hc, fun i hi => ?_, ⟨fun i j h => hgb i j h.2, fun i j i' j' x a c => hF.dj i j i' j' x a.2 c.2, fun i j x h => ⟨by omega, (hF.dm i j x h.2).2⟩, fun x => Iff.rfl⟩, fun i j p hi hp => ?_⟩
  · show (if i < len then g i else gs (i - len)).length = es
    split
    · exact hgl i (by assumption)
    · exact hn.2.2.1 _ (by omega)
  · by_cases h : i < len
    · simp only [if_pos h] at hp
      obtain ⟨u, h1, h2, h3⟩ := hg i j p h hp
      have hlt := (List.getElem?_eq_some_iff.1 h1).1
      have : ((olds ++ news ++ rest).toArray).getD (i * es + j) undef = u := by
        simp only [Array.getD_eq_getD_getElem?, List.getElem?_toArray, List.append_assoc]
        rw [List.getElem?_append_left hlt, h1]; rfl
      rw [this]
      refine ⟨h2, ?_⟩
      have e1 : (fun x => i < len ∧ F i j x) = F i j := by funext x; simp [h]
      show TV β κ D w' S (fun x => i < len ∧ F i j x) u p
      rw [e1]; exact h3
    · simp only [if_neg h] at hp
      obtain ⟨u, h1, h2, h3⟩ := hn.2.2.2 (i - len) j p (by omega) hp
      have hlt := (List.getElem?_eq_some_iff.1 h1).1
      have e1 : i * es + j = len * es + ((i - len) * es + j) := by
        rw [← Nat.add_assoc, ← Nat.add_mul]; congr 2; omega
      have : ((olds ++ news ++ rest).toArray).getD (i * es + j) undef = u := by
        simp only [Array.getD_eq_getD_getElem?, List.getElem?_toArray, List.append_assoc]
        rw [List.getElem?_append_right (by rw [e1, ho]; omega), e1, ho, Nat.add_sub_cancel_left, List.getElem?_append_left hlt, h1]; rfl
      rw [this]
      exact ⟨h2, .inl ⟨h3, fun x hx => h hx.1⟩⟩
theorem News.move {k es : Nat} {gs : Nat → List PV} {news : List Value} {w' : World} (hS : ∀ x, S x → w'.heap[x]? = w.heap[x]?) (h : News β κ D w S k es gs news) : News β κ D w' S k es gs news :=
  ⟨h.1, h.2.1, h.2.2.1, fun i j p hi hp => by obtain ⟨u, a, b, c⟩ := h.2.2.2 i j p hi hp; exact ⟨u, a, b, c.move (fun _ _ => ⟨rfl, rfl⟩) (fun _ h => h) (fun _ h => h) hS⟩⟩
theorem none_blk {es k cap gb : Nat} {gs : Nat → List PV} {news : List Value} {w' : World} {cur' : Array Value} {e' : TypeId} {fz' : Nat × Nat} (h0 : 0 < es) (hn : News β κ D w' S k es gs news)
    (hh : w'.heap[gb]? = some (.cells cur' e' fz')) (hz : fzOk fz' cur'.size) (hs : cur'.size = cap * es) (hc : k ≤ cap) (hcur : ∃ rest, cur' = (news ++ rest).toArray) : Blk β κ D w' S (fun x => x = gb) gb es k cap gs := by
  obtain ⟨rest, rfl⟩ := hcur
  refine Blk.flat hh hz hs hc hn.2.2.1 (fun i j p hi hp => ?_)
  obtain ⟨u, h1, h2, h3⟩ := hn.2.2.2 i j p hi hp
  exact ⟨u, by simp only [List.getElem?_toArray]; rw [List.getElem?_append_left (List.getElem?_eq_some_iff.1 h1).1]; exact h1, h2, h3⟩
theorem o_append (hm : MRD w S D m β κ A) {t t' ty : TypeId} {vs vx : Value} {s x : PV} (hvs : OV β κ D w S vs s) (hvx : OV β κ D w S vx x) (hk : (∃ e', P.underlying t' = some (.slice e')) ∨ P.underlying t' = some .string) (K : PV → Mem → Prop) (fr : ∀ r m', K r m' → m'.nx = m.nx + 1 → Fr D m.nx) (h : aappend P t s x m K) :
    ∃ v w', (Builtin.append_ #[t, t'] ty #[vs, vx]).run P w = .ok v w' ∧ Left w S D m β κ A K v w' := by
  unfold aappend at h
  split at h
  · rename_i k gs sz hsrc
    split at h
    · -- onto nil
      obtain ⟨⟨h1, h2, h3⟩, hfl, hK⟩ := h
      obtain ⟨el, i0, z, hu, hi0, hz0, hs, hby, hzs, hz1, hpos, _, hbp⟩ := el_of h1
      obtain ⟨news, n1, n2⟩ := src_ok hm hvx hsrc hfl h2 hpos hk
      have e := hvs.nils_inv; subst e
      have hle : k * 1 ≤ k * (tyD P t).eb := Nat.mul_le_mul_left _ hbp
      rcases Nat.eq_zero_or_pos k with rfl | hp
      · have hnil : news = [] := List.eq_nil_of_length_eq_zero (by simpa using n2.1)
        subst hnil
        exact ⟨_, _, append_zero hu hi0 (by rw [hs]; exact n1), new_none (fr _ _ hK rfl) hm none K hK⟩
      · have hr := run_append_grow_src (P := P) w t t' ty el i0 z hu hi0 hz0 none 0 0 [] (by simp [Builtin.firstCells]) vx k news (by rw [hs]; exact n1) (by omega) (by omega) (Nat.le_trans (Nat.mul_le_mul_right _ (Nat.le_of_eq (nextslicecap_zero (by omega)))) (by rw [hby]; simpa using (Nat.le_trans h3 (by decide))))
        simp only [Nat.zero_add, List.nil_append] at hr
        have hge := grownCap_ge w k 0 el
        have hcm := grownCap_le_maxLen w k 0 el (by unfold maxLen; omega)
        have hS' : ∀ c : Array Value, ∀ j, S j → (w.drew.alloc (.cells c el)).heap[j]? = w.heap[j]? := fun c j hj => heap_alloc_old w.drew _ j (hm.lt j hj)
        refine ⟨_, _, hr, new_row (w' := w.drew.alloc _) (B := fun x => x = w.heap.size) (fr _ _ hK rfl) hm none rfl rfl rfl (by simp) (fun j hj => .inl (by omega)) (fun j hj _ => heap_alloc_old w.drew _ j hj) (none_blk hpos (n2.move (hS' _)) (heap_alloc_new w.drew _) (.inl rfl) ?_ hge ?_) hcm hpos K hK⟩
        · simp only [Array.size_append, List.size_toArray, n2.1, size_zeroCells, hzs]
          rw [← Nat.add_mul]; congr 1; omega
        · exact ⟨(Builtin.zeroCells z.cells (grownCap w k 0 el - k)).toList, by apply Array.toList_inj.1; simp⟩
    · rename_i i0' sz0 n off len
      split at h
      · rename_i sz' n' g hb
        obtain ⟨⟨h1, h2, rfl, rfl, rfl, rfl, h7⟩, hfl, hK⟩ := h
        obtain ⟨el, i0, z, hu, hi0, hz0, hs, hby, hzs, hz1, hpos, _, hbp⟩ := el_of h1
        obtain ⟨news, n1, n2⟩ := src_ok hm hvx hsrc hfl h2 hpos hk
        obtain ⟨Ad, c, rfl, hx, hl, hn, hkk, hc, hA⟩ := hvs.sl_inv
        rw [Nat.zero_add] at hn hkk
        subst hkk
        have hle : (len + k) * 1 ≤ (len + k) * (tyD P t).eb := Nat.mul_le_mul_left _ hbp
        have hS' : ∀ c : Array Value, ∀ j, S j → (w.drew.alloc (.cells c el)).heap[j]? = w.heap[j]? := fun c j hj => heap_alloc_old w.drew _ j (hm.lt j hj)
        -- nowhere
        rcases Nat.eq_zero_or_pos (κ i0') with hκ | hκ
        · have hlen : len = 0 := by omega
          subst hlen
          rw [Nat.zero_add] at hle h7
          rcases Nat.eq_zero_or_pos k with rfl | hp
          · have hnil : news = [] := List.eq_nil_of_length_eq_zero (by simpa using n2.1)
            subst hnil
            rw [hκ]
            exact ⟨_, _, append_zero hu hi0 (by rw [hs]; exact n1), new_none (fr _ _ hK rfl) hm (some i0') K hK⟩
          · have hfc : (Builtin.firstCells i0.size 0 (.slice Ad 0 (κ i0'))).run P w.drew = .ok ([] : List Value).toArray w.drew := by
              cases Ad with
              | none => exact run_firstCells_none w.drew _ 0 0 _
              | some a => exact run_firstCells_some w.drew _ 0 a 0 _ [] (by simp) (fun j u hu => by simp at hu)
            have hr := run_append_grow_src (P := P) w t t' ty el i0 z hu hi0 hz0 Ad 0 (κ i0') [] hfc vx k news (by rw [hs]; exact n1) (by omega) (by omega) (by rw [hκ]; exact Nat.le_trans (Nat.mul_le_mul_right _ (Nat.le_of_eq (nextslicecap_zero (by omega)))) (by rw [hby]; simpa using (Nat.le_trans h7 (by decide))))
            simp only [Nat.zero_add, List.nil_append] at hr hK
            have hge := grownCap_ge w k (κ i0') el
            have hcm := grownCap_le_maxLen w k (κ i0') el (by unfold maxLen; omega)
            have e0 : (fun i => if i < 0 then g i else gs (i - 0)) = gs := by funext i; simp
            rw [e0] at hK
            refine ⟨_, _, hr, new_row (w' := w.drew.alloc _) (B := fun x => x = w.heap.size) (fr _ _ hK rfl) hm (some i0') rfl rfl rfl (by simp) (fun j hj => .inl (by omega)) (fun j hj _ => heap_alloc_old w.drew _ j hj) (none_blk hpos (n2.move (hS' _)) (heap_alloc_new w.drew _) (.inl rfl) ?_ hge ?_) hcm hpos K hK⟩
            · simp only [Array.size_append, List.size_toArray, n2.1, size_zeroCells, hzs]
              rw [← Nat.add_mul]; congr 1; omega
            · exact ⟨(Builtin.zeroCells z.cells (grownCap w k (κ i0') el - k)).toList, by apply Array.toList_inj.1; simp⟩
        · obtain rfl := hA hκ
          rw [Nat.zero_mul] at *
          rcases hm.ob i0' _ hb with ⟨hz, _⟩ | ⟨_, _, _, hblk⟩
          · omega
          obtain ⟨cur, e', fz, F, g1, gz, g2, g3, g6, gF, g7⟩ := hblk
          have hAb : A i0' (β i0') := (gF.eq _).2 (.inl rfl)
          have hSb : ¬ S (β i0') := hm.ns _ _ _ hb hAb
          have hFlt : ∀ i j x, F i j x → x < w.heap.size ∧ A i0' x := fun i j x hx => by
            have : A i0' x := (gF.eq x).2 (.inr ⟨i, j, hx⟩)
            exact ⟨(hm.ob i0' _ hb).lt this, this⟩
          have olds_len : (cur.toList.take (len * (tyD P t).es)).length = len * (tyD P t).es := by
            have : len * (tyD P t).es ≤ κ i0' * (tyD P t).es := Nat.mul_le_mul_right _ hl
            simp; omega
          have olds_at : ∀ w' : World, (∀ x, S x → w'.heap[x]? = w.heap[x]?) → (∀ i j x, F i j x → w'.heap[x]? = w.heap[x]?) → ∀ i j p, i < len → (g i)[j]? = some p → ∃ u, (cur.toList.take (len * (tyD P t).es))[i * (tyD P t).es + j]? = some u ∧ u.oneCell' = true ∧ TV β κ D w' S (F i j) u p := fun w' hw1 hw2 i j p hi hp => by
            obtain ⟨a1, a2⟩ := g7 i j p (by omega) hp
            have hj : j < (tyD P t).es := by rw [← g6 i (by omega)]; exact (List.getElem?_eq_some_iff.1 hp).1
            have hlt : i * (tyD P t).es + j < len * (tyD P t).es := by
              have : (i + 1) * (tyD P t).es ≤ len * (tyD P t).es := Nat.mul_le_mul_right _ hi
              rw [Nat.succ_mul] at this; omega
            have hlt2 : i * (tyD P t).es + j < cur.size := by rw [List.length_take] at olds_len; simp at olds_len; omega
            refine ⟨_, ?_, a1, a2.move (fun _ _ => ⟨rfl, rfl⟩) (fun _ h => h) (fun _ h => h) hw1 (hw2 i j)⟩
            rw [List.getElem?_take, if_pos hlt]
            simp [Array.getD, hlt2]
          have hBown : ∀ gb : Nat, (w.heap.size ≤ gb ∨ A i0' gb) → ∀ x, (x = gb ∨ ∃ i j, i < len ∧ F i j x) → w.heap.size ≤ x ∨ ∃ o x0, some i0' = some o ∧ m.o o = some x0 ∧ A o x := fun gb hgb x hx => by
            rcases hx with rfl | ⟨i, j, _, hx⟩
            · rcases hgb with h | h
              · exact .inl h
              · exact .inr ⟨i0', _, rfl, hb, h⟩
            · exact .inr ⟨i0', _, rfl, hb, (hFlt i j x hx).2⟩
          by_cases hroom : len + k ≤ κ i0'
          · have hfit : len * i0.size + news.length ≤ cur.size := by
              rw [n2.1, hs, g2, ← Nat.add_mul]; exact Nat.mul_le_mul_right _ hroom
            have hr := append_room (ty := ty) hu hi0 (by rw [hs]; exact n1) g1 gz hroom hfit
            rw [hs] at hr
            have hw1 : ∀ c : Array Value, ∀ x, S x → (w.setRow (β i0') c).heap[x]? = w.heap[x]? := fun c x hx => setRow_other w _ x _ (fun e => hSb (e ▸ hx))
            have hcs : ((cur.toList.take (len * (tyD P t).es) ++ news ++ cur.toList.drop (len * (tyD P t).es + news.length)).toArray).size = cur.size := by
              simp only [List.size_toArray, List.length_append, olds_len, List.length_drop, Array.length_toList, n2.1]
              rw [hs, n2.1] at hfit
              omega
            exact ⟨_, _, hr, new_row (w' := w.setRow _ _) (fr _ _ hK rfl) hm (some i0') rfl rfl rfl (by simp) (hBown (β i0') (.inr hAb)) (fun j hj hne => setRow_other w _ j _ (fun e => hne i0' _ rfl hb (e ▸ hAb)))
              (cat_blk hpos gF (by omega) olds_len (fun i hi => g6 i (by omega)) (olds_at _ (hw1 _) (fun i j x hx => setRow_other w _ x _ (fun e => gF.nb i j (e ▸ hx)))) (n2.move (hw1 _)) (setRow_heap w _ _ _ _ _ g1) (by rw [hcs]; exact gz) (by rw [hcs]; exact g2) hroom ⟨_, rfl⟩ gF.nb) hc hpos K hK⟩
          · have hfc : (Builtin.firstCells i0.size len (.slice (some ⟨β i0', 0, none⟩) len (κ i0'))).run P w.drew = .ok (cur.toList.take (len * (tyD P t).es)).toArray w.drew := by
              refine run_firstCells_some w.drew _ len _ len _ _ (by rw [hs]; exact olds_len) (fun j u hu => ?_)
              rw [List.getElem?_take] at hu
              split at hu
              · rw [addr_add0]
                show w.cell? _ = _
                rw [cell_of_row w _ _ cur e' fz g1]; simpa using hu
              · cases hu
            have hr := run_append_grow_src (P := P) w t t' ty el i0 z hu hi0 hz0 (some ⟨β i0', 0, none⟩) len (κ i0') _ hfc vx k news (by rw [hs]; exact n1) (by omega) (by omega) (growslice_fits (by omega) (by rw [hby]; exact Nat.le_trans h7 (by decide)))
            have hge := grownCap_ge w (len + k) (κ i0') el
            have hcm := grownCap_le_maxLen w (len + k) (κ i0') el (by unfold maxLen; omega)
            refine ⟨_, _, hr, new_row (w' := w.drew.alloc _) (fr _ _ hK rfl) hm (some i0') rfl rfl rfl (by simp) (hBown w.heap.size (.inl (Nat.le_refl _))) (fun j hj _ => heap_alloc_old w.drew _ j hj)
              (cat_blk hpos gF (by omega) olds_len (fun i hi => g6 i (by omega)) (olds_at _ (hS' _) (fun i j x hx => heap_alloc_old w.drew _ x (hFlt i j x hx).1)) (n2.move (hS' _)) (heap_alloc_new w.drew _) (.inl rfl) ?_ hge ?_ (fun i j hx => by have := (hFlt i j _ hx).1; omega)) hcm hpos K hK⟩
            · simp only [Array.size_append, List.size_toArray, List.length_append, olds_len, n2.1, size_zeroCells, hzs]
              rw [← Nat.add_mul, ← Nat.add_mul]; congr 1; omega
            · exact ⟨(Builtin.zeroCells z.cells (grownCap w (len + k) (κ i0') el - (len + k))).toList, by apply Array.toList_inj.1; simp⟩
      · exact h.elim
    · exact h.elim
  · exact h.elim
end
end Go.Proofs.YtofaiiobggnibaaW.AW
