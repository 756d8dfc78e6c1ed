/- append. Plain lemmas: no statement of the program. -/
import Derived.Test.YtolejglfohagnaaWB14M
namespace Go.Proofs.YtolejglfohagnaaW.AW
open Go Go.RowKit
set_option linter.unusedVariables false
set_option linter.unusedSimpArgs false

section
variable {P : Program} {β κ : Id → Nat} {A : Id → Nat → Prop} {w : World} {S : Nat → Prop} {m : Mem} {e : Operand → PV} {ρ : Operand → Value} {o : Oper} {cs : List Bool} {D : Id → Prop}
/-- Elements of so many cells each, one behind the other: values at which the cells read. -/
def News (β κ : Id → Nat) (D : Id → Prop) (w : World) (S : Nat → Prop) (k es : Nat) (gs : Nat → List PV) (news : List Value) : Prop :=
  news.length = k * es ∧ (∀ u ∈ news, u.oneCell' = true) ∧ (∀ i, i < k → (gs i).length = es) ∧ ∀ i j p, i < k → (gs i)[j]? = some p → ∃ u, news[i * es + j]? = some u ∧ u.oneCell' = true ∧ OV β κ D w S u p
theorem News.none {es : Nat} {gs : Nat → List PV} : News β κ D w S 0 es gs [] := ⟨by simp, fun u hu => by simp at hu, fun i hi => absurd hi (Nat.not_lt_zero i), fun i j p hi => absurd hi (Nat.not_lt_zero i)⟩
theorem news_of {a : Addr} {k es : Nat} {gs : Nat → List PV} (h0 : 0 < es) (h : ∀ i, i < k → (gs i).length = es ∧ ∀ j p, (gs i)[j]? = some p → ∃ u, w.cell? (a.add (i * es + j)) = some u ∧ u.oneCell' = true ∧ OV β κ D w S u p) :
    ∃ news, News β κ D w S k es gs news ∧ ∀ j u, news[j]? = some u → w.cell? (a.add j) = some u := by
  have at_ : ∀ x, x < k * es → ∃ u, w.cell? (a.add x) = some u ∧ u.oneCell' = true := fun x hx => by
    have hi : x / es < k := Nat.div_lt_of_lt_mul (by rwa [Nat.mul_comm] at hx)
    obtain ⟨hl, hc⟩ := h _ hi
    have hj : x % es < (gs (x / es)).length := by rw [hl]; exact Nat.mod_lt _ h0
    obtain ⟨u, h1, h2, _⟩ := hc _ _ (List.getElem?_eq_getElem hj)
    have e : x / es * es + x % es = x := by rw [Nat.mul_comm]; exact Nat.div_add_mod _ _
    exact ⟨u, e ▸ h1, h2⟩
  have get_ : ∀ x, x < k * es → ((List.range (k * es)).map (fun x => (w.cell? (a.add x)).getD undef))[x]? = some ((w.cell? (a.add x)).getD undef) := fun x hx => by simp [hx]
  refine ⟨(List.range (k * es)).map (fun x => (w.cell? (a.add x)).getD undef), ⟨by simp, fun u hu => ?_, fun i hi => (h i hi).1, fun i j p hi hp => ?_⟩, fun j u hu => ?_⟩
  · obtain ⟨x, hx, rfl⟩ := List.mem_map.1 hu
    obtain ⟨u, h1, h2⟩ := at_ x (by simpa using hx)
    rw [h1]; exact h2
  · obtain ⟨hl, hc⟩ := h i hi
    obtain ⟨u, h1, h2, h3⟩ := hc j p hp
    have hj : j < es := by rw [← hl]; exact (List.getElem?_eq_some_iff.1 hp).1
    have hlt : i * es + j < k * es := by
      have : (i + 1) * es ≤ k * es := Nat.mul_le_mul_right _ hi
      rw [Nat.succ_mul] at this; omega
    exact ⟨u, by rw [get_ _ hlt, h1]; rfl, h2, h3⟩
  · have hx : j < k * es := by simpa using (List.getElem?_eq_some_iff.1 hu).1
    rw [get_ j hx] at hu
    obtain ⟨v, h1, _⟩ := at_ j hx
    rw [h1] at hu ⊢
    exact hu
theorem src_slice {t' : TypeId} {a : Addr} {n c es : Nat} {news : List Value} (hk : (∃ e', P.underlying t' = some (.slice e')) ∨ P.underlying t' = some .string) (hl : news.length = n * es) (h1 : ∀ u ∈ news, u.oneCell' = true) (hn : ∀ j u, news[j]? = some u → w.cell? (a.add j) = some u) :
    Src P es t' (.slice (some a) n c) n news w :=
  ⟨hk, fun _ => rfl, run_firstCells_some w es n a n c news hl hn, run_firstCells_some w.drew es n a n c news hl (by simpa using hn), hl, h1⟩
theorem src_none {t' : TypeId} {A : Option Addr} {c es : Nat} (hk : (∃ e', P.underlying t' = some (.slice e')) ∨ P.underlying t' = some .string) : Src P es t' (.slice A 0 c) 0 [] w := by
  cases A with
  | none => exact ⟨hk, fun _ => rfl, run_firstCells_none w es 0 0 c, run_firstCells_none w.drew es 0 0 c, by simp, fun _ h => by cases h⟩
  | some a => exact src_slice hk (by simp) (fun u hu => by cases hu) (fun j u hu => by simp at hu)
theorem src_ok (hm : MRD w S D m β κ A) {v : Value} {x : PV} {k sz es : Nat} {gs : Nat → List PV} {t' : TypeId} (hv : OV β κ D w S v x) (h : asrc m x = some (k, gs, sz)) (hfl : aflat m x) (hz : k = 0 ∨ sz = es) (h0 : 0 < es) (hk : (∃ e', P.underlying t' = some (.slice e')) ∨ P.underlying t' = some .string) :
    ∃ news, Src P es t' v k news w ∧ News β κ D w S k es gs news := by
  unfold asrc at h
  split at h
  · simp only [Option.some.injEq, Prod.mk.injEq] at h
    obtain ⟨rfl, rfl, rfl⟩ := h
    have e := hv.nils_inv; subst e
    exact ⟨[], src_none hk, News.none⟩
  · simp only [Option.some.injEq, Prod.mk.injEq] at h
    obtain ⟨rfl, rfl, rfl⟩ := h
    obtain ⟨A, c, rfl, hn, H⟩ := hv.cl_inv
    rename_i sz n g
    rcases Nat.eq_zero_or_pos n with rfl | hp
    · exact ⟨[], src_none hk, News.none⟩
    · obtain ⟨hc, a, rfl, hS, hg⟩ := H hp
      obtain rfl : sz = es := by rcases hz with hz | hz; omega; exact hz
      obtain ⟨news, h1, h2⟩ := news_of (β := β) (κ := κ) (D := D) (S := S) h0 (fun i hi => ⟨(hg i hi).1, fun j p hp => by obtain ⟨u, a1, a2, a3⟩ := (hg i hi).2 j p hp; exact ⟨u, a1, a2, .rv _ _ a3⟩⟩)
      exact ⟨news, src_slice hk h1.1 h1.2.1 h2, h1⟩
  · rename_i i sz0 n off len
    split at h
    · rename_i sz' n' g hb
      split at h
      · rename_i hq
        obtain ⟨rfl, rfl⟩ := hq
        simp only [Option.some.injEq, Prod.mk.injEq] at h
        obtain ⟨rfl, rfl, rfl⟩ := h
        obtain ⟨A, c, rfl, hx, hl, hn, hkk, hc, hA⟩ := hv.sl_inv
        rcases Nat.eq_zero_or_pos len with rfl | hp
        · exact ⟨[], src_none hk, News.none⟩
        · obtain rfl := hA (by omega)
          obtain rfl : sz' = es := by rcases hz with hz | hz; omega; exact hz
          simp only [aflat, hb] at hfl
          obtain ⟨news, h1, h2⟩ := news_of (a := ⟨β i, off * sz', none⟩) (k := len) (gs := fun i => g (off + i)) (β := β) (κ := κ) (D := D) (w := w) (S := S) h0 (fun j hj => ⟨by
            rcases hm.ob i _ hb with ⟨_, hz0, _⟩ | ⟨_, _, _, hblk⟩
            · omega
            · obtain ⟨_, _, _, _, _, _, _, _, h4, _⟩ := hblk
              exact h4 _ (by omega), fun q p hp => by
            obtain ⟨u, a1, a2, a3⟩ := row_cells hm hb (k := off + j) (by omega) 0 q p (by simpa using hp)
            have hp0 : p.isOw = false := by simpa using List.all_eq_true.1 (hfl j hj) p (List.mem_of_getElem? hp)
            refine ⟨u, ?_, a2, a3 hp0⟩
            rw [Addr.add_lit] at a1 ⊢
            rw [← a1]; congr 2; rw [Nat.add_mul]; omega⟩)
          exact ⟨news, src_slice hk h1.1 h1.2.1 h2, h1⟩
      · cases h
    · cases h
  · simp only [Option.some.injEq, Prod.mk.injEq] at h
    obtain ⟨rfl, rfl, rfl⟩ := h
    obtain ⟨e, hb⟩ := hv.str_inv
    subst e
    rename_i b
    by_cases hb0 : b.size = 0
    · refine ⟨[], ⟨hk, fun _ => rfl, ?_, ?_, by simp [hb0], fun _ h => by cases h⟩, by rw [hb0]; exact News.none⟩
      all_goals
        have hd : b.data = #[] := Array.eq_empty_of_size_eq_zero hb0
        simp [Builtin.firstCells, hd]
    · obtain rfl : 1 = es := by rcases hz with hz | hz; exact absurd hz hb0; exact hz
      refine ⟨byteCells b, ⟨hk, fun _ => rfl, firstCells_string b w, firstCells_string b w.drew, by rw [byteCells_length, Nat.mul_one], fun u hu => by
        obtain ⟨_, _, rfl⟩ := List.mem_map.1 hu; rfl⟩, by rw [byteCells_length, Nat.mul_one], fun u hu => by obtain ⟨_, _, rfl⟩ := List.mem_map.1 hu; rfl, fun i hi => rfl, fun i j p hi hp => ?_⟩
      cases j with
      | succ j => simp at hp
      | zero =>
        simp only [List.getElem?_cons_zero, Option.some.injEq] at hp
        subst hp
        have e1 : (byteCells b)[i * 1 + 0]? = some (.int .u8 (bt b i)) := by
          rw [Nat.mul_one, Nat.add_zero]
          have hi' : i < b.data.toList.length := by rw [Array.length_toList]; exact hi
          simp only [byteCells, List.getElem?_map, List.getElem?_eq_getElem hi', Option.map_some, Option.some.injEq]
          have : bt b i = ((b[i]'hi).toNat : Int) := by simp [bt, hi]
          rw [this]
          congr 2
        refine ⟨_, e1, rfl, .int_mk ?_⟩
        have : bt b i = ((b[i]'hi).toNat : Int) := by simp [bt, hi]
        rw [this, show IntKind.u8.min = 0 from rfl, show IntKind.u8.max = 255 from rfl]
        have := (b[i]'hi).toNat_lt
        omega
  · cases h
theorem append_room {t t' ty el : TypeId} {i : TypeInfo} (ht : P.underlying t = some (.slice el)) (hi : P.info? el = some i) {g sLen sCap n : Nat} {x : Value} {news : List Value} {cur : Array Value} {e' : TypeId} (hs : Src P i.size t' x n news w) {fz : Nat × Nat} (hg : w.heap[g]? = some (.cells cur e' fz)) (hzf : fzOk fz cur.size) (hroom : sLen + n ≤ sCap) (hfit : sLen * i.size + news.length ≤ cur.size) :
    (Builtin.append_ #[t, t'] ty #[.slice (some ⟨g, 0, none⟩) sLen sCap, x]).run P w = .ok (.slice (some ⟨g, 0, none⟩) (sLen + n) sCap) (w.setRow g (cur.toList.take (sLen * i.size) ++ news ++ cur.toList.drop (sLen * i.size + news.length)).toArray) := by
  have hst := run_stores (P := P) g (sLen * i.size) e' fz news 0 cur w hg hzf (by simpa using hfit) hs.one
  simp only [Nat.add_zero] at hst
  have ha : (⟨g, 0, none⟩ : Addr).add (sLen * i.size) = ⟨g, sLen * i.size, none⟩ := by rw [Addr.add_lit, Nat.zero_add]
  rcases hs.kind with ⟨e', hk⟩ | hk <;> simp only [Builtin.append_] <;> simp [run_underlying ht, run_underlying hk, sizeOf, typeInfo, hi, hs.len, hroom, hs.cells, ha, hst]
theorem append_zero {t t' ty el : TypeId} {i : TypeInfo} (ht : P.underlying t = some (.slice el)) (hi : P.info? el = some i) {A : Option Addr} {sCap : Nat} {x : Value} (hs : Src P i.size t' x 0 [] w) :
    (Builtin.append_ #[t, t'] ty #[.slice A 0 sCap, x]).run P w = .ok (.slice A 0 sCap) w := by
  rcases hs.kind with ⟨e', hk⟩ | hk <;> cases A <;> simp [Builtin.append_, run_underlying ht, run_underlying hk, sizeOf, typeInfo, hi, hs.len, hs.cells, storeCells]
/-- Cells of a row and new ones behind them. -/
theorem cat_blk {es len k cap : Nat} {b : Nat} {F : Nat → Nat → Nat → Prop} {B : Nat → Prop} {n : Nat} {g gs : Nat → List PV} {olds news : List Value} {w' : World} {cur' : Array Value} {e' : TypeId} {fz' : Nat × Nat} {gb : Nat} (h0 : 0 < es)
    (hF : Fp n es b F B) (hlen : len ≤ n) (ho : olds.length = len * es) (hgl : ∀ i, i < len → (g i).length = es)
    (hg : ∀ i j p, i < len → (g i)[j]? = some p → ∃ u, olds[i * es + j]? = some u ∧ u.oneCell' = true ∧ TV β κ D w' S (F i j) u p) (hn : News β κ D w' S k es gs news)
    (hh : w'.heap[gb]? = some (.cells cur' e' fz')) (hz : fzOk fz' cur'.size) (hs : cur'.size = cap * es) (hc : len + k ≤ cap) (hcur : ∃ rest, cur' = (olds ++ news ++ rest).toArray) (hgb : ∀ i j, ¬ F i j gb) :
    Blk β κ D w' S (fun x => x = gb ∨ ∃ i j, i < len ∧ F i j x) gb es (len + k) cap (fun i => if i < len then g i else gs (i - len)) := by
  obtain ⟨rest, rfl⟩ := hcur
  refine ⟨_, e', fz', fun i j x => i < len ∧ F i j x, hh, hz, hs, hc, fun i hi => ?_, ⟨fun i j h => hgb i j h.2, fun i j i' j' x a c => hF.dj i j i' j' x a.2 c.2, fun i j x h => ⟨by omega, (hF.dm i j x h.2).2⟩, fun x => Iff.rfl⟩, fun i j p hi hp => ?_⟩
  · show (if i < len then g i else gs (i - len)).length = es
    split
    · exact hgl i (by assumption)
    · exact hn.2.2.1 _ (by omega)
  · by_cases h : i < len
    · simp only [if_pos h] at hp
      obtain ⟨u, h1, h2, h3⟩ := hg i j p h hp
      have hlt := (List.getElem?_eq_some_iff.1 h1).1
      have : ((olds ++ news ++ rest).toArray).getD (i * es + j) undef = u := by
        simp only [Array.getD_eq_getD_getElem?, List.getElem?_toArray, List.append_assoc]
        rw [List.getElem?_append_left hlt, h1]; rfl
      rw [this]
      refine ⟨h2, ?_⟩
      have e1 : (fun x => i < len ∧ F i j x) = F i j := by funext x; simp [h]
      show TV β κ D w' S (fun x => i < len ∧ F i j x) u p
      rw [e1]; exact h3
    · simp only [if_neg h] at hp
      obtain ⟨u, h1, h2, h3⟩ := hn.2.2.2 (i - len) j p (by omega) hp
      have hlt := (List.getElem?_eq_some_iff.1 h1).1
      have e1 : i * es + j = len * es + ((i - len) * es + j) := by
        rw [← Nat.add_assoc, ← Nat.add_mul]; congr 2; omega
      have : ((olds ++ news ++ rest).toArray).getD (i * es + j) undef = u := by
        simp only [Array.getD_eq_getD_getElem?, List.getElem?_toArray, List.append_assoc]
        rw [List.getElem?_append_right (by rw [e1, ho]; omega), e1, ho, Nat.add_sub_cancel_left, List.getElem?_append_left hlt, h1]; rfl
      rw [this]
      exact ⟨h2, .inl ⟨h3, fun x hx => h hx.1⟩⟩
theorem News.move {k es : Nat} {gs : Nat → List PV} {news : List Value} {w' : World} (hS : ∀ x, S x → w'.heap[x]? = w.heap[x]?) (h : News β κ D w S k es gs news) : News β κ D w' S k es gs news :=
  ⟨h.1, h.2.1, h.2.2.1, fun i j p hi hp => by obtain ⟨u, a, b, c⟩ := h.2.2.2 i j p hi hp; exact ⟨u, a, b, c.move (fun _ _ => ⟨rfl, rfl⟩) (fun _ h => h) (fun _ h => h) hS⟩⟩
theorem none_blk {es k cap gb : Nat} {gs : Nat → List PV} {news : List Value} {w' : World} {cur' : Array Value} {e' : TypeId} {fz' : Nat × Nat} (h0 : 0 < es) (hn : News β κ D w' S k es gs news)
    (hh : w'.heap[gb]? = some (.cells cur' e' fz')) (hz : fzOk fz' cur'.size) (hs : cur'.size = cap * es) (hc : k ≤ cap) (hcur : ∃ rest, cur' = (news ++ rest).toArray) : Blk β κ D w' S (fun x => x = gb) gb es k cap gs := by
  obtain ⟨rest, rfl⟩ := hcur
  refine Blk.flat hh hz hs hc hn.2.2.1 (fun i j p hi hp => ?_)
  obtain ⟨u, h1, h2, h3⟩ := hn.2.2.2 i j p hi hp
  exact ⟨u, by simp only [List.getElem?_toArray]; rw [List.getElem?_append_left (List.getElem?_eq_some_iff.1 h1).1]; exact h1, h2, h3⟩
theorem o_append (hm : MRD w S D m β κ A) {t t' ty : TypeId} {vs vx : Value} {s x : PV} (hvs : OV β κ D w S vs s) (hvx : OV β κ D w S vx x) (hk : (∃ e', P.underlying t' = some (.slice e')) ∨ P.underlying t' = some .string) (K : PV → Mem → Prop) (fr : ∀ r m', K r m' → m'.nx = m.nx + 1 → Fr D m.nx) (h : aappend P t s x m K) :
    ∃ v w', (Builtin.append_ #[t, t'] ty #[vs, vx]).run P w = .ok v w' ∧ Left w S D m β κ A K v w' := by
  unfold aappend at h
  split at h
  · rename_i k gs sz hsrc
    split at h
    · -- onto nil
      obtain ⟨⟨h1, h2, h3⟩, hfl, hK⟩ := h
      obtain ⟨el, i0, z, hu, hi0, hz0, hs, hby, hzs, hz1, hpos, _, hbp⟩ := el_of h1
      obtain ⟨news, n1, n2⟩ := src_ok hm hvx hsrc hfl h2 hpos hk
      have e := hvs.nils_inv; subst e
      have hle : k * 1 ≤ k * (tyD P t).eb := Nat.mul_le_mul_left _ hbp
      rcases Nat.eq_zero_or_pos k with rfl | hp
      · have hnil : news = [] := List.eq_nil_of_length_eq_zero (by simpa using n2.1)
        subst hnil
        exact ⟨_, _, append_zero hu hi0 (by rw [hs]; exact n1), new_none (fr _ _ hK rfl) hm none K hK⟩
      · have hr := run_append_grow_src (P := P) w t t' ty el i0 z hu hi0 hz0 none 0 0 [] (by simp [Builtin.firstCells]) vx k news (by rw [hs]; exact n1) (by omega) (by omega) (Nat.le_trans (Nat.mul_le_mul_right _ (Nat.le_of_eq (nextslicecap_zero (by omega)))) (by rw [hby]; simpa using (Nat.le_trans h3 (by decide))))
        simp only [Nat.zero_add, List.nil_append] at hr
        have hge := grownCap_ge w k 0 el
        have hcm := grownCap_le_maxLen w k 0 el (by unfold maxLen; omega)
        have hS' : ∀ c : Array Value, ∀ j, S j → (w.drew.alloc (.cells c el)).heap[j]? = w.heap[j]? := fun c j hj => heap_alloc_old w.drew _ j (hm.lt j hj)
        refine ⟨_, _, hr, new_row (w' := w.drew.alloc _) (B := fun x => x = w.heap.size) (fr _ _ hK rfl) hm none rfl rfl rfl (by simp) (fun j hj => .inl (by omega)) (fun j hj _ => heap_alloc_old w.drew _ j hj) (none_blk hpos (n2.move (hS' _)) (heap_alloc_new w.drew _) (.inl rfl) ?_ hge ?_) hcm hpos K hK⟩
        · simp only [Array.size_append, List.size_toArray, n2.1, size_zeroCells, hzs]
          rw [← Nat.add_mul]; congr 1; omega
        · exact ⟨(Builtin.zeroCells z.cells (grownCap w k 0 el - k)).toList, by apply Array.toList_inj.1; simp⟩
    · rename_i i0' sz0 n off len
      split at h
      · rename_i sz' n' g hb
        obtain ⟨⟨h1, h2, rfl, rfl, rfl, rfl, h7⟩, hfl, hK⟩ := h
        obtain ⟨el, i0, z, hu, hi0, hz0, hs, hby, hzs, hz1, hpos, _, hbp⟩ := el_of h1
        obtain ⟨news, n1, n2⟩ := src_ok hm hvx hsrc hfl h2 hpos hk
        obtain ⟨Ad, c, rfl, hx, hl, hn, hkk, hc, hA⟩ := hvs.sl_inv
        rw [Nat.zero_add] at hn hkk
        subst hkk
        have hle : (len + k) * 1 ≤ (len + k) * (tyD P t).eb := Nat.mul_le_mul_left _ hbp
        have hS' : ∀ c : Array Value, ∀ j, S j → (w.drew.alloc (.cells c el)).heap[j]? = w.heap[j]? := fun c j hj => heap_alloc_old w.drew _ j (hm.lt j hj)
        -- nowhere
        rcases Nat.eq_zero_or_pos (κ i0') with hκ | hκ
        · have hlen : len = 0 := by omega
          subst hlen
          rw [Nat.zero_add] at hle h7
          rcases Nat.eq_zero_or_pos k with rfl | hp
          · have hnil : news = [] := List.eq_nil_of_length_eq_zero (by simpa using n2.1)
            subst hnil
            rw [hκ]
            exact ⟨_, _, append_zero hu hi0 (by rw [hs]; exact n1), new_none (fr _ _ hK rfl) hm (some i0') K hK⟩
          · have hfc : (Builtin.firstCells i0.size 0 (.slice Ad 0 (κ i0'))).run P w.drew = .ok ([] : List Value).toArray w.drew := by
              cases Ad with
              | none => exact run_firstCells_none w.drew _ 0 0 _
              | some a => exact run_firstCells_some w.drew _ 0 a 0 _ [] (by simp) (fun j u hu => by simp at hu)
            have hr := run_append_grow_src (P := P) w t t' ty el i0 z hu hi0 hz0 Ad 0 (κ i0') [] hfc vx k news (by rw [hs]; exact n1) (by omega) (by omega) (by rw [hκ]; exact Nat.le_trans (Nat.mul_le_mul_right _ (Nat.le_of_eq (nextslicecap_zero (by omega)))) (by rw [hby]; simpa using (Nat.le_trans h7 (by decide))))
            simp only [Nat.zero_add, List.nil_append] at hr hK
            have hge := grownCap_ge w k (κ i0') el
            have hcm := grownCap_le_maxLen w k (κ i0') el (by unfold maxLen; omega)
            have e0 : (fun i => if i < 0 then g i else gs (i - 0)) = gs := by funext i; simp
            rw [e0] at hK
            refine ⟨_, _, hr, new_row (w' := w.drew.alloc _) (B := fun x => x = w.heap.size) (fr _ _ hK rfl) hm (some i0') rfl rfl rfl (by simp) (fun j hj => .inl (by omega)) (fun j hj _ => heap_alloc_old w.drew _ j hj) (none_blk hpos (n2.move (hS' _)) (heap_alloc_new w.drew _) (.inl rfl) ?_ hge ?_) hcm hpos K hK⟩
            · simp only [Array.size_append, List.size_toArray, n2.1, size_zeroCells, hzs]
              rw [← Nat.add_mul]; congr 1; omega
            · exact ⟨(Builtin.zeroCells z.cells (grownCap w k (κ i0') el - k)).toList, by apply Array.toList_inj.1; simp⟩
        · obtain rfl := hA hκ
          rw [Nat.zero_mul] at *
          rcases hm.ob i0' _ hb with ⟨hz, _⟩ | ⟨_, _, _, hblk⟩
          · omega
          obtain ⟨cur, e', fz, F, g1, gz, g2, g3, g6, gF, g7⟩ := hblk
          have hAb : A i0' (β i0') := (gF.eq _).2 (.inl rfl)
          have hSb : ¬ S (β i0') := hm.ns _ _ _ hb hAb
          have hFlt : ∀ i j x, F i j x → x < w.heap.size ∧ A i0' x := fun i j x hx => by
            have : A i0' x := (gF.eq x).2 (.inr ⟨i, j, hx⟩)
            exact ⟨(hm.ob i0' _ hb).lt this, this⟩
          have olds_len : (cur.toList.take (len * (tyD P t).es)).length = len * (tyD P t).es := by
            have : len * (tyD P t).es ≤ κ i0' * (tyD P t).es := Nat.mul_le_mul_right _ hl
            simp; omega
          have olds_at : ∀ w' : World, (∀ x, S x → w'.heap[x]? = w.heap[x]?) → (∀ i j x, F i j x → w'.heap[x]? = w.heap[x]?) → ∀ i j p, i < len → (g i)[j]? = some p → ∃ u, (cur.toList.take (len * (tyD P t).es))[i * (tyD P t).es + j]? = some u ∧ u.oneCell' = true ∧ TV β κ D w' S (F i j) u p := fun w' hw1 hw2 i j p hi hp => by
            obtain ⟨a1, a2⟩ := g7 i j p (by omega) hp
            have hj : j < (tyD P t).es := by rw [← g6 i (by omega)]; exact (List.getElem?_eq_some_iff.1 hp).1
            have hlt : i * (tyD P t).es + j < len * (tyD P t).es := by
              have : (i + 1) * (tyD P t).es ≤ len * (tyD P t).es := Nat.mul_le_mul_right _ hi
              rw [Nat.succ_mul] at this; omega
            have hlt2 : i * (tyD P t).es + j < cur.size := by rw [List.length_take] at olds_len; simp at olds_len; omega
            refine ⟨_, ?_, a1, a2.move (fun _ _ => ⟨rfl, rfl⟩) (fun _ h => h) (fun _ h => h) hw1 (hw2 i j)⟩
            rw [List.getElem?_take, if_pos hlt]
            simp [Array.getD, hlt2]
          have hBown : ∀ gb : Nat, (w.heap.size ≤ gb ∨ A i0' gb) → ∀ x, (x = gb ∨ ∃ i j, i < len ∧ F i j x) → w.heap.size ≤ x ∨ ∃ o x0, some i0' = some o ∧ m.o o = some x0 ∧ A o x := fun gb hgb x hx => by
            rcases hx with rfl | ⟨i, j, _, hx⟩
            · rcases hgb with h | h
              · exact .inl h
              · exact .inr ⟨i0', _, rfl, hb, h⟩
            · exact .inr ⟨i0', _, rfl, hb, (hFlt i j x hx).2⟩
          by_cases hroom : len + k ≤ κ i0'
          · have hfit : len * i0.size + news.length ≤ cur.size := by
              rw [n2.1, hs, g2, ← Nat.add_mul]; exact Nat.mul_le_mul_right _ hroom
            have hr := append_room (ty := ty) hu hi0 (by rw [hs]; exact n1) g1 gz hroom hfit
            rw [hs] at hr
            have hw1 : ∀ c : Array Value, ∀ x, S x → (w.setRow (β i0') c).heap[x]? = w.heap[x]? := fun c x hx => setRow_other w _ x _ (fun e => hSb (e ▸ hx))
            have hcs : ((cur.toList.take (len * (tyD P t).es) ++ news ++ cur.toList.drop (len * (tyD P t).es + news.length)).toArray).size = cur.size := by
              simp only [List.size_toArray, List.length_append, olds_len, List.length_drop, Array.length_toList, n2.1]
              rw [hs, n2.1] at hfit
              omega
            exact ⟨_, _, hr, new_row (w' := w.setRow _ _) (fr _ _ hK rfl) hm (some i0') rfl rfl rfl (by simp) (hBown (β i0') (.inr hAb)) (fun j hj hne => setRow_other w _ j _ (fun e => hne i0' _ rfl hb (e ▸ hAb)))
              (cat_blk hpos gF (by omega) olds_len (fun i hi => g6 i (by omega)) (olds_at _ (hw1 _) (fun i j x hx => setRow_other w _ x _ (fun e => gF.nb i j (e ▸ hx)))) (n2.move (hw1 _)) (setRow_heap w _ _ _ _ _ g1) (by rw [hcs]; exact gz) (by rw [hcs]; exact g2) hroom ⟨_, rfl⟩ gF.nb) hc hpos K hK⟩
          · have hfc : (Builtin.firstCells i0.size len (.slice (some ⟨β i0', 0, none⟩) len (κ i0'))).run P w.drew = .ok (cur.toList.take (len * (tyD P t).es)).toArray w.drew := by
              refine run_firstCells_some w.drew _ len _ len _ _ (by rw [hs]; exact olds_len) (fun j u hu => ?_)
              rw [List.getElem?_take] at hu
              split at hu
              · rw [addr_add0]
                show w.cell? _ = _
                rw [cell_of_row w _ _ cur e' fz g1]; simpa using hu
              · cases hu
            have hr := run_append_grow_src (P := P) w t t' ty el i0 z hu hi0 hz0 (some ⟨β i0', 0, none⟩) len (κ i0') _ hfc vx k news (by rw [hs]; exact n1) (by omega) (by omega) (growslice_fits (by omega) (by rw [hby]; exact Nat.le_trans h7 (by decide)))
            have hge := grownCap_ge w (len + k) (κ i0') el
            have hcm := grownCap_le_maxLen w (len + k) (κ i0') el (by unfold maxLen; omega)
            refine ⟨_, _, hr, new_row (w' := w.drew.alloc _) (fr _ _ hK rfl) hm (some i0') rfl rfl rfl (by simp) (hBown w.heap.size (.inl (Nat.le_refl _))) (fun j hj _ => heap_alloc_old w.drew _ j hj)
              (cat_blk hpos gF (by omega) olds_len (fun i hi => g6 i (by omega)) (olds_at _ (hS' _) (fun i j x hx => heap_alloc_old w.drew _ x (hFlt i j x hx).1)) (n2.move (hS' _)) (heap_alloc_new w.drew _) (.inl rfl) ?_ hge ?_ (fun i j hx => by have := (hFlt i j _ hx).1; omega)) hcm hpos K hK⟩
            · simp only [Array.size_append, List.size_toArray, List.length_append, olds_len, n2.1, size_zeroCells, hzs]
              rw [← Nat.add_mul, ← Nat.add_mul]; congr 1; omega
            · exact ⟨(Builtin.zeroCells z.cells (grownCap w (len + k) (κ i0') el - (len + k))).toList, by apply Array.toList_inj.1; simp⟩
      · exact h.elim
    · exact h.elim
  · exact h.elim
end
end Go.Proofs.YtolejglfohagnaaW.AW
