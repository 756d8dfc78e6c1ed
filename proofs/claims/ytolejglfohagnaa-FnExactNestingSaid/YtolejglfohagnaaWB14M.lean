/- Maps of one's own. Plain lemmas: no statement of the program. -/
import Derived.Test.YtolejglfohagnaaWB14
namespace Go.Proofs.YtolejglfohagnaaW.AW
open Go Go.RowKit
set_option linter.unusedVariables false
set_option linter.unusedSimpArgs false

section
variable {P : Program} {β κ : Id → Nat} {A : Id → Nat → Prop} {w : World} {S : Nat → Prop} {m : Mem} {D : Id → Prop} {e : Operand → PV} {ρ : Operand → Value} {o : Oper} {cs : List Bool}
theorem clo1_rv {D : Id → Prop} {v : Value} {p : PV} (h : OV β κ D w S v p) (hc : p.clo1 = true) : RV w S v p := by
  cases h with
  | rv _ _ h => exact h
  | _ => cases hc
theorem clo_rv {D : Id → Prop} {v : Value} {p : PV} (h : OV β κ D w S v p) (hc : p.clo = true) : RV w S v p := by
  cases h with
  | rv _ _ h => exact h
  | ag vs ps hl h1 hv =>
    refine .ag vs ps hl h1 (fun j p hp => clo1_rv (hv j p hp) ?_)
    exact List.all_eq_true.1 (show ps.all PV.clo1 = true from hc) p (List.mem_of_getElem? hp)
  | _ => cases hc
theorem o_makeMap (fr : Fr D m.nx) (hm : MRD w S D m β κ A) {t : TypeId} {r : Option Operand} (ho : o.op = .makeMap t r) (he : ∀ x, OV β κ D w S (ρ x) (e x)) (h1 : match (tyD P t).k with | .map _ _ => True | _ => False) (h2 : hintOk e r)
    (K : PV → Mem → Prop) (hK : K (.mp [m.nx]) (m.grow none (.map (fun _ => none)))) : ∃ v w', (execOp ρ o).run P w = .ok (.value v) w' ∧ Left w S D m β κ A K v w' := by
  have eβ : upd β [m.nx] w.heap.size [m.nx] = w.heap.size := by simp [upd]
  obtain ⟨g1, g2⟩ := hm.grow fr none (x := .map (fun _ => none)) (g := w.heap.size) (K := 0) (w' := w.alloc (.map #[] 0)) (B := fun k => k = w.heap.size) rfl rfl rfl (by simp) (fun k hk => .inl (by omega)) (fun k hk _ => alloc_old w _ hk)
    ⟨fun k => by rw [eβ], #[], 0, by rw [eβ]; exact heap_alloc_new w _, ⟨MapKept.stamped_empty 0, fun e he => by simp at he, fun k p h => by cases h⟩⟩
  have hu : ∃ kt et, P.underlying t = some (.map kt et) := by
    have : (tyD P t).k = tk P t := rfl
    rw [this] at h1
    split at h1
    · rename_i kt et hk; exact ⟨kt, et, tk_map hk⟩
    · exact h1.elim
  obtain ⟨kt, et, hu⟩ := hu
  refine ⟨.map (some w.heap.size), w.alloc (.map #[] 0), ?_, _, _, _, _, _, _, _, hK, g1, g2, ?_, fun _ => Iff.rfl⟩
  · cases r with
    | none => simp [execOp, ho, Instr.makeMap]
    | some x =>
      have hx := he x
      simp only [hintOk] at h2
      split at h2
      · rename_i k n hq
        rw [hq] at hx
        simp [execOp, ho, Instr.makeMap, run_underlying hu, hx.int_inv.1, asInt, asIntOf]
      · exact h2.elim
  · have := OV.mp (β := upd β [m.nx] w.heap.size) (κ := upd κ [m.nx] 0) (D := gdN D m.nx) (w := w.alloc (.map #[] 0)) (S := S) [m.nx] (gd_new _)
    rwa [eβ] at this
theorem put_map (hm : MRD w S D m β κ A) {q : Id} {f f' : Int → Option PV} (h : m.o q = some (.map f)) {ents ents' : Array MapEntry} {clock clock' : Nat} (hh : w.heap[β q]? = some (.map ents clock)) (hE : Ents w S ents' clock' f') {K : PV → Mem → Prop} {r : PV} {v : Value} (hK : K r (m.set q (.map f'))) (hv : r = .und ∨ (r = .tu [] ∧ v = .tuple #[])) :
    Left w S D m β κ A K v { w with heap := w.heap.setIfInBounds (β q) (.map ents' clock') } := by
  obtain ⟨hA, _⟩ := hm.ob q _ h
  have hq : A q (β q) := (hA _).2 rfl
  obtain ⟨s1, s2⟩ := MapKept.heap_set (o' := .map ents' clock') hh
  have hS : ∀ k, S k → ({ w with heap := w.heap.setIfInBounds (β q) (.map ents' clock') } : World).heap[k]? = w.heap[k]? := fun k hk => s2 k (fun e => hm.ns q _ _ h hq (e ▸ hk))
  obtain ⟨p1, p2⟩ := hm.put (x' := .map f') (B := A q) h (w' := { w with heap := w.heap.setIfInBounds (β q) (.map ents' clock') }) rfl rfl rfl (by simp) (fun k hk => hk) (fun k hk => s2 k (fun e => hk (e ▸ hq))) ⟨hA, ents', clock', s1, hE.move (fun _ h => h) hS⟩
  refine ⟨r, _, _, _, _, _, _, hK, p1, p2, ?_, dsame⟩
  rcases hv with rfl | ⟨rfl, rfl⟩
  · exact .rv _ _ (.und _)
  · exact .tu _ _ rfl (fun j p hp => by simp at hp)
theorem mem_modify {es : Array MapEntry} {i : Nat} {g : MapEntry → MapEntry} {x : MapEntry} (h : x ∈ (es.modify i g).toList) : (∃ y, es.toList[i]? = some y ∧ x = g y) ∨ ∃ j, j ≠ i ∧ es.toList[j]? = some x := by
  obtain ⟨j, hj⟩ := List.getElem?_of_mem h
  rw [Array.getElem?_toList, Array.getElem?_modify] at hj
  by_cases e : i = j
  · subst e
    rw [if_pos rfl] at hj
    obtain ⟨y, hy, rfl⟩ := Option.map_eq_some_iff.1 hj
    exact .inl ⟨y, by simpa using hy, rfl⟩
  · rw [if_neg e] at hj
    exact .inr ⟨j, Ne.symm e, by simpa using hj⟩
theorem stamped_ne {es : Array MapEntry} {clock : Nat} (h : MapKept.Stamped es clock) {i j : Nat} {x y : MapEntry} (hi : es.toList[i]? = some x) (hj : es.toList[j]? = some y) (e : x.key = y.key) : i = j := by
  have hn := h.2.2
  have h1 : (es.toList.map (·.key))[i]? = some x.key := by rw [List.getElem?_map, hi]; rfl
  have h2 : (es.toList.map (·.key))[j]? = some y.key := by rw [List.getElem?_map, hj]; rfl
  rw [e] at h1
  exact (List.getElem?_inj (List.getElem?_eq_some_iff.1 h1).1 hn).1 (h1.trans h2.symm)
theorem o_mapUpdate (hm : MRD w S D m β κ A) (he : ∀ x, OV β κ D w S (ρ x) (e x)) {t : TypeId} {x k v : Operand} {q : Id} {i : Int} {f : Int → Option PV} (ho : o.op = .mapUpdate t x k v) (hx : e x = .mp q) (hk : e k = .int .i64 i) (hq : m.o q = some (.map f)) (ht : match (tyD P t).k with | .map kt _ => tk P kt = .int .i64 | _ => False) (hc : (e v).clo = true)
    (K : PV → Mem → Prop) (hK : K .und (m.set q (.map (upd f i (some (e v)))))) : ∃ w', (execOp ρ o).run P w = .ok .skip w' ∧ Left w S D m β κ A K undef w' := by
  have vx := he x; rw [hx] at vx
  have vk := he k; rw [hk] at vk
  obtain ⟨e1, _⟩ := vx.mp_inv
  obtain ⟨e2, hi⟩ := vk.int_inv
  have rv := clo_rv (he v) hc
  have hkk : (tyD P t).k = tk P t := rfl
  rw [hkk] at ht
  split at ht
  · rename_i kt et hkt
    have hu := tk_map hkt
    have hku := tk_int ht
    obtain ⟨_, ents, clock, a1, a2⟩ := hm.ob _ _ hq
    have hck : (Instr.checkKey false 10000 kt (.int .i64 i)).run P w = .ok () w := MapKept.run_checkKey hku (k := .int .i64 i) rfl _ 9999
    rcases a2.find i with ⟨b1, b2, b3⟩ | ⟨j, e', p, b1, b2, b3, b4, b5⟩
    · have hr : (Instr.mapUpdate t (.map (some (β q))) (.int .i64 i) (ρ v)).run P w = .ok () { w with heap := w.heap.setIfInBounds (β q) (.map (ents.push { key := .int .i64 i, val := ρ v, born := clock }) (clock + 1)) } := by
        simp [Instr.mapUpdate, run_underlying hu, MapKept.run_getObj_map a1, hck, MapKept.run_findKey hku b1, MapKept.run_setObj_map _ a1]
      refine ⟨_, by simp only [execOp, ho, e1, e2, Sem.run_bind, hr]; rfl, put_map hm hq a1 (f' := upd f i (some (e v))) ⟨MapKept.stamped_push a2.st b3, fun x hx => ?_, fun k p hp => ?_⟩ hK (.inl rfl)⟩
      · simp only [Array.toList_push, List.mem_append, List.mem_singleton] at hx
        rcases hx with hx | rfl
        · obtain ⟨k', p', c1, c2, c3, c4⟩ := a2.key x hx
          refine ⟨k', p', c1, c2, ?_, c4⟩
          unfold upd; rw [if_neg (fun e => b3 x hx (by rw [c1, e]))]; exact c3
        · exact ⟨i, e v, rfl, hi, by simp [upd], rv⟩
      · by_cases ek : k = i
        · subst ek; exact ⟨{ key := .int .i64 k, val := ρ v, born := clock }, by simp, rfl⟩
        · simp only [upd, if_neg ek] at hp
          obtain ⟨x, hx, hxk⟩ := a2.all k p hp
          exact ⟨x, by simp [hx], hxk⟩
    · have hj : ents[j]? = some e' := by simpa using b2
      have hr : (Instr.mapUpdate t (.map (some (β q))) (.int .i64 i) (ρ v)).run P w = .ok () { w with heap := w.heap.setIfInBounds (β q) (.map (ents.modify j fun e => { e with key := .int .i64 i, val := ρ v }) clock) } := by
        simp [Instr.mapUpdate, run_underlying hu, MapKept.run_getObj_map a1, hck, MapKept.run_findKey hku b1, MapKept.run_setObj_map _ a1, hj, b3, MapKept.run_keyThatStays (d := .int .i64) (k := .int .i64 i) rfl]
      have hkey : ∀ e0, ents[j]? = some e0 → ({ e0 with key := .int .i64 i, val := ρ v } : MapEntry).key = e0.key := fun e0 h0 => by rw [hj] at h0; cases h0; exact b3.symm
      refine ⟨_, by simp only [execOp, ho, e1, e2, Sem.run_bind, hr]; rfl, put_map hm hq a1 (f' := upd f i (some (e v))) ⟨MapKept.stamped_modify a2.st j (fun e => { e with key := .int .i64 i, val := ρ v }) (fun _ _ => rfl) (fun e0 _ h0 => hkey e0 h0), fun x hx => ?_, fun k p hp => ?_⟩ hK (.inl rfl)⟩
      · rcases mem_modify hx with ⟨y, _, rfl⟩ | ⟨j', hne, hj'⟩
        · exact ⟨i, e v, rfl, hi, by simp [upd], rv⟩
        · obtain ⟨k', p', c1, c2, c3, c4⟩ := a2.key x (List.mem_of_getElem? hj')
          refine ⟨k', p', c1, c2, ?_, c4⟩
          unfold upd; rw [if_neg (fun e => hne (stamped_ne a2.st hj' b2 (by rw [c1, e, b3])))]; exact c3
      · by_cases ek : k = i
        · subst ek
          refine ⟨{ e' with key := .int .i64 k, val := ρ v }, ?_, rfl⟩
          have : (ents.modify j fun e => { e with key := .int .i64 k, val := ρ v })[j]? = some { e' with key := .int .i64 k, val := ρ v } := by rw [Array.getElem?_modify, if_pos rfl, hj]; rfl
          exact Array.mem_toList_iff.2 (Array.mem_of_getElem? this)
        · simp only [upd, if_neg ek] at hp
          obtain ⟨x, hx, hxk⟩ := a2.all k p hp
          obtain ⟨j', hj'⟩ := List.getElem?_of_mem hx
          have hne : j ≠ j' := fun e => by subst e; rw [b2] at hj'; cases hj'; rw [b3] at hxk; cases hxk; exact ek rfl
          refine ⟨x, ?_, hxk⟩
          have : (ents.modify j fun e => { e with key := .int .i64 i, val := ρ v })[j']? = some x := by rw [Array.getElem?_modify, if_neg hne]; simpa using hj'
          exact Array.mem_toList_iff.2 (Array.mem_of_getElem? this)
  · exact ht.elim
theorem o_delete (hm : MRD w S D m β κ A) {t t' : TypeId} {ty : TypeId} {vx vk : Value} {q : Id} {i : Int} {f : Int → Option PV} {ts : List TypeId} (hx : OV β κ D w S vx (.mp q)) (hk : OV β κ D w S vk (.int .i64 i)) (hq : m.o q = some (.map f)) (ht : match (tyD P t).k with | .map kt _ => tk P kt = .int .i64 | _ => False)
    (K : PV → Mem → Prop) (hK : K (.tu []) (m.set q (.map (upd f i none)))) : ∃ v w', (Builtin.delete_ (t :: ts).toArray ty #[vx, vk]).run P w = .ok v w' ∧ Left w S D m β κ A K v w' := by
  obtain ⟨e1, _⟩ := hx.mp_inv
  obtain ⟨e2, hi⟩ := hk.int_inv
  have hkk : (tyD P t).k = tk P t := rfl
  rw [hkk] at ht
  split at ht
  · rename_i kt et hkt
    have hu := tk_map hkt
    have hku := tk_int ht
    obtain ⟨_, ents, clock, a1, a2⟩ := hm.ob _ _ hq
    have hck : (Instr.checkKey ents.isEmpty 10000 kt (.int .i64 i)).run P w = .ok () w := MapKept.run_checkKey hku (k := .int .i64 i) rfl _ 9999
    rw [e1, e2]
    rcases a2.find i with ⟨b1, b2, b3⟩ | ⟨j, e', p, b1, b2, b3, b4, b5⟩
    · refine ⟨_, _, by simp [Builtin.delete_, run_underlying hu, MapKept.run_getObj_map a1, hck, MapKept.run_findKey hku b1, MapKept.run_setObj_map _ a1], put_map hm hq a1 (f' := upd f i none) ⟨a2.st, fun x hx => ?_, fun k p hp => ?_⟩ hK (.inr ⟨rfl, rfl⟩)⟩
      · obtain ⟨k', p', c1, c2, c3, c4⟩ := a2.key x hx
        refine ⟨k', p', c1, c2, ?_, c4⟩
        unfold upd; rw [if_neg (fun e => b3 x hx (by rw [c1, e]))]; exact c3
      · by_cases ek : k = i
        · subst ek; simp [upd] at hp
        · simp only [upd, if_neg ek] at hp; exact a2.all k p hp
    · have hj : j < ents.size := by have := (List.getElem?_eq_some_iff.1 b2).1; simpa using this
      have er : (ents.eraseIdxIfInBounds j).toList = ents.toList.eraseIdx j := by simp [Array.eraseIdxIfInBounds, hj]
      refine ⟨_, _, by simp [Builtin.delete_, run_underlying hu, MapKept.run_getObj_map a1, hck, MapKept.run_findKey hku b1, MapKept.run_setObj_map _ a1], put_map hm hq a1 (f' := upd f i none) ⟨MapKept.stamped_erase a2.st j, fun x hx => ?_, fun k p hp => ?_⟩ hK (.inr ⟨rfl, rfl⟩)⟩
      · rw [er] at hx
        obtain ⟨j', hj', hne⟩ := (List.mem_eraseIdx_iff_getElem?.1 hx)
        obtain ⟨k', p', c1, c2, c3, c4⟩ := a2.key x (List.mem_of_getElem? hne)
        refine ⟨k', p', c1, c2, ?_, c4⟩
        unfold upd; rw [if_neg (fun e => hj' (stamped_ne a2.st hne b2 (by rw [c1, e, b3])))]; exact c3
      · by_cases ek : k = i
        · subst ek; simp [upd] at hp
        · simp only [upd, if_neg ek] at hp
          obtain ⟨x, hx, hxk⟩ := a2.all k p hp
          obtain ⟨j', hj'⟩ := List.getElem?_of_mem hx
          refine ⟨x, ?_, hxk⟩
          rw [er, List.mem_eraseIdx_iff_getElem?]
          exact ⟨j', fun e => by subst e; rw [b2] at hj'; cases hj'; rw [b3] at hxk; cases hxk; exact ek rfl, hj'⟩
  · exact ht.elim
end
end Go.Proofs.YtolejglfohagnaaW.AW
