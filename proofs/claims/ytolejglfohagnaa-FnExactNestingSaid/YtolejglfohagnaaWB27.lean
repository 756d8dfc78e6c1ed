/- What a row hands in as data, told as a closed value. Plain lemmas: no statement of the program. -/
import Derived.Test.YtolejglfohagnaaWB26
import Derived.Deep.Slices
import Derived.DataElems
import Derived.ChangeArms
import Derived.WideShapes
import Derived.ChangeShapes
namespace Go.Proofs.YtolejglfohagnaaW.AW
open Go Go.RowKit Go.ChangeShapes Go.WideShapes
set_option linter.unusedVariables false
set_option linter.unusedSimpArgs false

def hS (W : World) (k : Nat) : Prop := k < W.heap.size
def CellsOk (W : World) (cs : List Value) (ps : List PV) : Prop := cs.length = ps.length ∧ ∀ (j : Nat) (p : PV), ps[j]? = some p → (cs.getD j undef).oneCell' = true ∧ RV W (hS W) (cs.getD j undef) p
/-- Cells at type t that read as data are told by pv of something, which is as wf says. -/
structure Opn (P : Program) (t : TypeId) {X : Type} (n : Nat) (pv : X → List PV) (wf : X → Prop) : Prop where
  len : ∀ x, (pv x).length = n
  op : ∀ (H : Type) (enc : TypeId × Value → H) (W : World) (fuel : Nat) (cs : List Value) (x : DataW H × List MemPlace), DataW.trod enc P W 0 (fun _ => true) true fuel t cs = some x → ∃ a, CellsOk W cs (pv a) ∧ wf a
theorem cells_one {W : World} {v : Value} {p : PV} (h1 : v.oneCell' = true) (h : RV W (hS W) v p) : CellsOk W [v] [p] := ⟨rfl, fun j q hq => by
  cases j with
  | zero => simp at hq; subst hq; exact ⟨h1, h⟩
  | succ j => simp at hq⟩
section
variable {P : Program} {t e : TypeId}
theorem opn_int {k : IntKind} (ht : P.underlying t = some (.int k)) : Opn P t 1 (fun n => [.int k n]) (fun n => k.min ≤ n ∧ n ≤ k.max) := ⟨fun _ => rfl, by
  intro H enc W fuel cs x h
  obtain ⟨n, rfl, rfl, hw⟩ := DataW.trod_int ht h
  have hw : k.min ≤ n ∧ n ≤ k.max := by simpa [Lit.wf] using hw
  exact ⟨n, cells_one rfl (.int k n hw), hw⟩⟩
theorem opn_bool (ht : P.underlying t = some .bool) : Opn P t 1 (fun b => [.bool b]) (fun _ => True) := ⟨fun _ => rfl, by
  intro H enc W fuel cs x h
  obtain ⟨n, rfl, rfl⟩ := DataW.trod_bool ht h
  exact ⟨n, cells_one rfl (.bool n), trivial⟩⟩
theorem opn_string (ht : P.underlying t = some .string) : Opn P t 1 (fun s => [.str s]) (fun s => s.size ≤ 9223372036854775807) := ⟨fun _ => rfl, by
  intro H enc W fuel cs x h
  obtain ⟨n, rfl, rfl, hw⟩ := DataW.trod_string ht h
  exact ⟨n, cells_one rfl (.str n hw), hw⟩⟩
theorem list_of {X : Type} {Q : Nat → X → Prop} : ∀ n, (∀ i, i < n → ∃ a, Q i a) → ∃ xs : List X, xs.length = n ∧ ∀ i x, xs[i]? = some x → Q i x
  | 0, _ => ⟨[], rfl, fun i x h => by simp at h⟩
  | n + 1, h => by
    obtain ⟨xs, hl, hx⟩ := list_of n (fun i hi => h i (by omega))
    obtain ⟨a, ha⟩ := h n (by omega)
    refine ⟨xs ++ [a], by rw [List.length_append, hl]; rfl, fun i x hi => ?_⟩
    rcases Nat.lt_or_ge i xs.length with hlt | hge
    · rw [List.getElem?_append_left hlt] at hi
      exact hx i x hi
    · have : i = xs.length := by
        have := (List.getElem?_eq_some_iff.1 hi).1
        rw [List.length_append, List.length_singleton] at this
        omega
      subst this
      have : a = x := by simpa using hi
      subst this
      rw [hl]; exact ha
theorem cell_lt {w : World} {a : Addr} {v : Value} (h : w.cell? a = some v) : a.block < w.heap.size := by
  unfold World.cell? at h
  cases hb : w.heap[a.block]? with
  | none => rw [hb] at h; simp at h
  | some _ => exact (Array.getElem?_eq_some_iff.1 hb).1
theorem opn_slice {X : Type} {n : Nat} {pv : X → List PV} {wf : X → Prop} (ht : P.underlying t = some (.slice e)) (hc : P.cellsOf e = n) (hn : 0 < n) (h : Opn P e n pv wf) :
    Opn P t 1 (fun xs => [.cl n xs.length (lpv pv xs)]) (fun xs => xs.length ≤ 9223372036854775807 ∧ ∀ x ∈ xs, wf x) := ⟨fun _ => rfl, by
  intro H enc W fuel cs x hx
  rcases Deep.open_slice ht hx with ⟨rfl, _⟩ | ⟨a, len, cap, m, k, D, Pl, rfl, _, hl, hm, hmm, _, hel⟩
  · exact ⟨[], cells_one rfl (.cl0 _ _ _ _), by simp, fun x hx => by simp at hx⟩
  · have hm' : m = cap := by simpa using hmm
    subst hm'
    have hmax : m ≤ 9223372036854775807 := hm
    obtain ⟨xs, hxl, hxs⟩ := list_of (Q := fun i (y : X) => ∃ c, CellsOk W c (pv y) ∧ wf y ∧ ∀ j u, c[j]? = some u → W.cell? (a.add (i * n + j)) = some u) len (fun i hi => by
      obtain ⟨cs', hcs, htr⟩ := hel i (by omega)
      obtain ⟨y, hK, hw⟩ := h.op H enc W k cs' _ htr
      refine ⟨y, cs', hK, hw, fun j u hu => ?_⟩
      obtain ⟨_, hlen, hget⟩ := World.cells?_some hcs
      have hj : j < P.cellsOf e := by
        have := (List.getElem?_eq_some_iff.1 hu).1
        omega
      have := hget j hj
      rw [hu, Addr.add_add, hc] at this
      exact this)
    subst hxl
    have at_ : ∀ i, i < xs.length → ∃ y, xs[i]? = some y ∧ lpv pv xs i = pv y := fun i hi => ⟨xs[i], by simp [hi], by simp [lpv, hi]⟩
    refine ⟨xs, ?_, by omega, fun y hy => ?_⟩
    · rcases Nat.eq_zero_or_pos xs.length with h0 | h0
      · refine cells_one rfl ?_
        rw [h0]; exact .cl0 _ _ _ _
      · refine cells_one rfl (.cl a xs.length m n _ (fun i j => ((W.cell? (a.add (i * n + j))).getD undef)) hl hmax ?_ (fun i hi => ?_) (fun i j p hi hp => ?_) (fun i j p hi hp => ?_) (fun i j p hi hp => ?_))
        · obtain ⟨y, hy, _⟩ := at_ 0 h0
          obtain ⟨c, h1, _, h3⟩ := hxs 0 y hy
          have hlc : 0 < c.length := by rw [h1.1, h.len]; exact hn
          have := cell_lt (h3 0 c[0] (by simp))
          rwa [aadd_block] at this
        · obtain ⟨y, _, hy2⟩ := at_ i hi
          rw [hy2, h.len]
        all_goals
          obtain ⟨y, hy, hy2⟩ := at_ i hi
          rw [hy2] at hp
          obtain ⟨c, h1, _, h3⟩ := hxs i y hy
          have hj : j < c.length := by rw [h1.1]; exact (List.getElem?_eq_some_iff.1 hp).1
          have hcell := h3 j c[j] (by simp)
          have hg : c.getD j undef = c[j] := by simp [List.getD, hj]
        · rw [hcell]; rfl
        · rw [hcell]; have := (h1.2 j p hp).1; rw [hg] at this; exact this
        · rw [hcell]; have := (h1.2 j p hp).2; rw [hg] at this; exact this
    · obtain ⟨i, hi⟩ := List.getElem?_of_mem hy
      obtain ⟨c, _, hw, _⟩ := hxs i y hi
      exact hw⟩
/-- The same cells, told otherwise. -/
theorem Opn.as {X Y : Type} {n : Nat} {pv : X → List PV} {wf : X → Prop} {pv' : Y → List PV} {wf' : Y → Prop} (h : Opn P t n pv wf) (f : X → Y) (hp : ∀ x, pv x = pv' (f x)) (hl : ∀ y, (pv' y).length = n) (hw : ∀ x, wf x → wf' (f x)) : Opn P t n pv' wf' := ⟨hl, by
  intro H enc W fuel cs x hx
  obtain ⟨a, h1, h2⟩ := h.op H enc W fuel cs x hx
  exact ⟨f a, hp a ▸ h1, hw a h2⟩⟩
/-- The fields from off on. -/
structure OpnFs (P : Program) (fs : List Field) (off : Nat) {X : Type} (n : Nat) (pv : X → List PV) (wf : X → Prop) : Prop where
  len : ∀ x, (pv x).length = n
  op : ∀ (H : Type) (enc : TypeId × Value → H) (W : World) (k : Nat) (cs : List Value), off + n = cs.length →
    (∀ f ∈ fs, ∃ y, DataW.trod enc P W 0 (fun _ => true) true k f.type ((cs.drop f.offset).take (P.cellsOf f.type)) = some y) → ∃ a, CellsOk W (cs.drop off) (pv a) ∧ wf a
theorem opn_f1 {X : Type} {n : Nat} {pv : X → List PV} {wf : X → Prop} {f : Field} {off : Nat} (ho : f.offset = off) (hc : P.cellsOf f.type = n) (h : Opn P f.type n pv wf) : OpnFs P [f] off n pv wf := ⟨h.len, by
  intro H enc W k cs hl hf
  obtain ⟨y, hy⟩ := hf f (by simp)
  rw [ho, hc, List.take_of_length_le (by rw [List.length_drop]; omega)] at hy
  exact h.op H enc W k _ y hy⟩
theorem opn_fc {X Y : Type} {n n' : Nat} {pv : X → List PV} {pv' : Y → List PV} {wf : X → Prop} {wf' : Y → Prop} {f : Field} {fs : List Field} {off : Nat} (ho : f.offset = off) (hc : P.cellsOf f.type = n) (h : Opn P f.type n pv wf) (hs : OpnFs P fs (off + n) n' pv' wf') :
    OpnFs P (f :: fs) off (n + n') (fun x : X × Y => pv x.1 ++ pv' x.2) (fun x => wf x.1 ∧ wf' x.2) := ⟨fun x => by rw [List.length_append, h.len, hs.len], by
  intro H enc W k cs hl hf
  obtain ⟨y, hy⟩ := hf f (by simp)
  rw [ho, hc] at hy
  obtain ⟨a, hK, hw⟩ := h.op H enc W k _ y hy
  obtain ⟨b, hK', hw'⟩ := hs.op H enc W k cs (by omega) (fun g hg => hf g (by simp [hg]))
  refine ⟨(a, b), ⟨?_, fun j p hp => ?_⟩, hw, hw'⟩
  · have := hK.1; have := hK'.1
    simp only [List.length_append, List.length_drop, List.length_take] at *
    have := h.len a; have := hs.len b
    omega
  · rcases Nat.lt_or_ge j n with hj | hj
    · rw [List.getElem?_append_left (by rw [h.len]; exact hj)] at hp
      have := hK.2 j p hp
      have e : ((cs.drop off).take n).getD j undef = (cs.drop off).getD j undef := by simp [List.getD, List.getElem?_take, hj]
      rw [e] at this; exact this
    · rw [List.getElem?_append_right (by rw [h.len]; exact hj), h.len] at hp
      have := hK'.2 _ p hp
      have e : (cs.drop (off + n)).getD (j - n) undef = (cs.drop off).getD j undef := by
        simp only [List.getD, List.getElem?_drop]
        rw [show off + n + (j - n) = off + j by omega]
      rw [e] at this; exact this⟩
theorem opn_struct {X : Type} {n : Nat} {pv : X → List PV} {wf : X → Prop} {fs : Array Field} (ht : P.underlying t = some (.struct fs)) (hc : P.cellsOf t = n) (h : OpnFs P fs.toList 0 n pv wf) : Opn P t n pv wf := ⟨h.len, by
  intro H enc W fuel cs x hx
  obtain ⟨xs, k, _, _, hl, hxl, hf⟩ := DataW.trod_struct ht hx
  obtain ⟨a, hK, hw⟩ := h.op H enc W k cs (by omega) (fun f hf' => by
    obtain ⟨i, hi⟩ := List.getElem?_of_mem hf'
    have hi' : fs[i]? = some f := by simpa using hi
    have hlt : i < xs.length := by
      have := (Array.getElem?_eq_some_iff.1 hi').1
      omega
    exact ⟨xs[i], by rw [hf i f hi', List.getElem?_eq_getElem hlt]⟩)
  exact ⟨a, by simpa using hK, hw⟩⟩
/-- A struct handed in by value. -/
theorem opn_ag {X : Type} {n : Nat} {pv : X → List PV} {wf : X → Prop} {fs : Array Field} (ht : P.underlying t = some (.struct fs)) (h : Opn P t n pv wf) {H : Type} {enc : TypeId × Value → H} {W : World} {r : Reach} {b0 : Nat} {v : Value} {x : DataW H} {p : List MemPlace}
    (hok : Value.okWide P W r b0 t v) (hv : DataW.Trod enc P W 0 (fun _ => true) true t v x p) : ∃ a, RV W (hS W) v (.ag (pv a)) ∧ wf a := by
  obtain ⟨cs, rfl, _⟩ := okWide_struct ht hok
  obtain ⟨fuel, hf⟩ := hv
  obtain ⟨a, hK, hw⟩ := h.op H enc W fuel _ _ hf
  have hK : CellsOk W cs.toList (pv a) := hK
  refine ⟨a, .ag cs _ (by simpa using hK.1) (fun j q hq => ?_) (fun j q hq => ?_), hw⟩
  · have := (hK.2 j q hq).1; simpa [List.getD, Array.getD_eq_getD_getElem?] using this
  · have := (hK.2 j q hq).2; simpa [List.getD, Array.getD_eq_getD_getElem?] using this
theorem opn_v {X : Type} {p1 : X → PV} {wf : X → Prop} (h : Opn P t 1 (fun a => [p1 a]) wf) {H : Type} {enc : TypeId × Value → H} {W : World} {v : Value} {x : DataW H} {p : List MemPlace} (hc : v.cells = #[v])
    (hv : DataW.Trod enc P W 0 (fun _ => true) true t v x p) : ∃ a, RV W (hS W) v (p1 a) ∧ wf a := by
  obtain ⟨fuel, hf⟩ := hv
  obtain ⟨a, hK, hw⟩ := h.op H enc W fuel _ _ hf
  rw [hc] at hK
  exact ⟨a, (hK.2 0 _ rfl).2, hw⟩
end
/-- The whole: a contract on closed values alone leaves what there was. -/
theorem AC.row {P : Program} {f : FuncId} {args : List PV} {b : Bool} (h : AC P f args (ML []) (.bool b) (ML [])) {W : World} {vs : Array Value} (hl : vs.size = args.length) (hv : ∀ (i : Nat) (p : PV), args[i]? = some p → RV W (hS W) (vs.getD i undef) p) :
    Calls P f vs W fun e W' => e = .returned (.bool b) ∧ Below W.heap.size W W' := by
  have hm : MR W (hS W) (ML []) (fun _ => 0) (fun _ => 0) (fun _ _ => False) := ⟨fun o x h => by obtain ⟨k, _, h2, _⟩ := ML_get h; simp at h2, fun o x k _ h => h.elim, fun o o' x x' k _ _ h => h.elim, fun o x h => by obtain ⟨k, _, h2, _⟩ := ML_get h; simp at h2, fun _ h => h⟩
  refine (h.2 W vs (hS W) (fun _ => 0) (fun _ => 0) _ hm hl (fun i p hp => .rv _ _ (hv i p hp))).mono ?_
  rintro e W' ⟨v, S', β', κ', A', rfl, h1, h2, h3⟩
  rw [h1.bool_inv]
  exact ⟨rfl, h3.os, h3.tape, h3.output, h3.size, fun k hk => h3.keep k hk (fun ⟨_, _, _, h⟩ => h)⟩
end Go.Proofs.YtolejglfohagnaaW.AW
