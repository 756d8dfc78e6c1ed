/- A map cut by a box: what is kept. -/
import Derived.Test.YtofaiiobggnibaaN12
namespace Go.Proofs.Ytofaiiobggnibaa.Wd
open Go Go.RowKit Go.Proofs Go.Proofs.YtofaiiobggnibaaW.AW
set_option linter.unusedVariables false
set_option linter.unusedSimpArgs false
set_option maxRecDepth 100000
theorem T_open {C : Cx} {s : AS} (o : Go.Proofs.YtofaiiobggnibaaW.AW.Id) (i j : Nat) {s2 : AS} (h : openC s.m o i j (fun m' => Go.Proofs.YtofaiiobggnibaaW.AW.Told C ⟨s.t, m'⟩ s2)) : Go.Proofs.YtofaiiobggnibaaW.AW.Told C s s2 := by obtain ⟨m', h1, h2⟩ := openC_ok (C := C) h; exact h2.trans h1
theorem R_open {C : Cx} {P : Program} {s : AS} (o : Go.Proofs.YtofaiiobggnibaaW.AW.Id) (i j : Nat) {rs : List ResultVar} {n0 : Nat} {r : PV} {m1 : Mem} {e : Exit} (h : openC s.m o i j (fun m' => RetT C P rs n0 r m1 e ⟨s.t, m'⟩)) : RetT C P rs n0 r m1 e s := by obtain ⟨m', h1, h2⟩ := openC_ok (C := C) h; exact RetT.told h2 h1
def pBool (x : Bool) : List PV := [.bool x]
theorem nl_Bool (L i) : Nl (lpv pBool L i) ↔ True := iff_true_intro (Nl_lpv (fun x => by simp [pBool, Nl_nil, Nl_cons, PV.nl]))
abbrev Bx := (Int × Int) × (Int × Int)
def inW (m : Mp) (b : Bx) (w : Wy) : Bool := w.nodes.any (fun n => inBx (ptOf m n) b)
def usedTo (m : Mp) (b : Bx) (i : Nat) : List Int := ((m.ways.take i).filter (inW m b)).flatMap (·.nodes)
def tagIn (b : Bx) (n : Nd) : Bool := decide (0 < n.tags.length) && inBx n.p b
def keepB (b : Bx) (u : List Int) (n : Nd) : Bool := tagIn b n || decide (n.id ∈ u)
def keepU (m : Mp) (b : Bx) (u : List Int) : List Bool := m.nodes.map (keepB b u)
def cropW (m : Mp) (b : Bx) : List Wy := m.ways.filter (inW m b)
def cropN (m : Mp) (b : Bx) : List Nd := m.nodes.filter (keepB b (usedTo m b m.ways.length))
def areaIn (ws : List Int) (a : Ar) : Bool := a.parts.all (fun p => decide (p.way ∈ ws))
def cropA (m : Mp) (b : Bx) : List Ar := m.areas.filter (areaIn ((cropW m b).map (·.id)))
def crop (m : Mp) (b : Bx) : Mp := if mapB m = true then ⟨cropN m b, cropW m b, cropA m b⟩ else ⟨[], [], []⟩
theorem filter_step {α : Type} (f : α → Bool) {l : List α} {i : Nat} (h : i < l.length) : (l.take (i + 1)).filter f = (l.take i).filter f ++ (if f l[i] = true then [l[i]] else []) := by
  rw [List.take_succ_eq_append_getElem h, List.filter_append]
  congr 1
  simp only [List.filter_cons, List.filter_nil]
theorem filter_len {α : Type} (f : α → Bool) (l : List α) (i : Nat) : ((l.take i).filter f).length ≤ i := Nat.le_trans (List.length_filter_le _ _) (by rw [List.length_take]; omega)
theorem used_step (m : Mp) (b : Bx) {i : Nat} (h : i < m.ways.length) : usedTo m b (i + 1) = usedTo m b i ++ (if inW m b (wy m.ways i) = true then (wy m.ways i).nodes else []) := by
  unfold usedTo
  rw [filter_step _ h, List.flatMap_append, wy_at h]
  congr 1
  split <;> simp
theorem keepU_len (m : Mp) (b : Bx) (u : List Int) : (keepU m b u).length = m.nodes.length := by simp [keepU]
theorem keepU_at (m : Mp) (b : Bx) (u : List Int) {j : Nat} (h : j < m.nodes.length) : lpv pBool (keepU m b u) j = [.bool (keepB b u (nd m.nodes j))] := by
  rw [lpv_at (by rw [keepU_len]; exact h)]; simp [keepU, pBool, nd_at h]
theorem id_ix {m : Mp} (hs : ∀ i j, i < j → j < m.nodes.length → (nd m.nodes i).id < (nd m.nodes j).id) {x : Int} (hx : x ∈ nids m) {j : Nat} (h : j < m.nodes.length) : (nd m.nodes j).id = x ↔ j = (ix (nids m) x).toNat := by
  have nlen : (nids m).length = m.nodes.length := by simp [nids]
  constructor
  · intro e
    have := ix_some (l := nids m) (x := x) (i := j) (by omega) ((nids_at h).trans e) (fun k hk => by rw [nids_at (by omega)]; have := hs k j hk h; omega)
    omega
  · rintro rfl
    have hn := ix_nat hx
    obtain ⟨k, hk, e⟩ := mem_it.1 hx
    have hk' : k < m.nodes.length := by omega
    have e' : (nd m.nodes k).id = x := (nids_at hk').symm.trans e
    have := ix_some (l := nids m) (x := x) (i := k) (by omega) e (fun i hi => by rw [nids_at (by omega)]; have := hs i k hi hk'; omega)
    rw [this]; simpa using e'
theorem keepU_step {m : Mp} {b : Bx} (hs : ∀ i j, i < j → j < m.nodes.length → (nd m.nodes i).id < (nd m.nodes j).id) {x : Int} (hx : x ∈ nids m) (u : List Int) {j : Nat} (h : j < m.nodes.length) :
    lpv pBool (keepU m b (u ++ [x])) j = if j = (ix (nids m) x).toNat then [.bool true] else lpv pBool (keepU m b u) j := by
  rw [keepU_at _ _ _ h, keepU_at _ _ _ h]
  have := id_ix hs hx h
  by_cases e : j = (ix (nids m) x).toNat
  · rw [if_pos e]; simp [keepB, this.2 e]
  · rw [if_neg e]
    have h2 : (nd m.nodes j).id ≠ x := fun q => e (this.1 q)
    simp [keepB, h2]
theorem any_step {α : Type} (f : α → Bool) {l : List α} {i : Nat} (h : i < l.length) : (l.take (i + 1)).any f = ((l.take i).any f || f l[i]) := by
  rw [List.take_succ_eq_append_getElem h, List.any_append]; simp
theorem all_step {α : Type} (f : α → Bool) {l : List α} {i : Nat} (h : i < l.length) : (l.take (i + 1)).all f = ((l.take i).all f && f l[i]) := by
  rw [List.take_succ_eq_append_getElem h, List.all_append]; simp
end Go.Proofs.Ytofaiiobggnibaa.Wd
