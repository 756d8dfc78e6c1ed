/- Maps handed in: what is known of their lengths. -/
import Derived.Test.YtofaiiobggnibaaN6
import Derived.Test.YtofaiiobggnibaaM2
namespace Go.Proofs.Ytofaiiobggnibaa.Wd
open Go Go.RowKit Go.Proofs Go.Proofs.YtofaiiobggnibaaW.AW
set_option linter.unusedVariables false
set_option linter.unusedSimpArgs false
set_option maxRecDepth 100000
theorem sum_mem {α : Type} (f : α → Nat) : ∀ (l : List α) (x : α), x ∈ l → f x ≤ (l.map f).sum
  | y :: l, x, h => by
    simp only [List.map_cons, List.sum_cons]
    rcases List.mem_cons.1 h with rfl | h
    · omega
    · have := sum_mem f l x h; omega
theorem tagS_b {L : List Tg} (h : totTagS L ≤ 1048576) : L.length ≤ 1048576 := by unfold totTagS at h; omega
theorem map_b {m : Mp} (h : totMap m ≤ 1048576) : bMap m := by
  unfold totMap totNodeS totWayS totAreaS at h
  refine ⟨by omega, fun x hx => ?_, by omega, fun x hx => ?_, by omega, fun x hx => ?_⟩
  · have h1 := sum_mem totNode m.nodes x hx
    have : totNode x = totTagS x.tags := rfl
    exact tagS_b (by omega)
  · have h1 := sum_mem totWay m.ways x hx
    have : totWay x = totInt64S x.nodes + totTagS x.tags := rfl
    have h2 : totInt64S x.nodes = x.nodes.length := rfl
    exact ⟨by omega, tagS_b (by omega)⟩
  · have h1 := sum_mem totArea m.areas x hx
    have : totArea x = totPartS x.parts + totTagS x.tags := rfl
    have h2 : totPartS x.parts = x.parts.length := rfl
    exact ⟨by omega, tagS_b (by omega)⟩
theorem wTags_of {L : List Tg} (h : wTagS L) : wTags L := fun x hx => h.2 x hx
theorem map_l {m : Mp} (h : totMap m ≤ 1048576) (hw : wMap m) : lMap m :=
  ⟨map_b h, fun x hx => wTags_of (hw.1.2 x hx), fun x hx => wTags_of (hw.2.1.2 x hx).2, fun x hx => wTags_of (hw.2.2.2 x hx).2⟩
end Go.Proofs.Ytofaiiobggnibaa.Wd
