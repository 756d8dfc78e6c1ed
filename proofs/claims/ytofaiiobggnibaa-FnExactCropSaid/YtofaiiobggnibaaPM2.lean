/- How much is marked of a map. -/
import Derived.Test.YtofaiiobggnibaaPM1
import Derived.Test.YtofaiiobggnibaaM4
namespace Go.Proofs.Ytofaiiobggnibaa.Wd
open Go Go.RowKit Go.Proofs Go.Proofs.YtofaiiobggnibaaW.AW
set_option linter.unusedVariables false
set_option linter.unusedSimpArgs false
set_option maxRecDepth 100000
theorem cnt_tags (l : List Tg) : cntTagS l = 2 * l.length := by
  induction l with
  | nil => rfl
  | cons x l ih => simp only [cntTagS, ih, List.length_cons]; have : cntTag x = 2 := rfl; omega
theorem cnt_ints (l : List Int) : cntInt64S l = l.length := by
  induction l with
  | nil => rfl
  | cons x l ih => simp only [cntInt64S, ih, List.length_cons]; have : cntInt64 x = 1 := rfl; omega
theorem cnt_parts (l : List Pr) : cntPartS l = 2 * l.length := by
  induction l with
  | nil => rfl
  | cons x l ih => simp only [cntPartS, ih, List.length_cons]; have : cntPart x = 2 := rfl; omega
theorem tags_le (l : List Tg) : l.length ≤ totTagS l := by unfold totTagS; omega
theorem cnt_nodes (l : List Nd) : cntNodeS l ≤ 3 * totNodeS l := by
  induction l with
  | nil => simp [cntNodeS]
  | cons x l ih =>
    have h1 : totNodeS (x :: l) = 1 + totNode x + totNodeS l := by simp [totNodeS]; omega
    have h2 : cntNodeS (x :: l) = cntNode x + cntNodeS l := rfl
    have h3 : cntNode x = 3 + cntTagS x.tags := rfl
    have h4 : totNode x = totTagS x.tags := rfl
    have := cnt_tags x.tags
    have := tags_le x.tags
    omega
theorem cnt_ways (l : List Wy) : cntWayS l ≤ 3 * totWayS l := by
  induction l with
  | nil => simp [cntWayS]
  | cons x l ih =>
    have h1 : totWayS (x :: l) = 1 + totWay x + totWayS l := by simp [totWayS]; omega
    have h2 : cntWayS (x :: l) = cntWay x + cntWayS l := rfl
    have h3 : cntWay x = 1 + cntInt64S x.nodes + cntTagS x.tags := rfl
    have h4 : totWay x = totInt64S x.nodes + totTagS x.tags := rfl
    have h5 : totInt64S x.nodes = x.nodes.length := rfl
    have := cnt_tags x.tags
    have := cnt_ints x.nodes
    have := tags_le x.tags
    omega
theorem cnt_areas (l : List Ar) : cntAreaS l ≤ 3 * totAreaS l := by
  induction l with
  | nil => simp [cntAreaS]
  | cons x l ih =>
    have h1 : totAreaS (x :: l) = 1 + totArea x + totAreaS l := by simp [totAreaS]; omega
    have h2 : cntAreaS (x :: l) = cntArea x + cntAreaS l := rfl
    have h3 : cntArea x = 1 + cntPartS x.parts + cntTagS x.tags := rfl
    have h4 : totArea x = totPartS x.parts + totTagS x.tags := rfl
    have h5 : totPartS x.parts = x.parts.length := rfl
    have := cnt_tags x.tags
    have := cnt_parts x.parts
    have := tags_le x.tags
    omega
theorem cnt_map {m : Mp} (h : totMap m ≤ 1048576) : cntMap m ≤ 3145728 := by
  have h1 := cnt_nodes m.nodes
  have h2 := cnt_ways m.ways
  have h3 := cnt_areas m.areas
  unfold totMap at h
  unfold cntMap
  omega
end Go.Proofs.Ytofaiiobggnibaa.Wd
