/- The row of a way, as the specification tells it. -/
import Derived.Test.YtofaiiobggnibaaN8
namespace Go.Proofs.Ytofaiiobggnibaa.Wd
open Go Go.RowKit Go.Proofs Go.Proofs.YtofaiiobggnibaaW.AW
set_option linter.unusedVariables false
set_option linter.unusedSimpArgs false
set_option maxRecDepth 100000
def ptOf (m : Mp) (n : Int) : Int × Int := (nd m.nodes (ix (nids m) n).toNat).p
def wrow (m : Mp) (w : Wy) : List (Int × Int) := w.nodes.map (ptOf m)
def rowTo (m : Mp) (x : Int) : List (Int × Int) := if ix (wids m) x < 0 then [] else wrow m (wy m.ways (ix (wids m) x).toNat)
def wayRow (m : Mp) (x : Int) : List (Int × Int) := if mapB m = true then rowTo m x else []
theorem map_way {m : Mp} (h : mapB m = true) {i : Nat} (hi : i < m.ways.length) : wayB (nids m) (wy m.ways i) = true := by
  simp only [mapB, Bool.and_eq_true, allI_iff] at h
  have := h.1.2 i (by omega) (by omega)
  simp only [wayG, Bool.and_eq_true] at this
  exact this.1
theorem map_wn {m : Mp} (h : mapB m = true) {i : Nat} (hi : i < m.ways.length) {k : Nat} (hk : k < (wy m.ways i).nodes.length) : it (wy m.ways i).nodes k ∈ nids m := by
  have := map_way h hi
  simp only [wayB, Bool.and_eq_true, allI_iff] at this
  have := this.2 k (by omega) (by omega)
  simp only [wnG, Bool.and_eq_true, decide_eq_true_eq] at this
  exact this.1
theorem map_sorted {m : Mp} (h : mapB m = true) : ∀ i j, i < j → j < m.nodes.length → (nd m.nodes i).id < (nd m.nodes j).id := by
  simp only [mapB, Bool.and_eq_true] at h
  exact sorted_of h.1.1.2
theorem ix_nat {l : List Int} {x : Int} (h : x ∈ l) : ((ix l x).toNat : Int) = ix l x ∧ (ix l x).toNat < l.length := by
  have h1 := mt (ix_neg (l := l) (x := x)).1 (fun q => q h)
  have h2 := ix_le (l := l) (x := x)
  omega
theorem take_pt (m : Mp) {l : List Int} {i : Nat} (h : i < l.length) : (l.take (i + 1)).map (ptOf m) = (l.take i).map (ptOf m) ++ [ptOf m (it l i)] := by
  rw [List.take_succ_eq_append_getElem h, List.map_append, it_at h]; rfl
theorem cs_l2Row (m : Mp) (w : Wy) (hl : m.nodes.length ≤ 1048576) (hs : ∀ i j, i < j → j < m.nodes.length → (nd m.nodes i).id < (nd m.nodes j).id) (hw : w.nodes.length ≤ 1048576) (hn_ : ∀ k, k < w.nodes.length → it w.nodes k ∈ nids m) :
    AC Try.prog 83 [.ag (cMap m), .ag (cWay w)] (ML []) (.sl [0] 2 (wrow m w).length 0 (wrow m w).length) (ML [.row 2 (wrow m w).length (lpv pPoint (wrow m w))]) := by
  have nlen : (nids m).length = m.nodes.length := by simp [nids]
  refine AC.of Try.func83 rfl rfl (by simp [Try.ntmps83]) rfl (fun C hC hm => ?_)
  rw [Try.ntmps83] at hC
  have hn : C.m0.nx = _ := congrArg Mem.nx hm
  simp only [ML_nx, List.length_nil, List.length_cons, Nat.zero_add, Nat.reduceAdd] at hn
  simp only [hC, cMap, cWay, VS, VZ, TY, openC, foldC, foldN, PF, pick_or, pick_and, aop, aopD, rdN, wrN, idL, idA, apure, AS.ev, startA, strip, abin, aint, astr, alen, aslice, optI, aconv, aconvM, gdv, AS.put, ofVal, pcells, ld, ldo, nOw, PV.isOw, gtmp, within, astore, splice, afill, allCells, okIdx, asrc, aflat, aappend, hintOk, PV.clo, PV.clo1, ofL_n, ofL_c, nams, reO, reP, reA, reC, srcI, setG, obG, List.cons.injEq, aeq1, aeqs, onG, Int.reduceLE, Int.reduceNeg, Int.reduceLT, Nat.reduceEqDiff, ↓reduceIte, Nat.reduceLT, Nat.reduceLeDiff, Nat.reduceAdd, Nat.reduceMul, Nat.reduceSub, reduceCtorEq, Int.reduceEq]
  refine AL.go (X := Nat) (fun i => ⟨ofL [(2, .bp [0] 0), (3, .bp [1] 0), (5, .sl [2] 2 i 0 i), (6, .int .i64 (i : Int))], ML [.box (cMap m), .box (cWay w), .row 2 i (lpv pPoint ((w.nodes.take i).map (ptOf m)))]⟩) (fun i => w.nodes.length - i) (fun i => i ≤ w.nodes.length) 0 (by simp)
    (Told_go hn [[0], [1], [2]] (by simp [obsT, obT, okO, okP, okA, okC, okD, okI, reP, reA, reC, srcI, Nl_nil, Nl_cons, PV.nl, upd_at, ofL_n, ofL_c, VS, argsT, lendA, lendL, lendT, Cvl_nil, Cvl_cons, Cv_bool, Cv_int, Cv_str, Cv_nils, Cv_nilc, Cv_cl, Cv_ow, noFn, PV.noF, NR_iff, NRO, hb, ares, ares1, ldo, ld, nOw, PV.isOw, TY]) (by simp [cMap, cWay, obsT, obT, okO, okP, okA, okC, okD, okI, reP, reA, reC, srcI, Nl_nil, Nl_cons, PV.nl, upd_at, ofL_n, ofL_c, VS, argsT, lendA, lendL, lendT, Cvl_nil, Cvl_cons, Cv_bool, Cv_int, Cv_str, Cv_nils, Cv_nilc, Cv_cl, Cv_ow, noFn, PV.noF, NR_iff, NRO, hb, ares, ares1, ldo, ld, nOw, PV.isOw, TY]) (by simp [cMap, cWay, nl_Point, obsT, obT, okO, okP, okA, okC, okD, okI, reP, reA, reC, srcI, Nl_nil, Nl_cons, PV.nl, upd_at, ofL_n, ofL_c, VS, argsT, lendA, lendL, lendT, Cvl_nil, Cvl_cons, Cv_bool, Cv_int, Cv_str, Cv_nils, Cv_nilc, Cv_cl, Cv_ow, noFn, PV.noF, NR_iff, NRO, hb, ares, ares1, ldo, ld, nOw, PV.isOw, TY])) (fun i hi => vc_ok _ _ _ ?_)
  simp only [hC, cMap, cWay, VS, VZ, TY, openC, foldC, foldN, PF, pick_or, pick_and, aop, aopD, rdN, wrN, idL, idA, apure, AS.ev, startA, strip, abin, aint, astr, alen, aslice, optI, aconv, aconvM, gdv, AS.put, ofVal, pcells, ld, ldo, nOw, PV.isOw, gtmp, within, astore, splice, afill, allCells, okIdx, asrc, aflat, aappend, hintOk, PV.clo, PV.clo1, ofL_n, ofL_c, nams, reO, reP, reA, reC, srcI, setG, obG, List.cons.injEq, aeq1, aeqs, onG, Int.reduceLE, Int.reduceNeg, Int.reduceLT, Nat.reduceEqDiff, ↓reduceIte, Nat.reduceLT, Nat.reduceLeDiff, Nat.reduceAdd, Nat.reduceMul, Nat.reduceSub, reduceCtorEq, Int.reduceEq]
  refine ⟨fun h1 => ?_, fun h1 => ?_⟩
  · have h1 : i < w.nodes.length := by simpa using h1
    have e := it_pv h1
    have us := take_pt m h1
    have hx := ix_nat (hn_ i h1)
    have ew := nd_pv (l := m.nodes) (i := (ix (nids m) (it w.nodes i)).toNat) (by omega)
    refine ⟨by kernel_rfl, by omega, ?_⟩
    simp only [e, pInt64, VS, VZ, TY, openC, foldC, foldN, PF, pick_or, pick_and, aop, aopD, rdN, wrN, idL, idA, apure, AS.ev, startA, strip, abin, aint, astr, alen, aslice, optI, aconv, aconvM, gdv, AS.put, ofVal, pcells, ld, ldo, nOw, PV.isOw, gtmp, within, astore, splice, afill, allCells, okIdx, asrc, aflat, aappend, hintOk, PV.clo, PV.clo1, ofL_n, ofL_c, nams, reO, reP, reA, reC, srcI, setG, obG, List.cons.injEq, aeq1, aeqs, onG, Int.reduceLE, Int.reduceNeg, Int.reduceLT, Nat.reduceEqDiff, ↓reduceIte, Nat.reduceLT, Nat.reduceLeDiff, Nat.reduceAdd, Nat.reduceMul, Nat.reduceSub, reduceCtorEq, Int.reduceEq]
    refine acall_p false (cs_l2Node m (it w.nodes i) hl hs) (by simp [cMap, cv_Node, cv_Way, cv_Area, obsT, obT, okO, okP, okA, okC, okD, okI, reP, reA, reC, srcI, Nl_nil, Nl_cons, PV.nl, upd_at, ofL_n, ofL_c, VS, argsT, lendA, lendL, lendT, Cvl_nil, Cvl_cons, Cv_bool, Cv_int, Cv_str, Cv_nils, Cv_nilc, Cv_cl, Cv_ow, noFn, PV.noF, NR_iff, NRO, hb, ares, ares1, ldo, ld, nOw, PV.isOw, TY]) (by simp [obsT, obT, okO, okP, okA, okC, okD, okI, reP, reA, reC, srcI, Nl_nil, Nl_cons, PV.nl, upd_at, ofL_n, ofL_c, VS, argsT, lendA, lendL, lendT, Cvl_nil, Cvl_cons, Cv_bool, Cv_int, Cv_str, Cv_nils, Cv_nilc, Cv_cl, Cv_ow, noFn, PV.noF, NR_iff, NRO, hb, ares, ares1, ldo, ld, nOw, PV.isOw, TY]) (.inl rfl) ?_
    simp only [hC, e, ew, pInt64, cNode, VS, VZ, TY, openC, foldC, foldN, PF, pick_or, pick_and, aop, aopD, rdN, wrN, idL, idA, apure, AS.ev, startA, strip, abin, aint, astr, alen, aslice, optI, aconv, aconvM, gdv, AS.put, ofVal, pcells, ld, ldo, nOw, PV.isOw, gtmp, within, astore, splice, afill, allCells, okIdx, asrc, aflat, aappend, hintOk, PV.clo, PV.clo1, ofL_n, ofL_c, nams, reO, reP, reA, reC, srcI, setG, obG, List.cons.injEq, aeq1, aeqs, onG, Int.reduceLE, Int.reduceNeg, Int.reduceLT, Nat.reduceEqDiff, ↓reduceIte, Nat.reduceLT, Nat.reduceLeDiff, Nat.reduceAdd, Nat.reduceMul, Nat.reduceSub, reduceCtorEq, Int.reduceEq]
    simp (disch := omega) only [wr64]
    refine ⟨by omega, by kernel_rfl, by omega, fun j hj => by obtain rfl : j = 0 := (by omega); simp, by kernel_rfl, i + 1, by omega, by omega, Told_go hn [[0], [1], [4]] (by simp [us, obsT, obT, okO, okP, okA, okC, okD, okI, reP, reA, reC, srcI, Nl_nil, Nl_cons, PV.nl, upd_at, ofL_n, ofL_c, VS, argsT, lendA, lendL, lendT, Cvl_nil, Cvl_cons, Cv_bool, Cv_int, Cv_str, Cv_nils, Cv_nilc, Cv_cl, Cv_ow, noFn, PV.noF, NR_iff, NRO, hb, ares, ares1, ldo, ld, nOw, PV.isOw, TY]) ?_ (by simp [cMap, cWay, nl_Point, obsT, obT, okO, okP, okA, okC, okD, okI, reP, reA, reC, srcI, Nl_nil, Nl_cons, PV.nl, upd_at, ofL_n, ofL_c, VS, argsT, lendA, lendL, lendT, Cvl_nil, Cvl_cons, Cv_bool, Cv_int, Cv_str, Cv_nils, Cv_nilc, Cv_cl, Cv_ow, noFn, PV.noF, NR_iff, NRO, hb, ares, ares1, ldo, ld, nOw, PV.isOw, TY])⟩
    simp only [obsT, obT, cMap, cWay, VS, VZ, TY, openC, foldC, foldN, PF, pick_or, pick_and, aop, aopD, rdN, wrN, idL, idA, apure, AS.ev, startA, strip, abin, aint, astr, alen, aslice, optI, aconv, aconvM, gdv, AS.put, ofVal, pcells, ld, ldo, nOw, PV.isOw, gtmp, within, astore, splice, afill, allCells, okIdx, asrc, aflat, aappend, hintOk, PV.clo, PV.clo1, ofL_n, ofL_c, nams, reO, reP, reA, reC, srcI, setG, obG, List.cons.injEq, aeq1, aeqs, onG, Int.reduceLE, Int.reduceNeg, Int.reduceLT, Nat.reduceEqDiff, ↓reduceIte, Nat.reduceLT, Nat.reduceLeDiff, Nat.reduceAdd, Nat.reduceMul, Nat.reduceSub, reduceCtorEq, Int.reduceEq]
    intro j hj
    refine ⟨?_, by simp [nl_Point]⟩
    have hlen : ((w.nodes.take i).map (ptOf m)).length = i := by simp; omega
    have := lpv_app (pv := pPoint) (L := (w.nodes.take i).map (ptOf m)) (x := ptOf m (it w.nodes i)) (j := j) (by omega)
    rw [hlen] at this
    rw [us]
    exact this
  · have : i = w.nodes.length := by simp at h1; omega
    subst this
    have hL : (wrow m w).length = w.nodes.length := by simp [wrow]
    have hW : (w.nodes.take w.nodes.length).map (ptOf m) = wrow m w := by simp [wrow]
    exact Ret_go [[2]] (by simp [hL, obsT, obT, okO, okP, okA, okC, okD, okI, reP, reA, reC, srcI, Nl_nil, Nl_cons, PV.nl, upd_at, ofL_n, ofL_c, VS, argsT, lendA, lendL, lendT, Cvl_nil, Cvl_cons, Cv_bool, Cv_int, Cv_str, Cv_nils, Cv_nilc, Cv_cl, Cv_ow, noFn, PV.noF, NR_iff, NRO, hb, ares, ares1, ldo, ld, nOw, PV.isOw, TY]) (by simp [hL, ← hW, nl_Point, obsT, obT, okO, okP, okA, okC, okD, okI, reP, reA, reC, srcI, Nl_nil, Nl_cons, PV.nl, upd_at, ofL_n, ofL_c, VS, argsT, lendA, lendL, lendT, Cvl_nil, Cvl_cons, Cv_bool, Cv_int, Cv_str, Cv_nils, Cv_nilc, Cv_cl, Cv_ow, noFn, PV.noF, NR_iff, NRO, hb, ares, ares1, ldo, ld, nOw, PV.isOw, TY]) (by simp [hL, nl_Point, obsT, obT, okO, okP, okA, okC, okD, okI, reP, reA, reC, srcI, Nl_nil, Nl_cons, PV.nl, upd_at, ofL_n, ofL_c, VS, argsT, lendA, lendL, lendT, Cvl_nil, Cvl_cons, Cv_bool, Cv_int, Cv_str, Cv_nils, Cv_nilc, Cv_cl, Cv_ow, noFn, PV.noF, NR_iff, NRO, hb, ares, ares1, ldo, ld, nOw, PV.isOw, TY])
end Go.Proofs.Ytofaiiobggnibaa.Wd
