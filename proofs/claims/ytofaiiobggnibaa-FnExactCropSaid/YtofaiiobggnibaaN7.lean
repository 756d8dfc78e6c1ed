/- The users of a node. -/
import Derived.Test.YtofaiiobggnibaaN6
namespace Go.Proofs.Ytofaiiobggnibaa.Wd
open Go Go.RowKit Go.Proofs Go.Proofs.YtofaiiobggnibaaW.AW
set_option linter.unusedVariables false
set_option linter.unusedSimpArgs false
set_option maxRecDepth 100000
theorem lpv_app {X : Type} {pv : X → List PV} {L : List X} {x : X} {j : Nat} (hj : j < L.length + 1) : (if j < L.length then lpv pv L j else [pv x].getD (j - L.length) []) = lpv pv (L ++ [x]) j := by
  by_cases h : j < L.length
  · rw [if_pos h]; unfold lpv; rw [List.getElem?_append_left h]
  · have : j = L.length := by omega
    subst this
    rw [if_neg h]; simp [lpv]
def usersTo (m : Mp) (x : Int) (i : Nat) : List Int := ((m.ways.take i).filter (fun w => decide (x ∈ w.nodes))).map (·.id)
def users (m : Mp) (x : Int) : List Int := if mapB m = true then usersTo m x m.ways.length else []
theorem usersTo_step {m : Mp} {x : Int} {i : Nat} (h : i < m.ways.length) : usersTo m x (i + 1) = usersTo m x i ++ (if x ∈ (wy m.ways i).nodes then [(wy m.ways i).id] else []) := by
  unfold usersTo
  rw [List.take_succ_eq_append_getElem h, List.filter_append, List.map_append, wy_at h]
  congr 1
  simp only [List.filter_cons, List.filter_nil]
  by_cases q : x ∈ m.ways[i].nodes <;> simp [q]
theorem usersTo_len (m : Mp) (x : Int) (i : Nat) : (usersTo m x i).length ≤ i := by
  unfold usersTo
  rw [List.length_map]
  exact Nat.le_trans (List.length_filter_le _ _) (by rw [List.length_take]; omega)
theorem mem_it {l : List Int} {x : Int} : x ∈ l ↔ ∃ j, j < l.length ∧ it l j = x := by
  constructor
  · intro h
    obtain ⟨j, hj, e⟩ := List.getElem_of_mem h
    exact ⟨j, hj, by rw [it_at hj]; exact e⟩
  · rintro ⟨j, hj, e⟩
    rw [it_at hj] at e
    exact e ▸ List.getElem_mem hj
theorem cs_HasId (l : List Int) (x : Int) (hl : l.length ≤ 1048576) : AC Try.prog 78 [.cl 1 l.length (lpv pInt64 l), .int .i64 x] (ML []) (.bool (decide (x ∈ l))) (ML []) := by
  refine AC.of Try.func78 rfl rfl (by simp [Try.ntmps78]) rfl (fun C hC hm => ?_)
  rw [Try.ntmps78] at hC
  have hn : C.m0.nx = _ := congrArg Mem.nx hm
  simp only [ML_nx, List.length_nil, List.length_cons, Nat.zero_add, Nat.reduceAdd] at hn
  simp only [hC, VS, VZ, TY, openC, foldC, foldN, PF, pick_or, pick_and, aop, aopD, rdN, wrN, idL, idA, apure, AS.ev, startA, strip, abin, aint, astr, alen, aslice, optI, aconv, aconvM, gdv, AS.put, ofVal, pcells, ld, ldo, nOw, PV.isOw, gtmp, within, astore, splice, afill, allCells, okIdx, asrc, aflat, aappend, hintOk, PV.clo, PV.clo1, ofL_n, ofL_c, nams, reO, reP, reA, reC, srcI, setG, obG, List.cons.injEq, aeq1, aeqs, onG, Int.reduceLE, Int.reduceNeg, Int.reduceLT, Nat.reduceEqDiff, ↓reduceIte, Nat.reduceLT, Nat.reduceLeDiff, Nat.reduceAdd, Nat.reduceMul, Nat.reduceSub, reduceCtorEq, Int.reduceEq]
  refine AL.go (X := Nat) (fun i => ⟨ofL [(0, .cl 1 l.length (lpv pInt64 l)), (1, .int .i64 x), (5, .int .i64 (i : Int))], ML []⟩) (fun i => l.length - i) (fun i => i ≤ l.length ∧ ∀ j, j < i → it l j ≠ x) 0 (by simp)
    (Told_go hn [] (by simp [obsT, obT, okO, okP, okA, okC, okD, okI, reP, reA, reC, srcI, Nl_nil, Nl_cons, PV.nl, upd_at, ofL_n, ofL_c, VS, argsT, lendA, lendL, lendT, Cvl_nil, Cvl_cons, Cv_bool, Cv_int, Cv_str, Cv_nils, Cv_nilc, Cv_cl, Cv_ow, noFn, PV.noF, NR_iff, NRO, hb, ares, ares1, ldo, ld, nOw, PV.isOw, TY]) (by simp [obsT, obT, okO, okP, okA, okC, okD, okI, reP, reA, reC, srcI, Nl_nil, Nl_cons, PV.nl, upd_at, ofL_n, ofL_c, VS, argsT, lendA, lendL, lendT, Cvl_nil, Cvl_cons, Cv_bool, Cv_int, Cv_str, Cv_nils, Cv_nilc, Cv_cl, Cv_ow, noFn, PV.noF, NR_iff, NRO, hb, ares, ares1, ldo, ld, nOw, PV.isOw, TY]) (by simp [obsT, obT, okO, okP, okA, okC, okD, okI, reP, reA, reC, srcI, Nl_nil, Nl_cons, PV.nl, upd_at, ofL_n, ofL_c, VS, argsT, lendA, lendL, lendT, Cvl_nil, Cvl_cons, Cv_bool, Cv_int, Cv_str, Cv_nils, Cv_nilc, Cv_cl, Cv_ow, noFn, PV.noF, NR_iff, NRO, hb, ares, ares1, ldo, ld, nOw, PV.isOw, TY])) (fun i hi => vc_ok _ _ _ ?_)
  obtain ⟨hi, ha⟩ := hi
  simp only [hC, VS, VZ, TY, openC, foldC, foldN, PF, pick_or, pick_and, aop, aopD, rdN, wrN, idL, idA, apure, AS.ev, startA, strip, abin, aint, astr, alen, aslice, optI, aconv, aconvM, gdv, AS.put, ofVal, pcells, ld, ldo, nOw, PV.isOw, gtmp, within, astore, splice, afill, allCells, okIdx, asrc, aflat, aappend, hintOk, PV.clo, PV.clo1, ofL_n, ofL_c, nams, reO, reP, reA, reC, srcI, setG, obG, List.cons.injEq, aeq1, aeqs, onG, Int.reduceLE, Int.reduceNeg, Int.reduceLT, Nat.reduceEqDiff, ↓reduceIte, Nat.reduceLT, Nat.reduceLeDiff, Nat.reduceAdd, Nat.reduceMul, Nat.reduceSub, reduceCtorEq, Int.reduceEq]
  refine ⟨fun h1 => ?_, fun h1 => ?_⟩
  · have h1 : i < l.length := by simpa using h1
    have e := it_pv h1
    refine ⟨by omega, ?_⟩
    simp only [e, pInt64, VS, VZ, TY, openC, foldC, foldN, PF, pick_or, pick_and, aop, aopD, rdN, wrN, idL, idA, apure, AS.ev, startA, strip, abin, aint, astr, alen, aslice, optI, aconv, aconvM, gdv, AS.put, ofVal, pcells, ld, ldo, nOw, PV.isOw, gtmp, within, astore, splice, afill, allCells, okIdx, asrc, aflat, aappend, hintOk, PV.clo, PV.clo1, ofL_n, ofL_c, nams, reO, reP, reA, reC, srcI, setG, obG, List.cons.injEq, aeq1, aeqs, onG, Int.reduceLE, Int.reduceNeg, Int.reduceLT, Nat.reduceEqDiff, ↓reduceIte, Nat.reduceLT, Nat.reduceLeDiff, Nat.reduceAdd, Nat.reduceMul, Nat.reduceSub, reduceCtorEq, Int.reduceEq]
    refine ⟨fun h2 => ?_, fun h2 => ?_⟩
    · have h2 : it l i = x := by simpa using h2
      have : x ∈ l := mem_it.2 ⟨i, h1, h2⟩
      exact Ret_go [] (by simp [this, obsT, obT, okO, okP, okA, okC, okD, okI, reP, reA, reC, srcI, Nl_nil, Nl_cons, PV.nl, upd_at, ofL_n, ofL_c, VS, argsT, lendA, lendL, lendT, Cvl_nil, Cvl_cons, Cv_bool, Cv_int, Cv_str, Cv_nils, Cv_nilc, Cv_cl, Cv_ow, noFn, PV.noF, NR_iff, NRO, hb, ares, ares1, ldo, ld, nOw, PV.isOw, TY]) (by simp [obsT, obT, okO, okP, okA, okC, okD, okI, reP, reA, reC, srcI, Nl_nil, Nl_cons, PV.nl, upd_at, ofL_n, ofL_c, VS, argsT, lendA, lendL, lendT, Cvl_nil, Cvl_cons, Cv_bool, Cv_int, Cv_str, Cv_nils, Cv_nilc, Cv_cl, Cv_ow, noFn, PV.noF, NR_iff, NRO, hb, ares, ares1, ldo, ld, nOw, PV.isOw, TY]) (by simp [obsT, obT, okO, okP, okA, okC, okD, okI, reP, reA, reC, srcI, Nl_nil, Nl_cons, PV.nl, upd_at, ofL_n, ofL_c, VS, argsT, lendA, lendL, lendT, Cvl_nil, Cvl_cons, Cv_bool, Cv_int, Cv_str, Cv_nils, Cv_nilc, Cv_cl, Cv_ow, noFn, PV.noF, NR_iff, NRO, hb, ares, ares1, ldo, ld, nOw, PV.isOw, TY])
    · have h2 : it l i ≠ x := by simpa using h2
      simp (disch := omega) only [wr64]
      refine ⟨i + 1, ⟨by omega, fun j hj => ?_⟩, by omega, Told_go hn [] (by simp [obsT, obT, okO, okP, okA, okC, okD, okI, reP, reA, reC, srcI, Nl_nil, Nl_cons, PV.nl, upd_at, ofL_n, ofL_c, VS, argsT, lendA, lendL, lendT, Cvl_nil, Cvl_cons, Cv_bool, Cv_int, Cv_str, Cv_nils, Cv_nilc, Cv_cl, Cv_ow, noFn, PV.noF, NR_iff, NRO, hb, ares, ares1, ldo, ld, nOw, PV.isOw, TY]) (by simp [obsT, obT, okO, okP, okA, okC, okD, okI, reP, reA, reC, srcI, Nl_nil, Nl_cons, PV.nl, upd_at, ofL_n, ofL_c, VS, argsT, lendA, lendL, lendT, Cvl_nil, Cvl_cons, Cv_bool, Cv_int, Cv_str, Cv_nils, Cv_nilc, Cv_cl, Cv_ow, noFn, PV.noF, NR_iff, NRO, hb, ares, ares1, ldo, ld, nOw, PV.isOw, TY]) (by simp [obsT, obT, okO, okP, okA, okC, okD, okI, reP, reA, reC, srcI, Nl_nil, Nl_cons, PV.nl, upd_at, ofL_n, ofL_c, VS, argsT, lendA, lendL, lendT, Cvl_nil, Cvl_cons, Cv_bool, Cv_int, Cv_str, Cv_nils, Cv_nilc, Cv_cl, Cv_ow, noFn, PV.noF, NR_iff, NRO, hb, ares, ares1, ldo, ld, nOw, PV.isOw, TY])⟩
      by_cases q : j = i
      · subst q; exact h2
      · exact ha j (by omega)
  · have : i = l.length := by simp at h1; omega
    subst this
    have : ¬ x ∈ l := fun h => by obtain ⟨j, hj, e⟩ := mem_it.1 h; exact ha j hj e
    exact Ret_go [] (by simp [this, obsT, obT, okO, okP, okA, okC, okD, okI, reP, reA, reC, srcI, Nl_nil, Nl_cons, PV.nl, upd_at, ofL_n, ofL_c, VS, argsT, lendA, lendL, lendT, Cvl_nil, Cvl_cons, Cv_bool, Cv_int, Cv_str, Cv_nils, Cv_nilc, Cv_cl, Cv_ow, noFn, PV.noF, NR_iff, NRO, hb, ares, ares1, ldo, ld, nOw, PV.isOw, TY]) (by simp [obsT, obT, okO, okP, okA, okC, okD, okI, reP, reA, reC, srcI, Nl_nil, Nl_cons, PV.nl, upd_at, ofL_n, ofL_c, VS, argsT, lendA, lendL, lendT, Cvl_nil, Cvl_cons, Cv_bool, Cv_int, Cv_str, Cv_nils, Cv_nilc, Cv_cl, Cv_ow, noFn, PV.noF, NR_iff, NRO, hb, ares, ares1, ldo, ld, nOw, PV.isOw, TY]) (by simp [obsT, obT, okO, okP, okA, okC, okD, okI, reP, reA, reC, srcI, Nl_nil, Nl_cons, PV.nl, upd_at, ofL_n, ofL_c, VS, argsT, lendA, lendL, lendT, Cvl_nil, Cvl_cons, Cv_bool, Cv_int, Cv_str, Cv_nils, Cv_nilc, Cv_cl, Cv_ow, noFn, PV.noF, NR_iff, NRO, hb, ares, ares1, ldo, ld, nOw, PV.isOw, TY])
theorem cs_UsersOf (m : Mp) (x : Int) (hm_ : lMap m) : AC Try.prog 18 [.ag (cMap m), .int .i64 x] (ML []) (.sl [0] 1 (users m x).length 0 (users m x).length) (ML [.row 1 (users m x).length (lpv pInt64 (users m x))]) := by
  obtain ⟨b1, b2, b3, b4, b5, b6⟩ := hm_.1
  refine AC.of Try.func18 rfl rfl (by simp [Try.ntmps18]) rfl (fun C hC hm => ?_)
  rw [Try.ntmps18] at hC
  have hn : C.m0.nx = _ := congrArg Mem.nx hm
  simp only [ML_nx, List.length_nil, List.length_cons, Nat.zero_add, Nat.reduceAdd] at hn
  simp only [hC, cMap, VS, VZ, TY, openC, foldC, foldN, PF, pick_or, pick_and, aop, aopD, rdN, wrN, idL, idA, apure, AS.ev, startA, strip, abin, aint, astr, alen, aslice, optI, aconv, aconvM, gdv, AS.put, ofVal, pcells, ld, ldo, nOw, PV.isOw, gtmp, within, astore, splice, afill, allCells, okIdx, asrc, aflat, aappend, hintOk, PV.clo, PV.clo1, ofL_n, ofL_c, nams, reO, reP, reA, reC, srcI, setG, obG, List.cons.injEq, aeq1, aeqs, onG, Int.reduceLE, Int.reduceNeg, Int.reduceLT, Nat.reduceEqDiff, ↓reduceIte, Nat.reduceLT, Nat.reduceLeDiff, Nat.reduceAdd, Nat.reduceMul, Nat.reduceSub, reduceCtorEq, Int.reduceEq]
  refine acall_p false (cs_MapOk m hm_) (by simp [cMap, cv_Node, cv_Way, cv_Area, obsT, obT, okO, okP, okA, okC, okD, okI, reP, reA, reC, srcI, Nl_nil, Nl_cons, PV.nl, upd_at, ofL_n, ofL_c, VS, argsT, lendA, lendL, lendT, Cvl_nil, Cvl_cons, Cv_bool, Cv_int, Cv_str, Cv_nils, Cv_nilc, Cv_cl, Cv_ow, noFn, PV.noF, NR_iff, NRO, hb, ares, ares1, ldo, ld, nOw, PV.isOw, TY]) (by simp [obsT, obT, okO, okP, okA, okC, okD, okI, reP, reA, reC, srcI, Nl_nil, Nl_cons, PV.nl, upd_at, ofL_n, ofL_c, VS, argsT, lendA, lendL, lendT, Cvl_nil, Cvl_cons, Cv_bool, Cv_int, Cv_str, Cv_nils, Cv_nilc, Cv_cl, Cv_ow, noFn, PV.noF, NR_iff, NRO, hb, ares, ares1, ldo, ld, nOw, PV.isOw, TY]) (.inl rfl) ?_
  simp only [hC, cMap, VS, VZ, TY, openC, foldC, foldN, PF, pick_or, pick_and, aop, aopD, rdN, wrN, idL, idA, apure, AS.ev, startA, strip, abin, aint, astr, alen, aslice, optI, aconv, aconvM, gdv, AS.put, ofVal, pcells, ld, ldo, nOw, PV.isOw, gtmp, within, astore, splice, afill, allCells, okIdx, asrc, aflat, aappend, hintOk, PV.clo, PV.clo1, ofL_n, ofL_c, nams, reO, reP, reA, reC, srcI, setG, obG, List.cons.injEq, aeq1, aeqs, onG, Int.reduceLE, Int.reduceNeg, Int.reduceLT, Nat.reduceEqDiff, ↓reduceIte, Nat.reduceLT, Nat.reduceLeDiff, Nat.reduceAdd, Nat.reduceMul, Nat.reduceSub, reduceCtorEq, Int.reduceEq]
  refine ⟨fun h => ?_, fun h => ?_⟩
  · have h : mapB m = false := by simpa using h
    exact Ret_go [[1]] (by simp [users, h, obsT, obT, okO, okP, okA, okC, okD, okI, reP, reA, reC, srcI, Nl_nil, Nl_cons, PV.nl, upd_at, ofL_n, ofL_c, VS, argsT, lendA, lendL, lendT, Cvl_nil, Cvl_cons, Cv_bool, Cv_int, Cv_str, Cv_nils, Cv_nilc, Cv_cl, Cv_ow, noFn, PV.noF, NR_iff, NRO, hb, ares, ares1, ldo, ld, nOw, PV.isOw, TY]) (by simp [users, h, obsT, obT, okO, okP, okA, okC, okD, okI, reP, reA, reC, srcI, Nl_nil, Nl_cons, PV.nl, upd_at, ofL_n, ofL_c, VS, argsT, lendA, lendL, lendT, Cvl_nil, Cvl_cons, Cv_bool, Cv_int, Cv_str, Cv_nils, Cv_nilc, Cv_cl, Cv_ow, noFn, PV.noF, NR_iff, NRO, hb, ares, ares1, ldo, ld, nOw, PV.isOw, TY]) (by simp [users, h, obsT, obT, okO, okP, okA, okC, okD, okI, reP, reA, reC, srcI, Nl_nil, Nl_cons, PV.nl, upd_at, ofL_n, ofL_c, VS, argsT, lendA, lendL, lendT, Cvl_nil, Cvl_cons, Cv_bool, Cv_int, Cv_str, Cv_nils, Cv_nilc, Cv_cl, Cv_ow, noFn, PV.noF, NR_iff, NRO, hb, ares, ares1, ldo, ld, nOw, PV.isOw, TY])
  have h : mapB m = true := by simpa using h
  have hU : users m x = usersTo m x m.ways.length := by simp [users, h]
  rw [hU]
  refine AL.go (X := Nat) (fun i => ⟨ofL [(1, .int .i64 x), (2, .bp [0] 0), (5, .sl [1] 1 (usersTo m x i).length 0 (usersTo m x i).length), (6, .int .i64 (i : Int))], ML [.box (cMap m), .row 1 (usersTo m x i).length (lpv pInt64 (usersTo m x i))]⟩) (fun i => m.ways.length - i) (fun i => i ≤ m.ways.length) 0 (by simp)
    (Told_go hn [[0], [1]] (by simp [usersTo, obsT, obT, okO, okP, okA, okC, okD, okI, reP, reA, reC, srcI, Nl_nil, Nl_cons, PV.nl, upd_at, ofL_n, ofL_c, VS, argsT, lendA, lendL, lendT, Cvl_nil, Cvl_cons, Cv_bool, Cv_int, Cv_str, Cv_nils, Cv_nilc, Cv_cl, Cv_ow, noFn, PV.noF, NR_iff, NRO, hb, ares, ares1, ldo, ld, nOw, PV.isOw, TY]) (by simp [cMap, usersTo, obsT, obT, okO, okP, okA, okC, okD, okI, reP, reA, reC, srcI, Nl_nil, Nl_cons, PV.nl, upd_at, ofL_n, ofL_c, VS, argsT, lendA, lendL, lendT, Cvl_nil, Cvl_cons, Cv_bool, Cv_int, Cv_str, Cv_nils, Cv_nilc, Cv_cl, Cv_ow, noFn, PV.noF, NR_iff, NRO, hb, ares, ares1, ldo, ld, nOw, PV.isOw, TY]) (by simp [cMap, nl_Int64, obsT, obT, okO, okP, okA, okC, okD, okI, reP, reA, reC, srcI, Nl_nil, Nl_cons, PV.nl, upd_at, ofL_n, ofL_c, VS, argsT, lendA, lendL, lendT, Cvl_nil, Cvl_cons, Cv_bool, Cv_int, Cv_str, Cv_nils, Cv_nilc, Cv_cl, Cv_ow, noFn, PV.noF, NR_iff, NRO, hb, ares, ares1, ldo, ld, nOw, PV.isOw, TY])) (fun i hi => vc_ok _ _ _ ?_)
  have ul := usersTo_len m x i
  simp only [hC, cMap, VS, VZ, TY, openC, foldC, foldN, PF, pick_or, pick_and, aop, aopD, rdN, wrN, idL, idA, apure, AS.ev, startA, strip, abin, aint, astr, alen, aslice, optI, aconv, aconvM, gdv, AS.put, ofVal, pcells, ld, ldo, nOw, PV.isOw, gtmp, within, astore, splice, afill, allCells, okIdx, asrc, aflat, aappend, hintOk, PV.clo, PV.clo1, ofL_n, ofL_c, nams, reO, reP, reA, reC, srcI, setG, obG, List.cons.injEq, aeq1, aeqs, onG, Int.reduceLE, Int.reduceNeg, Int.reduceLT, Nat.reduceEqDiff, ↓reduceIte, Nat.reduceLT, Nat.reduceLeDiff, Nat.reduceAdd, Nat.reduceMul, Nat.reduceSub, reduceCtorEq, Int.reduceEq]
  refine ⟨fun h1 => ?_, fun h1 => ?_⟩
  · have h1 : i < m.ways.length := by simpa using h1
    have e := wy_pv h1
    have lw := lWay hm_ h1
    have us := usersTo_step (x := x) h1
    refine ⟨by omega, ?_⟩
    simp only [e, cWay, VS, VZ, TY, openC, foldC, foldN, PF, pick_or, pick_and, aop, aopD, rdN, wrN, idL, idA, apure, AS.ev, startA, strip, abin, aint, astr, alen, aslice, optI, aconv, aconvM, gdv, AS.put, ofVal, pcells, ld, ldo, nOw, PV.isOw, gtmp, within, astore, splice, afill, allCells, okIdx, asrc, aflat, aappend, hintOk, PV.clo, PV.clo1, ofL_n, ofL_c, nams, reO, reP, reA, reC, srcI, setG, obG, List.cons.injEq, aeq1, aeqs, onG, Int.reduceLE, Int.reduceNeg, Int.reduceLT, Nat.reduceEqDiff, ↓reduceIte, Nat.reduceLT, Nat.reduceLeDiff, Nat.reduceAdd, Nat.reduceMul, Nat.reduceSub, reduceCtorEq, Int.reduceEq]
    refine acall_p false (cs_HasId (wy m.ways i).nodes x lw.2.1) (by simp [cv_Int64, obsT, obT, okO, okP, okA, okC, okD, okI, reP, reA, reC, srcI, Nl_nil, Nl_cons, PV.nl, upd_at, ofL_n, ofL_c, VS, argsT, lendA, lendL, lendT, Cvl_nil, Cvl_cons, Cv_bool, Cv_int, Cv_str, Cv_nils, Cv_nilc, Cv_cl, Cv_ow, noFn, PV.noF, NR_iff, NRO, hb, ares, ares1, ldo, ld, nOw, PV.isOw, TY]) (by simp [obsT, obT, okO, okP, okA, okC, okD, okI, reP, reA, reC, srcI, Nl_nil, Nl_cons, PV.nl, upd_at, ofL_n, ofL_c, VS, argsT, lendA, lendL, lendT, Cvl_nil, Cvl_cons, Cv_bool, Cv_int, Cv_str, Cv_nils, Cv_nilc, Cv_cl, Cv_ow, noFn, PV.noF, NR_iff, NRO, hb, ares, ares1, ldo, ld, nOw, PV.isOw, TY]) (.inl rfl) ?_
    simp only [hC, e, cWay, VS, VZ, TY, openC, foldC, foldN, PF, pick_or, pick_and, aop, aopD, rdN, wrN, idL, idA, apure, AS.ev, startA, strip, abin, aint, astr, alen, aslice, optI, aconv, aconvM, gdv, AS.put, ofVal, pcells, ld, ldo, nOw, PV.isOw, gtmp, within, astore, splice, afill, allCells, okIdx, asrc, aflat, aappend, hintOk, PV.clo, PV.clo1, ofL_n, ofL_c, nams, reO, reP, reA, reC, srcI, setG, obG, List.cons.injEq, aeq1, aeqs, onG, Int.reduceLE, Int.reduceNeg, Int.reduceLT, Nat.reduceEqDiff, ↓reduceIte, Nat.reduceLT, Nat.reduceLeDiff, Nat.reduceAdd, Nat.reduceMul, Nat.reduceSub, reduceCtorEq, Int.reduceEq]
    refine ⟨fun h2 => ?_, fun h2 => ?_⟩
    · have h2 : x ∈ (wy m.ways i).nodes := by simpa using h2
      rw [if_pos h2] at us
      simp (disch := omega) only [wr64]
      refine ⟨by omega, by omega, fun j hj => by obtain rfl : j = 0 := (by omega); simp, i + 1, by omega, by omega, Told_go hn [[0], [3]] (by simp [us, obsT, obT, okO, okP, okA, okC, okD, okI, reP, reA, reC, srcI, Nl_nil, Nl_cons, PV.nl, upd_at, ofL_n, ofL_c, VS, argsT, lendA, lendL, lendT, Cvl_nil, Cvl_cons, Cv_bool, Cv_int, Cv_str, Cv_nils, Cv_nilc, Cv_cl, Cv_ow, noFn, PV.noF, NR_iff, NRO, hb, ares, ares1, ldo, ld, nOw, PV.isOw, TY]) ?_ (by simp [cMap, nl_Int64, obsT, obT, okO, okP, okA, okC, okD, okI, reP, reA, reC, srcI, Nl_nil, Nl_cons, PV.nl, upd_at, ofL_n, ofL_c, VS, argsT, lendA, lendL, lendT, Cvl_nil, Cvl_cons, Cv_bool, Cv_int, Cv_str, Cv_nils, Cv_nilc, Cv_cl, Cv_ow, noFn, PV.noF, NR_iff, NRO, hb, ares, ares1, ldo, ld, nOw, PV.isOw, TY])⟩
      simp only [obsT, obT, cMap, VS, VZ, TY, openC, foldC, foldN, PF, pick_or, pick_and, aop, aopD, rdN, wrN, idL, idA, apure, AS.ev, startA, strip, abin, aint, astr, alen, aslice, optI, aconv, aconvM, gdv, AS.put, ofVal, pcells, ld, ldo, nOw, PV.isOw, gtmp, within, astore, splice, afill, allCells, okIdx, asrc, aflat, aappend, hintOk, PV.clo, PV.clo1, ofL_n, ofL_c, nams, reO, reP, reA, reC, srcI, setG, obG, List.cons.injEq, aeq1, aeqs, onG, Int.reduceLE, Int.reduceNeg, Int.reduceLT, Nat.reduceEqDiff, ↓reduceIte, Nat.reduceLT, Nat.reduceLeDiff, Nat.reduceAdd, Nat.reduceMul, Nat.reduceSub, reduceCtorEq, Int.reduceEq]
      simp only [us, List.length_append, List.length_cons, List.length_nil]
      refine ⟨trivial, fun j hj => ?_⟩
      exact ⟨lpv_app (pv := pInt64) hj, by simp [nl_Int64]⟩
    · have h2 : ¬ x ∈ (wy m.ways i).nodes := by simpa using h2
      rw [if_neg h2, List.append_nil] at us
      simp (disch := omega) only [wr64]
      exact ⟨i + 1, by omega, by omega, Told_go hn [[0], [1]] (by simp [us, obsT, obT, okO, okP, okA, okC, okD, okI, reP, reA, reC, srcI, Nl_nil, Nl_cons, PV.nl, upd_at, ofL_n, ofL_c, VS, argsT, lendA, lendL, lendT, Cvl_nil, Cvl_cons, Cv_bool, Cv_int, Cv_str, Cv_nils, Cv_nilc, Cv_cl, Cv_ow, noFn, PV.noF, NR_iff, NRO, hb, ares, ares1, ldo, ld, nOw, PV.isOw, TY]) (by simp [cMap, us, nl_Int64, obsT, obT, okO, okP, okA, okC, okD, okI, reP, reA, reC, srcI, Nl_nil, Nl_cons, PV.nl, upd_at, ofL_n, ofL_c, VS, argsT, lendA, lendL, lendT, Cvl_nil, Cvl_cons, Cv_bool, Cv_int, Cv_str, Cv_nils, Cv_nilc, Cv_cl, Cv_ow, noFn, PV.noF, NR_iff, NRO, hb, ares, ares1, ldo, ld, nOw, PV.isOw, TY]) (by simp [cMap, nl_Int64, obsT, obT, okO, okP, okA, okC, okD, okI, reP, reA, reC, srcI, Nl_nil, Nl_cons, PV.nl, upd_at, ofL_n, ofL_c, VS, argsT, lendA, lendL, lendT, Cvl_nil, Cvl_cons, Cv_bool, Cv_int, Cv_str, Cv_nils, Cv_nilc, Cv_cl, Cv_ow, noFn, PV.noF, NR_iff, NRO, hb, ares, ares1, ldo, ld, nOw, PV.isOw, TY])⟩
  · have : i = m.ways.length := by simp at h1; omega
    subst this
    exact Ret_go [[1]] (by simp [obsT, obT, okO, okP, okA, okC, okD, okI, reP, reA, reC, srcI, Nl_nil, Nl_cons, PV.nl, upd_at, ofL_n, ofL_c, VS, argsT, lendA, lendL, lendT, Cvl_nil, Cvl_cons, Cv_bool, Cv_int, Cv_str, Cv_nils, Cv_nilc, Cv_cl, Cv_ow, noFn, PV.noF, NR_iff, NRO, hb, ares, ares1, ldo, ld, nOw, PV.isOw, TY]) (by simp [nl_Int64, obsT, obT, okO, okP, okA, okC, okD, okI, reP, reA, reC, srcI, Nl_nil, Nl_cons, PV.nl, upd_at, ofL_n, ofL_c, VS, argsT, lendA, lendL, lendT, Cvl_nil, Cvl_cons, Cv_bool, Cv_int, Cv_str, Cv_nils, Cv_nilc, Cv_cl, Cv_ow, noFn, PV.noF, NR_iff, NRO, hb, ares, ares1, ldo, ld, nOw, PV.isOw, TY]) (by simp [nl_Int64, obsT, obT, okO, okP, okA, okC, okD, okI, reP, reA, reC, srcI, Nl_nil, Nl_cons, PV.nl, upd_at, ofL_n, ofL_c, VS, argsT, lendA, lendL, lendT, Cvl_nil, Cvl_cons, Cv_bool, Cv_int, Cv_str, Cv_nils, Cv_nilc, Cv_cl, Cv_ow, noFn, PV.noF, NR_iff, NRO, hb, ares, ares1, ldo, ld, nOw, PV.isOw, TY])
end Go.Proofs.Ytofaiiobggnibaa.Wd
