/- What the proof of FnExactUnused stands on, part 6: plain lemmas and contracts. -/
import Derived.Shelf.GgSortFunc.Whole
import Derived.Shelf.GgSortFunc.Tiny
import Derived.Deep.QuietTactic
import Derived.Lib.RowBridge
import Derived.Lib.SortBridge
import Derived.Sort.LotA
import Derived.WalkKit
import Derived.Test.YtppfogbgbpadiaaXUU5
namespace Go.Proofs.Ytppfogbgbpadiaa.Wd
open Go Go.RowKit Go.Proofs Go.Proofs.YtppfogbgbpadiaaW.AW
set_option linter.unusedVariables false
set_option linter.unusedSimpArgs false
set_option maxRecDepth 100000
def uB (u : List Int) (n : Nd) : Bool := decide (n.tags.length = 0) && !decide (n.id ∈ u)
def uL (m : Mp) (u : List Int) : List Bool := m.nodes.map (fun n => decide (n.id ∈ u))
def usedA (m : Mp) (i : Nat) : List Int := (m.ways.take i).flatMap (·.nodes)
def unT (m : Mp) (u : List Int) (i : Nat) : List Int := ((m.nodes.take i).filter (uB u)).map (·.id)
def unusedN (m : Mp) : List Int := if mapB m = true then unT m (usedA m m.ways.length) m.nodes.length else []
theorem usedA_step (m : Mp) {i : Nat} (h : i < m.ways.length) : usedA m (i + 1) = usedA m i ++ (wy m.ways i).nodes := by
  unfold usedA
  rw [List.take_succ_eq_append_getElem h, List.flatMap_append, wy_at h]; simp
theorem unT_step (m : Mp) (u : List Int) {i : Nat} (h : i < m.nodes.length) : unT m u (i + 1) = unT m u i ++ (if uB u (nd m.nodes i) = true then [(nd m.nodes i).id] else []) := by
  unfold unT
  rw [filter_step _ h, List.map_append, nd_at h]
  congr 1
  split <;> simp
theorem unT_len (m : Mp) (u : List Int) (i : Nat) : (unT m u i).length ≤ i := by unfold unT; rw [List.length_map]; exact filter_len _ _ _
theorem uL_len (m : Mp) (u : List Int) : (uL m u).length = m.nodes.length := by simp [uL]
theorem uL_at (m : Mp) (u : List Int) {j : Nat} (h : j < m.nodes.length) : lpv pBool (uL m u) j = [.bool (decide ((nd m.nodes j).id ∈ u))] := by
  rw [lpv_at (by rw [uL_len]; exact h)]; simp [uL, pBool, nd_at h]
theorem uL0 (m : Mp) {j : Nat} (h : j < m.nodes.length) : lpv pBool (uL m (usedA m 0)) j = [.bool false] := by rw [uL_at _ _ h]; simp [usedA]
theorem uL_step {m : Mp} (hs : ∀ i j, i < j → j < m.nodes.length → (nd m.nodes i).id < (nd m.nodes j).id) {x : Int} (hx : x ∈ nids m) (u : List Int) {j : Nat} (h : j < m.nodes.length) :
    lpv pBool (uL m (u ++ [x])) j = if j = (ix (nids m) x).toNat then [.bool true] else lpv pBool (uL m u) j := by
  rw [uL_at _ _ h, uL_at _ _ h]
  have := id_ix hs hx h
  by_cases e : j = (ix (nids m) x).toNat
  · rw [if_pos e]; simp [this.2 e]
  · rw [if_neg e]
    have h2 : (nd m.nodes j).id ≠ x := fun q => e (this.1 q)
    simp [h2]
set_option maxHeartbeats 2000000 in
theorem cs_Unused (m : Mp) (hm_ : lMap m) : AC Try.prog 39 [.ag (cMap m)] (ML []) (.sl [0] 1 (unusedN m).length 0 (unusedN m).length) (ML [.row 1 (unusedN m).length (lpv pInt64 (unusedN m))]) := by
  obtain ⟨b1, b2, b3, b4, b5, b6⟩ := hm_.1
  refine AC.of Try.func39 rfl rfl (by simp [Try.ntmps39]) rfl (fun C hC hm => ?_)
  rw [Try.ntmps39] at hC
  have hn : C.m0.nx = _ := congrArg Mem.nx hm
  simp only [ML_nx, List.length_nil, List.length_cons, Nat.zero_add, Nat.reduceAdd] at hn
  simp only [hC, cMap, VS, VZ, TY, openC, foldC, foldN, PF, pick_or, pick_and, aop, aopD, rdN, wrN, idL, idA, apure, AS.ev, startA, strip, abin, aint, astr, alen, aslice, optI, aconv, aconvM, gdv, AS.put, ofVal, pcells, ld, ldo, nOw, PV.isOw, gtmp, within, astore, splice, afill, allCells, okIdx, asrc, aflat, aappend, hintOk, PV.clo, PV.clo1, ofL_n, ofL_c, nams, reO, reP, reA, reC, srcI, setG, obG, List.cons.injEq, aeq1, aeqs, onG, Int.reduceLE, Int.reduceNeg, Int.reduceLT, Nat.reduceEqDiff, ↓reduceIte, Nat.reduceLT, Nat.reduceLeDiff, Nat.reduceAdd, Nat.reduceMul, Nat.reduceSub, reduceCtorEq, Int.reduceEq]
  refine acall_p false (cs_MapOk m hm_) (by simp [cMap, cv_Node, cv_Way, cv_Area, obsT, obT, okO, okP, okA, okC, okD, okI, reP, reA, reC, srcI, Nl_nil, Nl_cons, PV.nl, upd_at, ofL_n, ofL_c, VS, argsT, lendA, lendL, lendT, Cvl_nil, Cvl_cons, Cv_bool, Cv_int, Cv_str, Cv_nils, Cv_nilc, Cv_cl, Cv_ow, noFn, PV.noF, NR_iff, NRO, hb, ares, ares1, ldo, ld, nOw, PV.isOw, TY]) tS (.inl rfl) ?_
  simp only [hC, cMap, VS, VZ, TY, openC, foldC, foldN, PF, pick_or, pick_and, aop, aopD, rdN, wrN, idL, idA, apure, AS.ev, startA, strip, abin, aint, astr, alen, aslice, optI, aconv, aconvM, gdv, AS.put, ofVal, pcells, ld, ldo, nOw, PV.isOw, gtmp, within, astore, splice, afill, allCells, okIdx, asrc, aflat, aappend, hintOk, PV.clo, PV.clo1, ofL_n, ofL_c, nams, reO, reP, reA, reC, srcI, setG, obG, List.cons.injEq, aeq1, aeqs, onG, Int.reduceLE, Int.reduceNeg, Int.reduceLT, Nat.reduceEqDiff, ↓reduceIte, Nat.reduceLT, Nat.reduceLeDiff, Nat.reduceAdd, Nat.reduceMul, Nat.reduceSub, reduceCtorEq, Int.reduceEq]
  refine ⟨fun h => ?_, fun h => ?_⟩
  · have h : mapB m = false := by simpa using h
    exact Ret_go [[1]] (by simp [unusedN, h, obsT, obT, okO, okP, okA, okC, okD, okI, reP, reA, reC, srcI, Nl_nil, Nl_cons, PV.nl, upd_at, ofL_n, ofL_c, VS, argsT, lendA, lendL, lendT, Cvl_nil, Cvl_cons, Cv_bool, Cv_int, Cv_str, Cv_nils, Cv_nilc, Cv_cl, Cv_ow, noFn, PV.noF, NR_iff, NRO, hb, ares, ares1, ldo, ld, nOw, PV.isOw, TY]) (by simp [unusedN, h, nl_Int64, obsT, obT, okO, okP, okA, okC, okD, okI, reP, reA, reC, srcI, Nl_nil, Nl_cons, PV.nl, upd_at, ofL_n, ofL_c, VS, argsT, lendA, lendL, lendT, Cvl_nil, Cvl_cons, Cv_bool, Cv_int, Cv_str, Cv_nils, Cv_nilc, Cv_cl, Cv_ow, noFn, PV.noF, NR_iff, NRO, hb, ares, ares1, ldo, ld, nOw, PV.isOw, TY]) (by simp [unusedN, h, nl_Int64, obsT, obT, okO, okP, okA, okC, okD, okI, reP, reA, reC, srcI, Nl_nil, Nl_cons, PV.nl, upd_at, ofL_n, ofL_c, VS, argsT, lendA, lendL, lendT, Cvl_nil, Cvl_cons, Cv_bool, Cv_int, Cv_str, Cv_nils, Cv_nilc, Cv_cl, Cv_ow, noFn, PV.noF, NR_iff, NRO, hb, ares, ares1, ldo, ld, nOw, PV.isOw, TY])
  have h : mapB m = true := by simpa using h
  have hs := map_sorted h
  refine ⟨by omega, ?_⟩
  refine AL.go (X := Nat) (fun i => ⟨ofL [(1, .bp [0] 0), (3, .sl [1] 1 0 0 0), (4, .sl [2] 1 m.nodes.length 0 m.nodes.length), (5, .int .i64 (i : Int))], ML [.box (cMap m), .row 1 0 (lpv pInt64 []), .row 1 m.nodes.length (lpv pBool (uL m (usedA m i)))]⟩) (fun i => m.ways.length - i) (fun i => i ≤ m.ways.length) 0 (by simp)
    (Told_go hn [[0], [1], [2]] tS (by simp (config := {contextual := true}) [cMap, uL0, nl_Bool, nl_Int64, obsT, obT, okO, okP, okA, okC, okD, okI, reP, reA, reC, srcI, Nl_nil, Nl_cons, PV.nl, upd_at, ofL_n, ofL_c, VS, argsT, lendA, lendL, lendT, Cvl_nil, Cvl_cons, Cv_bool, Cv_int, Cv_str, Cv_nils, Cv_nilc, Cv_cl, Cv_ow, noFn, PV.noF, NR_iff, NRO, hb, ares, ares1, ldo, ld, nOw, PV.isOw, TY]) (by simp [cMap, nl_Bool, nl_Int64, obsT, obT, okO, okP, okA, okC, okD, okI, reP, reA, reC, srcI, Nl_nil, Nl_cons, PV.nl, upd_at, ofL_n, ofL_c, VS, argsT, lendA, lendL, lendT, Cvl_nil, Cvl_cons, Cv_bool, Cv_int, Cv_str, Cv_nils, Cv_nilc, Cv_cl, Cv_ow, noFn, PV.noF, NR_iff, NRO, hb, ares, ares1, ldo, ld, nOw, PV.isOw, TY])) (fun i hi => vc_ok _ _ _ ?_)
  simp only [hC, cMap, VS, VZ, TY, openC, foldC, foldN, PF, pick_or, pick_and, aop, aopD, rdN, wrN, idL, idA, apure, AS.ev, startA, strip, abin, aint, astr, alen, aslice, optI, aconv, aconvM, gdv, AS.put, ofVal, pcells, ld, ldo, nOw, PV.isOw, gtmp, within, astore, splice, afill, allCells, okIdx, asrc, aflat, aappend, hintOk, PV.clo, PV.clo1, ofL_n, ofL_c, nams, reO, reP, reA, reC, srcI, setG, obG, List.cons.injEq, aeq1, aeqs, onG, Int.reduceLE, Int.reduceNeg, Int.reduceLT, Nat.reduceEqDiff, ↓reduceIte, Nat.reduceLT, Nat.reduceLeDiff, Nat.reduceAdd, Nat.reduceMul, Nat.reduceSub, reduceCtorEq, Int.reduceEq]
  refine ⟨fun h1 => ?_, fun h1 => ?_⟩
  · have h1 : i < m.ways.length := by simpa using h1
    have e := wy_pv h1
    have lw := lWay hm_ h1
    refine AL.go (X := Nat) (fun k => ⟨ofL [(1, .bp [0] 0), (3, .sl [1] 1 0 0 0), (4, .sl [2] 1 m.nodes.length 0 m.nodes.length), (5, .int .i64 (i : Int)), (6, .int .i64 (k : Int))], ML [.box (cMap m), .row 1 0 (lpv pInt64 []), .row 1 m.nodes.length (lpv pBool (uL m (usedA m i ++ (wy m.ways i).nodes.take k)))]⟩) (fun k => (wy m.ways i).nodes.length - k) (fun k => k ≤ (wy m.ways i).nodes.length) 0 (by simp)
      (Told_go hn [[0], [1], [2]] tS (by simp [cMap, nl_Bool, nl_Int64, obsT, obT, okO, okP, okA, okC, okD, okI, reP, reA, reC, srcI, Nl_nil, Nl_cons, PV.nl, upd_at, ofL_n, ofL_c, VS, argsT, lendA, lendL, lendT, Cvl_nil, Cvl_cons, Cv_bool, Cv_int, Cv_str, Cv_nils, Cv_nilc, Cv_cl, Cv_ow, noFn, PV.noF, NR_iff, NRO, hb, ares, ares1, ldo, ld, nOw, PV.isOw, TY]) (by simp [cMap, nl_Bool, nl_Int64, obsT, obT, okO, okP, okA, okC, okD, okI, reP, reA, reC, srcI, Nl_nil, Nl_cons, PV.nl, upd_at, ofL_n, ofL_c, VS, argsT, lendA, lendL, lendT, Cvl_nil, Cvl_cons, Cv_bool, Cv_int, Cv_str, Cv_nils, Cv_nilc, Cv_cl, Cv_ow, noFn, PV.noF, NR_iff, NRO, hb, ares, ares1, ldo, ld, nOw, PV.isOw, TY])) (fun k hk => vc_ok _ _ _ ?_)
    simp only [hC, cMap, e, cWay, VS, VZ, TY, openC, foldC, foldN, PF, pick_or, pick_and, aop, aopD, rdN, wrN, idL, idA, apure, AS.ev, startA, strip, abin, aint, astr, alen, aslice, optI, aconv, aconvM, gdv, AS.put, ofVal, pcells, ld, ldo, nOw, PV.isOw, gtmp, within, astore, splice, afill, allCells, okIdx, asrc, aflat, aappend, hintOk, PV.clo, PV.clo1, ofL_n, ofL_c, nams, reO, reP, reA, reC, srcI, setG, obG, List.cons.injEq, aeq1, aeqs, onG, Int.reduceLE, Int.reduceNeg, Int.reduceLT, Nat.reduceEqDiff, ↓reduceIte, Nat.reduceLT, Nat.reduceLeDiff, Nat.reduceAdd, Nat.reduceMul, Nat.reduceSub, reduceCtorEq, Int.reduceEq]
    refine ⟨by omega, fun h3 => ?_, fun h3 => ?_⟩
    · have h3 : k < (wy m.ways i).nodes.length := by simpa using h3
      have ek := it_pv h3
      have hmem := map_wn h h1 h3
      have hx := ix_nat hmem
      have nlen : (nids m).length = m.nodes.length := by simp [nids]
      have et := take_id h3
      refine ⟨by kernel_rfl, by omega, ?_⟩
      simp only [e, cWay, ek, pInt64, VS, VZ, TY, openC, foldC, foldN, PF, pick_or, pick_and, aop, aopD, rdN, wrN, idL, idA, apure, AS.ev, startA, strip, abin, aint, astr, alen, aslice, optI, aconv, aconvM, gdv, AS.put, ofVal, pcells, ld, ldo, nOw, PV.isOw, gtmp, within, astore, splice, afill, allCells, okIdx, asrc, aflat, aappend, hintOk, PV.clo, PV.clo1, ofL_n, ofL_c, nams, reO, reP, reA, reC, srcI, setG, obG, List.cons.injEq, aeq1, aeqs, onG, Int.reduceLE, Int.reduceNeg, Int.reduceLT, Nat.reduceEqDiff, ↓reduceIte, Nat.reduceLT, Nat.reduceLeDiff, Nat.reduceAdd, Nat.reduceMul, Nat.reduceSub, reduceCtorEq, Int.reduceEq]
      refine ⟨by omega, ?_⟩
      refine acall_p false (cs_l2Node m (it (wy m.ways i).nodes k) b1 hs) (by simp [cMap, cv_Node, cv_Way, cv_Area, obsT, obT, okO, okP, okA, okC, okD, okI, reP, reA, reC, srcI, Nl_nil, Nl_cons, PV.nl, upd_at, ofL_n, ofL_c, VS, argsT, lendA, lendL, lendT, Cvl_nil, Cvl_cons, Cv_bool, Cv_int, Cv_str, Cv_nils, Cv_nilc, Cv_cl, Cv_ow, noFn, PV.noF, NR_iff, NRO, hb, ares, ares1, ldo, ld, nOw, PV.isOw, TY]) tS (.inl rfl) ?_
      simp only [hC, ek, pInt64, VS, VZ, TY, openC, foldC, foldN, PF, pick_or, pick_and, aop, aopD, rdN, wrN, idL, idA, apure, AS.ev, startA, strip, abin, aint, astr, alen, aslice, optI, aconv, aconvM, gdv, AS.put, ofVal, pcells, ld, ldo, nOw, PV.isOw, gtmp, within, astore, splice, afill, allCells, okIdx, asrc, aflat, aappend, hintOk, PV.clo, PV.clo1, ofL_n, ofL_c, nams, reO, reP, reA, reC, srcI, setG, obG, List.cons.injEq, aeq1, aeqs, onG, Int.reduceLE, Int.reduceNeg, Int.reduceLT, Nat.reduceEqDiff, ↓reduceIte, Nat.reduceLT, Nat.reduceLeDiff, Nat.reduceAdd, Nat.reduceMul, Nat.reduceSub, reduceCtorEq, Int.reduceEq]
      simp (disch := omega) only [wr64]
      refine ⟨by omega, by kernel_rfl, k + 1, by omega, by omega, Told_go hn [[0], [1], [2]] tS ?_ (by simp [cMap, nl_Bool, nl_Int64, obsT, obT, okO, okP, okA, okC, okD, okI, reP, reA, reC, srcI, Nl_nil, Nl_cons, PV.nl, upd_at, ofL_n, ofL_c, VS, argsT, lendA, lendL, lendT, Cvl_nil, Cvl_cons, Cv_bool, Cv_int, Cv_str, Cv_nils, Cv_nilc, Cv_cl, Cv_ow, noFn, PV.noF, NR_iff, NRO, hb, ares, ares1, ldo, ld, nOw, PV.isOw, TY])⟩
      simp only [obsT, obT, cMap, VS, VZ, TY, openC, foldC, foldN, PF, pick_or, pick_and, aop, aopD, rdN, wrN, idL, idA, apure, AS.ev, startA, strip, abin, aint, astr, alen, aslice, optI, aconv, aconvM, gdv, AS.put, ofVal, pcells, ld, ldo, nOw, PV.isOw, gtmp, within, astore, splice, afill, allCells, okIdx, asrc, aflat, aappend, hintOk, PV.clo, PV.clo1, ofL_n, ofL_c, nams, reO, reP, reA, reC, srcI, setG, obG, List.cons.injEq, aeq1, aeqs, onG, Int.reduceLE, Int.reduceNeg, Int.reduceLT, Nat.reduceEqDiff, ↓reduceIte, Nat.reduceLT, Nat.reduceLeDiff, Nat.reduceAdd, Nat.reduceMul, Nat.reduceSub, reduceCtorEq, Int.reduceEq]
      refine ⟨by simp, fun j hj => ⟨?_, by simp [nl_Bool]⟩⟩
      rw [et, ← List.append_assoc, uL_step hs hmem _ hj, uL_at m (usedA m i ++ List.take k (wy m.ways i).nodes) (j := (ix (nids m) (it (wy m.ways i).nodes k)).toNat) (by omega)]
      simp
    · have hk2 : k = (wy m.ways i).nodes.length := by simp at h3; omega
      subst hk2
      have us := usedA_step m h1
      rw [List.take_length]
      simp (disch := omega) only [wr64]
      exact ⟨i + 1, by omega, by omega, Told_go hn [[0], [1], [2]] tS (by simp [us, cMap, nl_Bool, nl_Int64, obsT, obT, okO, okP, okA, okC, okD, okI, reP, reA, reC, srcI, Nl_nil, Nl_cons, PV.nl, upd_at, ofL_n, ofL_c, VS, argsT, lendA, lendL, lendT, Cvl_nil, Cvl_cons, Cv_bool, Cv_int, Cv_str, Cv_nils, Cv_nilc, Cv_cl, Cv_ow, noFn, PV.noF, NR_iff, NRO, hb, ares, ares1, ldo, ld, nOw, PV.isOw, TY]) (by simp [cMap, nl_Bool, nl_Int64, obsT, obT, okO, okP, okA, okC, okD, okI, reP, reA, reC, srcI, Nl_nil, Nl_cons, PV.nl, upd_at, ofL_n, ofL_c, VS, argsT, lendA, lendL, lendT, Cvl_nil, Cvl_cons, Cv_bool, Cv_int, Cv_str, Cv_nils, Cv_nilc, Cv_cl, Cv_ow, noFn, PV.noF, NR_iff, NRO, hb, ares, ares1, ldo, ld, nOw, PV.isOw, TY])⟩
  have hi2 : i = m.ways.length := by simp at h1; omega
  subst hi2
  have hU : unusedN m = unT m (usedA m m.ways.length) m.nodes.length := by simp [unusedN, h]
  rw [hU]
  generalize hu : usedA m m.ways.length = u
  refine AL.go (X := Nat) (fun i => ⟨ofL [(1, .bp [0] 0), (3, .sl [1] 1 (unT m u i).length 0 (unT m u i).length), (4, .sl [2] 1 m.nodes.length 0 m.nodes.length), (7, .int .i64 (i : Int))], ML [.box (cMap m), .row 1 (unT m u i).length (lpv pInt64 (unT m u i)), .row 1 m.nodes.length (lpv pBool (uL m u))]⟩) (fun i => m.nodes.length - i) (fun i => i ≤ m.nodes.length) 0 (by simp)
    (Told_go hn [[0], [1], [2]] (by simp [unT, obsT, obT, okO, okP, okA, okC, okD, okI, reP, reA, reC, srcI, Nl_nil, Nl_cons, PV.nl, upd_at, ofL_n, ofL_c, VS, argsT, lendA, lendL, lendT, Cvl_nil, Cvl_cons, Cv_bool, Cv_int, Cv_str, Cv_nils, Cv_nilc, Cv_cl, Cv_ow, noFn, PV.noF, NR_iff, NRO, hb, ares, ares1, ldo, ld, nOw, PV.isOw, TY]) (by simp [unT, hu, cMap, nl_Bool, nl_Int64, obsT, obT, okO, okP, okA, okC, okD, okI, reP, reA, reC, srcI, Nl_nil, Nl_cons, PV.nl, upd_at, ofL_n, ofL_c, VS, argsT, lendA, lendL, lendT, Cvl_nil, Cvl_cons, Cv_bool, Cv_int, Cv_str, Cv_nils, Cv_nilc, Cv_cl, Cv_ow, noFn, PV.noF, NR_iff, NRO, hb, ares, ares1, ldo, ld, nOw, PV.isOw, TY]) (by simp [unT, cMap, nl_Bool, nl_Int64, obsT, obT, okO, okP, okA, okC, okD, okI, reP, reA, reC, srcI, Nl_nil, Nl_cons, PV.nl, upd_at, ofL_n, ofL_c, VS, argsT, lendA, lendL, lendT, Cvl_nil, Cvl_cons, Cv_bool, Cv_int, Cv_str, Cv_nils, Cv_nilc, Cv_cl, Cv_ow, noFn, PV.noF, NR_iff, NRO, hb, ares, ares1, ldo, ld, nOw, PV.isOw, TY])) (fun i hi => vc_ok _ _ _ ?_)
  have kl := unT_len m u i
  simp only [hC, cMap, VS, VZ, TY, openC, foldC, foldN, PF, pick_or, pick_and, aop, aopD, rdN, wrN, idL, idA, apure, AS.ev, startA, strip, abin, aint, astr, alen, aslice, optI, aconv, aconvM, gdv, AS.put, ofVal, pcells, ld, ldo, nOw, PV.isOw, gtmp, within, astore, splice, afill, allCells, okIdx, asrc, aflat, aappend, hintOk, PV.clo, PV.clo1, ofL_n, ofL_c, nams, reO, reP, reA, reC, srcI, setG, obG, List.cons.injEq, aeq1, aeqs, onG, Int.reduceLE, Int.reduceNeg, Int.reduceLT, Nat.reduceEqDiff, ↓reduceIte, Nat.reduceLT, Nat.reduceLeDiff, Nat.reduceAdd, Nat.reduceMul, Nat.reduceSub, reduceCtorEq, Int.reduceEq]
  refine ⟨fun h1 => ?_, fun h1 => ?_⟩
  · have h1 : i < m.nodes.length := by simpa using h1
    have e := nd_pv h1
    have eu := uL_at m u h1
    have us := unT_step m u h1
    simp only [e, eu, cNode, VS, VZ, TY, openC, foldC, foldN, PF, pick_or, pick_and, aop, aopD, rdN, wrN, idL, idA, apure, AS.ev, startA, strip, abin, aint, astr, alen, aslice, optI, aconv, aconvM, gdv, AS.put, ofVal, pcells, ld, ldo, nOw, PV.isOw, gtmp, within, astore, splice, afill, allCells, okIdx, asrc, aflat, aappend, hintOk, PV.clo, PV.clo1, ofL_n, ofL_c, nams, reO, reP, reA, reC, srcI, setG, obG, List.cons.injEq, aeq1, aeqs, onG, Int.reduceLE, Int.reduceNeg, Int.reduceLT, Nat.reduceEqDiff, ↓reduceIte, Nat.reduceLT, Nat.reduceLeDiff, Nat.reduceAdd, Nat.reduceMul, Nat.reduceSub, reduceCtorEq, Int.reduceEq]
    have hc : (!decide ((nd m.nodes i).id ∈ u) && decide (((nd m.nodes i).tags.length : Int) = 0)) = uB u (nd m.nodes i) := by
      simp only [uB]
      rw [Bool.and_comm, show decide (((nd m.nodes i).tags.length : Int) = 0) = decide ((nd m.nodes i).tags.length = 0) by rw [decide_eq_decide]; omega]
    rw [hc]
    simp (disch := omega) only [wr64]
    refine ⟨by omega, fun _ => by omega, fun h2 => ?_, fun h2 => ?_⟩
    · rw [if_pos h2] at us
      refine ⟨by omega, by omega, fun j hj => by obtain rfl : j = 0 := (by omega); simp, i + 1, by omega, by omega, Told_go hn [[0], [4], [2]] (by simp [us, obsT, obT, okO, okP, okA, okC, okD, okI, reP, reA, reC, srcI, Nl_nil, Nl_cons, PV.nl, upd_at, ofL_n, ofL_c, VS, argsT, lendA, lendL, lendT, Cvl_nil, Cvl_cons, Cv_bool, Cv_int, Cv_str, Cv_nils, Cv_nilc, Cv_cl, Cv_ow, noFn, PV.noF, NR_iff, NRO, hb, ares, ares1, ldo, ld, nOw, PV.isOw, TY]) ?_ (by simp [cMap, nl_Bool, nl_Int64, obsT, obT, okO, okP, okA, okC, okD, okI, reP, reA, reC, srcI, Nl_nil, Nl_cons, PV.nl, upd_at, ofL_n, ofL_c, VS, argsT, lendA, lendL, lendT, Cvl_nil, Cvl_cons, Cv_bool, Cv_int, Cv_str, Cv_nils, Cv_nilc, Cv_cl, Cv_ow, noFn, PV.noF, NR_iff, NRO, hb, ares, ares1, ldo, ld, nOw, PV.isOw, TY])⟩
      simp only [us, obsT, obT, cMap, nl_Bool, List.length_append, List.length_cons, List.length_nil, VS, VZ, TY, openC, foldC, foldN, PF, pick_or, pick_and, aop, aopD, rdN, wrN, idL, idA, apure, AS.ev, startA, strip, abin, aint, astr, alen, aslice, optI, aconv, aconvM, gdv, AS.put, ofVal, pcells, ld, ldo, nOw, PV.isOw, gtmp, within, astore, splice, afill, allCells, okIdx, asrc, aflat, aappend, hintOk, PV.clo, PV.clo1, ofL_n, ofL_c, nams, reO, reP, reA, reC, srcI, setG, obG, List.cons.injEq, aeq1, aeqs, onG, Int.reduceLE, Int.reduceNeg, Int.reduceLT, Nat.reduceEqDiff, ↓reduceIte, Nat.reduceLT, Nat.reduceLeDiff, Nat.reduceAdd, Nat.reduceMul, Nat.reduceSub, reduceCtorEq, Int.reduceEq]
      refine fun j hj => ⟨?_, by simp [nl_Int64]⟩
      have := lpv_app (pv := pInt64) (L := unT m u i) (x := (nd m.nodes i).id) hj
      simpa [pInt64] using this
    · rw [if_neg (by simp [h2]), List.append_nil] at us
      exact ⟨i + 1, by omega, by omega, Told_go hn [[0], [1], [2]] (by simp [us, obsT, obT, okO, okP, okA, okC, okD, okI, reP, reA, reC, srcI, Nl_nil, Nl_cons, PV.nl, upd_at, ofL_n, ofL_c, VS, argsT, lendA, lendL, lendT, Cvl_nil, Cvl_cons, Cv_bool, Cv_int, Cv_str, Cv_nils, Cv_nilc, Cv_cl, Cv_ow, noFn, PV.noF, NR_iff, NRO, hb, ares, ares1, ldo, ld, nOw, PV.isOw, TY]) (by simp [us, cMap, nl_Bool, nl_Int64, obsT, obT, okO, okP, okA, okC, okD, okI, reP, reA, reC, srcI, Nl_nil, Nl_cons, PV.nl, upd_at, ofL_n, ofL_c, VS, argsT, lendA, lendL, lendT, Cvl_nil, Cvl_cons, Cv_bool, Cv_int, Cv_str, Cv_nils, Cv_nilc, Cv_cl, Cv_ow, noFn, PV.noF, NR_iff, NRO, hb, ares, ares1, ldo, ld, nOw, PV.isOw, TY]) (by simp [us, cMap, nl_Bool, nl_Int64, obsT, obT, okO, okP, okA, okC, okD, okI, reP, reA, reC, srcI, Nl_nil, Nl_cons, PV.nl, upd_at, ofL_n, ofL_c, VS, argsT, lendA, lendL, lendT, Cvl_nil, Cvl_cons, Cv_bool, Cv_int, Cv_str, Cv_nils, Cv_nilc, Cv_cl, Cv_ow, noFn, PV.noF, NR_iff, NRO, hb, ares, ares1, ldo, ld, nOw, PV.isOw, TY])⟩
  · have : i = m.nodes.length := by simp at h1; omega
    subst this
    exact Ret_go [[1]] tS (by simp [nl_Int64, obsT, obT, okO, okP, okA, okC, okD, okI, reP, reA, reC, srcI, Nl_nil, Nl_cons, PV.nl, upd_at, ofL_n, ofL_c, VS, argsT, lendA, lendL, lendT, Cvl_nil, Cvl_cons, Cv_bool, Cv_int, Cv_str, Cv_nils, Cv_nilc, Cv_cl, Cv_ow, noFn, PV.noF, NR_iff, NRO, hb, ares, ares1, ldo, ld, nOw, PV.isOw, TY]) (by simp [nl_Int64, obsT, obT, okO, okP, okA, okC, okD, okI, reP, reA, reC, srcI, Nl_nil, Nl_cons, PV.nl, upd_at, ofL_n, ofL_c, VS, argsT, lendA, lendL, lendT, Cvl_nil, Cvl_cons, Cv_bool, Cv_int, Cv_str, Cv_nils, Cv_nilc, Cv_cl, Cv_ow, noFn, PV.noF, NR_iff, NRO, hb, ares, ares1, ldo, ld, nOw, PV.isOw, TY])
end Go.Proofs.Ytppfogbgbpadiaa.Wd
namespace Go.Proofs.Ytppfogbgbpadiaa.Wd
open Go Go.RowKit Go.Proofs Go.Proofs.YtppfogbgbpadiaaW.AW
set_option linter.unusedVariables false
set_option linter.unusedSimpArgs false
set_option maxRecDepth 100000
def sa6_ren : Go.Shelf.Ren := ⟨fun | 6 => 108 | 10 => 166 | 11 => 167 | 12 => 168 | 13 => 169 | 14 => 170 | 24 => 212 | 25 => 213 | 26 => 214 | 27 => 215 | 28 => 216 | 29 => 217 | 30 => 218 | 31 => 219 | 32 => 220 | 33 => 221 | 34 => 233 | 35 => 234 | 36 => 235 | 37 => 236 | 38 => 237 | 39 => 241 | n => n, fun | 20 => 20 | 26 => 138 | 35 => 212 | 0 => 0 | 37 => 214 | 3 => 3 | 41 => 218 | 44 => 221 | 49 => 248 | 51 => 225 | 4 => 4 | 54 => 252 | 53 => 251 | 58 => 256 | 5 => 5 | 9 => 9 | 60 => 270 | 64 => 274 | 66 => 278 | 67 => 279 | 17 => 17 | 32 => 209 | 33 => 210 | 82 => 294 | 12 => 12 | 75 => 287 | 76 => 288 | 77 => 289 | 78 => 290 | 79 => 291 | 80 => 292 | n => n, fun | n => n⟩
theorem sa6 : Go.Proofs.LaysGg.n6 Try.prog sa6_ren where
  mixed := by kernel_rfl
  f6 := Try.func108.trans (congrArg some (by kernel_rfl))
  f10 := Try.func166.trans (congrArg some (by kernel_rfl))
  f11 := Try.func167.trans (congrArg some (by kernel_rfl))
  f12 := Try.func168.trans (congrArg some (by kernel_rfl))
  f13 := Try.func169.trans (congrArg some (by kernel_rfl))
  f14 := Try.func170.trans (congrArg some (by kernel_rfl))
  f24 := Try.func212.trans (congrArg some (by kernel_rfl))
  f25 := Try.func213.trans (congrArg some (by kernel_rfl))
  f26 := Try.func214.trans (congrArg some (by kernel_rfl))
  f27 := Try.func215.trans (congrArg some (by kernel_rfl))
  f28 := Try.func216.trans (congrArg some (by kernel_rfl))
  f29 := Try.func217.trans (congrArg some (by kernel_rfl))
  f30 := Try.func218.trans (congrArg some (by kernel_rfl))
  f31 := Try.func219.trans (congrArg some (by kernel_rfl))
  f32 := Try.func220.trans (congrArg some (by kernel_rfl))
  f33 := Try.func221.trans (congrArg some (by kernel_rfl))
  f34 := Try.func233.trans (congrArg some (by kernel_rfl))
  f35 := Try.func234.trans (congrArg some (by kernel_rfl))
  f36 := Try.func235.trans (congrArg some (by kernel_rfl))
  f37 := Try.func236.trans (congrArg some (by kernel_rfl))
  f38 := Try.func237.trans (congrArg some (by kernel_rfl))
  f39 := Try.func241.trans (congrArg some (by kernel_rfl))
  t0 := Try.underlying0
  a0 := Try.isAgg0
  z0 := Try.sizeOf0
  v0 := Try.zeroValue0
  i0 := by kernel_rfl
  t3 := Try.underlying3
  a3 := Try.isAgg3
  z3 := Try.sizeOf3
  v3 := Try.zeroValue3
  i3 := by kernel_rfl
  t4 := Try.underlying4
  a4 := Try.isAgg4
  z4 := Try.sizeOf4
  v4 := Try.zeroValue4
  i4 := by kernel_rfl
  t5 := Try.underlying5
  a5 := Try.isAgg5
  z5 := Try.sizeOf5
  v5 := Try.zeroValue5
  i5 := by kernel_rfl
  t9 := Try.underlying9
  a9 := Try.isAgg9
  z9 := Try.sizeOf9
  v9 := Try.zeroValue9
  i9 := by kernel_rfl
  t12 := Try.underlying12
  a12 := Try.isAgg12
  z12 := Try.sizeOf12
  v12 := Try.zeroValue12
  i12 := by kernel_rfl
  t17 := Try.underlying17
  a17 := Try.isAgg17
  z17 := Try.sizeOf17
  v17 := Try.zeroValue17
  i17 := by kernel_rfl
  t20 := Try.underlying20
  a20 := Try.isAgg20
  z20 := Try.sizeOf20
  v20 := Try.zeroValue20
  i20 := by kernel_rfl
  t26 := Try.underlying138
  a26 := Try.isAgg138
  z26 := Try.sizeOf138
  v26 := Try.zeroValue138
  i26 := by kernel_rfl
  t32 := Try.underlying209
  a32 := Try.isAgg209
  z32 := Try.sizeOf209
  v32 := Try.zeroValue209
  i32 := by kernel_rfl
  t33 := Try.underlying210
  a33 := Try.isAgg210
  z33 := Try.sizeOf210
  v33 := Try.zeroValue210
  i33 := by kernel_rfl
  t35 := Try.underlying212
  a35 := Try.isAgg212
  z35 := Try.sizeOf212
  v35 := Try.zeroValue212
  i35 := by kernel_rfl
  t37 := Try.underlying214
  a37 := Try.isAgg214
  z37 := Try.sizeOf214
  v37 := Try.zeroValue214
  i37 := by kernel_rfl
  t41 := Try.underlying218
  a41 := Try.isAgg218
  z41 := Try.sizeOf218
  v41 := Try.zeroValue218
  i41 := by kernel_rfl
  t44 := Try.underlying221
  a44 := Try.isAgg221
  z44 := Try.sizeOf221
  v44 := Try.zeroValue221
  i44 := by kernel_rfl
  t49 := Try.underlying248
  a49 := Try.isAgg248
  z49 := Try.sizeOf248
  v49 := Try.zeroValue248
  i49 := by kernel_rfl
  t51 := Try.underlying225
  a51 := Try.isAgg225
  z51 := Try.sizeOf225
  v51 := Try.zeroValue225
  i51 := by kernel_rfl
  t53 := Try.underlying251
  a53 := Try.isAgg251
  z53 := Try.sizeOf251
  v53 := Try.zeroValue251
  i53 := by kernel_rfl
  t54 := Try.underlying252
  a54 := Try.isAgg252
  z54 := Try.sizeOf252
  v54 := Try.zeroValue252
  i54 := by kernel_rfl
  t58 := Try.underlying256
  a58 := Try.isAgg256
  z58 := Try.sizeOf256
  v58 := Try.zeroValue256
  i58 := by kernel_rfl
  t60 := Try.underlying270
  a60 := Try.isAgg270
  z60 := Try.sizeOf270
  v60 := Try.zeroValue270
  i60 := by kernel_rfl
  t64 := Try.underlying274
  a64 := Try.isAgg274
  z64 := Try.sizeOf274
  v64 := Try.zeroValue274
  i64 := by kernel_rfl
  t66 := Try.underlying278
  a66 := Try.isAgg278
  z66 := Try.sizeOf278
  v66 := Try.zeroValue278
  i66 := by kernel_rfl
  t67 := Try.underlying279
  a67 := Try.isAgg279
  z67 := Try.sizeOf279
  v67 := Try.zeroValue279
  i67 := by kernel_rfl
  t75 := Try.underlying287
  a75 := Try.isAgg287
  z75 := Try.sizeOf287
  v75 := Try.zeroValue287
  i75 := by kernel_rfl
  t76 := Try.underlying288
  a76 := Try.isAgg288
  z76 := Try.sizeOf288
  v76 := Try.zeroValue288
  i76 := by kernel_rfl
  t77 := Try.underlying289
  a77 := Try.isAgg289
  z77 := Try.sizeOf289
  v77 := Try.zeroValue289
  i77 := by kernel_rfl
  t78 := Try.underlying290
  a78 := Try.isAgg290
  z78 := Try.sizeOf290
  v78 := Try.zeroValue290
  i78 := by kernel_rfl
  t79 := Try.underlying291
  a79 := Try.isAgg291
  z79 := Try.sizeOf291
  v79 := Try.zeroValue291
  i79 := by kernel_rfl
  t80 := Try.underlying292
  a80 := Try.isAgg292
  z80 := Try.sizeOf292
  v80 := Try.zeroValue292
  i80 := by kernel_rfl
  t82 := Try.underlying294
  a82 := Try.isAgg294
  z82 := Try.sizeOf294
  v82 := Try.zeroValue294
  i82 := by kernel_rfl
end Go.Proofs.Ytppfogbgbpadiaa.Wd
namespace Go.Proofs.Ytppfogbgbpadiaa.Wd
open Go Go.RowKit Go.Proofs Go.Proofs.YtppfogbgbpadiaaW.AW
set_option linter.unusedVariables false
set_option linter.unusedSimpArgs false
set_option maxRecDepth 100000
/-- A world that has only grown. -/
theorem left_grown {w : World} {S : Nat → Prop} {D : Go.Proofs.YtppfogbgbpadiaaW.AW.Id → Prop} {m : Mem} {β κ : Go.Proofs.YtppfogbgbpadiaaW.AW.Id → Nat} {A : Go.Proofs.YtppfogbgbpadiaaW.AW.Id → Nat → Prop} (hm : MRD w S D m β κ A) (q : Nat) (os : Array Obj) {K : PV → Mem → Prop} (hK : K (.tu []) m) :
    Go.Proofs.YtppfogbgbpadiaaW.AW.Left w S D m β κ A K (.tuple #[]) (Sort.grow (Sort.ahead w q) os) := by
  have hk : ∀ k, k < w.heap.size → (Sort.grow (Sort.ahead w q) os).heap[k]? = w.heap[k]? := fun k hk => Array.getElem?_append_left hk
  have hsz : w.heap.size ≤ (Sort.grow (Sort.ahead w q) os).heap.size := by simp [Sort.grow, Sort.ahead]
  exact ⟨_, m, S, D, β, κ, A, hK, ⟨rfl, rfl, rfl, hsz, fun _ h => h, fun _ _ => ⟨rfl, rfl⟩, fun k h _ => hk k h, Nat.le_refl _, fun _ h => h, fun k h => .inr h, fun _ h => .inl h⟩,
    ⟨fun o x ho => (hm.ob o x ho).move (fun _ _ => ⟨rfl, rfl⟩) (fun _ h => h) (fun _ h => h) (fun k h => hk k (hm.lt k h)) (hm.nx o x ho) (fun k h => hk k ((hm.ob o x ho).lt h)), hm.ns, hm.dj, hm.nx, fun k h => Nat.lt_of_lt_of_le (hm.lt k h) hsz⟩, .tu _ _ rfl (fun j p h => by simp at h), dsame⟩
theorem ov_ifs {β κ : Go.Proofs.YtppfogbgbpadiaaW.AW.Id → Nat} {D : Go.Proofs.YtppfogbgbpadiaaW.AW.Id → Prop} {w : World} {S : Nat → Prop} {v : Value} {t : TypeId} {p : PV} (h : OV β κ D w S v (.ifs t p)) : ∃ u, v = .iface t u ∧ OV β κ D w S u p := by
  cases h with
  | rv _ _ h => cases h
  | ifs _ u _ h => exact ⟨u, rfl, h⟩
theorem ov_sl {β κ : Go.Proofs.YtppfogbgbpadiaaW.AW.Id → Nat} {D : Go.Proofs.YtppfogbgbpadiaaW.AW.Id → Prop} {w : World} {S : Nat → Prop} {v : Value} {o : Go.Proofs.YtppfogbgbpadiaaW.AW.Id} {sz n off len : Nat} (h : OV β κ D w S v (.sl o sz n off len)) :
    ∃ A c, v = .slice A len c ∧ len ≤ c ∧ off + c = κ o ∧ (0 < c → A = some ⟨β o, off * sz, none⟩) := by
  cases h with
  | rv _ _ h => cases h
  | sl _ _ _ _ _ A c hx hl hn hk hc hA => exact ⟨A, c, rfl, hl, hk, hA⟩
theorem ov_bp {β κ : Go.Proofs.YtppfogbgbpadiaaW.AW.Id → Nat} {D : Go.Proofs.YtppfogbgbpadiaaW.AW.Id → Prop} {w : World} {S : Nat → Prop} {v : Value} {o : Go.Proofs.YtppfogbgbpadiaaW.AW.Id} {j : Nat} (h : OV β κ D w S v (.bp o j)) : v = .pointer (some ⟨β o, j, none⟩) := by
  cases h with
  | rv _ _ h => cases h
  | bp _ _ hx => rfl
theorem ov_fn1 {β κ : Go.Proofs.YtppfogbgbpadiaaW.AW.Id → Nat} {D : Go.Proofs.YtppfogbgbpadiaaW.AW.Id → Prop} {w : World} {S : Nat → Prop} {v : Value} {g : FuncId} {o : Go.Proofs.YtppfogbgbpadiaaW.AW.Id} {j : Nat} (h : OV β κ D w S v (.fn g [.bp o j])) : v = .func (.func g) #[] #[.pointer (some ⟨β o, j, none⟩)] := by
  cases h with
  | rv _ _ h => cases h
  | fn _ vs _ hl hv =>
    have h0 := ov_bp (hv 0 _ rfl)
    have hl : vs.size = 1 := by simpa using hl
    have : vs = #[vs[0]] := by
      apply Array.ext
      · simp [hl]
      · intro i h1 h2
        obtain rfl : i = 0 := by simp at h2; omega
        rfl
    have e : vs.getD 0 undef = vs[0] := by simp [Array.getD, hl]
    rw [e] at h0
    rw [this, h0]
theorem tv_int {β κ : Go.Proofs.YtppfogbgbpadiaaW.AW.Id → Nat} {D : Go.Proofs.YtppfogbgbpadiaaW.AW.Id → Prop} {w : World} {S : Nat → Prop} {F : Nat → Prop} {v : Value} {k : IntKind} {n : Int} (h : Go.Proofs.YtppfogbgbpadiaaW.AW.TV β κ D w S F v (.int k n)) : v = .int k n := by
  rcases h with ⟨h, _⟩ | h
  · cases h with
    | rv _ _ h => cases h; rfl
  · cases h with
    | rv _ _ _ h _ => cases h; rfl
theorem tv_sl {β κ : Go.Proofs.YtppfogbgbpadiaaW.AW.Id → Nat} {D : Go.Proofs.YtppfogbgbpadiaaW.AW.Id → Prop} {w : World} {S : Nat → Prop} {F : Nat → Prop} {v : Value} {o : Go.Proofs.YtppfogbgbpadiaaW.AW.Id} {sz n off len : Nat} (h : Go.Proofs.YtppfogbgbpadiaaW.AW.TV β κ D w S F v (.sl o sz n off len)) : OV β κ D w S v (.sl o sz n off len) := by
  rcases h with ⟨h, _⟩ | h
  · exact h
  · cases h with
    | rv _ _ _ h _ => cases h
/-- The closure that tells the lesser. -/
theorem less_un (blk off Bs size c : Nat) (W : World) (G : Nat → Int) (hs : W.cell? ⟨Bs, 0, none⟩ = some (.slice (some ⟨blk, off, none⟩) size c))
    (hc : ∀ t, t < size → W.cell? ⟨blk, off + t, none⟩ = some (.int .i64 (G t))) (i j : Nat) (hi : i < size) (hj : j < size) :
    Calls Try.prog 109 #[.int .i64 i, .int .i64 j, .pointer (some ⟨Bs, 0, none⟩)] W fun e w' => e = .returned (.bool (decide (G i < G j))) ∧ ∃ q, w' = W.drewN q := by
  have ci := hc i hi
  have cj := hc j hj
  go_enter Try.func109, Try.ntmps109
  go_wp2
  go_quiet (fail)
  go_wp2
  go_ret
  exact ⟨rfl, nq, rfl⟩
end Go.Proofs.Ytppfogbgbpadiaa.Wd
namespace Go.Proofs.Ytppfogbgbpadiaa.Wd
open Go Go.RowKit Go.Proofs Go.Proofs.YtppfogbgbpadiaaW.AW
set_option linter.unusedVariables false
set_option linter.unusedSimpArgs false
set_option maxRecDepth 100000
theorem cell_of {w : World} {b : Nat} {cur : Array Value} {e : TypeId} {fz : Nat × Nat} (h : w.heap[b]? = some (.cells cur e fz)) {j : Nat} {v : Value} (hv : cur.getD j undef = v) (hj : j < cur.size) : w.cell? ⟨b, j, none⟩ = some v := by
  have : cur[j] = v := by rw [← hv]; simp [Array.getD, hj]
  simp [World.cell?, h, hj, this]
theorem frozen_of {w : World} {b : Nat} {cur : Array Value} {e : TypeId} {fz : Nat × Nat} (h : w.heap[b]? = some (.cells cur e fz)) (hz : Go.Proofs.YtppfogbgbpadiaaW.AW.fzOk fz cur.size) {j : Nat} (hj : j < cur.size) : w.frozen? ⟨b, j, none⟩ = false := by
  obtain ⟨lo, hi'⟩ := fz
  simp only [World.frozen?, h, Bool.and_eq_false_iff, decide_eq_false_iff_not]
  simp only [Go.Proofs.YtppfogbgbpadiaaW.AW.fzOk, Prod.mk.injEq] at hz
  omega
noncomputable def siT : TypeInfo := (Try.prog.info? 37).get (by kernel_rfl)
noncomputable def siE : TypeInfo := (Try.prog.info? 2).get (by kernel_rfl)
theorem siK (n : Nat) (h2 : 2 ≤ n) : Lib.swapperK n siE 6 = 5 := by
  have a : siE.hasPointers = false := by kernel_rfl
  have b : siE.bytes = 8 := by kernel_rfl
  have c : (n == 0) = false := by simp; omega
  have d : (n == 1) = false := by simp; omega
  simp [Lib.swapperK, a, b, c, d]
theorem siK1 (n : Nat) (h1 : n ≤ 1) : Lib.swapperK n siE 6 = n + 1 := by
  rcases Nat.eq_zero_or_pos n with h | h
  · subst h; simp [Lib.swapperK]
  · obtain rfl : n = 1 := by omega
    simp [Lib.swapperK]
theorem perm_sorted_eq (d d' : Array Int) (h : d.toList.Pairwise (· ≤ ·)) (hp : Sort.PermIn 0 d.size d d') (hs : Sort.SortedIn Sort.ltInt 0 d.size d') : d' = d := by
  have h2 := Sort.sorted_unique_holds (lt := Sort.ltInt) Sort.swo_ltInt (fun x y h1 h2 => by simp only [Sort.ltInt, decide_eq_false_iff_not] at h1 h2; omega) d d' hp hs
  have e : (fun x y : Int => !Sort.ltInt y x) = fun x y => decide (x ≤ y) := by
    funext x y
    simp only [Sort.ltInt]
    by_cases h : x ≤ y
    · first | (simp [h]; done) | (simp [h]; omega)
    · first | (simp [h]; done) | (simp [h]; omega)
  rw [e, List.mergeSort_of_pairwise (by simpa using h)] at h2
  simpa using h2
set_option maxHeartbeats 2000000 in
theorem acy_sort (l : List Int) (hl : l.length ≤ 1048576) (hs : l.Pairwise (· ≤ ·)) (m : Mem) (o b : Go.Proofs.YtppfogbgbpadiaaW.AW.Id) (ho : m.o o = some (.row 1 l.length (lpv pInt64 l))) (hx : m.o b = some (.box [.sl o 1 l.length 0 l.length])) (hne : b ≠ o) :
    ACY Try.prog 108 [.ifs 37 (.sl o 1 l.length 0 l.length), .fn 109 [.bp b 0]] m (fun r m' => r = .tu [] ∧ m' = m) := by
  refine ⟨⟨_, Try.func108, rfl, rfl⟩, fun w vs S β κ A hm hsz hv => ?_⟩
  obtain ⟨u, e0, h0⟩ := ov_ifs (hv 0 _ rfl)
  obtain ⟨A0, c, rfl, hlc, hkc, hA⟩ := ov_sl h0
  have e1 := ov_fn1 (hv 1 _ rfl)
  have hsz : vs.size = 2 := by simpa using hsz
  have hvs : vs = #[.iface 37 (.slice A0 l.length c), .func (.func 109) #[] #[.pointer (some ⟨β b, 0, none⟩)]] := by
    apply Array.ext
    · simp [hsz]
    · intro i h1 h2
      have : i = 0 ∨ i = 1 := by omega
      rcases this with rfl | rfl
      · simpa [Array.getD, hsz] using e0
      · simpa [Array.getD, hsz] using e1
  subst hvs
  by_cases h2 : 2 ≤ l.length
  · have hpos : 0 < c := by omega
    obtain rfl := hA hpos
    have hrow := hm.ob o _ ho
    rcases hrow with ⟨h3, h4, _⟩ | ⟨k1, k2, k3, cur, e, fz, F, k4, k5, k6, k7, k8, k9, k10⟩
    · omega
    have hat : ∀ t, t < l.length → cur.getD t undef = .int .i64 (it l t) := fun t ht => by
      have := (k10 t 0 (.int .i64 (it l t)) ht (by rw [it_pv ht]; rfl)).2
      have := tv_int this
      simpa using this
    have hbox := hm.ob b _ hx
    obtain ⟨cur2, e2, fz2, F2, q4, q5, q6, q7, q8, q9, q10⟩ := hbox
    have hsl := ov_sl (tv_sl (q10 0 0 _ (by omega) rfl).2)
    obtain ⟨A2, c2, e3, r1, r2, r3⟩ := hsl
    have hc2 : c2 = c := by omega
    subst hc2
    obtain rfl := r3 hpos
    have hbo : β b ≠ β o := fun h => hne (hm.dj b o _ _ (β b) hx ho ((q9.eq _).2 (.inl rfl)) ((k9.eq _).2 (.inl h)))
    have hlt : β o < w.heap.size := (Array.getElem?_eq_some_iff.1 k4).1
    have hlt2 : β b < w.heap.size := (Array.getElem?_eq_some_iff.1 q4).1
    have hbc : w.cell? ⟨β b, 0, none⟩ = some (.slice (some ⟨β o, 0 * 1, none⟩) l.length c2) := cell_of q4 (by simpa using e3) (by simp at q6; omega)
    have hget : ∀ t, t < l.length → l.toArray[t]! = it l t := fun t ht => by rw [it_at ht]; simp [ht]
    have hH : Sort.Holds (Value.int .i64) w (β o) 0 l.toArray := fun j hj => by
      have hj : j < l.length := by simpa using hj
      have hc3 : j < cur.size := by omega
      rw [Nat.zero_add, hget j hj]
      exact ⟨cell_of k4 (hat j hj) hc3, frozen_of k4 k5 hc3⟩
    have hless : Go.Proofs.LessReads Try.prog 109 #[.pointer (some ⟨β b, 0, none⟩)] (Value.int .i64) Sort.ltInt (β o) 0 l.toArray.size w := by
      intro q os dk hs i j hi hj
      have e : Go.Proofs.sortWorld (Value.int .i64) w (β o) 0 q dk os = Sort.putRow (Value.int .i64) (Sort.grow (Sort.ahead w q) os) (β o) 0 dk := by
        unfold Go.Proofs.sortWorld; rw [Sort.putRow_grow _ (Sort.ahead w q) _ (β o) 0 _ hlt]
      have hHg : Sort.Holds (Value.int .i64) (Sort.grow (Sort.ahead w q) os) (β o) 0 l.toArray := Sort.holds_grow _ _ _ (β o) 0 l.toArray hlt (Sort.holds_ahead _ _ _ _ _ _ hH)
      have hs2 : l.toArray.size = l.length := by simp
      refine less_un (β o) 0 (β b) l.length c2 _ (fun t => dk[t]!) ?_ (fun t ht => ?_) i j (by omega) (by omega)
      · rw [e, Sort.cell?_putRow_other _ _ (β o) 0 dk _ (Or.inl hbo), Sort.cell?_grow _ _ _ (by exact hlt2)]
        exact hbc
      · rw [e]; exact Sort.cell?_putRow _ _ (β o) 0 l.toArray dk hHg hs t (by omega)
    have hS := Go.Proofs.Any.sort_Slice_sorted sa6 37 2 siT siE (by kernel_rfl) (by kernel_rfl) (by kernel_rfl) (by kernel_rfl) 6 (fun _ => by kernel_rfl) (by kernel_rfl) (fun _ => by kernel_rfl) (Value.int .i64) (fun _ => rfl) Sort.ltInt Sort.swo_ltInt 109 _
      (enters_of Try.func109 (by kernel_rfl) rfl) (β o) 0 c2 l.toArray (by simpa using h2) (by simp; omega) 207 (by rw [siK _ (by simpa using h2)]; kernel_rfl) true
      (fun args W => run_callFunc_extern Try.func207 (by kernel_rfl) (by kernel_rfl) (by kernel_rfl) (e := Extern.ReflectliteSwapper.swap true) (by kernel_rfl) args W) _ hless hH hlt
    have hz : l.toArray.size = l.length := by simp
    rw [hz] at hS
    refine hS.mono ?_
    rintro e w' ⟨rfl, d', n, os, hp, hso, rfl⟩
    have hd : d' = l.toArray := perm_sorted_eq l.toArray d' (by simpa using hs) (by rw [hz]; exact hp) (by rw [hz]; exact hso)
    subst hd
    rw [Sort.putRow_self _ _ _ _ _ (Sort.holds_ahead _ _ _ _ _ _ hH)]
    exact ⟨_, rfl, left_grown hm n os ⟨rfl, rfl⟩⟩
  · have hS := Go.Proofs.Any.sort_Slice_tiny sa6 37 2 siT siE (by kernel_rfl) (by kernel_rfl) (by kernel_rfl) (by kernel_rfl) 6 (fun _ => by kernel_rfl) A0 l.length c (by omega) (203 + l.length) (by
      rw [siK1 _ (by omega)]
      generalize l.length = n at h2
      rcases Nat.eq_zero_or_pos n with h | h
      · subst h; kernel_rfl
      · obtain rfl : n = 1 := by omega
        kernel_rfl) (.func 109) #[] #[.pointer (some ⟨β b, 0, none⟩)] w
    refine hS.mono ?_
    rintro e w' ⟨rfl, os, rfl⟩
    exact ⟨_, rfl, left_grown (w := w) hm 0 os ⟨rfl, rfl⟩⟩
end Go.Proofs.Ytppfogbgbpadiaa.Wd
namespace Go.Proofs.Ytppfogbgbpadiaa.Wd
open Go Go.RowKit Go.Proofs Go.Proofs.YtppfogbgbpadiaaW.AW
set_option linter.unusedVariables false
set_option linter.unusedSimpArgs false
set_option maxRecDepth 100000
theorem unT_sorted {m : Mp} (hs : ∀ i j, i < j → j < m.nodes.length → (nd m.nodes i).id < (nd m.nodes j).id) (u : List Int) (i : Nat) : (unT m u i).Pairwise (· ≤ ·) := by
  unfold unT
  rw [List.pairwise_map]
  refine List.Pairwise.filter _ ?_
  refine List.Pairwise.take ?_
  rw [List.pairwise_iff_getElem]
  intro a b ha hb2 hab
  have := hs a b hab hb2
  rw [nd_at ha, nd_at hb2] at this
  omega
set_option maxHeartbeats 2000000 in
theorem ci_Unused (m : Mp) (hm_ : lMap m) : AC Try.prog 37 [.ag (cMap m)] (ML []) (.sl [0] 1 (unusedN m).length 0 (unusedN m).length) (ML [.row 1 (unusedN m).length (lpv pInt64 (unusedN m))]) := by
  obtain ⟨b1, b2, b3, b4, b5, b6⟩ := hm_.1
  refine AC.of Try.func37 rfl rfl (by simp [Try.ntmps37]) rfl (fun C hC hm => ?_)
  rw [Try.ntmps37] at hC
  have hn : C.m0.nx = _ := congrArg Mem.nx hm
  simp only [ML_nx, List.length_nil, List.length_cons, Nat.zero_add, Nat.reduceAdd] at hn
  simp only [hC, cMap, VS, VZ, TY, openC, foldC, foldN, PF, pick_or, pick_and, aop, aopD, rdN, wrN, idL, idA, apure, AS.ev, startA, strip, abin, aint, astr, alen, aslice, optI, aconv, aconvM, gdv, AS.put, ofVal, pcells, ld, ldo, nOw, PV.isOw, gtmp, within, astore, splice, afill, allCells, okIdx, asrc, aflat, aappend, hintOk, PV.clo, PV.clo1, ofL_n, ofL_c, nams, reO, reP, reA, reC, srcI, setG, obG, List.cons.injEq, aeq1, aeqs, onG, Int.reduceLE, Int.reduceNeg, Int.reduceLT, Nat.reduceEqDiff, ↓reduceIte, Nat.reduceLT, Nat.reduceLeDiff, Nat.reduceAdd, Nat.reduceMul, Nat.reduceSub, reduceCtorEq, Int.reduceEq]
  refine acall_p false (ci_MapOk m hm_) (by simp [cMap, cv_Node, cv_Way, cv_Area, obsT, obT, okO, okP, okA, okC, okD, okI, reP, reA, reC, srcI, Nl_nil, Nl_cons, PV.nl, upd_at, ofL_n, ofL_c, VS, argsT, lendA, lendL, lendT, Cvl_nil, Cvl_cons, Cv_bool, Cv_int, Cv_str, Cv_nils, Cv_nilc, Cv_cl, Cv_ow, noFn, PV.noF, NR_iff, NRO, hb, ares, ares1, ldo, ld, nOw, PV.isOw, TY]) tS (.inl rfl) ?_
  simp only [hC, cMap, VS, VZ, TY, openC, foldC, foldN, PF, pick_or, pick_and, aop, aopD, rdN, wrN, idL, idA, apure, AS.ev, startA, strip, abin, aint, astr, alen, aslice, optI, aconv, aconvM, gdv, AS.put, ofVal, pcells, ld, ldo, nOw, PV.isOw, gtmp, within, astore, splice, afill, allCells, okIdx, asrc, aflat, aappend, hintOk, PV.clo, PV.clo1, ofL_n, ofL_c, nams, reO, reP, reA, reC, srcI, setG, obG, List.cons.injEq, aeq1, aeqs, onG, Int.reduceLE, Int.reduceNeg, Int.reduceLT, Nat.reduceEqDiff, ↓reduceIte, Nat.reduceLT, Nat.reduceLeDiff, Nat.reduceAdd, Nat.reduceMul, Nat.reduceSub, reduceCtorEq, Int.reduceEq]
  refine ⟨fun h => ?_, fun h => ?_⟩
  · have h : mapB m = false := by simpa using h
    refine RetT.told (Told_nil 2 1 (lpv pInt64 []) (by simp only [VS, VZ, TY, openC, foldC, foldN, PF, pick_or, pick_and, aop, aopD, rdN, wrN, idL, idA, apure, AS.ev, startA, strip, abin, aint, astr, alen, aslice, optI, aconv, aconvM, gdv, AS.put, ofVal, pcells, ld, ldo, nOw, PV.isOw, gtmp, within, astore, splice, afill, allCells, okIdx, asrc, aflat, aappend, hintOk, PV.clo, PV.clo1, ofL_n, ofL_c, nams, reO, reP, reA, reC, srcI, setG, obG, List.cons.injEq, aeq1, aeqs, onG, Int.reduceLE, Int.reduceNeg, Int.reduceLT, Nat.reduceEqDiff, ↓reduceIte, Nat.reduceLT, Nat.reduceLeDiff, Nat.reduceAdd, Nat.reduceMul, Nat.reduceSub, reduceCtorEq, Int.reduceEq])) ?_
    exact Ret_go [[1]] (by simp [unusedN, h, obsT, obT, okO, okP, okA, okC, okD, okI, reP, reA, reC, srcI, Nl_nil, Nl_cons, PV.nl, upd_at, ofL_n, ofL_c, VS, argsT, lendA, lendL, lendT, Cvl_nil, Cvl_cons, Cv_bool, Cv_int, Cv_str, Cv_nils, Cv_nilc, Cv_cl, Cv_ow, noFn, PV.noF, NR_iff, NRO, hb, ares, ares1, ldo, ld, nOw, PV.isOw, TY]) (by simp [unusedN, h, nl_Int64, obsT, obT, okO, okP, okA, okC, okD, okI, reP, reA, reC, srcI, Nl_nil, Nl_cons, PV.nl, upd_at, ofL_n, ofL_c, VS, argsT, lendA, lendL, lendT, Cvl_nil, Cvl_cons, Cv_bool, Cv_int, Cv_str, Cv_nils, Cv_nilc, Cv_cl, Cv_ow, noFn, PV.noF, NR_iff, NRO, hb, ares, ares1, ldo, ld, nOw, PV.isOw, TY]) (by simp [unusedN, h, nl_Int64, obsT, obT, okO, okP, okA, okC, okD, okI, reP, reA, reC, srcI, Nl_nil, Nl_cons, PV.nl, upd_at, ofL_n, ofL_c, VS, argsT, lendA, lendL, lendT, Cvl_nil, Cvl_cons, Cv_bool, Cv_int, Cv_str, Cv_nils, Cv_nilc, Cv_cl, Cv_ow, noFn, PV.noF, NR_iff, NRO, hb, ares, ares1, ldo, ld, nOw, PV.isOw, TY])
  have h : mapB m = true := by simpa using h
  have hs := map_sorted h
  refine AL.go (X := Nat) (fun i => ⟨ofL [(1, .bp [0] 0), (3, .mp [1]), (16, .cl 3 m.ways.length (lpv cWay m.ways)), (17, .int .i64 m.ways.length), (18, .int .i64 (i : Int))], ML [.box (cMap m), .map (setF (usedA m i))]⟩) (fun i => m.ways.length - i) (fun i => i ≤ m.ways.length) 0 (by simp)
    (Told_go hn [[0], [1]] tS (by simp [usedA, setF_nil, cMap, obsT, obT, okO, okP, okA, okC, okD, okI, reP, reA, reC, srcI, Nl_nil, Nl_cons, PV.nl, upd_at, ofL_n, ofL_c, VS, argsT, lendA, lendL, lendT, Cvl_nil, Cvl_cons, Cv_bool, Cv_int, Cv_str, Cv_nils, Cv_nilc, Cv_cl, Cv_ow, noFn, PV.noF, NR_iff, NRO, hb, ares, ares1, ldo, ld, nOw, PV.isOw, TY]) (by simp [cMap, obsT, obT, okO, okP, okA, okC, okD, okI, reP, reA, reC, srcI, Nl_nil, Nl_cons, PV.nl, upd_at, ofL_n, ofL_c, VS, argsT, lendA, lendL, lendT, Cvl_nil, Cvl_cons, Cv_bool, Cv_int, Cv_str, Cv_nils, Cv_nilc, Cv_cl, Cv_ow, noFn, PV.noF, NR_iff, NRO, hb, ares, ares1, ldo, ld, nOw, PV.isOw, TY])) (fun i hi => vc_ok _ _ _ ?_)
  simp only [hC, cMap, VS, VZ, TY, openC, foldC, foldN, PF, pick_or, pick_and, aop, aopD, rdN, wrN, idL, idA, apure, AS.ev, startA, strip, abin, aint, astr, alen, aslice, optI, aconv, aconvM, gdv, AS.put, ofVal, pcells, ld, ldo, nOw, PV.isOw, gtmp, within, astore, splice, afill, allCells, okIdx, asrc, aflat, aappend, hintOk, PV.clo, PV.clo1, ofL_n, ofL_c, nams, reO, reP, reA, reC, srcI, setG, obG, List.cons.injEq, aeq1, aeqs, onG, Int.reduceLE, Int.reduceNeg, Int.reduceLT, Nat.reduceEqDiff, ↓reduceIte, Nat.reduceLT, Nat.reduceLeDiff, Nat.reduceAdd, Nat.reduceMul, Nat.reduceSub, reduceCtorEq, Int.reduceEq]
  refine ⟨fun h1 => ?_, fun h1 => ?_⟩
  · have h1 : i < m.ways.length := by simpa using h1
    have e := wy_pv h1
    have lw := lWay hm_ h1
    refine ⟨by omega, ?_⟩
    simp only [e, cWay, VS, VZ, TY, openC, foldC, foldN, PF, pick_or, pick_and, aop, aopD, rdN, wrN, idL, idA, apure, AS.ev, startA, strip, abin, aint, astr, alen, aslice, optI, aconv, aconvM, gdv, AS.put, ofVal, pcells, ld, ldo, nOw, PV.isOw, gtmp, within, astore, splice, afill, allCells, okIdx, asrc, aflat, aappend, hintOk, PV.clo, PV.clo1, ofL_n, ofL_c, nams, reO, reP, reA, reC, srcI, setG, obG, List.cons.injEq, aeq1, aeqs, onG, Int.reduceLE, Int.reduceNeg, Int.reduceLT, Nat.reduceEqDiff, ↓reduceIte, Nat.reduceLT, Nat.reduceLeDiff, Nat.reduceAdd, Nat.reduceMul, Nat.reduceSub, reduceCtorEq, Int.reduceEq]
    refine AL.go (X := Nat) (fun k => ⟨ofL [(1, .bp [0] 0), (3, .mp [1]), (16, .cl 3 m.ways.length (lpv cWay m.ways)), (17, .int .i64 m.ways.length), (18, .int .i64 (i : Int)), (23, .cl 1 (wy m.ways i).nodes.length (lpv pInt64 (wy m.ways i).nodes)), (24, .int .i64 (wy m.ways i).nodes.length), (25, .int .i64 (k : Int))], ML [.box (cMap m), .map (setF (usedA m i ++ (wy m.ways i).nodes.take k))]⟩) (fun k => (wy m.ways i).nodes.length - k) (fun k => k ≤ (wy m.ways i).nodes.length) 0 (by simp)
      (Told_go hn [[0], [1]] tS (by simp [cMap, nl_Int64, obsT, obT, okO, okP, okA, okC, okD, okI, reP, reA, reC, srcI, Nl_nil, Nl_cons, PV.nl, upd_at, ofL_n, ofL_c, VS, argsT, lendA, lendL, lendT, Cvl_nil, Cvl_cons, Cv_bool, Cv_int, Cv_str, Cv_nils, Cv_nilc, Cv_cl, Cv_ow, noFn, PV.noF, NR_iff, NRO, hb, ares, ares1, ldo, ld, nOw, PV.isOw, TY]) (by simp [cMap, nl_Int64, obsT, obT, okO, okP, okA, okC, okD, okI, reP, reA, reC, srcI, Nl_nil, Nl_cons, PV.nl, upd_at, ofL_n, ofL_c, VS, argsT, lendA, lendL, lendT, Cvl_nil, Cvl_cons, Cv_bool, Cv_int, Cv_str, Cv_nils, Cv_nilc, Cv_cl, Cv_ow, noFn, PV.noF, NR_iff, NRO, hb, ares, ares1, ldo, ld, nOw, PV.isOw, TY])) (fun k hk => vc_ok _ _ _ ?_)
    simp only [hC, cMap, cWay, VS, VZ, TY, openC, foldC, foldN, PF, pick_or, pick_and, aop, aopD, rdN, wrN, idL, idA, apure, AS.ev, startA, strip, abin, aint, astr, alen, aslice, optI, aconv, aconvM, gdv, AS.put, ofVal, pcells, ld, ldo, nOw, PV.isOw, gtmp, within, astore, splice, afill, allCells, okIdx, asrc, aflat, aappend, hintOk, PV.clo, PV.clo1, ofL_n, ofL_c, nams, reO, reP, reA, reC, srcI, setG, obG, List.cons.injEq, aeq1, aeqs, onG, Int.reduceLE, Int.reduceNeg, Int.reduceLT, Nat.reduceEqDiff, ↓reduceIte, Nat.reduceLT, Nat.reduceLeDiff, Nat.reduceAdd, Nat.reduceMul, Nat.reduceSub, reduceCtorEq, Int.reduceEq]
    refine ⟨fun h3 => ?_, fun h3 => ?_⟩
    · have h3 : k < (wy m.ways i).nodes.length := by simpa using h3
      have ek := it_pv h3
      have et := take_id h3
      refine ⟨by omega, ?_⟩
      simp only [ek, pInt64, VS, VZ, TY, openC, foldC, foldN, PF, pick_or, pick_and, aop, aopD, rdN, wrN, idL, idA, apure, AS.ev, startA, strip, abin, aint, astr, alen, aslice, optI, aconv, aconvM, gdv, AS.put, ofVal, pcells, ld, ldo, nOw, PV.isOw, gtmp, within, astore, splice, afill, allCells, okIdx, asrc, aflat, aappend, hintOk, PV.clo, PV.clo1, ofL_n, ofL_c, nams, reO, reP, reA, reC, srcI, setG, obG, List.cons.injEq, aeq1, aeqs, onG, Int.reduceLE, Int.reduceNeg, Int.reduceLT, Nat.reduceEqDiff, ↓reduceIte, Nat.reduceLT, Nat.reduceLeDiff, Nat.reduceAdd, Nat.reduceMul, Nat.reduceSub, reduceCtorEq, Int.reduceEq]
      simp (disch := omega) only [wr64]
      refine ⟨k + 1, by omega, by omega, Told_go hn [[0], [1]] tS (by simp [setF_upd, et, cMap, obsT, obT, okO, okP, okA, okC, okD, okI, reP, reA, reC, srcI, Nl_nil, Nl_cons, PV.nl, upd_at, ofL_n, ofL_c, VS, argsT, lendA, lendL, lendT, Cvl_nil, Cvl_cons, Cv_bool, Cv_int, Cv_str, Cv_nils, Cv_nilc, Cv_cl, Cv_ow, noFn, PV.noF, NR_iff, NRO, hb, ares, ares1, ldo, ld, nOw, PV.isOw, TY]) (by simp [cMap, obsT, obT, okO, okP, okA, okC, okD, okI, reP, reA, reC, srcI, Nl_nil, Nl_cons, PV.nl, upd_at, ofL_n, ofL_c, VS, argsT, lendA, lendL, lendT, Cvl_nil, Cvl_cons, Cv_bool, Cv_int, Cv_str, Cv_nils, Cv_nilc, Cv_cl, Cv_ow, noFn, PV.noF, NR_iff, NRO, hb, ares, ares1, ldo, ld, nOw, PV.isOw, TY])⟩
    · have h3 : k = (wy m.ways i).nodes.length := by simp at h3; omega
      subst h3
      have us := usedA_step m h1
      rw [List.take_length]
      simp (disch := omega) only [wr64]
      exact ⟨i + 1, by omega, by omega, Told_go hn [[0], [1]] tS (by simp [us, cMap, obsT, obT, okO, okP, okA, okC, okD, okI, reP, reA, reC, srcI, Nl_nil, Nl_cons, PV.nl, upd_at, ofL_n, ofL_c, VS, argsT, lendA, lendL, lendT, Cvl_nil, Cvl_cons, Cv_bool, Cv_int, Cv_str, Cv_nils, Cv_nilc, Cv_cl, Cv_ow, noFn, PV.noF, NR_iff, NRO, hb, ares, ares1, ldo, ld, nOw, PV.isOw, TY]) (by simp [us, cMap, obsT, obT, okO, okP, okA, okC, okD, okI, reP, reA, reC, srcI, Nl_nil, Nl_cons, PV.nl, upd_at, ofL_n, ofL_c, VS, argsT, lendA, lendL, lendT, Cvl_nil, Cvl_cons, Cv_bool, Cv_int, Cv_str, Cv_nils, Cv_nilc, Cv_cl, Cv_ow, noFn, PV.noF, NR_iff, NRO, hb, ares, ares1, ldo, ld, nOw, PV.isOw, TY])⟩
  have hi2 : i = m.ways.length := by simp at h1; omega
  subst hi2
  have hU : unusedN m = unT m (usedA m m.ways.length) m.nodes.length := by simp [unusedN, h]
  rw [hU]
  generalize hu : usedA m m.ways.length = u
  refine AL.go (X := Nat) (fun i => ⟨ofL [(1, .bp [0] 0), (3, .mp [1]), (8, .bp [2] 0), (34, .cl 4 m.nodes.length (lpv cNode m.nodes)), (35, .int .i64 m.nodes.length), (36, .int .i64 (i : Int))], ML [.box (cMap m), .map (setF u), .box [.sl [3] 1 (unT m u i).length 0 (unT m u i).length], .row 1 (unT m u i).length (lpv pInt64 (unT m u i))]⟩) (fun i => m.nodes.length - i) (fun i => i ≤ m.nodes.length) 0 (by simp) ?_ (fun i hi => vc_ok _ _ _ ?_)
  · refine T_foldn [2] 0 0 1 ?_
    simp only [VS, VZ, TY, openC, foldC, foldN, PF, pick_or, pick_and, aop, aopD, rdN, wrN, idL, idA, apure, AS.ev, startA, strip, abin, aint, astr, alen, aslice, optI, aconv, aconvM, gdv, AS.put, ofVal, pcells, ld, ldo, nOw, PV.isOw, gtmp, within, astore, splice, afill, allCells, okIdx, asrc, aflat, aappend, hintOk, PV.clo, PV.clo1, ofL_n, ofL_c, nams, reO, reP, reA, reC, srcI, setG, obG, List.cons.injEq, aeq1, aeqs, onG, Int.reduceLE, Int.reduceNeg, Int.reduceLT, Nat.reduceEqDiff, ↓reduceIte, Nat.reduceLT, Nat.reduceLeDiff, Nat.reduceAdd, Nat.reduceMul, Nat.reduceSub, reduceCtorEq, Int.reduceEq]
    refine T_open [2] 0 0 ?_
    simp only [VS, VZ, TY, openC, foldC, foldN, PF, pick_or, pick_and, aop, aopD, rdN, wrN, idL, idA, apure, AS.ev, startA, strip, abin, aint, astr, alen, aslice, optI, aconv, aconvM, gdv, AS.put, ofVal, pcells, ld, ldo, nOw, PV.isOw, gtmp, within, astore, splice, afill, allCells, okIdx, asrc, aflat, aappend, hintOk, PV.clo, PV.clo1, ofL_n, ofL_c, nams, reO, reP, reA, reC, srcI, setG, obG, List.cons.injEq, aeq1, aeqs, onG, Int.reduceLE, Int.reduceNeg, Int.reduceLT, Nat.reduceEqDiff, ↓reduceIte, Nat.reduceLT, Nat.reduceLeDiff, Nat.reduceAdd, Nat.reduceMul, Nat.reduceSub, reduceCtorEq, Int.reduceEq]
    exact Told_go hn [[0], [1], [2], [3]] tS (by simp [unT, cMap, nl_Int64, obsT, obT, okO, okP, okA, okC, okD, okI, reP, reA, reC, srcI, Nl_nil, Nl_cons, PV.nl, upd_at, ofL_n, ofL_c, VS, argsT, lendA, lendL, lendT, Cvl_nil, Cvl_cons, Cv_bool, Cv_int, Cv_str, Cv_nils, Cv_nilc, Cv_cl, Cv_ow, noFn, PV.noF, NR_iff, NRO, hb, ares, ares1, ldo, ld, nOw, PV.isOw, TY]) (by simp [unT, cMap, nl_Int64, obsT, obT, okO, okP, okA, okC, okD, okI, reP, reA, reC, srcI, Nl_nil, Nl_cons, PV.nl, upd_at, ofL_n, ofL_c, VS, argsT, lendA, lendL, lendT, Cvl_nil, Cvl_cons, Cv_bool, Cv_int, Cv_str, Cv_nils, Cv_nilc, Cv_cl, Cv_ow, noFn, PV.noF, NR_iff, NRO, hb, ares, ares1, ldo, ld, nOw, PV.isOw, TY])
  have kl := unT_len m u i
  simp only [hC, cMap, VS, VZ, TY, openC, foldC, foldN, PF, pick_or, pick_and, aop, aopD, rdN, wrN, idL, idA, apure, AS.ev, startA, strip, abin, aint, astr, alen, aslice, optI, aconv, aconvM, gdv, AS.put, ofVal, pcells, ld, ldo, nOw, PV.isOw, gtmp, within, astore, splice, afill, allCells, okIdx, asrc, aflat, aappend, hintOk, PV.clo, PV.clo1, ofL_n, ofL_c, nams, reO, reP, reA, reC, srcI, setG, obG, List.cons.injEq, aeq1, aeqs, onG, Int.reduceLE, Int.reduceNeg, Int.reduceLT, Nat.reduceEqDiff, ↓reduceIte, Nat.reduceLT, Nat.reduceLeDiff, Nat.reduceAdd, Nat.reduceMul, Nat.reduceSub, reduceCtorEq, Int.reduceEq]
  refine ⟨fun h1 => ?_, fun h1 => ?_⟩
  · have h1 : i < m.nodes.length := by simpa using h1
    have e := nd_pv h1
    have us := unT_step m u h1
    simp only [e, cNode, setF_t, VS, VZ, TY, openC, foldC, foldN, PF, pick_or, pick_and, aop, aopD, rdN, wrN, idL, idA, apure, AS.ev, startA, strip, abin, aint, astr, alen, aslice, optI, aconv, aconvM, gdv, AS.put, ofVal, pcells, ld, ldo, nOw, PV.isOw, gtmp, within, astore, splice, afill, allCells, okIdx, asrc, aflat, aappend, hintOk, PV.clo, PV.clo1, ofL_n, ofL_c, nams, reO, reP, reA, reC, srcI, setG, obG, List.cons.injEq, aeq1, aeqs, onG, Int.reduceLE, Int.reduceNeg, Int.reduceLT, Nat.reduceEqDiff, ↓reduceIte, Nat.reduceLT, Nat.reduceLeDiff, Nat.reduceAdd, Nat.reduceMul, Nat.reduceSub, reduceCtorEq, Int.reduceEq]
    have hc : (decide (((nd m.nodes i).tags.length : Int) = 0) && !decide ((nd m.nodes i).id ∈ u)) = uB u (nd m.nodes i) := by
      simp only [uB]
      rw [show decide (((nd m.nodes i).tags.length : Int) = 0) = decide ((nd m.nodes i).tags.length = 0) by rw [decide_eq_decide]; omega]
    rw [hc]
    simp (disch := omega) only [wr64]
    refine ⟨by omega, fun h2 => ?_, fun h2 => ?_⟩
    · rw [if_pos h2] at us
      refine ⟨by omega, fun j hj => by obtain rfl : j = 0 := (by omega); simp, i + 1, by omega, by omega, Told_go hn [[0], [1], [2], [6]] (by simp [us, obsT, obT, okO, okP, okA, okC, okD, okI, reP, reA, reC, srcI, Nl_nil, Nl_cons, PV.nl, upd_at, ofL_n, ofL_c, VS, argsT, lendA, lendL, lendT, Cvl_nil, Cvl_cons, Cv_bool, Cv_int, Cv_str, Cv_nils, Cv_nilc, Cv_cl, Cv_ow, noFn, PV.noF, NR_iff, NRO, hb, ares, ares1, ldo, ld, nOw, PV.isOw, TY]) ?_ (by simp [cMap, nl_Int64, obsT, obT, okO, okP, okA, okC, okD, okI, reP, reA, reC, srcI, Nl_nil, Nl_cons, PV.nl, upd_at, ofL_n, ofL_c, VS, argsT, lendA, lendL, lendT, Cvl_nil, Cvl_cons, Cv_bool, Cv_int, Cv_str, Cv_nils, Cv_nilc, Cv_cl, Cv_ow, noFn, PV.noF, NR_iff, NRO, hb, ares, ares1, ldo, ld, nOw, PV.isOw, TY])⟩
      simp only [us, obsT, obT, cMap, List.length_append, List.length_cons, List.length_nil, VS, VZ, TY, openC, foldC, foldN, PF, pick_or, pick_and, aop, aopD, rdN, wrN, idL, idA, apure, AS.ev, startA, strip, abin, aint, astr, alen, aslice, optI, aconv, aconvM, gdv, AS.put, ofVal, pcells, ld, ldo, nOw, PV.isOw, gtmp, within, astore, splice, afill, allCells, okIdx, asrc, aflat, aappend, hintOk, PV.clo, PV.clo1, ofL_n, ofL_c, nams, reO, reP, reA, reC, srcI, setG, obG, List.cons.injEq, aeq1, aeqs, onG, Int.reduceLE, Int.reduceNeg, Int.reduceLT, Nat.reduceEqDiff, ↓reduceIte, Nat.reduceLT, Nat.reduceLeDiff, Nat.reduceAdd, Nat.reduceMul, Nat.reduceSub, reduceCtorEq, Int.reduceEq]
      refine fun j hj => ⟨?_, by simp [nl_Int64]⟩
      have := lpv_app (pv := pInt64) (L := unT m u i) (x := (nd m.nodes i).id) hj
      simpa [pInt64] using this
    · rw [if_neg (by simp [h2]), List.append_nil] at us
      exact ⟨i + 1, by omega, by omega, Told_go hn [[0], [1], [2], [3]] (by simp [us, obsT, obT, okO, okP, okA, okC, okD, okI, reP, reA, reC, srcI, Nl_nil, Nl_cons, PV.nl, upd_at, ofL_n, ofL_c, VS, argsT, lendA, lendL, lendT, Cvl_nil, Cvl_cons, Cv_bool, Cv_int, Cv_str, Cv_nils, Cv_nilc, Cv_cl, Cv_ow, noFn, PV.noF, NR_iff, NRO, hb, ares, ares1, ldo, ld, nOw, PV.isOw, TY]) (by simp [us, cMap, nl_Int64, obsT, obT, okO, okP, okA, okC, okD, okI, reP, reA, reC, srcI, Nl_nil, Nl_cons, PV.nl, upd_at, ofL_n, ofL_c, VS, argsT, lendA, lendL, lendT, Cvl_nil, Cvl_cons, Cv_bool, Cv_int, Cv_str, Cv_nils, Cv_nilc, Cv_cl, Cv_ow, noFn, PV.noF, NR_iff, NRO, hb, ares, ares1, ldo, ld, nOw, PV.isOw, TY]) (by simp [us, cMap, nl_Int64, obsT, obT, okO, okP, okA, okC, okD, okI, reP, reA, reC, srcI, Nl_nil, Nl_cons, PV.nl, upd_at, ofL_n, ofL_c, VS, argsT, lendA, lendL, lendT, Cvl_nil, Cvl_cons, Cv_bool, Cv_int, Cv_str, Cv_nils, Cv_nilc, Cv_cl, Cv_ow, noFn, PV.noF, NR_iff, NRO, hb, ares, ares1, ldo, ld, nOw, PV.isOw, TY])⟩
  · have : i = m.nodes.length := by simp at h1; omega
    subst this
    refine .inr ⟨rfl, rfl, _, acy_sort (unT m u m.nodes.length) (by omega) (unT_sorted hs u _) _ [3] [2] (by simp only [VS, VZ, TY, openC, foldC, foldN, PF, pick_or, pick_and, aop, aopD, rdN, wrN, idL, idA, apure, AS.ev, startA, strip, abin, aint, astr, alen, aslice, optI, aconv, aconvM, gdv, AS.put, ofVal, pcells, ld, ldo, nOw, PV.isOw, gtmp, within, astore, splice, afill, allCells, okIdx, asrc, aflat, aappend, hintOk, PV.clo, PV.clo1, ofL_n, ofL_c, nams, reO, reP, reA, reC, srcI, setG, obG, List.cons.injEq, aeq1, aeqs, onG, Int.reduceLE, Int.reduceNeg, Int.reduceLT, Nat.reduceEqDiff, ↓reduceIte, Nat.reduceLT, Nat.reduceLeDiff, Nat.reduceAdd, Nat.reduceMul, Nat.reduceSub, reduceCtorEq, Int.reduceEq]) (by simp only [VS, VZ, TY, openC, foldC, foldN, PF, pick_or, pick_and, aop, aopD, rdN, wrN, idL, idA, apure, AS.ev, startA, strip, abin, aint, astr, alen, aslice, optI, aconv, aconvM, gdv, AS.put, ofVal, pcells, ld, ldo, nOw, PV.isOw, gtmp, within, astore, splice, afill, allCells, okIdx, asrc, aflat, aappend, hintOk, PV.clo, PV.clo1, ofL_n, ofL_c, nams, reO, reP, reA, reC, srcI, setG, obG, List.cons.injEq, aeq1, aeqs, onG, Int.reduceLE, Int.reduceNeg, Int.reduceLT, Nat.reduceEqDiff, ↓reduceIte, Nat.reduceLT, Nat.reduceLeDiff, Nat.reduceAdd, Nat.reduceMul, Nat.reduceSub, reduceCtorEq, Int.reduceEq]) (by simp), fun r m' hr => ?_⟩
    obtain ⟨rfl, rfl⟩ := hr
    simp only [hC, cMap, VS, VZ, TY, openC, foldC, foldN, PF, pick_or, pick_and, aop, aopD, rdN, wrN, idL, idA, apure, AS.ev, startA, strip, abin, aint, astr, alen, aslice, optI, aconv, aconvM, gdv, AS.put, ofVal, pcells, ld, ldo, nOw, PV.isOw, gtmp, within, astore, splice, afill, allCells, okIdx, asrc, aflat, aappend, hintOk, PV.clo, PV.clo1, ofL_n, ofL_c, nams, reO, reP, reA, reC, srcI, setG, obG, List.cons.injEq, aeq1, aeqs, onG, Int.reduceLE, Int.reduceNeg, Int.reduceLT, Nat.reduceEqDiff, ↓reduceIte, Nat.reduceLT, Nat.reduceLeDiff, Nat.reduceAdd, Nat.reduceMul, Nat.reduceSub, reduceCtorEq, Int.reduceEq]
    exact Ret_go [[3]] tS (by simp [nl_Int64, obsT, obT, okO, okP, okA, okC, okD, okI, reP, reA, reC, srcI, Nl_nil, Nl_cons, PV.nl, upd_at, ofL_n, ofL_c, VS, argsT, lendA, lendL, lendT, Cvl_nil, Cvl_cons, Cv_bool, Cv_int, Cv_str, Cv_nils, Cv_nilc, Cv_cl, Cv_ow, noFn, PV.noF, NR_iff, NRO, hb, ares, ares1, ldo, ld, nOw, PV.isOw, TY]) (by simp [nl_Int64, obsT, obT, okO, okP, okA, okC, okD, okI, reP, reA, reC, srcI, Nl_nil, Nl_cons, PV.nl, upd_at, ofL_n, ofL_c, VS, argsT, lendA, lendL, lendT, Cvl_nil, Cvl_cons, Cv_bool, Cv_int, Cv_str, Cv_nils, Cv_nilc, Cv_cl, Cv_ow, noFn, PV.noF, NR_iff, NRO, hb, ares, ares1, ldo, ld, nOw, PV.isOw, TY])
end Go.Proofs.Ytppfogbgbpadiaa.Wd
namespace Go.Proofs.Ytppfogbgbpadiaa.Wd
open Go Go.RowKit Go.Proofs Go.Proofs.YtppfogbgbpadiaaW.AW
set_option linter.unusedVariables false
set_option linter.unusedSimpArgs false
set_option maxRecDepth 100000
--LS cv_Tag, cv_Node, cv_Way, cv_Area, cv_Int64, cv_Part, nl_Node, nl_Way, nl_Area, nr_Node, nr_Way, nr_Area, mkNodeS_len, mkWayS_len, mkAreaS_len
def cntMap (m : Mp) : Nat := cntNodeS m.nodes + cntWayS m.ways + cntAreaS m.areas
theorem c_markMap (m : Mp) (k : Int) (hk0 : 0 ≤ k) (hk : k + (cntMap m : Nat) ≤ 4611686018427387904) :
    AC Try.prog 22 [.ag [.sl [0] 4 m.nodes.length 0 m.nodes.length, .sl [1] 3 m.ways.length 0 m.ways.length, .sl [2] 3 m.areas.length 0 m.areas.length], .int .i64 k] (ML [.row 4 m.nodes.length (lpv oNode m.nodes), .row 3 m.ways.length (lpv oWay m.ways), .row 3 m.areas.length (lpv oArea m.areas)])
      (.int .i64 (k + (cntMap m : Nat))) (ML [.row 4 m.nodes.length (lpv oNode (mkNodeS k m.nodes)), .row 3 m.ways.length (lpv oWay (mkWayS (k + (cntNodeS m.nodes : Nat)) m.ways)), .row 3 m.areas.length (lpv oArea (mkAreaS (k + (cntNodeS m.nodes : Nat) + (cntWayS m.ways : Nat)) m.areas))]) := by
  unfold cntMap at hk ⊢
  refine AC.ofA Try.func22 rfl rfl (by simp [Try.ntmps22]) rfl (fun C hC hm => ?_)
  rw [Try.ntmps22] at hC
  have hn : C.m0.nx = _ := congrArg Mem.nx hm
  simp only [ML_nx, List.length_nil, List.length_cons, Nat.zero_add, Nat.reduceAdd] at hn
  refine vc_ok _ _ _ ?_
  simp only [hC, VS, VZ, TY, openC, foldC, foldN, PF, pick_or, pick_and, aop, aopD, rdN, wrN, idL, idA, apure, AS.ev, startA, strip, abin, aint, astr, alen, aslice, optI, aconv, aconvM, gdv, AS.put, ofVal, pcells, ld, ldo, nOw, PV.isOw, gtmp, within, astore, splice, afill, allCells, okIdx, asrc, aflat, aappend, hintOk, PV.clo, PV.clo1, ofL_n, ofL_c, nams, reO, reP, reA, reC, srcI, setG, obG, List.cons.injEq, aeq1, aeqs, onG, Int.reduceLE, Int.reduceNeg, Int.reduceLT, Nat.reduceEqDiff, ↓reduceIte, Nat.reduceLT, Nat.reduceLeDiff, Nat.reduceAdd, Nat.reduceMul, Nat.reduceSub, reduceCtorEq, Int.reduceEq]
  refine acall_go true [[0]] (c_markNodeS m.nodes k (by omega) (by omega)) (by simp [cv_Tag, cv_Node, cv_Way, cv_Area, cv_Int64, cv_Part, nl_Node, nl_Way, nl_Area, nr_Node, nr_Way, nr_Area, mkNodeS_len, mkWayS_len, mkAreaS_len, obsT, obT, okO, okP, okA, okC, okD, okI, reP, reA, reC, srcI, Nl_nil, Nl_cons, PV.nl, upd_at, ofL_n, ofL_c, VS, argsT, lendA, lendL, lendT, Cvl_nil, Cvl_cons, Cv_bool, Cv_int, Cv_str, Cv_nils, Cv_nilc, Cv_cl, Cv_ow, noFn, PV.noF, NR_iff, NRO, hb, ares, ares1, ldo, ld, nOw, PV.isOw, TY]) (by simp [cv_Tag, cv_Node, cv_Way, cv_Area, cv_Int64, cv_Part, nl_Node, nl_Way, nl_Area, nr_Node, nr_Way, nr_Area, mkNodeS_len, mkWayS_len, mkAreaS_len, obsT, obT, okO, okP, okA, okC, okD, okI, reP, reA, reC, srcI, Nl_nil, Nl_cons, PV.nl, upd_at, ofL_n, ofL_c, VS, argsT, lendA, lendL, lendT, Cvl_nil, Cvl_cons, Cv_bool, Cv_int, Cv_str, Cv_nils, Cv_nilc, Cv_cl, Cv_ow, noFn, PV.noF, NR_iff, NRO, hb, ares, ares1, ldo, ld, nOw, PV.isOw, TY]) (by simp [cv_Tag, cv_Node, cv_Way, cv_Area, cv_Int64, cv_Part, nl_Node, nl_Way, nl_Area, nr_Node, nr_Way, nr_Area, mkNodeS_len, mkWayS_len, mkAreaS_len, obsT, obT, okO, okP, okA, okC, okD, okI, reP, reA, reC, srcI, Nl_nil, Nl_cons, PV.nl, upd_at, ofL_n, ofL_c, VS, argsT, lendA, lendL, lendT, Cvl_nil, Cvl_cons, Cv_bool, Cv_int, Cv_str, Cv_nils, Cv_nilc, Cv_cl, Cv_ow, noFn, PV.noF, NR_iff, NRO, hb, ares, ares1, ldo, ld, nOw, PV.isOw, TY]) tS tS (by simp [cv_Tag, cv_Node, cv_Way, cv_Area, cv_Int64, cv_Part, nl_Node, nl_Way, nl_Area, nr_Node, nr_Way, nr_Area, mkNodeS_len, mkWayS_len, mkAreaS_len, obsT, obT, okO, okP, okA, okC, okD, okI, reP, reA, reC, srcI, Nl_nil, Nl_cons, PV.nl, upd_at, ofL_n, ofL_c, VS, argsT, lendA, lendL, lendT, Cvl_nil, Cvl_cons, Cv_bool, Cv_int, Cv_str, Cv_nils, Cv_nilc, Cv_cl, Cv_ow, noFn, PV.noF, NR_iff, NRO, hb, ares, ares1, ldo, ld, nOw, PV.isOw, TY]) (.inr ⟨by simp [obsT, obT, okO, okP, okA, okC, okD, okI, reP, reA, reC, srcI, Nl_nil, Nl_cons, PV.nl, upd_at, ofL_n, ofL_c, VS, argsT, lendA, lendL, lendT, Cvl_nil, Cvl_cons, Cv_bool, Cv_int, Cv_str, Cv_nils, Cv_nilc, Cv_cl, Cv_ow, noFn, PV.noF, NR_iff, NRO, hb, ares, ares1, ldo, ld, nOw, PV.isOw, TY], by simp [cv_Tag, cv_Node, cv_Way, cv_Area, cv_Int64, cv_Part, nl_Node, nl_Way, nl_Area, nr_Node, nr_Way, nr_Area, mkNodeS_len, mkWayS_len, mkAreaS_len, obsT, obT, okO, okP, okA, okC, okD, okI, reP, reA, reC, srcI, Nl_nil, Nl_cons, PV.nl, upd_at, ofL_n, ofL_c, VS, argsT, lendA, lendL, lendT, Cvl_nil, Cvl_cons, Cv_bool, Cv_int, Cv_str, Cv_nils, Cv_nilc, Cv_cl, Cv_ow, noFn, PV.noF, NR_iff, NRO, hb, ares, ares1, ldo, ld, nOw, PV.isOw, TY]⟩) ?_
  simp only [hC, VS, VZ, TY, openC, foldC, foldN, PF, pick_or, pick_and, aop, aopD, rdN, wrN, idL, idA, apure, AS.ev, startA, strip, abin, aint, astr, alen, aslice, optI, aconv, aconvM, gdv, AS.put, ofVal, pcells, ld, ldo, nOw, PV.isOw, gtmp, within, astore, splice, afill, allCells, okIdx, asrc, aflat, aappend, hintOk, PV.clo, PV.clo1, ofL_n, ofL_c, nams, reO, reP, reA, reC, srcI, setG, obG, List.cons.injEq, aeq1, aeqs, onG, Int.reduceLE, Int.reduceNeg, Int.reduceLT, Nat.reduceEqDiff, ↓reduceIte, Nat.reduceLT, Nat.reduceLeDiff, Nat.reduceAdd, Nat.reduceMul, Nat.reduceSub, reduceCtorEq, Int.reduceEq]
  refine acall_go true [[1]] (c_markWayS m.ways (k + (cntNodeS m.nodes : Nat)) (by omega) (by omega)) (by simp [cv_Tag, cv_Node, cv_Way, cv_Area, cv_Int64, cv_Part, nl_Node, nl_Way, nl_Area, nr_Node, nr_Way, nr_Area, mkNodeS_len, mkWayS_len, mkAreaS_len, obsT, obT, okO, okP, okA, okC, okD, okI, reP, reA, reC, srcI, Nl_nil, Nl_cons, PV.nl, upd_at, ofL_n, ofL_c, VS, argsT, lendA, lendL, lendT, Cvl_nil, Cvl_cons, Cv_bool, Cv_int, Cv_str, Cv_nils, Cv_nilc, Cv_cl, Cv_ow, noFn, PV.noF, NR_iff, NRO, hb, ares, ares1, ldo, ld, nOw, PV.isOw, TY]) (by simp [cv_Tag, cv_Node, cv_Way, cv_Area, cv_Int64, cv_Part, nl_Node, nl_Way, nl_Area, nr_Node, nr_Way, nr_Area, mkNodeS_len, mkWayS_len, mkAreaS_len, obsT, obT, okO, okP, okA, okC, okD, okI, reP, reA, reC, srcI, Nl_nil, Nl_cons, PV.nl, upd_at, ofL_n, ofL_c, VS, argsT, lendA, lendL, lendT, Cvl_nil, Cvl_cons, Cv_bool, Cv_int, Cv_str, Cv_nils, Cv_nilc, Cv_cl, Cv_ow, noFn, PV.noF, NR_iff, NRO, hb, ares, ares1, ldo, ld, nOw, PV.isOw, TY]) (by simp [cv_Tag, cv_Node, cv_Way, cv_Area, cv_Int64, cv_Part, nl_Node, nl_Way, nl_Area, nr_Node, nr_Way, nr_Area, mkNodeS_len, mkWayS_len, mkAreaS_len, obsT, obT, okO, okP, okA, okC, okD, okI, reP, reA, reC, srcI, Nl_nil, Nl_cons, PV.nl, upd_at, ofL_n, ofL_c, VS, argsT, lendA, lendL, lendT, Cvl_nil, Cvl_cons, Cv_bool, Cv_int, Cv_str, Cv_nils, Cv_nilc, Cv_cl, Cv_ow, noFn, PV.noF, NR_iff, NRO, hb, ares, ares1, ldo, ld, nOw, PV.isOw, TY]) tS tS (by simp [cv_Tag, cv_Node, cv_Way, cv_Area, cv_Int64, cv_Part, nl_Node, nl_Way, nl_Area, nr_Node, nr_Way, nr_Area, mkNodeS_len, mkWayS_len, mkAreaS_len, obsT, obT, okO, okP, okA, okC, okD, okI, reP, reA, reC, srcI, Nl_nil, Nl_cons, PV.nl, upd_at, ofL_n, ofL_c, VS, argsT, lendA, lendL, lendT, Cvl_nil, Cvl_cons, Cv_bool, Cv_int, Cv_str, Cv_nils, Cv_nilc, Cv_cl, Cv_ow, noFn, PV.noF, NR_iff, NRO, hb, ares, ares1, ldo, ld, nOw, PV.isOw, TY]) (.inr ⟨by simp [obsT, obT, okO, okP, okA, okC, okD, okI, reP, reA, reC, srcI, Nl_nil, Nl_cons, PV.nl, upd_at, ofL_n, ofL_c, VS, argsT, lendA, lendL, lendT, Cvl_nil, Cvl_cons, Cv_bool, Cv_int, Cv_str, Cv_nils, Cv_nilc, Cv_cl, Cv_ow, noFn, PV.noF, NR_iff, NRO, hb, ares, ares1, ldo, ld, nOw, PV.isOw, TY], by simp [cv_Tag, cv_Node, cv_Way, cv_Area, cv_Int64, cv_Part, nl_Node, nl_Way, nl_Area, nr_Node, nr_Way, nr_Area, mkNodeS_len, mkWayS_len, mkAreaS_len, obsT, obT, okO, okP, okA, okC, okD, okI, reP, reA, reC, srcI, Nl_nil, Nl_cons, PV.nl, upd_at, ofL_n, ofL_c, VS, argsT, lendA, lendL, lendT, Cvl_nil, Cvl_cons, Cv_bool, Cv_int, Cv_str, Cv_nils, Cv_nilc, Cv_cl, Cv_ow, noFn, PV.noF, NR_iff, NRO, hb, ares, ares1, ldo, ld, nOw, PV.isOw, TY]⟩) ?_
  simp only [hC, VS, VZ, TY, openC, foldC, foldN, PF, pick_or, pick_and, aop, aopD, rdN, wrN, idL, idA, apure, AS.ev, startA, strip, abin, aint, astr, alen, aslice, optI, aconv, aconvM, gdv, AS.put, ofVal, pcells, ld, ldo, nOw, PV.isOw, gtmp, within, astore, splice, afill, allCells, okIdx, asrc, aflat, aappend, hintOk, PV.clo, PV.clo1, ofL_n, ofL_c, nams, reO, reP, reA, reC, srcI, setG, obG, List.cons.injEq, aeq1, aeqs, onG, Int.reduceLE, Int.reduceNeg, Int.reduceLT, Nat.reduceEqDiff, ↓reduceIte, Nat.reduceLT, Nat.reduceLeDiff, Nat.reduceAdd, Nat.reduceMul, Nat.reduceSub, reduceCtorEq, Int.reduceEq]
  refine acall_go true [[2]] (c_markAreaS m.areas (k + (cntNodeS m.nodes : Nat) + (cntWayS m.ways : Nat)) (by omega) (by omega)) (by simp [cv_Tag, cv_Node, cv_Way, cv_Area, cv_Int64, cv_Part, nl_Node, nl_Way, nl_Area, nr_Node, nr_Way, nr_Area, mkNodeS_len, mkWayS_len, mkAreaS_len, obsT, obT, okO, okP, okA, okC, okD, okI, reP, reA, reC, srcI, Nl_nil, Nl_cons, PV.nl, upd_at, ofL_n, ofL_c, VS, argsT, lendA, lendL, lendT, Cvl_nil, Cvl_cons, Cv_bool, Cv_int, Cv_str, Cv_nils, Cv_nilc, Cv_cl, Cv_ow, noFn, PV.noF, NR_iff, NRO, hb, ares, ares1, ldo, ld, nOw, PV.isOw, TY]) (by simp [cv_Tag, cv_Node, cv_Way, cv_Area, cv_Int64, cv_Part, nl_Node, nl_Way, nl_Area, nr_Node, nr_Way, nr_Area, mkNodeS_len, mkWayS_len, mkAreaS_len, obsT, obT, okO, okP, okA, okC, okD, okI, reP, reA, reC, srcI, Nl_nil, Nl_cons, PV.nl, upd_at, ofL_n, ofL_c, VS, argsT, lendA, lendL, lendT, Cvl_nil, Cvl_cons, Cv_bool, Cv_int, Cv_str, Cv_nils, Cv_nilc, Cv_cl, Cv_ow, noFn, PV.noF, NR_iff, NRO, hb, ares, ares1, ldo, ld, nOw, PV.isOw, TY]) (by simp [cv_Tag, cv_Node, cv_Way, cv_Area, cv_Int64, cv_Part, nl_Node, nl_Way, nl_Area, nr_Node, nr_Way, nr_Area, mkNodeS_len, mkWayS_len, mkAreaS_len, obsT, obT, okO, okP, okA, okC, okD, okI, reP, reA, reC, srcI, Nl_nil, Nl_cons, PV.nl, upd_at, ofL_n, ofL_c, VS, argsT, lendA, lendL, lendT, Cvl_nil, Cvl_cons, Cv_bool, Cv_int, Cv_str, Cv_nils, Cv_nilc, Cv_cl, Cv_ow, noFn, PV.noF, NR_iff, NRO, hb, ares, ares1, ldo, ld, nOw, PV.isOw, TY]) tS tS (by simp [cv_Tag, cv_Node, cv_Way, cv_Area, cv_Int64, cv_Part, nl_Node, nl_Way, nl_Area, nr_Node, nr_Way, nr_Area, mkNodeS_len, mkWayS_len, mkAreaS_len, obsT, obT, okO, okP, okA, okC, okD, okI, reP, reA, reC, srcI, Nl_nil, Nl_cons, PV.nl, upd_at, ofL_n, ofL_c, VS, argsT, lendA, lendL, lendT, Cvl_nil, Cvl_cons, Cv_bool, Cv_int, Cv_str, Cv_nils, Cv_nilc, Cv_cl, Cv_ow, noFn, PV.noF, NR_iff, NRO, hb, ares, ares1, ldo, ld, nOw, PV.isOw, TY]) (.inr ⟨by simp [obsT, obT, okO, okP, okA, okC, okD, okI, reP, reA, reC, srcI, Nl_nil, Nl_cons, PV.nl, upd_at, ofL_n, ofL_c, VS, argsT, lendA, lendL, lendT, Cvl_nil, Cvl_cons, Cv_bool, Cv_int, Cv_str, Cv_nils, Cv_nilc, Cv_cl, Cv_ow, noFn, PV.noF, NR_iff, NRO, hb, ares, ares1, ldo, ld, nOw, PV.isOw, TY], by simp [cv_Tag, cv_Node, cv_Way, cv_Area, cv_Int64, cv_Part, nl_Node, nl_Way, nl_Area, nr_Node, nr_Way, nr_Area, mkNodeS_len, mkWayS_len, mkAreaS_len, obsT, obT, okO, okP, okA, okC, okD, okI, reP, reA, reC, srcI, Nl_nil, Nl_cons, PV.nl, upd_at, ofL_n, ofL_c, VS, argsT, lendA, lendL, lendT, Cvl_nil, Cvl_cons, Cv_bool, Cv_int, Cv_str, Cv_nils, Cv_nilc, Cv_cl, Cv_ow, noFn, PV.noF, NR_iff, NRO, hb, ares, ares1, ldo, ld, nOw, PV.isOw, TY]⟩) ?_
  simp only [hC, VS, VZ, TY, openC, foldC, foldN, PF, pick_or, pick_and, aop, aopD, rdN, wrN, idL, idA, apure, AS.ev, startA, strip, abin, aint, astr, alen, aslice, optI, aconv, aconvM, gdv, AS.put, ofVal, pcells, ld, ldo, nOw, PV.isOw, gtmp, within, astore, splice, afill, allCells, okIdx, asrc, aflat, aappend, hintOk, PV.clo, PV.clo1, ofL_n, ofL_c, nams, reO, reP, reA, reC, srcI, setG, obG, List.cons.injEq, aeq1, aeqs, onG, Int.reduceLE, Int.reduceNeg, Int.reduceLT, Nat.reduceEqDiff, ↓reduceIte, Nat.reduceLT, Nat.reduceLeDiff, Nat.reduceAdd, Nat.reduceMul, Nat.reduceSub, reduceCtorEq, Int.reduceEq]
  exact Ret_go [[0], [1], [2]] (by simp [obsT, obT, okO, okP, okA, okC, okD, okI, reP, reA, reC, srcI, Nl_nil, Nl_cons, PV.nl, upd_at, ofL_n, ofL_c, VS, argsT, lendA, lendL, lendT, Cvl_nil, Cvl_cons, Cv_bool, Cv_int, Cv_str, Cv_nils, Cv_nilc, Cv_cl, Cv_ow, noFn, PV.noF, NR_iff, NRO, hb, ares, ares1, ldo, ld, nOw, PV.isOw, TY] <;> omega) (by simp [nl_Node, nl_Way, nl_Area, obsT, obT, okO, okP, okA, okC, okD, okI, reP, reA, reC, srcI, Nl_nil, Nl_cons, PV.nl, upd_at, ofL_n, ofL_c, VS, argsT, lendA, lendL, lendT, Cvl_nil, Cvl_cons, Cv_bool, Cv_int, Cv_str, Cv_nils, Cv_nilc, Cv_cl, Cv_ow, noFn, PV.noF, NR_iff, NRO, hb, ares, ares1, ldo, ld, nOw, PV.isOw, TY]) (by simp [nl_Node, nl_Way, nl_Area, obsT, obT, okO, okP, okA, okC, okD, okI, reP, reA, reC, srcI, Nl_nil, Nl_cons, PV.nl, upd_at, ofL_n, ofL_c, VS, argsT, lendA, lendL, lendT, Cvl_nil, Cvl_cons, Cv_bool, Cv_int, Cv_str, Cv_nils, Cv_nilc, Cv_cl, Cv_ow, noFn, PV.noF, NR_iff, NRO, hb, ares, ares1, ldo, ld, nOw, PV.isOw, TY])
end Go.Proofs.Ytppfogbgbpadiaa.Wd
namespace Go.Proofs.Ytppfogbgbpadiaa.Wd
open Go Go.RowKit Go.Proofs Go.Proofs.YtppfogbgbpadiaaW.AW
set_option linter.unusedVariables false
set_option linter.unusedSimpArgs false
set_option maxRecDepth 100000
theorem sum_mem {α : Type} (f : α → Nat) : ∀ (l : List α) (x : α), x ∈ l → f x ≤ (l.map f).sum
  | y :: l, x, h => by
    simp only [List.map_cons, List.sum_cons]
    rcases List.mem_cons.1 h with rfl | h
    · omega
    · have := sum_mem f l x h; omega
theorem tagS_b {L : List Tg} (h : totTagS L ≤ 1048576) : L.length ≤ 1048576 := by unfold totTagS at h; omega
theorem map_b {m : Mp} (h : totMap m ≤ 1048576) : bMap m := by
  unfold totMap totNodeS totWayS totAreaS at h
  refine ⟨by omega, fun x hx => ?_, by omega, fun x hx => ?_, by omega, fun x hx => ?_⟩
  · have h1 := sum_mem totNode m.nodes x hx
    have : totNode x = totTagS x.tags := rfl
    exact tagS_b (by omega)
  · have h1 := sum_mem totWay m.ways x hx
    have : totWay x = totInt64S x.nodes + totTagS x.tags := rfl
    have h2 : totInt64S x.nodes = x.nodes.length := rfl
    exact ⟨by omega, tagS_b (by omega)⟩
  · have h1 := sum_mem totArea m.areas x hx
    have : totArea x = totPartS x.parts + totTagS x.tags := rfl
    have h2 : totPartS x.parts = x.parts.length := rfl
    exact ⟨by omega, tagS_b (by omega)⟩
theorem wTags_of {L : List Tg} (h : wTagS L) : wTags L := fun x hx => h.2 x hx
theorem map_l {m : Mp} (h : totMap m ≤ 1048576) (hw : wMap m) : lMap m :=
  ⟨map_b h, fun x hx => wTags_of (hw.1.2 x hx), fun x hx => wTags_of (hw.2.1.2 x hx).2, fun x hx => wTags_of (hw.2.2.2 x hx).2⟩
end Go.Proofs.Ytppfogbgbpadiaa.Wd
namespace Go.Proofs.Ytppfogbgbpadiaa.Wd
open Go Go.RowKit Go.Proofs Go.Proofs.YtppfogbgbpadiaaW.AW
set_option linter.unusedVariables false
set_option linter.unusedSimpArgs false
set_option maxRecDepth 100000
theorem cnt_tags (l : List Tg) : cntTagS l = 2 * l.length := by
  induction l with
  | nil => rfl
  | cons x l ih => simp only [cntTagS, ih, List.length_cons]; have : cntTag x = 2 := rfl; omega
theorem cnt_ints (l : List Int) : cntInt64S l = l.length := by
  induction l with
  | nil => rfl
  | cons x l ih => simp only [cntInt64S, ih, List.length_cons]; have : cntInt64 x = 1 := rfl; omega
theorem cnt_parts (l : List Pr) : cntPartS l = 2 * l.length := by
  induction l with
  | nil => rfl
  | cons x l ih => simp only [cntPartS, ih, List.length_cons]; have : cntPart x = 2 := rfl; omega
theorem tags_le (l : List Tg) : l.length ≤ totTagS l := by unfold totTagS; omega
theorem cnt_nodes (l : List Nd) : cntNodeS l ≤ 3 * totNodeS l := by
  induction l with
  | nil => simp [cntNodeS]
  | cons x l ih =>
    have h1 : totNodeS (x :: l) = 1 + totNode x + totNodeS l := by simp [totNodeS]; omega
    have h2 : cntNodeS (x :: l) = cntNode x + cntNodeS l := rfl
    have h3 : cntNode x = 3 + cntTagS x.tags := rfl
    have h4 : totNode x = totTagS x.tags := rfl
    have := cnt_tags x.tags
    have := tags_le x.tags
    omega
theorem cnt_ways (l : List Wy) : cntWayS l ≤ 3 * totWayS l := by
  induction l with
  | nil => simp [cntWayS]
  | cons x l ih =>
    have h1 : totWayS (x :: l) = 1 + totWay x + totWayS l := by simp [totWayS]; omega
    have h2 : cntWayS (x :: l) = cntWay x + cntWayS l := rfl
    have h3 : cntWay x = 1 + cntInt64S x.nodes + cntTagS x.tags := rfl
    have h4 : totWay x = totInt64S x.nodes + totTagS x.tags := rfl
    have h5 : totInt64S x.nodes = x.nodes.length := rfl
    have := cnt_tags x.tags
    have := cnt_ints x.nodes
    have := tags_le x.tags
    omega
theorem cnt_areas (l : List Ar) : cntAreaS l ≤ 3 * totAreaS l := by
  induction l with
  | nil => simp [cntAreaS]
  | cons x l ih =>
    have h1 : totAreaS (x :: l) = 1 + totArea x + totAreaS l := by simp [totAreaS]; omega
    have h2 : cntAreaS (x :: l) = cntArea x + cntAreaS l := rfl
    have h3 : cntArea x = 1 + cntPartS x.parts + cntTagS x.tags := rfl
    have h4 : totArea x = totPartS x.parts + totTagS x.tags := rfl
    have h5 : totPartS x.parts = x.parts.length := rfl
    have := cnt_tags x.tags
    have := cnt_parts x.parts
    have := tags_le x.tags
    omega
theorem cnt_map {m : Mp} (h : totMap m ≤ 1048576) : cntMap m ≤ 3145728 := by
  have h1 := cnt_nodes m.nodes
  have h2 := cnt_ways m.ways
  have h3 := cnt_areas m.areas
  unfold totMap at h
  unfold cntMap
  omega
end Go.Proofs.Ytppfogbgbpadiaa.Wd
namespace Go.Proofs.Ytppfogbgbpadiaa.Wd
open Go Go.RowKit Go.Proofs Go.Proofs.YtppfogbgbpadiaaW.AW
set_option linter.unusedVariables false
set_option linter.unusedSimpArgs false
set_option maxRecDepth 100000
--LS cv_Tag, cv_Node, cv_Way, cv_Area, cv_Int64, cv_Part, nl_Node, nl_Way, nl_Area, nr_Node, nr_Way, nr_Area, nl_Int64, nr_Int64, cMap, mkNodeS_len, mkWayS_len, mkAreaS_len, mkInt64S_len
theorem conUnused (m : Mp) (hw : wMap m) : AC Try.prog 8 [.ag (cMap m)] (ML []) (.bool true) (ML []) := by
  refine AC.of Try.func8 rfl rfl (by simp [Try.ntmps8]) rfl (fun C hC hm => ?_)
  rw [Try.ntmps8] at hC
  have hn : C.m0.nx = _ := congrArg Mem.nx hm
  simp only [ML_nx, List.length_nil, List.length_cons, Nat.zero_add, Nat.reduceAdd] at hn
  simp only [hC, cMap, VS, VZ, TY, openC, foldC, foldN, PF, pick_or, pick_and, aop, aopD, rdN, wrN, idL, idA, apure, AS.ev, startA, strip, abin, aint, astr, alen, aslice, optI, aconv, aconvM, gdv, AS.put, ofVal, pcells, ld, ldo, nOw, PV.isOw, gtmp, within, astore, splice, afill, allCells, okIdx, asrc, aflat, aappend, hintOk, PV.clo, PV.clo1, ofL_n, ofL_c, nams, reO, reP, reA, reC, srcI, setG, obG, List.cons.injEq, aeq1, aeqs, onG, Int.reduceLE, Int.reduceNeg, Int.reduceLT, Nat.reduceEqDiff, ↓reduceIte, Nat.reduceLT, Nat.reduceLeDiff, Nat.reduceAdd, Nat.reduceMul, Nat.reduceSub, reduceCtorEq, Int.reduceEq]
  refine acall_p true (c_szMap m 1048576 (by omega) (by omega) hw) (by simp [cv_Tag, cv_Node, cv_Way, cv_Area, cv_Int64, cv_Part, nl_Node, nl_Way, nl_Area, nr_Node, nr_Way, nr_Area, nl_Int64, nr_Int64, cMap, mkNodeS_len, mkWayS_len, mkAreaS_len, mkInt64S_len, obsT, obT, okO, okP, okA, okC, okD, okI, reP, reA, reC, srcI, Nl_nil, Nl_cons, PV.nl, upd_at, ofL_n, ofL_c, VS, argsT, lendA, lendL, lendT, Cvl_nil, Cvl_cons, Cv_bool, Cv_int, Cv_str, Cv_nils, Cv_nilc, Cv_cl, Cv_ow, noFn, PV.noF, NR_iff, NRO, hb, ares, ares1, ldo, ld, nOw, PV.isOw, TY]) (by simp [cv_Tag, cv_Node, cv_Way, cv_Area, cv_Int64, cv_Part, nl_Node, nl_Way, nl_Area, nr_Node, nr_Way, nr_Area, nl_Int64, nr_Int64, cMap, mkNodeS_len, mkWayS_len, mkAreaS_len, mkInt64S_len, obsT, obT, okO, okP, okA, okC, okD, okI, reP, reA, reC, srcI, Nl_nil, Nl_cons, PV.nl, upd_at, ofL_n, ofL_c, VS, argsT, lendA, lendL, lendT, Cvl_nil, Cvl_cons, Cv_bool, Cv_int, Cv_str, Cv_nils, Cv_nilc, Cv_cl, Cv_ow, noFn, PV.noF, NR_iff, NRO, hb, ares, ares1, ldo, ld, nOw, PV.isOw, TY]) (.inr tS) ?_
  simp only [hC, VS, VZ, TY, openC, foldC, foldN, PF, pick_or, pick_and, aop, aopD, rdN, wrN, idL, idA, apure, AS.ev, startA, strip, abin, aint, astr, alen, aslice, optI, aconv, aconvM, gdv, AS.put, ofVal, pcells, ld, ldo, nOw, PV.isOw, gtmp, within, astore, splice, afill, allCells, okIdx, asrc, aflat, aappend, hintOk, PV.clo, PV.clo1, ofL_n, ofL_c, nams, reO, reP, reA, reC, srcI, setG, obG, List.cons.injEq, aeq1, aeqs, onG, Int.reduceLE, Int.reduceNeg, Int.reduceLT, Nat.reduceEqDiff, ↓reduceIte, Nat.reduceLT, Nat.reduceLeDiff, Nat.reduceAdd, Nat.reduceMul, Nat.reduceSub, reduceCtorEq, Int.reduceEq]
  refine ⟨fun h => ?_, fun h => ?_⟩
  · exact Ret_go [] tS tS tS
  have ht : totMap m ≤ 1048576 := by
    simp only [decide_eq_false_iff_not] at h
    have := lessBy_cases 1048576 (totMap m)
    omega
  have hbm := map_b ht
  have hl := map_l ht hw
  have to_ := c_toMap m hbm
  have hcm := cnt_map ht
  have hul : (unusedN m).length ≤ 1048576 := by
    unfold unusedN
    split
    · have := unT_len m (usedA m m.ways.length) m.nodes.length
      have := hbm.1
      omega
    · simp
  have hcu := cnt_ints (unusedN m)
  have hc0 : decide ((1 : Int) + (cntMap m : Nat) < 0) = false := by simp; omega
  have hc1 : decide ((1 : Int) + (cntInt64S (unusedN m) : Nat) < 0) = false := by simp; omega
  have im_ := ci_Unused m hl
  have eq_ := c_eqInt64S (unusedN m) hul
  have mk_ := c_markInt64S (unusedN m) 1 (by omega) (by omega)
  have he_ := c_heldInt64S (unusedN m) 1 (by omega) (by omega)
  refine acall_go true [] (to_) (by simp [cv_Tag, cv_Node, cv_Way, cv_Area, cv_Int64, cv_Part, nl_Node, nl_Way, nl_Area, nr_Node, nr_Way, nr_Area, nl_Int64, nr_Int64, cMap, mkNodeS_len, mkWayS_len, mkAreaS_len, mkInt64S_len, obsT, obT, okO, okP, okA, okC, okD, okI, reP, reA, reC, srcI, Nl_nil, Nl_cons, PV.nl, upd_at, ofL_n, ofL_c, VS, argsT, lendA, lendL, lendT, Cvl_nil, Cvl_cons, Cv_bool, Cv_int, Cv_str, Cv_nils, Cv_nilc, Cv_cl, Cv_ow, noFn, PV.noF, NR_iff, NRO, hb, ares, ares1, ldo, ld, nOw, PV.isOw, TY]) (by simp [cv_Tag, cv_Node, cv_Way, cv_Area, cv_Int64, cv_Part, nl_Node, nl_Way, nl_Area, nr_Node, nr_Way, nr_Area, nl_Int64, nr_Int64, cMap, mkNodeS_len, mkWayS_len, mkAreaS_len, mkInt64S_len, obsT, obT, okO, okP, okA, okC, okD, okI, reP, reA, reC, srcI, Nl_nil, Nl_cons, PV.nl, upd_at, ofL_n, ofL_c, VS, argsT, lendA, lendL, lendT, Cvl_nil, Cvl_cons, Cv_bool, Cv_int, Cv_str, Cv_nils, Cv_nilc, Cv_cl, Cv_ow, noFn, PV.noF, NR_iff, NRO, hb, ares, ares1, ldo, ld, nOw, PV.isOw, TY]) (by simp [cv_Tag, cv_Node, cv_Way, cv_Area, cv_Int64, cv_Part, nl_Node, nl_Way, nl_Area, nr_Node, nr_Way, nr_Area, nl_Int64, nr_Int64, cMap, mkNodeS_len, mkWayS_len, mkAreaS_len, mkInt64S_len, obsT, obT, okO, okP, okA, okC, okD, okI, reP, reA, reC, srcI, Nl_nil, Nl_cons, PV.nl, upd_at, ofL_n, ofL_c, VS, argsT, lendA, lendL, lendT, Cvl_nil, Cvl_cons, Cv_bool, Cv_int, Cv_str, Cv_nils, Cv_nilc, Cv_cl, Cv_ow, noFn, PV.noF, NR_iff, NRO, hb, ares, ares1, ldo, ld, nOw, PV.isOw, TY]) tS tS (by simp [cv_Tag, cv_Node, cv_Way, cv_Area, cv_Int64, cv_Part, nl_Node, nl_Way, nl_Area, nr_Node, nr_Way, nr_Area, nl_Int64, nr_Int64, cMap, mkNodeS_len, mkWayS_len, mkAreaS_len, mkInt64S_len, obsT, obT, okO, okP, okA, okC, okD, okI, reP, reA, reC, srcI, Nl_nil, Nl_cons, PV.nl, upd_at, ofL_n, ofL_c, VS, argsT, lendA, lendL, lendT, Cvl_nil, Cvl_cons, Cv_bool, Cv_int, Cv_str, Cv_nils, Cv_nilc, Cv_cl, Cv_ow, noFn, PV.noF, NR_iff, NRO, hb, ares, ares1, ldo, ld, nOw, PV.isOw, TY]) (.inr ⟨by simp [obsT, obT, okO, okP, okA, okC, okD, okI, reP, reA, reC, srcI, Nl_nil, Nl_cons, PV.nl, upd_at, ofL_n, ofL_c, VS, argsT, lendA, lendL, lendT, Cvl_nil, Cvl_cons, Cv_bool, Cv_int, Cv_str, Cv_nils, Cv_nilc, Cv_cl, Cv_ow, noFn, PV.noF, NR_iff, NRO, hb, ares, ares1, ldo, ld, nOw, PV.isOw, TY], by simp [cv_Tag, cv_Node, cv_Way, cv_Area, cv_Int64, cv_Part, nl_Node, nl_Way, nl_Area, nr_Node, nr_Way, nr_Area, nl_Int64, nr_Int64, cMap, mkNodeS_len, mkWayS_len, mkAreaS_len, mkInt64S_len, obsT, obT, okO, okP, okA, okC, okD, okI, reP, reA, reC, srcI, Nl_nil, Nl_cons, PV.nl, upd_at, ofL_n, ofL_c, VS, argsT, lendA, lendL, lendT, Cvl_nil, Cvl_cons, Cv_bool, Cv_int, Cv_str, Cv_nils, Cv_nilc, Cv_cl, Cv_ow, noFn, PV.noF, NR_iff, NRO, hb, ares, ares1, ldo, ld, nOw, PV.isOw, TY]⟩) ?_
  simp only [hC, VS, VZ, TY, openC, foldC, foldN, PF, pick_or, pick_and, aop, aopD, rdN, wrN, idL, idA, apure, AS.ev, startA, strip, abin, aint, astr, alen, aslice, optI, aconv, aconvM, gdv, AS.put, ofVal, pcells, ld, ldo, nOw, PV.isOw, gtmp, within, astore, splice, afill, allCells, okIdx, asrc, aflat, aappend, hintOk, PV.clo, PV.clo1, ofL_n, ofL_c, nams, reO, reP, reA, reC, srcI, setG, obG, List.cons.injEq, aeq1, aeqs, onG, Int.reduceLE, Int.reduceNeg, Int.reduceLT, Nat.reduceEqDiff, ↓reduceIte, Nat.reduceLT, Nat.reduceLeDiff, Nat.reduceAdd, Nat.reduceMul, Nat.reduceSub, reduceCtorEq, Int.reduceEq]
  refine acall_go true [] (cs_Unused m hl) (by simp [cv_Tag, cv_Node, cv_Way, cv_Area, cv_Int64, cv_Part, nl_Node, nl_Way, nl_Area, nr_Node, nr_Way, nr_Area, nl_Int64, nr_Int64, cMap, mkNodeS_len, mkWayS_len, mkAreaS_len, mkInt64S_len, obsT, obT, okO, okP, okA, okC, okD, okI, reP, reA, reC, srcI, Nl_nil, Nl_cons, PV.nl, upd_at, ofL_n, ofL_c, VS, argsT, lendA, lendL, lendT, Cvl_nil, Cvl_cons, Cv_bool, Cv_int, Cv_str, Cv_nils, Cv_nilc, Cv_cl, Cv_ow, noFn, PV.noF, NR_iff, NRO, hb, ares, ares1, ldo, ld, nOw, PV.isOw, TY]) (by simp [cv_Tag, cv_Node, cv_Way, cv_Area, cv_Int64, cv_Part, nl_Node, nl_Way, nl_Area, nr_Node, nr_Way, nr_Area, nl_Int64, nr_Int64, cMap, mkNodeS_len, mkWayS_len, mkAreaS_len, mkInt64S_len, obsT, obT, okO, okP, okA, okC, okD, okI, reP, reA, reC, srcI, Nl_nil, Nl_cons, PV.nl, upd_at, ofL_n, ofL_c, VS, argsT, lendA, lendL, lendT, Cvl_nil, Cvl_cons, Cv_bool, Cv_int, Cv_str, Cv_nils, Cv_nilc, Cv_cl, Cv_ow, noFn, PV.noF, NR_iff, NRO, hb, ares, ares1, ldo, ld, nOw, PV.isOw, TY]) (by simp [cv_Tag, cv_Node, cv_Way, cv_Area, cv_Int64, cv_Part, nl_Node, nl_Way, nl_Area, nr_Node, nr_Way, nr_Area, nl_Int64, nr_Int64, cMap, mkNodeS_len, mkWayS_len, mkAreaS_len, mkInt64S_len, obsT, obT, okO, okP, okA, okC, okD, okI, reP, reA, reC, srcI, Nl_nil, Nl_cons, PV.nl, upd_at, ofL_n, ofL_c, VS, argsT, lendA, lendL, lendT, Cvl_nil, Cvl_cons, Cv_bool, Cv_int, Cv_str, Cv_nils, Cv_nilc, Cv_cl, Cv_ow, noFn, PV.noF, NR_iff, NRO, hb, ares, ares1, ldo, ld, nOw, PV.isOw, TY]) tS tS (by simp [cv_Tag, cv_Node, cv_Way, cv_Area, cv_Int64, cv_Part, nl_Node, nl_Way, nl_Area, nr_Node, nr_Way, nr_Area, nl_Int64, nr_Int64, cMap, mkNodeS_len, mkWayS_len, mkAreaS_len, mkInt64S_len, obsT, obT, okO, okP, okA, okC, okD, okI, reP, reA, reC, srcI, Nl_nil, Nl_cons, PV.nl, upd_at, ofL_n, ofL_c, VS, argsT, lendA, lendL, lendT, Cvl_nil, Cvl_cons, Cv_bool, Cv_int, Cv_str, Cv_nils, Cv_nilc, Cv_cl, Cv_ow, noFn, PV.noF, NR_iff, NRO, hb, ares, ares1, ldo, ld, nOw, PV.isOw, TY]) (.inr ⟨by simp [obsT, obT, okO, okP, okA, okC, okD, okI, reP, reA, reC, srcI, Nl_nil, Nl_cons, PV.nl, upd_at, ofL_n, ofL_c, VS, argsT, lendA, lendL, lendT, Cvl_nil, Cvl_cons, Cv_bool, Cv_int, Cv_str, Cv_nils, Cv_nilc, Cv_cl, Cv_ow, noFn, PV.noF, NR_iff, NRO, hb, ares, ares1, ldo, ld, nOw, PV.isOw, TY], by simp [cv_Tag, cv_Node, cv_Way, cv_Area, cv_Int64, cv_Part, nl_Node, nl_Way, nl_Area, nr_Node, nr_Way, nr_Area, nl_Int64, nr_Int64, cMap, mkNodeS_len, mkWayS_len, mkAreaS_len, mkInt64S_len, obsT, obT, okO, okP, okA, okC, okD, okI, reP, reA, reC, srcI, Nl_nil, Nl_cons, PV.nl, upd_at, ofL_n, ofL_c, VS, argsT, lendA, lendL, lendT, Cvl_nil, Cvl_cons, Cv_bool, Cv_int, Cv_str, Cv_nils, Cv_nilc, Cv_cl, Cv_ow, noFn, PV.noF, NR_iff, NRO, hb, ares, ares1, ldo, ld, nOw, PV.isOw, TY]⟩) ?_
  simp only [hC, VS, VZ, TY, openC, foldC, foldN, PF, pick_or, pick_and, aop, aopD, rdN, wrN, idL, idA, apure, AS.ev, startA, strip, abin, aint, astr, alen, aslice, optI, aconv, aconvM, gdv, AS.put, ofVal, pcells, ld, ldo, nOw, PV.isOw, gtmp, within, astore, splice, afill, allCells, okIdx, asrc, aflat, aappend, hintOk, PV.clo, PV.clo1, ofL_n, ofL_c, nams, reO, reP, reA, reC, srcI, setG, obG, List.cons.injEq, aeq1, aeqs, onG, Int.reduceLE, Int.reduceNeg, Int.reduceLT, Nat.reduceEqDiff, ↓reduceIte, Nat.reduceLT, Nat.reduceLeDiff, Nat.reduceAdd, Nat.reduceMul, Nat.reduceSub, reduceCtorEq, Int.reduceEq]
  refine acall_go true [] (to_) (by simp [cv_Tag, cv_Node, cv_Way, cv_Area, cv_Int64, cv_Part, nl_Node, nl_Way, nl_Area, nr_Node, nr_Way, nr_Area, nl_Int64, nr_Int64, cMap, mkNodeS_len, mkWayS_len, mkAreaS_len, mkInt64S_len, obsT, obT, okO, okP, okA, okC, okD, okI, reP, reA, reC, srcI, Nl_nil, Nl_cons, PV.nl, upd_at, ofL_n, ofL_c, VS, argsT, lendA, lendL, lendT, Cvl_nil, Cvl_cons, Cv_bool, Cv_int, Cv_str, Cv_nils, Cv_nilc, Cv_cl, Cv_ow, noFn, PV.noF, NR_iff, NRO, hb, ares, ares1, ldo, ld, nOw, PV.isOw, TY]) (by simp [cv_Tag, cv_Node, cv_Way, cv_Area, cv_Int64, cv_Part, nl_Node, nl_Way, nl_Area, nr_Node, nr_Way, nr_Area, nl_Int64, nr_Int64, cMap, mkNodeS_len, mkWayS_len, mkAreaS_len, mkInt64S_len, obsT, obT, okO, okP, okA, okC, okD, okI, reP, reA, reC, srcI, Nl_nil, Nl_cons, PV.nl, upd_at, ofL_n, ofL_c, VS, argsT, lendA, lendL, lendT, Cvl_nil, Cvl_cons, Cv_bool, Cv_int, Cv_str, Cv_nils, Cv_nilc, Cv_cl, Cv_ow, noFn, PV.noF, NR_iff, NRO, hb, ares, ares1, ldo, ld, nOw, PV.isOw, TY]) (by simp [cv_Tag, cv_Node, cv_Way, cv_Area, cv_Int64, cv_Part, nl_Node, nl_Way, nl_Area, nr_Node, nr_Way, nr_Area, nl_Int64, nr_Int64, cMap, mkNodeS_len, mkWayS_len, mkAreaS_len, mkInt64S_len, obsT, obT, okO, okP, okA, okC, okD, okI, reP, reA, reC, srcI, Nl_nil, Nl_cons, PV.nl, upd_at, ofL_n, ofL_c, VS, argsT, lendA, lendL, lendT, Cvl_nil, Cvl_cons, Cv_bool, Cv_int, Cv_str, Cv_nils, Cv_nilc, Cv_cl, Cv_ow, noFn, PV.noF, NR_iff, NRO, hb, ares, ares1, ldo, ld, nOw, PV.isOw, TY]) tS tS (by simp [cv_Tag, cv_Node, cv_Way, cv_Area, cv_Int64, cv_Part, nl_Node, nl_Way, nl_Area, nr_Node, nr_Way, nr_Area, nl_Int64, nr_Int64, cMap, mkNodeS_len, mkWayS_len, mkAreaS_len, mkInt64S_len, obsT, obT, okO, okP, okA, okC, okD, okI, reP, reA, reC, srcI, Nl_nil, Nl_cons, PV.nl, upd_at, ofL_n, ofL_c, VS, argsT, lendA, lendL, lendT, Cvl_nil, Cvl_cons, Cv_bool, Cv_int, Cv_str, Cv_nils, Cv_nilc, Cv_cl, Cv_ow, noFn, PV.noF, NR_iff, NRO, hb, ares, ares1, ldo, ld, nOw, PV.isOw, TY]) (.inr ⟨by simp [obsT, obT, okO, okP, okA, okC, okD, okI, reP, reA, reC, srcI, Nl_nil, Nl_cons, PV.nl, upd_at, ofL_n, ofL_c, VS, argsT, lendA, lendL, lendT, Cvl_nil, Cvl_cons, Cv_bool, Cv_int, Cv_str, Cv_nils, Cv_nilc, Cv_cl, Cv_ow, noFn, PV.noF, NR_iff, NRO, hb, ares, ares1, ldo, ld, nOw, PV.isOw, TY], by simp [cv_Tag, cv_Node, cv_Way, cv_Area, cv_Int64, cv_Part, nl_Node, nl_Way, nl_Area, nr_Node, nr_Way, nr_Area, nl_Int64, nr_Int64, cMap, mkNodeS_len, mkWayS_len, mkAreaS_len, mkInt64S_len, obsT, obT, okO, okP, okA, okC, okD, okI, reP, reA, reC, srcI, Nl_nil, Nl_cons, PV.nl, upd_at, ofL_n, ofL_c, VS, argsT, lendA, lendL, lendT, Cvl_nil, Cvl_cons, Cv_bool, Cv_int, Cv_str, Cv_nils, Cv_nilc, Cv_cl, Cv_ow, noFn, PV.noF, NR_iff, NRO, hb, ares, ares1, ldo, ld, nOw, PV.isOw, TY]⟩) ?_
  simp only [hC, VS, VZ, TY, openC, foldC, foldN, PF, pick_or, pick_and, aop, aopD, rdN, wrN, idL, idA, apure, AS.ev, startA, strip, abin, aint, astr, alen, aslice, optI, aconv, aconvM, gdv, AS.put, ofVal, pcells, ld, ldo, nOw, PV.isOw, gtmp, within, astore, splice, afill, allCells, okIdx, asrc, aflat, aappend, hintOk, PV.clo, PV.clo1, ofL_n, ofL_c, nams, reO, reP, reA, reC, srcI, setG, obG, List.cons.injEq, aeq1, aeqs, onG, Int.reduceLE, Int.reduceNeg, Int.reduceLT, Nat.reduceEqDiff, ↓reduceIte, Nat.reduceLT, Nat.reduceLeDiff, Nat.reduceAdd, Nat.reduceMul, Nat.reduceSub, reduceCtorEq, Int.reduceEq]
  refine acall_go true [] (im_) (by simp [cv_Tag, cv_Node, cv_Way, cv_Area, cv_Int64, cv_Part, nl_Node, nl_Way, nl_Area, nr_Node, nr_Way, nr_Area, nl_Int64, nr_Int64, cMap, mkNodeS_len, mkWayS_len, mkAreaS_len, mkInt64S_len, obsT, obT, okO, okP, okA, okC, okD, okI, reP, reA, reC, srcI, Nl_nil, Nl_cons, PV.nl, upd_at, ofL_n, ofL_c, VS, argsT, lendA, lendL, lendT, Cvl_nil, Cvl_cons, Cv_bool, Cv_int, Cv_str, Cv_nils, Cv_nilc, Cv_cl, Cv_ow, noFn, PV.noF, NR_iff, NRO, hb, ares, ares1, ldo, ld, nOw, PV.isOw, TY]) (by simp [cv_Tag, cv_Node, cv_Way, cv_Area, cv_Int64, cv_Part, nl_Node, nl_Way, nl_Area, nr_Node, nr_Way, nr_Area, nl_Int64, nr_Int64, cMap, mkNodeS_len, mkWayS_len, mkAreaS_len, mkInt64S_len, obsT, obT, okO, okP, okA, okC, okD, okI, reP, reA, reC, srcI, Nl_nil, Nl_cons, PV.nl, upd_at, ofL_n, ofL_c, VS, argsT, lendA, lendL, lendT, Cvl_nil, Cvl_cons, Cv_bool, Cv_int, Cv_str, Cv_nils, Cv_nilc, Cv_cl, Cv_ow, noFn, PV.noF, NR_iff, NRO, hb, ares, ares1, ldo, ld, nOw, PV.isOw, TY]) (by simp [cv_Tag, cv_Node, cv_Way, cv_Area, cv_Int64, cv_Part, nl_Node, nl_Way, nl_Area, nr_Node, nr_Way, nr_Area, nl_Int64, nr_Int64, cMap, mkNodeS_len, mkWayS_len, mkAreaS_len, mkInt64S_len, obsT, obT, okO, okP, okA, okC, okD, okI, reP, reA, reC, srcI, Nl_nil, Nl_cons, PV.nl, upd_at, ofL_n, ofL_c, VS, argsT, lendA, lendL, lendT, Cvl_nil, Cvl_cons, Cv_bool, Cv_int, Cv_str, Cv_nils, Cv_nilc, Cv_cl, Cv_ow, noFn, PV.noF, NR_iff, NRO, hb, ares, ares1, ldo, ld, nOw, PV.isOw, TY]) tS tS (by simp [cv_Tag, cv_Node, cv_Way, cv_Area, cv_Int64, cv_Part, nl_Node, nl_Way, nl_Area, nr_Node, nr_Way, nr_Area, nl_Int64, nr_Int64, cMap, mkNodeS_len, mkWayS_len, mkAreaS_len, mkInt64S_len, obsT, obT, okO, okP, okA, okC, okD, okI, reP, reA, reC, srcI, Nl_nil, Nl_cons, PV.nl, upd_at, ofL_n, ofL_c, VS, argsT, lendA, lendL, lendT, Cvl_nil, Cvl_cons, Cv_bool, Cv_int, Cv_str, Cv_nils, Cv_nilc, Cv_cl, Cv_ow, noFn, PV.noF, NR_iff, NRO, hb, ares, ares1, ldo, ld, nOw, PV.isOw, TY]) (.inr ⟨by simp [obsT, obT, okO, okP, okA, okC, okD, okI, reP, reA, reC, srcI, Nl_nil, Nl_cons, PV.nl, upd_at, ofL_n, ofL_c, VS, argsT, lendA, lendL, lendT, Cvl_nil, Cvl_cons, Cv_bool, Cv_int, Cv_str, Cv_nils, Cv_nilc, Cv_cl, Cv_ow, noFn, PV.noF, NR_iff, NRO, hb, ares, ares1, ldo, ld, nOw, PV.isOw, TY], by simp [cv_Tag, cv_Node, cv_Way, cv_Area, cv_Int64, cv_Part, nl_Node, nl_Way, nl_Area, nr_Node, nr_Way, nr_Area, nl_Int64, nr_Int64, cMap, mkNodeS_len, mkWayS_len, mkAreaS_len, mkInt64S_len, obsT, obT, okO, okP, okA, okC, okD, okI, reP, reA, reC, srcI, Nl_nil, Nl_cons, PV.nl, upd_at, ofL_n, ofL_c, VS, argsT, lendA, lendL, lendT, Cvl_nil, Cvl_cons, Cv_bool, Cv_int, Cv_str, Cv_nils, Cv_nilc, Cv_cl, Cv_ow, noFn, PV.noF, NR_iff, NRO, hb, ares, ares1, ldo, ld, nOw, PV.isOw, TY]⟩) ?_
  simp only [hC, VS, VZ, TY, openC, foldC, foldN, PF, pick_or, pick_and, aop, aopD, rdN, wrN, idL, idA, apure, AS.ev, startA, strip, abin, aint, astr, alen, aslice, optI, aconv, aconvM, gdv, AS.put, ofVal, pcells, ld, ldo, nOw, PV.isOw, gtmp, within, astore, splice, afill, allCells, okIdx, asrc, aflat, aappend, hintOk, PV.clo, PV.clo1, ofL_n, ofL_c, nams, reO, reP, reA, reC, srcI, setG, obG, List.cons.injEq, aeq1, aeqs, onG, Int.reduceLE, Int.reduceNeg, Int.reduceLT, Nat.reduceEqDiff, ↓reduceIte, Nat.reduceLT, Nat.reduceLeDiff, Nat.reduceAdd, Nat.reduceMul, Nat.reduceSub, reduceCtorEq, Int.reduceEq]
  refine acall_p true (eq_) (by simp [cv_Tag, cv_Node, cv_Way, cv_Area, cv_Int64, cv_Part, nl_Node, nl_Way, nl_Area, nr_Node, nr_Way, nr_Area, nl_Int64, nr_Int64, cMap, mkNodeS_len, mkWayS_len, mkAreaS_len, mkInt64S_len, obsT, obT, okO, okP, okA, okC, okD, okI, reP, reA, reC, srcI, Nl_nil, Nl_cons, PV.nl, upd_at, ofL_n, ofL_c, VS, argsT, lendA, lendL, lendT, Cvl_nil, Cvl_cons, Cv_bool, Cv_int, Cv_str, Cv_nils, Cv_nilc, Cv_cl, Cv_ow, noFn, PV.noF, NR_iff, NRO, hb, ares, ares1, ldo, ld, nOw, PV.isOw, TY]) (by simp [cv_Tag, cv_Node, cv_Way, cv_Area, cv_Int64, cv_Part, nl_Node, nl_Way, nl_Area, nr_Node, nr_Way, nr_Area, nl_Int64, nr_Int64, cMap, mkNodeS_len, mkWayS_len, mkAreaS_len, mkInt64S_len, obsT, obT, okO, okP, okA, okC, okD, okI, reP, reA, reC, srcI, Nl_nil, Nl_cons, PV.nl, upd_at, ofL_n, ofL_c, VS, argsT, lendA, lendL, lendT, Cvl_nil, Cvl_cons, Cv_bool, Cv_int, Cv_str, Cv_nils, Cv_nilc, Cv_cl, Cv_ow, noFn, PV.noF, NR_iff, NRO, hb, ares, ares1, ldo, ld, nOw, PV.isOw, TY]) (.inr tS) ?_
  simp only [hC, VS, VZ, TY, openC, foldC, foldN, PF, pick_or, pick_and, aop, aopD, rdN, wrN, idL, idA, apure, AS.ev, startA, strip, abin, aint, astr, alen, aslice, optI, aconv, aconvM, gdv, AS.put, ofVal, pcells, ld, ldo, nOw, PV.isOw, gtmp, within, astore, splice, afill, allCells, okIdx, asrc, aflat, aappend, hintOk, PV.clo, PV.clo1, ofL_n, ofL_c, nams, reO, reP, reA, reC, srcI, setG, obG, List.cons.injEq, aeq1, aeqs, onG, Int.reduceLE, Int.reduceNeg, Int.reduceLT, Nat.reduceEqDiff, ↓reduceIte, Nat.reduceLT, Nat.reduceLeDiff, Nat.reduceAdd, Nat.reduceMul, Nat.reduceSub, reduceCtorEq, Int.reduceEq]
  refine ⟨by kernel_rfl, ?_⟩
  refine acall_go true [] (to_) (by simp [cv_Tag, cv_Node, cv_Way, cv_Area, cv_Int64, cv_Part, nl_Node, nl_Way, nl_Area, nr_Node, nr_Way, nr_Area, nl_Int64, nr_Int64, cMap, mkNodeS_len, mkWayS_len, mkAreaS_len, mkInt64S_len, obsT, obT, okO, okP, okA, okC, okD, okI, reP, reA, reC, srcI, Nl_nil, Nl_cons, PV.nl, upd_at, ofL_n, ofL_c, VS, argsT, lendA, lendL, lendT, Cvl_nil, Cvl_cons, Cv_bool, Cv_int, Cv_str, Cv_nils, Cv_nilc, Cv_cl, Cv_ow, noFn, PV.noF, NR_iff, NRO, hb, ares, ares1, ldo, ld, nOw, PV.isOw, TY]) (by simp [cv_Tag, cv_Node, cv_Way, cv_Area, cv_Int64, cv_Part, nl_Node, nl_Way, nl_Area, nr_Node, nr_Way, nr_Area, nl_Int64, nr_Int64, cMap, mkNodeS_len, mkWayS_len, mkAreaS_len, mkInt64S_len, obsT, obT, okO, okP, okA, okC, okD, okI, reP, reA, reC, srcI, Nl_nil, Nl_cons, PV.nl, upd_at, ofL_n, ofL_c, VS, argsT, lendA, lendL, lendT, Cvl_nil, Cvl_cons, Cv_bool, Cv_int, Cv_str, Cv_nils, Cv_nilc, Cv_cl, Cv_ow, noFn, PV.noF, NR_iff, NRO, hb, ares, ares1, ldo, ld, nOw, PV.isOw, TY]) (by simp [cv_Tag, cv_Node, cv_Way, cv_Area, cv_Int64, cv_Part, nl_Node, nl_Way, nl_Area, nr_Node, nr_Way, nr_Area, nl_Int64, nr_Int64, cMap, mkNodeS_len, mkWayS_len, mkAreaS_len, mkInt64S_len, obsT, obT, okO, okP, okA, okC, okD, okI, reP, reA, reC, srcI, Nl_nil, Nl_cons, PV.nl, upd_at, ofL_n, ofL_c, VS, argsT, lendA, lendL, lendT, Cvl_nil, Cvl_cons, Cv_bool, Cv_int, Cv_str, Cv_nils, Cv_nilc, Cv_cl, Cv_ow, noFn, PV.noF, NR_iff, NRO, hb, ares, ares1, ldo, ld, nOw, PV.isOw, TY]) tS tS (by simp [cv_Tag, cv_Node, cv_Way, cv_Area, cv_Int64, cv_Part, nl_Node, nl_Way, nl_Area, nr_Node, nr_Way, nr_Area, nl_Int64, nr_Int64, cMap, mkNodeS_len, mkWayS_len, mkAreaS_len, mkInt64S_len, obsT, obT, okO, okP, okA, okC, okD, okI, reP, reA, reC, srcI, Nl_nil, Nl_cons, PV.nl, upd_at, ofL_n, ofL_c, VS, argsT, lendA, lendL, lendT, Cvl_nil, Cvl_cons, Cv_bool, Cv_int, Cv_str, Cv_nils, Cv_nilc, Cv_cl, Cv_ow, noFn, PV.noF, NR_iff, NRO, hb, ares, ares1, ldo, ld, nOw, PV.isOw, TY]) (.inr ⟨by simp [obsT, obT, okO, okP, okA, okC, okD, okI, reP, reA, reC, srcI, Nl_nil, Nl_cons, PV.nl, upd_at, ofL_n, ofL_c, VS, argsT, lendA, lendL, lendT, Cvl_nil, Cvl_cons, Cv_bool, Cv_int, Cv_str, Cv_nils, Cv_nilc, Cv_cl, Cv_ow, noFn, PV.noF, NR_iff, NRO, hb, ares, ares1, ldo, ld, nOw, PV.isOw, TY], by simp [cv_Tag, cv_Node, cv_Way, cv_Area, cv_Int64, cv_Part, nl_Node, nl_Way, nl_Area, nr_Node, nr_Way, nr_Area, nl_Int64, nr_Int64, cMap, mkNodeS_len, mkWayS_len, mkAreaS_len, mkInt64S_len, obsT, obT, okO, okP, okA, okC, okD, okI, reP, reA, reC, srcI, Nl_nil, Nl_cons, PV.nl, upd_at, ofL_n, ofL_c, VS, argsT, lendA, lendL, lendT, Cvl_nil, Cvl_cons, Cv_bool, Cv_int, Cv_str, Cv_nils, Cv_nilc, Cv_cl, Cv_ow, noFn, PV.noF, NR_iff, NRO, hb, ares, ares1, ldo, ld, nOw, PV.isOw, TY]⟩) ?_
  simp only [hC, VS, VZ, TY, openC, foldC, foldN, PF, pick_or, pick_and, aop, aopD, rdN, wrN, idL, idA, apure, AS.ev, startA, strip, abin, aint, astr, alen, aslice, optI, aconv, aconvM, gdv, AS.put, ofVal, pcells, ld, ldo, nOw, PV.isOw, gtmp, within, astore, splice, afill, allCells, okIdx, asrc, aflat, aappend, hintOk, PV.clo, PV.clo1, ofL_n, ofL_c, nams, reO, reP, reA, reC, srcI, setG, obG, List.cons.injEq, aeq1, aeqs, onG, Int.reduceLE, Int.reduceNeg, Int.reduceLT, Nat.reduceEqDiff, ↓reduceIte, Nat.reduceLT, Nat.reduceLeDiff, Nat.reduceAdd, Nat.reduceMul, Nat.reduceSub, reduceCtorEq, Int.reduceEq]
  refine ⟨by kernel_rfl, ?_⟩
  refine acall_p true (c_eqMap m hbm) (by simp [cv_Tag, cv_Node, cv_Way, cv_Area, cv_Int64, cv_Part, nl_Node, nl_Way, nl_Area, nr_Node, nr_Way, nr_Area, nl_Int64, nr_Int64, cMap, mkNodeS_len, mkWayS_len, mkAreaS_len, mkInt64S_len, obsT, obT, okO, okP, okA, okC, okD, okI, reP, reA, reC, srcI, Nl_nil, Nl_cons, PV.nl, upd_at, ofL_n, ofL_c, VS, argsT, lendA, lendL, lendT, Cvl_nil, Cvl_cons, Cv_bool, Cv_int, Cv_str, Cv_nils, Cv_nilc, Cv_cl, Cv_ow, noFn, PV.noF, NR_iff, NRO, hb, ares, ares1, ldo, ld, nOw, PV.isOw, TY]) (by simp [cv_Tag, cv_Node, cv_Way, cv_Area, cv_Int64, cv_Part, nl_Node, nl_Way, nl_Area, nr_Node, nr_Way, nr_Area, nl_Int64, nr_Int64, cMap, mkNodeS_len, mkWayS_len, mkAreaS_len, mkInt64S_len, obsT, obT, okO, okP, okA, okC, okD, okI, reP, reA, reC, srcI, Nl_nil, Nl_cons, PV.nl, upd_at, ofL_n, ofL_c, VS, argsT, lendA, lendL, lendT, Cvl_nil, Cvl_cons, Cv_bool, Cv_int, Cv_str, Cv_nils, Cv_nilc, Cv_cl, Cv_ow, noFn, PV.noF, NR_iff, NRO, hb, ares, ares1, ldo, ld, nOw, PV.isOw, TY]) (.inr tS) ?_
  simp only [hC, VS, VZ, TY, openC, foldC, foldN, PF, pick_or, pick_and, aop, aopD, rdN, wrN, idL, idA, apure, AS.ev, startA, strip, abin, aint, astr, alen, aslice, optI, aconv, aconvM, gdv, AS.put, ofVal, pcells, ld, ldo, nOw, PV.isOw, gtmp, within, astore, splice, afill, allCells, okIdx, asrc, aflat, aappend, hintOk, PV.clo, PV.clo1, ofL_n, ofL_c, nams, reO, reP, reA, reC, srcI, setG, obG, List.cons.injEq, aeq1, aeqs, onG, Int.reduceLE, Int.reduceNeg, Int.reduceLT, Nat.reduceEqDiff, ↓reduceIte, Nat.reduceLT, Nat.reduceLeDiff, Nat.reduceAdd, Nat.reduceMul, Nat.reduceSub, reduceCtorEq, Int.reduceEq]
  refine ⟨by kernel_rfl, ?_⟩
  refine acall_go true [[5], [6], [7]] (c_markMap m 1 (by omega) (by omega)) (by simp [cv_Tag, cv_Node, cv_Way, cv_Area, cv_Int64, cv_Part, nl_Node, nl_Way, nl_Area, nr_Node, nr_Way, nr_Area, nl_Int64, nr_Int64, cMap, mkNodeS_len, mkWayS_len, mkAreaS_len, mkInt64S_len, obsT, obT, okO, okP, okA, okC, okD, okI, reP, reA, reC, srcI, Nl_nil, Nl_cons, PV.nl, upd_at, ofL_n, ofL_c, VS, argsT, lendA, lendL, lendT, Cvl_nil, Cvl_cons, Cv_bool, Cv_int, Cv_str, Cv_nils, Cv_nilc, Cv_cl, Cv_ow, noFn, PV.noF, NR_iff, NRO, hb, ares, ares1, ldo, ld, nOw, PV.isOw, TY]) (by simp [cv_Tag, cv_Node, cv_Way, cv_Area, cv_Int64, cv_Part, nl_Node, nl_Way, nl_Area, nr_Node, nr_Way, nr_Area, nl_Int64, nr_Int64, cMap, mkNodeS_len, mkWayS_len, mkAreaS_len, mkInt64S_len, obsT, obT, okO, okP, okA, okC, okD, okI, reP, reA, reC, srcI, Nl_nil, Nl_cons, PV.nl, upd_at, ofL_n, ofL_c, VS, argsT, lendA, lendL, lendT, Cvl_nil, Cvl_cons, Cv_bool, Cv_int, Cv_str, Cv_nils, Cv_nilc, Cv_cl, Cv_ow, noFn, PV.noF, NR_iff, NRO, hb, ares, ares1, ldo, ld, nOw, PV.isOw, TY]) (by simp [cv_Tag, cv_Node, cv_Way, cv_Area, cv_Int64, cv_Part, nl_Node, nl_Way, nl_Area, nr_Node, nr_Way, nr_Area, nl_Int64, nr_Int64, cMap, mkNodeS_len, mkWayS_len, mkAreaS_len, mkInt64S_len, obsT, obT, okO, okP, okA, okC, okD, okI, reP, reA, reC, srcI, Nl_nil, Nl_cons, PV.nl, upd_at, ofL_n, ofL_c, VS, argsT, lendA, lendL, lendT, Cvl_nil, Cvl_cons, Cv_bool, Cv_int, Cv_str, Cv_nils, Cv_nilc, Cv_cl, Cv_ow, noFn, PV.noF, NR_iff, NRO, hb, ares, ares1, ldo, ld, nOw, PV.isOw, TY]) tS tS (by simp [cv_Tag, cv_Node, cv_Way, cv_Area, cv_Int64, cv_Part, nl_Node, nl_Way, nl_Area, nr_Node, nr_Way, nr_Area, nl_Int64, nr_Int64, cMap, mkNodeS_len, mkWayS_len, mkAreaS_len, mkInt64S_len, obsT, obT, okO, okP, okA, okC, okD, okI, reP, reA, reC, srcI, Nl_nil, Nl_cons, PV.nl, upd_at, ofL_n, ofL_c, VS, argsT, lendA, lendL, lendT, Cvl_nil, Cvl_cons, Cv_bool, Cv_int, Cv_str, Cv_nils, Cv_nilc, Cv_cl, Cv_ow, noFn, PV.noF, NR_iff, NRO, hb, ares, ares1, ldo, ld, nOw, PV.isOw, TY]) (.inr ⟨by simp [obsT, obT, okO, okP, okA, okC, okD, okI, reP, reA, reC, srcI, Nl_nil, Nl_cons, PV.nl, upd_at, ofL_n, ofL_c, VS, argsT, lendA, lendL, lendT, Cvl_nil, Cvl_cons, Cv_bool, Cv_int, Cv_str, Cv_nils, Cv_nilc, Cv_cl, Cv_ow, noFn, PV.noF, NR_iff, NRO, hb, ares, ares1, ldo, ld, nOw, PV.isOw, TY], by simp [cv_Tag, cv_Node, cv_Way, cv_Area, cv_Int64, cv_Part, nl_Node, nl_Way, nl_Area, nr_Node, nr_Way, nr_Area, nl_Int64, nr_Int64, cMap, mkNodeS_len, mkWayS_len, mkAreaS_len, mkInt64S_len, obsT, obT, okO, okP, okA, okC, okD, okI, reP, reA, reC, srcI, Nl_nil, Nl_cons, PV.nl, upd_at, ofL_n, ofL_c, VS, argsT, lendA, lendL, lendT, Cvl_nil, Cvl_cons, Cv_bool, Cv_int, Cv_str, Cv_nils, Cv_nilc, Cv_cl, Cv_ow, noFn, PV.noF, NR_iff, NRO, hb, ares, ares1, ldo, ld, nOw, PV.isOw, TY]⟩) ?_
  simp only [hC, VS, VZ, TY, openC, foldC, foldN, PF, pick_or, pick_and, aop, aopD, rdN, wrN, idL, idA, apure, AS.ev, startA, strip, abin, aint, astr, alen, aslice, optI, aconv, aconvM, gdv, AS.put, ofVal, pcells, ld, ldo, nOw, PV.isOw, gtmp, within, astore, splice, afill, allCells, okIdx, asrc, aflat, aappend, hintOk, PV.clo, PV.clo1, ofL_n, ofL_c, nams, reO, reP, reA, reC, srcI, setG, obG, List.cons.injEq, aeq1, aeqs, onG, Int.reduceLE, Int.reduceNeg, Int.reduceLT, Nat.reduceEqDiff, ↓reduceIte, Nat.reduceLT, Nat.reduceLeDiff, Nat.reduceAdd, Nat.reduceMul, Nat.reduceSub, reduceCtorEq, Int.reduceEq]
  simp only [hC, hc0, VS, VZ, TY, openC, foldC, foldN, PF, pick_or, pick_and, aop, aopD, rdN, wrN, idL, idA, apure, AS.ev, startA, strip, abin, aint, astr, alen, aslice, optI, aconv, aconvM, gdv, AS.put, ofVal, pcells, ld, ldo, nOw, PV.isOw, gtmp, within, astore, splice, afill, allCells, okIdx, asrc, aflat, aappend, hintOk, PV.clo, PV.clo1, ofL_n, ofL_c, nams, reO, reP, reA, reC, srcI, setG, obG, List.cons.injEq, aeq1, aeqs, onG, Int.reduceLE, Int.reduceNeg, Int.reduceLT, Nat.reduceEqDiff, ↓reduceIte, Nat.reduceLT, Nat.reduceLeDiff, Nat.reduceAdd, Nat.reduceMul, Nat.reduceSub, reduceCtorEq, Int.reduceEq]
  refine acall_p true (eq_) (by simp [cv_Tag, cv_Node, cv_Way, cv_Area, cv_Int64, cv_Part, nl_Node, nl_Way, nl_Area, nr_Node, nr_Way, nr_Area, nl_Int64, nr_Int64, cMap, mkNodeS_len, mkWayS_len, mkAreaS_len, mkInt64S_len, obsT, obT, okO, okP, okA, okC, okD, okI, reP, reA, reC, srcI, Nl_nil, Nl_cons, PV.nl, upd_at, ofL_n, ofL_c, VS, argsT, lendA, lendL, lendT, Cvl_nil, Cvl_cons, Cv_bool, Cv_int, Cv_str, Cv_nils, Cv_nilc, Cv_cl, Cv_ow, noFn, PV.noF, NR_iff, NRO, hb, ares, ares1, ldo, ld, nOw, PV.isOw, TY]) (by simp [cv_Tag, cv_Node, cv_Way, cv_Area, cv_Int64, cv_Part, nl_Node, nl_Way, nl_Area, nr_Node, nr_Way, nr_Area, nl_Int64, nr_Int64, cMap, mkNodeS_len, mkWayS_len, mkAreaS_len, mkInt64S_len, obsT, obT, okO, okP, okA, okC, okD, okI, reP, reA, reC, srcI, Nl_nil, Nl_cons, PV.nl, upd_at, ofL_n, ofL_c, VS, argsT, lendA, lendL, lendT, Cvl_nil, Cvl_cons, Cv_bool, Cv_int, Cv_str, Cv_nils, Cv_nilc, Cv_cl, Cv_ow, noFn, PV.noF, NR_iff, NRO, hb, ares, ares1, ldo, ld, nOw, PV.isOw, TY]) (.inr tS) ?_
  simp only [hC, VS, VZ, TY, openC, foldC, foldN, PF, pick_or, pick_and, aop, aopD, rdN, wrN, idL, idA, apure, AS.ev, startA, strip, abin, aint, astr, alen, aslice, optI, aconv, aconvM, gdv, AS.put, ofVal, pcells, ld, ldo, nOw, PV.isOw, gtmp, within, astore, splice, afill, allCells, okIdx, asrc, aflat, aappend, hintOk, PV.clo, PV.clo1, ofL_n, ofL_c, nams, reO, reP, reA, reC, srcI, setG, obG, List.cons.injEq, aeq1, aeqs, onG, Int.reduceLE, Int.reduceNeg, Int.reduceLT, Nat.reduceEqDiff, ↓reduceIte, Nat.reduceLT, Nat.reduceLeDiff, Nat.reduceAdd, Nat.reduceMul, Nat.reduceSub, reduceCtorEq, Int.reduceEq]
  refine acall_go true [[9]] (mk_) (by simp [cv_Tag, cv_Node, cv_Way, cv_Area, cv_Int64, cv_Part, nl_Node, nl_Way, nl_Area, nr_Node, nr_Way, nr_Area, nl_Int64, nr_Int64, cMap, mkNodeS_len, mkWayS_len, mkAreaS_len, mkInt64S_len, obsT, obT, okO, okP, okA, okC, okD, okI, reP, reA, reC, srcI, Nl_nil, Nl_cons, PV.nl, upd_at, ofL_n, ofL_c, VS, argsT, lendA, lendL, lendT, Cvl_nil, Cvl_cons, Cv_bool, Cv_int, Cv_str, Cv_nils, Cv_nilc, Cv_cl, Cv_ow, noFn, PV.noF, NR_iff, NRO, hb, ares, ares1, ldo, ld, nOw, PV.isOw, TY]) (by simp [cv_Tag, cv_Node, cv_Way, cv_Area, cv_Int64, cv_Part, nl_Node, nl_Way, nl_Area, nr_Node, nr_Way, nr_Area, nl_Int64, nr_Int64, cMap, mkNodeS_len, mkWayS_len, mkAreaS_len, mkInt64S_len, obsT, obT, okO, okP, okA, okC, okD, okI, reP, reA, reC, srcI, Nl_nil, Nl_cons, PV.nl, upd_at, ofL_n, ofL_c, VS, argsT, lendA, lendL, lendT, Cvl_nil, Cvl_cons, Cv_bool, Cv_int, Cv_str, Cv_nils, Cv_nilc, Cv_cl, Cv_ow, noFn, PV.noF, NR_iff, NRO, hb, ares, ares1, ldo, ld, nOw, PV.isOw, TY]) (by simp [cv_Tag, cv_Node, cv_Way, cv_Area, cv_Int64, cv_Part, nl_Node, nl_Way, nl_Area, nr_Node, nr_Way, nr_Area, nl_Int64, nr_Int64, cMap, mkNodeS_len, mkWayS_len, mkAreaS_len, mkInt64S_len, obsT, obT, okO, okP, okA, okC, okD, okI, reP, reA, reC, srcI, Nl_nil, Nl_cons, PV.nl, upd_at, ofL_n, ofL_c, VS, argsT, lendA, lendL, lendT, Cvl_nil, Cvl_cons, Cv_bool, Cv_int, Cv_str, Cv_nils, Cv_nilc, Cv_cl, Cv_ow, noFn, PV.noF, NR_iff, NRO, hb, ares, ares1, ldo, ld, nOw, PV.isOw, TY]) tS tS (by simp [cv_Tag, cv_Node, cv_Way, cv_Area, cv_Int64, cv_Part, nl_Node, nl_Way, nl_Area, nr_Node, nr_Way, nr_Area, nl_Int64, nr_Int64, cMap, mkNodeS_len, mkWayS_len, mkAreaS_len, mkInt64S_len, obsT, obT, okO, okP, okA, okC, okD, okI, reP, reA, reC, srcI, Nl_nil, Nl_cons, PV.nl, upd_at, ofL_n, ofL_c, VS, argsT, lendA, lendL, lendT, Cvl_nil, Cvl_cons, Cv_bool, Cv_int, Cv_str, Cv_nils, Cv_nilc, Cv_cl, Cv_ow, noFn, PV.noF, NR_iff, NRO, hb, ares, ares1, ldo, ld, nOw, PV.isOw, TY]) (.inr ⟨by simp [obsT, obT, okO, okP, okA, okC, okD, okI, reP, reA, reC, srcI, Nl_nil, Nl_cons, PV.nl, upd_at, ofL_n, ofL_c, VS, argsT, lendA, lendL, lendT, Cvl_nil, Cvl_cons, Cv_bool, Cv_int, Cv_str, Cv_nils, Cv_nilc, Cv_cl, Cv_ow, noFn, PV.noF, NR_iff, NRO, hb, ares, ares1, ldo, ld, nOw, PV.isOw, TY], by simp [cv_Tag, cv_Node, cv_Way, cv_Area, cv_Int64, cv_Part, nl_Node, nl_Way, nl_Area, nr_Node, nr_Way, nr_Area, nl_Int64, nr_Int64, cMap, mkNodeS_len, mkWayS_len, mkAreaS_len, mkInt64S_len, obsT, obT, okO, okP, okA, okC, okD, okI, reP, reA, reC, srcI, Nl_nil, Nl_cons, PV.nl, upd_at, ofL_n, ofL_c, VS, argsT, lendA, lendL, lendT, Cvl_nil, Cvl_cons, Cv_bool, Cv_int, Cv_str, Cv_nils, Cv_nilc, Cv_cl, Cv_ow, noFn, PV.noF, NR_iff, NRO, hb, ares, ares1, ldo, ld, nOw, PV.isOw, TY]⟩) ?_
  simp only [hC, VS, VZ, TY, openC, foldC, foldN, PF, pick_or, pick_and, aop, aopD, rdN, wrN, idL, idA, apure, AS.ev, startA, strip, abin, aint, astr, alen, aslice, optI, aconv, aconvM, gdv, AS.put, ofVal, pcells, ld, ldo, nOw, PV.isOw, gtmp, within, astore, splice, afill, allCells, okIdx, asrc, aflat, aappend, hintOk, PV.clo, PV.clo1, ofL_n, ofL_c, nams, reO, reP, reA, reC, srcI, setG, obG, List.cons.injEq, aeq1, aeqs, onG, Int.reduceLE, Int.reduceNeg, Int.reduceLT, Nat.reduceEqDiff, ↓reduceIte, Nat.reduceLT, Nat.reduceLeDiff, Nat.reduceAdd, Nat.reduceMul, Nat.reduceSub, reduceCtorEq, Int.reduceEq]
  refine acall_p true (he_) (by simp [cv_Tag, cv_Node, cv_Way, cv_Area, cv_Int64, cv_Part, nl_Node, nl_Way, nl_Area, nr_Node, nr_Way, nr_Area, nl_Int64, nr_Int64, cMap, mkNodeS_len, mkWayS_len, mkAreaS_len, mkInt64S_len, obsT, obT, okO, okP, okA, okC, okD, okI, reP, reA, reC, srcI, Nl_nil, Nl_cons, PV.nl, upd_at, ofL_n, ofL_c, VS, argsT, lendA, lendL, lendT, Cvl_nil, Cvl_cons, Cv_bool, Cv_int, Cv_str, Cv_nils, Cv_nilc, Cv_cl, Cv_ow, noFn, PV.noF, NR_iff, NRO, hb, ares, ares1, ldo, ld, nOw, PV.isOw, TY]) (by simp [cv_Tag, cv_Node, cv_Way, cv_Area, cv_Int64, cv_Part, nl_Node, nl_Way, nl_Area, nr_Node, nr_Way, nr_Area, nl_Int64, nr_Int64, cMap, mkNodeS_len, mkWayS_len, mkAreaS_len, mkInt64S_len, obsT, obT, okO, okP, okA, okC, okD, okI, reP, reA, reC, srcI, Nl_nil, Nl_cons, PV.nl, upd_at, ofL_n, ofL_c, VS, argsT, lendA, lendL, lendT, Cvl_nil, Cvl_cons, Cv_bool, Cv_int, Cv_str, Cv_nils, Cv_nilc, Cv_cl, Cv_ow, noFn, PV.noF, NR_iff, NRO, hb, ares, ares1, ldo, ld, nOw, PV.isOw, TY]) (.inr tS) ?_
  simp only [hC, VS, VZ, TY, openC, foldC, foldN, PF, pick_or, pick_and, aop, aopD, rdN, wrN, idL, idA, apure, AS.ev, startA, strip, abin, aint, astr, alen, aslice, optI, aconv, aconvM, gdv, AS.put, ofVal, pcells, ld, ldo, nOw, PV.isOw, gtmp, within, astore, splice, afill, allCells, okIdx, asrc, aflat, aappend, hintOk, PV.clo, PV.clo1, ofL_n, ofL_c, nams, reO, reP, reA, reC, srcI, setG, obG, List.cons.injEq, aeq1, aeqs, onG, Int.reduceLE, Int.reduceNeg, Int.reduceLT, Nat.reduceEqDiff, ↓reduceIte, Nat.reduceLT, Nat.reduceLeDiff, Nat.reduceAdd, Nat.reduceMul, Nat.reduceSub, reduceCtorEq, Int.reduceEq]
  simp only [hC, hc1, VS, VZ, TY, openC, foldC, foldN, PF, pick_or, pick_and, aop, aopD, rdN, wrN, idL, idA, apure, AS.ev, startA, strip, abin, aint, astr, alen, aslice, optI, aconv, aconvM, gdv, AS.put, ofVal, pcells, ld, ldo, nOw, PV.isOw, gtmp, within, astore, splice, afill, allCells, okIdx, asrc, aflat, aappend, hintOk, PV.clo, PV.clo1, ofL_n, ofL_c, nams, reO, reP, reA, reC, srcI, setG, obG, List.cons.injEq, aeq1, aeqs, onG, Int.reduceLE, Int.reduceNeg, Int.reduceLT, Nat.reduceEqDiff, ↓reduceIte, Nat.reduceLT, Nat.reduceLeDiff, Nat.reduceAdd, Nat.reduceMul, Nat.reduceSub, reduceCtorEq, Int.reduceEq]
  refine acall_go true [] (to_) (by simp [cv_Tag, cv_Node, cv_Way, cv_Area, cv_Int64, cv_Part, nl_Node, nl_Way, nl_Area, nr_Node, nr_Way, nr_Area, nl_Int64, nr_Int64, cMap, mkNodeS_len, mkWayS_len, mkAreaS_len, mkInt64S_len, obsT, obT, okO, okP, okA, okC, okD, okI, reP, reA, reC, srcI, Nl_nil, Nl_cons, PV.nl, upd_at, ofL_n, ofL_c, VS, argsT, lendA, lendL, lendT, Cvl_nil, Cvl_cons, Cv_bool, Cv_int, Cv_str, Cv_nils, Cv_nilc, Cv_cl, Cv_ow, noFn, PV.noF, NR_iff, NRO, hb, ares, ares1, ldo, ld, nOw, PV.isOw, TY]) (by simp [cv_Tag, cv_Node, cv_Way, cv_Area, cv_Int64, cv_Part, nl_Node, nl_Way, nl_Area, nr_Node, nr_Way, nr_Area, nl_Int64, nr_Int64, cMap, mkNodeS_len, mkWayS_len, mkAreaS_len, mkInt64S_len, obsT, obT, okO, okP, okA, okC, okD, okI, reP, reA, reC, srcI, Nl_nil, Nl_cons, PV.nl, upd_at, ofL_n, ofL_c, VS, argsT, lendA, lendL, lendT, Cvl_nil, Cvl_cons, Cv_bool, Cv_int, Cv_str, Cv_nils, Cv_nilc, Cv_cl, Cv_ow, noFn, PV.noF, NR_iff, NRO, hb, ares, ares1, ldo, ld, nOw, PV.isOw, TY]) (by simp [cv_Tag, cv_Node, cv_Way, cv_Area, cv_Int64, cv_Part, nl_Node, nl_Way, nl_Area, nr_Node, nr_Way, nr_Area, nl_Int64, nr_Int64, cMap, mkNodeS_len, mkWayS_len, mkAreaS_len, mkInt64S_len, obsT, obT, okO, okP, okA, okC, okD, okI, reP, reA, reC, srcI, Nl_nil, Nl_cons, PV.nl, upd_at, ofL_n, ofL_c, VS, argsT, lendA, lendL, lendT, Cvl_nil, Cvl_cons, Cv_bool, Cv_int, Cv_str, Cv_nils, Cv_nilc, Cv_cl, Cv_ow, noFn, PV.noF, NR_iff, NRO, hb, ares, ares1, ldo, ld, nOw, PV.isOw, TY]) tS tS (by simp [cv_Tag, cv_Node, cv_Way, cv_Area, cv_Int64, cv_Part, nl_Node, nl_Way, nl_Area, nr_Node, nr_Way, nr_Area, nl_Int64, nr_Int64, cMap, mkNodeS_len, mkWayS_len, mkAreaS_len, mkInt64S_len, obsT, obT, okO, okP, okA, okC, okD, okI, reP, reA, reC, srcI, Nl_nil, Nl_cons, PV.nl, upd_at, ofL_n, ofL_c, VS, argsT, lendA, lendL, lendT, Cvl_nil, Cvl_cons, Cv_bool, Cv_int, Cv_str, Cv_nils, Cv_nilc, Cv_cl, Cv_ow, noFn, PV.noF, NR_iff, NRO, hb, ares, ares1, ldo, ld, nOw, PV.isOw, TY]) (.inr ⟨by simp [obsT, obT, okO, okP, okA, okC, okD, okI, reP, reA, reC, srcI, Nl_nil, Nl_cons, PV.nl, upd_at, ofL_n, ofL_c, VS, argsT, lendA, lendL, lendT, Cvl_nil, Cvl_cons, Cv_bool, Cv_int, Cv_str, Cv_nils, Cv_nilc, Cv_cl, Cv_ow, noFn, PV.noF, NR_iff, NRO, hb, ares, ares1, ldo, ld, nOw, PV.isOw, TY], by simp [cv_Tag, cv_Node, cv_Way, cv_Area, cv_Int64, cv_Part, nl_Node, nl_Way, nl_Area, nr_Node, nr_Way, nr_Area, nl_Int64, nr_Int64, cMap, mkNodeS_len, mkWayS_len, mkAreaS_len, mkInt64S_len, obsT, obT, okO, okP, okA, okC, okD, okI, reP, reA, reC, srcI, Nl_nil, Nl_cons, PV.nl, upd_at, ofL_n, ofL_c, VS, argsT, lendA, lendL, lendT, Cvl_nil, Cvl_cons, Cv_bool, Cv_int, Cv_str, Cv_nils, Cv_nilc, Cv_cl, Cv_ow, noFn, PV.noF, NR_iff, NRO, hb, ares, ares1, ldo, ld, nOw, PV.isOw, TY]⟩) ?_
  simp only [hC, VS, VZ, TY, openC, foldC, foldN, PF, pick_or, pick_and, aop, aopD, rdN, wrN, idL, idA, apure, AS.ev, startA, strip, abin, aint, astr, alen, aslice, optI, aconv, aconvM, gdv, AS.put, ofVal, pcells, ld, ldo, nOw, PV.isOw, gtmp, within, astore, splice, afill, allCells, okIdx, asrc, aflat, aappend, hintOk, PV.clo, PV.clo1, ofL_n, ofL_c, nams, reO, reP, reA, reC, srcI, setG, obG, List.cons.injEq, aeq1, aeqs, onG, Int.reduceLE, Int.reduceNeg, Int.reduceLT, Nat.reduceEqDiff, ↓reduceIte, Nat.reduceLT, Nat.reduceLeDiff, Nat.reduceAdd, Nat.reduceMul, Nat.reduceSub, reduceCtorEq, Int.reduceEq]
  refine acall_go true [] (im_) (by simp [cv_Tag, cv_Node, cv_Way, cv_Area, cv_Int64, cv_Part, nl_Node, nl_Way, nl_Area, nr_Node, nr_Way, nr_Area, nl_Int64, nr_Int64, cMap, mkNodeS_len, mkWayS_len, mkAreaS_len, mkInt64S_len, obsT, obT, okO, okP, okA, okC, okD, okI, reP, reA, reC, srcI, Nl_nil, Nl_cons, PV.nl, upd_at, ofL_n, ofL_c, VS, argsT, lendA, lendL, lendT, Cvl_nil, Cvl_cons, Cv_bool, Cv_int, Cv_str, Cv_nils, Cv_nilc, Cv_cl, Cv_ow, noFn, PV.noF, NR_iff, NRO, hb, ares, ares1, ldo, ld, nOw, PV.isOw, TY]) (by simp [cv_Tag, cv_Node, cv_Way, cv_Area, cv_Int64, cv_Part, nl_Node, nl_Way, nl_Area, nr_Node, nr_Way, nr_Area, nl_Int64, nr_Int64, cMap, mkNodeS_len, mkWayS_len, mkAreaS_len, mkInt64S_len, obsT, obT, okO, okP, okA, okC, okD, okI, reP, reA, reC, srcI, Nl_nil, Nl_cons, PV.nl, upd_at, ofL_n, ofL_c, VS, argsT, lendA, lendL, lendT, Cvl_nil, Cvl_cons, Cv_bool, Cv_int, Cv_str, Cv_nils, Cv_nilc, Cv_cl, Cv_ow, noFn, PV.noF, NR_iff, NRO, hb, ares, ares1, ldo, ld, nOw, PV.isOw, TY]) (by simp [cv_Tag, cv_Node, cv_Way, cv_Area, cv_Int64, cv_Part, nl_Node, nl_Way, nl_Area, nr_Node, nr_Way, nr_Area, nl_Int64, nr_Int64, cMap, mkNodeS_len, mkWayS_len, mkAreaS_len, mkInt64S_len, obsT, obT, okO, okP, okA, okC, okD, okI, reP, reA, reC, srcI, Nl_nil, Nl_cons, PV.nl, upd_at, ofL_n, ofL_c, VS, argsT, lendA, lendL, lendT, Cvl_nil, Cvl_cons, Cv_bool, Cv_int, Cv_str, Cv_nils, Cv_nilc, Cv_cl, Cv_ow, noFn, PV.noF, NR_iff, NRO, hb, ares, ares1, ldo, ld, nOw, PV.isOw, TY]) tS tS (by simp [cv_Tag, cv_Node, cv_Way, cv_Area, cv_Int64, cv_Part, nl_Node, nl_Way, nl_Area, nr_Node, nr_Way, nr_Area, nl_Int64, nr_Int64, cMap, mkNodeS_len, mkWayS_len, mkAreaS_len, mkInt64S_len, obsT, obT, okO, okP, okA, okC, okD, okI, reP, reA, reC, srcI, Nl_nil, Nl_cons, PV.nl, upd_at, ofL_n, ofL_c, VS, argsT, lendA, lendL, lendT, Cvl_nil, Cvl_cons, Cv_bool, Cv_int, Cv_str, Cv_nils, Cv_nilc, Cv_cl, Cv_ow, noFn, PV.noF, NR_iff, NRO, hb, ares, ares1, ldo, ld, nOw, PV.isOw, TY]) (.inr ⟨by simp [obsT, obT, okO, okP, okA, okC, okD, okI, reP, reA, reC, srcI, Nl_nil, Nl_cons, PV.nl, upd_at, ofL_n, ofL_c, VS, argsT, lendA, lendL, lendT, Cvl_nil, Cvl_cons, Cv_bool, Cv_int, Cv_str, Cv_nils, Cv_nilc, Cv_cl, Cv_ow, noFn, PV.noF, NR_iff, NRO, hb, ares, ares1, ldo, ld, nOw, PV.isOw, TY], by simp [cv_Tag, cv_Node, cv_Way, cv_Area, cv_Int64, cv_Part, nl_Node, nl_Way, nl_Area, nr_Node, nr_Way, nr_Area, nl_Int64, nr_Int64, cMap, mkNodeS_len, mkWayS_len, mkAreaS_len, mkInt64S_len, obsT, obT, okO, okP, okA, okC, okD, okI, reP, reA, reC, srcI, Nl_nil, Nl_cons, PV.nl, upd_at, ofL_n, ofL_c, VS, argsT, lendA, lendL, lendT, Cvl_nil, Cvl_cons, Cv_bool, Cv_int, Cv_str, Cv_nils, Cv_nilc, Cv_cl, Cv_ow, noFn, PV.noF, NR_iff, NRO, hb, ares, ares1, ldo, ld, nOw, PV.isOw, TY]⟩) ?_
  simp only [hC, VS, VZ, TY, openC, foldC, foldN, PF, pick_or, pick_and, aop, aopD, rdN, wrN, idL, idA, apure, AS.ev, startA, strip, abin, aint, astr, alen, aslice, optI, aconv, aconvM, gdv, AS.put, ofVal, pcells, ld, ldo, nOw, PV.isOw, gtmp, within, astore, splice, afill, allCells, okIdx, asrc, aflat, aappend, hintOk, PV.clo, PV.clo1, ofL_n, ofL_c, nams, reO, reP, reA, reC, srcI, setG, obG, List.cons.injEq, aeq1, aeqs, onG, Int.reduceLE, Int.reduceNeg, Int.reduceLT, Nat.reduceEqDiff, ↓reduceIte, Nat.reduceLT, Nat.reduceLeDiff, Nat.reduceAdd, Nat.reduceMul, Nat.reduceSub, reduceCtorEq, Int.reduceEq]
  refine acall_p true (eq_) (by simp [cv_Tag, cv_Node, cv_Way, cv_Area, cv_Int64, cv_Part, nl_Node, nl_Way, nl_Area, nr_Node, nr_Way, nr_Area, nl_Int64, nr_Int64, cMap, mkNodeS_len, mkWayS_len, mkAreaS_len, mkInt64S_len, obsT, obT, okO, okP, okA, okC, okD, okI, reP, reA, reC, srcI, Nl_nil, Nl_cons, PV.nl, upd_at, ofL_n, ofL_c, VS, argsT, lendA, lendL, lendT, Cvl_nil, Cvl_cons, Cv_bool, Cv_int, Cv_str, Cv_nils, Cv_nilc, Cv_cl, Cv_ow, noFn, PV.noF, NR_iff, NRO, hb, ares, ares1, ldo, ld, nOw, PV.isOw, TY]) (by simp [cv_Tag, cv_Node, cv_Way, cv_Area, cv_Int64, cv_Part, nl_Node, nl_Way, nl_Area, nr_Node, nr_Way, nr_Area, nl_Int64, nr_Int64, cMap, mkNodeS_len, mkWayS_len, mkAreaS_len, mkInt64S_len, obsT, obT, okO, okP, okA, okC, okD, okI, reP, reA, reC, srcI, Nl_nil, Nl_cons, PV.nl, upd_at, ofL_n, ofL_c, VS, argsT, lendA, lendL, lendT, Cvl_nil, Cvl_cons, Cv_bool, Cv_int, Cv_str, Cv_nils, Cv_nilc, Cv_cl, Cv_ow, noFn, PV.noF, NR_iff, NRO, hb, ares, ares1, ldo, ld, nOw, PV.isOw, TY]) (.inr tS) ?_
  simp only [hC, VS, VZ, TY, openC, foldC, foldN, PF, pick_or, pick_and, aop, aopD, rdN, wrN, idL, idA, apure, AS.ev, startA, strip, abin, aint, astr, alen, aslice, optI, aconv, aconvM, gdv, AS.put, ofVal, pcells, ld, ldo, nOw, PV.isOw, gtmp, within, astore, splice, afill, allCells, okIdx, asrc, aflat, aappend, hintOk, PV.clo, PV.clo1, ofL_n, ofL_c, nams, reO, reP, reA, reC, srcI, setG, obG, List.cons.injEq, aeq1, aeqs, onG, Int.reduceLE, Int.reduceNeg, Int.reduceLT, Nat.reduceEqDiff, ↓reduceIte, Nat.reduceLT, Nat.reduceLeDiff, Nat.reduceAdd, Nat.reduceMul, Nat.reduceSub, reduceCtorEq, Int.reduceEq]
  refine acall_p true (he_) (by simp [cv_Tag, cv_Node, cv_Way, cv_Area, cv_Int64, cv_Part, nl_Node, nl_Way, nl_Area, nr_Node, nr_Way, nr_Area, nl_Int64, nr_Int64, cMap, mkNodeS_len, mkWayS_len, mkAreaS_len, mkInt64S_len, obsT, obT, okO, okP, okA, okC, okD, okI, reP, reA, reC, srcI, Nl_nil, Nl_cons, PV.nl, upd_at, ofL_n, ofL_c, VS, argsT, lendA, lendL, lendT, Cvl_nil, Cvl_cons, Cv_bool, Cv_int, Cv_str, Cv_nils, Cv_nilc, Cv_cl, Cv_ow, noFn, PV.noF, NR_iff, NRO, hb, ares, ares1, ldo, ld, nOw, PV.isOw, TY]) (by simp [cv_Tag, cv_Node, cv_Way, cv_Area, cv_Int64, cv_Part, nl_Node, nl_Way, nl_Area, nr_Node, nr_Way, nr_Area, nl_Int64, nr_Int64, cMap, mkNodeS_len, mkWayS_len, mkAreaS_len, mkInt64S_len, obsT, obT, okO, okP, okA, okC, okD, okI, reP, reA, reC, srcI, Nl_nil, Nl_cons, PV.nl, upd_at, ofL_n, ofL_c, VS, argsT, lendA, lendL, lendT, Cvl_nil, Cvl_cons, Cv_bool, Cv_int, Cv_str, Cv_nils, Cv_nilc, Cv_cl, Cv_ow, noFn, PV.noF, NR_iff, NRO, hb, ares, ares1, ldo, ld, nOw, PV.isOw, TY]) (.inr tS) ?_
  simp only [hC, VS, VZ, TY, openC, foldC, foldN, PF, pick_or, pick_and, aop, aopD, rdN, wrN, idL, idA, apure, AS.ev, startA, strip, abin, aint, astr, alen, aslice, optI, aconv, aconvM, gdv, AS.put, ofVal, pcells, ld, ldo, nOw, PV.isOw, gtmp, within, astore, splice, afill, allCells, okIdx, asrc, aflat, aappend, hintOk, PV.clo, PV.clo1, ofL_n, ofL_c, nams, reO, reP, reA, reC, srcI, setG, obG, List.cons.injEq, aeq1, aeqs, onG, Int.reduceLE, Int.reduceNeg, Int.reduceLT, Nat.reduceEqDiff, ↓reduceIte, Nat.reduceLT, Nat.reduceLeDiff, Nat.reduceAdd, Nat.reduceMul, Nat.reduceSub, reduceCtorEq, Int.reduceEq]
  simp only [hC, hc1, VS, VZ, TY, openC, foldC, foldN, PF, pick_or, pick_and, aop, aopD, rdN, wrN, idL, idA, apure, AS.ev, startA, strip, abin, aint, astr, alen, aslice, optI, aconv, aconvM, gdv, AS.put, ofVal, pcells, ld, ldo, nOw, PV.isOw, gtmp, within, astore, splice, afill, allCells, okIdx, asrc, aflat, aappend, hintOk, PV.clo, PV.clo1, ofL_n, ofL_c, nams, reO, reP, reA, reC, srcI, setG, obG, List.cons.injEq, aeq1, aeqs, onG, Int.reduceLE, Int.reduceNeg, Int.reduceLT, Nat.reduceEqDiff, ↓reduceIte, Nat.reduceLT, Nat.reduceLeDiff, Nat.reduceAdd, Nat.reduceMul, Nat.reduceSub, reduceCtorEq, Int.reduceEq]
  exact Ret_go [] tS tS tS
end Go.Proofs.Ytppfogbgbpadiaa.Wd
