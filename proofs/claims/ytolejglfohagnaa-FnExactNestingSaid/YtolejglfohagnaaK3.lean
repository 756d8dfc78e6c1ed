/- The laws' copies, sizes, comparisons, marks. -/
import Derived.Test.YtolejglfohagnaaK2
namespace Go.Proofs.Ytolejglfohagnaa.Wd
open Go Go.RowKit Go.Proofs Go.Proofs.YtolejglfohagnaaW.AW
set_option linter.unusedVariables false
set_option linter.unusedSimpArgs false
set_option maxRecDepth 100000
def cntPoint (x : (Int × Int)) : Nat := 2
def mkPoint (k : Int) (x : (Int × Int)) : (Int × Int) := (k, k + 1)
def cntPointS : List (Int × Int) → Nat
  | [] => 0
  | x :: L => cntPoint x + cntPointS L
def mkPointS (k : Int) : List (Int × Int) → List (Int × Int)
  | [] => []
  | x :: L => mkPoint k x :: mkPointS (k + (cntPoint x : Nat)) L
theorem cntPointS_ge (L : List (Int × Int)) : L.length ≤ cntPointS L := by
  induction L with
  | nil => simp
  | cons x L ih => simp only [List.length_cons, cntPointS, cntPoint]; omega
theorem mkPointS_len (k : Int) (L) : (mkPointS k L).length = L.length := by
  induction L generalizing k with
  | nil => rfl
  | cons x L ih => simp [mkPointS, ih]
def cntInt64 (x : Int) : Nat := 1
def mkInt64 (k : Int) (x : Int) : Int := k
def cntInt64S : List Int → Nat
  | [] => 0
  | x :: L => cntInt64 x + cntInt64S L
def mkInt64S (k : Int) : List Int → List Int
  | [] => []
  | x :: L => mkInt64 k x :: mkInt64S (k + (cntInt64 x : Nat)) L
theorem cntInt64S_ge (L : List Int) : L.length ≤ cntInt64S L := by
  induction L with
  | nil => simp
  | cons x L ih => simp only [List.length_cons, cntInt64S, cntInt64]; omega
theorem mkInt64S_len (k : Int) (L) : (mkInt64S k L).length = L.length := by
  induction L generalizing k with
  | nil => rfl
  | cons x L ih => simp [mkInt64S, ih]
def cntRing (x : (List (Int × Int) × Bool)) : Nat := 1 + cntPointS x.1
def mkRing (k : Int) (x : (List (Int × Int) × Bool)) : (List (Int × Int) × Bool) := (mkPointS (k) x.1, decide ((k + ((cntPointS x.1 : Nat) : Int)).tmod 3 = 0))
def cntRingS : List (List (Int × Int) × Bool) → Nat
  | [] => 0
  | x :: L => cntRing x + cntRingS L
def mkRingS (k : Int) : List (List (Int × Int) × Bool) → List (List (Int × Int) × Bool)
  | [] => []
  | x :: L => mkRing k x :: mkRingS (k + (cntRing x : Nat)) L
theorem cntRingS_ge (L : List (List (Int × Int) × Bool)) : L.length ≤ cntRingS L := by
  induction L with
  | nil => simp
  | cons x L ih => simp only [List.length_cons, cntRingS, cntRing]; omega
theorem mkRingS_len (k : Int) (L) : (mkRingS k L).length = L.length := by
  induction L generalizing k with
  | nil => rfl
  | cons x L ih => simp [mkRingS, ih]
theorem c_markPointS (L : List (Int × Int)) (k : Int) (hk0 : 0 ≤ k) (hk : k + (cntPointS L : Nat) ≤ 4611686018427387904) : AC Try.prog 107 [.sl [0] 2 L.length 0 L.length, .int .i64 k] (ML [.row 2 L.length (lpv pPoint L)]) (.int .i64 (k + (cntPointS L : Nat))) (ML [.row 2 L.length (lpv pPoint (mkPointS k L))]) := by
  refine AC.ofA Try.func107 rfl rfl (by simp [Try.ntmps107]) rfl (fun C hC hm => ?_)
  rw [Try.ntmps107] at hC
  have hn : C.m0.nx = _ := congrArg Mem.nx hm
  simp only [ML_nx, List.length_nil, List.length_cons, Nat.zero_add, Nat.reduceAdd] at hn
  have hL := cntPointS_ge L
  have hML := mkPointS_len k L
  generalize hM : mkPointS k L = M at *
  obtain ⟨r, hr⟩ : ∃ r : Int, r = k + (cntPointS L : Nat) := ⟨_, rfl⟩
  rw [← hr]
  rw [← hr] at hk
  refine vc_ok _ _ _ ?_
  simp only [hC, VS, VZ, TY, openC, foldC, foldN, PF, pick_or, pick_and, aop, aopD, rdN, wrN, idL, idA, apure, AS.ev, startA, strip, abin, aint, astr, alen, aslice, optI, aconv, aconvM, gdv, AS.put, ofVal, pcells, ld, ldo, nOw, PV.isOw, gtmp, within, astore, splice, afill, allCells, okIdx, asrc, aflat, aappend, hintOk, PV.clo, PV.clo1, ofL_n, ofL_c, nams, reO, reP, reA, reC, srcI, setG, obG, List.cons.injEq, aeq1, aeqs, onG, Int.reduceLE, Int.reduceNeg, Int.reduceLT, Nat.reduceEqDiff, ↓reduceIte, Nat.reduceLT, Nat.reduceLeDiff, Nat.reduceAdd, Nat.reduceMul, Nat.reduceSub, reduceCtorEq, Int.reduceEq]
  refine AL.go (X := Nat × Int) (fun p => ⟨ofL [(0, .sl [0] 2 L.length 0 L.length), (1, .int .i64 p.2), (5, .int .i64 (p.1 : Int))], ML [.row 2 L.length (upto p.1 (lpv pPoint M) (lpv pPoint L))]⟩) (fun p => L.length - p.1) (fun p => p.1 ≤ L.length ∧ 0 ≤ p.2 ∧ M.drop p.1 = mkPointS p.2 (L.drop p.1) ∧ r = p.2 + (cntPointS (L.drop p.1) : Nat)) (0, k) ⟨Nat.zero_le _, hk0, by simp [hM], by simpa using hr⟩
    (Told_go hn [[0]] (by simp [obsT, obT, okO, okP, okA, okC, okD, okI, reP, reA, reC, srcI, Nl_nil, Nl_cons, PV.nl, upd_at, ofL_n, ofL_c, VS, argsT, lendA, lendL, lendT, Cvl_nil, Cvl_cons, Cv_bool, Cv_int, Cv_str, Cv_nils, Cv_nilc, Cv_cl, Cv_ow, noFn, PV.noF, NR_iff, NRO, hb, ares, ares1, ldo, ld, nOw, PV.isOw, TY]) (by simp [upto_0, nl_Point, obsT, obT, okO, okP, okA, okC, okD, okI, reP, reA, reC, srcI, Nl_nil, Nl_cons, PV.nl, upd_at, ofL_n, ofL_c, VS, argsT, lendA, lendL, lendT, Cvl_nil, Cvl_cons, Cv_bool, Cv_int, Cv_str, Cv_nils, Cv_nilc, Cv_cl, Cv_ow, noFn, PV.noF, NR_iff, NRO, hb, ares, ares1, ldo, ld, nOw, PV.isOw, TY]) (by simp [upto_0, nl_Point, obsT, obT, okO, okP, okA, okC, okD, okI, reP, reA, reC, srcI, Nl_nil, Nl_cons, PV.nl, upd_at, ofL_n, ofL_c, VS, argsT, lendA, lendL, lendT, Cvl_nil, Cvl_cons, Cv_bool, Cv_int, Cv_str, Cv_nils, Cv_nilc, Cv_cl, Cv_ow, noFn, PV.noF, NR_iff, NRO, hb, ares, ares1, ldo, ld, nOw, PV.isOw, TY])) ?_
  rintro ⟨i, k⟩ ⟨hi, hk0, hM, hr⟩
  simp only at hi hk0 hM hr ⊢
  by_cases h : i < L.length
  · have eo : lpv pPoint L i = [.int .i64 L[i].1, .int .i64 L[i].2] := lpv_at h
    have hcx : cntPoint L[i] = 2 := rfl
    have hdec : decide ((i : Int) < (L.length : Int)) = true := by simpa using h
    have hbi : (0 ≤ (i : Int) ∧ (i : Int) < (L.length : Int)) ↔ True := by simp; omega
    rw [List.drop_eq_getElem_cons h, List.drop_eq_getElem_cons (show i < M.length by omega), mkPointS, List.cons.injEq] at hM
    rw [List.drop_eq_getElem_cons h, cntPointS] at hr
    have em : lpv pPoint M i = [.int .i64 (k), .int .i64 (k + 1)] := by rw [lpv_at (show i < M.length by omega), hM.1]; simp [pPoint, mkPoint, upd_at]
    refine vc_ok _ _ _ ?_
    simp only [hC, eo, hdec, hbi, VS, VZ, TY, openC, foldC, foldN, PF, pick_or, pick_and, aop, aopD, rdN, wrN, idL, idA, apure, AS.ev, startA, strip, abin, aint, astr, alen, aslice, optI, aconv, aconvM, gdv, AS.put, ofVal, pcells, ld, ldo, nOw, PV.isOw, gtmp, within, astore, splice, afill, allCells, okIdx, asrc, aflat, aappend, hintOk, PV.clo, PV.clo1, ofL_n, ofL_c, nams, reO, reP, reA, reC, srcI, setG, obG, List.cons.injEq, aeq1, aeqs, onG, Int.reduceLE, Int.reduceNeg, Int.reduceLT, Nat.reduceEqDiff, ↓reduceIte, Nat.reduceLT, Nat.reduceLeDiff, Nat.reduceAdd, Nat.reduceMul, Nat.reduceSub, reduceCtorEq, Int.reduceEq]
    try (simp (disch := omega) only [wr64, Int.add_assoc, Int.reduceAdd, eq_self, decide_true, decide_false, Bool.not_true, Bool.not_false, true_implies, false_implies, Bool.false_eq_true, Bool.true_eq_false, and_true, true_and, and_self, beq_self_eq_true])
    refine ⟨(i + 1, k + (cntPoint L[i] : Nat)), ⟨by simp only; omega, by simp only; omega, hM.2, by simp only; omega⟩, by simp only; omega, ?_⟩
    refine Told_go hn [[0]] (by simp [obsT, obT, okO, okP, okA, okC, okD, okI, reP, reA, reC, srcI, Nl_nil, Nl_cons, PV.nl, upd_at, ofL_n, ofL_c, VS, argsT, lendA, lendL, lendT, Cvl_nil, Cvl_cons, Cv_bool, Cv_int, Cv_str, Cv_nils, Cv_nilc, Cv_cl, Cv_ow, noFn, PV.noF, NR_iff, NRO, hb, ares, ares1, ldo, ld, nOw, PV.isOw, TY] <;> omega) ?_ ?_
    · simp only [obsT, obT, VS, VZ, TY, openC, foldC, foldN, PF, pick_or, pick_and, aop, aopD, rdN, wrN, idL, idA, apure, AS.ev, startA, strip, abin, aint, astr, alen, aslice, optI, aconv, aconvM, gdv, AS.put, ofVal, pcells, ld, ldo, nOw, PV.isOw, gtmp, within, astore, splice, afill, allCells, okIdx, asrc, aflat, aappend, hintOk, PV.clo, PV.clo1, ofL_n, ofL_c, nams, reO, reP, reA, reC, srcI, setG, obG, List.cons.injEq, aeq1, aeqs, onG, Int.reduceLE, Int.reduceNeg, Int.reduceLT, Nat.reduceEqDiff, ↓reduceIte, Nat.reduceLT, Nat.reduceLeDiff, Nat.reduceAdd, Nat.reduceMul, Nat.reduceSub, reduceCtorEq, Int.reduceEq]
      intro j hj
      by_cases q : j = i
      · subst q; simp [upto_eq, em, eo, obsT, obT, okO, okP, okA, okC, okD, okI, reP, reA, reC, srcI, Nl_nil, Nl_cons, PV.nl, upd_at, ofL_n, ofL_c, VS, argsT, lendA, lendL, lendT, Cvl_nil, Cvl_cons, Cv_bool, Cv_int, Cv_str, Cv_nils, Cv_nilc, Cv_cl, Cv_ow, noFn, PV.noF, NR_iff, NRO, hb, ares, ares1, ldo, ld, nOw, PV.isOw, TY]
      · simp [upto_ne q, q, Nl_upto, nl_Point, obsT, obT, okO, okP, okA, okC, okD, okI, reP, reA, reC, srcI, Nl_nil, Nl_cons, PV.nl, upd_at, ofL_n, ofL_c, VS, argsT, lendA, lendL, lendT, Cvl_nil, Cvl_cons, Cv_bool, Cv_int, Cv_str, Cv_nils, Cv_nilc, Cv_cl, Cv_ow, noFn, PV.noF, NR_iff, NRO, hb, ares, ares1, ldo, ld, nOw, PV.isOw, TY]
    · simp [Nl_upto, nl_Point, obsT, obT, okO, okP, okA, okC, okD, okI, reP, reA, reC, srcI, Nl_nil, Nl_cons, PV.nl, upd_at, ofL_n, ofL_c, VS, argsT, lendA, lendL, lendT, Cvl_nil, Cvl_cons, Cv_bool, Cv_int, Cv_str, Cv_nils, Cv_nilc, Cv_cl, Cv_ow, noFn, PV.noF, NR_iff, NRO, hb, ares, ares1, ldo, ld, nOw, PV.isOw, TY]
  · have : i = L.length := by omega
    subst this
    have hdec : decide ((L.length : Int) < (L.length : Int)) = false := by simp
    have hr : r = k := by simpa [cntPointS] using hr
    refine vc_ok _ _ _ ?_
    simp only [hC, hdec, VS, VZ, TY, openC, foldC, foldN, PF, pick_or, pick_and, aop, aopD, rdN, wrN, idL, idA, apure, AS.ev, startA, strip, abin, aint, astr, alen, aslice, optI, aconv, aconvM, gdv, AS.put, ofVal, pcells, ld, ldo, nOw, PV.isOw, gtmp, within, astore, splice, afill, allCells, okIdx, asrc, aflat, aappend, hintOk, PV.clo, PV.clo1, ofL_n, ofL_c, nams, reO, reP, reA, reC, srcI, setG, obG, List.cons.injEq, aeq1, aeqs, onG, Int.reduceLE, Int.reduceNeg, Int.reduceLT, Nat.reduceEqDiff, ↓reduceIte, Nat.reduceLT, Nat.reduceLeDiff, Nat.reduceAdd, Nat.reduceMul, Nat.reduceSub, reduceCtorEq, Int.reduceEq]
    exact Ret_go [[0]] (by simp [hr, obsT, obT, okO, okP, okA, okC, okD, okI, reP, reA, reC, srcI, Nl_nil, Nl_cons, PV.nl, upd_at, ofL_n, ofL_c, VS, argsT, lendA, lendL, lendT, Cvl_nil, Cvl_cons, Cv_bool, Cv_int, Cv_str, Cv_nils, Cv_nilc, Cv_cl, Cv_ow, noFn, PV.noF, NR_iff, NRO, hb, ares, ares1, ldo, ld, nOw, PV.isOw, TY]) (by simp (config := {contextual := true}) [upto_lt, nl_Point, obsT, obT, okO, okP, okA, okC, okD, okI, reP, reA, reC, srcI, Nl_nil, Nl_cons, PV.nl, upd_at, ofL_n, ofL_c, VS, argsT, lendA, lendL, lendT, Cvl_nil, Cvl_cons, Cv_bool, Cv_int, Cv_str, Cv_nils, Cv_nilc, Cv_cl, Cv_ow, noFn, PV.noF, NR_iff, NRO, hb, ares, ares1, ldo, ld, nOw, PV.isOw, TY]) (by simp [nl_Point, obsT, obT, okO, okP, okA, okC, okD, okI, reP, reA, reC, srcI, Nl_nil, Nl_cons, PV.nl, upd_at, ofL_n, ofL_c, VS, argsT, lendA, lendL, lendT, Cvl_nil, Cvl_cons, Cv_bool, Cv_int, Cv_str, Cv_nils, Cv_nilc, Cv_cl, Cv_ow, noFn, PV.noF, NR_iff, NRO, hb, ares, ares1, ldo, ld, nOw, PV.isOw, TY])
theorem c_markInt64S (L : List Int) (k : Int) (hk0 : 0 ≤ k) (hk : k + (cntInt64S L : Nat) ≤ 4611686018427387904) : AC Try.prog 64 [.sl [0] 1 L.length 0 L.length, .int .i64 k] (ML [.row 1 L.length (lpv pInt64 L)]) (.int .i64 (k + (cntInt64S L : Nat))) (ML [.row 1 L.length (lpv pInt64 (mkInt64S k L))]) := by
  refine AC.ofA Try.func64 rfl rfl (by simp [Try.ntmps64]) rfl (fun C hC hm => ?_)
  rw [Try.ntmps64] at hC
  have hn : C.m0.nx = _ := congrArg Mem.nx hm
  simp only [ML_nx, List.length_nil, List.length_cons, Nat.zero_add, Nat.reduceAdd] at hn
  have hL := cntInt64S_ge L
  have hML := mkInt64S_len k L
  generalize hM : mkInt64S k L = M at *
  obtain ⟨r, hr⟩ : ∃ r : Int, r = k + (cntInt64S L : Nat) := ⟨_, rfl⟩
  rw [← hr]
  rw [← hr] at hk
  refine vc_ok _ _ _ ?_
  simp only [hC, VS, VZ, TY, openC, foldC, foldN, PF, pick_or, pick_and, aop, aopD, rdN, wrN, idL, idA, apure, AS.ev, startA, strip, abin, aint, astr, alen, aslice, optI, aconv, aconvM, gdv, AS.put, ofVal, pcells, ld, ldo, nOw, PV.isOw, gtmp, within, astore, splice, afill, allCells, okIdx, asrc, aflat, aappend, hintOk, PV.clo, PV.clo1, ofL_n, ofL_c, nams, reO, reP, reA, reC, srcI, setG, obG, List.cons.injEq, aeq1, aeqs, onG, Int.reduceLE, Int.reduceNeg, Int.reduceLT, Nat.reduceEqDiff, ↓reduceIte, Nat.reduceLT, Nat.reduceLeDiff, Nat.reduceAdd, Nat.reduceMul, Nat.reduceSub, reduceCtorEq, Int.reduceEq]
  refine AL.go (X := Nat × Int) (fun p => ⟨ofL [(0, .sl [0] 1 L.length 0 L.length), (1, .int .i64 p.2), (5, .int .i64 (p.1 : Int))], ML [.row 1 L.length (upto p.1 (lpv pInt64 M) (lpv pInt64 L))]⟩) (fun p => L.length - p.1) (fun p => p.1 ≤ L.length ∧ 0 ≤ p.2 ∧ M.drop p.1 = mkInt64S p.2 (L.drop p.1) ∧ r = p.2 + (cntInt64S (L.drop p.1) : Nat)) (0, k) ⟨Nat.zero_le _, hk0, by simp [hM], by simpa using hr⟩
    (Told_go hn [[0]] (by simp [obsT, obT, okO, okP, okA, okC, okD, okI, reP, reA, reC, srcI, Nl_nil, Nl_cons, PV.nl, upd_at, ofL_n, ofL_c, VS, argsT, lendA, lendL, lendT, Cvl_nil, Cvl_cons, Cv_bool, Cv_int, Cv_str, Cv_nils, Cv_nilc, Cv_cl, Cv_ow, noFn, PV.noF, NR_iff, NRO, hb, ares, ares1, ldo, ld, nOw, PV.isOw, TY]) (by simp [upto_0, nl_Int64, obsT, obT, okO, okP, okA, okC, okD, okI, reP, reA, reC, srcI, Nl_nil, Nl_cons, PV.nl, upd_at, ofL_n, ofL_c, VS, argsT, lendA, lendL, lendT, Cvl_nil, Cvl_cons, Cv_bool, Cv_int, Cv_str, Cv_nils, Cv_nilc, Cv_cl, Cv_ow, noFn, PV.noF, NR_iff, NRO, hb, ares, ares1, ldo, ld, nOw, PV.isOw, TY]) (by simp [upto_0, nl_Int64, obsT, obT, okO, okP, okA, okC, okD, okI, reP, reA, reC, srcI, Nl_nil, Nl_cons, PV.nl, upd_at, ofL_n, ofL_c, VS, argsT, lendA, lendL, lendT, Cvl_nil, Cvl_cons, Cv_bool, Cv_int, Cv_str, Cv_nils, Cv_nilc, Cv_cl, Cv_ow, noFn, PV.noF, NR_iff, NRO, hb, ares, ares1, ldo, ld, nOw, PV.isOw, TY])) ?_
  rintro ⟨i, k⟩ ⟨hi, hk0, hM, hr⟩
  simp only at hi hk0 hM hr ⊢
  by_cases h : i < L.length
  · have eo : lpv pInt64 L i = [.int .i64 L[i]] := lpv_at h
    have hcx : cntInt64 L[i] = 1 := rfl
    have hdec : decide ((i : Int) < (L.length : Int)) = true := by simpa using h
    have hbi : (0 ≤ (i : Int) ∧ (i : Int) < (L.length : Int)) ↔ True := by simp; omega
    rw [List.drop_eq_getElem_cons h, List.drop_eq_getElem_cons (show i < M.length by omega), mkInt64S, List.cons.injEq] at hM
    rw [List.drop_eq_getElem_cons h, cntInt64S] at hr
    have em : lpv pInt64 M i = [.int .i64 (k)] := by rw [lpv_at (show i < M.length by omega), hM.1]; simp [pInt64, mkInt64, upd_at]
    refine vc_ok _ _ _ ?_
    simp only [hC, eo, hdec, hbi, VS, VZ, TY, openC, foldC, foldN, PF, pick_or, pick_and, aop, aopD, rdN, wrN, idL, idA, apure, AS.ev, startA, strip, abin, aint, astr, alen, aslice, optI, aconv, aconvM, gdv, AS.put, ofVal, pcells, ld, ldo, nOw, PV.isOw, gtmp, within, astore, splice, afill, allCells, okIdx, asrc, aflat, aappend, hintOk, PV.clo, PV.clo1, ofL_n, ofL_c, nams, reO, reP, reA, reC, srcI, setG, obG, List.cons.injEq, aeq1, aeqs, onG, Int.reduceLE, Int.reduceNeg, Int.reduceLT, Nat.reduceEqDiff, ↓reduceIte, Nat.reduceLT, Nat.reduceLeDiff, Nat.reduceAdd, Nat.reduceMul, Nat.reduceSub, reduceCtorEq, Int.reduceEq]
    try (simp (disch := omega) only [wr64, Int.add_assoc, Int.reduceAdd, eq_self, decide_true, decide_false, Bool.not_true, Bool.not_false, true_implies, false_implies, Bool.false_eq_true, Bool.true_eq_false, and_true, true_and, and_self, beq_self_eq_true])
    refine ⟨(i + 1, k + (cntInt64 L[i] : Nat)), ⟨by simp only; omega, by simp only; omega, hM.2, by simp only; omega⟩, by simp only; omega, ?_⟩
    refine Told_go hn [[0]] (by simp [obsT, obT, okO, okP, okA, okC, okD, okI, reP, reA, reC, srcI, Nl_nil, Nl_cons, PV.nl, upd_at, ofL_n, ofL_c, VS, argsT, lendA, lendL, lendT, Cvl_nil, Cvl_cons, Cv_bool, Cv_int, Cv_str, Cv_nils, Cv_nilc, Cv_cl, Cv_ow, noFn, PV.noF, NR_iff, NRO, hb, ares, ares1, ldo, ld, nOw, PV.isOw, TY] <;> omega) ?_ ?_
    · simp only [obsT, obT, VS, VZ, TY, openC, foldC, foldN, PF, pick_or, pick_and, aop, aopD, rdN, wrN, idL, idA, apure, AS.ev, startA, strip, abin, aint, astr, alen, aslice, optI, aconv, aconvM, gdv, AS.put, ofVal, pcells, ld, ldo, nOw, PV.isOw, gtmp, within, astore, splice, afill, allCells, okIdx, asrc, aflat, aappend, hintOk, PV.clo, PV.clo1, ofL_n, ofL_c, nams, reO, reP, reA, reC, srcI, setG, obG, List.cons.injEq, aeq1, aeqs, onG, Int.reduceLE, Int.reduceNeg, Int.reduceLT, Nat.reduceEqDiff, ↓reduceIte, Nat.reduceLT, Nat.reduceLeDiff, Nat.reduceAdd, Nat.reduceMul, Nat.reduceSub, reduceCtorEq, Int.reduceEq]
      intro j hj
      by_cases q : j = i
      · subst q; simp [upto_eq, em, eo, obsT, obT, okO, okP, okA, okC, okD, okI, reP, reA, reC, srcI, Nl_nil, Nl_cons, PV.nl, upd_at, ofL_n, ofL_c, VS, argsT, lendA, lendL, lendT, Cvl_nil, Cvl_cons, Cv_bool, Cv_int, Cv_str, Cv_nils, Cv_nilc, Cv_cl, Cv_ow, noFn, PV.noF, NR_iff, NRO, hb, ares, ares1, ldo, ld, nOw, PV.isOw, TY]
      · simp [upto_ne q, q, Nl_upto, nl_Int64, obsT, obT, okO, okP, okA, okC, okD, okI, reP, reA, reC, srcI, Nl_nil, Nl_cons, PV.nl, upd_at, ofL_n, ofL_c, VS, argsT, lendA, lendL, lendT, Cvl_nil, Cvl_cons, Cv_bool, Cv_int, Cv_str, Cv_nils, Cv_nilc, Cv_cl, Cv_ow, noFn, PV.noF, NR_iff, NRO, hb, ares, ares1, ldo, ld, nOw, PV.isOw, TY]
    · simp [Nl_upto, nl_Int64, obsT, obT, okO, okP, okA, okC, okD, okI, reP, reA, reC, srcI, Nl_nil, Nl_cons, PV.nl, upd_at, ofL_n, ofL_c, VS, argsT, lendA, lendL, lendT, Cvl_nil, Cvl_cons, Cv_bool, Cv_int, Cv_str, Cv_nils, Cv_nilc, Cv_cl, Cv_ow, noFn, PV.noF, NR_iff, NRO, hb, ares, ares1, ldo, ld, nOw, PV.isOw, TY]
  · have : i = L.length := by omega
    subst this
    have hdec : decide ((L.length : Int) < (L.length : Int)) = false := by simp
    have hr : r = k := by simpa [cntInt64S] using hr
    refine vc_ok _ _ _ ?_
    simp only [hC, hdec, VS, VZ, TY, openC, foldC, foldN, PF, pick_or, pick_and, aop, aopD, rdN, wrN, idL, idA, apure, AS.ev, startA, strip, abin, aint, astr, alen, aslice, optI, aconv, aconvM, gdv, AS.put, ofVal, pcells, ld, ldo, nOw, PV.isOw, gtmp, within, astore, splice, afill, allCells, okIdx, asrc, aflat, aappend, hintOk, PV.clo, PV.clo1, ofL_n, ofL_c, nams, reO, reP, reA, reC, srcI, setG, obG, List.cons.injEq, aeq1, aeqs, onG, Int.reduceLE, Int.reduceNeg, Int.reduceLT, Nat.reduceEqDiff, ↓reduceIte, Nat.reduceLT, Nat.reduceLeDiff, Nat.reduceAdd, Nat.reduceMul, Nat.reduceSub, reduceCtorEq, Int.reduceEq]
    exact Ret_go [[0]] (by simp [hr, obsT, obT, okO, okP, okA, okC, okD, okI, reP, reA, reC, srcI, Nl_nil, Nl_cons, PV.nl, upd_at, ofL_n, ofL_c, VS, argsT, lendA, lendL, lendT, Cvl_nil, Cvl_cons, Cv_bool, Cv_int, Cv_str, Cv_nils, Cv_nilc, Cv_cl, Cv_ow, noFn, PV.noF, NR_iff, NRO, hb, ares, ares1, ldo, ld, nOw, PV.isOw, TY]) (by simp (config := {contextual := true}) [upto_lt, nl_Int64, obsT, obT, okO, okP, okA, okC, okD, okI, reP, reA, reC, srcI, Nl_nil, Nl_cons, PV.nl, upd_at, ofL_n, ofL_c, VS, argsT, lendA, lendL, lendT, Cvl_nil, Cvl_cons, Cv_bool, Cv_int, Cv_str, Cv_nils, Cv_nilc, Cv_cl, Cv_ow, noFn, PV.noF, NR_iff, NRO, hb, ares, ares1, ldo, ld, nOw, PV.isOw, TY]) (by simp [nl_Int64, obsT, obT, okO, okP, okA, okC, okD, okI, reP, reA, reC, srcI, Nl_nil, Nl_cons, PV.nl, upd_at, ofL_n, ofL_c, VS, argsT, lendA, lendL, lendT, Cvl_nil, Cvl_cons, Cv_bool, Cv_int, Cv_str, Cv_nils, Cv_nilc, Cv_cl, Cv_ow, noFn, PV.noF, NR_iff, NRO, hb, ares, ares1, ldo, ld, nOw, PV.isOw, TY])
theorem c_markRingS (L : List (List (Int × Int) × Bool)) (k : Int) (hk0 : 0 ≤ k) (hk : k + (cntRingS L : Nat) ≤ 4611686018427387904) : AC Try.prog 49 [.sl [0] 2 L.length 0 L.length, .int .i64 k] (ML [.row 2 L.length (lpv oRing L)]) (.int .i64 (k + (cntRingS L : Nat))) (ML [.row 2 L.length (lpv oRing (mkRingS k L))]) := by
  refine AC.ofA Try.func49 rfl rfl (by simp [Try.ntmps49]) rfl (fun C hC hm => ?_)
  rw [Try.ntmps49] at hC
  have hn : C.m0.nx = _ := congrArg Mem.nx hm
  simp only [ML_nx, List.length_nil, List.length_cons, Nat.zero_add, Nat.reduceAdd] at hn
  have hL := cntRingS_ge L
  have hML := mkRingS_len k L
  generalize hM : mkRingS k L = M at *
  obtain ⟨r, hr⟩ : ∃ r : Int, r = k + (cntRingS L : Nat) := ⟨_, rfl⟩
  rw [← hr]
  rw [← hr] at hk
  refine vc_ok _ _ _ ?_
  simp only [hC, VS, VZ, TY, openC, foldC, foldN, PF, pick_or, pick_and, aop, aopD, rdN, wrN, idL, idA, apure, AS.ev, startA, strip, abin, aint, astr, alen, aslice, optI, aconv, aconvM, gdv, AS.put, ofVal, pcells, ld, ldo, nOw, PV.isOw, gtmp, within, astore, splice, afill, allCells, okIdx, asrc, aflat, aappend, hintOk, PV.clo, PV.clo1, ofL_n, ofL_c, nams, reO, reP, reA, reC, srcI, setG, obG, List.cons.injEq, aeq1, aeqs, onG, Int.reduceLE, Int.reduceNeg, Int.reduceLT, Nat.reduceEqDiff, ↓reduceIte, Nat.reduceLT, Nat.reduceLeDiff, Nat.reduceAdd, Nat.reduceMul, Nat.reduceSub, reduceCtorEq, Int.reduceEq]
  refine AL.go (X := Nat × Int) (fun p => ⟨ofL [(0, .sl [0] 2 L.length 0 L.length), (1, .int .i64 p.2), (5, .int .i64 (p.1 : Int))], ML [.row 2 L.length (upto p.1 (lpv oRing M) (lpv oRing L))]⟩) (fun p => L.length - p.1) (fun p => p.1 ≤ L.length ∧ 0 ≤ p.2 ∧ M.drop p.1 = mkRingS p.2 (L.drop p.1) ∧ r = p.2 + (cntRingS (L.drop p.1) : Nat)) (0, k) ⟨Nat.zero_le _, hk0, by simp [hM], by simpa using hr⟩
    (Told_go hn [[0]] (by simp [obsT, obT, okO, okP, okA, okC, okD, okI, reP, reA, reC, srcI, Nl_nil, Nl_cons, PV.nl, upd_at, ofL_n, ofL_c, VS, argsT, lendA, lendL, lendT, Cvl_nil, Cvl_cons, Cv_bool, Cv_int, Cv_str, Cv_nils, Cv_nilc, Cv_cl, Cv_ow, noFn, PV.noF, NR_iff, NRO, hb, ares, ares1, ldo, ld, nOw, PV.isOw, TY]) (by simp [upto_0, nl_Ring, obsT, obT, okO, okP, okA, okC, okD, okI, reP, reA, reC, srcI, Nl_nil, Nl_cons, PV.nl, upd_at, ofL_n, ofL_c, VS, argsT, lendA, lendL, lendT, Cvl_nil, Cvl_cons, Cv_bool, Cv_int, Cv_str, Cv_nils, Cv_nilc, Cv_cl, Cv_ow, noFn, PV.noF, NR_iff, NRO, hb, ares, ares1, ldo, ld, nOw, PV.isOw, TY]) (by simp [upto_0, nl_Ring, obsT, obT, okO, okP, okA, okC, okD, okI, reP, reA, reC, srcI, Nl_nil, Nl_cons, PV.nl, upd_at, ofL_n, ofL_c, VS, argsT, lendA, lendL, lendT, Cvl_nil, Cvl_cons, Cv_bool, Cv_int, Cv_str, Cv_nils, Cv_nilc, Cv_cl, Cv_ow, noFn, PV.noF, NR_iff, NRO, hb, ares, ares1, ldo, ld, nOw, PV.isOw, TY])) ?_
  rintro ⟨i, k⟩ ⟨hi, hk0, hM, hr⟩
  simp only at hi hk0 hM hr ⊢
  by_cases h : i < L.length
  · have eo : lpv oRing L i = [.ow 2 L[i].1.length (lpv pPoint L[i].1), .bool L[i].2] := lpv_at h
    have hcx : cntRing L[i] = 1 + cntPointS L[i].1 := rfl
    have hdec : decide ((i : Int) < (L.length : Int)) = true := by simpa using h
    have hbi : (0 ≤ (i : Int) ∧ (i : Int) < (L.length : Int)) ↔ True := by simp; omega
    rw [List.drop_eq_getElem_cons h, List.drop_eq_getElem_cons (show i < M.length by omega), mkRingS, List.cons.injEq] at hM
    rw [List.drop_eq_getElem_cons h, cntRingS] at hr
    have em : lpv oRing M i = [.ow 2 L[i].1.length (lpv pPoint (mkPointS (k) L[i].1)), .bool (decide ((k + ((cntPointS L[i].1 : Nat) : Int)).tmod 3 = 0))] := by rw [lpv_at (show i < M.length by omega), hM.1]; simp [oRing, mkRing, upd_at, mkPointS_len]
    refine AW_open [0] i 0 ?_
    simp only [eo, VS, VZ, TY, openC, foldC, foldN, PF, pick_or, pick_and, aop, aopD, rdN, wrN, idL, idA, apure, AS.ev, startA, strip, abin, aint, astr, alen, aslice, optI, aconv, aconvM, gdv, AS.put, ofVal, pcells, ld, ldo, nOw, PV.isOw, gtmp, within, astore, splice, afill, allCells, okIdx, asrc, aflat, aappend, hintOk, PV.clo, PV.clo1, ofL_n, ofL_c, nams, reO, reP, reA, reC, srcI, setG, obG, List.cons.injEq, aeq1, aeqs, onG, Int.reduceLE, Int.reduceNeg, Int.reduceLT, Nat.reduceEqDiff, ↓reduceIte, Nat.reduceLT, Nat.reduceLeDiff, Nat.reduceAdd, Nat.reduceMul, Nat.reduceSub, reduceCtorEq, Int.reduceEq]
    refine ⟨h, ?_⟩
    refine vc_ok _ _ _ ?_
    simp only [hC, eo, hdec, hbi, VS, VZ, TY, openC, foldC, foldN, PF, pick_or, pick_and, aop, aopD, rdN, wrN, idL, idA, apure, AS.ev, startA, strip, abin, aint, astr, alen, aslice, optI, aconv, aconvM, gdv, AS.put, ofVal, pcells, ld, ldo, nOw, PV.isOw, gtmp, within, astore, splice, afill, allCells, okIdx, asrc, aflat, aappend, hintOk, PV.clo, PV.clo1, ofL_n, ofL_c, nams, reO, reP, reA, reC, srcI, setG, obG, List.cons.injEq, aeq1, aeqs, onG, Int.reduceLE, Int.reduceNeg, Int.reduceLT, Nat.reduceEqDiff, ↓reduceIte, Nat.reduceLT, Nat.reduceLeDiff, Nat.reduceAdd, Nat.reduceMul, Nat.reduceSub, reduceCtorEq, Int.reduceEq]
    try (simp (disch := omega) only [wr64, Int.add_assoc, Int.reduceAdd, eq_self, decide_true, decide_false, Bool.not_true, Bool.not_false, true_implies, false_implies, Bool.false_eq_true, Bool.true_eq_false, and_true, true_and, and_self, beq_self_eq_true])
    refine acall_go false [[1]] (c_markPointS L[i].1 (k) (by omega) (by omega)) (by simp [obsT, obT, okO, okP, okA, okC, okD, okI, reP, reA, reC, srcI, Nl_nil, Nl_cons, PV.nl, upd_at, ofL_n, ofL_c, VS, argsT, lendA, lendL, lendT, Cvl_nil, Cvl_cons, Cv_bool, Cv_int, Cv_str, Cv_nils, Cv_nilc, Cv_cl, Cv_ow, noFn, PV.noF, NR_iff, NRO, hb, ares, ares1, ldo, ld, nOw, PV.isOw, TY] <;> omega) (by simp [nl_Point, obsT, obT, okO, okP, okA, okC, okD, okI, reP, reA, reC, srcI, Nl_nil, Nl_cons, PV.nl, upd_at, ofL_n, ofL_c, VS, argsT, lendA, lendL, lendT, Cvl_nil, Cvl_cons, Cv_bool, Cv_int, Cv_str, Cv_nils, Cv_nilc, Cv_cl, Cv_ow, noFn, PV.noF, NR_iff, NRO, hb, ares, ares1, ldo, ld, nOw, PV.isOw, TY]) (by simp [nl_Point, obsT, obT, okO, okP, okA, okC, okD, okI, reP, reA, reC, srcI, Nl_nil, Nl_cons, PV.nl, upd_at, ofL_n, ofL_c, VS, argsT, lendA, lendL, lendT, Cvl_nil, Cvl_cons, Cv_bool, Cv_int, Cv_str, Cv_nils, Cv_nilc, Cv_cl, Cv_ow, noFn, PV.noF, NR_iff, NRO, hb, ares, ares1, ldo, ld, nOw, PV.isOw, TY]) (by simp [obsT, obT, okO, okP, okA, okC, okD, okI, reP, reA, reC, srcI, Nl_nil, Nl_cons, PV.nl, upd_at, ofL_n, ofL_c, VS, argsT, lendA, lendL, lendT, Cvl_nil, Cvl_cons, Cv_bool, Cv_int, Cv_str, Cv_nils, Cv_nilc, Cv_cl, Cv_ow, noFn, PV.noF, NR_iff, NRO, hb, ares, ares1, ldo, ld, nOw, PV.isOw, TY]) (by simp [obsT, obT, okO, okP, okA, okC, okD, okI, reP, reA, reC, srcI, Nl_nil, Nl_cons, PV.nl, upd_at, ofL_n, ofL_c, VS, argsT, lendA, lendL, lendT, Cvl_nil, Cvl_cons, Cv_bool, Cv_int, Cv_str, Cv_nils, Cv_nilc, Cv_cl, Cv_ow, noFn, PV.noF, NR_iff, NRO, hb, ares, ares1, ldo, ld, nOw, PV.isOw, TY]) (by simp [nl_Point, obsT, obT, okO, okP, okA, okC, okD, okI, reP, reA, reC, srcI, Nl_nil, Nl_cons, PV.nl, upd_at, ofL_n, ofL_c, VS, argsT, lendA, lendL, lendT, Cvl_nil, Cvl_cons, Cv_bool, Cv_int, Cv_str, Cv_nils, Cv_nilc, Cv_cl, Cv_ow, noFn, PV.noF, NR_iff, NRO, hb, ares, ares1, ldo, ld, nOw, PV.isOw, TY]) (.inl rfl) ?_
    simp only [hC, hdec, hbi, VS, VZ, TY, openC, foldC, foldN, PF, pick_or, pick_and, aop, aopD, rdN, wrN, idL, idA, apure, AS.ev, startA, strip, abin, aint, astr, alen, aslice, optI, aconv, aconvM, gdv, AS.put, ofVal, pcells, ld, ldo, nOw, PV.isOw, gtmp, within, astore, splice, afill, allCells, okIdx, asrc, aflat, aappend, hintOk, PV.clo, PV.clo1, ofL_n, ofL_c, nams, reO, reP, reA, reC, srcI, setG, obG, List.cons.injEq, aeq1, aeqs, onG, Int.reduceLE, Int.reduceNeg, Int.reduceLT, Nat.reduceEqDiff, ↓reduceIte, Nat.reduceLT, Nat.reduceLeDiff, Nat.reduceAdd, Nat.reduceMul, Nat.reduceSub, reduceCtorEq, Int.reduceEq]
    try (simp (disch := omega) only [wr64, Int.add_assoc, Int.reduceAdd, eq_self, decide_true, decide_false, Bool.not_true, Bool.not_false, true_implies, false_implies, Bool.false_eq_true, Bool.true_eq_false, and_true, true_and, and_self, beq_self_eq_true])
    refine ⟨(i + 1, k + (cntRing L[i] : Nat)), ⟨by simp only; omega, by simp only; omega, hM.2, by simp only; omega⟩, by simp only; omega, ?_⟩
    refine T_fold [0] i 0 [1] ?_
    simp only [VS, VZ, TY, openC, foldC, foldN, PF, pick_or, pick_and, aop, aopD, rdN, wrN, idL, idA, apure, AS.ev, startA, strip, abin, aint, astr, alen, aslice, optI, aconv, aconvM, gdv, AS.put, ofVal, pcells, ld, ldo, nOw, PV.isOw, gtmp, within, astore, splice, afill, allCells, okIdx, asrc, aflat, aappend, hintOk, PV.clo, PV.clo1, ofL_n, ofL_c, nams, reO, reP, reA, reC, srcI, setG, obG, List.cons.injEq, aeq1, aeqs, onG, Int.reduceLE, Int.reduceNeg, Int.reduceLT, Nat.reduceEqDiff, ↓reduceIte, Nat.reduceLT, Nat.reduceLeDiff, Nat.reduceAdd, Nat.reduceMul, Nat.reduceSub, reduceCtorEq, Int.reduceEq]
    refine ⟨h, by simp, by simp [nl_Point], ?_⟩
    refine Told_go hn [[0]] (by simp [obsT, obT, okO, okP, okA, okC, okD, okI, reP, reA, reC, srcI, Nl_nil, Nl_cons, PV.nl, upd_at, ofL_n, ofL_c, VS, argsT, lendA, lendL, lendT, Cvl_nil, Cvl_cons, Cv_bool, Cv_int, Cv_str, Cv_nils, Cv_nilc, Cv_cl, Cv_ow, noFn, PV.noF, NR_iff, NRO, hb, ares, ares1, ldo, ld, nOw, PV.isOw, TY] <;> omega) ?_ ?_
    · simp only [obsT, obT, VS, VZ, TY, openC, foldC, foldN, PF, pick_or, pick_and, aop, aopD, rdN, wrN, idL, idA, apure, AS.ev, startA, strip, abin, aint, astr, alen, aslice, optI, aconv, aconvM, gdv, AS.put, ofVal, pcells, ld, ldo, nOw, PV.isOw, gtmp, within, astore, splice, afill, allCells, okIdx, asrc, aflat, aappend, hintOk, PV.clo, PV.clo1, ofL_n, ofL_c, nams, reO, reP, reA, reC, srcI, setG, obG, List.cons.injEq, aeq1, aeqs, onG, Int.reduceLE, Int.reduceNeg, Int.reduceLT, Nat.reduceEqDiff, ↓reduceIte, Nat.reduceLT, Nat.reduceLeDiff, Nat.reduceAdd, Nat.reduceMul, Nat.reduceSub, reduceCtorEq, Int.reduceEq]
      intro j hj
      by_cases q : j = i
      · subst q; simp [upto_eq, em, eo, obsT, obT, okO, okP, okA, okC, okD, okI, reP, reA, reC, srcI, Nl_nil, Nl_cons, PV.nl, upd_at, ofL_n, ofL_c, VS, argsT, lendA, lendL, lendT, Cvl_nil, Cvl_cons, Cv_bool, Cv_int, Cv_str, Cv_nils, Cv_nilc, Cv_cl, Cv_ow, noFn, PV.noF, NR_iff, NRO, hb, ares, ares1, ldo, ld, nOw, PV.isOw, TY]
      · simp [upto_ne q, q, Nl_upto, nl_Ring, obsT, obT, okO, okP, okA, okC, okD, okI, reP, reA, reC, srcI, Nl_nil, Nl_cons, PV.nl, upd_at, ofL_n, ofL_c, VS, argsT, lendA, lendL, lendT, Cvl_nil, Cvl_cons, Cv_bool, Cv_int, Cv_str, Cv_nils, Cv_nilc, Cv_cl, Cv_ow, noFn, PV.noF, NR_iff, NRO, hb, ares, ares1, ldo, ld, nOw, PV.isOw, TY]
    · simp [Nl_upto, nl_Ring, obsT, obT, okO, okP, okA, okC, okD, okI, reP, reA, reC, srcI, Nl_nil, Nl_cons, PV.nl, upd_at, ofL_n, ofL_c, VS, argsT, lendA, lendL, lendT, Cvl_nil, Cvl_cons, Cv_bool, Cv_int, Cv_str, Cv_nils, Cv_nilc, Cv_cl, Cv_ow, noFn, PV.noF, NR_iff, NRO, hb, ares, ares1, ldo, ld, nOw, PV.isOw, TY]
  · have : i = L.length := by omega
    subst this
    have hdec : decide ((L.length : Int) < (L.length : Int)) = false := by simp
    have hr : r = k := by simpa [cntRingS] using hr
    refine vc_ok _ _ _ ?_
    simp only [hC, hdec, VS, VZ, TY, openC, foldC, foldN, PF, pick_or, pick_and, aop, aopD, rdN, wrN, idL, idA, apure, AS.ev, startA, strip, abin, aint, astr, alen, aslice, optI, aconv, aconvM, gdv, AS.put, ofVal, pcells, ld, ldo, nOw, PV.isOw, gtmp, within, astore, splice, afill, allCells, okIdx, asrc, aflat, aappend, hintOk, PV.clo, PV.clo1, ofL_n, ofL_c, nams, reO, reP, reA, reC, srcI, setG, obG, List.cons.injEq, aeq1, aeqs, onG, Int.reduceLE, Int.reduceNeg, Int.reduceLT, Nat.reduceEqDiff, ↓reduceIte, Nat.reduceLT, Nat.reduceLeDiff, Nat.reduceAdd, Nat.reduceMul, Nat.reduceSub, reduceCtorEq, Int.reduceEq]
    exact Ret_go [[0]] (by simp [hr, obsT, obT, okO, okP, okA, okC, okD, okI, reP, reA, reC, srcI, Nl_nil, Nl_cons, PV.nl, upd_at, ofL_n, ofL_c, VS, argsT, lendA, lendL, lendT, Cvl_nil, Cvl_cons, Cv_bool, Cv_int, Cv_str, Cv_nils, Cv_nilc, Cv_cl, Cv_ow, noFn, PV.noF, NR_iff, NRO, hb, ares, ares1, ldo, ld, nOw, PV.isOw, TY]) (by simp (config := {contextual := true}) [upto_lt, nl_Ring, obsT, obT, okO, okP, okA, okC, okD, okI, reP, reA, reC, srcI, Nl_nil, Nl_cons, PV.nl, upd_at, ofL_n, ofL_c, VS, argsT, lendA, lendL, lendT, Cvl_nil, Cvl_cons, Cv_bool, Cv_int, Cv_str, Cv_nils, Cv_nilc, Cv_cl, Cv_ow, noFn, PV.noF, NR_iff, NRO, hb, ares, ares1, ldo, ld, nOw, PV.isOw, TY]) (by simp [nl_Ring, obsT, obT, okO, okP, okA, okC, okD, okI, reP, reA, reC, srcI, Nl_nil, Nl_cons, PV.nl, upd_at, ofL_n, ofL_c, VS, argsT, lendA, lendL, lendT, Cvl_nil, Cvl_cons, Cv_bool, Cv_int, Cv_str, Cv_nils, Cv_nilc, Cv_cl, Cv_ow, noFn, PV.noF, NR_iff, NRO, hb, ares, ares1, ldo, ld, nOw, PV.isOw, TY])
theorem c_heldPointS (L : List (Int × Int)) (k : Int) (hk0 : 0 ≤ k) (hk : k + (cntPointS L : Nat) ≤ 4611686018427387904) : AC Try.prog 108 [.cl 2 L.length (lpv pPoint (mkPointS k L)), .int .i64 k] (ML []) (.int .i64 (k + (cntPointS L : Nat))) (ML []) := by
  refine AC.of Try.func108 rfl rfl (by simp [Try.ntmps108]) rfl (fun C hC hm => ?_)
  rw [Try.ntmps108] at hC
  have hn : C.m0.nx = _ := congrArg Mem.nx hm
  simp only [ML_nx, List.length_nil, List.length_cons, Nat.zero_add, Nat.reduceAdd] at hn
  have hL := cntPointS_ge L
  have hML := mkPointS_len k L
  generalize hM : mkPointS k L = M at *
  obtain ⟨r, hr⟩ : ∃ r : Int, r = k + (cntPointS L : Nat) := ⟨_, rfl⟩
  rw [← hr]
  rw [← hr] at hk
  simp only [hC, VS, VZ, TY, openC, foldC, foldN, PF, pick_or, pick_and, aop, aopD, rdN, wrN, idL, idA, apure, AS.ev, startA, strip, abin, aint, astr, alen, aslice, optI, aconv, aconvM, gdv, AS.put, ofVal, pcells, ld, ldo, nOw, PV.isOw, gtmp, within, astore, splice, afill, allCells, okIdx, asrc, aflat, aappend, hintOk, PV.clo, PV.clo1, ofL_n, ofL_c, nams, reO, reP, reA, reC, srcI, setG, obG, List.cons.injEq, aeq1, aeqs, onG, Int.reduceLE, Int.reduceNeg, Int.reduceLT, Nat.reduceEqDiff, ↓reduceIte, Nat.reduceLT, Nat.reduceLeDiff, Nat.reduceAdd, Nat.reduceMul, Nat.reduceSub, reduceCtorEq, Int.reduceEq]
  refine AL.go (X := Nat × Int) (fun p => ⟨ofL [(0, .cl 2 L.length (lpv pPoint M)), (1, .int .i64 p.2), (5, .int .i64 (p.1 : Int))], ML []⟩) (fun p => L.length - p.1) (fun p => p.1 ≤ L.length ∧ 0 ≤ p.2 ∧ M.drop p.1 = mkPointS p.2 (L.drop p.1) ∧ r = p.2 + (cntPointS (L.drop p.1) : Nat)) (0, k) ⟨Nat.zero_le _, hk0, by simp [hM], by simpa using hr⟩
    (Told_go hn [] (by simp [obsT, obT, okO, okP, okA, okC, okD, okI, reP, reA, reC, srcI, Nl_nil, Nl_cons, PV.nl, upd_at, ofL_n, ofL_c, VS, argsT, lendA, lendL, lendT, Cvl_nil, Cvl_cons, Cv_bool, Cv_int, Cv_str, Cv_nils, Cv_nilc, Cv_cl, Cv_ow, noFn, PV.noF, NR_iff, NRO, hb, ares, ares1, ldo, ld, nOw, PV.isOw, TY]) (by simp [obsT, obT, okO, okP, okA, okC, okD, okI, reP, reA, reC, srcI, Nl_nil, Nl_cons, PV.nl, upd_at, ofL_n, ofL_c, VS, argsT, lendA, lendL, lendT, Cvl_nil, Cvl_cons, Cv_bool, Cv_int, Cv_str, Cv_nils, Cv_nilc, Cv_cl, Cv_ow, noFn, PV.noF, NR_iff, NRO, hb, ares, ares1, ldo, ld, nOw, PV.isOw, TY]) (by simp)) ?_
  rintro ⟨i, k⟩ ⟨hi, hk0, hM, hr⟩
  simp only at hi hk0 hM hr ⊢
  by_cases h : i < L.length
  · have hcx : cntPoint L[i] = 2 := rfl
    have hdec : decide ((i : Int) < (L.length : Int)) = true := by simpa using h
    have hbi : (0 ≤ (i : Int) ∧ (i : Int) < (L.length : Int)) ↔ True := by simp; omega
    rw [List.drop_eq_getElem_cons h, List.drop_eq_getElem_cons (show i < M.length by omega), mkPointS, List.cons.injEq] at hM
    rw [List.drop_eq_getElem_cons h, cntPointS] at hr
    have em : lpv pPoint M i = [.int .i64 (k), .int .i64 (k + 1)] := by rw [lpv_at (show i < M.length by omega), hM.1]; simp [pPoint, mkPoint, upd_at]
    refine vc_ok _ _ _ ?_
    simp only [hC, em, hdec, hbi, VS, VZ, TY, openC, foldC, foldN, PF, pick_or, pick_and, aop, aopD, rdN, wrN, idL, idA, apure, AS.ev, startA, strip, abin, aint, astr, alen, aslice, optI, aconv, aconvM, gdv, AS.put, ofVal, pcells, ld, ldo, nOw, PV.isOw, gtmp, within, astore, splice, afill, allCells, okIdx, asrc, aflat, aappend, hintOk, PV.clo, PV.clo1, ofL_n, ofL_c, nams, reO, reP, reA, reC, srcI, setG, obG, List.cons.injEq, aeq1, aeqs, onG, Int.reduceLE, Int.reduceNeg, Int.reduceLT, Nat.reduceEqDiff, ↓reduceIte, Nat.reduceLT, Nat.reduceLeDiff, Nat.reduceAdd, Nat.reduceMul, Nat.reduceSub, reduceCtorEq, Int.reduceEq]
    try (simp (disch := omega) only [wr64, Int.add_assoc, Int.reduceAdd, eq_self, decide_true, decide_false, Bool.not_true, Bool.not_false, true_implies, false_implies, Bool.false_eq_true, Bool.true_eq_false, and_true, true_and, and_self, beq_self_eq_true])
    refine ⟨(i + 1, k + (cntPoint L[i] : Nat)), ⟨by simp only; omega, by simp only; omega, hM.2, by simp only; omega⟩, by simp only; omega, ?_⟩
    exact Told_go hn [] (by simp [obsT, obT, okO, okP, okA, okC, okD, okI, reP, reA, reC, srcI, Nl_nil, Nl_cons, PV.nl, upd_at, ofL_n, ofL_c, VS, argsT, lendA, lendL, lendT, Cvl_nil, Cvl_cons, Cv_bool, Cv_int, Cv_str, Cv_nils, Cv_nilc, Cv_cl, Cv_ow, noFn, PV.noF, NR_iff, NRO, hb, ares, ares1, ldo, ld, nOw, PV.isOw, TY] <;> omega) (by simp [obsT, obT, okO, okP, okA, okC, okD, okI, reP, reA, reC, srcI, Nl_nil, Nl_cons, PV.nl, upd_at, ofL_n, ofL_c, VS, argsT, lendA, lendL, lendT, Cvl_nil, Cvl_cons, Cv_bool, Cv_int, Cv_str, Cv_nils, Cv_nilc, Cv_cl, Cv_ow, noFn, PV.noF, NR_iff, NRO, hb, ares, ares1, ldo, ld, nOw, PV.isOw, TY]) (by simp)
  · have : i = L.length := by omega
    subst this
    have hdec : decide ((L.length : Int) < (L.length : Int)) = false := by simp
    have hr : r = k := by simpa [cntPointS] using hr
    refine vc_ok _ _ _ ?_
    simp only [hC, hdec, VS, VZ, TY, openC, foldC, foldN, PF, pick_or, pick_and, aop, aopD, rdN, wrN, idL, idA, apure, AS.ev, startA, strip, abin, aint, astr, alen, aslice, optI, aconv, aconvM, gdv, AS.put, ofVal, pcells, ld, ldo, nOw, PV.isOw, gtmp, within, astore, splice, afill, allCells, okIdx, asrc, aflat, aappend, hintOk, PV.clo, PV.clo1, ofL_n, ofL_c, nams, reO, reP, reA, reC, srcI, setG, obG, List.cons.injEq, aeq1, aeqs, onG, Int.reduceLE, Int.reduceNeg, Int.reduceLT, Nat.reduceEqDiff, ↓reduceIte, Nat.reduceLT, Nat.reduceLeDiff, Nat.reduceAdd, Nat.reduceMul, Nat.reduceSub, reduceCtorEq, Int.reduceEq]
    exact Ret_go [] (by simp [hr, obsT, obT, okO, okP, okA, okC, okD, okI, reP, reA, reC, srcI, Nl_nil, Nl_cons, PV.nl, upd_at, ofL_n, ofL_c, VS, argsT, lendA, lendL, lendT, Cvl_nil, Cvl_cons, Cv_bool, Cv_int, Cv_str, Cv_nils, Cv_nilc, Cv_cl, Cv_ow, noFn, PV.noF, NR_iff, NRO, hb, ares, ares1, ldo, ld, nOw, PV.isOw, TY]) (by simp [obsT, obT, okO, okP, okA, okC, okD, okI, reP, reA, reC, srcI, Nl_nil, Nl_cons, PV.nl, upd_at, ofL_n, ofL_c, VS, argsT, lendA, lendL, lendT, Cvl_nil, Cvl_cons, Cv_bool, Cv_int, Cv_str, Cv_nils, Cv_nilc, Cv_cl, Cv_ow, noFn, PV.noF, NR_iff, NRO, hb, ares, ares1, ldo, ld, nOw, PV.isOw, TY]) (by simp)
theorem c_heldInt64S (L : List Int) (k : Int) (hk0 : 0 ≤ k) (hk : k + (cntInt64S L : Nat) ≤ 4611686018427387904) : AC Try.prog 65 [.cl 1 L.length (lpv pInt64 (mkInt64S k L)), .int .i64 k] (ML []) (.int .i64 (k + (cntInt64S L : Nat))) (ML []) := by
  refine AC.of Try.func65 rfl rfl (by simp [Try.ntmps65]) rfl (fun C hC hm => ?_)
  rw [Try.ntmps65] at hC
  have hn : C.m0.nx = _ := congrArg Mem.nx hm
  simp only [ML_nx, List.length_nil, List.length_cons, Nat.zero_add, Nat.reduceAdd] at hn
  have hL := cntInt64S_ge L
  have hML := mkInt64S_len k L
  generalize hM : mkInt64S k L = M at *
  obtain ⟨r, hr⟩ : ∃ r : Int, r = k + (cntInt64S L : Nat) := ⟨_, rfl⟩
  rw [← hr]
  rw [← hr] at hk
  simp only [hC, VS, VZ, TY, openC, foldC, foldN, PF, pick_or, pick_and, aop, aopD, rdN, wrN, idL, idA, apure, AS.ev, startA, strip, abin, aint, astr, alen, aslice, optI, aconv, aconvM, gdv, AS.put, ofVal, pcells, ld, ldo, nOw, PV.isOw, gtmp, within, astore, splice, afill, allCells, okIdx, asrc, aflat, aappend, hintOk, PV.clo, PV.clo1, ofL_n, ofL_c, nams, reO, reP, reA, reC, srcI, setG, obG, List.cons.injEq, aeq1, aeqs, onG, Int.reduceLE, Int.reduceNeg, Int.reduceLT, Nat.reduceEqDiff, ↓reduceIte, Nat.reduceLT, Nat.reduceLeDiff, Nat.reduceAdd, Nat.reduceMul, Nat.reduceSub, reduceCtorEq, Int.reduceEq]
  refine AL.go (X := Nat × Int) (fun p => ⟨ofL [(0, .cl 1 L.length (lpv pInt64 M)), (1, .int .i64 p.2), (5, .int .i64 (p.1 : Int))], ML []⟩) (fun p => L.length - p.1) (fun p => p.1 ≤ L.length ∧ 0 ≤ p.2 ∧ M.drop p.1 = mkInt64S p.2 (L.drop p.1) ∧ r = p.2 + (cntInt64S (L.drop p.1) : Nat)) (0, k) ⟨Nat.zero_le _, hk0, by simp [hM], by simpa using hr⟩
    (Told_go hn [] (by simp [obsT, obT, okO, okP, okA, okC, okD, okI, reP, reA, reC, srcI, Nl_nil, Nl_cons, PV.nl, upd_at, ofL_n, ofL_c, VS, argsT, lendA, lendL, lendT, Cvl_nil, Cvl_cons, Cv_bool, Cv_int, Cv_str, Cv_nils, Cv_nilc, Cv_cl, Cv_ow, noFn, PV.noF, NR_iff, NRO, hb, ares, ares1, ldo, ld, nOw, PV.isOw, TY]) (by simp [obsT, obT, okO, okP, okA, okC, okD, okI, reP, reA, reC, srcI, Nl_nil, Nl_cons, PV.nl, upd_at, ofL_n, ofL_c, VS, argsT, lendA, lendL, lendT, Cvl_nil, Cvl_cons, Cv_bool, Cv_int, Cv_str, Cv_nils, Cv_nilc, Cv_cl, Cv_ow, noFn, PV.noF, NR_iff, NRO, hb, ares, ares1, ldo, ld, nOw, PV.isOw, TY]) (by simp)) ?_
  rintro ⟨i, k⟩ ⟨hi, hk0, hM, hr⟩
  simp only at hi hk0 hM hr ⊢
  by_cases h : i < L.length
  · have hcx : cntInt64 L[i] = 1 := rfl
    have hdec : decide ((i : Int) < (L.length : Int)) = true := by simpa using h
    have hbi : (0 ≤ (i : Int) ∧ (i : Int) < (L.length : Int)) ↔ True := by simp; omega
    rw [List.drop_eq_getElem_cons h, List.drop_eq_getElem_cons (show i < M.length by omega), mkInt64S, List.cons.injEq] at hM
    rw [List.drop_eq_getElem_cons h, cntInt64S] at hr
    have em : lpv pInt64 M i = [.int .i64 (k)] := by rw [lpv_at (show i < M.length by omega), hM.1]; simp [pInt64, mkInt64, upd_at]
    refine vc_ok _ _ _ ?_
    simp only [hC, em, hdec, hbi, VS, VZ, TY, openC, foldC, foldN, PF, pick_or, pick_and, aop, aopD, rdN, wrN, idL, idA, apure, AS.ev, startA, strip, abin, aint, astr, alen, aslice, optI, aconv, aconvM, gdv, AS.put, ofVal, pcells, ld, ldo, nOw, PV.isOw, gtmp, within, astore, splice, afill, allCells, okIdx, asrc, aflat, aappend, hintOk, PV.clo, PV.clo1, ofL_n, ofL_c, nams, reO, reP, reA, reC, srcI, setG, obG, List.cons.injEq, aeq1, aeqs, onG, Int.reduceLE, Int.reduceNeg, Int.reduceLT, Nat.reduceEqDiff, ↓reduceIte, Nat.reduceLT, Nat.reduceLeDiff, Nat.reduceAdd, Nat.reduceMul, Nat.reduceSub, reduceCtorEq, Int.reduceEq]
    try (simp (disch := omega) only [wr64, Int.add_assoc, Int.reduceAdd, eq_self, decide_true, decide_false, Bool.not_true, Bool.not_false, true_implies, false_implies, Bool.false_eq_true, Bool.true_eq_false, and_true, true_and, and_self, beq_self_eq_true])
    refine ⟨(i + 1, k + (cntInt64 L[i] : Nat)), ⟨by simp only; omega, by simp only; omega, hM.2, by simp only; omega⟩, by simp only; omega, ?_⟩
    exact Told_go hn [] (by simp [obsT, obT, okO, okP, okA, okC, okD, okI, reP, reA, reC, srcI, Nl_nil, Nl_cons, PV.nl, upd_at, ofL_n, ofL_c, VS, argsT, lendA, lendL, lendT, Cvl_nil, Cvl_cons, Cv_bool, Cv_int, Cv_str, Cv_nils, Cv_nilc, Cv_cl, Cv_ow, noFn, PV.noF, NR_iff, NRO, hb, ares, ares1, ldo, ld, nOw, PV.isOw, TY] <;> omega) (by simp [obsT, obT, okO, okP, okA, okC, okD, okI, reP, reA, reC, srcI, Nl_nil, Nl_cons, PV.nl, upd_at, ofL_n, ofL_c, VS, argsT, lendA, lendL, lendT, Cvl_nil, Cvl_cons, Cv_bool, Cv_int, Cv_str, Cv_nils, Cv_nilc, Cv_cl, Cv_ow, noFn, PV.noF, NR_iff, NRO, hb, ares, ares1, ldo, ld, nOw, PV.isOw, TY]) (by simp)
  · have : i = L.length := by omega
    subst this
    have hdec : decide ((L.length : Int) < (L.length : Int)) = false := by simp
    have hr : r = k := by simpa [cntInt64S] using hr
    refine vc_ok _ _ _ ?_
    simp only [hC, hdec, VS, VZ, TY, openC, foldC, foldN, PF, pick_or, pick_and, aop, aopD, rdN, wrN, idL, idA, apure, AS.ev, startA, strip, abin, aint, astr, alen, aslice, optI, aconv, aconvM, gdv, AS.put, ofVal, pcells, ld, ldo, nOw, PV.isOw, gtmp, within, astore, splice, afill, allCells, okIdx, asrc, aflat, aappend, hintOk, PV.clo, PV.clo1, ofL_n, ofL_c, nams, reO, reP, reA, reC, srcI, setG, obG, List.cons.injEq, aeq1, aeqs, onG, Int.reduceLE, Int.reduceNeg, Int.reduceLT, Nat.reduceEqDiff, ↓reduceIte, Nat.reduceLT, Nat.reduceLeDiff, Nat.reduceAdd, Nat.reduceMul, Nat.reduceSub, reduceCtorEq, Int.reduceEq]
    exact Ret_go [] (by simp [hr, obsT, obT, okO, okP, okA, okC, okD, okI, reP, reA, reC, srcI, Nl_nil, Nl_cons, PV.nl, upd_at, ofL_n, ofL_c, VS, argsT, lendA, lendL, lendT, Cvl_nil, Cvl_cons, Cv_bool, Cv_int, Cv_str, Cv_nils, Cv_nilc, Cv_cl, Cv_ow, noFn, PV.noF, NR_iff, NRO, hb, ares, ares1, ldo, ld, nOw, PV.isOw, TY]) (by simp [obsT, obT, okO, okP, okA, okC, okD, okI, reP, reA, reC, srcI, Nl_nil, Nl_cons, PV.nl, upd_at, ofL_n, ofL_c, VS, argsT, lendA, lendL, lendT, Cvl_nil, Cvl_cons, Cv_bool, Cv_int, Cv_str, Cv_nils, Cv_nilc, Cv_cl, Cv_ow, noFn, PV.noF, NR_iff, NRO, hb, ares, ares1, ldo, ld, nOw, PV.isOw, TY]) (by simp)
theorem c_heldRingS (L : List (List (Int × Int) × Bool)) (k : Int) (hk0 : 0 ≤ k) (hk : k + (cntRingS L : Nat) ≤ 4611686018427387904) : AC Try.prog 50 [.cl 2 L.length (lpv cRing (mkRingS k L)), .int .i64 k] (ML []) (.int .i64 (k + (cntRingS L : Nat))) (ML []) := by
  refine AC.of Try.func50 rfl rfl (by simp [Try.ntmps50]) rfl (fun C hC hm => ?_)
  rw [Try.ntmps50] at hC
  have hn : C.m0.nx = _ := congrArg Mem.nx hm
  simp only [ML_nx, List.length_nil, List.length_cons, Nat.zero_add, Nat.reduceAdd] at hn
  have hL := cntRingS_ge L
  have hML := mkRingS_len k L
  generalize hM : mkRingS k L = M at *
  obtain ⟨r, hr⟩ : ∃ r : Int, r = k + (cntRingS L : Nat) := ⟨_, rfl⟩
  rw [← hr]
  rw [← hr] at hk
  simp only [hC, VS, VZ, TY, openC, foldC, foldN, PF, pick_or, pick_and, aop, aopD, rdN, wrN, idL, idA, apure, AS.ev, startA, strip, abin, aint, astr, alen, aslice, optI, aconv, aconvM, gdv, AS.put, ofVal, pcells, ld, ldo, nOw, PV.isOw, gtmp, within, astore, splice, afill, allCells, okIdx, asrc, aflat, aappend, hintOk, PV.clo, PV.clo1, ofL_n, ofL_c, nams, reO, reP, reA, reC, srcI, setG, obG, List.cons.injEq, aeq1, aeqs, onG, Int.reduceLE, Int.reduceNeg, Int.reduceLT, Nat.reduceEqDiff, ↓reduceIte, Nat.reduceLT, Nat.reduceLeDiff, Nat.reduceAdd, Nat.reduceMul, Nat.reduceSub, reduceCtorEq, Int.reduceEq]
  refine AL.go (X := Nat × Int) (fun p => ⟨ofL [(0, .cl 2 L.length (lpv cRing M)), (1, .int .i64 p.2), (5, .int .i64 (p.1 : Int))], ML []⟩) (fun p => L.length - p.1) (fun p => p.1 ≤ L.length ∧ 0 ≤ p.2 ∧ M.drop p.1 = mkRingS p.2 (L.drop p.1) ∧ r = p.2 + (cntRingS (L.drop p.1) : Nat)) (0, k) ⟨Nat.zero_le _, hk0, by simp [hM], by simpa using hr⟩
    (Told_go hn [] (by simp [obsT, obT, okO, okP, okA, okC, okD, okI, reP, reA, reC, srcI, Nl_nil, Nl_cons, PV.nl, upd_at, ofL_n, ofL_c, VS, argsT, lendA, lendL, lendT, Cvl_nil, Cvl_cons, Cv_bool, Cv_int, Cv_str, Cv_nils, Cv_nilc, Cv_cl, Cv_ow, noFn, PV.noF, NR_iff, NRO, hb, ares, ares1, ldo, ld, nOw, PV.isOw, TY]) (by simp [obsT, obT, okO, okP, okA, okC, okD, okI, reP, reA, reC, srcI, Nl_nil, Nl_cons, PV.nl, upd_at, ofL_n, ofL_c, VS, argsT, lendA, lendL, lendT, Cvl_nil, Cvl_cons, Cv_bool, Cv_int, Cv_str, Cv_nils, Cv_nilc, Cv_cl, Cv_ow, noFn, PV.noF, NR_iff, NRO, hb, ares, ares1, ldo, ld, nOw, PV.isOw, TY]) (by simp)) ?_
  rintro ⟨i, k⟩ ⟨hi, hk0, hM, hr⟩
  simp only at hi hk0 hM hr ⊢
  by_cases h : i < L.length
  · have hcx : cntRing L[i] = 1 + cntPointS L[i].1 := rfl
    have hdec : decide ((i : Int) < (L.length : Int)) = true := by simpa using h
    have hbi : (0 ≤ (i : Int) ∧ (i : Int) < (L.length : Int)) ↔ True := by simp; omega
    rw [List.drop_eq_getElem_cons h, List.drop_eq_getElem_cons (show i < M.length by omega), mkRingS, List.cons.injEq] at hM
    rw [List.drop_eq_getElem_cons h, cntRingS] at hr
    have em : lpv cRing M i = [.cl 2 L[i].1.length (lpv pPoint (mkPointS (k) L[i].1)), .bool (decide ((k + ((cntPointS L[i].1 : Nat) : Int)).tmod 3 = 0))] := by rw [lpv_at (show i < M.length by omega), hM.1]; simp [cRing, mkRing, upd_at, mkPointS_len]
    refine vc_ok _ _ _ ?_
    simp only [hC, em, hdec, hbi, VS, VZ, TY, openC, foldC, foldN, PF, pick_or, pick_and, aop, aopD, rdN, wrN, idL, idA, apure, AS.ev, startA, strip, abin, aint, astr, alen, aslice, optI, aconv, aconvM, gdv, AS.put, ofVal, pcells, ld, ldo, nOw, PV.isOw, gtmp, within, astore, splice, afill, allCells, okIdx, asrc, aflat, aappend, hintOk, PV.clo, PV.clo1, ofL_n, ofL_c, nams, reO, reP, reA, reC, srcI, setG, obG, List.cons.injEq, aeq1, aeqs, onG, Int.reduceLE, Int.reduceNeg, Int.reduceLT, Nat.reduceEqDiff, ↓reduceIte, Nat.reduceLT, Nat.reduceLeDiff, Nat.reduceAdd, Nat.reduceMul, Nat.reduceSub, reduceCtorEq, Int.reduceEq]
    try (simp (disch := omega) only [wr64, Int.add_assoc, Int.reduceAdd, eq_self, decide_true, decide_false, Bool.not_true, Bool.not_false, true_implies, false_implies, Bool.false_eq_true, Bool.true_eq_false, and_true, true_and, and_self, beq_self_eq_true])
    refine acall_p false (c_heldPointS L[i].1 (k) (by omega) (by omega)) (by simp [mkPointS_len, obsT, obT, okO, okP, okA, okC, okD, okI, reP, reA, reC, srcI, Nl_nil, Nl_cons, PV.nl, upd_at, ofL_n, ofL_c, VS, argsT, lendA, lendL, lendT, Cvl_nil, Cvl_cons, Cv_bool, Cv_int, Cv_str, Cv_nils, Cv_nilc, Cv_cl, Cv_ow, noFn, PV.noF, NR_iff, NRO, hb, ares, ares1, ldo, ld, nOw, PV.isOw, TY] <;> omega) (by simp [obsT, obT, okO, okP, okA, okC, okD, okI, reP, reA, reC, srcI, Nl_nil, Nl_cons, PV.nl, upd_at, ofL_n, ofL_c, VS, argsT, lendA, lendL, lendT, Cvl_nil, Cvl_cons, Cv_bool, Cv_int, Cv_str, Cv_nils, Cv_nilc, Cv_cl, Cv_ow, noFn, PV.noF, NR_iff, NRO, hb, ares, ares1, ldo, ld, nOw, PV.isOw, TY]) (.inl rfl) ?_
    simp only [hC, hdec, hbi, em, VS, VZ, TY, openC, foldC, foldN, PF, pick_or, pick_and, aop, aopD, rdN, wrN, idL, idA, apure, AS.ev, startA, strip, abin, aint, astr, alen, aslice, optI, aconv, aconvM, gdv, AS.put, ofVal, pcells, ld, ldo, nOw, PV.isOw, gtmp, within, astore, splice, afill, allCells, okIdx, asrc, aflat, aappend, hintOk, PV.clo, PV.clo1, ofL_n, ofL_c, nams, reO, reP, reA, reC, srcI, setG, obG, List.cons.injEq, aeq1, aeqs, onG, Int.reduceLE, Int.reduceNeg, Int.reduceLT, Nat.reduceEqDiff, ↓reduceIte, Nat.reduceLT, Nat.reduceLeDiff, Nat.reduceAdd, Nat.reduceMul, Nat.reduceSub, reduceCtorEq, Int.reduceEq]
    try (simp (disch := omega) only [wr64, Int.add_assoc, Int.reduceAdd, eq_self, decide_true, decide_false, Bool.not_true, Bool.not_false, true_implies, false_implies, Bool.false_eq_true, Bool.true_eq_false, and_true, true_and, and_self, beq_self_eq_true])
    refine ⟨fun h => by simp at h; omega, fun _ => ?_⟩
    try (simp only [hC, hdec, hbi, em, VS, VZ, TY, openC, foldC, foldN, PF, pick_or, pick_and, aop, aopD, rdN, wrN, idL, idA, apure, AS.ev, startA, strip, abin, aint, astr, alen, aslice, optI, aconv, aconvM, gdv, AS.put, ofVal, pcells, ld, ldo, nOw, PV.isOw, gtmp, within, astore, splice, afill, allCells, okIdx, asrc, aflat, aappend, hintOk, PV.clo, PV.clo1, ofL_n, ofL_c, nams, reO, reP, reA, reC, srcI, setG, obG, List.cons.injEq, aeq1, aeqs, onG, Int.reduceLE, Int.reduceNeg, Int.reduceLT, Nat.reduceEqDiff, ↓reduceIte, Nat.reduceLT, Nat.reduceLeDiff, Nat.reduceAdd, Nat.reduceMul, Nat.reduceSub, reduceCtorEq, Int.reduceEq])
    try (simp (disch := omega) only [wr64, Int.add_assoc, Int.reduceAdd, eq_self, decide_true, decide_false, Bool.not_true, Bool.not_false, true_implies, false_implies, Bool.false_eq_true, Bool.true_eq_false, and_true, true_and, and_self, beq_self_eq_true])
    refine ⟨(i + 1, k + (cntRing L[i] : Nat)), ⟨by simp only; omega, by simp only; omega, hM.2, by simp only; omega⟩, by simp only; omega, ?_⟩
    exact Told_go hn [] (by simp [obsT, obT, okO, okP, okA, okC, okD, okI, reP, reA, reC, srcI, Nl_nil, Nl_cons, PV.nl, upd_at, ofL_n, ofL_c, VS, argsT, lendA, lendL, lendT, Cvl_nil, Cvl_cons, Cv_bool, Cv_int, Cv_str, Cv_nils, Cv_nilc, Cv_cl, Cv_ow, noFn, PV.noF, NR_iff, NRO, hb, ares, ares1, ldo, ld, nOw, PV.isOw, TY] <;> omega) (by simp [obsT, obT, okO, okP, okA, okC, okD, okI, reP, reA, reC, srcI, Nl_nil, Nl_cons, PV.nl, upd_at, ofL_n, ofL_c, VS, argsT, lendA, lendL, lendT, Cvl_nil, Cvl_cons, Cv_bool, Cv_int, Cv_str, Cv_nils, Cv_nilc, Cv_cl, Cv_ow, noFn, PV.noF, NR_iff, NRO, hb, ares, ares1, ldo, ld, nOw, PV.isOw, TY]) (by simp)
  · have : i = L.length := by omega
    subst this
    have hdec : decide ((L.length : Int) < (L.length : Int)) = false := by simp
    have hr : r = k := by simpa [cntRingS] using hr
    refine vc_ok _ _ _ ?_
    simp only [hC, hdec, VS, VZ, TY, openC, foldC, foldN, PF, pick_or, pick_and, aop, aopD, rdN, wrN, idL, idA, apure, AS.ev, startA, strip, abin, aint, astr, alen, aslice, optI, aconv, aconvM, gdv, AS.put, ofVal, pcells, ld, ldo, nOw, PV.isOw, gtmp, within, astore, splice, afill, allCells, okIdx, asrc, aflat, aappend, hintOk, PV.clo, PV.clo1, ofL_n, ofL_c, nams, reO, reP, reA, reC, srcI, setG, obG, List.cons.injEq, aeq1, aeqs, onG, Int.reduceLE, Int.reduceNeg, Int.reduceLT, Nat.reduceEqDiff, ↓reduceIte, Nat.reduceLT, Nat.reduceLeDiff, Nat.reduceAdd, Nat.reduceMul, Nat.reduceSub, reduceCtorEq, Int.reduceEq]
    exact Ret_go [] (by simp [hr, obsT, obT, okO, okP, okA, okC, okD, okI, reP, reA, reC, srcI, Nl_nil, Nl_cons, PV.nl, upd_at, ofL_n, ofL_c, VS, argsT, lendA, lendL, lendT, Cvl_nil, Cvl_cons, Cv_bool, Cv_int, Cv_str, Cv_nils, Cv_nilc, Cv_cl, Cv_ow, noFn, PV.noF, NR_iff, NRO, hb, ares, ares1, ldo, ld, nOw, PV.isOw, TY]) (by simp [obsT, obT, okO, okP, okA, okC, okD, okI, reP, reA, reC, srcI, Nl_nil, Nl_cons, PV.nl, upd_at, ofL_n, ofL_c, VS, argsT, lendA, lendL, lendT, Cvl_nil, Cvl_cons, Cv_bool, Cv_int, Cv_str, Cv_nils, Cv_nilc, Cv_cl, Cv_ow, noFn, PV.noF, NR_iff, NRO, hb, ares, ares1, ldo, ld, nOw, PV.isOw, TY]) (by simp)
end Go.Proofs.Ytolejglfohagnaa.Wd
