/- What the proof of FnExactDiff stands on, part 6: plain lemmas and contracts. -/
import Derived.Test.YtppfogbgbpadiaaXDF5
namespace Go.Proofs.Ytppfogbgbpadiaa.Wd
open Go Go.RowKit Go.Proofs Go.Proofs.YtppfogbgbpadiaaW.AW
set_option linter.unusedVariables false
set_option linter.unusedSimpArgs false
set_option maxRecDepth 100000
def cntTag (x : Tg) : Nat := 2
def mkTag (k : Int) (x : Tg) : Tg := ⟨MT.mkT (k), MT.mkT (k + 1)⟩
def cntTagS : List Tg → Nat
  | [] => 0
  | x :: L => cntTag x + cntTagS L
def mkTagS (k : Int) : List Tg → List Tg
  | [] => []
  | x :: L => mkTag k x :: mkTagS (k + (cntTag x : Nat)) L
theorem cntTagS_ge (L : List Tg) : L.length ≤ cntTagS L := by
  induction L with
  | nil => simp
  | cons x L ih => simp only [List.length_cons, cntTagS, cntTag]; omega
theorem mkTagS_len (k : Int) (L) : (mkTagS k L).length = L.length := by
  induction L generalizing k with
  | nil => rfl
  | cons x L ih => simp [mkTagS, ih]
def cntInt64 (x : Int) : Nat := 1
def mkInt64 (k : Int) (x : Int) : Int := k
def cntInt64S : List Int → Nat
  | [] => 0
  | x :: L => cntInt64 x + cntInt64S L
def mkInt64S (k : Int) : List Int → List Int
  | [] => []
  | x :: L => mkInt64 k x :: mkInt64S (k + (cntInt64 x : Nat)) L
theorem cntInt64S_ge (L : List Int) : L.length ≤ cntInt64S L := by
  induction L with
  | nil => simp
  | cons x L ih => simp only [List.length_cons, cntInt64S, cntInt64]; omega
theorem mkInt64S_len (k : Int) (L) : (mkInt64S k L).length = L.length := by
  induction L generalizing k with
  | nil => rfl
  | cons x L ih => simp [mkInt64S, ih]
def cntNode (x : Nd) : Nat := 3 + cntTagS x.tags
def mkNode (k : Int) (x : Nd) : Nd := ⟨k, (k + 1, k + 2), mkTagS (k + 3) x.tags⟩
def cntNodeS : List Nd → Nat
  | [] => 0
  | x :: L => cntNode x + cntNodeS L
def mkNodeS (k : Int) : List Nd → List Nd
  | [] => []
  | x :: L => mkNode k x :: mkNodeS (k + (cntNode x : Nat)) L
theorem cntNodeS_ge (L : List Nd) : L.length ≤ cntNodeS L := by
  induction L with
  | nil => simp
  | cons x L ih => simp only [List.length_cons, cntNodeS, cntNode]; omega
theorem mkNodeS_len (k : Int) (L) : (mkNodeS k L).length = L.length := by
  induction L generalizing k with
  | nil => rfl
  | cons x L ih => simp [mkNodeS, ih]
def cntWay (x : Wy) : Nat := 1 + cntInt64S x.nodes + cntTagS x.tags
def mkWay (k : Int) (x : Wy) : Wy := ⟨k, mkInt64S (k + 1) x.nodes, mkTagS (k + (1 + ((cntInt64S x.nodes : Nat) : Int))) x.tags⟩
def cntWayS : List Wy → Nat
  | [] => 0
  | x :: L => cntWay x + cntWayS L
def mkWayS (k : Int) : List Wy → List Wy
  | [] => []
  | x :: L => mkWay k x :: mkWayS (k + (cntWay x : Nat)) L
theorem cntWayS_ge (L : List Wy) : L.length ≤ cntWayS L := by
  induction L with
  | nil => simp
  | cons x L ih => simp only [List.length_cons, cntWayS, cntWay]; omega
theorem mkWayS_len (k : Int) (L) : (mkWayS k L).length = L.length := by
  induction L generalizing k with
  | nil => rfl
  | cons x L ih => simp [mkWayS, ih]
def cntPart (x : Pr) : Nat := 2
def mkPart (k : Int) (x : Pr) : Pr := ⟨k, decide ((k + 1).tmod 3 = 0)⟩
def cntPartS : List Pr → Nat
  | [] => 0
  | x :: L => cntPart x + cntPartS L
def mkPartS (k : Int) : List Pr → List Pr
  | [] => []
  | x :: L => mkPart k x :: mkPartS (k + (cntPart x : Nat)) L
theorem cntPartS_ge (L : List Pr) : L.length ≤ cntPartS L := by
  induction L with
  | nil => simp
  | cons x L ih => simp only [List.length_cons, cntPartS, cntPart]; omega
theorem mkPartS_len (k : Int) (L) : (mkPartS k L).length = L.length := by
  induction L generalizing k with
  | nil => rfl
  | cons x L ih => simp [mkPartS, ih]
def cntArea (x : Ar) : Nat := 1 + cntPartS x.parts + cntTagS x.tags
def mkArea (k : Int) (x : Ar) : Ar := ⟨k, mkPartS (k + 1) x.parts, mkTagS (k + (1 + ((cntPartS x.parts : Nat) : Int))) x.tags⟩
def cntAreaS : List Ar → Nat
  | [] => 0
  | x :: L => cntArea x + cntAreaS L
def mkAreaS (k : Int) : List Ar → List Ar
  | [] => []
  | x :: L => mkArea k x :: mkAreaS (k + (cntArea x : Nat)) L
theorem cntAreaS_ge (L : List Ar) : L.length ≤ cntAreaS L := by
  induction L with
  | nil => simp
  | cons x L ih => simp only [List.length_cons, cntAreaS, cntArea]; omega
theorem mkAreaS_len (k : Int) (L) : (mkAreaS k L).length = L.length := by
  induction L generalizing k with
  | nil => rfl
  | cons x L ih => simp [mkAreaS, ih]
theorem c_markTagS (L : List Tg) (k : Int) (hk0 : 0 ≤ k) (hk : k + (cntTagS L : Nat) ≤ 4611686018427387904) : AC Try.prog 118 [.sl [0] 2 L.length 0 L.length, .int .i64 k] (ML [.row 2 L.length (lpv pTag L)]) (.int .i64 (k + (cntTagS L : Nat))) (ML [.row 2 L.length (lpv pTag (mkTagS k L))]) := by
  refine AC.ofA Try.func118 rfl rfl (by simp [Try.ntmps118]) rfl (fun C hC hm => ?_)
  rw [Try.ntmps118] at hC
  have hn : C.m0.nx = _ := congrArg Mem.nx hm
  simp only [ML_nx, List.length_nil, List.length_cons, Nat.zero_add, Nat.reduceAdd] at hn
  have hL := cntTagS_ge L
  have hML := mkTagS_len k L
  generalize hM : mkTagS k L = M at *
  obtain ⟨r, hr⟩ : ∃ r : Int, r = k + (cntTagS L : Nat) := ⟨_, rfl⟩
  rw [← hr]
  rw [← hr] at hk
  refine vc_ok _ _ _ ?_
  simp only [hC, VS, VZ, TY, openC, foldC, foldN, PF, pick_or, pick_and, aop, aopD, rdN, wrN, idL, idA, apure, AS.ev, startA, strip, abin, aint, astr, alen, aslice, optI, aconv, aconvM, gdv, AS.put, ofVal, pcells, ld, ldo, nOw, PV.isOw, gtmp, within, astore, splice, afill, allCells, okIdx, asrc, aflat, aappend, hintOk, PV.clo, PV.clo1, ofL_n, ofL_c, nams, reO, reP, reA, reC, srcI, setG, obG, List.cons.injEq, aeq1, aeqs, onG, Int.reduceLE, Int.reduceNeg, Int.reduceLT, Nat.reduceEqDiff, ↓reduceIte, Nat.reduceLT, Nat.reduceLeDiff, Nat.reduceAdd, Nat.reduceMul, Nat.reduceSub, reduceCtorEq, Int.reduceEq]
  refine AL.go (X := Nat × Int) (fun p => ⟨ofL [(0, .sl [0] 2 L.length 0 L.length), (1, .int .i64 p.2), (5, .int .i64 (p.1 : Int))], ML [.row 2 L.length (upto p.1 (lpv pTag M) (lpv pTag L))]⟩) (fun p => L.length - p.1) (fun p => p.1 ≤ L.length ∧ 0 ≤ p.2 ∧ M.drop p.1 = mkTagS p.2 (L.drop p.1) ∧ r = p.2 + (cntTagS (L.drop p.1) : Nat)) (0, k) ⟨Nat.zero_le _, hk0, by simp [hM], by simpa using hr⟩
    (Told_go hn [[0]] tS (by simp [upto_0, nl_Tag, obsT, obT, okO, okP, okA, okC, okD, okI, reP, reA, reC, srcI, Nl_nil, Nl_cons, PV.nl, upd_at, ofL_n, ofL_c, VS, argsT, lendA, lendL, lendT, Cvl_nil, Cvl_cons, Cv_bool, Cv_int, Cv_str, Cv_nils, Cv_nilc, Cv_cl, Cv_ow, noFn, PV.noF, NR_iff, NRO, hb, ares, ares1, ldo, ld, nOw, PV.isOw, TY]) (by simp [upto_0, nl_Tag, obsT, obT, okO, okP, okA, okC, okD, okI, reP, reA, reC, srcI, Nl_nil, Nl_cons, PV.nl, upd_at, ofL_n, ofL_c, VS, argsT, lendA, lendL, lendT, Cvl_nil, Cvl_cons, Cv_bool, Cv_int, Cv_str, Cv_nils, Cv_nilc, Cv_cl, Cv_ow, noFn, PV.noF, NR_iff, NRO, hb, ares, ares1, ldo, ld, nOw, PV.isOw, TY])) ?_
  rintro ⟨i, k⟩ ⟨hi, hk0, hM, hr⟩
  simp only at hi hk0 hM hr ⊢
  by_cases h : i < L.length
  · have eo : lpv pTag L i = [.str L[i].k, .str L[i].v] := lpv_at h
    have hcx : cntTag L[i] = 2 := rfl
    have hdec : decide ((i : Int) < (L.length : Int)) = true := by simpa using h
    have hbi : (0 ≤ (i : Int) ∧ (i : Int) < (L.length : Int)) ↔ True := by simp; omega
    rw [List.drop_eq_getElem_cons h, List.drop_eq_getElem_cons (show i < M.length by omega), mkTagS, List.cons.injEq] at hM
    rw [List.drop_eq_getElem_cons h, cntTagS] at hr
    have em : lpv pTag M i = [.str (MT.mkT (k)), .str (MT.mkT (k + 1))] := by rw [lpv_at (show i < M.length by omega), hM.1]; simp [pTag, mkTag, upd_at]
    refine vc_ok _ _ _ ?_
    simp only [hC, eo, hdec, hbi, VS, VZ, TY, openC, foldC, foldN, PF, pick_or, pick_and, aop, aopD, rdN, wrN, idL, idA, apure, AS.ev, startA, strip, abin, aint, astr, alen, aslice, optI, aconv, aconvM, gdv, AS.put, ofVal, pcells, ld, ldo, nOw, PV.isOw, gtmp, within, astore, splice, afill, allCells, okIdx, asrc, aflat, aappend, hintOk, PV.clo, PV.clo1, ofL_n, ofL_c, nams, reO, reP, reA, reC, srcI, setG, obG, List.cons.injEq, aeq1, aeqs, onG, Int.reduceLE, Int.reduceNeg, Int.reduceLT, Nat.reduceEqDiff, ↓reduceIte, Nat.reduceLT, Nat.reduceLeDiff, Nat.reduceAdd, Nat.reduceMul, Nat.reduceSub, reduceCtorEq, Int.reduceEq]
    try (simp (disch := omega) only [wr64, Int.add_assoc, Int.reduceAdd, eq_self, decide_true, decide_false, Bool.not_true, Bool.not_false, true_implies, false_implies, Bool.false_eq_true, Bool.true_eq_false, and_true, true_and, and_self, beq_self_eq_true])
    refine acall_p false (MT.c_markText (k) (by omega) (by omega)) (by simp [obsT, obT, okO, okP, okA, okC, okD, okI, reP, reA, reC, srcI, Nl_nil, Nl_cons, PV.nl, upd_at, ofL_n, ofL_c, VS, argsT, lendA, lendL, lendT, Cvl_nil, Cvl_cons, Cv_bool, Cv_int, Cv_str, Cv_nils, Cv_nilc, Cv_cl, Cv_ow, noFn, PV.noF, NR_iff, NRO, hb, ares, ares1, ldo, ld, nOw, PV.isOw, TY] <;> omega) tS (.inl rfl) ?_
    simp only [hC, hdec, hbi, VS, VZ, TY, openC, foldC, foldN, PF, pick_or, pick_and, aop, aopD, rdN, wrN, idL, idA, apure, AS.ev, startA, strip, abin, aint, astr, alen, aslice, optI, aconv, aconvM, gdv, AS.put, ofVal, pcells, ld, ldo, nOw, PV.isOw, gtmp, within, astore, splice, afill, allCells, okIdx, asrc, aflat, aappend, hintOk, PV.clo, PV.clo1, ofL_n, ofL_c, nams, reO, reP, reA, reC, srcI, setG, obG, List.cons.injEq, aeq1, aeqs, onG, Int.reduceLE, Int.reduceNeg, Int.reduceLT, Nat.reduceEqDiff, ↓reduceIte, Nat.reduceLT, Nat.reduceLeDiff, Nat.reduceAdd, Nat.reduceMul, Nat.reduceSub, reduceCtorEq, Int.reduceEq]
    try (simp (disch := omega) only [wr64, Int.add_assoc, Int.reduceAdd, eq_self, decide_true, decide_false, Bool.not_true, Bool.not_false, true_implies, false_implies, Bool.false_eq_true, Bool.true_eq_false, and_true, true_and, and_self, beq_self_eq_true])
    refine acall_p false (MT.c_markText (k + 1) (by omega) (by omega)) (by simp [obsT, obT, okO, okP, okA, okC, okD, okI, reP, reA, reC, srcI, Nl_nil, Nl_cons, PV.nl, upd_at, ofL_n, ofL_c, VS, argsT, lendA, lendL, lendT, Cvl_nil, Cvl_cons, Cv_bool, Cv_int, Cv_str, Cv_nils, Cv_nilc, Cv_cl, Cv_ow, noFn, PV.noF, NR_iff, NRO, hb, ares, ares1, ldo, ld, nOw, PV.isOw, TY] <;> omega) tS (.inl rfl) ?_
    simp only [hC, hdec, hbi, VS, VZ, TY, openC, foldC, foldN, PF, pick_or, pick_and, aop, aopD, rdN, wrN, idL, idA, apure, AS.ev, startA, strip, abin, aint, astr, alen, aslice, optI, aconv, aconvM, gdv, AS.put, ofVal, pcells, ld, ldo, nOw, PV.isOw, gtmp, within, astore, splice, afill, allCells, okIdx, asrc, aflat, aappend, hintOk, PV.clo, PV.clo1, ofL_n, ofL_c, nams, reO, reP, reA, reC, srcI, setG, obG, List.cons.injEq, aeq1, aeqs, onG, Int.reduceLE, Int.reduceNeg, Int.reduceLT, Nat.reduceEqDiff, ↓reduceIte, Nat.reduceLT, Nat.reduceLeDiff, Nat.reduceAdd, Nat.reduceMul, Nat.reduceSub, reduceCtorEq, Int.reduceEq]
    try (simp (disch := omega) only [wr64, Int.add_assoc, Int.reduceAdd, eq_self, decide_true, decide_false, Bool.not_true, Bool.not_false, true_implies, false_implies, Bool.false_eq_true, Bool.true_eq_false, and_true, true_and, and_self, beq_self_eq_true])
    refine ⟨(i + 1, k + (cntTag L[i] : Nat)), ⟨by simp only; omega, by simp only; omega, hM.2, by simp only; omega⟩, by simp only; omega, ?_⟩
    refine Told_go hn [[0]] (by simp [obsT, obT, okO, okP, okA, okC, okD, okI, reP, reA, reC, srcI, Nl_nil, Nl_cons, PV.nl, upd_at, ofL_n, ofL_c, VS, argsT, lendA, lendL, lendT, Cvl_nil, Cvl_cons, Cv_bool, Cv_int, Cv_str, Cv_nils, Cv_nilc, Cv_cl, Cv_ow, noFn, PV.noF, NR_iff, NRO, hb, ares, ares1, ldo, ld, nOw, PV.isOw, TY] <;> omega) ?_ ?_
    · simp only [obsT, obT, VS, VZ, TY, openC, foldC, foldN, PF, pick_or, pick_and, aop, aopD, rdN, wrN, idL, idA, apure, AS.ev, startA, strip, abin, aint, astr, alen, aslice, optI, aconv, aconvM, gdv, AS.put, ofVal, pcells, ld, ldo, nOw, PV.isOw, gtmp, within, astore, splice, afill, allCells, okIdx, asrc, aflat, aappend, hintOk, PV.clo, PV.clo1, ofL_n, ofL_c, nams, reO, reP, reA, reC, srcI, setG, obG, List.cons.injEq, aeq1, aeqs, onG, Int.reduceLE, Int.reduceNeg, Int.reduceLT, Nat.reduceEqDiff, ↓reduceIte, Nat.reduceLT, Nat.reduceLeDiff, Nat.reduceAdd, Nat.reduceMul, Nat.reduceSub, reduceCtorEq, Int.reduceEq]
      intro j hj
      by_cases q : j = i
      · subst q; simp [upto_eq, em, eo, obsT, obT, okO, okP, okA, okC, okD, okI, reP, reA, reC, srcI, Nl_nil, Nl_cons, PV.nl, upd_at, ofL_n, ofL_c, VS, argsT, lendA, lendL, lendT, Cvl_nil, Cvl_cons, Cv_bool, Cv_int, Cv_str, Cv_nils, Cv_nilc, Cv_cl, Cv_ow, noFn, PV.noF, NR_iff, NRO, hb, ares, ares1, ldo, ld, nOw, PV.isOw, TY]
      · simp [upto_ne q, q, Nl_upto, nl_Tag, obsT, obT, okO, okP, okA, okC, okD, okI, reP, reA, reC, srcI, Nl_nil, Nl_cons, PV.nl, upd_at, ofL_n, ofL_c, VS, argsT, lendA, lendL, lendT, Cvl_nil, Cvl_cons, Cv_bool, Cv_int, Cv_str, Cv_nils, Cv_nilc, Cv_cl, Cv_ow, noFn, PV.noF, NR_iff, NRO, hb, ares, ares1, ldo, ld, nOw, PV.isOw, TY]
    · simp [Nl_upto, nl_Tag, obsT, obT, okO, okP, okA, okC, okD, okI, reP, reA, reC, srcI, Nl_nil, Nl_cons, PV.nl, upd_at, ofL_n, ofL_c, VS, argsT, lendA, lendL, lendT, Cvl_nil, Cvl_cons, Cv_bool, Cv_int, Cv_str, Cv_nils, Cv_nilc, Cv_cl, Cv_ow, noFn, PV.noF, NR_iff, NRO, hb, ares, ares1, ldo, ld, nOw, PV.isOw, TY]
  · have : i = L.length := by omega
    subst this
    have hdec : decide ((L.length : Int) < (L.length : Int)) = false := by simp
    have hr : r = k := by simpa [cntTagS] using hr
    refine vc_ok _ _ _ ?_
    simp only [hC, hdec, VS, VZ, TY, openC, foldC, foldN, PF, pick_or, pick_and, aop, aopD, rdN, wrN, idL, idA, apure, AS.ev, startA, strip, abin, aint, astr, alen, aslice, optI, aconv, aconvM, gdv, AS.put, ofVal, pcells, ld, ldo, nOw, PV.isOw, gtmp, within, astore, splice, afill, allCells, okIdx, asrc, aflat, aappend, hintOk, PV.clo, PV.clo1, ofL_n, ofL_c, nams, reO, reP, reA, reC, srcI, setG, obG, List.cons.injEq, aeq1, aeqs, onG, Int.reduceLE, Int.reduceNeg, Int.reduceLT, Nat.reduceEqDiff, ↓reduceIte, Nat.reduceLT, Nat.reduceLeDiff, Nat.reduceAdd, Nat.reduceMul, Nat.reduceSub, reduceCtorEq, Int.reduceEq]
    exact Ret_go [[0]] (by simp [hr, obsT, obT, okO, okP, okA, okC, okD, okI, reP, reA, reC, srcI, Nl_nil, Nl_cons, PV.nl, upd_at, ofL_n, ofL_c, VS, argsT, lendA, lendL, lendT, Cvl_nil, Cvl_cons, Cv_bool, Cv_int, Cv_str, Cv_nils, Cv_nilc, Cv_cl, Cv_ow, noFn, PV.noF, NR_iff, NRO, hb, ares, ares1, ldo, ld, nOw, PV.isOw, TY]) (by simp (config := {contextual := true}) [upto_lt, nl_Tag, obsT, obT, okO, okP, okA, okC, okD, okI, reP, reA, reC, srcI, Nl_nil, Nl_cons, PV.nl, upd_at, ofL_n, ofL_c, VS, argsT, lendA, lendL, lendT, Cvl_nil, Cvl_cons, Cv_bool, Cv_int, Cv_str, Cv_nils, Cv_nilc, Cv_cl, Cv_ow, noFn, PV.noF, NR_iff, NRO, hb, ares, ares1, ldo, ld, nOw, PV.isOw, TY]) (by simp [nl_Tag, obsT, obT, okO, okP, okA, okC, okD, okI, reP, reA, reC, srcI, Nl_nil, Nl_cons, PV.nl, upd_at, ofL_n, ofL_c, VS, argsT, lendA, lendL, lendT, Cvl_nil, Cvl_cons, Cv_bool, Cv_int, Cv_str, Cv_nils, Cv_nilc, Cv_cl, Cv_ow, noFn, PV.noF, NR_iff, NRO, hb, ares, ares1, ldo, ld, nOw, PV.isOw, TY])
theorem c_markInt64S (L : List Int) (k : Int) (hk0 : 0 ≤ k) (hk : k + (cntInt64S L : Nat) ≤ 4611686018427387904) : AC Try.prog 23 [.sl [0] 1 L.length 0 L.length, .int .i64 k] (ML [.row 1 L.length (lpv pInt64 L)]) (.int .i64 (k + (cntInt64S L : Nat))) (ML [.row 1 L.length (lpv pInt64 (mkInt64S k L))]) := by
  refine AC.ofA Try.func23 rfl rfl (by simp [Try.ntmps23]) rfl (fun C hC hm => ?_)
  rw [Try.ntmps23] at hC
  have hn : C.m0.nx = _ := congrArg Mem.nx hm
  simp only [ML_nx, List.length_nil, List.length_cons, Nat.zero_add, Nat.reduceAdd] at hn
  have hL := cntInt64S_ge L
  have hML := mkInt64S_len k L
  generalize hM : mkInt64S k L = M at *
  obtain ⟨r, hr⟩ : ∃ r : Int, r = k + (cntInt64S L : Nat) := ⟨_, rfl⟩
  rw [← hr]
  rw [← hr] at hk
  refine vc_ok _ _ _ ?_
  simp only [hC, VS, VZ, TY, openC, foldC, foldN, PF, pick_or, pick_and, aop, aopD, rdN, wrN, idL, idA, apure, AS.ev, startA, strip, abin, aint, astr, alen, aslice, optI, aconv, aconvM, gdv, AS.put, ofVal, pcells, ld, ldo, nOw, PV.isOw, gtmp, within, astore, splice, afill, allCells, okIdx, asrc, aflat, aappend, hintOk, PV.clo, PV.clo1, ofL_n, ofL_c, nams, reO, reP, reA, reC, srcI, setG, obG, List.cons.injEq, aeq1, aeqs, onG, Int.reduceLE, Int.reduceNeg, Int.reduceLT, Nat.reduceEqDiff, ↓reduceIte, Nat.reduceLT, Nat.reduceLeDiff, Nat.reduceAdd, Nat.reduceMul, Nat.reduceSub, reduceCtorEq, Int.reduceEq]
  refine AL.go (X := Nat × Int) (fun p => ⟨ofL [(0, .sl [0] 1 L.length 0 L.length), (1, .int .i64 p.2), (5, .int .i64 (p.1 : Int))], ML [.row 1 L.length (upto p.1 (lpv pInt64 M) (lpv pInt64 L))]⟩) (fun p => L.length - p.1) (fun p => p.1 ≤ L.length ∧ 0 ≤ p.2 ∧ M.drop p.1 = mkInt64S p.2 (L.drop p.1) ∧ r = p.2 + (cntInt64S (L.drop p.1) : Nat)) (0, k) ⟨Nat.zero_le _, hk0, by simp [hM], by simpa using hr⟩
    (Told_go hn [[0]] tS (by simp [upto_0, nl_Int64, obsT, obT, okO, okP, okA, okC, okD, okI, reP, reA, reC, srcI, Nl_nil, Nl_cons, PV.nl, upd_at, ofL_n, ofL_c, VS, argsT, lendA, lendL, lendT, Cvl_nil, Cvl_cons, Cv_bool, Cv_int, Cv_str, Cv_nils, Cv_nilc, Cv_cl, Cv_ow, noFn, PV.noF, NR_iff, NRO, hb, ares, ares1, ldo, ld, nOw, PV.isOw, TY]) (by simp [upto_0, nl_Int64, obsT, obT, okO, okP, okA, okC, okD, okI, reP, reA, reC, srcI, Nl_nil, Nl_cons, PV.nl, upd_at, ofL_n, ofL_c, VS, argsT, lendA, lendL, lendT, Cvl_nil, Cvl_cons, Cv_bool, Cv_int, Cv_str, Cv_nils, Cv_nilc, Cv_cl, Cv_ow, noFn, PV.noF, NR_iff, NRO, hb, ares, ares1, ldo, ld, nOw, PV.isOw, TY])) ?_
  rintro ⟨i, k⟩ ⟨hi, hk0, hM, hr⟩
  simp only at hi hk0 hM hr ⊢
  by_cases h : i < L.length
  · have eo : lpv pInt64 L i = [.int .i64 L[i]] := lpv_at h
    have hcx : cntInt64 L[i] = 1 := rfl
    have hdec : decide ((i : Int) < (L.length : Int)) = true := by simpa using h
    have hbi : (0 ≤ (i : Int) ∧ (i : Int) < (L.length : Int)) ↔ True := by simp; omega
    rw [List.drop_eq_getElem_cons h, List.drop_eq_getElem_cons (show i < M.length by omega), mkInt64S, List.cons.injEq] at hM
    rw [List.drop_eq_getElem_cons h, cntInt64S] at hr
    have em : lpv pInt64 M i = [.int .i64 (k)] := by rw [lpv_at (show i < M.length by omega), hM.1]; simp [pInt64, mkInt64, upd_at]
    refine vc_ok _ _ _ ?_
    simp only [hC, eo, hdec, hbi, VS, VZ, TY, openC, foldC, foldN, PF, pick_or, pick_and, aop, aopD, rdN, wrN, idL, idA, apure, AS.ev, startA, strip, abin, aint, astr, alen, aslice, optI, aconv, aconvM, gdv, AS.put, ofVal, pcells, ld, ldo, nOw, PV.isOw, gtmp, within, astore, splice, afill, allCells, okIdx, asrc, aflat, aappend, hintOk, PV.clo, PV.clo1, ofL_n, ofL_c, nams, reO, reP, reA, reC, srcI, setG, obG, List.cons.injEq, aeq1, aeqs, onG, Int.reduceLE, Int.reduceNeg, Int.reduceLT, Nat.reduceEqDiff, ↓reduceIte, Nat.reduceLT, Nat.reduceLeDiff, Nat.reduceAdd, Nat.reduceMul, Nat.reduceSub, reduceCtorEq, Int.reduceEq]
    try (simp (disch := omega) only [wr64, Int.add_assoc, Int.reduceAdd, eq_self, decide_true, decide_false, Bool.not_true, Bool.not_false, true_implies, false_implies, Bool.false_eq_true, Bool.true_eq_false, and_true, true_and, and_self, beq_self_eq_true])
    refine ⟨(i + 1, k + (cntInt64 L[i] : Nat)), ⟨by simp only; omega, by simp only; omega, hM.2, by simp only; omega⟩, by simp only; omega, ?_⟩
    refine Told_go hn [[0]] (by simp [obsT, obT, okO, okP, okA, okC, okD, okI, reP, reA, reC, srcI, Nl_nil, Nl_cons, PV.nl, upd_at, ofL_n, ofL_c, VS, argsT, lendA, lendL, lendT, Cvl_nil, Cvl_cons, Cv_bool, Cv_int, Cv_str, Cv_nils, Cv_nilc, Cv_cl, Cv_ow, noFn, PV.noF, NR_iff, NRO, hb, ares, ares1, ldo, ld, nOw, PV.isOw, TY] <;> omega) ?_ ?_
    · simp only [obsT, obT, VS, VZ, TY, openC, foldC, foldN, PF, pick_or, pick_and, aop, aopD, rdN, wrN, idL, idA, apure, AS.ev, startA, strip, abin, aint, astr, alen, aslice, optI, aconv, aconvM, gdv, AS.put, ofVal, pcells, ld, ldo, nOw, PV.isOw, gtmp, within, astore, splice, afill, allCells, okIdx, asrc, aflat, aappend, hintOk, PV.clo, PV.clo1, ofL_n, ofL_c, nams, reO, reP, reA, reC, srcI, setG, obG, List.cons.injEq, aeq1, aeqs, onG, Int.reduceLE, Int.reduceNeg, Int.reduceLT, Nat.reduceEqDiff, ↓reduceIte, Nat.reduceLT, Nat.reduceLeDiff, Nat.reduceAdd, Nat.reduceMul, Nat.reduceSub, reduceCtorEq, Int.reduceEq]
      intro j hj
      by_cases q : j = i
      · subst q; simp [upto_eq, em, eo, obsT, obT, okO, okP, okA, okC, okD, okI, reP, reA, reC, srcI, Nl_nil, Nl_cons, PV.nl, upd_at, ofL_n, ofL_c, VS, argsT, lendA, lendL, lendT, Cvl_nil, Cvl_cons, Cv_bool, Cv_int, Cv_str, Cv_nils, Cv_nilc, Cv_cl, Cv_ow, noFn, PV.noF, NR_iff, NRO, hb, ares, ares1, ldo, ld, nOw, PV.isOw, TY]
      · simp [upto_ne q, q, Nl_upto, nl_Int64, obsT, obT, okO, okP, okA, okC, okD, okI, reP, reA, reC, srcI, Nl_nil, Nl_cons, PV.nl, upd_at, ofL_n, ofL_c, VS, argsT, lendA, lendL, lendT, Cvl_nil, Cvl_cons, Cv_bool, Cv_int, Cv_str, Cv_nils, Cv_nilc, Cv_cl, Cv_ow, noFn, PV.noF, NR_iff, NRO, hb, ares, ares1, ldo, ld, nOw, PV.isOw, TY]
    · simp [Nl_upto, nl_Int64, obsT, obT, okO, okP, okA, okC, okD, okI, reP, reA, reC, srcI, Nl_nil, Nl_cons, PV.nl, upd_at, ofL_n, ofL_c, VS, argsT, lendA, lendL, lendT, Cvl_nil, Cvl_cons, Cv_bool, Cv_int, Cv_str, Cv_nils, Cv_nilc, Cv_cl, Cv_ow, noFn, PV.noF, NR_iff, NRO, hb, ares, ares1, ldo, ld, nOw, PV.isOw, TY]
  · have : i = L.length := by omega
    subst this
    have hdec : decide ((L.length : Int) < (L.length : Int)) = false := by simp
    have hr : r = k := by simpa [cntInt64S] using hr
    refine vc_ok _ _ _ ?_
    simp only [hC, hdec, VS, VZ, TY, openC, foldC, foldN, PF, pick_or, pick_and, aop, aopD, rdN, wrN, idL, idA, apure, AS.ev, startA, strip, abin, aint, astr, alen, aslice, optI, aconv, aconvM, gdv, AS.put, ofVal, pcells, ld, ldo, nOw, PV.isOw, gtmp, within, astore, splice, afill, allCells, okIdx, asrc, aflat, aappend, hintOk, PV.clo, PV.clo1, ofL_n, ofL_c, nams, reO, reP, reA, reC, srcI, setG, obG, List.cons.injEq, aeq1, aeqs, onG, Int.reduceLE, Int.reduceNeg, Int.reduceLT, Nat.reduceEqDiff, ↓reduceIte, Nat.reduceLT, Nat.reduceLeDiff, Nat.reduceAdd, Nat.reduceMul, Nat.reduceSub, reduceCtorEq, Int.reduceEq]
    exact Ret_go [[0]] (by simp [hr, obsT, obT, okO, okP, okA, okC, okD, okI, reP, reA, reC, srcI, Nl_nil, Nl_cons, PV.nl, upd_at, ofL_n, ofL_c, VS, argsT, lendA, lendL, lendT, Cvl_nil, Cvl_cons, Cv_bool, Cv_int, Cv_str, Cv_nils, Cv_nilc, Cv_cl, Cv_ow, noFn, PV.noF, NR_iff, NRO, hb, ares, ares1, ldo, ld, nOw, PV.isOw, TY]) (by simp (config := {contextual := true}) [upto_lt, nl_Int64, obsT, obT, okO, okP, okA, okC, okD, okI, reP, reA, reC, srcI, Nl_nil, Nl_cons, PV.nl, upd_at, ofL_n, ofL_c, VS, argsT, lendA, lendL, lendT, Cvl_nil, Cvl_cons, Cv_bool, Cv_int, Cv_str, Cv_nils, Cv_nilc, Cv_cl, Cv_ow, noFn, PV.noF, NR_iff, NRO, hb, ares, ares1, ldo, ld, nOw, PV.isOw, TY]) (by simp [nl_Int64, obsT, obT, okO, okP, okA, okC, okD, okI, reP, reA, reC, srcI, Nl_nil, Nl_cons, PV.nl, upd_at, ofL_n, ofL_c, VS, argsT, lendA, lendL, lendT, Cvl_nil, Cvl_cons, Cv_bool, Cv_int, Cv_str, Cv_nils, Cv_nilc, Cv_cl, Cv_ow, noFn, PV.noF, NR_iff, NRO, hb, ares, ares1, ldo, ld, nOw, PV.isOw, TY])
theorem c_markPartS (L : List Pr) (k : Int) (hk0 : 0 ≤ k) (hk : k + (cntPartS L : Nat) ≤ 4611686018427387904) : AC Try.prog 119 [.sl [0] 2 L.length 0 L.length, .int .i64 k] (ML [.row 2 L.length (lpv pPart L)]) (.int .i64 (k + (cntPartS L : Nat))) (ML [.row 2 L.length (lpv pPart (mkPartS k L))]) := by
  refine AC.ofA Try.func119 rfl rfl (by simp [Try.ntmps119]) rfl (fun C hC hm => ?_)
  rw [Try.ntmps119] at hC
  have hn : C.m0.nx = _ := congrArg Mem.nx hm
  simp only [ML_nx, List.length_nil, List.length_cons, Nat.zero_add, Nat.reduceAdd] at hn
  have hL := cntPartS_ge L
  have hML := mkPartS_len k L
  generalize hM : mkPartS k L = M at *
  obtain ⟨r, hr⟩ : ∃ r : Int, r = k + (cntPartS L : Nat) := ⟨_, rfl⟩
  rw [← hr]
  rw [← hr] at hk
  refine vc_ok _ _ _ ?_
  simp only [hC, VS, VZ, TY, openC, foldC, foldN, PF, pick_or, pick_and, aop, aopD, rdN, wrN, idL, idA, apure, AS.ev, startA, strip, abin, aint, astr, alen, aslice, optI, aconv, aconvM, gdv, AS.put, ofVal, pcells, ld, ldo, nOw, PV.isOw, gtmp, within, astore, splice, afill, allCells, okIdx, asrc, aflat, aappend, hintOk, PV.clo, PV.clo1, ofL_n, ofL_c, nams, reO, reP, reA, reC, srcI, setG, obG, List.cons.injEq, aeq1, aeqs, onG, Int.reduceLE, Int.reduceNeg, Int.reduceLT, Nat.reduceEqDiff, ↓reduceIte, Nat.reduceLT, Nat.reduceLeDiff, Nat.reduceAdd, Nat.reduceMul, Nat.reduceSub, reduceCtorEq, Int.reduceEq]
  refine AL.go (X := Nat × Int) (fun p => ⟨ofL [(0, .sl [0] 2 L.length 0 L.length), (1, .int .i64 p.2), (5, .int .i64 (p.1 : Int))], ML [.row 2 L.length (upto p.1 (lpv pPart M) (lpv pPart L))]⟩) (fun p => L.length - p.1) (fun p => p.1 ≤ L.length ∧ 0 ≤ p.2 ∧ M.drop p.1 = mkPartS p.2 (L.drop p.1) ∧ r = p.2 + (cntPartS (L.drop p.1) : Nat)) (0, k) ⟨Nat.zero_le _, hk0, by simp [hM], by simpa using hr⟩
    (Told_go hn [[0]] tS (by simp [upto_0, nl_Part, obsT, obT, okO, okP, okA, okC, okD, okI, reP, reA, reC, srcI, Nl_nil, Nl_cons, PV.nl, upd_at, ofL_n, ofL_c, VS, argsT, lendA, lendL, lendT, Cvl_nil, Cvl_cons, Cv_bool, Cv_int, Cv_str, Cv_nils, Cv_nilc, Cv_cl, Cv_ow, noFn, PV.noF, NR_iff, NRO, hb, ares, ares1, ldo, ld, nOw, PV.isOw, TY]) (by simp [upto_0, nl_Part, obsT, obT, okO, okP, okA, okC, okD, okI, reP, reA, reC, srcI, Nl_nil, Nl_cons, PV.nl, upd_at, ofL_n, ofL_c, VS, argsT, lendA, lendL, lendT, Cvl_nil, Cvl_cons, Cv_bool, Cv_int, Cv_str, Cv_nils, Cv_nilc, Cv_cl, Cv_ow, noFn, PV.noF, NR_iff, NRO, hb, ares, ares1, ldo, ld, nOw, PV.isOw, TY])) ?_
  rintro ⟨i, k⟩ ⟨hi, hk0, hM, hr⟩
  simp only at hi hk0 hM hr ⊢
  by_cases h : i < L.length
  · have eo : lpv pPart L i = [.int .i64 L[i].way, .bool L[i].inner] := lpv_at h
    have hcx : cntPart L[i] = 2 := rfl
    have hdec : decide ((i : Int) < (L.length : Int)) = true := by simpa using h
    have hbi : (0 ≤ (i : Int) ∧ (i : Int) < (L.length : Int)) ↔ True := by simp; omega
    rw [List.drop_eq_getElem_cons h, List.drop_eq_getElem_cons (show i < M.length by omega), mkPartS, List.cons.injEq] at hM
    rw [List.drop_eq_getElem_cons h, cntPartS] at hr
    have em : lpv pPart M i = [.int .i64 (k), .bool (decide ((k + 1).tmod 3 = 0))] := by rw [lpv_at (show i < M.length by omega), hM.1]; simp [pPart, mkPart, upd_at]
    refine vc_ok _ _ _ ?_
    simp only [hC, eo, hdec, hbi, VS, VZ, TY, openC, foldC, foldN, PF, pick_or, pick_and, aop, aopD, rdN, wrN, idL, idA, apure, AS.ev, startA, strip, abin, aint, astr, alen, aslice, optI, aconv, aconvM, gdv, AS.put, ofVal, pcells, ld, ldo, nOw, PV.isOw, gtmp, within, astore, splice, afill, allCells, okIdx, asrc, aflat, aappend, hintOk, PV.clo, PV.clo1, ofL_n, ofL_c, nams, reO, reP, reA, reC, srcI, setG, obG, List.cons.injEq, aeq1, aeqs, onG, Int.reduceLE, Int.reduceNeg, Int.reduceLT, Nat.reduceEqDiff, ↓reduceIte, Nat.reduceLT, Nat.reduceLeDiff, Nat.reduceAdd, Nat.reduceMul, Nat.reduceSub, reduceCtorEq, Int.reduceEq]
    try (simp (disch := omega) only [wr64, Int.add_assoc, Int.reduceAdd, eq_self, decide_true, decide_false, Bool.not_true, Bool.not_false, true_implies, false_implies, Bool.false_eq_true, Bool.true_eq_false, and_true, true_and, and_self, beq_self_eq_true])
    refine ⟨(i + 1, k + (cntPart L[i] : Nat)), ⟨by simp only; omega, by simp only; omega, hM.2, by simp only; omega⟩, by simp only; omega, ?_⟩
    refine Told_go hn [[0]] (by simp [obsT, obT, okO, okP, okA, okC, okD, okI, reP, reA, reC, srcI, Nl_nil, Nl_cons, PV.nl, upd_at, ofL_n, ofL_c, VS, argsT, lendA, lendL, lendT, Cvl_nil, Cvl_cons, Cv_bool, Cv_int, Cv_str, Cv_nils, Cv_nilc, Cv_cl, Cv_ow, noFn, PV.noF, NR_iff, NRO, hb, ares, ares1, ldo, ld, nOw, PV.isOw, TY] <;> omega) ?_ ?_
    · simp only [obsT, obT, VS, VZ, TY, openC, foldC, foldN, PF, pick_or, pick_and, aop, aopD, rdN, wrN, idL, idA, apure, AS.ev, startA, strip, abin, aint, astr, alen, aslice, optI, aconv, aconvM, gdv, AS.put, ofVal, pcells, ld, ldo, nOw, PV.isOw, gtmp, within, astore, splice, afill, allCells, okIdx, asrc, aflat, aappend, hintOk, PV.clo, PV.clo1, ofL_n, ofL_c, nams, reO, reP, reA, reC, srcI, setG, obG, List.cons.injEq, aeq1, aeqs, onG, Int.reduceLE, Int.reduceNeg, Int.reduceLT, Nat.reduceEqDiff, ↓reduceIte, Nat.reduceLT, Nat.reduceLeDiff, Nat.reduceAdd, Nat.reduceMul, Nat.reduceSub, reduceCtorEq, Int.reduceEq]
      intro j hj
      by_cases q : j = i
      · subst q; simp [upto_eq, em, eo, obsT, obT, okO, okP, okA, okC, okD, okI, reP, reA, reC, srcI, Nl_nil, Nl_cons, PV.nl, upd_at, ofL_n, ofL_c, VS, argsT, lendA, lendL, lendT, Cvl_nil, Cvl_cons, Cv_bool, Cv_int, Cv_str, Cv_nils, Cv_nilc, Cv_cl, Cv_ow, noFn, PV.noF, NR_iff, NRO, hb, ares, ares1, ldo, ld, nOw, PV.isOw, TY]
      · simp [upto_ne q, q, Nl_upto, nl_Part, obsT, obT, okO, okP, okA, okC, okD, okI, reP, reA, reC, srcI, Nl_nil, Nl_cons, PV.nl, upd_at, ofL_n, ofL_c, VS, argsT, lendA, lendL, lendT, Cvl_nil, Cvl_cons, Cv_bool, Cv_int, Cv_str, Cv_nils, Cv_nilc, Cv_cl, Cv_ow, noFn, PV.noF, NR_iff, NRO, hb, ares, ares1, ldo, ld, nOw, PV.isOw, TY]
    · simp [Nl_upto, nl_Part, obsT, obT, okO, okP, okA, okC, okD, okI, reP, reA, reC, srcI, Nl_nil, Nl_cons, PV.nl, upd_at, ofL_n, ofL_c, VS, argsT, lendA, lendL, lendT, Cvl_nil, Cvl_cons, Cv_bool, Cv_int, Cv_str, Cv_nils, Cv_nilc, Cv_cl, Cv_ow, noFn, PV.noF, NR_iff, NRO, hb, ares, ares1, ldo, ld, nOw, PV.isOw, TY]
  · have : i = L.length := by omega
    subst this
    have hdec : decide ((L.length : Int) < (L.length : Int)) = false := by simp
    have hr : r = k := by simpa [cntPartS] using hr
    refine vc_ok _ _ _ ?_
    simp only [hC, hdec, VS, VZ, TY, openC, foldC, foldN, PF, pick_or, pick_and, aop, aopD, rdN, wrN, idL, idA, apure, AS.ev, startA, strip, abin, aint, astr, alen, aslice, optI, aconv, aconvM, gdv, AS.put, ofVal, pcells, ld, ldo, nOw, PV.isOw, gtmp, within, astore, splice, afill, allCells, okIdx, asrc, aflat, aappend, hintOk, PV.clo, PV.clo1, ofL_n, ofL_c, nams, reO, reP, reA, reC, srcI, setG, obG, List.cons.injEq, aeq1, aeqs, onG, Int.reduceLE, Int.reduceNeg, Int.reduceLT, Nat.reduceEqDiff, ↓reduceIte, Nat.reduceLT, Nat.reduceLeDiff, Nat.reduceAdd, Nat.reduceMul, Nat.reduceSub, reduceCtorEq, Int.reduceEq]
    exact Ret_go [[0]] (by simp [hr, obsT, obT, okO, okP, okA, okC, okD, okI, reP, reA, reC, srcI, Nl_nil, Nl_cons, PV.nl, upd_at, ofL_n, ofL_c, VS, argsT, lendA, lendL, lendT, Cvl_nil, Cvl_cons, Cv_bool, Cv_int, Cv_str, Cv_nils, Cv_nilc, Cv_cl, Cv_ow, noFn, PV.noF, NR_iff, NRO, hb, ares, ares1, ldo, ld, nOw, PV.isOw, TY]) (by simp (config := {contextual := true}) [upto_lt, nl_Part, obsT, obT, okO, okP, okA, okC, okD, okI, reP, reA, reC, srcI, Nl_nil, Nl_cons, PV.nl, upd_at, ofL_n, ofL_c, VS, argsT, lendA, lendL, lendT, Cvl_nil, Cvl_cons, Cv_bool, Cv_int, Cv_str, Cv_nils, Cv_nilc, Cv_cl, Cv_ow, noFn, PV.noF, NR_iff, NRO, hb, ares, ares1, ldo, ld, nOw, PV.isOw, TY]) (by simp [nl_Part, obsT, obT, okO, okP, okA, okC, okD, okI, reP, reA, reC, srcI, Nl_nil, Nl_cons, PV.nl, upd_at, ofL_n, ofL_c, VS, argsT, lendA, lendL, lendT, Cvl_nil, Cvl_cons, Cv_bool, Cv_int, Cv_str, Cv_nils, Cv_nilc, Cv_cl, Cv_ow, noFn, PV.noF, NR_iff, NRO, hb, ares, ares1, ldo, ld, nOw, PV.isOw, TY])
theorem c_markNodeS (L : List Nd) (k : Int) (hk0 : 0 ≤ k) (hk : k + (cntNodeS L : Nat) ≤ 4611686018427387904) : AC Try.prog 82 [.sl [0] 4 L.length 0 L.length, .int .i64 k] (ML [.row 4 L.length (lpv oNode L)]) (.int .i64 (k + (cntNodeS L : Nat))) (ML [.row 4 L.length (lpv oNode (mkNodeS k L))]) := by
  refine AC.ofA Try.func82 rfl rfl (by simp [Try.ntmps82]) rfl (fun C hC hm => ?_)
  rw [Try.ntmps82] at hC
  have hn : C.m0.nx = _ := congrArg Mem.nx hm
  simp only [ML_nx, List.length_nil, List.length_cons, Nat.zero_add, Nat.reduceAdd] at hn
  have hL := cntNodeS_ge L
  have hML := mkNodeS_len k L
  generalize hM : mkNodeS k L = M at *
  obtain ⟨r, hr⟩ : ∃ r : Int, r = k + (cntNodeS L : Nat) := ⟨_, rfl⟩
  rw [← hr]
  rw [← hr] at hk
  refine vc_ok _ _ _ ?_
  simp only [hC, VS, VZ, TY, openC, foldC, foldN, PF, pick_or, pick_and, aop, aopD, rdN, wrN, idL, idA, apure, AS.ev, startA, strip, abin, aint, astr, alen, aslice, optI, aconv, aconvM, gdv, AS.put, ofVal, pcells, ld, ldo, nOw, PV.isOw, gtmp, within, astore, splice, afill, allCells, okIdx, asrc, aflat, aappend, hintOk, PV.clo, PV.clo1, ofL_n, ofL_c, nams, reO, reP, reA, reC, srcI, setG, obG, List.cons.injEq, aeq1, aeqs, onG, Int.reduceLE, Int.reduceNeg, Int.reduceLT, Nat.reduceEqDiff, ↓reduceIte, Nat.reduceLT, Nat.reduceLeDiff, Nat.reduceAdd, Nat.reduceMul, Nat.reduceSub, reduceCtorEq, Int.reduceEq]
  refine AL.go (X := Nat × Int) (fun p => ⟨ofL [(0, .sl [0] 4 L.length 0 L.length), (1, .int .i64 p.2), (5, .int .i64 (p.1 : Int))], ML [.row 4 L.length (upto p.1 (lpv oNode M) (lpv oNode L))]⟩) (fun p => L.length - p.1) (fun p => p.1 ≤ L.length ∧ 0 ≤ p.2 ∧ M.drop p.1 = mkNodeS p.2 (L.drop p.1) ∧ r = p.2 + (cntNodeS (L.drop p.1) : Nat)) (0, k) ⟨Nat.zero_le _, hk0, by simp [hM], by simpa using hr⟩
    (Told_go hn [[0]] tS (by simp [upto_0, nl_Node, obsT, obT, okO, okP, okA, okC, okD, okI, reP, reA, reC, srcI, Nl_nil, Nl_cons, PV.nl, upd_at, ofL_n, ofL_c, VS, argsT, lendA, lendL, lendT, Cvl_nil, Cvl_cons, Cv_bool, Cv_int, Cv_str, Cv_nils, Cv_nilc, Cv_cl, Cv_ow, noFn, PV.noF, NR_iff, NRO, hb, ares, ares1, ldo, ld, nOw, PV.isOw, TY]) (by simp [upto_0, nl_Node, obsT, obT, okO, okP, okA, okC, okD, okI, reP, reA, reC, srcI, Nl_nil, Nl_cons, PV.nl, upd_at, ofL_n, ofL_c, VS, argsT, lendA, lendL, lendT, Cvl_nil, Cvl_cons, Cv_bool, Cv_int, Cv_str, Cv_nils, Cv_nilc, Cv_cl, Cv_ow, noFn, PV.noF, NR_iff, NRO, hb, ares, ares1, ldo, ld, nOw, PV.isOw, TY])) ?_
  rintro ⟨i, k⟩ ⟨hi, hk0, hM, hr⟩
  simp only at hi hk0 hM hr ⊢
  by_cases h : i < L.length
  · have eo : lpv oNode L i = [.int .i64 L[i].id, .int .i64 L[i].p.1, .int .i64 L[i].p.2, .ow 2 L[i].tags.length (lpv pTag L[i].tags)] := lpv_at h
    have hcx : cntNode L[i] = 3 + cntTagS L[i].tags := rfl
    have hdec : decide ((i : Int) < (L.length : Int)) = true := by simpa using h
    have hbi : (0 ≤ (i : Int) ∧ (i : Int) < (L.length : Int)) ↔ True := by simp; omega
    rw [List.drop_eq_getElem_cons h, List.drop_eq_getElem_cons (show i < M.length by omega), mkNodeS, List.cons.injEq] at hM
    rw [List.drop_eq_getElem_cons h, cntNodeS] at hr
    have em : lpv oNode M i = [.int .i64 (k), .int .i64 (k + 1), .int .i64 (k + 2), .ow 2 L[i].tags.length (lpv pTag (mkTagS (k + 3) L[i].tags))] := by rw [lpv_at (show i < M.length by omega), hM.1]; simp [oNode, mkNode, upd_at, mkTagS_len]
    refine AW_open [0] i 3 ?_
    simp only [eo, VS, VZ, TY, openC, foldC, foldN, PF, pick_or, pick_and, aop, aopD, rdN, wrN, idL, idA, apure, AS.ev, startA, strip, abin, aint, astr, alen, aslice, optI, aconv, aconvM, gdv, AS.put, ofVal, pcells, ld, ldo, nOw, PV.isOw, gtmp, within, astore, splice, afill, allCells, okIdx, asrc, aflat, aappend, hintOk, PV.clo, PV.clo1, ofL_n, ofL_c, nams, reO, reP, reA, reC, srcI, setG, obG, List.cons.injEq, aeq1, aeqs, onG, Int.reduceLE, Int.reduceNeg, Int.reduceLT, Nat.reduceEqDiff, ↓reduceIte, Nat.reduceLT, Nat.reduceLeDiff, Nat.reduceAdd, Nat.reduceMul, Nat.reduceSub, reduceCtorEq, Int.reduceEq]
    refine ⟨h, ?_⟩
    refine vc_ok _ _ _ ?_
    simp only [hC, eo, hdec, hbi, VS, VZ, TY, openC, foldC, foldN, PF, pick_or, pick_and, aop, aopD, rdN, wrN, idL, idA, apure, AS.ev, startA, strip, abin, aint, astr, alen, aslice, optI, aconv, aconvM, gdv, AS.put, ofVal, pcells, ld, ldo, nOw, PV.isOw, gtmp, within, astore, splice, afill, allCells, okIdx, asrc, aflat, aappend, hintOk, PV.clo, PV.clo1, ofL_n, ofL_c, nams, reO, reP, reA, reC, srcI, setG, obG, List.cons.injEq, aeq1, aeqs, onG, Int.reduceLE, Int.reduceNeg, Int.reduceLT, Nat.reduceEqDiff, ↓reduceIte, Nat.reduceLT, Nat.reduceLeDiff, Nat.reduceAdd, Nat.reduceMul, Nat.reduceSub, reduceCtorEq, Int.reduceEq]
    try (simp (disch := omega) only [wr64, Int.add_assoc, Int.reduceAdd, eq_self, decide_true, decide_false, Bool.not_true, Bool.not_false, true_implies, false_implies, Bool.false_eq_true, Bool.true_eq_false, and_true, true_and, and_self, beq_self_eq_true])
    refine acall_go false [[1]] (c_markTagS L[i].tags (k + 3) (by omega) (by omega)) (by simp [obsT, obT, okO, okP, okA, okC, okD, okI, reP, reA, reC, srcI, Nl_nil, Nl_cons, PV.nl, upd_at, ofL_n, ofL_c, VS, argsT, lendA, lendL, lendT, Cvl_nil, Cvl_cons, Cv_bool, Cv_int, Cv_str, Cv_nils, Cv_nilc, Cv_cl, Cv_ow, noFn, PV.noF, NR_iff, NRO, hb, ares, ares1, ldo, ld, nOw, PV.isOw, TY] <;> omega) (by simp [nl_Tag, obsT, obT, okO, okP, okA, okC, okD, okI, reP, reA, reC, srcI, Nl_nil, Nl_cons, PV.nl, upd_at, ofL_n, ofL_c, VS, argsT, lendA, lendL, lendT, Cvl_nil, Cvl_cons, Cv_bool, Cv_int, Cv_str, Cv_nils, Cv_nilc, Cv_cl, Cv_ow, noFn, PV.noF, NR_iff, NRO, hb, ares, ares1, ldo, ld, nOw, PV.isOw, TY]) (by simp [nl_Tag, obsT, obT, okO, okP, okA, okC, okD, okI, reP, reA, reC, srcI, Nl_nil, Nl_cons, PV.nl, upd_at, ofL_n, ofL_c, VS, argsT, lendA, lendL, lendT, Cvl_nil, Cvl_cons, Cv_bool, Cv_int, Cv_str, Cv_nils, Cv_nilc, Cv_cl, Cv_ow, noFn, PV.noF, NR_iff, NRO, hb, ares, ares1, ldo, ld, nOw, PV.isOw, TY]) tS tS (by simp [nl_Tag, obsT, obT, okO, okP, okA, okC, okD, okI, reP, reA, reC, srcI, Nl_nil, Nl_cons, PV.nl, upd_at, ofL_n, ofL_c, VS, argsT, lendA, lendL, lendT, Cvl_nil, Cvl_cons, Cv_bool, Cv_int, Cv_str, Cv_nils, Cv_nilc, Cv_cl, Cv_ow, noFn, PV.noF, NR_iff, NRO, hb, ares, ares1, ldo, ld, nOw, PV.isOw, TY]) (.inl rfl) ?_
    simp only [hC, hdec, hbi, VS, VZ, TY, openC, foldC, foldN, PF, pick_or, pick_and, aop, aopD, rdN, wrN, idL, idA, apure, AS.ev, startA, strip, abin, aint, astr, alen, aslice, optI, aconv, aconvM, gdv, AS.put, ofVal, pcells, ld, ldo, nOw, PV.isOw, gtmp, within, astore, splice, afill, allCells, okIdx, asrc, aflat, aappend, hintOk, PV.clo, PV.clo1, ofL_n, ofL_c, nams, reO, reP, reA, reC, srcI, setG, obG, List.cons.injEq, aeq1, aeqs, onG, Int.reduceLE, Int.reduceNeg, Int.reduceLT, Nat.reduceEqDiff, ↓reduceIte, Nat.reduceLT, Nat.reduceLeDiff, Nat.reduceAdd, Nat.reduceMul, Nat.reduceSub, reduceCtorEq, Int.reduceEq]
    try (simp (disch := omega) only [wr64, Int.add_assoc, Int.reduceAdd, eq_self, decide_true, decide_false, Bool.not_true, Bool.not_false, true_implies, false_implies, Bool.false_eq_true, Bool.true_eq_false, and_true, true_and, and_self, beq_self_eq_true])
    refine ⟨(i + 1, k + (cntNode L[i] : Nat)), ⟨by simp only; omega, by simp only; omega, hM.2, by simp only; omega⟩, by simp only; omega, ?_⟩
    refine T_fold [0] i 3 [1] ?_
    simp only [VS, VZ, TY, openC, foldC, foldN, PF, pick_or, pick_and, aop, aopD, rdN, wrN, idL, idA, apure, AS.ev, startA, strip, abin, aint, astr, alen, aslice, optI, aconv, aconvM, gdv, AS.put, ofVal, pcells, ld, ldo, nOw, PV.isOw, gtmp, within, astore, splice, afill, allCells, okIdx, asrc, aflat, aappend, hintOk, PV.clo, PV.clo1, ofL_n, ofL_c, nams, reO, reP, reA, reC, srcI, setG, obG, List.cons.injEq, aeq1, aeqs, onG, Int.reduceLE, Int.reduceNeg, Int.reduceLT, Nat.reduceEqDiff, ↓reduceIte, Nat.reduceLT, Nat.reduceLeDiff, Nat.reduceAdd, Nat.reduceMul, Nat.reduceSub, reduceCtorEq, Int.reduceEq]
    refine ⟨h, by simp, by simp [nl_Tag], ?_⟩
    refine Told_go hn [[0]] (by simp [obsT, obT, okO, okP, okA, okC, okD, okI, reP, reA, reC, srcI, Nl_nil, Nl_cons, PV.nl, upd_at, ofL_n, ofL_c, VS, argsT, lendA, lendL, lendT, Cvl_nil, Cvl_cons, Cv_bool, Cv_int, Cv_str, Cv_nils, Cv_nilc, Cv_cl, Cv_ow, noFn, PV.noF, NR_iff, NRO, hb, ares, ares1, ldo, ld, nOw, PV.isOw, TY] <;> omega) ?_ ?_
    · simp only [obsT, obT, VS, VZ, TY, openC, foldC, foldN, PF, pick_or, pick_and, aop, aopD, rdN, wrN, idL, idA, apure, AS.ev, startA, strip, abin, aint, astr, alen, aslice, optI, aconv, aconvM, gdv, AS.put, ofVal, pcells, ld, ldo, nOw, PV.isOw, gtmp, within, astore, splice, afill, allCells, okIdx, asrc, aflat, aappend, hintOk, PV.clo, PV.clo1, ofL_n, ofL_c, nams, reO, reP, reA, reC, srcI, setG, obG, List.cons.injEq, aeq1, aeqs, onG, Int.reduceLE, Int.reduceNeg, Int.reduceLT, Nat.reduceEqDiff, ↓reduceIte, Nat.reduceLT, Nat.reduceLeDiff, Nat.reduceAdd, Nat.reduceMul, Nat.reduceSub, reduceCtorEq, Int.reduceEq]
      intro j hj
      by_cases q : j = i
      · subst q; simp [upto_eq, em, eo, obsT, obT, okO, okP, okA, okC, okD, okI, reP, reA, reC, srcI, Nl_nil, Nl_cons, PV.nl, upd_at, ofL_n, ofL_c, VS, argsT, lendA, lendL, lendT, Cvl_nil, Cvl_cons, Cv_bool, Cv_int, Cv_str, Cv_nils, Cv_nilc, Cv_cl, Cv_ow, noFn, PV.noF, NR_iff, NRO, hb, ares, ares1, ldo, ld, nOw, PV.isOw, TY]
      · simp [upto_ne q, q, Nl_upto, nl_Node, obsT, obT, okO, okP, okA, okC, okD, okI, reP, reA, reC, srcI, Nl_nil, Nl_cons, PV.nl, upd_at, ofL_n, ofL_c, VS, argsT, lendA, lendL, lendT, Cvl_nil, Cvl_cons, Cv_bool, Cv_int, Cv_str, Cv_nils, Cv_nilc, Cv_cl, Cv_ow, noFn, PV.noF, NR_iff, NRO, hb, ares, ares1, ldo, ld, nOw, PV.isOw, TY]
    · simp [Nl_upto, nl_Node, obsT, obT, okO, okP, okA, okC, okD, okI, reP, reA, reC, srcI, Nl_nil, Nl_cons, PV.nl, upd_at, ofL_n, ofL_c, VS, argsT, lendA, lendL, lendT, Cvl_nil, Cvl_cons, Cv_bool, Cv_int, Cv_str, Cv_nils, Cv_nilc, Cv_cl, Cv_ow, noFn, PV.noF, NR_iff, NRO, hb, ares, ares1, ldo, ld, nOw, PV.isOw, TY]
  · have : i = L.length := by omega
    subst this
    have hdec : decide ((L.length : Int) < (L.length : Int)) = false := by simp
    have hr : r = k := by simpa [cntNodeS] using hr
    refine vc_ok _ _ _ ?_
    simp only [hC, hdec, VS, VZ, TY, openC, foldC, foldN, PF, pick_or, pick_and, aop, aopD, rdN, wrN, idL, idA, apure, AS.ev, startA, strip, abin, aint, astr, alen, aslice, optI, aconv, aconvM, gdv, AS.put, ofVal, pcells, ld, ldo, nOw, PV.isOw, gtmp, within, astore, splice, afill, allCells, okIdx, asrc, aflat, aappend, hintOk, PV.clo, PV.clo1, ofL_n, ofL_c, nams, reO, reP, reA, reC, srcI, setG, obG, List.cons.injEq, aeq1, aeqs, onG, Int.reduceLE, Int.reduceNeg, Int.reduceLT, Nat.reduceEqDiff, ↓reduceIte, Nat.reduceLT, Nat.reduceLeDiff, Nat.reduceAdd, Nat.reduceMul, Nat.reduceSub, reduceCtorEq, Int.reduceEq]
    exact Ret_go [[0]] (by simp [hr, obsT, obT, okO, okP, okA, okC, okD, okI, reP, reA, reC, srcI, Nl_nil, Nl_cons, PV.nl, upd_at, ofL_n, ofL_c, VS, argsT, lendA, lendL, lendT, Cvl_nil, Cvl_cons, Cv_bool, Cv_int, Cv_str, Cv_nils, Cv_nilc, Cv_cl, Cv_ow, noFn, PV.noF, NR_iff, NRO, hb, ares, ares1, ldo, ld, nOw, PV.isOw, TY]) (by simp (config := {contextual := true}) [upto_lt, nl_Node, obsT, obT, okO, okP, okA, okC, okD, okI, reP, reA, reC, srcI, Nl_nil, Nl_cons, PV.nl, upd_at, ofL_n, ofL_c, VS, argsT, lendA, lendL, lendT, Cvl_nil, Cvl_cons, Cv_bool, Cv_int, Cv_str, Cv_nils, Cv_nilc, Cv_cl, Cv_ow, noFn, PV.noF, NR_iff, NRO, hb, ares, ares1, ldo, ld, nOw, PV.isOw, TY]) (by simp [nl_Node, obsT, obT, okO, okP, okA, okC, okD, okI, reP, reA, reC, srcI, Nl_nil, Nl_cons, PV.nl, upd_at, ofL_n, ofL_c, VS, argsT, lendA, lendL, lendT, Cvl_nil, Cvl_cons, Cv_bool, Cv_int, Cv_str, Cv_nils, Cv_nilc, Cv_cl, Cv_ow, noFn, PV.noF, NR_iff, NRO, hb, ares, ares1, ldo, ld, nOw, PV.isOw, TY])
theorem c_markWayS (L : List Wy) (k : Int) (hk0 : 0 ≤ k) (hk : k + (cntWayS L : Nat) ≤ 4611686018427387904) : AC Try.prog 83 [.sl [0] 3 L.length 0 L.length, .int .i64 k] (ML [.row 3 L.length (lpv oWay L)]) (.int .i64 (k + (cntWayS L : Nat))) (ML [.row 3 L.length (lpv oWay (mkWayS k L))]) := by
  refine AC.ofA Try.func83 rfl rfl (by simp [Try.ntmps83]) rfl (fun C hC hm => ?_)
  rw [Try.ntmps83] at hC
  have hn : C.m0.nx = _ := congrArg Mem.nx hm
  simp only [ML_nx, List.length_nil, List.length_cons, Nat.zero_add, Nat.reduceAdd] at hn
  have hL := cntWayS_ge L
  have hML := mkWayS_len k L
  generalize hM : mkWayS k L = M at *
  obtain ⟨r, hr⟩ : ∃ r : Int, r = k + (cntWayS L : Nat) := ⟨_, rfl⟩
  rw [← hr]
  rw [← hr] at hk
  refine vc_ok _ _ _ ?_
  simp only [hC, VS, VZ, TY, openC, foldC, foldN, PF, pick_or, pick_and, aop, aopD, rdN, wrN, idL, idA, apure, AS.ev, startA, strip, abin, aint, astr, alen, aslice, optI, aconv, aconvM, gdv, AS.put, ofVal, pcells, ld, ldo, nOw, PV.isOw, gtmp, within, astore, splice, afill, allCells, okIdx, asrc, aflat, aappend, hintOk, PV.clo, PV.clo1, ofL_n, ofL_c, nams, reO, reP, reA, reC, srcI, setG, obG, List.cons.injEq, aeq1, aeqs, onG, Int.reduceLE, Int.reduceNeg, Int.reduceLT, Nat.reduceEqDiff, ↓reduceIte, Nat.reduceLT, Nat.reduceLeDiff, Nat.reduceAdd, Nat.reduceMul, Nat.reduceSub, reduceCtorEq, Int.reduceEq]
  refine AL.go (X := Nat × Int) (fun p => ⟨ofL [(0, .sl [0] 3 L.length 0 L.length), (1, .int .i64 p.2), (5, .int .i64 (p.1 : Int))], ML [.row 3 L.length (upto p.1 (lpv oWay M) (lpv oWay L))]⟩) (fun p => L.length - p.1) (fun p => p.1 ≤ L.length ∧ 0 ≤ p.2 ∧ M.drop p.1 = mkWayS p.2 (L.drop p.1) ∧ r = p.2 + (cntWayS (L.drop p.1) : Nat)) (0, k) ⟨Nat.zero_le _, hk0, by simp [hM], by simpa using hr⟩
    (Told_go hn [[0]] tS (by simp [upto_0, nl_Way, obsT, obT, okO, okP, okA, okC, okD, okI, reP, reA, reC, srcI, Nl_nil, Nl_cons, PV.nl, upd_at, ofL_n, ofL_c, VS, argsT, lendA, lendL, lendT, Cvl_nil, Cvl_cons, Cv_bool, Cv_int, Cv_str, Cv_nils, Cv_nilc, Cv_cl, Cv_ow, noFn, PV.noF, NR_iff, NRO, hb, ares, ares1, ldo, ld, nOw, PV.isOw, TY]) (by simp [upto_0, nl_Way, obsT, obT, okO, okP, okA, okC, okD, okI, reP, reA, reC, srcI, Nl_nil, Nl_cons, PV.nl, upd_at, ofL_n, ofL_c, VS, argsT, lendA, lendL, lendT, Cvl_nil, Cvl_cons, Cv_bool, Cv_int, Cv_str, Cv_nils, Cv_nilc, Cv_cl, Cv_ow, noFn, PV.noF, NR_iff, NRO, hb, ares, ares1, ldo, ld, nOw, PV.isOw, TY])) ?_
  rintro ⟨i, k⟩ ⟨hi, hk0, hM, hr⟩
  simp only at hi hk0 hM hr ⊢
  by_cases h : i < L.length
  · have eo : lpv oWay L i = [.int .i64 L[i].id, .ow 1 L[i].nodes.length (lpv pInt64 L[i].nodes), .ow 2 L[i].tags.length (lpv pTag L[i].tags)] := lpv_at h
    have hcx : cntWay L[i] = 1 + cntInt64S L[i].nodes + cntTagS L[i].tags := rfl
    have hdec : decide ((i : Int) < (L.length : Int)) = true := by simpa using h
    have hbi : (0 ≤ (i : Int) ∧ (i : Int) < (L.length : Int)) ↔ True := by simp; omega
    rw [List.drop_eq_getElem_cons h, List.drop_eq_getElem_cons (show i < M.length by omega), mkWayS, List.cons.injEq] at hM
    rw [List.drop_eq_getElem_cons h, cntWayS] at hr
    have em : lpv oWay M i = [.int .i64 (k), .ow 1 L[i].nodes.length (lpv pInt64 (mkInt64S (k + 1) L[i].nodes)), .ow 2 L[i].tags.length (lpv pTag (mkTagS (k + (1 + ((cntInt64S L[i].nodes : Nat) : Int))) L[i].tags))] := by rw [lpv_at (show i < M.length by omega), hM.1]; simp [oWay, mkWay, upd_at, mkInt64S_len, mkTagS_len]
    refine AW_open [0] i 1 ?_
    simp only [eo, VS, VZ, TY, openC, foldC, foldN, PF, pick_or, pick_and, aop, aopD, rdN, wrN, idL, idA, apure, AS.ev, startA, strip, abin, aint, astr, alen, aslice, optI, aconv, aconvM, gdv, AS.put, ofVal, pcells, ld, ldo, nOw, PV.isOw, gtmp, within, astore, splice, afill, allCells, okIdx, asrc, aflat, aappend, hintOk, PV.clo, PV.clo1, ofL_n, ofL_c, nams, reO, reP, reA, reC, srcI, setG, obG, List.cons.injEq, aeq1, aeqs, onG, Int.reduceLE, Int.reduceNeg, Int.reduceLT, Nat.reduceEqDiff, ↓reduceIte, Nat.reduceLT, Nat.reduceLeDiff, Nat.reduceAdd, Nat.reduceMul, Nat.reduceSub, reduceCtorEq, Int.reduceEq]
    refine ⟨h, ?_⟩
    refine AW_open [0] i 2 ?_
    simp only [eo, VS, VZ, TY, openC, foldC, foldN, PF, pick_or, pick_and, aop, aopD, rdN, wrN, idL, idA, apure, AS.ev, startA, strip, abin, aint, astr, alen, aslice, optI, aconv, aconvM, gdv, AS.put, ofVal, pcells, ld, ldo, nOw, PV.isOw, gtmp, within, astore, splice, afill, allCells, okIdx, asrc, aflat, aappend, hintOk, PV.clo, PV.clo1, ofL_n, ofL_c, nams, reO, reP, reA, reC, srcI, setG, obG, List.cons.injEq, aeq1, aeqs, onG, Int.reduceLE, Int.reduceNeg, Int.reduceLT, Nat.reduceEqDiff, ↓reduceIte, Nat.reduceLT, Nat.reduceLeDiff, Nat.reduceAdd, Nat.reduceMul, Nat.reduceSub, reduceCtorEq, Int.reduceEq]
    refine ⟨h, ?_⟩
    refine vc_ok _ _ _ ?_
    simp only [hC, eo, hdec, hbi, VS, VZ, TY, openC, foldC, foldN, PF, pick_or, pick_and, aop, aopD, rdN, wrN, idL, idA, apure, AS.ev, startA, strip, abin, aint, astr, alen, aslice, optI, aconv, aconvM, gdv, AS.put, ofVal, pcells, ld, ldo, nOw, PV.isOw, gtmp, within, astore, splice, afill, allCells, okIdx, asrc, aflat, aappend, hintOk, PV.clo, PV.clo1, ofL_n, ofL_c, nams, reO, reP, reA, reC, srcI, setG, obG, List.cons.injEq, aeq1, aeqs, onG, Int.reduceLE, Int.reduceNeg, Int.reduceLT, Nat.reduceEqDiff, ↓reduceIte, Nat.reduceLT, Nat.reduceLeDiff, Nat.reduceAdd, Nat.reduceMul, Nat.reduceSub, reduceCtorEq, Int.reduceEq]
    try (simp (disch := omega) only [wr64, Int.add_assoc, Int.reduceAdd, eq_self, decide_true, decide_false, Bool.not_true, Bool.not_false, true_implies, false_implies, Bool.false_eq_true, Bool.true_eq_false, and_true, true_and, and_self, beq_self_eq_true])
    refine acall_go false [[1]] (c_markInt64S L[i].nodes (k + 1) (by omega) (by omega)) (by simp [obsT, obT, okO, okP, okA, okC, okD, okI, reP, reA, reC, srcI, Nl_nil, Nl_cons, PV.nl, upd_at, ofL_n, ofL_c, VS, argsT, lendA, lendL, lendT, Cvl_nil, Cvl_cons, Cv_bool, Cv_int, Cv_str, Cv_nils, Cv_nilc, Cv_cl, Cv_ow, noFn, PV.noF, NR_iff, NRO, hb, ares, ares1, ldo, ld, nOw, PV.isOw, TY] <;> omega) (by simp [nl_Int64, obsT, obT, okO, okP, okA, okC, okD, okI, reP, reA, reC, srcI, Nl_nil, Nl_cons, PV.nl, upd_at, ofL_n, ofL_c, VS, argsT, lendA, lendL, lendT, Cvl_nil, Cvl_cons, Cv_bool, Cv_int, Cv_str, Cv_nils, Cv_nilc, Cv_cl, Cv_ow, noFn, PV.noF, NR_iff, NRO, hb, ares, ares1, ldo, ld, nOw, PV.isOw, TY]) (by simp [nl_Int64, obsT, obT, okO, okP, okA, okC, okD, okI, reP, reA, reC, srcI, Nl_nil, Nl_cons, PV.nl, upd_at, ofL_n, ofL_c, VS, argsT, lendA, lendL, lendT, Cvl_nil, Cvl_cons, Cv_bool, Cv_int, Cv_str, Cv_nils, Cv_nilc, Cv_cl, Cv_ow, noFn, PV.noF, NR_iff, NRO, hb, ares, ares1, ldo, ld, nOw, PV.isOw, TY]) tS tS (by simp [nl_Int64, obsT, obT, okO, okP, okA, okC, okD, okI, reP, reA, reC, srcI, Nl_nil, Nl_cons, PV.nl, upd_at, ofL_n, ofL_c, VS, argsT, lendA, lendL, lendT, Cvl_nil, Cvl_cons, Cv_bool, Cv_int, Cv_str, Cv_nils, Cv_nilc, Cv_cl, Cv_ow, noFn, PV.noF, NR_iff, NRO, hb, ares, ares1, ldo, ld, nOw, PV.isOw, TY]) (.inl rfl) ?_
    simp only [hC, hdec, hbi, VS, VZ, TY, openC, foldC, foldN, PF, pick_or, pick_and, aop, aopD, rdN, wrN, idL, idA, apure, AS.ev, startA, strip, abin, aint, astr, alen, aslice, optI, aconv, aconvM, gdv, AS.put, ofVal, pcells, ld, ldo, nOw, PV.isOw, gtmp, within, astore, splice, afill, allCells, okIdx, asrc, aflat, aappend, hintOk, PV.clo, PV.clo1, ofL_n, ofL_c, nams, reO, reP, reA, reC, srcI, setG, obG, List.cons.injEq, aeq1, aeqs, onG, Int.reduceLE, Int.reduceNeg, Int.reduceLT, Nat.reduceEqDiff, ↓reduceIte, Nat.reduceLT, Nat.reduceLeDiff, Nat.reduceAdd, Nat.reduceMul, Nat.reduceSub, reduceCtorEq, Int.reduceEq]
    try (simp (disch := omega) only [wr64, Int.add_assoc, Int.reduceAdd, eq_self, decide_true, decide_false, Bool.not_true, Bool.not_false, true_implies, false_implies, Bool.false_eq_true, Bool.true_eq_false, and_true, true_and, and_self, beq_self_eq_true])
    refine acall_go false [[2]] (c_markTagS L[i].tags (k + (1 + ((cntInt64S L[i].nodes : Nat) : Int))) (by omega) (by omega)) (by simp [obsT, obT, okO, okP, okA, okC, okD, okI, reP, reA, reC, srcI, Nl_nil, Nl_cons, PV.nl, upd_at, ofL_n, ofL_c, VS, argsT, lendA, lendL, lendT, Cvl_nil, Cvl_cons, Cv_bool, Cv_int, Cv_str, Cv_nils, Cv_nilc, Cv_cl, Cv_ow, noFn, PV.noF, NR_iff, NRO, hb, ares, ares1, ldo, ld, nOw, PV.isOw, TY] <;> omega) (by simp [nl_Tag, obsT, obT, okO, okP, okA, okC, okD, okI, reP, reA, reC, srcI, Nl_nil, Nl_cons, PV.nl, upd_at, ofL_n, ofL_c, VS, argsT, lendA, lendL, lendT, Cvl_nil, Cvl_cons, Cv_bool, Cv_int, Cv_str, Cv_nils, Cv_nilc, Cv_cl, Cv_ow, noFn, PV.noF, NR_iff, NRO, hb, ares, ares1, ldo, ld, nOw, PV.isOw, TY]) (by simp [nl_Tag, obsT, obT, okO, okP, okA, okC, okD, okI, reP, reA, reC, srcI, Nl_nil, Nl_cons, PV.nl, upd_at, ofL_n, ofL_c, VS, argsT, lendA, lendL, lendT, Cvl_nil, Cvl_cons, Cv_bool, Cv_int, Cv_str, Cv_nils, Cv_nilc, Cv_cl, Cv_ow, noFn, PV.noF, NR_iff, NRO, hb, ares, ares1, ldo, ld, nOw, PV.isOw, TY]) tS tS (by simp [nl_Tag, obsT, obT, okO, okP, okA, okC, okD, okI, reP, reA, reC, srcI, Nl_nil, Nl_cons, PV.nl, upd_at, ofL_n, ofL_c, VS, argsT, lendA, lendL, lendT, Cvl_nil, Cvl_cons, Cv_bool, Cv_int, Cv_str, Cv_nils, Cv_nilc, Cv_cl, Cv_ow, noFn, PV.noF, NR_iff, NRO, hb, ares, ares1, ldo, ld, nOw, PV.isOw, TY]) (.inl rfl) ?_
    simp only [hC, hdec, hbi, VS, VZ, TY, openC, foldC, foldN, PF, pick_or, pick_and, aop, aopD, rdN, wrN, idL, idA, apure, AS.ev, startA, strip, abin, aint, astr, alen, aslice, optI, aconv, aconvM, gdv, AS.put, ofVal, pcells, ld, ldo, nOw, PV.isOw, gtmp, within, astore, splice, afill, allCells, okIdx, asrc, aflat, aappend, hintOk, PV.clo, PV.clo1, ofL_n, ofL_c, nams, reO, reP, reA, reC, srcI, setG, obG, List.cons.injEq, aeq1, aeqs, onG, Int.reduceLE, Int.reduceNeg, Int.reduceLT, Nat.reduceEqDiff, ↓reduceIte, Nat.reduceLT, Nat.reduceLeDiff, Nat.reduceAdd, Nat.reduceMul, Nat.reduceSub, reduceCtorEq, Int.reduceEq]
    try (simp (disch := omega) only [wr64, Int.add_assoc, Int.reduceAdd, eq_self, decide_true, decide_false, Bool.not_true, Bool.not_false, true_implies, false_implies, Bool.false_eq_true, Bool.true_eq_false, and_true, true_and, and_self, beq_self_eq_true])
    refine ⟨(i + 1, k + (cntWay L[i] : Nat)), ⟨by simp only; omega, by simp only; omega, hM.2, by simp only; omega⟩, by simp only; omega, ?_⟩
    refine T_fold [0] i 1 [1] ?_
    simp only [VS, VZ, TY, openC, foldC, foldN, PF, pick_or, pick_and, aop, aopD, rdN, wrN, idL, idA, apure, AS.ev, startA, strip, abin, aint, astr, alen, aslice, optI, aconv, aconvM, gdv, AS.put, ofVal, pcells, ld, ldo, nOw, PV.isOw, gtmp, within, astore, splice, afill, allCells, okIdx, asrc, aflat, aappend, hintOk, PV.clo, PV.clo1, ofL_n, ofL_c, nams, reO, reP, reA, reC, srcI, setG, obG, List.cons.injEq, aeq1, aeqs, onG, Int.reduceLE, Int.reduceNeg, Int.reduceLT, Nat.reduceEqDiff, ↓reduceIte, Nat.reduceLT, Nat.reduceLeDiff, Nat.reduceAdd, Nat.reduceMul, Nat.reduceSub, reduceCtorEq, Int.reduceEq]
    refine ⟨h, by simp, by simp [nl_Int64], ?_⟩
    refine T_fold [0] i 2 [2] ?_
    simp only [VS, VZ, TY, openC, foldC, foldN, PF, pick_or, pick_and, aop, aopD, rdN, wrN, idL, idA, apure, AS.ev, startA, strip, abin, aint, astr, alen, aslice, optI, aconv, aconvM, gdv, AS.put, ofVal, pcells, ld, ldo, nOw, PV.isOw, gtmp, within, astore, splice, afill, allCells, okIdx, asrc, aflat, aappend, hintOk, PV.clo, PV.clo1, ofL_n, ofL_c, nams, reO, reP, reA, reC, srcI, setG, obG, List.cons.injEq, aeq1, aeqs, onG, Int.reduceLE, Int.reduceNeg, Int.reduceLT, Nat.reduceEqDiff, ↓reduceIte, Nat.reduceLT, Nat.reduceLeDiff, Nat.reduceAdd, Nat.reduceMul, Nat.reduceSub, reduceCtorEq, Int.reduceEq]
    refine ⟨h, by simp, by simp [nl_Tag], ?_⟩
    refine Told_go hn [[0]] (by simp [obsT, obT, okO, okP, okA, okC, okD, okI, reP, reA, reC, srcI, Nl_nil, Nl_cons, PV.nl, upd_at, ofL_n, ofL_c, VS, argsT, lendA, lendL, lendT, Cvl_nil, Cvl_cons, Cv_bool, Cv_int, Cv_str, Cv_nils, Cv_nilc, Cv_cl, Cv_ow, noFn, PV.noF, NR_iff, NRO, hb, ares, ares1, ldo, ld, nOw, PV.isOw, TY] <;> omega) ?_ ?_
    · simp only [obsT, obT, VS, VZ, TY, openC, foldC, foldN, PF, pick_or, pick_and, aop, aopD, rdN, wrN, idL, idA, apure, AS.ev, startA, strip, abin, aint, astr, alen, aslice, optI, aconv, aconvM, gdv, AS.put, ofVal, pcells, ld, ldo, nOw, PV.isOw, gtmp, within, astore, splice, afill, allCells, okIdx, asrc, aflat, aappend, hintOk, PV.clo, PV.clo1, ofL_n, ofL_c, nams, reO, reP, reA, reC, srcI, setG, obG, List.cons.injEq, aeq1, aeqs, onG, Int.reduceLE, Int.reduceNeg, Int.reduceLT, Nat.reduceEqDiff, ↓reduceIte, Nat.reduceLT, Nat.reduceLeDiff, Nat.reduceAdd, Nat.reduceMul, Nat.reduceSub, reduceCtorEq, Int.reduceEq]
      intro j hj
      by_cases q : j = i
      · subst q; simp [upto_eq, em, eo, obsT, obT, okO, okP, okA, okC, okD, okI, reP, reA, reC, srcI, Nl_nil, Nl_cons, PV.nl, upd_at, ofL_n, ofL_c, VS, argsT, lendA, lendL, lendT, Cvl_nil, Cvl_cons, Cv_bool, Cv_int, Cv_str, Cv_nils, Cv_nilc, Cv_cl, Cv_ow, noFn, PV.noF, NR_iff, NRO, hb, ares, ares1, ldo, ld, nOw, PV.isOw, TY]
      · simp [upto_ne q, q, Nl_upto, nl_Way, obsT, obT, okO, okP, okA, okC, okD, okI, reP, reA, reC, srcI, Nl_nil, Nl_cons, PV.nl, upd_at, ofL_n, ofL_c, VS, argsT, lendA, lendL, lendT, Cvl_nil, Cvl_cons, Cv_bool, Cv_int, Cv_str, Cv_nils, Cv_nilc, Cv_cl, Cv_ow, noFn, PV.noF, NR_iff, NRO, hb, ares, ares1, ldo, ld, nOw, PV.isOw, TY]
    · simp [Nl_upto, nl_Way, obsT, obT, okO, okP, okA, okC, okD, okI, reP, reA, reC, srcI, Nl_nil, Nl_cons, PV.nl, upd_at, ofL_n, ofL_c, VS, argsT, lendA, lendL, lendT, Cvl_nil, Cvl_cons, Cv_bool, Cv_int, Cv_str, Cv_nils, Cv_nilc, Cv_cl, Cv_ow, noFn, PV.noF, NR_iff, NRO, hb, ares, ares1, ldo, ld, nOw, PV.isOw, TY]
  · have : i = L.length := by omega
    subst this
    have hdec : decide ((L.length : Int) < (L.length : Int)) = false := by simp
    have hr : r = k := by simpa [cntWayS] using hr
    refine vc_ok _ _ _ ?_
    simp only [hC, hdec, VS, VZ, TY, openC, foldC, foldN, PF, pick_or, pick_and, aop, aopD, rdN, wrN, idL, idA, apure, AS.ev, startA, strip, abin, aint, astr, alen, aslice, optI, aconv, aconvM, gdv, AS.put, ofVal, pcells, ld, ldo, nOw, PV.isOw, gtmp, within, astore, splice, afill, allCells, okIdx, asrc, aflat, aappend, hintOk, PV.clo, PV.clo1, ofL_n, ofL_c, nams, reO, reP, reA, reC, srcI, setG, obG, List.cons.injEq, aeq1, aeqs, onG, Int.reduceLE, Int.reduceNeg, Int.reduceLT, Nat.reduceEqDiff, ↓reduceIte, Nat.reduceLT, Nat.reduceLeDiff, Nat.reduceAdd, Nat.reduceMul, Nat.reduceSub, reduceCtorEq, Int.reduceEq]
    exact Ret_go [[0]] (by simp [hr, obsT, obT, okO, okP, okA, okC, okD, okI, reP, reA, reC, srcI, Nl_nil, Nl_cons, PV.nl, upd_at, ofL_n, ofL_c, VS, argsT, lendA, lendL, lendT, Cvl_nil, Cvl_cons, Cv_bool, Cv_int, Cv_str, Cv_nils, Cv_nilc, Cv_cl, Cv_ow, noFn, PV.noF, NR_iff, NRO, hb, ares, ares1, ldo, ld, nOw, PV.isOw, TY]) (by simp (config := {contextual := true}) [upto_lt, nl_Way, obsT, obT, okO, okP, okA, okC, okD, okI, reP, reA, reC, srcI, Nl_nil, Nl_cons, PV.nl, upd_at, ofL_n, ofL_c, VS, argsT, lendA, lendL, lendT, Cvl_nil, Cvl_cons, Cv_bool, Cv_int, Cv_str, Cv_nils, Cv_nilc, Cv_cl, Cv_ow, noFn, PV.noF, NR_iff, NRO, hb, ares, ares1, ldo, ld, nOw, PV.isOw, TY]) (by simp [nl_Way, obsT, obT, okO, okP, okA, okC, okD, okI, reP, reA, reC, srcI, Nl_nil, Nl_cons, PV.nl, upd_at, ofL_n, ofL_c, VS, argsT, lendA, lendL, lendT, Cvl_nil, Cvl_cons, Cv_bool, Cv_int, Cv_str, Cv_nils, Cv_nilc, Cv_cl, Cv_ow, noFn, PV.noF, NR_iff, NRO, hb, ares, ares1, ldo, ld, nOw, PV.isOw, TY])
theorem c_markAreaS (L : List Ar) (k : Int) (hk0 : 0 ≤ k) (hk : k + (cntAreaS L : Nat) ≤ 4611686018427387904) : AC Try.prog 84 [.sl [0] 3 L.length 0 L.length, .int .i64 k] (ML [.row 3 L.length (lpv oArea L)]) (.int .i64 (k + (cntAreaS L : Nat))) (ML [.row 3 L.length (lpv oArea (mkAreaS k L))]) := by
  refine AC.ofA Try.func84 rfl rfl (by simp [Try.ntmps84]) rfl (fun C hC hm => ?_)
  rw [Try.ntmps84] at hC
  have hn : C.m0.nx = _ := congrArg Mem.nx hm
  simp only [ML_nx, List.length_nil, List.length_cons, Nat.zero_add, Nat.reduceAdd] at hn
  have hL := cntAreaS_ge L
  have hML := mkAreaS_len k L
  generalize hM : mkAreaS k L = M at *
  obtain ⟨r, hr⟩ : ∃ r : Int, r = k + (cntAreaS L : Nat) := ⟨_, rfl⟩
  rw [← hr]
  rw [← hr] at hk
  refine vc_ok _ _ _ ?_
  simp only [hC, VS, VZ, TY, openC, foldC, foldN, PF, pick_or, pick_and, aop, aopD, rdN, wrN, idL, idA, apure, AS.ev, startA, strip, abin, aint, astr, alen, aslice, optI, aconv, aconvM, gdv, AS.put, ofVal, pcells, ld, ldo, nOw, PV.isOw, gtmp, within, astore, splice, afill, allCells, okIdx, asrc, aflat, aappend, hintOk, PV.clo, PV.clo1, ofL_n, ofL_c, nams, reO, reP, reA, reC, srcI, setG, obG, List.cons.injEq, aeq1, aeqs, onG, Int.reduceLE, Int.reduceNeg, Int.reduceLT, Nat.reduceEqDiff, ↓reduceIte, Nat.reduceLT, Nat.reduceLeDiff, Nat.reduceAdd, Nat.reduceMul, Nat.reduceSub, reduceCtorEq, Int.reduceEq]
  refine AL.go (X := Nat × Int) (fun p => ⟨ofL [(0, .sl [0] 3 L.length 0 L.length), (1, .int .i64 p.2), (5, .int .i64 (p.1 : Int))], ML [.row 3 L.length (upto p.1 (lpv oArea M) (lpv oArea L))]⟩) (fun p => L.length - p.1) (fun p => p.1 ≤ L.length ∧ 0 ≤ p.2 ∧ M.drop p.1 = mkAreaS p.2 (L.drop p.1) ∧ r = p.2 + (cntAreaS (L.drop p.1) : Nat)) (0, k) ⟨Nat.zero_le _, hk0, by simp [hM], by simpa using hr⟩
    (Told_go hn [[0]] tS (by simp [upto_0, nl_Area, obsT, obT, okO, okP, okA, okC, okD, okI, reP, reA, reC, srcI, Nl_nil, Nl_cons, PV.nl, upd_at, ofL_n, ofL_c, VS, argsT, lendA, lendL, lendT, Cvl_nil, Cvl_cons, Cv_bool, Cv_int, Cv_str, Cv_nils, Cv_nilc, Cv_cl, Cv_ow, noFn, PV.noF, NR_iff, NRO, hb, ares, ares1, ldo, ld, nOw, PV.isOw, TY]) (by simp [upto_0, nl_Area, obsT, obT, okO, okP, okA, okC, okD, okI, reP, reA, reC, srcI, Nl_nil, Nl_cons, PV.nl, upd_at, ofL_n, ofL_c, VS, argsT, lendA, lendL, lendT, Cvl_nil, Cvl_cons, Cv_bool, Cv_int, Cv_str, Cv_nils, Cv_nilc, Cv_cl, Cv_ow, noFn, PV.noF, NR_iff, NRO, hb, ares, ares1, ldo, ld, nOw, PV.isOw, TY])) ?_
  rintro ⟨i, k⟩ ⟨hi, hk0, hM, hr⟩
  simp only at hi hk0 hM hr ⊢
  by_cases h : i < L.length
  · have eo : lpv oArea L i = [.int .i64 L[i].id, .ow 2 L[i].parts.length (lpv pPart L[i].parts), .ow 2 L[i].tags.length (lpv pTag L[i].tags)] := lpv_at h
    have hcx : cntArea L[i] = 1 + cntPartS L[i].parts + cntTagS L[i].tags := rfl
    have hdec : decide ((i : Int) < (L.length : Int)) = true := by simpa using h
    have hbi : (0 ≤ (i : Int) ∧ (i : Int) < (L.length : Int)) ↔ True := by simp; omega
    rw [List.drop_eq_getElem_cons h, List.drop_eq_getElem_cons (show i < M.length by omega), mkAreaS, List.cons.injEq] at hM
    rw [List.drop_eq_getElem_cons h, cntAreaS] at hr
    have em : lpv oArea M i = [.int .i64 (k), .ow 2 L[i].parts.length (lpv pPart (mkPartS (k + 1) L[i].parts)), .ow 2 L[i].tags.length (lpv pTag (mkTagS (k + (1 + ((cntPartS L[i].parts : Nat) : Int))) L[i].tags))] := by rw [lpv_at (show i < M.length by omega), hM.1]; simp [oArea, mkArea, upd_at, mkPartS_len, mkTagS_len]
    refine AW_open [0] i 1 ?_
    simp only [eo, VS, VZ, TY, openC, foldC, foldN, PF, pick_or, pick_and, aop, aopD, rdN, wrN, idL, idA, apure, AS.ev, startA, strip, abin, aint, astr, alen, aslice, optI, aconv, aconvM, gdv, AS.put, ofVal, pcells, ld, ldo, nOw, PV.isOw, gtmp, within, astore, splice, afill, allCells, okIdx, asrc, aflat, aappend, hintOk, PV.clo, PV.clo1, ofL_n, ofL_c, nams, reO, reP, reA, reC, srcI, setG, obG, List.cons.injEq, aeq1, aeqs, onG, Int.reduceLE, Int.reduceNeg, Int.reduceLT, Nat.reduceEqDiff, ↓reduceIte, Nat.reduceLT, Nat.reduceLeDiff, Nat.reduceAdd, Nat.reduceMul, Nat.reduceSub, reduceCtorEq, Int.reduceEq]
    refine ⟨h, ?_⟩
    refine AW_open [0] i 2 ?_
    simp only [eo, VS, VZ, TY, openC, foldC, foldN, PF, pick_or, pick_and, aop, aopD, rdN, wrN, idL, idA, apure, AS.ev, startA, strip, abin, aint, astr, alen, aslice, optI, aconv, aconvM, gdv, AS.put, ofVal, pcells, ld, ldo, nOw, PV.isOw, gtmp, within, astore, splice, afill, allCells, okIdx, asrc, aflat, aappend, hintOk, PV.clo, PV.clo1, ofL_n, ofL_c, nams, reO, reP, reA, reC, srcI, setG, obG, List.cons.injEq, aeq1, aeqs, onG, Int.reduceLE, Int.reduceNeg, Int.reduceLT, Nat.reduceEqDiff, ↓reduceIte, Nat.reduceLT, Nat.reduceLeDiff, Nat.reduceAdd, Nat.reduceMul, Nat.reduceSub, reduceCtorEq, Int.reduceEq]
    refine ⟨h, ?_⟩
    refine vc_ok _ _ _ ?_
    simp only [hC, eo, hdec, hbi, VS, VZ, TY, openC, foldC, foldN, PF, pick_or, pick_and, aop, aopD, rdN, wrN, idL, idA, apure, AS.ev, startA, strip, abin, aint, astr, alen, aslice, optI, aconv, aconvM, gdv, AS.put, ofVal, pcells, ld, ldo, nOw, PV.isOw, gtmp, within, astore, splice, afill, allCells, okIdx, asrc, aflat, aappend, hintOk, PV.clo, PV.clo1, ofL_n, ofL_c, nams, reO, reP, reA, reC, srcI, setG, obG, List.cons.injEq, aeq1, aeqs, onG, Int.reduceLE, Int.reduceNeg, Int.reduceLT, Nat.reduceEqDiff, ↓reduceIte, Nat.reduceLT, Nat.reduceLeDiff, Nat.reduceAdd, Nat.reduceMul, Nat.reduceSub, reduceCtorEq, Int.reduceEq]
    try (simp (disch := omega) only [wr64, Int.add_assoc, Int.reduceAdd, eq_self, decide_true, decide_false, Bool.not_true, Bool.not_false, true_implies, false_implies, Bool.false_eq_true, Bool.true_eq_false, and_true, true_and, and_self, beq_self_eq_true])
    refine acall_go false [[1]] (c_markPartS L[i].parts (k + 1) (by omega) (by omega)) (by simp [obsT, obT, okO, okP, okA, okC, okD, okI, reP, reA, reC, srcI, Nl_nil, Nl_cons, PV.nl, upd_at, ofL_n, ofL_c, VS, argsT, lendA, lendL, lendT, Cvl_nil, Cvl_cons, Cv_bool, Cv_int, Cv_str, Cv_nils, Cv_nilc, Cv_cl, Cv_ow, noFn, PV.noF, NR_iff, NRO, hb, ares, ares1, ldo, ld, nOw, PV.isOw, TY] <;> omega) (by simp [nl_Part, obsT, obT, okO, okP, okA, okC, okD, okI, reP, reA, reC, srcI, Nl_nil, Nl_cons, PV.nl, upd_at, ofL_n, ofL_c, VS, argsT, lendA, lendL, lendT, Cvl_nil, Cvl_cons, Cv_bool, Cv_int, Cv_str, Cv_nils, Cv_nilc, Cv_cl, Cv_ow, noFn, PV.noF, NR_iff, NRO, hb, ares, ares1, ldo, ld, nOw, PV.isOw, TY]) (by simp [nl_Part, obsT, obT, okO, okP, okA, okC, okD, okI, reP, reA, reC, srcI, Nl_nil, Nl_cons, PV.nl, upd_at, ofL_n, ofL_c, VS, argsT, lendA, lendL, lendT, Cvl_nil, Cvl_cons, Cv_bool, Cv_int, Cv_str, Cv_nils, Cv_nilc, Cv_cl, Cv_ow, noFn, PV.noF, NR_iff, NRO, hb, ares, ares1, ldo, ld, nOw, PV.isOw, TY]) tS tS (by simp [nl_Part, obsT, obT, okO, okP, okA, okC, okD, okI, reP, reA, reC, srcI, Nl_nil, Nl_cons, PV.nl, upd_at, ofL_n, ofL_c, VS, argsT, lendA, lendL, lendT, Cvl_nil, Cvl_cons, Cv_bool, Cv_int, Cv_str, Cv_nils, Cv_nilc, Cv_cl, Cv_ow, noFn, PV.noF, NR_iff, NRO, hb, ares, ares1, ldo, ld, nOw, PV.isOw, TY]) (.inl rfl) ?_
    simp only [hC, hdec, hbi, VS, VZ, TY, openC, foldC, foldN, PF, pick_or, pick_and, aop, aopD, rdN, wrN, idL, idA, apure, AS.ev, startA, strip, abin, aint, astr, alen, aslice, optI, aconv, aconvM, gdv, AS.put, ofVal, pcells, ld, ldo, nOw, PV.isOw, gtmp, within, astore, splice, afill, allCells, okIdx, asrc, aflat, aappend, hintOk, PV.clo, PV.clo1, ofL_n, ofL_c, nams, reO, reP, reA, reC, srcI, setG, obG, List.cons.injEq, aeq1, aeqs, onG, Int.reduceLE, Int.reduceNeg, Int.reduceLT, Nat.reduceEqDiff, ↓reduceIte, Nat.reduceLT, Nat.reduceLeDiff, Nat.reduceAdd, Nat.reduceMul, Nat.reduceSub, reduceCtorEq, Int.reduceEq]
    try (simp (disch := omega) only [wr64, Int.add_assoc, Int.reduceAdd, eq_self, decide_true, decide_false, Bool.not_true, Bool.not_false, true_implies, false_implies, Bool.false_eq_true, Bool.true_eq_false, and_true, true_and, and_self, beq_self_eq_true])
    refine acall_go false [[2]] (c_markTagS L[i].tags (k + (1 + ((cntPartS L[i].parts : Nat) : Int))) (by omega) (by omega)) (by simp [obsT, obT, okO, okP, okA, okC, okD, okI, reP, reA, reC, srcI, Nl_nil, Nl_cons, PV.nl, upd_at, ofL_n, ofL_c, VS, argsT, lendA, lendL, lendT, Cvl_nil, Cvl_cons, Cv_bool, Cv_int, Cv_str, Cv_nils, Cv_nilc, Cv_cl, Cv_ow, noFn, PV.noF, NR_iff, NRO, hb, ares, ares1, ldo, ld, nOw, PV.isOw, TY] <;> omega) (by simp [nl_Tag, obsT, obT, okO, okP, okA, okC, okD, okI, reP, reA, reC, srcI, Nl_nil, Nl_cons, PV.nl, upd_at, ofL_n, ofL_c, VS, argsT, lendA, lendL, lendT, Cvl_nil, Cvl_cons, Cv_bool, Cv_int, Cv_str, Cv_nils, Cv_nilc, Cv_cl, Cv_ow, noFn, PV.noF, NR_iff, NRO, hb, ares, ares1, ldo, ld, nOw, PV.isOw, TY]) (by simp [nl_Tag, obsT, obT, okO, okP, okA, okC, okD, okI, reP, reA, reC, srcI, Nl_nil, Nl_cons, PV.nl, upd_at, ofL_n, ofL_c, VS, argsT, lendA, lendL, lendT, Cvl_nil, Cvl_cons, Cv_bool, Cv_int, Cv_str, Cv_nils, Cv_nilc, Cv_cl, Cv_ow, noFn, PV.noF, NR_iff, NRO, hb, ares, ares1, ldo, ld, nOw, PV.isOw, TY]) tS tS (by simp [nl_Tag, obsT, obT, okO, okP, okA, okC, okD, okI, reP, reA, reC, srcI, Nl_nil, Nl_cons, PV.nl, upd_at, ofL_n, ofL_c, VS, argsT, lendA, lendL, lendT, Cvl_nil, Cvl_cons, Cv_bool, Cv_int, Cv_str, Cv_nils, Cv_nilc, Cv_cl, Cv_ow, noFn, PV.noF, NR_iff, NRO, hb, ares, ares1, ldo, ld, nOw, PV.isOw, TY]) (.inl rfl) ?_
    simp only [hC, hdec, hbi, VS, VZ, TY, openC, foldC, foldN, PF, pick_or, pick_and, aop, aopD, rdN, wrN, idL, idA, apure, AS.ev, startA, strip, abin, aint, astr, alen, aslice, optI, aconv, aconvM, gdv, AS.put, ofVal, pcells, ld, ldo, nOw, PV.isOw, gtmp, within, astore, splice, afill, allCells, okIdx, asrc, aflat, aappend, hintOk, PV.clo, PV.clo1, ofL_n, ofL_c, nams, reO, reP, reA, reC, srcI, setG, obG, List.cons.injEq, aeq1, aeqs, onG, Int.reduceLE, Int.reduceNeg, Int.reduceLT, Nat.reduceEqDiff, ↓reduceIte, Nat.reduceLT, Nat.reduceLeDiff, Nat.reduceAdd, Nat.reduceMul, Nat.reduceSub, reduceCtorEq, Int.reduceEq]
    try (simp (disch := omega) only [wr64, Int.add_assoc, Int.reduceAdd, eq_self, decide_true, decide_false, Bool.not_true, Bool.not_false, true_implies, false_implies, Bool.false_eq_true, Bool.true_eq_false, and_true, true_and, and_self, beq_self_eq_true])
    refine ⟨(i + 1, k + (cntArea L[i] : Nat)), ⟨by simp only; omega, by simp only; omega, hM.2, by simp only; omega⟩, by simp only; omega, ?_⟩
    refine T_fold [0] i 1 [1] ?_
    simp only [VS, VZ, TY, openC, foldC, foldN, PF, pick_or, pick_and, aop, aopD, rdN, wrN, idL, idA, apure, AS.ev, startA, strip, abin, aint, astr, alen, aslice, optI, aconv, aconvM, gdv, AS.put, ofVal, pcells, ld, ldo, nOw, PV.isOw, gtmp, within, astore, splice, afill, allCells, okIdx, asrc, aflat, aappend, hintOk, PV.clo, PV.clo1, ofL_n, ofL_c, nams, reO, reP, reA, reC, srcI, setG, obG, List.cons.injEq, aeq1, aeqs, onG, Int.reduceLE, Int.reduceNeg, Int.reduceLT, Nat.reduceEqDiff, ↓reduceIte, Nat.reduceLT, Nat.reduceLeDiff, Nat.reduceAdd, Nat.reduceMul, Nat.reduceSub, reduceCtorEq, Int.reduceEq]
    refine ⟨h, by simp, by simp [nl_Part], ?_⟩
    refine T_fold [0] i 2 [2] ?_
    simp only [VS, VZ, TY, openC, foldC, foldN, PF, pick_or, pick_and, aop, aopD, rdN, wrN, idL, idA, apure, AS.ev, startA, strip, abin, aint, astr, alen, aslice, optI, aconv, aconvM, gdv, AS.put, ofVal, pcells, ld, ldo, nOw, PV.isOw, gtmp, within, astore, splice, afill, allCells, okIdx, asrc, aflat, aappend, hintOk, PV.clo, PV.clo1, ofL_n, ofL_c, nams, reO, reP, reA, reC, srcI, setG, obG, List.cons.injEq, aeq1, aeqs, onG, Int.reduceLE, Int.reduceNeg, Int.reduceLT, Nat.reduceEqDiff, ↓reduceIte, Nat.reduceLT, Nat.reduceLeDiff, Nat.reduceAdd, Nat.reduceMul, Nat.reduceSub, reduceCtorEq, Int.reduceEq]
    refine ⟨h, by simp, by simp [nl_Tag], ?_⟩
    refine Told_go hn [[0]] (by simp [obsT, obT, okO, okP, okA, okC, okD, okI, reP, reA, reC, srcI, Nl_nil, Nl_cons, PV.nl, upd_at, ofL_n, ofL_c, VS, argsT, lendA, lendL, lendT, Cvl_nil, Cvl_cons, Cv_bool, Cv_int, Cv_str, Cv_nils, Cv_nilc, Cv_cl, Cv_ow, noFn, PV.noF, NR_iff, NRO, hb, ares, ares1, ldo, ld, nOw, PV.isOw, TY] <;> omega) ?_ ?_
    · simp only [obsT, obT, VS, VZ, TY, openC, foldC, foldN, PF, pick_or, pick_and, aop, aopD, rdN, wrN, idL, idA, apure, AS.ev, startA, strip, abin, aint, astr, alen, aslice, optI, aconv, aconvM, gdv, AS.put, ofVal, pcells, ld, ldo, nOw, PV.isOw, gtmp, within, astore, splice, afill, allCells, okIdx, asrc, aflat, aappend, hintOk, PV.clo, PV.clo1, ofL_n, ofL_c, nams, reO, reP, reA, reC, srcI, setG, obG, List.cons.injEq, aeq1, aeqs, onG, Int.reduceLE, Int.reduceNeg, Int.reduceLT, Nat.reduceEqDiff, ↓reduceIte, Nat.reduceLT, Nat.reduceLeDiff, Nat.reduceAdd, Nat.reduceMul, Nat.reduceSub, reduceCtorEq, Int.reduceEq]
      intro j hj
      by_cases q : j = i
      · subst q; simp [upto_eq, em, eo, obsT, obT, okO, okP, okA, okC, okD, okI, reP, reA, reC, srcI, Nl_nil, Nl_cons, PV.nl, upd_at, ofL_n, ofL_c, VS, argsT, lendA, lendL, lendT, Cvl_nil, Cvl_cons, Cv_bool, Cv_int, Cv_str, Cv_nils, Cv_nilc, Cv_cl, Cv_ow, noFn, PV.noF, NR_iff, NRO, hb, ares, ares1, ldo, ld, nOw, PV.isOw, TY]
      · simp [upto_ne q, q, Nl_upto, nl_Area, obsT, obT, okO, okP, okA, okC, okD, okI, reP, reA, reC, srcI, Nl_nil, Nl_cons, PV.nl, upd_at, ofL_n, ofL_c, VS, argsT, lendA, lendL, lendT, Cvl_nil, Cvl_cons, Cv_bool, Cv_int, Cv_str, Cv_nils, Cv_nilc, Cv_cl, Cv_ow, noFn, PV.noF, NR_iff, NRO, hb, ares, ares1, ldo, ld, nOw, PV.isOw, TY]
    · simp [Nl_upto, nl_Area, obsT, obT, okO, okP, okA, okC, okD, okI, reP, reA, reC, srcI, Nl_nil, Nl_cons, PV.nl, upd_at, ofL_n, ofL_c, VS, argsT, lendA, lendL, lendT, Cvl_nil, Cvl_cons, Cv_bool, Cv_int, Cv_str, Cv_nils, Cv_nilc, Cv_cl, Cv_ow, noFn, PV.noF, NR_iff, NRO, hb, ares, ares1, ldo, ld, nOw, PV.isOw, TY]
  · have : i = L.length := by omega
    subst this
    have hdec : decide ((L.length : Int) < (L.length : Int)) = false := by simp
    have hr : r = k := by simpa [cntAreaS] using hr
    refine vc_ok _ _ _ ?_
    simp only [hC, hdec, VS, VZ, TY, openC, foldC, foldN, PF, pick_or, pick_and, aop, aopD, rdN, wrN, idL, idA, apure, AS.ev, startA, strip, abin, aint, astr, alen, aslice, optI, aconv, aconvM, gdv, AS.put, ofVal, pcells, ld, ldo, nOw, PV.isOw, gtmp, within, astore, splice, afill, allCells, okIdx, asrc, aflat, aappend, hintOk, PV.clo, PV.clo1, ofL_n, ofL_c, nams, reO, reP, reA, reC, srcI, setG, obG, List.cons.injEq, aeq1, aeqs, onG, Int.reduceLE, Int.reduceNeg, Int.reduceLT, Nat.reduceEqDiff, ↓reduceIte, Nat.reduceLT, Nat.reduceLeDiff, Nat.reduceAdd, Nat.reduceMul, Nat.reduceSub, reduceCtorEq, Int.reduceEq]
    exact Ret_go [[0]] (by simp [hr, obsT, obT, okO, okP, okA, okC, okD, okI, reP, reA, reC, srcI, Nl_nil, Nl_cons, PV.nl, upd_at, ofL_n, ofL_c, VS, argsT, lendA, lendL, lendT, Cvl_nil, Cvl_cons, Cv_bool, Cv_int, Cv_str, Cv_nils, Cv_nilc, Cv_cl, Cv_ow, noFn, PV.noF, NR_iff, NRO, hb, ares, ares1, ldo, ld, nOw, PV.isOw, TY]) (by simp (config := {contextual := true}) [upto_lt, nl_Area, obsT, obT, okO, okP, okA, okC, okD, okI, reP, reA, reC, srcI, Nl_nil, Nl_cons, PV.nl, upd_at, ofL_n, ofL_c, VS, argsT, lendA, lendL, lendT, Cvl_nil, Cvl_cons, Cv_bool, Cv_int, Cv_str, Cv_nils, Cv_nilc, Cv_cl, Cv_ow, noFn, PV.noF, NR_iff, NRO, hb, ares, ares1, ldo, ld, nOw, PV.isOw, TY]) (by simp [nl_Area, obsT, obT, okO, okP, okA, okC, okD, okI, reP, reA, reC, srcI, Nl_nil, Nl_cons, PV.nl, upd_at, ofL_n, ofL_c, VS, argsT, lendA, lendL, lendT, Cvl_nil, Cvl_cons, Cv_bool, Cv_int, Cv_str, Cv_nils, Cv_nilc, Cv_cl, Cv_ow, noFn, PV.noF, NR_iff, NRO, hb, ares, ares1, ldo, ld, nOw, PV.isOw, TY])
theorem c_heldTagS (L : List Tg) (k : Int) (hk0 : 0 ≤ k) (hk : k + (cntTagS L : Nat) ≤ 4611686018427387904) : AC Try.prog 120 [.cl 2 L.length (lpv pTag (mkTagS k L)), .int .i64 k] (ML []) (.int .i64 (k + (cntTagS L : Nat))) (ML []) := by
  refine AC.of Try.func120 rfl rfl (by simp [Try.ntmps120]) rfl (fun C hC hm => ?_)
  rw [Try.ntmps120] at hC
  have hn : C.m0.nx = _ := congrArg Mem.nx hm
  simp only [ML_nx, List.length_nil, List.length_cons, Nat.zero_add, Nat.reduceAdd] at hn
  have hL := cntTagS_ge L
  have hML := mkTagS_len k L
  generalize hM : mkTagS k L = M at *
  obtain ⟨r, hr⟩ : ∃ r : Int, r = k + (cntTagS L : Nat) := ⟨_, rfl⟩
  rw [← hr]
  rw [← hr] at hk
  simp only [hC, VS, VZ, TY, openC, foldC, foldN, PF, pick_or, pick_and, aop, aopD, rdN, wrN, idL, idA, apure, AS.ev, startA, strip, abin, aint, astr, alen, aslice, optI, aconv, aconvM, gdv, AS.put, ofVal, pcells, ld, ldo, nOw, PV.isOw, gtmp, within, astore, splice, afill, allCells, okIdx, asrc, aflat, aappend, hintOk, PV.clo, PV.clo1, ofL_n, ofL_c, nams, reO, reP, reA, reC, srcI, setG, obG, List.cons.injEq, aeq1, aeqs, onG, Int.reduceLE, Int.reduceNeg, Int.reduceLT, Nat.reduceEqDiff, ↓reduceIte, Nat.reduceLT, Nat.reduceLeDiff, Nat.reduceAdd, Nat.reduceMul, Nat.reduceSub, reduceCtorEq, Int.reduceEq]
  refine AL.go (X := Nat × Int) (fun p => ⟨ofL [(0, .cl 2 L.length (lpv pTag M)), (1, .int .i64 p.2), (5, .int .i64 (p.1 : Int))], ML []⟩) (fun p => L.length - p.1) (fun p => p.1 ≤ L.length ∧ 0 ≤ p.2 ∧ M.drop p.1 = mkTagS p.2 (L.drop p.1) ∧ r = p.2 + (cntTagS (L.drop p.1) : Nat)) (0, k) ⟨Nat.zero_le _, hk0, by simp [hM], by simpa using hr⟩
    (Told_go hn [] tS tS (by simp)) ?_
  rintro ⟨i, k⟩ ⟨hi, hk0, hM, hr⟩
  simp only at hi hk0 hM hr ⊢
  by_cases h : i < L.length
  · have hcx : cntTag L[i] = 2 := rfl
    have hdec : decide ((i : Int) < (L.length : Int)) = true := by simpa using h
    have hbi : (0 ≤ (i : Int) ∧ (i : Int) < (L.length : Int)) ↔ True := by simp; omega
    rw [List.drop_eq_getElem_cons h, List.drop_eq_getElem_cons (show i < M.length by omega), mkTagS, List.cons.injEq] at hM
    rw [List.drop_eq_getElem_cons h, cntTagS] at hr
    have em : lpv pTag M i = [.str (MT.mkT (k)), .str (MT.mkT (k + 1))] := by rw [lpv_at (show i < M.length by omega), hM.1]; simp [pTag, mkTag, upd_at]
    refine vc_ok _ _ _ ?_
    simp only [hC, em, hdec, hbi, VS, VZ, TY, openC, foldC, foldN, PF, pick_or, pick_and, aop, aopD, rdN, wrN, idL, idA, apure, AS.ev, startA, strip, abin, aint, astr, alen, aslice, optI, aconv, aconvM, gdv, AS.put, ofVal, pcells, ld, ldo, nOw, PV.isOw, gtmp, within, astore, splice, afill, allCells, okIdx, asrc, aflat, aappend, hintOk, PV.clo, PV.clo1, ofL_n, ofL_c, nams, reO, reP, reA, reC, srcI, setG, obG, List.cons.injEq, aeq1, aeqs, onG, Int.reduceLE, Int.reduceNeg, Int.reduceLT, Nat.reduceEqDiff, ↓reduceIte, Nat.reduceLT, Nat.reduceLeDiff, Nat.reduceAdd, Nat.reduceMul, Nat.reduceSub, reduceCtorEq, Int.reduceEq]
    try (simp (disch := omega) only [wr64, Int.add_assoc, Int.reduceAdd, eq_self, decide_true, decide_false, Bool.not_true, Bool.not_false, true_implies, false_implies, Bool.false_eq_true, Bool.true_eq_false, and_true, true_and, and_self, beq_self_eq_true])
    refine ⟨by kernel_rfl, ?_⟩
    refine acall_p false (MT.c_markText (k) (by omega) (by omega)) (by simp [obsT, obT, okO, okP, okA, okC, okD, okI, reP, reA, reC, srcI, Nl_nil, Nl_cons, PV.nl, upd_at, ofL_n, ofL_c, VS, argsT, lendA, lendL, lendT, Cvl_nil, Cvl_cons, Cv_bool, Cv_int, Cv_str, Cv_nils, Cv_nilc, Cv_cl, Cv_ow, noFn, PV.noF, NR_iff, NRO, hb, ares, ares1, ldo, ld, nOw, PV.isOw, TY] <;> omega) tS (.inl rfl) ?_
    simp only [hC, hdec, hbi, em, VS, VZ, TY, openC, foldC, foldN, PF, pick_or, pick_and, aop, aopD, rdN, wrN, idL, idA, apure, AS.ev, startA, strip, abin, aint, astr, alen, aslice, optI, aconv, aconvM, gdv, AS.put, ofVal, pcells, ld, ldo, nOw, PV.isOw, gtmp, within, astore, splice, afill, allCells, okIdx, asrc, aflat, aappend, hintOk, PV.clo, PV.clo1, ofL_n, ofL_c, nams, reO, reP, reA, reC, srcI, setG, obG, List.cons.injEq, aeq1, aeqs, onG, Int.reduceLE, Int.reduceNeg, Int.reduceLT, Nat.reduceEqDiff, ↓reduceIte, Nat.reduceLT, Nat.reduceLeDiff, Nat.reduceAdd, Nat.reduceMul, Nat.reduceSub, reduceCtorEq, Int.reduceEq]
    try (simp (disch := omega) only [wr64, Int.add_assoc, Int.reduceAdd, eq_self, decide_true, decide_false, Bool.not_true, Bool.not_false, true_implies, false_implies, Bool.false_eq_true, Bool.true_eq_false, and_true, true_and, and_self, beq_self_eq_true])
    refine ⟨by kernel_rfl, ?_⟩
    refine acall_p false (MT.c_markText (k + 1) (by omega) (by omega)) (by simp [obsT, obT, okO, okP, okA, okC, okD, okI, reP, reA, reC, srcI, Nl_nil, Nl_cons, PV.nl, upd_at, ofL_n, ofL_c, VS, argsT, lendA, lendL, lendT, Cvl_nil, Cvl_cons, Cv_bool, Cv_int, Cv_str, Cv_nils, Cv_nilc, Cv_cl, Cv_ow, noFn, PV.noF, NR_iff, NRO, hb, ares, ares1, ldo, ld, nOw, PV.isOw, TY] <;> omega) tS (.inl rfl) ?_
    simp only [hC, hdec, hbi, em, VS, VZ, TY, openC, foldC, foldN, PF, pick_or, pick_and, aop, aopD, rdN, wrN, idL, idA, apure, AS.ev, startA, strip, abin, aint, astr, alen, aslice, optI, aconv, aconvM, gdv, AS.put, ofVal, pcells, ld, ldo, nOw, PV.isOw, gtmp, within, astore, splice, afill, allCells, okIdx, asrc, aflat, aappend, hintOk, PV.clo, PV.clo1, ofL_n, ofL_c, nams, reO, reP, reA, reC, srcI, setG, obG, List.cons.injEq, aeq1, aeqs, onG, Int.reduceLE, Int.reduceNeg, Int.reduceLT, Nat.reduceEqDiff, ↓reduceIte, Nat.reduceLT, Nat.reduceLeDiff, Nat.reduceAdd, Nat.reduceMul, Nat.reduceSub, reduceCtorEq, Int.reduceEq]
    try (simp (disch := omega) only [wr64, Int.add_assoc, Int.reduceAdd, eq_self, decide_true, decide_false, Bool.not_true, Bool.not_false, true_implies, false_implies, Bool.false_eq_true, Bool.true_eq_false, and_true, true_and, and_self, beq_self_eq_true])
    refine ⟨(i + 1, k + (cntTag L[i] : Nat)), ⟨by simp only; omega, by simp only; omega, hM.2, by simp only; omega⟩, by simp only; omega, ?_⟩
    exact Told_go hn [] (by simp [obsT, obT, okO, okP, okA, okC, okD, okI, reP, reA, reC, srcI, Nl_nil, Nl_cons, PV.nl, upd_at, ofL_n, ofL_c, VS, argsT, lendA, lendL, lendT, Cvl_nil, Cvl_cons, Cv_bool, Cv_int, Cv_str, Cv_nils, Cv_nilc, Cv_cl, Cv_ow, noFn, PV.noF, NR_iff, NRO, hb, ares, ares1, ldo, ld, nOw, PV.isOw, TY] <;> omega) tS (by simp)
  · have : i = L.length := by omega
    subst this
    have hdec : decide ((L.length : Int) < (L.length : Int)) = false := by simp
    have hr : r = k := by simpa [cntTagS] using hr
    refine vc_ok _ _ _ ?_
    simp only [hC, hdec, VS, VZ, TY, openC, foldC, foldN, PF, pick_or, pick_and, aop, aopD, rdN, wrN, idL, idA, apure, AS.ev, startA, strip, abin, aint, astr, alen, aslice, optI, aconv, aconvM, gdv, AS.put, ofVal, pcells, ld, ldo, nOw, PV.isOw, gtmp, within, astore, splice, afill, allCells, okIdx, asrc, aflat, aappend, hintOk, PV.clo, PV.clo1, ofL_n, ofL_c, nams, reO, reP, reA, reC, srcI, setG, obG, List.cons.injEq, aeq1, aeqs, onG, Int.reduceLE, Int.reduceNeg, Int.reduceLT, Nat.reduceEqDiff, ↓reduceIte, Nat.reduceLT, Nat.reduceLeDiff, Nat.reduceAdd, Nat.reduceMul, Nat.reduceSub, reduceCtorEq, Int.reduceEq]
    exact Ret_go [] (by simp [hr, obsT, obT, okO, okP, okA, okC, okD, okI, reP, reA, reC, srcI, Nl_nil, Nl_cons, PV.nl, upd_at, ofL_n, ofL_c, VS, argsT, lendA, lendL, lendT, Cvl_nil, Cvl_cons, Cv_bool, Cv_int, Cv_str, Cv_nils, Cv_nilc, Cv_cl, Cv_ow, noFn, PV.noF, NR_iff, NRO, hb, ares, ares1, ldo, ld, nOw, PV.isOw, TY]) tS (by simp)
theorem c_heldInt64S (L : List Int) (k : Int) (hk0 : 0 ≤ k) (hk : k + (cntInt64S L : Nat) ≤ 4611686018427387904) : AC Try.prog 24 [.cl 1 L.length (lpv pInt64 (mkInt64S k L)), .int .i64 k] (ML []) (.int .i64 (k + (cntInt64S L : Nat))) (ML []) := by
  refine AC.of Try.func24 rfl rfl (by simp [Try.ntmps24]) rfl (fun C hC hm => ?_)
  rw [Try.ntmps24] at hC
  have hn : C.m0.nx = _ := congrArg Mem.nx hm
  simp only [ML_nx, List.length_nil, List.length_cons, Nat.zero_add, Nat.reduceAdd] at hn
  have hL := cntInt64S_ge L
  have hML := mkInt64S_len k L
  generalize hM : mkInt64S k L = M at *
  obtain ⟨r, hr⟩ : ∃ r : Int, r = k + (cntInt64S L : Nat) := ⟨_, rfl⟩
  rw [← hr]
  rw [← hr] at hk
  simp only [hC, VS, VZ, TY, openC, foldC, foldN, PF, pick_or, pick_and, aop, aopD, rdN, wrN, idL, idA, apure, AS.ev, startA, strip, abin, aint, astr, alen, aslice, optI, aconv, aconvM, gdv, AS.put, ofVal, pcells, ld, ldo, nOw, PV.isOw, gtmp, within, astore, splice, afill, allCells, okIdx, asrc, aflat, aappend, hintOk, PV.clo, PV.clo1, ofL_n, ofL_c, nams, reO, reP, reA, reC, srcI, setG, obG, List.cons.injEq, aeq1, aeqs, onG, Int.reduceLE, Int.reduceNeg, Int.reduceLT, Nat.reduceEqDiff, ↓reduceIte, Nat.reduceLT, Nat.reduceLeDiff, Nat.reduceAdd, Nat.reduceMul, Nat.reduceSub, reduceCtorEq, Int.reduceEq]
  refine AL.go (X := Nat × Int) (fun p => ⟨ofL [(0, .cl 1 L.length (lpv pInt64 M)), (1, .int .i64 p.2), (5, .int .i64 (p.1 : Int))], ML []⟩) (fun p => L.length - p.1) (fun p => p.1 ≤ L.length ∧ 0 ≤ p.2 ∧ M.drop p.1 = mkInt64S p.2 (L.drop p.1) ∧ r = p.2 + (cntInt64S (L.drop p.1) : Nat)) (0, k) ⟨Nat.zero_le _, hk0, by simp [hM], by simpa using hr⟩
    (Told_go hn [] tS tS (by simp)) ?_
  rintro ⟨i, k⟩ ⟨hi, hk0, hM, hr⟩
  simp only at hi hk0 hM hr ⊢
  by_cases h : i < L.length
  · have hcx : cntInt64 L[i] = 1 := rfl
    have hdec : decide ((i : Int) < (L.length : Int)) = true := by simpa using h
    have hbi : (0 ≤ (i : Int) ∧ (i : Int) < (L.length : Int)) ↔ True := by simp; omega
    rw [List.drop_eq_getElem_cons h, List.drop_eq_getElem_cons (show i < M.length by omega), mkInt64S, List.cons.injEq] at hM
    rw [List.drop_eq_getElem_cons h, cntInt64S] at hr
    have em : lpv pInt64 M i = [.int .i64 (k)] := by rw [lpv_at (show i < M.length by omega), hM.1]; simp [pInt64, mkInt64, upd_at]
    refine vc_ok _ _ _ ?_
    simp only [hC, em, hdec, hbi, VS, VZ, TY, openC, foldC, foldN, PF, pick_or, pick_and, aop, aopD, rdN, wrN, idL, idA, apure, AS.ev, startA, strip, abin, aint, astr, alen, aslice, optI, aconv, aconvM, gdv, AS.put, ofVal, pcells, ld, ldo, nOw, PV.isOw, gtmp, within, astore, splice, afill, allCells, okIdx, asrc, aflat, aappend, hintOk, PV.clo, PV.clo1, ofL_n, ofL_c, nams, reO, reP, reA, reC, srcI, setG, obG, List.cons.injEq, aeq1, aeqs, onG, Int.reduceLE, Int.reduceNeg, Int.reduceLT, Nat.reduceEqDiff, ↓reduceIte, Nat.reduceLT, Nat.reduceLeDiff, Nat.reduceAdd, Nat.reduceMul, Nat.reduceSub, reduceCtorEq, Int.reduceEq]
    try (simp (disch := omega) only [wr64, Int.add_assoc, Int.reduceAdd, eq_self, decide_true, decide_false, Bool.not_true, Bool.not_false, true_implies, false_implies, Bool.false_eq_true, Bool.true_eq_false, and_true, true_and, and_self, beq_self_eq_true])
    refine ⟨(i + 1, k + (cntInt64 L[i] : Nat)), ⟨by simp only; omega, by simp only; omega, hM.2, by simp only; omega⟩, by simp only; omega, ?_⟩
    exact Told_go hn [] (by simp [obsT, obT, okO, okP, okA, okC, okD, okI, reP, reA, reC, srcI, Nl_nil, Nl_cons, PV.nl, upd_at, ofL_n, ofL_c, VS, argsT, lendA, lendL, lendT, Cvl_nil, Cvl_cons, Cv_bool, Cv_int, Cv_str, Cv_nils, Cv_nilc, Cv_cl, Cv_ow, noFn, PV.noF, NR_iff, NRO, hb, ares, ares1, ldo, ld, nOw, PV.isOw, TY] <;> omega) tS (by simp)
  · have : i = L.length := by omega
    subst this
    have hdec : decide ((L.length : Int) < (L.length : Int)) = false := by simp
    have hr : r = k := by simpa [cntInt64S] using hr
    refine vc_ok _ _ _ ?_
    simp only [hC, hdec, VS, VZ, TY, openC, foldC, foldN, PF, pick_or, pick_and, aop, aopD, rdN, wrN, idL, idA, apure, AS.ev, startA, strip, abin, aint, astr, alen, aslice, optI, aconv, aconvM, gdv, AS.put, ofVal, pcells, ld, ldo, nOw, PV.isOw, gtmp, within, astore, splice, afill, allCells, okIdx, asrc, aflat, aappend, hintOk, PV.clo, PV.clo1, ofL_n, ofL_c, nams, reO, reP, reA, reC, srcI, setG, obG, List.cons.injEq, aeq1, aeqs, onG, Int.reduceLE, Int.reduceNeg, Int.reduceLT, Nat.reduceEqDiff, ↓reduceIte, Nat.reduceLT, Nat.reduceLeDiff, Nat.reduceAdd, Nat.reduceMul, Nat.reduceSub, reduceCtorEq, Int.reduceEq]
    exact Ret_go [] (by simp [hr, obsT, obT, okO, okP, okA, okC, okD, okI, reP, reA, reC, srcI, Nl_nil, Nl_cons, PV.nl, upd_at, ofL_n, ofL_c, VS, argsT, lendA, lendL, lendT, Cvl_nil, Cvl_cons, Cv_bool, Cv_int, Cv_str, Cv_nils, Cv_nilc, Cv_cl, Cv_ow, noFn, PV.noF, NR_iff, NRO, hb, ares, ares1, ldo, ld, nOw, PV.isOw, TY]) tS (by simp)
theorem c_heldPartS (L : List Pr) (k : Int) (hk0 : 0 ≤ k) (hk : k + (cntPartS L : Nat) ≤ 4611686018427387904) : AC Try.prog 121 [.cl 2 L.length (lpv pPart (mkPartS k L)), .int .i64 k] (ML []) (.int .i64 (k + (cntPartS L : Nat))) (ML []) := by
  refine AC.of Try.func121 rfl rfl (by simp [Try.ntmps121]) rfl (fun C hC hm => ?_)
  rw [Try.ntmps121] at hC
  have hn : C.m0.nx = _ := congrArg Mem.nx hm
  simp only [ML_nx, List.length_nil, List.length_cons, Nat.zero_add, Nat.reduceAdd] at hn
  have hL := cntPartS_ge L
  have hML := mkPartS_len k L
  generalize hM : mkPartS k L = M at *
  obtain ⟨r, hr⟩ : ∃ r : Int, r = k + (cntPartS L : Nat) := ⟨_, rfl⟩
  rw [← hr]
  rw [← hr] at hk
  simp only [hC, VS, VZ, TY, openC, foldC, foldN, PF, pick_or, pick_and, aop, aopD, rdN, wrN, idL, idA, apure, AS.ev, startA, strip, abin, aint, astr, alen, aslice, optI, aconv, aconvM, gdv, AS.put, ofVal, pcells, ld, ldo, nOw, PV.isOw, gtmp, within, astore, splice, afill, allCells, okIdx, asrc, aflat, aappend, hintOk, PV.clo, PV.clo1, ofL_n, ofL_c, nams, reO, reP, reA, reC, srcI, setG, obG, List.cons.injEq, aeq1, aeqs, onG, Int.reduceLE, Int.reduceNeg, Int.reduceLT, Nat.reduceEqDiff, ↓reduceIte, Nat.reduceLT, Nat.reduceLeDiff, Nat.reduceAdd, Nat.reduceMul, Nat.reduceSub, reduceCtorEq, Int.reduceEq]
  refine AL.go (X := Nat × Int) (fun p => ⟨ofL [(0, .cl 2 L.length (lpv pPart M)), (1, .int .i64 p.2), (5, .int .i64 (p.1 : Int))], ML []⟩) (fun p => L.length - p.1) (fun p => p.1 ≤ L.length ∧ 0 ≤ p.2 ∧ M.drop p.1 = mkPartS p.2 (L.drop p.1) ∧ r = p.2 + (cntPartS (L.drop p.1) : Nat)) (0, k) ⟨Nat.zero_le _, hk0, by simp [hM], by simpa using hr⟩
    (Told_go hn [] tS tS (by simp)) ?_
  rintro ⟨i, k⟩ ⟨hi, hk0, hM, hr⟩
  simp only at hi hk0 hM hr ⊢
  by_cases h : i < L.length
  · have hcx : cntPart L[i] = 2 := rfl
    have hdec : decide ((i : Int) < (L.length : Int)) = true := by simpa using h
    have hbi : (0 ≤ (i : Int) ∧ (i : Int) < (L.length : Int)) ↔ True := by simp; omega
    rw [List.drop_eq_getElem_cons h, List.drop_eq_getElem_cons (show i < M.length by omega), mkPartS, List.cons.injEq] at hM
    rw [List.drop_eq_getElem_cons h, cntPartS] at hr
    have em : lpv pPart M i = [.int .i64 (k), .bool (decide ((k + 1).tmod 3 = 0))] := by rw [lpv_at (show i < M.length by omega), hM.1]; simp [pPart, mkPart, upd_at]
    refine vc_ok _ _ _ ?_
    simp only [hC, em, hdec, hbi, VS, VZ, TY, openC, foldC, foldN, PF, pick_or, pick_and, aop, aopD, rdN, wrN, idL, idA, apure, AS.ev, startA, strip, abin, aint, astr, alen, aslice, optI, aconv, aconvM, gdv, AS.put, ofVal, pcells, ld, ldo, nOw, PV.isOw, gtmp, within, astore, splice, afill, allCells, okIdx, asrc, aflat, aappend, hintOk, PV.clo, PV.clo1, ofL_n, ofL_c, nams, reO, reP, reA, reC, srcI, setG, obG, List.cons.injEq, aeq1, aeqs, onG, Int.reduceLE, Int.reduceNeg, Int.reduceLT, Nat.reduceEqDiff, ↓reduceIte, Nat.reduceLT, Nat.reduceLeDiff, Nat.reduceAdd, Nat.reduceMul, Nat.reduceSub, reduceCtorEq, Int.reduceEq]
    try (simp (disch := omega) only [wr64, Int.add_assoc, Int.reduceAdd, eq_self, decide_true, decide_false, Bool.not_true, Bool.not_false, true_implies, false_implies, Bool.false_eq_true, Bool.true_eq_false, and_true, true_and, and_self, beq_self_eq_true])
    refine ⟨(i + 1, k + (cntPart L[i] : Nat)), ⟨by simp only; omega, by simp only; omega, hM.2, by simp only; omega⟩, by simp only; omega, ?_⟩
    exact Told_go hn [] (by simp [obsT, obT, okO, okP, okA, okC, okD, okI, reP, reA, reC, srcI, Nl_nil, Nl_cons, PV.nl, upd_at, ofL_n, ofL_c, VS, argsT, lendA, lendL, lendT, Cvl_nil, Cvl_cons, Cv_bool, Cv_int, Cv_str, Cv_nils, Cv_nilc, Cv_cl, Cv_ow, noFn, PV.noF, NR_iff, NRO, hb, ares, ares1, ldo, ld, nOw, PV.isOw, TY] <;> omega) tS (by simp)
  · have : i = L.length := by omega
    subst this
    have hdec : decide ((L.length : Int) < (L.length : Int)) = false := by simp
    have hr : r = k := by simpa [cntPartS] using hr
    refine vc_ok _ _ _ ?_
    simp only [hC, hdec, VS, VZ, TY, openC, foldC, foldN, PF, pick_or, pick_and, aop, aopD, rdN, wrN, idL, idA, apure, AS.ev, startA, strip, abin, aint, astr, alen, aslice, optI, aconv, aconvM, gdv, AS.put, ofVal, pcells, ld, ldo, nOw, PV.isOw, gtmp, within, astore, splice, afill, allCells, okIdx, asrc, aflat, aappend, hintOk, PV.clo, PV.clo1, ofL_n, ofL_c, nams, reO, reP, reA, reC, srcI, setG, obG, List.cons.injEq, aeq1, aeqs, onG, Int.reduceLE, Int.reduceNeg, Int.reduceLT, Nat.reduceEqDiff, ↓reduceIte, Nat.reduceLT, Nat.reduceLeDiff, Nat.reduceAdd, Nat.reduceMul, Nat.reduceSub, reduceCtorEq, Int.reduceEq]
    exact Ret_go [] (by simp [hr, obsT, obT, okO, okP, okA, okC, okD, okI, reP, reA, reC, srcI, Nl_nil, Nl_cons, PV.nl, upd_at, ofL_n, ofL_c, VS, argsT, lendA, lendL, lendT, Cvl_nil, Cvl_cons, Cv_bool, Cv_int, Cv_str, Cv_nils, Cv_nilc, Cv_cl, Cv_ow, noFn, PV.noF, NR_iff, NRO, hb, ares, ares1, ldo, ld, nOw, PV.isOw, TY]) tS (by simp)
end Go.Proofs.Ytppfogbgbpadiaa.Wd
namespace Go.Proofs.Ytppfogbgbpadiaa.Wd
open Go Go.RowKit Go.Proofs Go.Proofs.YtppfogbgbpadiaaW.AW
set_option linter.unusedVariables false
set_option linter.unusedSimpArgs false
set_option maxRecDepth 100000
theorem ci_copyTags (l : List Tg) (hl : l.length ≤ 1048576) : AC Try.prog 162 [.cl 2 l.length (lpv pTag l)] (ML []) (.sl [0] 2 l.length 0 l.length) (ML [.row 2 l.length (lpv pTag l)]) := by
  refine AC.of Try.func162 rfl rfl (by simp [Try.ntmps162]) rfl (fun C hC hm => ?_)
  rw [Try.ntmps162] at hC
  have hn : C.m0.nx = _ := congrArg Mem.nx hm
  simp only [ML_nx, List.length_nil, List.length_cons, Nat.zero_add, Nat.reduceAdd] at hn
  simp only [hC, VS, VZ, TY, openC, foldC, foldN, PF, pick_or, pick_and, aop, aopD, rdN, wrN, idL, idA, apure, AS.ev, startA, strip, abin, aint, astr, alen, aslice, optI, aconv, aconvM, gdv, AS.put, ofVal, pcells, ld, ldo, nOw, PV.isOw, gtmp, within, astore, splice, afill, allCells, okIdx, asrc, aflat, aappend, hintOk, PV.clo, PV.clo1, ofL_n, ofL_c, nams, reO, reP, reA, reC, srcI, setG, obG, List.cons.injEq, aeq1, aeqs, onG, Int.reduceLE, Int.reduceNeg, Int.reduceLT, Nat.reduceEqDiff, ↓reduceIte, Nat.reduceLT, Nat.reduceLeDiff, Nat.reduceAdd, Nat.reduceMul, Nat.reduceSub, reduceCtorEq, Int.reduceEq]
  refine ⟨by omega, ?_⟩
  exact Ret_go [[0]] tS (by simp [nl_Tag, obsT, obT, okO, okP, okA, okC, okD, okI, reP, reA, reC, srcI, Nl_nil, Nl_cons, PV.nl, upd_at, ofL_n, ofL_c, VS, argsT, lendA, lendL, lendT, Cvl_nil, Cvl_cons, Cv_bool, Cv_int, Cv_str, Cv_nils, Cv_nilc, Cv_cl, Cv_ow, noFn, PV.noF, NR_iff, NRO, hb, ares, ares1, ldo, ld, nOw, PV.isOw, TY]) (by simp [nl_Tag, obsT, obT, okO, okP, okA, okC, okD, okI, reP, reA, reC, srcI, Nl_nil, Nl_cons, PV.nl, upd_at, ofL_n, ofL_c, VS, argsT, lendA, lendL, lendT, Cvl_nil, Cvl_cons, Cv_bool, Cv_int, Cv_str, Cv_nils, Cv_nilc, Cv_cl, Cv_ow, noFn, PV.noF, NR_iff, NRO, hb, ares, ares1, ldo, ld, nOw, PV.isOw, TY])
theorem ci_copyNode (x : Nd) (hl : x.tags.length ≤ 1048576) : AC Try.prog 98 [.ag (cNode x)] (ML []) (.ag [.int .i64 x.id, .int .i64 x.p.1, .int .i64 x.p.2, .sl [0] 2 x.tags.length 0 x.tags.length]) (ML [.row 2 x.tags.length (lpv pTag x.tags)]) := by
  refine AC.of Try.func98 rfl rfl (by simp [Try.ntmps98]) rfl (fun C hC hm => ?_)
  rw [Try.ntmps98] at hC
  have hn : C.m0.nx = _ := congrArg Mem.nx hm
  simp only [ML_nx, List.length_nil, List.length_cons, Nat.zero_add, Nat.reduceAdd] at hn
  simp only [hC, cNode, VS, VZ, TY, openC, foldC, foldN, PF, pick_or, pick_and, aop, aopD, rdN, wrN, idL, idA, apure, AS.ev, startA, strip, abin, aint, astr, alen, aslice, optI, aconv, aconvM, gdv, AS.put, ofVal, pcells, ld, ldo, nOw, PV.isOw, gtmp, within, astore, splice, afill, allCells, okIdx, asrc, aflat, aappend, hintOk, PV.clo, PV.clo1, ofL_n, ofL_c, nams, reO, reP, reA, reC, srcI, setG, obG, List.cons.injEq, aeq1, aeqs, onG, Int.reduceLE, Int.reduceNeg, Int.reduceLT, Nat.reduceEqDiff, ↓reduceIte, Nat.reduceLT, Nat.reduceLeDiff, Nat.reduceAdd, Nat.reduceMul, Nat.reduceSub, reduceCtorEq, Int.reduceEq]
  refine ⟨by kernel_rfl, ?_⟩
  refine acall_go false [] (ci_copyTags x.tags hl) (by simp [cv_Tag, obsT, obT, okO, okP, okA, okC, okD, okI, reP, reA, reC, srcI, Nl_nil, Nl_cons, PV.nl, upd_at, ofL_n, ofL_c, VS, argsT, lendA, lendL, lendT, Cvl_nil, Cvl_cons, Cv_bool, Cv_int, Cv_str, Cv_nils, Cv_nilc, Cv_cl, Cv_ow, noFn, PV.noF, NR_iff, NRO, hb, ares, ares1, ldo, ld, nOw, PV.isOw, TY]) tS (by simp) (by simp) tS (by simp [nl_Tag, obsT, obT, okO, okP, okA, okC, okD, okI, reP, reA, reC, srcI, Nl_nil, Nl_cons, PV.nl, upd_at, ofL_n, ofL_c, VS, argsT, lendA, lendL, lendT, Cvl_nil, Cvl_cons, Cv_bool, Cv_int, Cv_str, Cv_nils, Cv_nilc, Cv_cl, Cv_ow, noFn, PV.noF, NR_iff, NRO, hb, ares, ares1, ldo, ld, nOw, PV.isOw, TY]) (.inl rfl) ?_
  simp only [hC, VS, VZ, TY, openC, foldC, foldN, PF, pick_or, pick_and, aop, aopD, rdN, wrN, idL, idA, apure, AS.ev, startA, strip, abin, aint, astr, alen, aslice, optI, aconv, aconvM, gdv, AS.put, ofVal, pcells, ld, ldo, nOw, PV.isOw, gtmp, within, astore, splice, afill, allCells, okIdx, asrc, aflat, aappend, hintOk, PV.clo, PV.clo1, ofL_n, ofL_c, nams, reO, reP, reA, reC, srcI, setG, obG, List.cons.injEq, aeq1, aeqs, onG, Int.reduceLE, Int.reduceNeg, Int.reduceLT, Nat.reduceEqDiff, ↓reduceIte, Nat.reduceLT, Nat.reduceLeDiff, Nat.reduceAdd, Nat.reduceMul, Nat.reduceSub, reduceCtorEq, Int.reduceEq]
  refine ⟨by kernel_rfl, by kernel_rfl, ?_⟩
  exact Ret_go [[2]] tS (by simp [nl_Tag, obsT, obT, okO, okP, okA, okC, okD, okI, reP, reA, reC, srcI, Nl_nil, Nl_cons, PV.nl, upd_at, ofL_n, ofL_c, VS, argsT, lendA, lendL, lendT, Cvl_nil, Cvl_cons, Cv_bool, Cv_int, Cv_str, Cv_nils, Cv_nilc, Cv_cl, Cv_ow, noFn, PV.noF, NR_iff, NRO, hb, ares, ares1, ldo, ld, nOw, PV.isOw, TY]) (by simp [nl_Tag, obsT, obT, okO, okP, okA, okC, okD, okI, reP, reA, reC, srcI, Nl_nil, Nl_cons, PV.nl, upd_at, ofL_n, ofL_c, VS, argsT, lendA, lendL, lendT, Cvl_nil, Cvl_cons, Cv_bool, Cv_int, Cv_str, Cv_nils, Cv_nilc, Cv_cl, Cv_ow, noFn, PV.noF, NR_iff, NRO, hb, ares, ares1, ldo, ld, nOw, PV.isOw, TY])
theorem ci_copyWay (x : Wy) (h1 : x.nodes.length ≤ 1048576) (hl : x.tags.length ≤ 1048576) : AC Try.prog 97 [.ag (cWay x)] (ML []) (.ag [.int .i64 x.id, .sl [0] 1 x.nodes.length 0 x.nodes.length, .sl [1] 2 x.tags.length 0 x.tags.length]) (ML [.row 1 x.nodes.length (lpv pInt64 x.nodes), .row 2 x.tags.length (lpv pTag x.tags)]) := by
  refine AC.of Try.func97 rfl rfl (by simp [Try.ntmps97]) rfl (fun C hC hm => ?_)
  rw [Try.ntmps97] at hC
  have hn : C.m0.nx = _ := congrArg Mem.nx hm
  simp only [ML_nx, List.length_nil, List.length_cons, Nat.zero_add, Nat.reduceAdd] at hn
  simp only [hC, cWay, VS, VZ, TY, openC, foldC, foldN, PF, pick_or, pick_and, aop, aopD, rdN, wrN, idL, idA, apure, AS.ev, startA, strip, abin, aint, astr, alen, aslice, optI, aconv, aconvM, gdv, AS.put, ofVal, pcells, ld, ldo, nOw, PV.isOw, gtmp, within, astore, splice, afill, allCells, okIdx, asrc, aflat, aappend, hintOk, PV.clo, PV.clo1, ofL_n, ofL_c, nams, reO, reP, reA, reC, srcI, setG, obG, List.cons.injEq, aeq1, aeqs, onG, Int.reduceLE, Int.reduceNeg, Int.reduceLT, Nat.reduceEqDiff, ↓reduceIte, Nat.reduceLT, Nat.reduceLeDiff, Nat.reduceAdd, Nat.reduceMul, Nat.reduceSub, reduceCtorEq, Int.reduceEq]
  refine ⟨by kernel_rfl, by omega, by kernel_rfl, by kernel_rfl, ?_⟩
  refine acall_go false [] (ci_copyTags x.tags hl) (by simp [cv_Tag, obsT, obT, okO, okP, okA, okC, okD, okI, reP, reA, reC, srcI, Nl_nil, Nl_cons, PV.nl, upd_at, ofL_n, ofL_c, VS, argsT, lendA, lendL, lendT, Cvl_nil, Cvl_cons, Cv_bool, Cv_int, Cv_str, Cv_nils, Cv_nilc, Cv_cl, Cv_ow, noFn, PV.noF, NR_iff, NRO, hb, ares, ares1, ldo, ld, nOw, PV.isOw, TY]) tS (by simp) (by simp) tS (by simp [nl_Tag, obsT, obT, okO, okP, okA, okC, okD, okI, reP, reA, reC, srcI, Nl_nil, Nl_cons, PV.nl, upd_at, ofL_n, ofL_c, VS, argsT, lendA, lendL, lendT, Cvl_nil, Cvl_cons, Cv_bool, Cv_int, Cv_str, Cv_nils, Cv_nilc, Cv_cl, Cv_ow, noFn, PV.noF, NR_iff, NRO, hb, ares, ares1, ldo, ld, nOw, PV.isOw, TY]) (.inl rfl) ?_
  simp only [hC, VS, VZ, TY, openC, foldC, foldN, PF, pick_or, pick_and, aop, aopD, rdN, wrN, idL, idA, apure, AS.ev, startA, strip, abin, aint, astr, alen, aslice, optI, aconv, aconvM, gdv, AS.put, ofVal, pcells, ld, ldo, nOw, PV.isOw, gtmp, within, astore, splice, afill, allCells, okIdx, asrc, aflat, aappend, hintOk, PV.clo, PV.clo1, ofL_n, ofL_c, nams, reO, reP, reA, reC, srcI, setG, obG, List.cons.injEq, aeq1, aeqs, onG, Int.reduceLE, Int.reduceNeg, Int.reduceLT, Nat.reduceEqDiff, ↓reduceIte, Nat.reduceLT, Nat.reduceLeDiff, Nat.reduceAdd, Nat.reduceMul, Nat.reduceSub, reduceCtorEq, Int.reduceEq]
  refine ⟨by kernel_rfl, by kernel_rfl, ?_⟩
  exact Ret_go [[2], [3]] tS (by simp [nl_Tag, nl_Int64, obsT, obT, okO, okP, okA, okC, okD, okI, reP, reA, reC, srcI, Nl_nil, Nl_cons, PV.nl, upd_at, ofL_n, ofL_c, VS, argsT, lendA, lendL, lendT, Cvl_nil, Cvl_cons, Cv_bool, Cv_int, Cv_str, Cv_nils, Cv_nilc, Cv_cl, Cv_ow, noFn, PV.noF, NR_iff, NRO, hb, ares, ares1, ldo, ld, nOw, PV.isOw, TY]) (by simp [nl_Tag, nl_Int64, obsT, obT, okO, okP, okA, okC, okD, okI, reP, reA, reC, srcI, Nl_nil, Nl_cons, PV.nl, upd_at, ofL_n, ofL_c, VS, argsT, lendA, lendL, lendT, Cvl_nil, Cvl_cons, Cv_bool, Cv_int, Cv_str, Cv_nils, Cv_nilc, Cv_cl, Cv_ow, noFn, PV.noF, NR_iff, NRO, hb, ares, ares1, ldo, ld, nOw, PV.isOw, TY])
theorem ci_copyArea (x : Ar) (h1 : x.parts.length ≤ 1048576) (hl : x.tags.length ≤ 1048576) : AC Try.prog 99 [.ag (cArea x)] (ML []) (.ag [.int .i64 x.id, .sl [0] 2 x.parts.length 0 x.parts.length, .sl [1] 2 x.tags.length 0 x.tags.length]) (ML [.row 2 x.parts.length (lpv pPart x.parts), .row 2 x.tags.length (lpv pTag x.tags)]) := by
  refine AC.of Try.func99 rfl rfl (by simp [Try.ntmps99]) rfl (fun C hC hm => ?_)
  rw [Try.ntmps99] at hC
  have hn : C.m0.nx = _ := congrArg Mem.nx hm
  simp only [ML_nx, List.length_nil, List.length_cons, Nat.zero_add, Nat.reduceAdd] at hn
  simp only [hC, cArea, VS, VZ, TY, openC, foldC, foldN, PF, pick_or, pick_and, aop, aopD, rdN, wrN, idL, idA, apure, AS.ev, startA, strip, abin, aint, astr, alen, aslice, optI, aconv, aconvM, gdv, AS.put, ofVal, pcells, ld, ldo, nOw, PV.isOw, gtmp, within, astore, splice, afill, allCells, okIdx, asrc, aflat, aappend, hintOk, PV.clo, PV.clo1, ofL_n, ofL_c, nams, reO, reP, reA, reC, srcI, setG, obG, List.cons.injEq, aeq1, aeqs, onG, Int.reduceLE, Int.reduceNeg, Int.reduceLT, Nat.reduceEqDiff, ↓reduceIte, Nat.reduceLT, Nat.reduceLeDiff, Nat.reduceAdd, Nat.reduceMul, Nat.reduceSub, reduceCtorEq, Int.reduceEq]
  refine ⟨by kernel_rfl, by omega, by kernel_rfl, by kernel_rfl, ?_⟩
  refine acall_go false [] (ci_copyTags x.tags hl) (by simp [cv_Tag, obsT, obT, okO, okP, okA, okC, okD, okI, reP, reA, reC, srcI, Nl_nil, Nl_cons, PV.nl, upd_at, ofL_n, ofL_c, VS, argsT, lendA, lendL, lendT, Cvl_nil, Cvl_cons, Cv_bool, Cv_int, Cv_str, Cv_nils, Cv_nilc, Cv_cl, Cv_ow, noFn, PV.noF, NR_iff, NRO, hb, ares, ares1, ldo, ld, nOw, PV.isOw, TY]) tS (by simp) (by simp) tS (by simp [nl_Tag, obsT, obT, okO, okP, okA, okC, okD, okI, reP, reA, reC, srcI, Nl_nil, Nl_cons, PV.nl, upd_at, ofL_n, ofL_c, VS, argsT, lendA, lendL, lendT, Cvl_nil, Cvl_cons, Cv_bool, Cv_int, Cv_str, Cv_nils, Cv_nilc, Cv_cl, Cv_ow, noFn, PV.noF, NR_iff, NRO, hb, ares, ares1, ldo, ld, nOw, PV.isOw, TY]) (.inl rfl) ?_
  simp only [hC, VS, VZ, TY, openC, foldC, foldN, PF, pick_or, pick_and, aop, aopD, rdN, wrN, idL, idA, apure, AS.ev, startA, strip, abin, aint, astr, alen, aslice, optI, aconv, aconvM, gdv, AS.put, ofVal, pcells, ld, ldo, nOw, PV.isOw, gtmp, within, astore, splice, afill, allCells, okIdx, asrc, aflat, aappend, hintOk, PV.clo, PV.clo1, ofL_n, ofL_c, nams, reO, reP, reA, reC, srcI, setG, obG, List.cons.injEq, aeq1, aeqs, onG, Int.reduceLE, Int.reduceNeg, Int.reduceLT, Nat.reduceEqDiff, ↓reduceIte, Nat.reduceLT, Nat.reduceLeDiff, Nat.reduceAdd, Nat.reduceMul, Nat.reduceSub, reduceCtorEq, Int.reduceEq]
  refine ⟨by kernel_rfl, by kernel_rfl, ?_⟩
  exact Ret_go [[2], [3]] tS (by simp [nl_Tag, nl_Part, obsT, obT, okO, okP, okA, okC, okD, okI, reP, reA, reC, srcI, Nl_nil, Nl_cons, PV.nl, upd_at, ofL_n, ofL_c, VS, argsT, lendA, lendL, lendT, Cvl_nil, Cvl_cons, Cv_bool, Cv_int, Cv_str, Cv_nils, Cv_nilc, Cv_cl, Cv_ow, noFn, PV.noF, NR_iff, NRO, hb, ares, ares1, ldo, ld, nOw, PV.isOw, TY]) (by simp [nl_Tag, nl_Part, obsT, obT, okO, okP, okA, okC, okD, okI, reP, reA, reC, srcI, Nl_nil, Nl_cons, PV.nl, upd_at, ofL_n, ofL_c, VS, argsT, lendA, lendL, lendT, Cvl_nil, Cvl_cons, Cv_bool, Cv_int, Cv_str, Cv_nils, Cv_nilc, Cv_cl, Cv_ow, noFn, PV.noF, NR_iff, NRO, hb, ares, ares1, ldo, ld, nOw, PV.isOw, TY])
theorem cs_copyNode (x : Nd) (hl : x.tags.length ≤ 1048576) : AC Try.prog 93 [.ag (cNode x)] (ML []) (.ag [.int .i64 x.id, .int .i64 x.p.1, .int .i64 x.p.2, .sl [0] 2 x.tags.length 0 x.tags.length]) (ML [.row 2 x.tags.length (lpv pTag x.tags)]) := by
  refine AC.of Try.func93 rfl rfl (by simp [Try.ntmps93]) rfl (fun C hC hm => ?_)
  rw [Try.ntmps93] at hC
  have hn : C.m0.nx = _ := congrArg Mem.nx hm
  simp only [ML_nx, List.length_nil, List.length_cons, Nat.zero_add, Nat.reduceAdd] at hn
  simp only [hC, cNode, VS, VZ, TY, openC, foldC, foldN, PF, pick_or, pick_and, aop, aopD, rdN, wrN, idL, idA, apure, AS.ev, startA, strip, abin, aint, astr, alen, aslice, optI, aconv, aconvM, gdv, AS.put, ofVal, pcells, ld, ldo, nOw, PV.isOw, gtmp, within, astore, splice, afill, allCells, okIdx, asrc, aflat, aappend, hintOk, PV.clo, PV.clo1, ofL_n, ofL_c, nams, reO, reP, reA, reC, srcI, setG, obG, List.cons.injEq, aeq1, aeqs, onG, Int.reduceLE, Int.reduceNeg, Int.reduceLT, Nat.reduceEqDiff, ↓reduceIte, Nat.reduceLT, Nat.reduceLeDiff, Nat.reduceAdd, Nat.reduceMul, Nat.reduceSub, reduceCtorEq, Int.reduceEq]
  refine ⟨by omega, ?_⟩
  exact Ret_go [[3]] tS (by simp [nl_Tag, obsT, obT, okO, okP, okA, okC, okD, okI, reP, reA, reC, srcI, Nl_nil, Nl_cons, PV.nl, upd_at, ofL_n, ofL_c, VS, argsT, lendA, lendL, lendT, Cvl_nil, Cvl_cons, Cv_bool, Cv_int, Cv_str, Cv_nils, Cv_nilc, Cv_cl, Cv_ow, noFn, PV.noF, NR_iff, NRO, hb, ares, ares1, ldo, ld, nOw, PV.isOw, TY]) (by simp [nl_Tag, obsT, obT, okO, okP, okA, okC, okD, okI, reP, reA, reC, srcI, Nl_nil, Nl_cons, PV.nl, upd_at, ofL_n, ofL_c, VS, argsT, lendA, lendL, lendT, Cvl_nil, Cvl_cons, Cv_bool, Cv_int, Cv_str, Cv_nils, Cv_nilc, Cv_cl, Cv_ow, noFn, PV.noF, NR_iff, NRO, hb, ares, ares1, ldo, ld, nOw, PV.isOw, TY])
theorem cs_copyWay (x : Wy) (h1 : x.nodes.length ≤ 1048576) (hl : x.tags.length ≤ 1048576) : AC Try.prog 92 [.ag (cWay x)] (ML []) (.ag [.int .i64 x.id, .sl [0] 1 x.nodes.length 0 x.nodes.length, .sl [1] 2 x.tags.length 0 x.tags.length]) (ML [.row 1 x.nodes.length (lpv pInt64 x.nodes), .row 2 x.tags.length (lpv pTag x.tags)]) := by
  refine AC.of Try.func92 rfl rfl (by simp [Try.ntmps92]) rfl (fun C hC hm => ?_)
  rw [Try.ntmps92] at hC
  have hn : C.m0.nx = _ := congrArg Mem.nx hm
  simp only [ML_nx, List.length_nil, List.length_cons, Nat.zero_add, Nat.reduceAdd] at hn
  simp only [hC, cWay, VS, VZ, TY, openC, foldC, foldN, PF, pick_or, pick_and, aop, aopD, rdN, wrN, idL, idA, apure, AS.ev, startA, strip, abin, aint, astr, alen, aslice, optI, aconv, aconvM, gdv, AS.put, ofVal, pcells, ld, ldo, nOw, PV.isOw, gtmp, within, astore, splice, afill, allCells, okIdx, asrc, aflat, aappend, hintOk, PV.clo, PV.clo1, ofL_n, ofL_c, nams, reO, reP, reA, reC, srcI, setG, obG, List.cons.injEq, aeq1, aeqs, onG, Int.reduceLE, Int.reduceNeg, Int.reduceLT, Nat.reduceEqDiff, ↓reduceIte, Nat.reduceLT, Nat.reduceLeDiff, Nat.reduceAdd, Nat.reduceMul, Nat.reduceSub, reduceCtorEq, Int.reduceEq]
  refine ⟨by omega, by omega, ?_⟩
  exact Ret_go [[3], [5]] tS (by simp [nl_Tag, nl_Int64, obsT, obT, okO, okP, okA, okC, okD, okI, reP, reA, reC, srcI, Nl_nil, Nl_cons, PV.nl, upd_at, ofL_n, ofL_c, VS, argsT, lendA, lendL, lendT, Cvl_nil, Cvl_cons, Cv_bool, Cv_int, Cv_str, Cv_nils, Cv_nilc, Cv_cl, Cv_ow, noFn, PV.noF, NR_iff, NRO, hb, ares, ares1, ldo, ld, nOw, PV.isOw, TY]) (by simp [nl_Tag, nl_Int64, obsT, obT, okO, okP, okA, okC, okD, okI, reP, reA, reC, srcI, Nl_nil, Nl_cons, PV.nl, upd_at, ofL_n, ofL_c, VS, argsT, lendA, lendL, lendT, Cvl_nil, Cvl_cons, Cv_bool, Cv_int, Cv_str, Cv_nils, Cv_nilc, Cv_cl, Cv_ow, noFn, PV.noF, NR_iff, NRO, hb, ares, ares1, ldo, ld, nOw, PV.isOw, TY])
theorem cs_copyArea (x : Ar) (h1 : x.parts.length ≤ 1048576) (hl : x.tags.length ≤ 1048576) : AC Try.prog 94 [.ag (cArea x)] (ML []) (.ag [.int .i64 x.id, .sl [0] 2 x.parts.length 0 x.parts.length, .sl [1] 2 x.tags.length 0 x.tags.length]) (ML [.row 2 x.parts.length (lpv pPart x.parts), .row 2 x.tags.length (lpv pTag x.tags)]) := by
  refine AC.of Try.func94 rfl rfl (by simp [Try.ntmps94]) rfl (fun C hC hm => ?_)
  rw [Try.ntmps94] at hC
  have hn : C.m0.nx = _ := congrArg Mem.nx hm
  simp only [ML_nx, List.length_nil, List.length_cons, Nat.zero_add, Nat.reduceAdd] at hn
  simp only [hC, cArea, VS, VZ, TY, openC, foldC, foldN, PF, pick_or, pick_and, aop, aopD, rdN, wrN, idL, idA, apure, AS.ev, startA, strip, abin, aint, astr, alen, aslice, optI, aconv, aconvM, gdv, AS.put, ofVal, pcells, ld, ldo, nOw, PV.isOw, gtmp, within, astore, splice, afill, allCells, okIdx, asrc, aflat, aappend, hintOk, PV.clo, PV.clo1, ofL_n, ofL_c, nams, reO, reP, reA, reC, srcI, setG, obG, List.cons.injEq, aeq1, aeqs, onG, Int.reduceLE, Int.reduceNeg, Int.reduceLT, Nat.reduceEqDiff, ↓reduceIte, Nat.reduceLT, Nat.reduceLeDiff, Nat.reduceAdd, Nat.reduceMul, Nat.reduceSub, reduceCtorEq, Int.reduceEq]
  refine ⟨by omega, by omega, ?_⟩
  exact Ret_go [[3], [5]] tS (by simp [nl_Tag, nl_Part, obsT, obT, okO, okP, okA, okC, okD, okI, reP, reA, reC, srcI, Nl_nil, Nl_cons, PV.nl, upd_at, ofL_n, ofL_c, VS, argsT, lendA, lendL, lendT, Cvl_nil, Cvl_cons, Cv_bool, Cv_int, Cv_str, Cv_nils, Cv_nilc, Cv_cl, Cv_ow, noFn, PV.noF, NR_iff, NRO, hb, ares, ares1, ldo, ld, nOw, PV.isOw, TY]) (by simp [nl_Tag, nl_Part, obsT, obT, okO, okP, okA, okC, okD, okI, reP, reA, reC, srcI, Nl_nil, Nl_cons, PV.nl, upd_at, ofL_n, ofL_c, VS, argsT, lendA, lendL, lendT, Cvl_nil, Cvl_cons, Cv_bool, Cv_int, Cv_str, Cv_nils, Cv_nilc, Cv_cl, Cv_ow, noFn, PV.noF, NR_iff, NRO, hb, ares, ares1, ldo, ld, nOw, PV.isOw, TY])
end Go.Proofs.Ytppfogbgbpadiaa.Wd
namespace Go.Proofs.Ytppfogbgbpadiaa.Wd
open Go Go.RowKit Go.Proofs Go.Proofs.YtppfogbgbpadiaaW.AW
set_option linter.unusedVariables false
set_option linter.unusedSimpArgs false
set_option maxRecDepth 100000
theorem filter_step {α : Type} (f : α → Bool) {l : List α} {i : Nat} (h : i < l.length) : (l.take (i + 1)).filter f = (l.take i).filter f ++ (if f l[i] = true then [l[i]] else []) := by
  rw [List.take_succ_eq_append_getElem h, List.filter_append]
  congr 1
  simp only [List.filter_cons, List.filter_nil]
end Go.Proofs.Ytppfogbgbpadiaa.Wd
namespace Go.Proofs.Ytppfogbgbpadiaa.Wd
open Go Go.RowKit Go.Proofs Go.Proofs.YtppfogbgbpadiaaW.AW
set_option linter.unusedVariables false
set_option linter.unusedSimpArgs false
set_option maxRecDepth 100000
--LS cv_Tag, cv_Node, cv_Way, cv_Area, cv_Int64, cv_Part, nl_Node, nl_Way, nl_Area, nr_Node, nr_Way, nr_Area, mkNodeS_len, mkWayS_len, mkAreaS_len
def cntMap (m : Mp) : Nat := cntNodeS m.nodes + cntWayS m.ways + cntAreaS m.areas
theorem c_markMap (m : Mp) (k : Int) (hk0 : 0 ≤ k) (hk : k + (cntMap m : Nat) ≤ 4611686018427387904) :
    AC Try.prog 22 [.ag [.sl [0] 4 m.nodes.length 0 m.nodes.length, .sl [1] 3 m.ways.length 0 m.ways.length, .sl [2] 3 m.areas.length 0 m.areas.length], .int .i64 k] (ML [.row 4 m.nodes.length (lpv oNode m.nodes), .row 3 m.ways.length (lpv oWay m.ways), .row 3 m.areas.length (lpv oArea m.areas)])
      (.int .i64 (k + (cntMap m : Nat))) (ML [.row 4 m.nodes.length (lpv oNode (mkNodeS k m.nodes)), .row 3 m.ways.length (lpv oWay (mkWayS (k + (cntNodeS m.nodes : Nat)) m.ways)), .row 3 m.areas.length (lpv oArea (mkAreaS (k + (cntNodeS m.nodes : Nat) + (cntWayS m.ways : Nat)) m.areas))]) := by
  unfold cntMap at hk ⊢
  refine AC.ofA Try.func22 rfl rfl (by simp [Try.ntmps22]) rfl (fun C hC hm => ?_)
  rw [Try.ntmps22] at hC
  have hn : C.m0.nx = _ := congrArg Mem.nx hm
  simp only [ML_nx, List.length_nil, List.length_cons, Nat.zero_add, Nat.reduceAdd] at hn
  refine vc_ok _ _ _ ?_
  simp only [hC, VS, VZ, TY, openC, foldC, foldN, PF, pick_or, pick_and, aop, aopD, rdN, wrN, idL, idA, apure, AS.ev, startA, strip, abin, aint, astr, alen, aslice, optI, aconv, aconvM, gdv, AS.put, ofVal, pcells, ld, ldo, nOw, PV.isOw, gtmp, within, astore, splice, afill, allCells, okIdx, asrc, aflat, aappend, hintOk, PV.clo, PV.clo1, ofL_n, ofL_c, nams, reO, reP, reA, reC, srcI, setG, obG, List.cons.injEq, aeq1, aeqs, onG, Int.reduceLE, Int.reduceNeg, Int.reduceLT, Nat.reduceEqDiff, ↓reduceIte, Nat.reduceLT, Nat.reduceLeDiff, Nat.reduceAdd, Nat.reduceMul, Nat.reduceSub, reduceCtorEq, Int.reduceEq]
  refine acall_go true [[0]] (c_markNodeS m.nodes k (by omega) (by omega)) (by simp [cv_Tag, cv_Node, cv_Way, cv_Area, cv_Int64, cv_Part, nl_Node, nl_Way, nl_Area, nr_Node, nr_Way, nr_Area, mkNodeS_len, mkWayS_len, mkAreaS_len, obsT, obT, okO, okP, okA, okC, okD, okI, reP, reA, reC, srcI, Nl_nil, Nl_cons, PV.nl, upd_at, ofL_n, ofL_c, VS, argsT, lendA, lendL, lendT, Cvl_nil, Cvl_cons, Cv_bool, Cv_int, Cv_str, Cv_nils, Cv_nilc, Cv_cl, Cv_ow, noFn, PV.noF, NR_iff, NRO, hb, ares, ares1, ldo, ld, nOw, PV.isOw, TY]) (by simp [cv_Tag, cv_Node, cv_Way, cv_Area, cv_Int64, cv_Part, nl_Node, nl_Way, nl_Area, nr_Node, nr_Way, nr_Area, mkNodeS_len, mkWayS_len, mkAreaS_len, obsT, obT, okO, okP, okA, okC, okD, okI, reP, reA, reC, srcI, Nl_nil, Nl_cons, PV.nl, upd_at, ofL_n, ofL_c, VS, argsT, lendA, lendL, lendT, Cvl_nil, Cvl_cons, Cv_bool, Cv_int, Cv_str, Cv_nils, Cv_nilc, Cv_cl, Cv_ow, noFn, PV.noF, NR_iff, NRO, hb, ares, ares1, ldo, ld, nOw, PV.isOw, TY]) (by simp [cv_Tag, cv_Node, cv_Way, cv_Area, cv_Int64, cv_Part, nl_Node, nl_Way, nl_Area, nr_Node, nr_Way, nr_Area, mkNodeS_len, mkWayS_len, mkAreaS_len, obsT, obT, okO, okP, okA, okC, okD, okI, reP, reA, reC, srcI, Nl_nil, Nl_cons, PV.nl, upd_at, ofL_n, ofL_c, VS, argsT, lendA, lendL, lendT, Cvl_nil, Cvl_cons, Cv_bool, Cv_int, Cv_str, Cv_nils, Cv_nilc, Cv_cl, Cv_ow, noFn, PV.noF, NR_iff, NRO, hb, ares, ares1, ldo, ld, nOw, PV.isOw, TY]) tS tS (by simp [cv_Tag, cv_Node, cv_Way, cv_Area, cv_Int64, cv_Part, nl_Node, nl_Way, nl_Area, nr_Node, nr_Way, nr_Area, mkNodeS_len, mkWayS_len, mkAreaS_len, obsT, obT, okO, okP, okA, okC, okD, okI, reP, reA, reC, srcI, Nl_nil, Nl_cons, PV.nl, upd_at, ofL_n, ofL_c, VS, argsT, lendA, lendL, lendT, Cvl_nil, Cvl_cons, Cv_bool, Cv_int, Cv_str, Cv_nils, Cv_nilc, Cv_cl, Cv_ow, noFn, PV.noF, NR_iff, NRO, hb, ares, ares1, ldo, ld, nOw, PV.isOw, TY]) (.inr ⟨by simp [obsT, obT, okO, okP, okA, okC, okD, okI, reP, reA, reC, srcI, Nl_nil, Nl_cons, PV.nl, upd_at, ofL_n, ofL_c, VS, argsT, lendA, lendL, lendT, Cvl_nil, Cvl_cons, Cv_bool, Cv_int, Cv_str, Cv_nils, Cv_nilc, Cv_cl, Cv_ow, noFn, PV.noF, NR_iff, NRO, hb, ares, ares1, ldo, ld, nOw, PV.isOw, TY], by simp [cv_Tag, cv_Node, cv_Way, cv_Area, cv_Int64, cv_Part, nl_Node, nl_Way, nl_Area, nr_Node, nr_Way, nr_Area, mkNodeS_len, mkWayS_len, mkAreaS_len, obsT, obT, okO, okP, okA, okC, okD, okI, reP, reA, reC, srcI, Nl_nil, Nl_cons, PV.nl, upd_at, ofL_n, ofL_c, VS, argsT, lendA, lendL, lendT, Cvl_nil, Cvl_cons, Cv_bool, Cv_int, Cv_str, Cv_nils, Cv_nilc, Cv_cl, Cv_ow, noFn, PV.noF, NR_iff, NRO, hb, ares, ares1, ldo, ld, nOw, PV.isOw, TY]⟩) ?_
  simp only [hC, VS, VZ, TY, openC, foldC, foldN, PF, pick_or, pick_and, aop, aopD, rdN, wrN, idL, idA, apure, AS.ev, startA, strip, abin, aint, astr, alen, aslice, optI, aconv, aconvM, gdv, AS.put, ofVal, pcells, ld, ldo, nOw, PV.isOw, gtmp, within, astore, splice, afill, allCells, okIdx, asrc, aflat, aappend, hintOk, PV.clo, PV.clo1, ofL_n, ofL_c, nams, reO, reP, reA, reC, srcI, setG, obG, List.cons.injEq, aeq1, aeqs, onG, Int.reduceLE, Int.reduceNeg, Int.reduceLT, Nat.reduceEqDiff, ↓reduceIte, Nat.reduceLT, Nat.reduceLeDiff, Nat.reduceAdd, Nat.reduceMul, Nat.reduceSub, reduceCtorEq, Int.reduceEq]
  refine acall_go true [[1]] (c_markWayS m.ways (k + (cntNodeS m.nodes : Nat)) (by omega) (by omega)) (by simp [cv_Tag, cv_Node, cv_Way, cv_Area, cv_Int64, cv_Part, nl_Node, nl_Way, nl_Area, nr_Node, nr_Way, nr_Area, mkNodeS_len, mkWayS_len, mkAreaS_len, obsT, obT, okO, okP, okA, okC, okD, okI, reP, reA, reC, srcI, Nl_nil, Nl_cons, PV.nl, upd_at, ofL_n, ofL_c, VS, argsT, lendA, lendL, lendT, Cvl_nil, Cvl_cons, Cv_bool, Cv_int, Cv_str, Cv_nils, Cv_nilc, Cv_cl, Cv_ow, noFn, PV.noF, NR_iff, NRO, hb, ares, ares1, ldo, ld, nOw, PV.isOw, TY]) (by simp [cv_Tag, cv_Node, cv_Way, cv_Area, cv_Int64, cv_Part, nl_Node, nl_Way, nl_Area, nr_Node, nr_Way, nr_Area, mkNodeS_len, mkWayS_len, mkAreaS_len, obsT, obT, okO, okP, okA, okC, okD, okI, reP, reA, reC, srcI, Nl_nil, Nl_cons, PV.nl, upd_at, ofL_n, ofL_c, VS, argsT, lendA, lendL, lendT, Cvl_nil, Cvl_cons, Cv_bool, Cv_int, Cv_str, Cv_nils, Cv_nilc, Cv_cl, Cv_ow, noFn, PV.noF, NR_iff, NRO, hb, ares, ares1, ldo, ld, nOw, PV.isOw, TY]) (by simp [cv_Tag, cv_Node, cv_Way, cv_Area, cv_Int64, cv_Part, nl_Node, nl_Way, nl_Area, nr_Node, nr_Way, nr_Area, mkNodeS_len, mkWayS_len, mkAreaS_len, obsT, obT, okO, okP, okA, okC, okD, okI, reP, reA, reC, srcI, Nl_nil, Nl_cons, PV.nl, upd_at, ofL_n, ofL_c, VS, argsT, lendA, lendL, lendT, Cvl_nil, Cvl_cons, Cv_bool, Cv_int, Cv_str, Cv_nils, Cv_nilc, Cv_cl, Cv_ow, noFn, PV.noF, NR_iff, NRO, hb, ares, ares1, ldo, ld, nOw, PV.isOw, TY]) tS tS (by simp [cv_Tag, cv_Node, cv_Way, cv_Area, cv_Int64, cv_Part, nl_Node, nl_Way, nl_Area, nr_Node, nr_Way, nr_Area, mkNodeS_len, mkWayS_len, mkAreaS_len, obsT, obT, okO, okP, okA, okC, okD, okI, reP, reA, reC, srcI, Nl_nil, Nl_cons, PV.nl, upd_at, ofL_n, ofL_c, VS, argsT, lendA, lendL, lendT, Cvl_nil, Cvl_cons, Cv_bool, Cv_int, Cv_str, Cv_nils, Cv_nilc, Cv_cl, Cv_ow, noFn, PV.noF, NR_iff, NRO, hb, ares, ares1, ldo, ld, nOw, PV.isOw, TY]) (.inr ⟨by simp [obsT, obT, okO, okP, okA, okC, okD, okI, reP, reA, reC, srcI, Nl_nil, Nl_cons, PV.nl, upd_at, ofL_n, ofL_c, VS, argsT, lendA, lendL, lendT, Cvl_nil, Cvl_cons, Cv_bool, Cv_int, Cv_str, Cv_nils, Cv_nilc, Cv_cl, Cv_ow, noFn, PV.noF, NR_iff, NRO, hb, ares, ares1, ldo, ld, nOw, PV.isOw, TY], by simp [cv_Tag, cv_Node, cv_Way, cv_Area, cv_Int64, cv_Part, nl_Node, nl_Way, nl_Area, nr_Node, nr_Way, nr_Area, mkNodeS_len, mkWayS_len, mkAreaS_len, obsT, obT, okO, okP, okA, okC, okD, okI, reP, reA, reC, srcI, Nl_nil, Nl_cons, PV.nl, upd_at, ofL_n, ofL_c, VS, argsT, lendA, lendL, lendT, Cvl_nil, Cvl_cons, Cv_bool, Cv_int, Cv_str, Cv_nils, Cv_nilc, Cv_cl, Cv_ow, noFn, PV.noF, NR_iff, NRO, hb, ares, ares1, ldo, ld, nOw, PV.isOw, TY]⟩) ?_
  simp only [hC, VS, VZ, TY, openC, foldC, foldN, PF, pick_or, pick_and, aop, aopD, rdN, wrN, idL, idA, apure, AS.ev, startA, strip, abin, aint, astr, alen, aslice, optI, aconv, aconvM, gdv, AS.put, ofVal, pcells, ld, ldo, nOw, PV.isOw, gtmp, within, astore, splice, afill, allCells, okIdx, asrc, aflat, aappend, hintOk, PV.clo, PV.clo1, ofL_n, ofL_c, nams, reO, reP, reA, reC, srcI, setG, obG, List.cons.injEq, aeq1, aeqs, onG, Int.reduceLE, Int.reduceNeg, Int.reduceLT, Nat.reduceEqDiff, ↓reduceIte, Nat.reduceLT, Nat.reduceLeDiff, Nat.reduceAdd, Nat.reduceMul, Nat.reduceSub, reduceCtorEq, Int.reduceEq]
  refine acall_go true [[2]] (c_markAreaS m.areas (k + (cntNodeS m.nodes : Nat) + (cntWayS m.ways : Nat)) (by omega) (by omega)) (by simp [cv_Tag, cv_Node, cv_Way, cv_Area, cv_Int64, cv_Part, nl_Node, nl_Way, nl_Area, nr_Node, nr_Way, nr_Area, mkNodeS_len, mkWayS_len, mkAreaS_len, obsT, obT, okO, okP, okA, okC, okD, okI, reP, reA, reC, srcI, Nl_nil, Nl_cons, PV.nl, upd_at, ofL_n, ofL_c, VS, argsT, lendA, lendL, lendT, Cvl_nil, Cvl_cons, Cv_bool, Cv_int, Cv_str, Cv_nils, Cv_nilc, Cv_cl, Cv_ow, noFn, PV.noF, NR_iff, NRO, hb, ares, ares1, ldo, ld, nOw, PV.isOw, TY]) (by simp [cv_Tag, cv_Node, cv_Way, cv_Area, cv_Int64, cv_Part, nl_Node, nl_Way, nl_Area, nr_Node, nr_Way, nr_Area, mkNodeS_len, mkWayS_len, mkAreaS_len, obsT, obT, okO, okP, okA, okC, okD, okI, reP, reA, reC, srcI, Nl_nil, Nl_cons, PV.nl, upd_at, ofL_n, ofL_c, VS, argsT, lendA, lendL, lendT, Cvl_nil, Cvl_cons, Cv_bool, Cv_int, Cv_str, Cv_nils, Cv_nilc, Cv_cl, Cv_ow, noFn, PV.noF, NR_iff, NRO, hb, ares, ares1, ldo, ld, nOw, PV.isOw, TY]) (by simp [cv_Tag, cv_Node, cv_Way, cv_Area, cv_Int64, cv_Part, nl_Node, nl_Way, nl_Area, nr_Node, nr_Way, nr_Area, mkNodeS_len, mkWayS_len, mkAreaS_len, obsT, obT, okO, okP, okA, okC, okD, okI, reP, reA, reC, srcI, Nl_nil, Nl_cons, PV.nl, upd_at, ofL_n, ofL_c, VS, argsT, lendA, lendL, lendT, Cvl_nil, Cvl_cons, Cv_bool, Cv_int, Cv_str, Cv_nils, Cv_nilc, Cv_cl, Cv_ow, noFn, PV.noF, NR_iff, NRO, hb, ares, ares1, ldo, ld, nOw, PV.isOw, TY]) tS tS (by simp [cv_Tag, cv_Node, cv_Way, cv_Area, cv_Int64, cv_Part, nl_Node, nl_Way, nl_Area, nr_Node, nr_Way, nr_Area, mkNodeS_len, mkWayS_len, mkAreaS_len, obsT, obT, okO, okP, okA, okC, okD, okI, reP, reA, reC, srcI, Nl_nil, Nl_cons, PV.nl, upd_at, ofL_n, ofL_c, VS, argsT, lendA, lendL, lendT, Cvl_nil, Cvl_cons, Cv_bool, Cv_int, Cv_str, Cv_nils, Cv_nilc, Cv_cl, Cv_ow, noFn, PV.noF, NR_iff, NRO, hb, ares, ares1, ldo, ld, nOw, PV.isOw, TY]) (.inr ⟨by simp [obsT, obT, okO, okP, okA, okC, okD, okI, reP, reA, reC, srcI, Nl_nil, Nl_cons, PV.nl, upd_at, ofL_n, ofL_c, VS, argsT, lendA, lendL, lendT, Cvl_nil, Cvl_cons, Cv_bool, Cv_int, Cv_str, Cv_nils, Cv_nilc, Cv_cl, Cv_ow, noFn, PV.noF, NR_iff, NRO, hb, ares, ares1, ldo, ld, nOw, PV.isOw, TY], by simp [cv_Tag, cv_Node, cv_Way, cv_Area, cv_Int64, cv_Part, nl_Node, nl_Way, nl_Area, nr_Node, nr_Way, nr_Area, mkNodeS_len, mkWayS_len, mkAreaS_len, obsT, obT, okO, okP, okA, okC, okD, okI, reP, reA, reC, srcI, Nl_nil, Nl_cons, PV.nl, upd_at, ofL_n, ofL_c, VS, argsT, lendA, lendL, lendT, Cvl_nil, Cvl_cons, Cv_bool, Cv_int, Cv_str, Cv_nils, Cv_nilc, Cv_cl, Cv_ow, noFn, PV.noF, NR_iff, NRO, hb, ares, ares1, ldo, ld, nOw, PV.isOw, TY]⟩) ?_
  simp only [hC, VS, VZ, TY, openC, foldC, foldN, PF, pick_or, pick_and, aop, aopD, rdN, wrN, idL, idA, apure, AS.ev, startA, strip, abin, aint, astr, alen, aslice, optI, aconv, aconvM, gdv, AS.put, ofVal, pcells, ld, ldo, nOw, PV.isOw, gtmp, within, astore, splice, afill, allCells, okIdx, asrc, aflat, aappend, hintOk, PV.clo, PV.clo1, ofL_n, ofL_c, nams, reO, reP, reA, reC, srcI, setG, obG, List.cons.injEq, aeq1, aeqs, onG, Int.reduceLE, Int.reduceNeg, Int.reduceLT, Nat.reduceEqDiff, ↓reduceIte, Nat.reduceLT, Nat.reduceLeDiff, Nat.reduceAdd, Nat.reduceMul, Nat.reduceSub, reduceCtorEq, Int.reduceEq]
  exact Ret_go [[0], [1], [2]] (by simp [obsT, obT, okO, okP, okA, okC, okD, okI, reP, reA, reC, srcI, Nl_nil, Nl_cons, PV.nl, upd_at, ofL_n, ofL_c, VS, argsT, lendA, lendL, lendT, Cvl_nil, Cvl_cons, Cv_bool, Cv_int, Cv_str, Cv_nils, Cv_nilc, Cv_cl, Cv_ow, noFn, PV.noF, NR_iff, NRO, hb, ares, ares1, ldo, ld, nOw, PV.isOw, TY] <;> omega) (by simp [nl_Node, nl_Way, nl_Area, obsT, obT, okO, okP, okA, okC, okD, okI, reP, reA, reC, srcI, Nl_nil, Nl_cons, PV.nl, upd_at, ofL_n, ofL_c, VS, argsT, lendA, lendL, lendT, Cvl_nil, Cvl_cons, Cv_bool, Cv_int, Cv_str, Cv_nils, Cv_nilc, Cv_cl, Cv_ow, noFn, PV.noF, NR_iff, NRO, hb, ares, ares1, ldo, ld, nOw, PV.isOw, TY]) (by simp [nl_Node, nl_Way, nl_Area, obsT, obT, okO, okP, okA, okC, okD, okI, reP, reA, reC, srcI, Nl_nil, Nl_cons, PV.nl, upd_at, ofL_n, ofL_c, VS, argsT, lendA, lendL, lendT, Cvl_nil, Cvl_cons, Cv_bool, Cv_int, Cv_str, Cv_nils, Cv_nilc, Cv_cl, Cv_ow, noFn, PV.noF, NR_iff, NRO, hb, ares, ares1, ldo, ld, nOw, PV.isOw, TY])
end Go.Proofs.Ytppfogbgbpadiaa.Wd
namespace Go.Proofs.Ytppfogbgbpadiaa.Wd
open Go Go.RowKit Go.Proofs Go.Proofs.YtppfogbgbpadiaaW.AW
set_option linter.unusedVariables false
set_option linter.unusedSimpArgs false
set_option maxRecDepth 100000
structure Ch where
  kind : Int
  node : Nd
  way : Wy
  area : Ar
  id : Int
def cChange (x : Ch) : List PV := [.int .i64 x.kind, .int .i64 x.node.id, .int .i64 x.node.p.1, .int .i64 x.node.p.2, .cl 2 x.node.tags.length (lpv pTag x.node.tags), .int .i64 x.way.id, .cl 1 x.way.nodes.length (lpv pInt64 x.way.nodes), .cl 2 x.way.tags.length (lpv pTag x.way.tags), .int .i64 x.area.id, .cl 2 x.area.parts.length (lpv pPart x.area.parts), .cl 2 x.area.tags.length (lpv pTag x.area.tags), .int .i64 x.id]
def oChange (x : Ch) : List PV := [.int .i64 x.kind, .int .i64 x.node.id, .int .i64 x.node.p.1, .int .i64 x.node.p.2, .ow 2 x.node.tags.length (lpv pTag x.node.tags), .int .i64 x.way.id, .ow 1 x.way.nodes.length (lpv pInt64 x.way.nodes), .ow 2 x.way.tags.length (lpv pTag x.way.tags), .int .i64 x.area.id, .ow 2 x.area.parts.length (lpv pPart x.area.parts), .ow 2 x.area.tags.length (lpv pTag x.area.tags), .int .i64 x.id]
theorem nl_Change (L i) : Nl (lpv oChange L i) ↔ True := iff_true_intro (Nl_lpv (fun x => by simp [oChange, Nl_nil, Nl_cons, PV.nl]))
theorem cv_Change (L i) : Cvl (lpv oChange L i) (lpv cChange L i) ↔ True := iff_true_intro (Cvl_lpv (fun x => by simp [oChange, cChange, Cvl_nil, Cvl_cons, Cv_bool, Cv_int, Cv_str, Cv_ow, cv_Tag, cv_Int64, cv_Part, cv_Point, cv_Node, cv_Way, cv_Area]))
theorem nr_Change (L i) : (∀ p ∈ lpv oChange L i, NR p) ↔ True := iff_true_intro (NR_lpv (fun x => by simp [oChange, NR_iff, nr_Tag, nr_Int64, nr_Part, nr_Point, nr_Node, nr_Way, nr_Area]))
def bChange (x : Ch) : Prop := x.node.tags.length ≤ 1048576 ∧ x.way.nodes.length ≤ 1048576 ∧ x.way.tags.length ≤ 1048576 ∧ x.area.parts.length ≤ 1048576 ∧ x.area.tags.length ≤ 1048576
theorem c_eqChange (x : Ch) (hx : bChange x) : AC Try.prog 117 [.ag (cChange x), .ag (cChange x)] (ML []) (.bool true) (ML []) := by
  refine AC.of Try.func117 rfl rfl (by simp [Try.ntmps117]) rfl (fun C hC hm => ?_)
  rw [Try.ntmps117] at hC
  have hn : C.m0.nx = _ := congrArg Mem.nx hm
  simp only [ML_nx, List.length_nil, List.length_cons, Nat.zero_add, Nat.reduceAdd] at hn
  simp only [bChange, bNode, bWay, bArea] at hx
  simp only [hC, cChange, VS, VZ, TY, openC, foldC, foldN, PF, pick_or, pick_and, aop, aopD, rdN, wrN, idL, idA, apure, AS.ev, startA, strip, abin, aint, astr, alen, aslice, optI, aconv, aconvM, gdv, AS.put, ofVal, pcells, ld, ldo, nOw, PV.isOw, gtmp, within, astore, splice, afill, allCells, okIdx, asrc, aflat, aappend, hintOk, PV.clo, PV.clo1, ofL_n, ofL_c, nams, reO, reP, reA, reC, srcI, setG, obG, List.cons.injEq, aeq1, aeqs, onG, Int.reduceLE, Int.reduceNeg, Int.reduceLT, Nat.reduceEqDiff, ↓reduceIte, Nat.reduceLT, Nat.reduceLeDiff, Nat.reduceAdd, Nat.reduceMul, Nat.reduceSub, reduceCtorEq, Int.reduceEq]
  refine acall_p false (c_eqNode x.node (by simp only [bNode]; simp_all)) (by simp [cNode, obsT, obT, okO, okP, okA, okC, okD, okI, reP, reA, reC, srcI, Nl_nil, Nl_cons, PV.nl, upd_at, ofL_n, ofL_c, VS, argsT, lendA, lendL, lendT, Cvl_nil, Cvl_cons, Cv_bool, Cv_int, Cv_str, Cv_nils, Cv_nilc, Cv_cl, Cv_ow, noFn, PV.noF, NR_iff, NRO, hb, ares, ares1, ldo, ld, nOw, PV.isOw, TY]) tS (.inl rfl) ?_
  simp only [hC, VS, VZ, TY, openC, foldC, foldN, PF, pick_or, pick_and, aop, aopD, rdN, wrN, idL, idA, apure, AS.ev, startA, strip, abin, aint, astr, alen, aslice, optI, aconv, aconvM, gdv, AS.put, ofVal, pcells, ld, ldo, nOw, PV.isOw, gtmp, within, astore, splice, afill, allCells, okIdx, asrc, aflat, aappend, hintOk, PV.clo, PV.clo1, ofL_n, ofL_c, nams, reO, reP, reA, reC, srcI, setG, obG, List.cons.injEq, aeq1, aeqs, onG, Int.reduceLE, Int.reduceNeg, Int.reduceLT, Nat.reduceEqDiff, ↓reduceIte, Nat.reduceLT, Nat.reduceLeDiff, Nat.reduceAdd, Nat.reduceMul, Nat.reduceSub, reduceCtorEq, Int.reduceEq]
  refine acall_p false (c_eqWay x.way (by simp only [bWay]; simp_all)) (by simp [cWay, obsT, obT, okO, okP, okA, okC, okD, okI, reP, reA, reC, srcI, Nl_nil, Nl_cons, PV.nl, upd_at, ofL_n, ofL_c, VS, argsT, lendA, lendL, lendT, Cvl_nil, Cvl_cons, Cv_bool, Cv_int, Cv_str, Cv_nils, Cv_nilc, Cv_cl, Cv_ow, noFn, PV.noF, NR_iff, NRO, hb, ares, ares1, ldo, ld, nOw, PV.isOw, TY]) tS (.inl rfl) ?_
  simp only [hC, VS, VZ, TY, openC, foldC, foldN, PF, pick_or, pick_and, aop, aopD, rdN, wrN, idL, idA, apure, AS.ev, startA, strip, abin, aint, astr, alen, aslice, optI, aconv, aconvM, gdv, AS.put, ofVal, pcells, ld, ldo, nOw, PV.isOw, gtmp, within, astore, splice, afill, allCells, okIdx, asrc, aflat, aappend, hintOk, PV.clo, PV.clo1, ofL_n, ofL_c, nams, reO, reP, reA, reC, srcI, setG, obG, List.cons.injEq, aeq1, aeqs, onG, Int.reduceLE, Int.reduceNeg, Int.reduceLT, Nat.reduceEqDiff, ↓reduceIte, Nat.reduceLT, Nat.reduceLeDiff, Nat.reduceAdd, Nat.reduceMul, Nat.reduceSub, reduceCtorEq, Int.reduceEq]
  refine acall_p false (c_eqArea x.area (by simp only [bArea]; simp_all)) (by simp [cArea, obsT, obT, okO, okP, okA, okC, okD, okI, reP, reA, reC, srcI, Nl_nil, Nl_cons, PV.nl, upd_at, ofL_n, ofL_c, VS, argsT, lendA, lendL, lendT, Cvl_nil, Cvl_cons, Cv_bool, Cv_int, Cv_str, Cv_nils, Cv_nilc, Cv_cl, Cv_ow, noFn, PV.noF, NR_iff, NRO, hb, ares, ares1, ldo, ld, nOw, PV.isOw, TY]) tS (.inl rfl) ?_
  simp only [hC, VS, VZ, TY, openC, foldC, foldN, PF, pick_or, pick_and, aop, aopD, rdN, wrN, idL, idA, apure, AS.ev, startA, strip, abin, aint, astr, alen, aslice, optI, aconv, aconvM, gdv, AS.put, ofVal, pcells, ld, ldo, nOw, PV.isOw, gtmp, within, astore, splice, afill, allCells, okIdx, asrc, aflat, aappend, hintOk, PV.clo, PV.clo1, ofL_n, ofL_c, nams, reO, reP, reA, reC, srcI, setG, obG, List.cons.injEq, aeq1, aeqs, onG, Int.reduceLE, Int.reduceNeg, Int.reduceLT, Nat.reduceEqDiff, ↓reduceIte, Nat.reduceLT, Nat.reduceLeDiff, Nat.reduceAdd, Nat.reduceMul, Nat.reduceSub, reduceCtorEq, Int.reduceEq]
  exact Ret_go [] tS tS (by simp)
theorem c_eqChangeS (L : List Ch) (hL : L.length ≤ 1048576) (hE : ∀ x ∈ L, bChange x) : AC Try.prog 42 [.cl 12 L.length (lpv cChange L), .cl 12 L.length (lpv cChange L)] (ML []) (.bool true) (ML []) := by
  refine AC.of Try.func42 rfl rfl (by simp [Try.ntmps42]) rfl (fun C hC hm => ?_)
  rw [Try.ntmps42] at hC
  have hn : C.m0.nx = _ := congrArg Mem.nx hm
  simp only [ML_nx, List.length_nil, List.length_cons, Nat.zero_add, Nat.reduceAdd] at hn
  simp only [hC, VS, VZ, TY, openC, foldC, foldN, PF, pick_or, pick_and, aop, aopD, rdN, wrN, idL, idA, apure, AS.ev, startA, strip, abin, aint, astr, alen, aslice, optI, aconv, aconvM, gdv, AS.put, ofVal, pcells, ld, ldo, nOw, PV.isOw, gtmp, within, astore, splice, afill, allCells, okIdx, asrc, aflat, aappend, hintOk, PV.clo, PV.clo1, ofL_n, ofL_c, nams, reO, reP, reA, reC, srcI, setG, obG, List.cons.injEq, aeq1, aeqs, onG, Int.reduceLE, Int.reduceNeg, Int.reduceLT, Nat.reduceEqDiff, ↓reduceIte, Nat.reduceLT, Nat.reduceLeDiff, Nat.reduceAdd, Nat.reduceMul, Nat.reduceSub, reduceCtorEq, Int.reduceEq]
  refine AL.go (X := Nat) (fun i => ⟨ofL [(0, .cl 12 L.length (lpv cChange L)), (1, .cl 12 L.length (lpv cChange L)), (5, .int .i64 (i : Int))], ML []⟩) (fun i => L.length - i) (fun i => i ≤ L.length) 0 (Nat.zero_le _) (Told_go hn [] tS tS (by simp)) (fun i hi => vc_ok _ _ _ ?_)
  simp only [hC, VS, VZ, TY, openC, foldC, foldN, PF, pick_or, pick_and, aop, aopD, rdN, wrN, idL, idA, apure, AS.ev, startA, strip, abin, aint, astr, alen, aslice, optI, aconv, aconvM, gdv, AS.put, ofVal, pcells, ld, ldo, nOw, PV.isOw, gtmp, within, astore, splice, afill, allCells, okIdx, asrc, aflat, aappend, hintOk, PV.clo, PV.clo1, ofL_n, ofL_c, nams, reO, reP, reA, reC, srcI, setG, obG, List.cons.injEq, aeq1, aeqs, onG, Int.reduceLE, Int.reduceNeg, Int.reduceLT, Nat.reduceEqDiff, ↓reduceIte, Nat.reduceLT, Nat.reduceLeDiff, Nat.reduceAdd, Nat.reduceMul, Nat.reduceSub, reduceCtorEq, Int.reduceEq]
  refine ⟨fun h => ?_, fun h => ?_⟩
  · have h : i < L.length := by simpa using h
    have e : lpv cChange L i = [.int .i64 L[i].kind, .int .i64 L[i].node.id, .int .i64 L[i].node.p.1, .int .i64 L[i].node.p.2, .cl 2 L[i].node.tags.length (lpv pTag L[i].node.tags), .int .i64 L[i].way.id, .cl 1 L[i].way.nodes.length (lpv pInt64 L[i].way.nodes), .cl 2 L[i].way.tags.length (lpv pTag L[i].way.tags), .int .i64 L[i].area.id, .cl 2 L[i].area.parts.length (lpv pPart L[i].area.parts), .cl 2 L[i].area.tags.length (lpv pTag L[i].area.tags), .int .i64 L[i].id] := lpv_at h
    simp only [e, VS, VZ, TY, openC, foldC, foldN, PF, pick_or, pick_and, aop, aopD, rdN, wrN, idL, idA, apure, AS.ev, startA, strip, abin, aint, astr, alen, aslice, optI, aconv, aconvM, gdv, AS.put, ofVal, pcells, ld, ldo, nOw, PV.isOw, gtmp, within, astore, splice, afill, allCells, okIdx, asrc, aflat, aappend, hintOk, PV.clo, PV.clo1, ofL_n, ofL_c, nams, reO, reP, reA, reC, srcI, setG, obG, List.cons.injEq, aeq1, aeqs, onG, Int.reduceLE, Int.reduceNeg, Int.reduceLT, Nat.reduceEqDiff, ↓reduceIte, Nat.reduceLT, Nat.reduceLeDiff, Nat.reduceAdd, Nat.reduceMul, Nat.reduceSub, reduceCtorEq, Int.reduceEq]
    refine ⟨by kernel_rfl, by simpa using h, by simpa using h, ?_⟩
    refine acall_p false (c_eqChange L[i] (hE _ (List.getElem_mem h))) (by simp [cChange, obsT, obT, okO, okP, okA, okC, okD, okI, reP, reA, reC, srcI, Nl_nil, Nl_cons, PV.nl, upd_at, ofL_n, ofL_c, VS, argsT, lendA, lendL, lendT, Cvl_nil, Cvl_cons, Cv_bool, Cv_int, Cv_str, Cv_nils, Cv_nilc, Cv_cl, Cv_ow, noFn, PV.noF, NR_iff, NRO, hb, ares, ares1, ldo, ld, nOw, PV.isOw, TY]) tS (.inl rfl) ?_
    simp only [hC, VS, VZ, TY, openC, foldC, foldN, PF, pick_or, pick_and, aop, aopD, rdN, wrN, idL, idA, apure, AS.ev, startA, strip, abin, aint, astr, alen, aslice, optI, aconv, aconvM, gdv, AS.put, ofVal, pcells, ld, ldo, nOw, PV.isOw, gtmp, within, astore, splice, afill, allCells, okIdx, asrc, aflat, aappend, hintOk, PV.clo, PV.clo1, ofL_n, ofL_c, nams, reO, reP, reA, reC, srcI, setG, obG, List.cons.injEq, aeq1, aeqs, onG, Int.reduceLE, Int.reduceNeg, Int.reduceLT, Nat.reduceEqDiff, ↓reduceIte, Nat.reduceLT, Nat.reduceLeDiff, Nat.reduceAdd, Nat.reduceMul, Nat.reduceSub, reduceCtorEq, Int.reduceEq]
    simp (disch := omega) only [wr64]
    exact ⟨i + 1, by omega, by omega, Told_go hn [] tS tS (by simp)⟩
  · exact Ret_go [] tS tS (by simp)
def cntChange (x : Ch) : Nat := 7 + cntTagS x.node.tags + cntInt64S x.way.nodes + cntTagS x.way.tags + cntPartS x.area.parts + cntTagS x.area.tags
def mkChange (k : Int) (x : Ch) : Ch := ⟨k, ⟨k + 1, (k + 2, k + 3), mkTagS (k + 4) x.node.tags⟩, ⟨k + (4 + ((cntTagS x.node.tags : Nat) : Int)), mkInt64S (k + (4 + (((cntTagS x.node.tags : Nat) : Int) + 1))) x.way.nodes, mkTagS (k + (4 + (((cntTagS x.node.tags : Nat) : Int) + (1 + ((cntInt64S x.way.nodes : Nat) : Int))))) x.way.tags⟩, ⟨k + (4 + (((cntTagS x.node.tags : Nat) : Int) + (1 + (((cntInt64S x.way.nodes : Nat) : Int) + ((cntTagS x.way.tags : Nat) : Int))))), mkPartS (k + (4 + (((cntTagS x.node.tags : Nat) : Int) + (1 + (((cntInt64S x.way.nodes : Nat) : Int) + (((cntTagS x.way.tags : Nat) : Int) + 1)))))) x.area.parts, mkTagS (k + (4 + (((cntTagS x.node.tags : Nat) : Int) + (1 + (((cntInt64S x.way.nodes : Nat) : Int) + (((cntTagS x.way.tags : Nat) : Int) + (1 + ((cntPartS x.area.parts : Nat) : Int)))))))) x.area.tags⟩, k + (4 + (((cntTagS x.node.tags : Nat) : Int) + (1 + (((cntInt64S x.way.nodes : Nat) : Int) + (((cntTagS x.way.tags : Nat) : Int) + (1 + (((cntPartS x.area.parts : Nat) : Int) + ((cntTagS x.area.tags : Nat) : Int))))))))⟩
def cntChangeS : List Ch → Nat
  | [] => 0
  | x :: L => cntChange x + cntChangeS L
def mkChangeS (k : Int) : List Ch → List Ch
  | [] => []
  | x :: L => mkChange k x :: mkChangeS (k + (cntChange x : Nat)) L
theorem cntChangeS_ge (L : List Ch) : L.length ≤ cntChangeS L := by
  induction L with
  | nil => simp
  | cons x L ih => simp only [List.length_cons, cntChangeS, cntChange]; omega
theorem mkChangeS_len (k : Int) (L) : (mkChangeS k L).length = L.length := by
  induction L generalizing k with
  | nil => rfl
  | cons x L ih => simp [mkChangeS, ih]
theorem c_markChangeS (L : List Ch) (k : Int) (hk0 : 0 ≤ k) (hk : k + (cntChangeS L : Nat) ≤ 4611686018427387904) : AC Try.prog 43 [.sl [0] 12 L.length 0 L.length, .int .i64 k] (ML [.row 12 L.length (lpv oChange L)]) (.int .i64 (k + (cntChangeS L : Nat))) (ML [.row 12 L.length (lpv oChange (mkChangeS k L))]) := by
  refine AC.ofA Try.func43 rfl rfl (by simp [Try.ntmps43]) rfl (fun C hC hm => ?_)
  rw [Try.ntmps43] at hC
  have hn : C.m0.nx = _ := congrArg Mem.nx hm
  simp only [ML_nx, List.length_nil, List.length_cons, Nat.zero_add, Nat.reduceAdd] at hn
  have hL := cntChangeS_ge L
  have hML := mkChangeS_len k L
  generalize hM : mkChangeS k L = M at *
  obtain ⟨r, hr⟩ : ∃ r : Int, r = k + (cntChangeS L : Nat) := ⟨_, rfl⟩
  rw [← hr]
  rw [← hr] at hk
  refine vc_ok _ _ _ ?_
  simp only [hC, VS, VZ, TY, openC, foldC, foldN, PF, pick_or, pick_and, aop, aopD, rdN, wrN, idL, idA, apure, AS.ev, startA, strip, abin, aint, astr, alen, aslice, optI, aconv, aconvM, gdv, AS.put, ofVal, pcells, ld, ldo, nOw, PV.isOw, gtmp, within, astore, splice, afill, allCells, okIdx, asrc, aflat, aappend, hintOk, PV.clo, PV.clo1, ofL_n, ofL_c, nams, reO, reP, reA, reC, srcI, setG, obG, List.cons.injEq, aeq1, aeqs, onG, Int.reduceLE, Int.reduceNeg, Int.reduceLT, Nat.reduceEqDiff, ↓reduceIte, Nat.reduceLT, Nat.reduceLeDiff, Nat.reduceAdd, Nat.reduceMul, Nat.reduceSub, reduceCtorEq, Int.reduceEq]
  refine AL.go (X := Nat × Int) (fun p => ⟨ofL [(0, .sl [0] 12 L.length 0 L.length), (1, .int .i64 p.2), (5, .int .i64 (p.1 : Int))], ML [.row 12 L.length (upto p.1 (lpv oChange M) (lpv oChange L))]⟩) (fun p => L.length - p.1) (fun p => p.1 ≤ L.length ∧ 0 ≤ p.2 ∧ M.drop p.1 = mkChangeS p.2 (L.drop p.1) ∧ r = p.2 + (cntChangeS (L.drop p.1) : Nat)) (0, k) ⟨Nat.zero_le _, hk0, by simp [hM], by simpa using hr⟩
    (Told_go hn [[0]] tS (by simp [upto_0, nl_Change, obsT, obT, okO, okP, okA, okC, okD, okI, reP, reA, reC, srcI, Nl_nil, Nl_cons, PV.nl, upd_at, ofL_n, ofL_c, VS, argsT, lendA, lendL, lendT, Cvl_nil, Cvl_cons, Cv_bool, Cv_int, Cv_str, Cv_nils, Cv_nilc, Cv_cl, Cv_ow, noFn, PV.noF, NR_iff, NRO, hb, ares, ares1, ldo, ld, nOw, PV.isOw, TY]) (by simp [upto_0, nl_Change, obsT, obT, okO, okP, okA, okC, okD, okI, reP, reA, reC, srcI, Nl_nil, Nl_cons, PV.nl, upd_at, ofL_n, ofL_c, VS, argsT, lendA, lendL, lendT, Cvl_nil, Cvl_cons, Cv_bool, Cv_int, Cv_str, Cv_nils, Cv_nilc, Cv_cl, Cv_ow, noFn, PV.noF, NR_iff, NRO, hb, ares, ares1, ldo, ld, nOw, PV.isOw, TY])) ?_
  rintro ⟨i, k⟩ ⟨hi, hk0, hM, hr⟩
  simp only at hi hk0 hM hr ⊢
  by_cases h : i < L.length
  · have eo : lpv oChange L i = [.int .i64 L[i].kind, .int .i64 L[i].node.id, .int .i64 L[i].node.p.1, .int .i64 L[i].node.p.2, .ow 2 L[i].node.tags.length (lpv pTag L[i].node.tags), .int .i64 L[i].way.id, .ow 1 L[i].way.nodes.length (lpv pInt64 L[i].way.nodes), .ow 2 L[i].way.tags.length (lpv pTag L[i].way.tags), .int .i64 L[i].area.id, .ow 2 L[i].area.parts.length (lpv pPart L[i].area.parts), .ow 2 L[i].area.tags.length (lpv pTag L[i].area.tags), .int .i64 L[i].id] := lpv_at h
    have hcx : cntChange L[i] = 7 + cntTagS L[i].node.tags + cntInt64S L[i].way.nodes + cntTagS L[i].way.tags + cntPartS L[i].area.parts + cntTagS L[i].area.tags := rfl
    have hdec : decide ((i : Int) < (L.length : Int)) = true := by simpa using h
    have hbi : (0 ≤ (i : Int) ∧ (i : Int) < (L.length : Int)) ↔ True := by simp; omega
    rw [List.drop_eq_getElem_cons h, List.drop_eq_getElem_cons (show i < M.length by omega), mkChangeS, List.cons.injEq] at hM
    rw [List.drop_eq_getElem_cons h, cntChangeS] at hr
    have em : lpv oChange M i = [.int .i64 (k), .int .i64 (k + 1), .int .i64 (k + 2), .int .i64 (k + 3), .ow 2 L[i].node.tags.length (lpv pTag (mkTagS (k + 4) L[i].node.tags)), .int .i64 (k + (4 + ((cntTagS L[i].node.tags : Nat) : Int))), .ow 1 L[i].way.nodes.length (lpv pInt64 (mkInt64S (k + (4 + (((cntTagS L[i].node.tags : Nat) : Int) + 1))) L[i].way.nodes)), .ow 2 L[i].way.tags.length (lpv pTag (mkTagS (k + (4 + (((cntTagS L[i].node.tags : Nat) : Int) + (1 + ((cntInt64S L[i].way.nodes : Nat) : Int))))) L[i].way.tags)), .int .i64 (k + (4 + (((cntTagS L[i].node.tags : Nat) : Int) + (1 + (((cntInt64S L[i].way.nodes : Nat) : Int) + ((cntTagS L[i].way.tags : Nat) : Int)))))), .ow 2 L[i].area.parts.length (lpv pPart (mkPartS (k + (4 + (((cntTagS L[i].node.tags : Nat) : Int) + (1 + (((cntInt64S L[i].way.nodes : Nat) : Int) + (((cntTagS L[i].way.tags : Nat) : Int) + 1)))))) L[i].area.parts)), .ow 2 L[i].area.tags.length (lpv pTag (mkTagS (k + (4 + (((cntTagS L[i].node.tags : Nat) : Int) + (1 + (((cntInt64S L[i].way.nodes : Nat) : Int) + (((cntTagS L[i].way.tags : Nat) : Int) + (1 + ((cntPartS L[i].area.parts : Nat) : Int)))))))) L[i].area.tags)), .int .i64 (k + (4 + (((cntTagS L[i].node.tags : Nat) : Int) + (1 + (((cntInt64S L[i].way.nodes : Nat) : Int) + (((cntTagS L[i].way.tags : Nat) : Int) + (1 + (((cntPartS L[i].area.parts : Nat) : Int) + ((cntTagS L[i].area.tags : Nat) : Int)))))))))] := by rw [lpv_at (show i < M.length by omega), hM.1]; simp [oChange, mkChange, upd_at, mkTagS_len, mkInt64S_len, mkPartS_len]
    refine AW_open [0] i 4 ?_
    simp only [eo, VS, VZ, TY, openC, foldC, foldN, PF, pick_or, pick_and, aop, aopD, rdN, wrN, idL, idA, apure, AS.ev, startA, strip, abin, aint, astr, alen, aslice, optI, aconv, aconvM, gdv, AS.put, ofVal, pcells, ld, ldo, nOw, PV.isOw, gtmp, within, astore, splice, afill, allCells, okIdx, asrc, aflat, aappend, hintOk, PV.clo, PV.clo1, ofL_n, ofL_c, nams, reO, reP, reA, reC, srcI, setG, obG, List.cons.injEq, aeq1, aeqs, onG, Int.reduceLE, Int.reduceNeg, Int.reduceLT, Nat.reduceEqDiff, ↓reduceIte, Nat.reduceLT, Nat.reduceLeDiff, Nat.reduceAdd, Nat.reduceMul, Nat.reduceSub, reduceCtorEq, Int.reduceEq]
    refine ⟨h, ?_⟩
    refine AW_open [0] i 6 ?_
    simp only [eo, VS, VZ, TY, openC, foldC, foldN, PF, pick_or, pick_and, aop, aopD, rdN, wrN, idL, idA, apure, AS.ev, startA, strip, abin, aint, astr, alen, aslice, optI, aconv, aconvM, gdv, AS.put, ofVal, pcells, ld, ldo, nOw, PV.isOw, gtmp, within, astore, splice, afill, allCells, okIdx, asrc, aflat, aappend, hintOk, PV.clo, PV.clo1, ofL_n, ofL_c, nams, reO, reP, reA, reC, srcI, setG, obG, List.cons.injEq, aeq1, aeqs, onG, Int.reduceLE, Int.reduceNeg, Int.reduceLT, Nat.reduceEqDiff, ↓reduceIte, Nat.reduceLT, Nat.reduceLeDiff, Nat.reduceAdd, Nat.reduceMul, Nat.reduceSub, reduceCtorEq, Int.reduceEq]
    refine ⟨h, ?_⟩
    refine AW_open [0] i 7 ?_
    simp only [eo, VS, VZ, TY, openC, foldC, foldN, PF, pick_or, pick_and, aop, aopD, rdN, wrN, idL, idA, apure, AS.ev, startA, strip, abin, aint, astr, alen, aslice, optI, aconv, aconvM, gdv, AS.put, ofVal, pcells, ld, ldo, nOw, PV.isOw, gtmp, within, astore, splice, afill, allCells, okIdx, asrc, aflat, aappend, hintOk, PV.clo, PV.clo1, ofL_n, ofL_c, nams, reO, reP, reA, reC, srcI, setG, obG, List.cons.injEq, aeq1, aeqs, onG, Int.reduceLE, Int.reduceNeg, Int.reduceLT, Nat.reduceEqDiff, ↓reduceIte, Nat.reduceLT, Nat.reduceLeDiff, Nat.reduceAdd, Nat.reduceMul, Nat.reduceSub, reduceCtorEq, Int.reduceEq]
    refine ⟨h, ?_⟩
    refine AW_open [0] i 9 ?_
    simp only [eo, VS, VZ, TY, openC, foldC, foldN, PF, pick_or, pick_and, aop, aopD, rdN, wrN, idL, idA, apure, AS.ev, startA, strip, abin, aint, astr, alen, aslice, optI, aconv, aconvM, gdv, AS.put, ofVal, pcells, ld, ldo, nOw, PV.isOw, gtmp, within, astore, splice, afill, allCells, okIdx, asrc, aflat, aappend, hintOk, PV.clo, PV.clo1, ofL_n, ofL_c, nams, reO, reP, reA, reC, srcI, setG, obG, List.cons.injEq, aeq1, aeqs, onG, Int.reduceLE, Int.reduceNeg, Int.reduceLT, Nat.reduceEqDiff, ↓reduceIte, Nat.reduceLT, Nat.reduceLeDiff, Nat.reduceAdd, Nat.reduceMul, Nat.reduceSub, reduceCtorEq, Int.reduceEq]
    refine ⟨h, ?_⟩
    refine AW_open [0] i 10 ?_
    simp only [eo, VS, VZ, TY, openC, foldC, foldN, PF, pick_or, pick_and, aop, aopD, rdN, wrN, idL, idA, apure, AS.ev, startA, strip, abin, aint, astr, alen, aslice, optI, aconv, aconvM, gdv, AS.put, ofVal, pcells, ld, ldo, nOw, PV.isOw, gtmp, within, astore, splice, afill, allCells, okIdx, asrc, aflat, aappend, hintOk, PV.clo, PV.clo1, ofL_n, ofL_c, nams, reO, reP, reA, reC, srcI, setG, obG, List.cons.injEq, aeq1, aeqs, onG, Int.reduceLE, Int.reduceNeg, Int.reduceLT, Nat.reduceEqDiff, ↓reduceIte, Nat.reduceLT, Nat.reduceLeDiff, Nat.reduceAdd, Nat.reduceMul, Nat.reduceSub, reduceCtorEq, Int.reduceEq]
    refine ⟨h, ?_⟩
    refine vc_ok _ _ _ ?_
    simp only [hC, eo, hdec, hbi, VS, VZ, TY, openC, foldC, foldN, PF, pick_or, pick_and, aop, aopD, rdN, wrN, idL, idA, apure, AS.ev, startA, strip, abin, aint, astr, alen, aslice, optI, aconv, aconvM, gdv, AS.put, ofVal, pcells, ld, ldo, nOw, PV.isOw, gtmp, within, astore, splice, afill, allCells, okIdx, asrc, aflat, aappend, hintOk, PV.clo, PV.clo1, ofL_n, ofL_c, nams, reO, reP, reA, reC, srcI, setG, obG, List.cons.injEq, aeq1, aeqs, onG, Int.reduceLE, Int.reduceNeg, Int.reduceLT, Nat.reduceEqDiff, ↓reduceIte, Nat.reduceLT, Nat.reduceLeDiff, Nat.reduceAdd, Nat.reduceMul, Nat.reduceSub, reduceCtorEq, Int.reduceEq]
    try (simp (disch := omega) only [wr64, Int.add_assoc, Int.reduceAdd, eq_self, decide_true, decide_false, Bool.not_true, Bool.not_false, true_implies, false_implies, Bool.false_eq_true, Bool.true_eq_false, and_true, true_and, and_self, beq_self_eq_true])
    refine acall_go false [[1]] (c_markTagS L[i].node.tags (k + 4) (by omega) (by omega)) (by simp [obsT, obT, okO, okP, okA, okC, okD, okI, reP, reA, reC, srcI, Nl_nil, Nl_cons, PV.nl, upd_at, ofL_n, ofL_c, VS, argsT, lendA, lendL, lendT, Cvl_nil, Cvl_cons, Cv_bool, Cv_int, Cv_str, Cv_nils, Cv_nilc, Cv_cl, Cv_ow, noFn, PV.noF, NR_iff, NRO, hb, ares, ares1, ldo, ld, nOw, PV.isOw, TY] <;> omega) (by simp [nl_Tag, obsT, obT, okO, okP, okA, okC, okD, okI, reP, reA, reC, srcI, Nl_nil, Nl_cons, PV.nl, upd_at, ofL_n, ofL_c, VS, argsT, lendA, lendL, lendT, Cvl_nil, Cvl_cons, Cv_bool, Cv_int, Cv_str, Cv_nils, Cv_nilc, Cv_cl, Cv_ow, noFn, PV.noF, NR_iff, NRO, hb, ares, ares1, ldo, ld, nOw, PV.isOw, TY]) (by simp [nl_Tag, obsT, obT, okO, okP, okA, okC, okD, okI, reP, reA, reC, srcI, Nl_nil, Nl_cons, PV.nl, upd_at, ofL_n, ofL_c, VS, argsT, lendA, lendL, lendT, Cvl_nil, Cvl_cons, Cv_bool, Cv_int, Cv_str, Cv_nils, Cv_nilc, Cv_cl, Cv_ow, noFn, PV.noF, NR_iff, NRO, hb, ares, ares1, ldo, ld, nOw, PV.isOw, TY]) tS tS (by simp [nl_Tag, obsT, obT, okO, okP, okA, okC, okD, okI, reP, reA, reC, srcI, Nl_nil, Nl_cons, PV.nl, upd_at, ofL_n, ofL_c, VS, argsT, lendA, lendL, lendT, Cvl_nil, Cvl_cons, Cv_bool, Cv_int, Cv_str, Cv_nils, Cv_nilc, Cv_cl, Cv_ow, noFn, PV.noF, NR_iff, NRO, hb, ares, ares1, ldo, ld, nOw, PV.isOw, TY]) (.inl rfl) ?_
    simp only [hC, hdec, hbi, VS, VZ, TY, openC, foldC, foldN, PF, pick_or, pick_and, aop, aopD, rdN, wrN, idL, idA, apure, AS.ev, startA, strip, abin, aint, astr, alen, aslice, optI, aconv, aconvM, gdv, AS.put, ofVal, pcells, ld, ldo, nOw, PV.isOw, gtmp, within, astore, splice, afill, allCells, okIdx, asrc, aflat, aappend, hintOk, PV.clo, PV.clo1, ofL_n, ofL_c, nams, reO, reP, reA, reC, srcI, setG, obG, List.cons.injEq, aeq1, aeqs, onG, Int.reduceLE, Int.reduceNeg, Int.reduceLT, Nat.reduceEqDiff, ↓reduceIte, Nat.reduceLT, Nat.reduceLeDiff, Nat.reduceAdd, Nat.reduceMul, Nat.reduceSub, reduceCtorEq, Int.reduceEq]
    try (simp (disch := omega) only [wr64, Int.add_assoc, Int.reduceAdd, eq_self, decide_true, decide_false, Bool.not_true, Bool.not_false, true_implies, false_implies, Bool.false_eq_true, Bool.true_eq_false, and_true, true_and, and_self, beq_self_eq_true])
    refine acall_go false [[2]] (c_markInt64S L[i].way.nodes (k + (4 + (((cntTagS L[i].node.tags : Nat) : Int) + 1))) (by omega) (by omega)) (by simp [obsT, obT, okO, okP, okA, okC, okD, okI, reP, reA, reC, srcI, Nl_nil, Nl_cons, PV.nl, upd_at, ofL_n, ofL_c, VS, argsT, lendA, lendL, lendT, Cvl_nil, Cvl_cons, Cv_bool, Cv_int, Cv_str, Cv_nils, Cv_nilc, Cv_cl, Cv_ow, noFn, PV.noF, NR_iff, NRO, hb, ares, ares1, ldo, ld, nOw, PV.isOw, TY] <;> omega) (by simp [nl_Int64, obsT, obT, okO, okP, okA, okC, okD, okI, reP, reA, reC, srcI, Nl_nil, Nl_cons, PV.nl, upd_at, ofL_n, ofL_c, VS, argsT, lendA, lendL, lendT, Cvl_nil, Cvl_cons, Cv_bool, Cv_int, Cv_str, Cv_nils, Cv_nilc, Cv_cl, Cv_ow, noFn, PV.noF, NR_iff, NRO, hb, ares, ares1, ldo, ld, nOw, PV.isOw, TY]) (by simp [nl_Int64, obsT, obT, okO, okP, okA, okC, okD, okI, reP, reA, reC, srcI, Nl_nil, Nl_cons, PV.nl, upd_at, ofL_n, ofL_c, VS, argsT, lendA, lendL, lendT, Cvl_nil, Cvl_cons, Cv_bool, Cv_int, Cv_str, Cv_nils, Cv_nilc, Cv_cl, Cv_ow, noFn, PV.noF, NR_iff, NRO, hb, ares, ares1, ldo, ld, nOw, PV.isOw, TY]) tS tS (by simp [nl_Int64, obsT, obT, okO, okP, okA, okC, okD, okI, reP, reA, reC, srcI, Nl_nil, Nl_cons, PV.nl, upd_at, ofL_n, ofL_c, VS, argsT, lendA, lendL, lendT, Cvl_nil, Cvl_cons, Cv_bool, Cv_int, Cv_str, Cv_nils, Cv_nilc, Cv_cl, Cv_ow, noFn, PV.noF, NR_iff, NRO, hb, ares, ares1, ldo, ld, nOw, PV.isOw, TY]) (.inl rfl) ?_
    simp only [hC, hdec, hbi, VS, VZ, TY, openC, foldC, foldN, PF, pick_or, pick_and, aop, aopD, rdN, wrN, idL, idA, apure, AS.ev, startA, strip, abin, aint, astr, alen, aslice, optI, aconv, aconvM, gdv, AS.put, ofVal, pcells, ld, ldo, nOw, PV.isOw, gtmp, within, astore, splice, afill, allCells, okIdx, asrc, aflat, aappend, hintOk, PV.clo, PV.clo1, ofL_n, ofL_c, nams, reO, reP, reA, reC, srcI, setG, obG, List.cons.injEq, aeq1, aeqs, onG, Int.reduceLE, Int.reduceNeg, Int.reduceLT, Nat.reduceEqDiff, ↓reduceIte, Nat.reduceLT, Nat.reduceLeDiff, Nat.reduceAdd, Nat.reduceMul, Nat.reduceSub, reduceCtorEq, Int.reduceEq]
    try (simp (disch := omega) only [wr64, Int.add_assoc, Int.reduceAdd, eq_self, decide_true, decide_false, Bool.not_true, Bool.not_false, true_implies, false_implies, Bool.false_eq_true, Bool.true_eq_false, and_true, true_and, and_self, beq_self_eq_true])
    refine acall_go false [[3]] (c_markTagS L[i].way.tags (k + (4 + (((cntTagS L[i].node.tags : Nat) : Int) + (1 + ((cntInt64S L[i].way.nodes : Nat) : Int))))) (by omega) (by omega)) (by simp [obsT, obT, okO, okP, okA, okC, okD, okI, reP, reA, reC, srcI, Nl_nil, Nl_cons, PV.nl, upd_at, ofL_n, ofL_c, VS, argsT, lendA, lendL, lendT, Cvl_nil, Cvl_cons, Cv_bool, Cv_int, Cv_str, Cv_nils, Cv_nilc, Cv_cl, Cv_ow, noFn, PV.noF, NR_iff, NRO, hb, ares, ares1, ldo, ld, nOw, PV.isOw, TY] <;> omega) (by simp [nl_Tag, obsT, obT, okO, okP, okA, okC, okD, okI, reP, reA, reC, srcI, Nl_nil, Nl_cons, PV.nl, upd_at, ofL_n, ofL_c, VS, argsT, lendA, lendL, lendT, Cvl_nil, Cvl_cons, Cv_bool, Cv_int, Cv_str, Cv_nils, Cv_nilc, Cv_cl, Cv_ow, noFn, PV.noF, NR_iff, NRO, hb, ares, ares1, ldo, ld, nOw, PV.isOw, TY]) (by simp [nl_Tag, obsT, obT, okO, okP, okA, okC, okD, okI, reP, reA, reC, srcI, Nl_nil, Nl_cons, PV.nl, upd_at, ofL_n, ofL_c, VS, argsT, lendA, lendL, lendT, Cvl_nil, Cvl_cons, Cv_bool, Cv_int, Cv_str, Cv_nils, Cv_nilc, Cv_cl, Cv_ow, noFn, PV.noF, NR_iff, NRO, hb, ares, ares1, ldo, ld, nOw, PV.isOw, TY]) tS tS (by simp [nl_Tag, obsT, obT, okO, okP, okA, okC, okD, okI, reP, reA, reC, srcI, Nl_nil, Nl_cons, PV.nl, upd_at, ofL_n, ofL_c, VS, argsT, lendA, lendL, lendT, Cvl_nil, Cvl_cons, Cv_bool, Cv_int, Cv_str, Cv_nils, Cv_nilc, Cv_cl, Cv_ow, noFn, PV.noF, NR_iff, NRO, hb, ares, ares1, ldo, ld, nOw, PV.isOw, TY]) (.inl rfl) ?_
    simp only [hC, hdec, hbi, VS, VZ, TY, openC, foldC, foldN, PF, pick_or, pick_and, aop, aopD, rdN, wrN, idL, idA, apure, AS.ev, startA, strip, abin, aint, astr, alen, aslice, optI, aconv, aconvM, gdv, AS.put, ofVal, pcells, ld, ldo, nOw, PV.isOw, gtmp, within, astore, splice, afill, allCells, okIdx, asrc, aflat, aappend, hintOk, PV.clo, PV.clo1, ofL_n, ofL_c, nams, reO, reP, reA, reC, srcI, setG, obG, List.cons.injEq, aeq1, aeqs, onG, Int.reduceLE, Int.reduceNeg, Int.reduceLT, Nat.reduceEqDiff, ↓reduceIte, Nat.reduceLT, Nat.reduceLeDiff, Nat.reduceAdd, Nat.reduceMul, Nat.reduceSub, reduceCtorEq, Int.reduceEq]
    try (simp (disch := omega) only [wr64, Int.add_assoc, Int.reduceAdd, eq_self, decide_true, decide_false, Bool.not_true, Bool.not_false, true_implies, false_implies, Bool.false_eq_true, Bool.true_eq_false, and_true, true_and, and_self, beq_self_eq_true])
    refine acall_go false [[4]] (c_markPartS L[i].area.parts (k + (4 + (((cntTagS L[i].node.tags : Nat) : Int) + (1 + (((cntInt64S L[i].way.nodes : Nat) : Int) + (((cntTagS L[i].way.tags : Nat) : Int) + 1)))))) (by omega) (by omega)) (by simp [obsT, obT, okO, okP, okA, okC, okD, okI, reP, reA, reC, srcI, Nl_nil, Nl_cons, PV.nl, upd_at, ofL_n, ofL_c, VS, argsT, lendA, lendL, lendT, Cvl_nil, Cvl_cons, Cv_bool, Cv_int, Cv_str, Cv_nils, Cv_nilc, Cv_cl, Cv_ow, noFn, PV.noF, NR_iff, NRO, hb, ares, ares1, ldo, ld, nOw, PV.isOw, TY] <;> omega) (by simp [nl_Part, obsT, obT, okO, okP, okA, okC, okD, okI, reP, reA, reC, srcI, Nl_nil, Nl_cons, PV.nl, upd_at, ofL_n, ofL_c, VS, argsT, lendA, lendL, lendT, Cvl_nil, Cvl_cons, Cv_bool, Cv_int, Cv_str, Cv_nils, Cv_nilc, Cv_cl, Cv_ow, noFn, PV.noF, NR_iff, NRO, hb, ares, ares1, ldo, ld, nOw, PV.isOw, TY]) (by simp [nl_Part, obsT, obT, okO, okP, okA, okC, okD, okI, reP, reA, reC, srcI, Nl_nil, Nl_cons, PV.nl, upd_at, ofL_n, ofL_c, VS, argsT, lendA, lendL, lendT, Cvl_nil, Cvl_cons, Cv_bool, Cv_int, Cv_str, Cv_nils, Cv_nilc, Cv_cl, Cv_ow, noFn, PV.noF, NR_iff, NRO, hb, ares, ares1, ldo, ld, nOw, PV.isOw, TY]) tS tS (by simp [nl_Part, obsT, obT, okO, okP, okA, okC, okD, okI, reP, reA, reC, srcI, Nl_nil, Nl_cons, PV.nl, upd_at, ofL_n, ofL_c, VS, argsT, lendA, lendL, lendT, Cvl_nil, Cvl_cons, Cv_bool, Cv_int, Cv_str, Cv_nils, Cv_nilc, Cv_cl, Cv_ow, noFn, PV.noF, NR_iff, NRO, hb, ares, ares1, ldo, ld, nOw, PV.isOw, TY]) (.inl rfl) ?_
    simp only [hC, hdec, hbi, VS, VZ, TY, openC, foldC, foldN, PF, pick_or, pick_and, aop, aopD, rdN, wrN, idL, idA, apure, AS.ev, startA, strip, abin, aint, astr, alen, aslice, optI, aconv, aconvM, gdv, AS.put, ofVal, pcells, ld, ldo, nOw, PV.isOw, gtmp, within, astore, splice, afill, allCells, okIdx, asrc, aflat, aappend, hintOk, PV.clo, PV.clo1, ofL_n, ofL_c, nams, reO, reP, reA, reC, srcI, setG, obG, List.cons.injEq, aeq1, aeqs, onG, Int.reduceLE, Int.reduceNeg, Int.reduceLT, Nat.reduceEqDiff, ↓reduceIte, Nat.reduceLT, Nat.reduceLeDiff, Nat.reduceAdd, Nat.reduceMul, Nat.reduceSub, reduceCtorEq, Int.reduceEq]
    try (simp (disch := omega) only [wr64, Int.add_assoc, Int.reduceAdd, eq_self, decide_true, decide_false, Bool.not_true, Bool.not_false, true_implies, false_implies, Bool.false_eq_true, Bool.true_eq_false, and_true, true_and, and_self, beq_self_eq_true])
    refine acall_go false [[5]] (c_markTagS L[i].area.tags (k + (4 + (((cntTagS L[i].node.tags : Nat) : Int) + (1 + (((cntInt64S L[i].way.nodes : Nat) : Int) + (((cntTagS L[i].way.tags : Nat) : Int) + (1 + ((cntPartS L[i].area.parts : Nat) : Int)))))))) (by omega) (by omega)) (by simp [obsT, obT, okO, okP, okA, okC, okD, okI, reP, reA, reC, srcI, Nl_nil, Nl_cons, PV.nl, upd_at, ofL_n, ofL_c, VS, argsT, lendA, lendL, lendT, Cvl_nil, Cvl_cons, Cv_bool, Cv_int, Cv_str, Cv_nils, Cv_nilc, Cv_cl, Cv_ow, noFn, PV.noF, NR_iff, NRO, hb, ares, ares1, ldo, ld, nOw, PV.isOw, TY] <;> omega) (by simp [nl_Tag, obsT, obT, okO, okP, okA, okC, okD, okI, reP, reA, reC, srcI, Nl_nil, Nl_cons, PV.nl, upd_at, ofL_n, ofL_c, VS, argsT, lendA, lendL, lendT, Cvl_nil, Cvl_cons, Cv_bool, Cv_int, Cv_str, Cv_nils, Cv_nilc, Cv_cl, Cv_ow, noFn, PV.noF, NR_iff, NRO, hb, ares, ares1, ldo, ld, nOw, PV.isOw, TY]) (by simp [nl_Tag, obsT, obT, okO, okP, okA, okC, okD, okI, reP, reA, reC, srcI, Nl_nil, Nl_cons, PV.nl, upd_at, ofL_n, ofL_c, VS, argsT, lendA, lendL, lendT, Cvl_nil, Cvl_cons, Cv_bool, Cv_int, Cv_str, Cv_nils, Cv_nilc, Cv_cl, Cv_ow, noFn, PV.noF, NR_iff, NRO, hb, ares, ares1, ldo, ld, nOw, PV.isOw, TY]) tS tS (by simp [nl_Tag, obsT, obT, okO, okP, okA, okC, okD, okI, reP, reA, reC, srcI, Nl_nil, Nl_cons, PV.nl, upd_at, ofL_n, ofL_c, VS, argsT, lendA, lendL, lendT, Cvl_nil, Cvl_cons, Cv_bool, Cv_int, Cv_str, Cv_nils, Cv_nilc, Cv_cl, Cv_ow, noFn, PV.noF, NR_iff, NRO, hb, ares, ares1, ldo, ld, nOw, PV.isOw, TY]) (.inl rfl) ?_
    simp only [hC, hdec, hbi, VS, VZ, TY, openC, foldC, foldN, PF, pick_or, pick_and, aop, aopD, rdN, wrN, idL, idA, apure, AS.ev, startA, strip, abin, aint, astr, alen, aslice, optI, aconv, aconvM, gdv, AS.put, ofVal, pcells, ld, ldo, nOw, PV.isOw, gtmp, within, astore, splice, afill, allCells, okIdx, asrc, aflat, aappend, hintOk, PV.clo, PV.clo1, ofL_n, ofL_c, nams, reO, reP, reA, reC, srcI, setG, obG, List.cons.injEq, aeq1, aeqs, onG, Int.reduceLE, Int.reduceNeg, Int.reduceLT, Nat.reduceEqDiff, ↓reduceIte, Nat.reduceLT, Nat.reduceLeDiff, Nat.reduceAdd, Nat.reduceMul, Nat.reduceSub, reduceCtorEq, Int.reduceEq]
    try (simp (disch := omega) only [wr64, Int.add_assoc, Int.reduceAdd, eq_self, decide_true, decide_false, Bool.not_true, Bool.not_false, true_implies, false_implies, Bool.false_eq_true, Bool.true_eq_false, and_true, true_and, and_self, beq_self_eq_true])
    refine ⟨(i + 1, k + (cntChange L[i] : Nat)), ⟨by simp only; omega, by simp only; omega, hM.2, by simp only; omega⟩, by simp only; omega, ?_⟩
    refine T_fold [0] i 4 [1] ?_
    simp only [VS, VZ, TY, openC, foldC, foldN, PF, pick_or, pick_and, aop, aopD, rdN, wrN, idL, idA, apure, AS.ev, startA, strip, abin, aint, astr, alen, aslice, optI, aconv, aconvM, gdv, AS.put, ofVal, pcells, ld, ldo, nOw, PV.isOw, gtmp, within, astore, splice, afill, allCells, okIdx, asrc, aflat, aappend, hintOk, PV.clo, PV.clo1, ofL_n, ofL_c, nams, reO, reP, reA, reC, srcI, setG, obG, List.cons.injEq, aeq1, aeqs, onG, Int.reduceLE, Int.reduceNeg, Int.reduceLT, Nat.reduceEqDiff, ↓reduceIte, Nat.reduceLT, Nat.reduceLeDiff, Nat.reduceAdd, Nat.reduceMul, Nat.reduceSub, reduceCtorEq, Int.reduceEq]
    refine ⟨h, by simp, by simp [nl_Tag], ?_⟩
    refine T_fold [0] i 6 [2] ?_
    simp only [VS, VZ, TY, openC, foldC, foldN, PF, pick_or, pick_and, aop, aopD, rdN, wrN, idL, idA, apure, AS.ev, startA, strip, abin, aint, astr, alen, aslice, optI, aconv, aconvM, gdv, AS.put, ofVal, pcells, ld, ldo, nOw, PV.isOw, gtmp, within, astore, splice, afill, allCells, okIdx, asrc, aflat, aappend, hintOk, PV.clo, PV.clo1, ofL_n, ofL_c, nams, reO, reP, reA, reC, srcI, setG, obG, List.cons.injEq, aeq1, aeqs, onG, Int.reduceLE, Int.reduceNeg, Int.reduceLT, Nat.reduceEqDiff, ↓reduceIte, Nat.reduceLT, Nat.reduceLeDiff, Nat.reduceAdd, Nat.reduceMul, Nat.reduceSub, reduceCtorEq, Int.reduceEq]
    refine ⟨h, by simp, by simp [nl_Int64], ?_⟩
    refine T_fold [0] i 7 [3] ?_
    simp only [VS, VZ, TY, openC, foldC, foldN, PF, pick_or, pick_and, aop, aopD, rdN, wrN, idL, idA, apure, AS.ev, startA, strip, abin, aint, astr, alen, aslice, optI, aconv, aconvM, gdv, AS.put, ofVal, pcells, ld, ldo, nOw, PV.isOw, gtmp, within, astore, splice, afill, allCells, okIdx, asrc, aflat, aappend, hintOk, PV.clo, PV.clo1, ofL_n, ofL_c, nams, reO, reP, reA, reC, srcI, setG, obG, List.cons.injEq, aeq1, aeqs, onG, Int.reduceLE, Int.reduceNeg, Int.reduceLT, Nat.reduceEqDiff, ↓reduceIte, Nat.reduceLT, Nat.reduceLeDiff, Nat.reduceAdd, Nat.reduceMul, Nat.reduceSub, reduceCtorEq, Int.reduceEq]
    refine ⟨h, by simp, by simp [nl_Tag], ?_⟩
    refine T_fold [0] i 9 [4] ?_
    simp only [VS, VZ, TY, openC, foldC, foldN, PF, pick_or, pick_and, aop, aopD, rdN, wrN, idL, idA, apure, AS.ev, startA, strip, abin, aint, astr, alen, aslice, optI, aconv, aconvM, gdv, AS.put, ofVal, pcells, ld, ldo, nOw, PV.isOw, gtmp, within, astore, splice, afill, allCells, okIdx, asrc, aflat, aappend, hintOk, PV.clo, PV.clo1, ofL_n, ofL_c, nams, reO, reP, reA, reC, srcI, setG, obG, List.cons.injEq, aeq1, aeqs, onG, Int.reduceLE, Int.reduceNeg, Int.reduceLT, Nat.reduceEqDiff, ↓reduceIte, Nat.reduceLT, Nat.reduceLeDiff, Nat.reduceAdd, Nat.reduceMul, Nat.reduceSub, reduceCtorEq, Int.reduceEq]
    refine ⟨h, by simp, by simp [nl_Part], ?_⟩
    refine T_fold [0] i 10 [5] ?_
    simp only [VS, VZ, TY, openC, foldC, foldN, PF, pick_or, pick_and, aop, aopD, rdN, wrN, idL, idA, apure, AS.ev, startA, strip, abin, aint, astr, alen, aslice, optI, aconv, aconvM, gdv, AS.put, ofVal, pcells, ld, ldo, nOw, PV.isOw, gtmp, within, astore, splice, afill, allCells, okIdx, asrc, aflat, aappend, hintOk, PV.clo, PV.clo1, ofL_n, ofL_c, nams, reO, reP, reA, reC, srcI, setG, obG, List.cons.injEq, aeq1, aeqs, onG, Int.reduceLE, Int.reduceNeg, Int.reduceLT, Nat.reduceEqDiff, ↓reduceIte, Nat.reduceLT, Nat.reduceLeDiff, Nat.reduceAdd, Nat.reduceMul, Nat.reduceSub, reduceCtorEq, Int.reduceEq]
    refine ⟨h, by simp, by simp [nl_Tag], ?_⟩
    refine Told_go hn [[0]] (by simp [obsT, obT, okO, okP, okA, okC, okD, okI, reP, reA, reC, srcI, Nl_nil, Nl_cons, PV.nl, upd_at, ofL_n, ofL_c, VS, argsT, lendA, lendL, lendT, Cvl_nil, Cvl_cons, Cv_bool, Cv_int, Cv_str, Cv_nils, Cv_nilc, Cv_cl, Cv_ow, noFn, PV.noF, NR_iff, NRO, hb, ares, ares1, ldo, ld, nOw, PV.isOw, TY] <;> omega) ?_ ?_
    · simp only [obsT, obT, VS, VZ, TY, openC, foldC, foldN, PF, pick_or, pick_and, aop, aopD, rdN, wrN, idL, idA, apure, AS.ev, startA, strip, abin, aint, astr, alen, aslice, optI, aconv, aconvM, gdv, AS.put, ofVal, pcells, ld, ldo, nOw, PV.isOw, gtmp, within, astore, splice, afill, allCells, okIdx, asrc, aflat, aappend, hintOk, PV.clo, PV.clo1, ofL_n, ofL_c, nams, reO, reP, reA, reC, srcI, setG, obG, List.cons.injEq, aeq1, aeqs, onG, Int.reduceLE, Int.reduceNeg, Int.reduceLT, Nat.reduceEqDiff, ↓reduceIte, Nat.reduceLT, Nat.reduceLeDiff, Nat.reduceAdd, Nat.reduceMul, Nat.reduceSub, reduceCtorEq, Int.reduceEq]
      intro j hj
      by_cases q : j = i
      · subst q; simp [upto_eq, em, eo, obsT, obT, okO, okP, okA, okC, okD, okI, reP, reA, reC, srcI, Nl_nil, Nl_cons, PV.nl, upd_at, ofL_n, ofL_c, VS, argsT, lendA, lendL, lendT, Cvl_nil, Cvl_cons, Cv_bool, Cv_int, Cv_str, Cv_nils, Cv_nilc, Cv_cl, Cv_ow, noFn, PV.noF, NR_iff, NRO, hb, ares, ares1, ldo, ld, nOw, PV.isOw, TY]
      · simp [upto_ne q, q, Nl_upto, nl_Change, obsT, obT, okO, okP, okA, okC, okD, okI, reP, reA, reC, srcI, Nl_nil, Nl_cons, PV.nl, upd_at, ofL_n, ofL_c, VS, argsT, lendA, lendL, lendT, Cvl_nil, Cvl_cons, Cv_bool, Cv_int, Cv_str, Cv_nils, Cv_nilc, Cv_cl, Cv_ow, noFn, PV.noF, NR_iff, NRO, hb, ares, ares1, ldo, ld, nOw, PV.isOw, TY]
    · simp [Nl_upto, nl_Change, obsT, obT, okO, okP, okA, okC, okD, okI, reP, reA, reC, srcI, Nl_nil, Nl_cons, PV.nl, upd_at, ofL_n, ofL_c, VS, argsT, lendA, lendL, lendT, Cvl_nil, Cvl_cons, Cv_bool, Cv_int, Cv_str, Cv_nils, Cv_nilc, Cv_cl, Cv_ow, noFn, PV.noF, NR_iff, NRO, hb, ares, ares1, ldo, ld, nOw, PV.isOw, TY]
  · have : i = L.length := by omega
    subst this
    have hdec : decide ((L.length : Int) < (L.length : Int)) = false := by simp
    have hr : r = k := by simpa [cntChangeS] using hr
    refine vc_ok _ _ _ ?_
    simp only [hC, hdec, VS, VZ, TY, openC, foldC, foldN, PF, pick_or, pick_and, aop, aopD, rdN, wrN, idL, idA, apure, AS.ev, startA, strip, abin, aint, astr, alen, aslice, optI, aconv, aconvM, gdv, AS.put, ofVal, pcells, ld, ldo, nOw, PV.isOw, gtmp, within, astore, splice, afill, allCells, okIdx, asrc, aflat, aappend, hintOk, PV.clo, PV.clo1, ofL_n, ofL_c, nams, reO, reP, reA, reC, srcI, setG, obG, List.cons.injEq, aeq1, aeqs, onG, Int.reduceLE, Int.reduceNeg, Int.reduceLT, Nat.reduceEqDiff, ↓reduceIte, Nat.reduceLT, Nat.reduceLeDiff, Nat.reduceAdd, Nat.reduceMul, Nat.reduceSub, reduceCtorEq, Int.reduceEq]
    exact Ret_go [[0]] (by simp [hr, obsT, obT, okO, okP, okA, okC, okD, okI, reP, reA, reC, srcI, Nl_nil, Nl_cons, PV.nl, upd_at, ofL_n, ofL_c, VS, argsT, lendA, lendL, lendT, Cvl_nil, Cvl_cons, Cv_bool, Cv_int, Cv_str, Cv_nils, Cv_nilc, Cv_cl, Cv_ow, noFn, PV.noF, NR_iff, NRO, hb, ares, ares1, ldo, ld, nOw, PV.isOw, TY]) (by simp (config := {contextual := true}) [upto_lt, nl_Change, obsT, obT, okO, okP, okA, okC, okD, okI, reP, reA, reC, srcI, Nl_nil, Nl_cons, PV.nl, upd_at, ofL_n, ofL_c, VS, argsT, lendA, lendL, lendT, Cvl_nil, Cvl_cons, Cv_bool, Cv_int, Cv_str, Cv_nils, Cv_nilc, Cv_cl, Cv_ow, noFn, PV.noF, NR_iff, NRO, hb, ares, ares1, ldo, ld, nOw, PV.isOw, TY]) (by simp [nl_Change, obsT, obT, okO, okP, okA, okC, okD, okI, reP, reA, reC, srcI, Nl_nil, Nl_cons, PV.nl, upd_at, ofL_n, ofL_c, VS, argsT, lendA, lendL, lendT, Cvl_nil, Cvl_cons, Cv_bool, Cv_int, Cv_str, Cv_nils, Cv_nilc, Cv_cl, Cv_ow, noFn, PV.noF, NR_iff, NRO, hb, ares, ares1, ldo, ld, nOw, PV.isOw, TY])
end Go.Proofs.Ytppfogbgbpadiaa.Wd
namespace Go.Proofs.Ytppfogbgbpadiaa.Wd
open Go Go.RowKit Go.Proofs Go.Proofs.YtppfogbgbpadiaaW.AW
set_option linter.unusedVariables false
set_option linter.unusedSimpArgs false
set_option maxRecDepth 100000
def eqTsG (a b : List Tg) (i : Nat) : Bool := decide ((tg a i).k = (tg b i).k) && decide ((tg a i).v = (tg b i).v)
def eqTs (a b : List Tg) : Bool := decide (a.length = b.length) && allI (eqTsG a b) 0 a.length
theorem c_eqTs (a b : List Tg) (ha : a.length ≤ 1048576) (hb : b.length ≤ 1048576) : AC Try.prog 171 [.cl 2 a.length (lpv pTag a), .cl 2 b.length (lpv pTag b)] (ML []) (.bool (eqTs a b)) (ML []) := by
  refine AC.of Try.func171 rfl rfl (by simp [Try.ntmps171]) rfl (fun C hC hm => ?_)
  rw [Try.ntmps171] at hC
  have hn : C.m0.nx = _ := congrArg Mem.nx hm
  simp only [ML_nx, List.length_nil, List.length_cons, Nat.zero_add, Nat.reduceAdd] at hn
  simp only [hC, VS, VZ, TY, openC, foldC, foldN, PF, pick_or, pick_and, aop, aopD, rdN, wrN, idL, idA, apure, AS.ev, startA, strip, abin, aint, astr, alen, aslice, optI, aconv, aconvM, gdv, AS.put, ofVal, pcells, ld, ldo, nOw, PV.isOw, gtmp, within, astore, splice, afill, allCells, okIdx, asrc, aflat, aappend, hintOk, PV.clo, PV.clo1, ofL_n, ofL_c, nams, reO, reP, reA, reC, srcI, setG, obG, List.cons.injEq, aeq1, aeqs, onG, Int.reduceLE, Int.reduceNeg, Int.reduceLT, Nat.reduceEqDiff, ↓reduceIte, Nat.reduceLT, Nat.reduceLeDiff, Nat.reduceAdd, Nat.reduceMul, Nat.reduceSub, reduceCtorEq, Int.reduceEq]
  refine ⟨fun h => ?_, fun h => ?_⟩
  · have h : a.length ≠ b.length := by simp at h; omega
    exact Ret_go [] (by simp [eqTs, h, obsT, obT, okO, okP, okA, okC, okD, okI, reP, reA, reC, srcI, Nl_nil, Nl_cons, PV.nl, upd_at, ofL_n, ofL_c, VS, argsT, lendA, lendL, lendT, Cvl_nil, Cvl_cons, Cv_bool, Cv_int, Cv_str, Cv_nils, Cv_nilc, Cv_cl, Cv_ow, noFn, PV.noF, NR_iff, NRO, hb, ares, ares1, ldo, ld, nOw, PV.isOw, TY]) tS tS
  have h : a.length = b.length := by simp at h; omega
  have hE : eqTs a b = allI (eqTsG a b) 0 a.length := by simp [eqTs, h]
  rw [hE]
  refine AL.go (X := Nat) (fun i => ⟨ofL [(0, .cl 2 a.length (lpv pTag a)), (1, .cl 2 b.length (lpv pTag b)), (12, .int .i64 a.length), (13, .int .i64 (i : Int))], ML []⟩) (fun i => a.length - i) (fun i => i ≤ a.length ∧ allI (eqTsG a b) i (a.length - i) = allI (eqTsG a b) 0 a.length) 0 (by simp)
    (Told_go hn [] tS tS tS) (fun i hi => vc_ok _ _ _ ?_)
  obtain ⟨hi, hg⟩ := hi
  simp only [hC, VS, VZ, TY, openC, foldC, foldN, PF, pick_or, pick_and, aop, aopD, rdN, wrN, idL, idA, apure, AS.ev, startA, strip, abin, aint, astr, alen, aslice, optI, aconv, aconvM, gdv, AS.put, ofVal, pcells, ld, ldo, nOw, PV.isOw, gtmp, within, astore, splice, afill, allCells, okIdx, asrc, aflat, aappend, hintOk, PV.clo, PV.clo1, ofL_n, ofL_c, nams, reO, reP, reA, reC, srcI, setG, obG, List.cons.injEq, aeq1, aeqs, onG, Int.reduceLE, Int.reduceNeg, Int.reduceLT, Nat.reduceEqDiff, ↓reduceIte, Nat.reduceLT, Nat.reduceLeDiff, Nat.reduceAdd, Nat.reduceMul, Nat.reduceSub, reduceCtorEq, Int.reduceEq]
  refine ⟨fun h1 => ?_, fun h1 => ?_⟩
  · have h1 : i < a.length := by simpa using h1
    have ea : lpv pTag a i = pTag (tg a i) := tg_pv h1
    have eb : lpv pTag b i = pTag (tg b i) := tg_pv (by omega)
    rw [allI_step h1] at hg
    refine ⟨by kernel_rfl, by omega, ?_⟩
    simp only [ea, eb, pTag, VS, VZ, TY, openC, foldC, foldN, PF, pick_or, pick_and, aop, aopD, rdN, wrN, idL, idA, apure, AS.ev, startA, strip, abin, aint, astr, alen, aslice, optI, aconv, aconvM, gdv, AS.put, ofVal, pcells, ld, ldo, nOw, PV.isOw, gtmp, within, astore, splice, afill, allCells, okIdx, asrc, aflat, aappend, hintOk, PV.clo, PV.clo1, ofL_n, ofL_c, nams, reO, reP, reA, reC, srcI, setG, obG, List.cons.injEq, aeq1, aeqs, onG, Int.reduceLE, Int.reduceNeg, Int.reduceLT, Nat.reduceEqDiff, ↓reduceIte, Nat.reduceLT, Nat.reduceLeDiff, Nat.reduceAdd, Nat.reduceMul, Nat.reduceSub, reduceCtorEq, Int.reduceEq]
    simp (disch := omega) only [wr64]
    refine ⟨by omega, fun h2 => ?_, fun h2 => ?_⟩
    · have h2 : eqTsG a b i = false := by unfold eqTsG; first | simpa using h2 | (simp at h2 ⊢; exact fun q => h2.resolve_left (fun h => h q))
      rw [h2, Bool.false_and] at hg
      exact Ret_go [] (by simp [← hg, obsT, obT, okO, okP, okA, okC, okD, okI, reP, reA, reC, srcI, Nl_nil, Nl_cons, PV.nl, upd_at, ofL_n, ofL_c, VS, argsT, lendA, lendL, lendT, Cvl_nil, Cvl_cons, Cv_bool, Cv_int, Cv_str, Cv_nils, Cv_nilc, Cv_cl, Cv_ow, noFn, PV.noF, NR_iff, NRO, hb, ares, ares1, ldo, ld, nOw, PV.isOw, TY]) tS tS
    · have h2 : eqTsG a b i = true := by unfold eqTsG; simpa using h2
      rw [h2, Bool.true_and] at hg
      exact ⟨i + 1, ⟨by omega, hg⟩, by omega, Told_go hn [] tS tS tS⟩
  · have : i = a.length := by simp at h1; omega
    subst this
    rw [Nat.sub_self, allI] at hg
    exact Ret_go [] (by simp [← hg, obsT, obT, okO, okP, okA, okC, okD, okI, reP, reA, reC, srcI, Nl_nil, Nl_cons, PV.nl, upd_at, ofL_n, ofL_c, VS, argsT, lendA, lendL, lendT, Cvl_nil, Cvl_cons, Cv_bool, Cv_int, Cv_str, Cv_nils, Cv_nilc, Cv_cl, Cv_ow, noFn, PV.noF, NR_iff, NRO, hb, ares, ares1, ldo, ld, nOw, PV.isOw, TY]) tS tS
def eqIsG (a b : List Int) (i : Nat) : Bool := decide (it a i = it b i)
def eqIs (a b : List Int) : Bool := decide (a.length = b.length) && allI (eqIsG a b) 0 a.length
theorem c_eqIs (a b : List Int) (ha : a.length ≤ 1048576) (hb : b.length ≤ 1048576) : AC Try.prog 172 [.cl 1 a.length (lpv pInt64 a), .cl 1 b.length (lpv pInt64 b)] (ML []) (.bool (eqIs a b)) (ML []) := by
  refine AC.of Try.func172 rfl rfl (by simp [Try.ntmps172]) rfl (fun C hC hm => ?_)
  rw [Try.ntmps172] at hC
  have hn : C.m0.nx = _ := congrArg Mem.nx hm
  simp only [ML_nx, List.length_nil, List.length_cons, Nat.zero_add, Nat.reduceAdd] at hn
  simp only [hC, VS, VZ, TY, openC, foldC, foldN, PF, pick_or, pick_and, aop, aopD, rdN, wrN, idL, idA, apure, AS.ev, startA, strip, abin, aint, astr, alen, aslice, optI, aconv, aconvM, gdv, AS.put, ofVal, pcells, ld, ldo, nOw, PV.isOw, gtmp, within, astore, splice, afill, allCells, okIdx, asrc, aflat, aappend, hintOk, PV.clo, PV.clo1, ofL_n, ofL_c, nams, reO, reP, reA, reC, srcI, setG, obG, List.cons.injEq, aeq1, aeqs, onG, Int.reduceLE, Int.reduceNeg, Int.reduceLT, Nat.reduceEqDiff, ↓reduceIte, Nat.reduceLT, Nat.reduceLeDiff, Nat.reduceAdd, Nat.reduceMul, Nat.reduceSub, reduceCtorEq, Int.reduceEq]
  refine ⟨fun h => ?_, fun h => ?_⟩
  · have h : a.length ≠ b.length := by simp at h; omega
    exact Ret_go [] (by simp [eqIs, h, obsT, obT, okO, okP, okA, okC, okD, okI, reP, reA, reC, srcI, Nl_nil, Nl_cons, PV.nl, upd_at, ofL_n, ofL_c, VS, argsT, lendA, lendL, lendT, Cvl_nil, Cvl_cons, Cv_bool, Cv_int, Cv_str, Cv_nils, Cv_nilc, Cv_cl, Cv_ow, noFn, PV.noF, NR_iff, NRO, hb, ares, ares1, ldo, ld, nOw, PV.isOw, TY]) tS tS
  have h : a.length = b.length := by simp at h; omega
  have hE : eqIs a b = allI (eqIsG a b) 0 a.length := by simp [eqIs, h]
  rw [hE]
  refine AL.go (X := Nat) (fun i => ⟨ofL [(0, .cl 1 a.length (lpv pInt64 a)), (1, .cl 1 b.length (lpv pInt64 b)), (12, .int .i64 a.length), (13, .int .i64 (i : Int))], ML []⟩) (fun i => a.length - i) (fun i => i ≤ a.length ∧ allI (eqIsG a b) i (a.length - i) = allI (eqIsG a b) 0 a.length) 0 (by simp)
    (Told_go hn [] tS tS tS) (fun i hi => vc_ok _ _ _ ?_)
  obtain ⟨hi, hg⟩ := hi
  simp only [hC, VS, VZ, TY, openC, foldC, foldN, PF, pick_or, pick_and, aop, aopD, rdN, wrN, idL, idA, apure, AS.ev, startA, strip, abin, aint, astr, alen, aslice, optI, aconv, aconvM, gdv, AS.put, ofVal, pcells, ld, ldo, nOw, PV.isOw, gtmp, within, astore, splice, afill, allCells, okIdx, asrc, aflat, aappend, hintOk, PV.clo, PV.clo1, ofL_n, ofL_c, nams, reO, reP, reA, reC, srcI, setG, obG, List.cons.injEq, aeq1, aeqs, onG, Int.reduceLE, Int.reduceNeg, Int.reduceLT, Nat.reduceEqDiff, ↓reduceIte, Nat.reduceLT, Nat.reduceLeDiff, Nat.reduceAdd, Nat.reduceMul, Nat.reduceSub, reduceCtorEq, Int.reduceEq]
  refine ⟨fun h1 => ?_, fun h1 => ?_⟩
  · have h1 : i < a.length := by simpa using h1
    have ea : lpv pInt64 a i = pInt64 (it a i) := it_pv h1
    have eb : lpv pInt64 b i = pInt64 (it b i) := it_pv (by omega)
    rw [allI_step h1] at hg
    refine ⟨by kernel_rfl, by omega, ?_⟩
    simp only [ea, eb, pInt64, VS, VZ, TY, openC, foldC, foldN, PF, pick_or, pick_and, aop, aopD, rdN, wrN, idL, idA, apure, AS.ev, startA, strip, abin, aint, astr, alen, aslice, optI, aconv, aconvM, gdv, AS.put, ofVal, pcells, ld, ldo, nOw, PV.isOw, gtmp, within, astore, splice, afill, allCells, okIdx, asrc, aflat, aappend, hintOk, PV.clo, PV.clo1, ofL_n, ofL_c, nams, reO, reP, reA, reC, srcI, setG, obG, List.cons.injEq, aeq1, aeqs, onG, Int.reduceLE, Int.reduceNeg, Int.reduceLT, Nat.reduceEqDiff, ↓reduceIte, Nat.reduceLT, Nat.reduceLeDiff, Nat.reduceAdd, Nat.reduceMul, Nat.reduceSub, reduceCtorEq, Int.reduceEq]
    simp (disch := omega) only [wr64]
    refine ⟨by omega, fun h2 => ?_, fun h2 => ?_⟩
    · have h2 : eqIsG a b i = false := by unfold eqIsG; first | simpa using h2 | (simp at h2 ⊢; exact fun q => h2.resolve_left (fun h => h q))
      rw [h2, Bool.false_and] at hg
      exact Ret_go [] (by simp [← hg, obsT, obT, okO, okP, okA, okC, okD, okI, reP, reA, reC, srcI, Nl_nil, Nl_cons, PV.nl, upd_at, ofL_n, ofL_c, VS, argsT, lendA, lendL, lendT, Cvl_nil, Cvl_cons, Cv_bool, Cv_int, Cv_str, Cv_nils, Cv_nilc, Cv_cl, Cv_ow, noFn, PV.noF, NR_iff, NRO, hb, ares, ares1, ldo, ld, nOw, PV.isOw, TY]) tS tS
    · have h2 : eqIsG a b i = true := by unfold eqIsG; simpa using h2
      rw [h2, Bool.true_and] at hg
      exact ⟨i + 1, ⟨by omega, hg⟩, by omega, Told_go hn [] tS tS tS⟩
  · have : i = a.length := by simp at h1; omega
    subst this
    rw [Nat.sub_self, allI] at hg
    exact Ret_go [] (by simp [← hg, obsT, obT, okO, okP, okA, okC, okD, okI, reP, reA, reC, srcI, Nl_nil, Nl_cons, PV.nl, upd_at, ofL_n, ofL_c, VS, argsT, lendA, lendL, lendT, Cvl_nil, Cvl_cons, Cv_bool, Cv_int, Cv_str, Cv_nils, Cv_nilc, Cv_cl, Cv_ow, noFn, PV.noF, NR_iff, NRO, hb, ares, ares1, ldo, ld, nOw, PV.isOw, TY]) tS tS
def eqPsG (a b : List Pr) (i : Nat) : Bool := decide ((pr a i).way = (pr b i).way) && decide ((pr a i).inner = (pr b i).inner)
def eqPs (a b : List Pr) : Bool := decide (a.length = b.length) && allI (eqPsG a b) 0 a.length
theorem c_eqPs (a b : List Pr) (ha : a.length ≤ 1048576) (hb : b.length ≤ 1048576) : AC Try.prog 173 [.cl 2 a.length (lpv pPart a), .cl 2 b.length (lpv pPart b)] (ML []) (.bool (eqPs a b)) (ML []) := by
  refine AC.of Try.func173 rfl rfl (by simp [Try.ntmps173]) rfl (fun C hC hm => ?_)
  rw [Try.ntmps173] at hC
  have hn : C.m0.nx = _ := congrArg Mem.nx hm
  simp only [ML_nx, List.length_nil, List.length_cons, Nat.zero_add, Nat.reduceAdd] at hn
  simp only [hC, VS, VZ, TY, openC, foldC, foldN, PF, pick_or, pick_and, aop, aopD, rdN, wrN, idL, idA, apure, AS.ev, startA, strip, abin, aint, astr, alen, aslice, optI, aconv, aconvM, gdv, AS.put, ofVal, pcells, ld, ldo, nOw, PV.isOw, gtmp, within, astore, splice, afill, allCells, okIdx, asrc, aflat, aappend, hintOk, PV.clo, PV.clo1, ofL_n, ofL_c, nams, reO, reP, reA, reC, srcI, setG, obG, List.cons.injEq, aeq1, aeqs, onG, Int.reduceLE, Int.reduceNeg, Int.reduceLT, Nat.reduceEqDiff, ↓reduceIte, Nat.reduceLT, Nat.reduceLeDiff, Nat.reduceAdd, Nat.reduceMul, Nat.reduceSub, reduceCtorEq, Int.reduceEq]
  refine ⟨fun h => ?_, fun h => ?_⟩
  · have h : a.length ≠ b.length := by simp at h; omega
    exact Ret_go [] (by simp [eqPs, h, obsT, obT, okO, okP, okA, okC, okD, okI, reP, reA, reC, srcI, Nl_nil, Nl_cons, PV.nl, upd_at, ofL_n, ofL_c, VS, argsT, lendA, lendL, lendT, Cvl_nil, Cvl_cons, Cv_bool, Cv_int, Cv_str, Cv_nils, Cv_nilc, Cv_cl, Cv_ow, noFn, PV.noF, NR_iff, NRO, hb, ares, ares1, ldo, ld, nOw, PV.isOw, TY]) tS tS
  have h : a.length = b.length := by simp at h; omega
  have hE : eqPs a b = allI (eqPsG a b) 0 a.length := by simp [eqPs, h]
  rw [hE]
  refine AL.go (X := Nat) (fun i => ⟨ofL [(0, .cl 2 a.length (lpv pPart a)), (1, .cl 2 b.length (lpv pPart b)), (12, .int .i64 a.length), (13, .int .i64 (i : Int))], ML []⟩) (fun i => a.length - i) (fun i => i ≤ a.length ∧ allI (eqPsG a b) i (a.length - i) = allI (eqPsG a b) 0 a.length) 0 (by simp)
    (Told_go hn [] tS tS tS) (fun i hi => vc_ok _ _ _ ?_)
  obtain ⟨hi, hg⟩ := hi
  simp only [hC, VS, VZ, TY, openC, foldC, foldN, PF, pick_or, pick_and, aop, aopD, rdN, wrN, idL, idA, apure, AS.ev, startA, strip, abin, aint, astr, alen, aslice, optI, aconv, aconvM, gdv, AS.put, ofVal, pcells, ld, ldo, nOw, PV.isOw, gtmp, within, astore, splice, afill, allCells, okIdx, asrc, aflat, aappend, hintOk, PV.clo, PV.clo1, ofL_n, ofL_c, nams, reO, reP, reA, reC, srcI, setG, obG, List.cons.injEq, aeq1, aeqs, onG, Int.reduceLE, Int.reduceNeg, Int.reduceLT, Nat.reduceEqDiff, ↓reduceIte, Nat.reduceLT, Nat.reduceLeDiff, Nat.reduceAdd, Nat.reduceMul, Nat.reduceSub, reduceCtorEq, Int.reduceEq]
  refine ⟨fun h1 => ?_, fun h1 => ?_⟩
  · have h1 : i < a.length := by simpa using h1
    have ea : lpv pPart a i = pPart (pr a i) := pr_pv h1
    have eb : lpv pPart b i = pPart (pr b i) := pr_pv (by omega)
    rw [allI_step h1] at hg
    refine ⟨by kernel_rfl, by omega, ?_⟩
    simp only [ea, eb, pPart, VS, VZ, TY, openC, foldC, foldN, PF, pick_or, pick_and, aop, aopD, rdN, wrN, idL, idA, apure, AS.ev, startA, strip, abin, aint, astr, alen, aslice, optI, aconv, aconvM, gdv, AS.put, ofVal, pcells, ld, ldo, nOw, PV.isOw, gtmp, within, astore, splice, afill, allCells, okIdx, asrc, aflat, aappend, hintOk, PV.clo, PV.clo1, ofL_n, ofL_c, nams, reO, reP, reA, reC, srcI, setG, obG, List.cons.injEq, aeq1, aeqs, onG, Int.reduceLE, Int.reduceNeg, Int.reduceLT, Nat.reduceEqDiff, ↓reduceIte, Nat.reduceLT, Nat.reduceLeDiff, Nat.reduceAdd, Nat.reduceMul, Nat.reduceSub, reduceCtorEq, Int.reduceEq]
    simp (disch := omega) only [wr64]
    refine ⟨by omega, fun h2 => ?_, fun h2 => ?_⟩
    · have h2 : eqPsG a b i = false := by unfold eqPsG; first | simpa using h2 | (simp at h2 ⊢; exact fun q => h2.resolve_left (fun h => h q))
      rw [h2, Bool.false_and] at hg
      exact Ret_go [] (by simp [← hg, obsT, obT, okO, okP, okA, okC, okD, okI, reP, reA, reC, srcI, Nl_nil, Nl_cons, PV.nl, upd_at, ofL_n, ofL_c, VS, argsT, lendA, lendL, lendT, Cvl_nil, Cvl_cons, Cv_bool, Cv_int, Cv_str, Cv_nils, Cv_nilc, Cv_cl, Cv_ow, noFn, PV.noF, NR_iff, NRO, hb, ares, ares1, ldo, ld, nOw, PV.isOw, TY]) tS tS
    · have h2 : eqPsG a b i = true := by unfold eqPsG; simpa using h2
      rw [h2, Bool.true_and] at hg
      exact ⟨i + 1, ⟨by omega, hg⟩, by omega, Told_go hn [] tS tS tS⟩
  · have : i = a.length := by simp at h1; omega
    subst this
    rw [Nat.sub_self, allI] at hg
    exact Ret_go [] (by simp [← hg, obsT, obT, okO, okP, okA, okC, okD, okI, reP, reA, reC, srcI, Nl_nil, Nl_cons, PV.nl, upd_at, ofL_n, ofL_c, VS, argsT, lendA, lendL, lendT, Cvl_nil, Cvl_cons, Cv_bool, Cv_int, Cv_str, Cv_nils, Cv_nilc, Cv_cl, Cv_ow, noFn, PV.noF, NR_iff, NRO, hb, ares, ares1, ldo, ld, nOw, PV.isOw, TY]) tS tS
end Go.Proofs.Ytppfogbgbpadiaa.Wd
namespace Go.Proofs.Ytppfogbgbpadiaa.Wd
open Go Go.RowKit Go.Proofs Go.Proofs.YtppfogbgbpadiaaW.AW
set_option linter.unusedVariables false
set_option linter.unusedSimpArgs false
set_option maxRecDepth 100000
def sameN (x y : Nd) : Bool := (decide (x.id = y.id) && (decide (x.p.1 = y.p.1) && decide (x.p.2 = y.p.2))) && eqTs x.tags y.tags
def sameW (x y : Wy) : Bool := (decide (x.id = y.id) && eqIs x.nodes y.nodes) && eqTs x.tags y.tags
def sameA (x y : Ar) : Bool := (decide (x.id = y.id) && eqPs x.parts y.parts) && eqTs x.tags y.tags
theorem ci_sameNode (x y : Nd) (hx : x.tags.length ≤ 1048576) (hy : y.tags.length ≤ 1048576) : AC Try.prog 114 [.ag (cNode x), .ag (cNode y)] (ML []) (.bool (sameN x y)) (ML []) := by
  refine AC.of Try.func114 rfl rfl (by simp [Try.ntmps114]) rfl (fun C hC hm => ?_)
  rw [Try.ntmps114] at hC
  have hn : C.m0.nx = _ := congrArg Mem.nx hm
  simp only [ML_nx, List.length_nil, List.length_cons, Nat.zero_add, Nat.reduceAdd] at hn
  simp only [hC, cNode, VS, VZ, TY, openC, foldC, foldN, PF, pick_or, pick_and, aop, aopD, rdN, wrN, idL, idA, apure, AS.ev, startA, strip, abin, aint, astr, alen, aslice, optI, aconv, aconvM, gdv, AS.put, ofVal, pcells, ld, ldo, nOw, PV.isOw, gtmp, within, astore, splice, afill, allCells, okIdx, asrc, aflat, aappend, hintOk, PV.clo, PV.clo1, ofL_n, ofL_c, nams, reO, reP, reA, reC, srcI, setG, obG, List.cons.injEq, aeq1, aeqs, onG, Int.reduceLE, Int.reduceNeg, Int.reduceLT, Nat.reduceEqDiff, ↓reduceIte, Nat.reduceLT, Nat.reduceLeDiff, Nat.reduceAdd, Nat.reduceMul, Nat.reduceSub, reduceCtorEq, Int.reduceEq]
  refine acall_p false (c_eqTs x.tags y.tags hx hy) (by simp [cv_Tag, obsT, obT, okO, okP, okA, okC, okD, okI, reP, reA, reC, srcI, Nl_nil, Nl_cons, PV.nl, upd_at, ofL_n, ofL_c, VS, argsT, lendA, lendL, lendT, Cvl_nil, Cvl_cons, Cv_bool, Cv_int, Cv_str, Cv_nils, Cv_nilc, Cv_cl, Cv_ow, noFn, PV.noF, NR_iff, NRO, hb, ares, ares1, ldo, ld, nOw, PV.isOw, TY]) tS (.inl rfl) ?_
  simp only [hC, cNode, VS, VZ, TY, openC, foldC, foldN, PF, pick_or, pick_and, aop, aopD, rdN, wrN, idL, idA, apure, AS.ev, startA, strip, abin, aint, astr, alen, aslice, optI, aconv, aconvM, gdv, AS.put, ofVal, pcells, ld, ldo, nOw, PV.isOw, gtmp, within, astore, splice, afill, allCells, okIdx, asrc, aflat, aappend, hintOk, PV.clo, PV.clo1, ofL_n, ofL_c, nams, reO, reP, reA, reC, srcI, setG, obG, List.cons.injEq, aeq1, aeqs, onG, Int.reduceLE, Int.reduceNeg, Int.reduceLT, Nat.reduceEqDiff, ↓reduceIte, Nat.reduceLT, Nat.reduceLeDiff, Nat.reduceAdd, Nat.reduceMul, Nat.reduceSub, reduceCtorEq, Int.reduceEq]
  exact Ret_go [] (by simp [sameN, Bool.and_assoc, obsT, obT, okO, okP, okA, okC, okD, okI, reP, reA, reC, srcI, Nl_nil, Nl_cons, PV.nl, upd_at, ofL_n, ofL_c, VS, argsT, lendA, lendL, lendT, Cvl_nil, Cvl_cons, Cv_bool, Cv_int, Cv_str, Cv_nils, Cv_nilc, Cv_cl, Cv_ow, noFn, PV.noF, NR_iff, NRO, hb, ares, ares1, ldo, ld, nOw, PV.isOw, TY]) tS tS
theorem ci_sameWay (x y : Wy) (hx : x.tags.length ≤ 1048576) (hy : y.tags.length ≤ 1048576) (hx2 : x.nodes.length ≤ 1048576) (hy2 : y.nodes.length ≤ 1048576) : AC Try.prog 115 [.ag (cWay x), .ag (cWay y)] (ML []) (.bool (sameW x y)) (ML []) := by
  refine AC.of Try.func115 rfl rfl (by simp [Try.ntmps115]) rfl (fun C hC hm => ?_)
  rw [Try.ntmps115] at hC
  have hn : C.m0.nx = _ := congrArg Mem.nx hm
  simp only [ML_nx, List.length_nil, List.length_cons, Nat.zero_add, Nat.reduceAdd] at hn
  simp only [hC, cWay, VS, VZ, TY, openC, foldC, foldN, PF, pick_or, pick_and, aop, aopD, rdN, wrN, idL, idA, apure, AS.ev, startA, strip, abin, aint, astr, alen, aslice, optI, aconv, aconvM, gdv, AS.put, ofVal, pcells, ld, ldo, nOw, PV.isOw, gtmp, within, astore, splice, afill, allCells, okIdx, asrc, aflat, aappend, hintOk, PV.clo, PV.clo1, ofL_n, ofL_c, nams, reO, reP, reA, reC, srcI, setG, obG, List.cons.injEq, aeq1, aeqs, onG, Int.reduceLE, Int.reduceNeg, Int.reduceLT, Nat.reduceEqDiff, ↓reduceIte, Nat.reduceLT, Nat.reduceLeDiff, Nat.reduceAdd, Nat.reduceMul, Nat.reduceSub, reduceCtorEq, Int.reduceEq]
  refine acall_p false (c_eqIs x.nodes y.nodes hx2 hy2) (by simp [cv_Int64, obsT, obT, okO, okP, okA, okC, okD, okI, reP, reA, reC, srcI, Nl_nil, Nl_cons, PV.nl, upd_at, ofL_n, ofL_c, VS, argsT, lendA, lendL, lendT, Cvl_nil, Cvl_cons, Cv_bool, Cv_int, Cv_str, Cv_nils, Cv_nilc, Cv_cl, Cv_ow, noFn, PV.noF, NR_iff, NRO, hb, ares, ares1, ldo, ld, nOw, PV.isOw, TY]) tS (.inl rfl) ?_
  simp only [hC, cWay, VS, VZ, TY, openC, foldC, foldN, PF, pick_or, pick_and, aop, aopD, rdN, wrN, idL, idA, apure, AS.ev, startA, strip, abin, aint, astr, alen, aslice, optI, aconv, aconvM, gdv, AS.put, ofVal, pcells, ld, ldo, nOw, PV.isOw, gtmp, within, astore, splice, afill, allCells, okIdx, asrc, aflat, aappend, hintOk, PV.clo, PV.clo1, ofL_n, ofL_c, nams, reO, reP, reA, reC, srcI, setG, obG, List.cons.injEq, aeq1, aeqs, onG, Int.reduceLE, Int.reduceNeg, Int.reduceLT, Nat.reduceEqDiff, ↓reduceIte, Nat.reduceLT, Nat.reduceLeDiff, Nat.reduceAdd, Nat.reduceMul, Nat.reduceSub, reduceCtorEq, Int.reduceEq]
  refine acall_p false (c_eqTs x.tags y.tags hx hy) (by simp [cv_Tag, obsT, obT, okO, okP, okA, okC, okD, okI, reP, reA, reC, srcI, Nl_nil, Nl_cons, PV.nl, upd_at, ofL_n, ofL_c, VS, argsT, lendA, lendL, lendT, Cvl_nil, Cvl_cons, Cv_bool, Cv_int, Cv_str, Cv_nils, Cv_nilc, Cv_cl, Cv_ow, noFn, PV.noF, NR_iff, NRO, hb, ares, ares1, ldo, ld, nOw, PV.isOw, TY]) tS (.inl rfl) ?_
  simp only [hC, cWay, VS, VZ, TY, openC, foldC, foldN, PF, pick_or, pick_and, aop, aopD, rdN, wrN, idL, idA, apure, AS.ev, startA, strip, abin, aint, astr, alen, aslice, optI, aconv, aconvM, gdv, AS.put, ofVal, pcells, ld, ldo, nOw, PV.isOw, gtmp, within, astore, splice, afill, allCells, okIdx, asrc, aflat, aappend, hintOk, PV.clo, PV.clo1, ofL_n, ofL_c, nams, reO, reP, reA, reC, srcI, setG, obG, List.cons.injEq, aeq1, aeqs, onG, Int.reduceLE, Int.reduceNeg, Int.reduceLT, Nat.reduceEqDiff, ↓reduceIte, Nat.reduceLT, Nat.reduceLeDiff, Nat.reduceAdd, Nat.reduceMul, Nat.reduceSub, reduceCtorEq, Int.reduceEq]
  exact Ret_go [] (by simp [sameW, Bool.and_assoc, obsT, obT, okO, okP, okA, okC, okD, okI, reP, reA, reC, srcI, Nl_nil, Nl_cons, PV.nl, upd_at, ofL_n, ofL_c, VS, argsT, lendA, lendL, lendT, Cvl_nil, Cvl_cons, Cv_bool, Cv_int, Cv_str, Cv_nils, Cv_nilc, Cv_cl, Cv_ow, noFn, PV.noF, NR_iff, NRO, hb, ares, ares1, ldo, ld, nOw, PV.isOw, TY]) tS tS
theorem ci_sameArea (x y : Ar) (hx : x.tags.length ≤ 1048576) (hy : y.tags.length ≤ 1048576) (hx2 : x.parts.length ≤ 1048576) (hy2 : y.parts.length ≤ 1048576) : AC Try.prog 116 [.ag (cArea x), .ag (cArea y)] (ML []) (.bool (sameA x y)) (ML []) := by
  refine AC.of Try.func116 rfl rfl (by simp [Try.ntmps116]) rfl (fun C hC hm => ?_)
  rw [Try.ntmps116] at hC
  have hn : C.m0.nx = _ := congrArg Mem.nx hm
  simp only [ML_nx, List.length_nil, List.length_cons, Nat.zero_add, Nat.reduceAdd] at hn
  simp only [hC, cArea, VS, VZ, TY, openC, foldC, foldN, PF, pick_or, pick_and, aop, aopD, rdN, wrN, idL, idA, apure, AS.ev, startA, strip, abin, aint, astr, alen, aslice, optI, aconv, aconvM, gdv, AS.put, ofVal, pcells, ld, ldo, nOw, PV.isOw, gtmp, within, astore, splice, afill, allCells, okIdx, asrc, aflat, aappend, hintOk, PV.clo, PV.clo1, ofL_n, ofL_c, nams, reO, reP, reA, reC, srcI, setG, obG, List.cons.injEq, aeq1, aeqs, onG, Int.reduceLE, Int.reduceNeg, Int.reduceLT, Nat.reduceEqDiff, ↓reduceIte, Nat.reduceLT, Nat.reduceLeDiff, Nat.reduceAdd, Nat.reduceMul, Nat.reduceSub, reduceCtorEq, Int.reduceEq]
  refine acall_p false (c_eqPs x.parts y.parts hx2 hy2) (by simp [cv_Part, obsT, obT, okO, okP, okA, okC, okD, okI, reP, reA, reC, srcI, Nl_nil, Nl_cons, PV.nl, upd_at, ofL_n, ofL_c, VS, argsT, lendA, lendL, lendT, Cvl_nil, Cvl_cons, Cv_bool, Cv_int, Cv_str, Cv_nils, Cv_nilc, Cv_cl, Cv_ow, noFn, PV.noF, NR_iff, NRO, hb, ares, ares1, ldo, ld, nOw, PV.isOw, TY]) tS (.inl rfl) ?_
  simp only [hC, cArea, VS, VZ, TY, openC, foldC, foldN, PF, pick_or, pick_and, aop, aopD, rdN, wrN, idL, idA, apure, AS.ev, startA, strip, abin, aint, astr, alen, aslice, optI, aconv, aconvM, gdv, AS.put, ofVal, pcells, ld, ldo, nOw, PV.isOw, gtmp, within, astore, splice, afill, allCells, okIdx, asrc, aflat, aappend, hintOk, PV.clo, PV.clo1, ofL_n, ofL_c, nams, reO, reP, reA, reC, srcI, setG, obG, List.cons.injEq, aeq1, aeqs, onG, Int.reduceLE, Int.reduceNeg, Int.reduceLT, Nat.reduceEqDiff, ↓reduceIte, Nat.reduceLT, Nat.reduceLeDiff, Nat.reduceAdd, Nat.reduceMul, Nat.reduceSub, reduceCtorEq, Int.reduceEq]
  refine acall_p false (c_eqTs x.tags y.tags hx hy) (by simp [cv_Tag, obsT, obT, okO, okP, okA, okC, okD, okI, reP, reA, reC, srcI, Nl_nil, Nl_cons, PV.nl, upd_at, ofL_n, ofL_c, VS, argsT, lendA, lendL, lendT, Cvl_nil, Cvl_cons, Cv_bool, Cv_int, Cv_str, Cv_nils, Cv_nilc, Cv_cl, Cv_ow, noFn, PV.noF, NR_iff, NRO, hb, ares, ares1, ldo, ld, nOw, PV.isOw, TY]) tS (.inl rfl) ?_
  simp only [hC, cArea, VS, VZ, TY, openC, foldC, foldN, PF, pick_or, pick_and, aop, aopD, rdN, wrN, idL, idA, apure, AS.ev, startA, strip, abin, aint, astr, alen, aslice, optI, aconv, aconvM, gdv, AS.put, ofVal, pcells, ld, ldo, nOw, PV.isOw, gtmp, within, astore, splice, afill, allCells, okIdx, asrc, aflat, aappend, hintOk, PV.clo, PV.clo1, ofL_n, ofL_c, nams, reO, reP, reA, reC, srcI, setG, obG, List.cons.injEq, aeq1, aeqs, onG, Int.reduceLE, Int.reduceNeg, Int.reduceLT, Nat.reduceEqDiff, ↓reduceIte, Nat.reduceLT, Nat.reduceLeDiff, Nat.reduceAdd, Nat.reduceMul, Nat.reduceSub, reduceCtorEq, Int.reduceEq]
  exact Ret_go [] (by simp [sameA, Bool.and_assoc, obsT, obT, okO, okP, okA, okC, okD, okI, reP, reA, reC, srcI, Nl_nil, Nl_cons, PV.nl, upd_at, ofL_n, ofL_c, VS, argsT, lendA, lendL, lendT, Cvl_nil, Cvl_cons, Cv_bool, Cv_int, Cv_str, Cv_nils, Cv_nilc, Cv_cl, Cv_ow, noFn, PV.noF, NR_iff, NRO, hb, ares, ares1, ldo, ld, nOw, PV.isOw, TY]) tS tS
def nd0 : Nd := ⟨0, (0, 0), []⟩
def wy0 : Wy := ⟨0, [], []⟩
def ar0 : Ar := ⟨0, [], []⟩
end Go.Proofs.Ytppfogbgbpadiaa.Wd
namespace Go.Proofs.Ytppfogbgbpadiaa.Wd
open Go Go.RowKit Go.Proofs Go.Proofs.YtppfogbgbpadiaaW.AW
set_option linter.unusedVariables false
set_option linter.unusedSimpArgs false
set_option maxRecDepth 100000
def aids (m : Mp) : List Int := m.areas.map (·.id)
theorem aids_at {m : Mp} {i : Nat} (h : i < m.areas.length) : it (aids m) i = (ar m.areas i).id := by rw [it_at (by simpa [aids] using h), ar_at h]; simp [aids]
theorem lpv_nil {X : Type} (pv : X → List PV) : lpv pv [] = fun _ => [] := rfl
theorem asc_of {f : Nat → Int} {n : Nat} (st : ∀ j, 0 < j → j < n → f (j - 1) < f j) : ∀ i j, i < j → j < n → f i < f j := by
  intro i j h1
  induction j with
  | zero => omega
  | succ j ih =>
    intro h2
    have := st (j + 1) (by omega) h2
    rw [Nat.add_sub_cancel] at this
    by_cases q : i = j
    · subst q; exact this
    · have := ih (by omega) (by omega); omega
theorem map_sortedW {m : Mp} (h : mapB m = true) : ∀ i j, i < j → j < m.ways.length → (wy m.ways i).id < (wy m.ways j).id := by
  simp only [mapB, Bool.and_eq_true, allI_iff] at h
  refine asc_of (f := fun i => (wy m.ways i).id) (fun j h1 h2 => ?_)
  have := h.1.2 j (by omega) (by omega)
  simp only [wayG, Bool.and_eq_true, Bool.or_eq_true, decide_eq_true_eq] at this
  exact this.2.resolve_left (by omega)
theorem map_sortedA {m : Mp} (h : mapB m = true) : ∀ i j, i < j → j < m.areas.length → (ar m.areas i).id < (ar m.areas j).id := by
  simp only [mapB, Bool.and_eq_true, allI_iff] at h
  refine asc_of (f := fun i => (ar m.areas i).id) (fun j h1 h2 => ?_)
  have := h.2 j (by omega) (by omega)
  simp only [areaG, Bool.and_eq_true, Bool.or_eq_true, decide_eq_true_eq] at this
  exact this.2.resolve_left (by omega)
theorem ix_it {l : List Int} {x : Int} (h : x ∈ l) : it l (ix l x).toNat = x := by
  obtain ⟨k, hk, e⟩ := mem_it.1 h
  unfold ix
  cases hf : l.findIdx? (· == x) with
  | none =>
    rw [List.findIdx?_eq_none_iff] at hf
    have := hf x h
    simp at this
  | some i =>
    rw [List.findIdx?_eq_some_iff_getElem] at hf
    obtain ⟨h1, h2, _⟩ := hf
    have h2 : l[i] = x := by simpa using h2
    simp only [Int.toNat_natCast]
    rw [it_at h1]; exact h2
/-- Where ids ascend, an id's place is its own. -/
theorem ix_asc {l : List Int} (hs : ∀ i j, i < j → j < l.length → it l i < it l j) {i : Nat} (hi : i < l.length) : ix l (it l i) = i :=
  ix_some hi rfl (fun j hj => by have := hs j i hj hi; omega)
def nodeAt (m : Mp) (x : Int) : Nd := nd m.nodes (ix (nids m) x).toNat
def wayAt (m : Mp) (x : Int) : Wy := wy m.ways (ix (wids m) x).toNat
def areaAt (m : Mp) (x : Int) : Ar := ar m.areas (ix (aids m) x).toNat
theorem nodeAt_id {m : Mp} {x : Int} (h : x ∈ nids m) : (nodeAt m x).id = x := by
  have h1 := (ix_nat h).2
  have := ix_it h
  rw [nids_at (by simpa [nids] using h1)] at this; exact this
theorem wayAt_id {m : Mp} {x : Int} (h : x ∈ wids m) : (wayAt m x).id = x := by
  have h1 := (ix_nat h).2
  have := ix_it h
  rw [wids_at (by simpa [wids] using h1)] at this; exact this
theorem areaAt_id {m : Mp} {x : Int} (h : x ∈ aids m) : (areaAt m x).id = x := by
  have h1 := (ix_nat h).2
  have := ix_it h
  rw [aids_at (by simpa [aids] using h1)] at this; exact this
theorem nodeAt_i {m : Mp} (h : mapB m = true) {i : Nat} (hi : i < m.nodes.length) : nodeAt m (nd m.nodes i).id = nd m.nodes i := by
  have hl : (nids m).length = m.nodes.length := by simp [nids]
  have := ix_asc (l := nids m) (fun i j h1 h2 => by rw [nids_at (by omega), nids_at (by omega)]; exact map_sorted h i j h1 (by omega)) (i := i) (by omega)
  rw [nids_at hi] at this
  simp [nodeAt, this]
theorem wayAt_i {m : Mp} (h : mapB m = true) {i : Nat} (hi : i < m.ways.length) : wayAt m (wy m.ways i).id = wy m.ways i := by
  have hl : (wids m).length = m.ways.length := by simp [wids]
  have := ix_asc (l := wids m) (fun i j h1 h2 => by rw [wids_at (by omega), wids_at (by omega)]; exact map_sortedW h i j h1 (by omega)) (i := i) (by omega)
  rw [wids_at hi] at this
  simp [wayAt, this]
theorem areaAt_i {m : Mp} (h : mapB m = true) {i : Nat} (hi : i < m.areas.length) : areaAt m (ar m.areas i).id = ar m.areas i := by
  have hl : (aids m).length = m.areas.length := by simp [aids]
  have := ix_asc (l := aids m) (fun i j h1 h2 => by rw [aids_at (by omega), aids_at (by omega)]; exact map_sortedA h i j h1 (by omega)) (i := i) (by omega)
  rw [aids_at hi] at this
  simp [areaAt, this]
theorem allI_congr {f g : Nat → Bool} : ∀ (d i : Nat), (∀ j, i ≤ j → j < i + d → f j = g j) → allI f i d = allI g i d
  | 0, _, _ => rfl
  | d + 1, i, h => by rw [allI, allI, h i (by omega) (by omega), allI_congr d (i + 1) (fun j h1 h2 => h j (by omega) (by omega))]
theorem dec_comm {α : Type} [DecidableEq α] (a b : α) : decide (a = b) = decide (b = a) := by rw [decide_eq_decide]; exact eq_comm
theorem eqTs_comm (a b : List Tg) : eqTs a b = eqTs b a := by
  unfold eqTs
  rw [dec_comm a.length b.length]
  by_cases h : b.length = a.length
  · rw [h]; congr 1; exact allI_congr _ _ (fun j _ _ => by simp only [eqTsG]; rw [dec_comm (tg a j).k, dec_comm (tg a j).v])
  · simp [h]
theorem eqIs_comm (a b : List Int) : eqIs a b = eqIs b a := by
  unfold eqIs
  rw [dec_comm a.length b.length]
  by_cases h : b.length = a.length
  · rw [h]; congr 1; exact allI_congr _ _ (fun j _ _ => by simp only [eqIsG]; rw [dec_comm (it a j)])
  · simp [h]
theorem eqPs_comm (a b : List Pr) : eqPs a b = eqPs b a := by
  unfold eqPs
  rw [dec_comm a.length b.length]
  by_cases h : b.length = a.length
  · rw [h]; congr 1; exact allI_congr _ _ (fun j _ _ => by simp only [eqPsG]; rw [dec_comm (pr a j).way, dec_comm (pr a j).inner])
  · simp [h]
/-- What is new, or not as it was. -/
def newN (a : Mp) (x : Nd) : Bool := !(decide (x.id ∈ nids a) && sameN x (nodeAt a x.id))
def newW (a : Mp) (x : Wy) : Bool := !(decide (x.id ∈ wids a) && sameW x (wayAt a x.id))
def newA (a : Mp) (x : Ar) : Bool := !(decide (x.id ∈ aids a) && sameA x (areaAt a x.id))
def goneN (b : Mp) (x : Nd) : Bool := !decide (x.id ∈ nids b)
def goneW (b : Mp) (x : Wy) : Bool := !decide (x.id ∈ wids b)
def goneA (b : Mp) (x : Ar) : Bool := !decide (x.id ∈ aids b)
def chN (x : Nd) : Ch := ⟨1, x, wy0, ar0, 0⟩
def chW (x : Wy) : Ch := ⟨2, nd0, x, ar0, 0⟩
def chA (x : Ar) : Ch := ⟨4, nd0, wy0, x, 0⟩
def chC (k : Int) (i : Int) : Ch := ⟨k, nd0, wy0, ar0, i⟩
def df1 (a b : Mp) (i : Nat) : List Ch := ((b.nodes.take i).filter (newN a)).map chN
def df2 (a b : Mp) (i : Nat) : List Ch := df1 a b b.nodes.length ++ ((b.ways.take i).filter (newW a)).map chW
def df3 (a b : Mp) (i : Nat) : List Ch := df2 a b b.ways.length ++ ((a.areas.take i).filter (goneA b)).map (fun x => chC 3 x.id)
def df4 (a b : Mp) (i : Nat) : List Ch := df3 a b a.areas.length ++ ((b.areas.take i).filter (newA a)).map chA
def df5 (a b : Mp) (i : Nat) : List Ch := df4 a b b.areas.length ++ ((a.ways.take i).filter (goneW b)).map (fun x => chC 5 x.id)
def df6 (a b : Mp) (i : Nat) : List Ch := df5 a b a.ways.length ++ ((a.nodes.take i).filter (goneN b)).map (fun x => chC 6 x.id)
def diff (a b : Mp) : List Ch := if mapB a = true ∧ mapB b = true then df6 a b a.nodes.length else []
theorem fm_step {α β : Type} (f : α → Bool) (g : α → β) {l : List α} {i : Nat} (h : i < l.length) : ((l.take (i + 1)).filter f).map g = ((l.take i).filter f).map g ++ (if f l[i] = true then [g l[i]] else []) := by
  rw [filter_step f h, List.map_append]; congr 1; split <;> rfl
theorem df1_0 (a b : Mp) : df1 a b 0 = [] := rfl
theorem df2_0 (a b : Mp) : df2 a b 0 = df1 a b b.nodes.length := by simp [df2]
theorem df3_0 (a b : Mp) : df3 a b 0 = df2 a b b.ways.length := by simp [df3]
theorem df4_0 (a b : Mp) : df4 a b 0 = df3 a b a.areas.length := by simp [df4]
theorem df5_0 (a b : Mp) : df5 a b 0 = df4 a b b.areas.length := by simp [df5]
theorem df6_0 (a b : Mp) : df6 a b 0 = df5 a b a.ways.length := by simp [df6]
theorem df1_s {a b : Mp} {i : Nat} (h : i < b.nodes.length) : df1 a b (i + 1) = df1 a b i ++ (if newN a (nd b.nodes i) = true then [chN (nd b.nodes i)] else []) := by rw [nd_at h]; exact fm_step _ _ h
theorem df2_s {a b : Mp} {i : Nat} (h : i < b.ways.length) : df2 a b (i + 1) = df2 a b i ++ (if newW a (wy b.ways i) = true then [chW (wy b.ways i)] else []) := by rw [wy_at h, df2, df2, fm_step _ _ h, List.append_assoc]
theorem df3_s {a b : Mp} {i : Nat} (h : i < a.areas.length) : df3 a b (i + 1) = df3 a b i ++ (if goneA b (ar a.areas i) = true then [chC 3 (ar a.areas i).id] else []) := by rw [ar_at h, df3, df3, fm_step _ _ h, List.append_assoc]
theorem df4_s {a b : Mp} {i : Nat} (h : i < b.areas.length) : df4 a b (i + 1) = df4 a b i ++ (if newA a (ar b.areas i) = true then [chA (ar b.areas i)] else []) := by rw [ar_at h, df4, df4, fm_step _ _ h, List.append_assoc]
theorem df5_s {a b : Mp} {i : Nat} (h : i < a.ways.length) : df5 a b (i + 1) = df5 a b i ++ (if goneW b (wy a.ways i) = true then [chC 5 (wy a.ways i).id] else []) := by rw [wy_at h, df5, df5, fm_step _ _ h, List.append_assoc]
theorem df6_s {a b : Mp} {i : Nat} (h : i < a.nodes.length) : df6 a b (i + 1) = df6 a b i ++ (if goneN b (nd a.nodes i) = true then [chC 6 (nd a.nodes i).id] else []) := by rw [nd_at h, df6, df6, fm_step _ _ h, List.append_assoc]
theorem fml {α β : Type} (f : α → Bool) (g : α → β) (l : List α) (i : Nat) : (((l.take i).filter f).map g).length ≤ l.length := by
  rw [List.length_map]; exact Nat.le_trans (List.length_filter_le _ _) (by rw [List.length_take]; omega)
theorem df1_l (a b : Mp) (i : Nat) : (df1 a b i).length ≤ b.nodes.length := fml _ _ _ _
theorem df2_l (a b : Mp) (i : Nat) : (df2 a b i).length ≤ b.nodes.length + b.ways.length := by
  rw [df2, List.length_append]; have := df1_l a b b.nodes.length; have := fml (newW a) chW b.ways i; omega
theorem df3_l (a b : Mp) (i : Nat) : (df3 a b i).length ≤ b.nodes.length + b.ways.length + a.areas.length := by
  rw [df3, List.length_append]; have := df2_l a b b.ways.length; have := fml (goneA b) (fun x => chC 3 x.id) a.areas i; omega
theorem df4_l (a b : Mp) (i : Nat) : (df4 a b i).length ≤ b.nodes.length + b.ways.length + a.areas.length + b.areas.length := by
  rw [df4, List.length_append]; have := df3_l a b a.areas.length; have := fml (newA a) chA b.areas i; omega
theorem df5_l (a b : Mp) (i : Nat) : (df5 a b i).length ≤ b.nodes.length + b.ways.length + a.areas.length + b.areas.length + a.ways.length := by
  rw [df5, List.length_append]; have := df4_l a b b.areas.length; have := fml (goneW b) (fun x => chC 5 x.id) a.ways i; omega
theorem df6_l (a b : Mp) (i : Nat) : (df6 a b i).length ≤ b.nodes.length + b.ways.length + a.areas.length + b.areas.length + a.ways.length + a.nodes.length := by
  rw [df6, List.length_append]; have := df5_l a b a.ways.length; have := fml (goneN b) (fun x => chC 6 x.id) a.nodes i; omega
/-- A map's values by their keys. -/
def mF (ids : List Int) (g : Int → PV) (i : Nat) (k : Int) : Option PV := if k ∈ ids.take i then some (g k) else none
theorem mF_0 (ids : List Int) (g : Int → PV) : mF ids g 0 = fun _ => none := funext fun k => by simp [mF]
theorem mF_s {ids : List Int} {g : Int → PV} {i : Nat} (h : i < ids.length) {k : Int} (hk : it ids i = k) {p : PV} (hp : g k = p) : upd (mF ids g i) k (some p) = mF ids g (i + 1) := funext fun x => by
  have hm : x ∈ ids.take (i + 1) ↔ x ∈ ids.take i ∨ x = k := by rw [List.take_succ_eq_append_getElem h, List.mem_append, List.mem_singleton, ← it_at h, hk]
  unfold mF upd
  by_cases q : x = k
  · subst q; simp [hp, hm]
  · simp [q, hm]
def gN (m : Mp) (k : Int) : PV := .ag (cNode (nodeAt m k))
def gW (m : Mp) (k : Int) : PV := .ag (cWay (wayAt m k))
def gA (m : Mp) (k : Int) : PV := .ag (cArea (areaAt m k))
end Go.Proofs.Ytppfogbgbpadiaa.Wd
namespace Go.Proofs.Ytppfogbgbpadiaa.Wd
open Go Go.RowKit Go.Proofs Go.Proofs.YtppfogbgbpadiaaW.AW
set_option linter.unusedVariables false
set_option linter.unusedSimpArgs false
set_option maxRecDepth 100000
theorem cs_l3Tags (a b : List Tg) (ha : a.length ≤ 1048576) (hb : b.length ≤ 1048576) : AC Try.prog 110 [.cl 2 a.length (lpv pTag a), .cl 2 b.length (lpv pTag b)] (ML []) (.bool (eqTs a b)) (ML []) := by
  refine AC.of Try.func110 rfl rfl (by simp [Try.ntmps110]) rfl (fun C hC hm => ?_)
  rw [Try.ntmps110] at hC
  have hn : C.m0.nx = _ := congrArg Mem.nx hm
  simp only [ML_nx, List.length_nil, List.length_cons, Nat.zero_add, Nat.reduceAdd] at hn
  simp only [hC, VS, VZ, TY, openC, foldC, foldN, PF, pick_or, pick_and, aop, aopD, rdN, wrN, idL, idA, apure, AS.ev, startA, strip, abin, aint, astr, alen, aslice, optI, aconv, aconvM, gdv, AS.put, ofVal, pcells, ld, ldo, nOw, PV.isOw, gtmp, within, astore, splice, afill, allCells, okIdx, asrc, aflat, aappend, hintOk, PV.clo, PV.clo1, ofL_n, ofL_c, nams, reO, reP, reA, reC, srcI, setG, obG, List.cons.injEq, aeq1, aeqs, onG, Int.reduceLE, Int.reduceNeg, Int.reduceLT, Nat.reduceEqDiff, ↓reduceIte, Nat.reduceLT, Nat.reduceLeDiff, Nat.reduceAdd, Nat.reduceMul, Nat.reduceSub, reduceCtorEq, Int.reduceEq]
  refine ⟨fun h => ?_, fun h => ?_⟩
  · have h : a.length ≠ b.length := by simp at h; omega
    exact Ret_go [] (by simp [eqTs, h, obsT, obT, okO, okP, okA, okC, okD, okI, reP, reA, reC, srcI, Nl_nil, Nl_cons, PV.nl, upd_at, ofL_n, ofL_c, VS, argsT, lendA, lendL, lendT, Cvl_nil, Cvl_cons, Cv_bool, Cv_int, Cv_str, Cv_nils, Cv_nilc, Cv_cl, Cv_ow, noFn, PV.noF, NR_iff, NRO, hb, ares, ares1, ldo, ld, nOw, PV.isOw, TY]) tS tS
  have h : a.length = b.length := by simp at h; omega
  have hE : eqTs a b = allI (eqTsG a b) 0 a.length := by simp [eqTs, h]
  rw [hE]
  refine AL.go (X := Nat) (fun i => ⟨ofL [(0, .cl 2 a.length (lpv pTag a)), (1, .cl 2 b.length (lpv pTag b)), (5, .int .i64 (i : Int))], ML []⟩) (fun i => a.length - i) (fun i => i ≤ a.length ∧ allI (eqTsG a b) i (a.length - i) = allI (eqTsG a b) 0 a.length) 0 (by simp)
    (Told_go hn [] tS tS tS) (fun i hi => vc_ok _ _ _ ?_)
  obtain ⟨hi, hg⟩ := hi
  simp only [hC, VS, VZ, TY, openC, foldC, foldN, PF, pick_or, pick_and, aop, aopD, rdN, wrN, idL, idA, apure, AS.ev, startA, strip, abin, aint, astr, alen, aslice, optI, aconv, aconvM, gdv, AS.put, ofVal, pcells, ld, ldo, nOw, PV.isOw, gtmp, within, astore, splice, afill, allCells, okIdx, asrc, aflat, aappend, hintOk, PV.clo, PV.clo1, ofL_n, ofL_c, nams, reO, reP, reA, reC, srcI, setG, obG, List.cons.injEq, aeq1, aeqs, onG, Int.reduceLE, Int.reduceNeg, Int.reduceLT, Nat.reduceEqDiff, ↓reduceIte, Nat.reduceLT, Nat.reduceLeDiff, Nat.reduceAdd, Nat.reduceMul, Nat.reduceSub, reduceCtorEq, Int.reduceEq]
  refine ⟨fun h1 => ?_, fun h1 => ?_⟩
  · have h1 : i < a.length := by simpa using h1
    have ea : lpv pTag a i = pTag (tg a i) := tg_pv h1
    have eb : lpv pTag b i = pTag (tg b i) := tg_pv (by omega)
    rw [allI_step h1] at hg
    refine ⟨by kernel_rfl, by omega, ?_⟩
    simp only [ea, eb, pTag, VS, VZ, TY, openC, foldC, foldN, PF, pick_or, pick_and, aop, aopD, rdN, wrN, idL, idA, apure, AS.ev, startA, strip, abin, aint, astr, alen, aslice, optI, aconv, aconvM, gdv, AS.put, ofVal, pcells, ld, ldo, nOw, PV.isOw, gtmp, within, astore, splice, afill, allCells, okIdx, asrc, aflat, aappend, hintOk, PV.clo, PV.clo1, ofL_n, ofL_c, nams, reO, reP, reA, reC, srcI, setG, obG, List.cons.injEq, aeq1, aeqs, onG, Int.reduceLE, Int.reduceNeg, Int.reduceLT, Nat.reduceEqDiff, ↓reduceIte, Nat.reduceLT, Nat.reduceLeDiff, Nat.reduceAdd, Nat.reduceMul, Nat.reduceSub, reduceCtorEq, Int.reduceEq]
    simp (disch := omega) only [wr64]
    refine ⟨by omega, fun h2 => ?_, fun h2 => ?_⟩
    · have h2 : eqTsG a b i = false := by unfold eqTsG; first | simpa using h2 | (simp at h2 ⊢; exact fun q => h2.resolve_left (fun h => h q))
      rw [h2, Bool.false_and] at hg
      exact Ret_go [] (by simp [← hg, obsT, obT, okO, okP, okA, okC, okD, okI, reP, reA, reC, srcI, Nl_nil, Nl_cons, PV.nl, upd_at, ofL_n, ofL_c, VS, argsT, lendA, lendL, lendT, Cvl_nil, Cvl_cons, Cv_bool, Cv_int, Cv_str, Cv_nils, Cv_nilc, Cv_cl, Cv_ow, noFn, PV.noF, NR_iff, NRO, hb, ares, ares1, ldo, ld, nOw, PV.isOw, TY]) tS tS
    · have h2 : eqTsG a b i = true := by unfold eqTsG; simpa using h2
      rw [h2, Bool.true_and] at hg
      exact ⟨i + 1, ⟨by omega, hg⟩, by omega, Told_go hn [] tS tS tS⟩
  · have : i = a.length := by simp at h1; omega
    subst this
    rw [Nat.sub_self, allI] at hg
    exact Ret_go [] (by simp [← hg, obsT, obT, okO, okP, okA, okC, okD, okI, reP, reA, reC, srcI, Nl_nil, Nl_cons, PV.nl, upd_at, ofL_n, ofL_c, VS, argsT, lendA, lendL, lendT, Cvl_nil, Cvl_cons, Cv_bool, Cv_int, Cv_str, Cv_nils, Cv_nilc, Cv_cl, Cv_ow, noFn, PV.noF, NR_iff, NRO, hb, ares, ares1, ldo, ld, nOw, PV.isOw, TY]) tS tS
theorem cs_l3Ids (a b : List Int) (ha : a.length ≤ 1048576) (hb : b.length ≤ 1048576) : AC Try.prog 111 [.cl 1 a.length (lpv pInt64 a), .cl 1 b.length (lpv pInt64 b)] (ML []) (.bool (eqIs a b)) (ML []) := by
  refine AC.of Try.func111 rfl rfl (by simp [Try.ntmps111]) rfl (fun C hC hm => ?_)
  rw [Try.ntmps111] at hC
  have hn : C.m0.nx = _ := congrArg Mem.nx hm
  simp only [ML_nx, List.length_nil, List.length_cons, Nat.zero_add, Nat.reduceAdd] at hn
  simp only [hC, VS, VZ, TY, openC, foldC, foldN, PF, pick_or, pick_and, aop, aopD, rdN, wrN, idL, idA, apure, AS.ev, startA, strip, abin, aint, astr, alen, aslice, optI, aconv, aconvM, gdv, AS.put, ofVal, pcells, ld, ldo, nOw, PV.isOw, gtmp, within, astore, splice, afill, allCells, okIdx, asrc, aflat, aappend, hintOk, PV.clo, PV.clo1, ofL_n, ofL_c, nams, reO, reP, reA, reC, srcI, setG, obG, List.cons.injEq, aeq1, aeqs, onG, Int.reduceLE, Int.reduceNeg, Int.reduceLT, Nat.reduceEqDiff, ↓reduceIte, Nat.reduceLT, Nat.reduceLeDiff, Nat.reduceAdd, Nat.reduceMul, Nat.reduceSub, reduceCtorEq, Int.reduceEq]
  refine ⟨fun h => ?_, fun h => ?_⟩
  · have h : a.length ≠ b.length := by simp at h; omega
    exact Ret_go [] (by simp [eqIs, h, obsT, obT, okO, okP, okA, okC, okD, okI, reP, reA, reC, srcI, Nl_nil, Nl_cons, PV.nl, upd_at, ofL_n, ofL_c, VS, argsT, lendA, lendL, lendT, Cvl_nil, Cvl_cons, Cv_bool, Cv_int, Cv_str, Cv_nils, Cv_nilc, Cv_cl, Cv_ow, noFn, PV.noF, NR_iff, NRO, hb, ares, ares1, ldo, ld, nOw, PV.isOw, TY]) tS tS
  have h : a.length = b.length := by simp at h; omega
  have hE : eqIs a b = allI (eqIsG a b) 0 a.length := by simp [eqIs, h]
  rw [hE]
  refine AL.go (X := Nat) (fun i => ⟨ofL [(0, .cl 1 a.length (lpv pInt64 a)), (1, .cl 1 b.length (lpv pInt64 b)), (5, .int .i64 (i : Int))], ML []⟩) (fun i => a.length - i) (fun i => i ≤ a.length ∧ allI (eqIsG a b) i (a.length - i) = allI (eqIsG a b) 0 a.length) 0 (by simp)
    (Told_go hn [] tS tS tS) (fun i hi => vc_ok _ _ _ ?_)
  obtain ⟨hi, hg⟩ := hi
  simp only [hC, VS, VZ, TY, openC, foldC, foldN, PF, pick_or, pick_and, aop, aopD, rdN, wrN, idL, idA, apure, AS.ev, startA, strip, abin, aint, astr, alen, aslice, optI, aconv, aconvM, gdv, AS.put, ofVal, pcells, ld, ldo, nOw, PV.isOw, gtmp, within, astore, splice, afill, allCells, okIdx, asrc, aflat, aappend, hintOk, PV.clo, PV.clo1, ofL_n, ofL_c, nams, reO, reP, reA, reC, srcI, setG, obG, List.cons.injEq, aeq1, aeqs, onG, Int.reduceLE, Int.reduceNeg, Int.reduceLT, Nat.reduceEqDiff, ↓reduceIte, Nat.reduceLT, Nat.reduceLeDiff, Nat.reduceAdd, Nat.reduceMul, Nat.reduceSub, reduceCtorEq, Int.reduceEq]
  refine ⟨fun h1 => ?_, fun h1 => ?_⟩
  · have h1 : i < a.length := by simpa using h1
    have ea : lpv pInt64 a i = pInt64 (it a i) := it_pv h1
    have eb : lpv pInt64 b i = pInt64 (it b i) := it_pv (by omega)
    rw [allI_step h1] at hg
    refine ⟨by kernel_rfl, by omega, ?_⟩
    simp only [ea, eb, pInt64, VS, VZ, TY, openC, foldC, foldN, PF, pick_or, pick_and, aop, aopD, rdN, wrN, idL, idA, apure, AS.ev, startA, strip, abin, aint, astr, alen, aslice, optI, aconv, aconvM, gdv, AS.put, ofVal, pcells, ld, ldo, nOw, PV.isOw, gtmp, within, astore, splice, afill, allCells, okIdx, asrc, aflat, aappend, hintOk, PV.clo, PV.clo1, ofL_n, ofL_c, nams, reO, reP, reA, reC, srcI, setG, obG, List.cons.injEq, aeq1, aeqs, onG, Int.reduceLE, Int.reduceNeg, Int.reduceLT, Nat.reduceEqDiff, ↓reduceIte, Nat.reduceLT, Nat.reduceLeDiff, Nat.reduceAdd, Nat.reduceMul, Nat.reduceSub, reduceCtorEq, Int.reduceEq]
    simp (disch := omega) only [wr64]
    refine ⟨by omega, fun h2 => ?_, fun h2 => ?_⟩
    · have h2 : eqIsG a b i = false := by unfold eqIsG; first | simpa using h2 | (simp at h2 ⊢; exact fun q => h2.resolve_left (fun h => h q))
      rw [h2, Bool.false_and] at hg
      exact Ret_go [] (by simp [← hg, obsT, obT, okO, okP, okA, okC, okD, okI, reP, reA, reC, srcI, Nl_nil, Nl_cons, PV.nl, upd_at, ofL_n, ofL_c, VS, argsT, lendA, lendL, lendT, Cvl_nil, Cvl_cons, Cv_bool, Cv_int, Cv_str, Cv_nils, Cv_nilc, Cv_cl, Cv_ow, noFn, PV.noF, NR_iff, NRO, hb, ares, ares1, ldo, ld, nOw, PV.isOw, TY]) tS tS
    · have h2 : eqIsG a b i = true := by unfold eqIsG; simpa using h2
      rw [h2, Bool.true_and] at hg
      exact ⟨i + 1, ⟨by omega, hg⟩, by omega, Told_go hn [] tS tS tS⟩
  · have : i = a.length := by simp at h1; omega
    subst this
    rw [Nat.sub_self, allI] at hg
    exact Ret_go [] (by simp [← hg, obsT, obT, okO, okP, okA, okC, okD, okI, reP, reA, reC, srcI, Nl_nil, Nl_cons, PV.nl, upd_at, ofL_n, ofL_c, VS, argsT, lendA, lendL, lendT, Cvl_nil, Cvl_cons, Cv_bool, Cv_int, Cv_str, Cv_nils, Cv_nilc, Cv_cl, Cv_ow, noFn, PV.noF, NR_iff, NRO, hb, ares, ares1, ldo, ld, nOw, PV.isOw, TY]) tS tS
theorem cs_l3Parts (a b : List Pr) (ha : a.length ≤ 1048576) (hb : b.length ≤ 1048576) : AC Try.prog 113 [.cl 2 a.length (lpv pPart a), .cl 2 b.length (lpv pPart b)] (ML []) (.bool (eqPs a b)) (ML []) := by
  refine AC.of Try.func113 rfl rfl (by simp [Try.ntmps113]) rfl (fun C hC hm => ?_)
  rw [Try.ntmps113] at hC
  have hn : C.m0.nx = _ := congrArg Mem.nx hm
  simp only [ML_nx, List.length_nil, List.length_cons, Nat.zero_add, Nat.reduceAdd] at hn
  simp only [hC, VS, VZ, TY, openC, foldC, foldN, PF, pick_or, pick_and, aop, aopD, rdN, wrN, idL, idA, apure, AS.ev, startA, strip, abin, aint, astr, alen, aslice, optI, aconv, aconvM, gdv, AS.put, ofVal, pcells, ld, ldo, nOw, PV.isOw, gtmp, within, astore, splice, afill, allCells, okIdx, asrc, aflat, aappend, hintOk, PV.clo, PV.clo1, ofL_n, ofL_c, nams, reO, reP, reA, reC, srcI, setG, obG, List.cons.injEq, aeq1, aeqs, onG, Int.reduceLE, Int.reduceNeg, Int.reduceLT, Nat.reduceEqDiff, ↓reduceIte, Nat.reduceLT, Nat.reduceLeDiff, Nat.reduceAdd, Nat.reduceMul, Nat.reduceSub, reduceCtorEq, Int.reduceEq]
  refine ⟨fun h => ?_, fun h => ?_⟩
  · have h : a.length ≠ b.length := by simp at h; omega
    exact Ret_go [] (by simp [eqPs, h, obsT, obT, okO, okP, okA, okC, okD, okI, reP, reA, reC, srcI, Nl_nil, Nl_cons, PV.nl, upd_at, ofL_n, ofL_c, VS, argsT, lendA, lendL, lendT, Cvl_nil, Cvl_cons, Cv_bool, Cv_int, Cv_str, Cv_nils, Cv_nilc, Cv_cl, Cv_ow, noFn, PV.noF, NR_iff, NRO, hb, ares, ares1, ldo, ld, nOw, PV.isOw, TY]) tS tS
  have h : a.length = b.length := by simp at h; omega
  have hE : eqPs a b = allI (eqPsG a b) 0 a.length := by simp [eqPs, h]
  rw [hE]
  refine AL.go (X := Nat) (fun i => ⟨ofL [(0, .cl 2 a.length (lpv pPart a)), (1, .cl 2 b.length (lpv pPart b)), (5, .int .i64 (i : Int))], ML []⟩) (fun i => a.length - i) (fun i => i ≤ a.length ∧ allI (eqPsG a b) i (a.length - i) = allI (eqPsG a b) 0 a.length) 0 (by simp)
    (Told_go hn [] tS tS tS) (fun i hi => vc_ok _ _ _ ?_)
  obtain ⟨hi, hg⟩ := hi
  simp only [hC, VS, VZ, TY, openC, foldC, foldN, PF, pick_or, pick_and, aop, aopD, rdN, wrN, idL, idA, apure, AS.ev, startA, strip, abin, aint, astr, alen, aslice, optI, aconv, aconvM, gdv, AS.put, ofVal, pcells, ld, ldo, nOw, PV.isOw, gtmp, within, astore, splice, afill, allCells, okIdx, asrc, aflat, aappend, hintOk, PV.clo, PV.clo1, ofL_n, ofL_c, nams, reO, reP, reA, reC, srcI, setG, obG, List.cons.injEq, aeq1, aeqs, onG, Int.reduceLE, Int.reduceNeg, Int.reduceLT, Nat.reduceEqDiff, ↓reduceIte, Nat.reduceLT, Nat.reduceLeDiff, Nat.reduceAdd, Nat.reduceMul, Nat.reduceSub, reduceCtorEq, Int.reduceEq]
  refine ⟨fun h1 => ?_, fun h1 => ?_⟩
  · have h1 : i < a.length := by simpa using h1
    have ea : lpv pPart a i = pPart (pr a i) := pr_pv h1
    have eb : lpv pPart b i = pPart (pr b i) := pr_pv (by omega)
    rw [allI_step h1] at hg
    refine ⟨by kernel_rfl, by omega, ?_⟩
    simp only [ea, eb, pPart, VS, VZ, TY, openC, foldC, foldN, PF, pick_or, pick_and, aop, aopD, rdN, wrN, idL, idA, apure, AS.ev, startA, strip, abin, aint, astr, alen, aslice, optI, aconv, aconvM, gdv, AS.put, ofVal, pcells, ld, ldo, nOw, PV.isOw, gtmp, within, astore, splice, afill, allCells, okIdx, asrc, aflat, aappend, hintOk, PV.clo, PV.clo1, ofL_n, ofL_c, nams, reO, reP, reA, reC, srcI, setG, obG, List.cons.injEq, aeq1, aeqs, onG, Int.reduceLE, Int.reduceNeg, Int.reduceLT, Nat.reduceEqDiff, ↓reduceIte, Nat.reduceLT, Nat.reduceLeDiff, Nat.reduceAdd, Nat.reduceMul, Nat.reduceSub, reduceCtorEq, Int.reduceEq]
    simp (disch := omega) only [wr64]
    refine ⟨by omega, fun h2 => ?_, fun h2 => ?_⟩
    · have h2 : eqPsG a b i = false := by unfold eqPsG; first | simpa using h2 | (simp at h2 ⊢; exact fun q => h2.resolve_left (fun h => h q))
      rw [h2, Bool.false_and] at hg
      exact Ret_go [] (by simp [← hg, obsT, obT, okO, okP, okA, okC, okD, okI, reP, reA, reC, srcI, Nl_nil, Nl_cons, PV.nl, upd_at, ofL_n, ofL_c, VS, argsT, lendA, lendL, lendT, Cvl_nil, Cvl_cons, Cv_bool, Cv_int, Cv_str, Cv_nils, Cv_nilc, Cv_cl, Cv_ow, noFn, PV.noF, NR_iff, NRO, hb, ares, ares1, ldo, ld, nOw, PV.isOw, TY]) tS tS
    · have h2 : eqPsG a b i = true := by unfold eqPsG; simpa using h2
      rw [h2, Bool.true_and] at hg
      exact ⟨i + 1, ⟨by omega, hg⟩, by omega, Told_go hn [] tS tS tS⟩
  · have : i = a.length := by simp at h1; omega
    subst this
    rw [Nat.sub_self, allI] at hg
    exact Ret_go [] (by simp [← hg, obsT, obT, okO, okP, okA, okC, okD, okI, reP, reA, reC, srcI, Nl_nil, Nl_cons, PV.nl, upd_at, ofL_n, ofL_c, VS, argsT, lendA, lendL, lendT, Cvl_nil, Cvl_cons, Cv_bool, Cv_int, Cv_str, Cv_nils, Cv_nilc, Cv_cl, Cv_ow, noFn, PV.noF, NR_iff, NRO, hb, ares, ares1, ldo, ld, nOw, PV.isOw, TY]) tS tS
theorem cs_l3Area (m : Mp) (x : Int) (hl : m.areas.length ≤ 1048576) : AC Try.prog 112 [.ag (cMap m), .int .i64 x] (ML []) (.int .i64 (ix (aids m) x)) (ML []) := by
  have hlen : (aids m).length = m.areas.length := by simp [aids]
  refine AC.of Try.func112 rfl rfl (by simp [Try.ntmps112]) rfl (fun C hC hm => ?_)
  rw [Try.ntmps112] at hC
  have hn : C.m0.nx = _ := congrArg Mem.nx hm
  simp only [ML_nx, List.length_nil, List.length_cons, Nat.zero_add, Nat.reduceAdd] at hn
  simp only [hC, cMap, VS, VZ, TY, openC, foldC, foldN, PF, pick_or, pick_and, aop, aopD, rdN, wrN, idL, idA, apure, AS.ev, startA, strip, abin, aint, astr, alen, aslice, optI, aconv, aconvM, gdv, AS.put, ofVal, pcells, ld, ldo, nOw, PV.isOw, gtmp, within, astore, splice, afill, allCells, okIdx, asrc, aflat, aappend, hintOk, PV.clo, PV.clo1, ofL_n, ofL_c, nams, reO, reP, reA, reC, srcI, setG, obG, List.cons.injEq, aeq1, aeqs, onG, Int.reduceLE, Int.reduceNeg, Int.reduceLT, Nat.reduceEqDiff, ↓reduceIte, Nat.reduceLT, Nat.reduceLeDiff, Nat.reduceAdd, Nat.reduceMul, Nat.reduceSub, reduceCtorEq, Int.reduceEq]
  refine AL.go (X := Nat) (fun i => ⟨ofL [(1, .int .i64 x), (2, .bp [0] 0), (5, .int .i64 (i : Int))], ML [.box (cMap m)]⟩) (fun i => m.areas.length - i) (fun i => i ≤ m.areas.length ∧ ∀ j, j < i → it (aids m) j ≠ x) 0 (by simp)
    (Told_go hn [[0]] tS (by simp [cMap, obsT, obT, okO, okP, okA, okC, okD, okI, reP, reA, reC, srcI, Nl_nil, Nl_cons, PV.nl, upd_at, ofL_n, ofL_c, VS, argsT, lendA, lendL, lendT, Cvl_nil, Cvl_cons, Cv_bool, Cv_int, Cv_str, Cv_nils, Cv_nilc, Cv_cl, Cv_ow, noFn, PV.noF, NR_iff, NRO, hb, ares, ares1, ldo, ld, nOw, PV.isOw, TY]) (by simp [cMap, obsT, obT, okO, okP, okA, okC, okD, okI, reP, reA, reC, srcI, Nl_nil, Nl_cons, PV.nl, upd_at, ofL_n, ofL_c, VS, argsT, lendA, lendL, lendT, Cvl_nil, Cvl_cons, Cv_bool, Cv_int, Cv_str, Cv_nils, Cv_nilc, Cv_cl, Cv_ow, noFn, PV.noF, NR_iff, NRO, hb, ares, ares1, ldo, ld, nOw, PV.isOw, TY])) (fun i hi => vc_ok _ _ _ ?_)
  obtain ⟨hi, ha⟩ := hi
  simp only [hC, cMap, VS, VZ, TY, openC, foldC, foldN, PF, pick_or, pick_and, aop, aopD, rdN, wrN, idL, idA, apure, AS.ev, startA, strip, abin, aint, astr, alen, aslice, optI, aconv, aconvM, gdv, AS.put, ofVal, pcells, ld, ldo, nOw, PV.isOw, gtmp, within, astore, splice, afill, allCells, okIdx, asrc, aflat, aappend, hintOk, PV.clo, PV.clo1, ofL_n, ofL_c, nams, reO, reP, reA, reC, srcI, setG, obG, List.cons.injEq, aeq1, aeqs, onG, Int.reduceLE, Int.reduceNeg, Int.reduceLT, Nat.reduceEqDiff, ↓reduceIte, Nat.reduceLT, Nat.reduceLeDiff, Nat.reduceAdd, Nat.reduceMul, Nat.reduceSub, reduceCtorEq, Int.reduceEq]
  refine ⟨fun h1 => ?_, fun h1 => ?_⟩
  · have h1 : i < m.areas.length := by simpa using h1
    have e := ar_pv h1
    refine ⟨by omega, ?_⟩
    simp only [e, cArea, VS, VZ, TY, openC, foldC, foldN, PF, pick_or, pick_and, aop, aopD, rdN, wrN, idL, idA, apure, AS.ev, startA, strip, abin, aint, astr, alen, aslice, optI, aconv, aconvM, gdv, AS.put, ofVal, pcells, ld, ldo, nOw, PV.isOw, gtmp, within, astore, splice, afill, allCells, okIdx, asrc, aflat, aappend, hintOk, PV.clo, PV.clo1, ofL_n, ofL_c, nams, reO, reP, reA, reC, srcI, setG, obG, List.cons.injEq, aeq1, aeqs, onG, Int.reduceLE, Int.reduceNeg, Int.reduceLT, Nat.reduceEqDiff, ↓reduceIte, Nat.reduceLT, Nat.reduceLeDiff, Nat.reduceAdd, Nat.reduceMul, Nat.reduceSub, reduceCtorEq, Int.reduceEq]
    refine ⟨fun h2 => ?_, fun h2 => ?_⟩
    · have h2 : (ar m.areas i).id = x := by simpa using h2
      have := ix_some (l := aids m) (by omega) ((aids_at h1).trans h2) ha
      exact Ret_go [] (by simp [this, obsT, obT, okO, okP, okA, okC, okD, okI, reP, reA, reC, srcI, Nl_nil, Nl_cons, PV.nl, upd_at, ofL_n, ofL_c, VS, argsT, lendA, lendL, lendT, Cvl_nil, Cvl_cons, Cv_bool, Cv_int, Cv_str, Cv_nils, Cv_nilc, Cv_cl, Cv_ow, noFn, PV.noF, NR_iff, NRO, hb, ares, ares1, ldo, ld, nOw, PV.isOw, TY]) tS tS
    · have h2 : (ar m.areas i).id ≠ x := by simpa using h2
      simp (disch := omega) only [wr64]
      refine ⟨i + 1, ⟨by omega, fun j hj => ?_⟩, by omega, Told_go hn [[0]] tS (by simp [cMap, obsT, obT, okO, okP, okA, okC, okD, okI, reP, reA, reC, srcI, Nl_nil, Nl_cons, PV.nl, upd_at, ofL_n, ofL_c, VS, argsT, lendA, lendL, lendT, Cvl_nil, Cvl_cons, Cv_bool, Cv_int, Cv_str, Cv_nils, Cv_nilc, Cv_cl, Cv_ow, noFn, PV.noF, NR_iff, NRO, hb, ares, ares1, ldo, ld, nOw, PV.isOw, TY]) (by simp [cMap, obsT, obT, okO, okP, okA, okC, okD, okI, reP, reA, reC, srcI, Nl_nil, Nl_cons, PV.nl, upd_at, ofL_n, ofL_c, VS, argsT, lendA, lendL, lendT, Cvl_nil, Cvl_cons, Cv_bool, Cv_int, Cv_str, Cv_nils, Cv_nilc, Cv_cl, Cv_ow, noFn, PV.noF, NR_iff, NRO, hb, ares, ares1, ldo, ld, nOw, PV.isOw, TY])⟩
      by_cases q : j = i
      · subst q; rw [aids_at h1]; exact h2
      · exact ha j (by omega)
  · have : i = m.areas.length := by simp at h1; omega
    have := ix_none (l := aids m) (x := x) (by rw [hlen]; rw [this] at ha; exact ha)
    exact Ret_go [] (by simp [this, obsT, obT, okO, okP, okA, okC, okD, okI, reP, reA, reC, srcI, Nl_nil, Nl_cons, PV.nl, upd_at, ofL_n, ofL_c, VS, argsT, lendA, lendL, lendT, Cvl_nil, Cvl_cons, Cv_bool, Cv_int, Cv_str, Cv_nils, Cv_nilc, Cv_cl, Cv_ow, noFn, PV.noF, NR_iff, NRO, hb, ares, ares1, ldo, ld, nOw, PV.isOw, TY]) tS tS
end Go.Proofs.Ytppfogbgbpadiaa.Wd
