/- The specification's map. -/
import Derived.Test.YtofaiiobggnibaaN2
namespace Go.Proofs.Ytofaiiobggnibaa.Wd
open Go Go.RowKit Go.Proofs Go.Proofs.YtofaiiobggnibaaW.AW
set_option linter.unusedVariables false
set_option linter.unusedSimpArgs false
set_option maxRecDepth 100000
theorem cs_l2Node (m : Mp) (x : Int) (hl : m.nodes.length ≤ 1048576) (hs : ∀ i j, i < j → j < m.nodes.length → (nd m.nodes i).id < (nd m.nodes j).id) : AC Try.prog 88 [.ag (cMap m), .int .i64 x] (ML []) (.int .i64 (ix (nids m) x)) (ML []) := by
  have hlen : (nids m).length = m.nodes.length := by simp [nids]
  refine AC.of Try.func88 rfl rfl (by simp [Try.ntmps88]) rfl (fun C hC hm => ?_)
  rw [Try.ntmps88] at hC
  have hn : C.m0.nx = _ := congrArg Mem.nx hm
  simp only [ML_nx, List.length_nil, List.length_cons, Nat.zero_add, Nat.reduceAdd] at hn
  simp only [hC, cMap, VS, VZ, TY, openC, foldC, foldN, PF, pick_or, pick_and, aop, aopD, rdN, wrN, idL, idA, apure, AS.ev, startA, strip, abin, aint, astr, alen, aslice, optI, aconv, aconvM, gdv, AS.put, ofVal, pcells, ld, ldo, nOw, PV.isOw, gtmp, within, astore, splice, afill, allCells, okIdx, asrc, aflat, aappend, hintOk, PV.clo, PV.clo1, ofL_n, ofL_c, nams, reO, reP, reA, reC, srcI, setG, obG, List.cons.injEq, aeq1, aeqs, onG, Int.reduceLE, Int.reduceNeg, Int.reduceLT, Nat.reduceEqDiff, ↓reduceIte, Nat.reduceLT, Nat.reduceLeDiff, Nat.reduceAdd, Nat.reduceMul, Nat.reduceSub, reduceCtorEq, Int.reduceEq]
  refine AL.go (X := Nat × Nat) (fun p => ⟨ofL [(1, .int .i64 x), (2, .bp [0] 0), (5, .int .i64 (p.1 : Int)), (6, .int .i64 (p.2 : Int))], ML [.box (cMap m)]⟩) (fun p => p.2 - p.1) (fun p => p.1 ≤ p.2 ∧ p.2 ≤ m.nodes.length ∧ (∀ j, j < p.1 → (nd m.nodes j).id < x) ∧ (∀ j, p.2 ≤ j → j < m.nodes.length → x ≤ (nd m.nodes j).id)) (0, m.nodes.length) ⟨by simp, by simp, fun j h => by simp at h, fun j h1 h2 => by simp at h1; omega⟩
    (Told_go hn [[0]] (by simp [obsT, obT, okO, okP, okA, okC, okD, okI, reP, reA, reC, srcI, Nl_nil, Nl_cons, PV.nl, upd_at, ofL_n, ofL_c, VS, argsT, lendA, lendL, lendT, Cvl_nil, Cvl_cons, Cv_bool, Cv_int, Cv_str, Cv_nils, Cv_nilc, Cv_cl, Cv_ow, noFn, PV.noF, NR_iff, NRO, hb, ares, ares1, ldo, ld, nOw, PV.isOw, TY]) (by simp [cMap, obsT, obT, okO, okP, okA, okC, okD, okI, reP, reA, reC, srcI, Nl_nil, Nl_cons, PV.nl, upd_at, ofL_n, ofL_c, VS, argsT, lendA, lendL, lendT, Cvl_nil, Cvl_cons, Cv_bool, Cv_int, Cv_str, Cv_nils, Cv_nilc, Cv_cl, Cv_ow, noFn, PV.noF, NR_iff, NRO, hb, ares, ares1, ldo, ld, nOw, PV.isOw, TY]) (by simp [cMap, obsT, obT, okO, okP, okA, okC, okD, okI, reP, reA, reC, srcI, Nl_nil, Nl_cons, PV.nl, upd_at, ofL_n, ofL_c, VS, argsT, lendA, lendL, lendT, Cvl_nil, Cvl_cons, Cv_bool, Cv_int, Cv_str, Cv_nils, Cv_nilc, Cv_cl, Cv_ow, noFn, PV.noF, NR_iff, NRO, hb, ares, ares1, ldo, ld, nOw, PV.isOw, TY])) (fun p hp => vc_ok _ _ _ ?_)
  obtain ⟨lo, hi⟩ := p
  obtain ⟨h1, h2, h3, h4⟩ := hp
  simp only at h1 h2 h3 h4
  simp only [hC, cMap, VS, VZ, TY, openC, foldC, foldN, PF, pick_or, pick_and, aop, aopD, rdN, wrN, idL, idA, apure, AS.ev, startA, strip, abin, aint, astr, alen, aslice, optI, aconv, aconvM, gdv, AS.put, ofVal, pcells, ld, ldo, nOw, PV.isOw, gtmp, within, astore, splice, afill, allCells, okIdx, asrc, aflat, aappend, hintOk, PV.clo, PV.clo1, ofL_n, ofL_c, nams, reO, reP, reA, reC, srcI, setG, obG, List.cons.injEq, aeq1, aeqs, onG, Int.reduceLE, Int.reduceNeg, Int.reduceLT, Nat.reduceEqDiff, ↓reduceIte, Nat.reduceLT, Nat.reduceLeDiff, Nat.reduceAdd, Nat.reduceMul, Nat.reduceSub, reduceCtorEq, Int.reduceEq]
  refine ⟨fun h5 => ?_, fun h5 => ?_⟩
  · have h5 : lo < hi := by simpa using h5
    have em : (IntKind.i64.wrap ((IntKind.i64.wrap ((lo : Int) + (hi : Int))).tdiv 2)) = (((lo + hi) / 2 : Nat) : Int) := by
      rw [wr64 (n := (lo : Int) + hi) (by omega) (by omega), Int.tdiv_eq_ediv_of_nonneg (by omega), wr64 (by omega) (by omega)]; omega
    obtain ⟨md, hmd⟩ : ∃ md, md = (lo + hi) / 2 := ⟨_, rfl⟩
    rw [← hmd] at em
    have hm1 : lo ≤ md ∧ md < hi := by omega
    have e := nd_pv (l := m.nodes) (i := md) (by omega)
    simp only [em, Int.toNat_natCast, VS, VZ, TY, openC, foldC, foldN, PF, pick_or, pick_and, aop, aopD, rdN, wrN, idL, idA, apure, AS.ev, startA, strip, abin, aint, astr, alen, aslice, optI, aconv, aconvM, gdv, AS.put, ofVal, pcells, ld, ldo, nOw, PV.isOw, gtmp, within, astore, splice, afill, allCells, okIdx, asrc, aflat, aappend, hintOk, PV.clo, PV.clo1, ofL_n, ofL_c, nams, reO, reP, reA, reC, srcI, setG, obG, List.cons.injEq, aeq1, aeqs, onG, Int.reduceLE, Int.reduceNeg, Int.reduceLT, Nat.reduceEqDiff, ↓reduceIte, Nat.reduceLT, Nat.reduceLeDiff, Nat.reduceAdd, Nat.reduceMul, Nat.reduceSub, reduceCtorEq, Int.reduceEq]
    simp only [e, cNode, VS, VZ, TY, openC, foldC, foldN, PF, pick_or, pick_and, aop, aopD, rdN, wrN, idL, idA, apure, AS.ev, startA, strip, abin, aint, astr, alen, aslice, optI, aconv, aconvM, gdv, AS.put, ofVal, pcells, ld, ldo, nOw, PV.isOw, gtmp, within, astore, splice, afill, allCells, okIdx, asrc, aflat, aappend, hintOk, PV.clo, PV.clo1, ofL_n, ofL_c, nams, reO, reP, reA, reC, srcI, setG, obG, List.cons.injEq, aeq1, aeqs, onG, Int.reduceLE, Int.reduceNeg, Int.reduceLT, Nat.reduceEqDiff, ↓reduceIte, Nat.reduceLT, Nat.reduceLeDiff, Nat.reduceAdd, Nat.reduceMul, Nat.reduceSub, reduceCtorEq, Int.reduceEq]
    refine ⟨by omega, fun h6 => ?_, fun h6 => ?_⟩
    · have h6 : (nd m.nodes md).id < x := by simpa using h6
      simp (disch := omega) only [wr64]
      refine ⟨(md + 1, hi), ⟨by simp only; omega, h2, fun j hj => ?_, h4⟩, by simp only; omega, Told_go hn [[0]] (by simp [obsT, obT, okO, okP, okA, okC, okD, okI, reP, reA, reC, srcI, Nl_nil, Nl_cons, PV.nl, upd_at, ofL_n, ofL_c, VS, argsT, lendA, lendL, lendT, Cvl_nil, Cvl_cons, Cv_bool, Cv_int, Cv_str, Cv_nils, Cv_nilc, Cv_cl, Cv_ow, noFn, PV.noF, NR_iff, NRO, hb, ares, ares1, ldo, ld, nOw, PV.isOw, TY]) (by simp [cMap, obsT, obT, okO, okP, okA, okC, okD, okI, reP, reA, reC, srcI, Nl_nil, Nl_cons, PV.nl, upd_at, ofL_n, ofL_c, VS, argsT, lendA, lendL, lendT, Cvl_nil, Cvl_cons, Cv_bool, Cv_int, Cv_str, Cv_nils, Cv_nilc, Cv_cl, Cv_ow, noFn, PV.noF, NR_iff, NRO, hb, ares, ares1, ldo, ld, nOw, PV.isOw, TY]) (by simp [cMap, obsT, obT, okO, okP, okA, okC, okD, okI, reP, reA, reC, srcI, Nl_nil, Nl_cons, PV.nl, upd_at, ofL_n, ofL_c, VS, argsT, lendA, lendL, lendT, Cvl_nil, Cvl_cons, Cv_bool, Cv_int, Cv_str, Cv_nils, Cv_nilc, Cv_cl, Cv_ow, noFn, PV.noF, NR_iff, NRO, hb, ares, ares1, ldo, ld, nOw, PV.isOw, TY])⟩
      simp only at hj
      by_cases q : j = md
      · subst q; exact h6
      · have := hs j md (by omega) (by omega); omega
    · have h6 : x ≤ (nd m.nodes md).id := by simpa using h6
      refine ⟨(lo, md), ⟨by simp only; omega, by simp only; omega, h3, fun j h7 h8 => ?_⟩, by simp only; omega, Told_go hn [[0]] (by simp [obsT, obT, okO, okP, okA, okC, okD, okI, reP, reA, reC, srcI, Nl_nil, Nl_cons, PV.nl, upd_at, ofL_n, ofL_c, VS, argsT, lendA, lendL, lendT, Cvl_nil, Cvl_cons, Cv_bool, Cv_int, Cv_str, Cv_nils, Cv_nilc, Cv_cl, Cv_ow, noFn, PV.noF, NR_iff, NRO, hb, ares, ares1, ldo, ld, nOw, PV.isOw, TY]) (by simp [cMap, obsT, obT, okO, okP, okA, okC, okD, okI, reP, reA, reC, srcI, Nl_nil, Nl_cons, PV.nl, upd_at, ofL_n, ofL_c, VS, argsT, lendA, lendL, lendT, Cvl_nil, Cvl_cons, Cv_bool, Cv_int, Cv_str, Cv_nils, Cv_nilc, Cv_cl, Cv_ow, noFn, PV.noF, NR_iff, NRO, hb, ares, ares1, ldo, ld, nOw, PV.isOw, TY]) (by simp [cMap, obsT, obT, okO, okP, okA, okC, okD, okI, reP, reA, reC, srcI, Nl_nil, Nl_cons, PV.nl, upd_at, ofL_n, ofL_c, VS, argsT, lendA, lendL, lendT, Cvl_nil, Cvl_cons, Cv_bool, Cv_int, Cv_str, Cv_nils, Cv_nilc, Cv_cl, Cv_ow, noFn, PV.noF, NR_iff, NRO, hb, ares, ares1, ldo, ld, nOw, PV.isOw, TY])⟩
      simp only at h7
      by_cases q : j = md
      · subst q; exact h6
      · have := hs md j (by omega) (by omega); omega
  · have h5 : lo = hi := by simp at h5; omega
    subst h5
    by_cases h6 : lo < m.nodes.length
    · have e := nd_pv h6
      have hd : decide ((lo : Int) < (m.nodes.length : Int)) = true := by simpa using h6
      simp only [e, cNode, hd, VS, VZ, TY, openC, foldC, foldN, PF, pick_or, pick_and, aop, aopD, rdN, wrN, idL, idA, apure, AS.ev, startA, strip, abin, aint, astr, alen, aslice, optI, aconv, aconvM, gdv, AS.put, ofVal, pcells, ld, ldo, nOw, PV.isOw, gtmp, within, astore, splice, afill, allCells, okIdx, asrc, aflat, aappend, hintOk, PV.clo, PV.clo1, ofL_n, ofL_c, nams, reO, reP, reA, reC, srcI, setG, obG, List.cons.injEq, aeq1, aeqs, onG, Int.reduceLE, Int.reduceNeg, Int.reduceLT, Nat.reduceEqDiff, ↓reduceIte, Nat.reduceLT, Nat.reduceLeDiff, Nat.reduceAdd, Nat.reduceMul, Nat.reduceSub, reduceCtorEq, Int.reduceEq]
      refine ⟨by omega, fun h7 => ?_, fun h7 => ?_⟩
      · have h7 : (nd m.nodes lo).id = x := by simpa using h7
        have := ix_some (l := nids m) (by omega) ((nids_at h6).trans h7) (fun j hj => by rw [nids_at (by omega)]; have := h3 j hj; omega)
        exact Ret_go [] (by simp [this, obsT, obT, okO, okP, okA, okC, okD, okI, reP, reA, reC, srcI, Nl_nil, Nl_cons, PV.nl, upd_at, ofL_n, ofL_c, VS, argsT, lendA, lendL, lendT, Cvl_nil, Cvl_cons, Cv_bool, Cv_int, Cv_str, Cv_nils, Cv_nilc, Cv_cl, Cv_ow, noFn, PV.noF, NR_iff, NRO, hb, ares, ares1, ldo, ld, nOw, PV.isOw, TY]) (by simp [obsT, obT, okO, okP, okA, okC, okD, okI, reP, reA, reC, srcI, Nl_nil, Nl_cons, PV.nl, upd_at, ofL_n, ofL_c, VS, argsT, lendA, lendL, lendT, Cvl_nil, Cvl_cons, Cv_bool, Cv_int, Cv_str, Cv_nils, Cv_nilc, Cv_cl, Cv_ow, noFn, PV.noF, NR_iff, NRO, hb, ares, ares1, ldo, ld, nOw, PV.isOw, TY]) (by simp [obsT, obT, okO, okP, okA, okC, okD, okI, reP, reA, reC, srcI, Nl_nil, Nl_cons, PV.nl, upd_at, ofL_n, ofL_c, VS, argsT, lendA, lendL, lendT, Cvl_nil, Cvl_cons, Cv_bool, Cv_int, Cv_str, Cv_nils, Cv_nilc, Cv_cl, Cv_ow, noFn, PV.noF, NR_iff, NRO, hb, ares, ares1, ldo, ld, nOw, PV.isOw, TY])
      · have h7 : (nd m.nodes lo).id ≠ x := by simpa using h7
        have := ix_none (l := nids m) (x := x) (fun j hj => by
          rw [hlen] at hj
          rw [nids_at hj]
          by_cases q : j < lo
          · have := h3 j q; omega
          · have := h4 j (by omega) hj
            by_cases q2 : j = lo
            · subst q2; exact h7
            · have := hs lo j (by omega) hj; have := h4 lo (by omega) h6; omega)
        exact Ret_go [] (by simp [this, obsT, obT, okO, okP, okA, okC, okD, okI, reP, reA, reC, srcI, Nl_nil, Nl_cons, PV.nl, upd_at, ofL_n, ofL_c, VS, argsT, lendA, lendL, lendT, Cvl_nil, Cvl_cons, Cv_bool, Cv_int, Cv_str, Cv_nils, Cv_nilc, Cv_cl, Cv_ow, noFn, PV.noF, NR_iff, NRO, hb, ares, ares1, ldo, ld, nOw, PV.isOw, TY]) (by simp [obsT, obT, okO, okP, okA, okC, okD, okI, reP, reA, reC, srcI, Nl_nil, Nl_cons, PV.nl, upd_at, ofL_n, ofL_c, VS, argsT, lendA, lendL, lendT, Cvl_nil, Cvl_cons, Cv_bool, Cv_int, Cv_str, Cv_nils, Cv_nilc, Cv_cl, Cv_ow, noFn, PV.noF, NR_iff, NRO, hb, ares, ares1, ldo, ld, nOw, PV.isOw, TY]) (by simp [obsT, obT, okO, okP, okA, okC, okD, okI, reP, reA, reC, srcI, Nl_nil, Nl_cons, PV.nl, upd_at, ofL_n, ofL_c, VS, argsT, lendA, lendL, lendT, Cvl_nil, Cvl_cons, Cv_bool, Cv_int, Cv_str, Cv_nils, Cv_nilc, Cv_cl, Cv_ow, noFn, PV.noF, NR_iff, NRO, hb, ares, ares1, ldo, ld, nOw, PV.isOw, TY])
    · have hd : decide ((lo : Int) < (m.nodes.length : Int)) = false := by simp; omega
      have := ix_none (l := nids m) (x := x) (fun j hj => by
        rw [hlen] at hj
        rw [nids_at hj]
        have := h3 j (by omega); omega)
      simp only [hd, VS, VZ, TY, openC, foldC, foldN, PF, pick_or, pick_and, aop, aopD, rdN, wrN, idL, idA, apure, AS.ev, startA, strip, abin, aint, astr, alen, aslice, optI, aconv, aconvM, gdv, AS.put, ofVal, pcells, ld, ldo, nOw, PV.isOw, gtmp, within, astore, splice, afill, allCells, okIdx, asrc, aflat, aappend, hintOk, PV.clo, PV.clo1, ofL_n, ofL_c, nams, reO, reP, reA, reC, srcI, setG, obG, List.cons.injEq, aeq1, aeqs, onG, Int.reduceLE, Int.reduceNeg, Int.reduceLT, Nat.reduceEqDiff, ↓reduceIte, Nat.reduceLT, Nat.reduceLeDiff, Nat.reduceAdd, Nat.reduceMul, Nat.reduceSub, reduceCtorEq, Int.reduceEq]
      exact Ret_go [] (by simp [this, obsT, obT, okO, okP, okA, okC, okD, okI, reP, reA, reC, srcI, Nl_nil, Nl_cons, PV.nl, upd_at, ofL_n, ofL_c, VS, argsT, lendA, lendL, lendT, Cvl_nil, Cvl_cons, Cv_bool, Cv_int, Cv_str, Cv_nils, Cv_nilc, Cv_cl, Cv_ow, noFn, PV.noF, NR_iff, NRO, hb, ares, ares1, ldo, ld, nOw, PV.isOw, TY]) (by simp [obsT, obT, okO, okP, okA, okC, okD, okI, reP, reA, reC, srcI, Nl_nil, Nl_cons, PV.nl, upd_at, ofL_n, ofL_c, VS, argsT, lendA, lendL, lendT, Cvl_nil, Cvl_cons, Cv_bool, Cv_int, Cv_str, Cv_nils, Cv_nilc, Cv_cl, Cv_ow, noFn, PV.noF, NR_iff, NRO, hb, ares, ares1, ldo, ld, nOw, PV.isOw, TY]) (by simp [obsT, obT, okO, okP, okA, okC, okD, okI, reP, reA, reC, srcI, Nl_nil, Nl_cons, PV.nl, upd_at, ofL_n, ofL_c, VS, argsT, lendA, lendL, lendT, Cvl_nil, Cvl_cons, Cv_bool, Cv_int, Cv_str, Cv_nils, Cv_nilc, Cv_cl, Cv_ow, noFn, PV.noF, NR_iff, NRO, hb, ares, ares1, ldo, ld, nOw, PV.isOw, TY])
end Go.Proofs.Ytofaiiobggnibaa.Wd
