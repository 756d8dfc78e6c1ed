/- What the proof of FnExactLate stands on, part 6: plain lemmas and contracts. -/
import Derived.Test.YtmmlpehfieojdaaProg
import Derived.Test.YtmmlpehfieojdaaXLT5
namespace Go.Proofs.Ytmmlpehfieojdaa.Wd
open Go Go.RowKit Go.Proofs Go.Proofs.YtmmlpehfieojdaaW.AW
set_option linter.unusedVariables false
set_option linter.unusedSimpArgs false
set_option maxRecDepth 100000
theorem lpv_new {X : Type} {pv : X → List PV} {L : List X} {x : X} : lpv pv (L ++ [x]) L.length = pv x := by simp [lpv]
theorem lpv_old {X : Type} {pv : X → List PV} {L : List X} {x : X} {j : Nat} (h : j < L.length) : lpv pv (L ++ [x]) j = lpv pv L j := by unfold lpv; rw [List.getElem?_append_left h]
theorem lpv_map {X Y : Type} (pv : Y → List PV) (f : X → Y) (l : List X) {i : Nat} (h : i < l.length) : lpv pv (l.map f) i = pv (f l[i]) := by rw [lpv_at (by simpa using h)]; simp
theorem T_open {C : Cx} {s : AS} (o : Go.Proofs.YtmmlpehfieojdaaW.AW.Id) (i j : Nat) {s2 : AS} (h : openC s.m o i j (fun m' => Go.Proofs.YtmmlpehfieojdaaW.AW.Told C ⟨s.t, m'⟩ s2)) : Go.Proofs.YtmmlpehfieojdaaW.AW.Told C s s2 := by obtain ⟨m', h1, h2⟩ := openC_ok (C := C) h; exact h2.trans h1
theorem R_open {C : Cx} {P : Program} {s : AS} (o : Go.Proofs.YtmmlpehfieojdaaW.AW.Id) (i j : Nat) {rs : List ResultVar} {n0 : Nat} {r : PV} {m1 : Mem} {e : Exit} (h : openC s.m o i j (fun m' => RetT C P rs n0 r m1 e ⟨s.t, m'⟩)) : RetT C P rs n0 r m1 e s := by obtain ⟨m', h1, h2⟩ := openC_ok (C := C) h; exact RetT.told h2 h1
def shC (b : Int) (c : Cl) : Cl := ⟨c.stop, c.arr + b, c.dep + b⟩
/-- Calls, those from k on to i later. -/
def shU (b : Int) (l : List Cl) (k i j : Nat) : Cl := if k ≤ j ∧ j < i then shC b (clA l j) else clA l j
def shL (b : Int) (l : List Cl) (k : Nat) : List Cl := (List.range l.length).map (shU b l k l.length)
theorem shL_len (b : Int) (l : List Cl) (k : Nat) : (shL b l k).length = l.length := by simp [shL]
theorem shL_at (b : Int) (l : List Cl) (k : Nat) {j : Nat} (h : j < l.length) : lpv pCall (shL b l k) j = pCall (shU b l k l.length j) := by
  unfold shL; rw [lpv_map _ _ _ (by simpa using h)]; simp
def lateT (b : Int) (k : Nat) (t : Tp) : Tp := ⟨t.line, t.days, shL b t.calls k⟩
def lateTs (l : List Tp) (q k : Nat) (b : Int) : List Tp := (List.range l.length).map (fun i => if i = q then lateT b k (tpA l i) else tpA l i)
def lateL (l : Ln) (q k : Nat) (b : Int) : Ln := ⟨l.stops, lateTs l.trips q k b, l.walks⟩
def lateOk (l : Ln) (q k b : Int) : Bool := linesB l && decide (0 ≤ q ∧ q < l.trips.length ∧ 0 ≤ k ∧ k < (tpA l.trips q.toNat).calls.length ∧ 0 ≤ b ∧ b ≤ 100000)
def ln0 : Ln := ⟨[], [], []⟩
def late (l : Ln) (q k b : Int) : Ln := if lateOk l q k b = true then (if linesB (lateL l q.toNat k.toNat b) = true then lateL l q.toNat k.toNat b else ln0) else ln0
abbrev rLines (l : Ln) : PV := .ag [.sl [0] 1 l.stops.length 0 l.stops.length, .sl [1] 3 l.trips.length 0 l.trips.length, .sl [2] 3 l.walks.length 0 l.walks.length]
abbrev mLines (l : Ln) : List Ob := [.row 1 l.stops.length (lpv pString l.stops), .row 3 l.trips.length (lpv oTrip l.trips), .row 3 l.walks.length (lpv pWalk l.walks)]
theorem take_tp {l : List Tp} {i : Nat} (h : i < l.length) : l.take (i + 1) = l.take i ++ [tpA l i] := by rw [List.take_succ_eq_append_getElem h, tpA_at h]
theorem take_tl {X : Type} (l : List X) {i : Nat} (h : i ≤ l.length) : (l.take i).length = i := by simp; omega
set_option maxHeartbeats 4000000 in
theorem cs_copy (l : Ln) (hl : bLines l) : AC Try.prog 102 [.ag (cLines l)] (ML []) (rLines l) (ML (mLines l)) := by
  obtain ⟨b1, b2, b3, b4⟩ := hl
  refine AC.of Try.func102 rfl rfl (by simp [Try.ntmps102]) rfl (fun C hC hm => ?_)
  rw [Try.ntmps102] at hC
  have hn : C.m0.nx = _ := congrArg Mem.nx hm
  simp only [ML_nx, List.length_nil, List.length_cons, Nat.zero_add, Nat.reduceAdd] at hn
  simp only [hC, cLines, VS, VZ, TY, openC, foldC, foldN, PF, pick_or, pick_and, aop, aopD, rdN, wrN, idL, idA, apure, AS.ev, startA, strip, abin, aint, astr, alen, aslice, optI, aconv, aconvM, gdv, AS.put, ofVal, pcells, ld, ldo, nOw, PV.isOw, gtmp, within, astore, splice, afill, allCells, okIdx, asrc, aflat, aappend, hintOk, PV.clo, PV.clo1, ofL_n, ofL_c, nams, reO, reP, reA, reC, srcI, setG, obG, List.cons.injEq, aeq1, aeqs, onG, Int.reduceLE, Int.reduceNeg, Int.reduceLT, Nat.reduceEqDiff, ↓reduceIte, Nat.reduceLT, Nat.reduceLeDiff, Nat.reduceAdd, Nat.reduceMul, Nat.reduceSub, reduceCtorEq, Int.reduceEq]
  repeat first | (refine And.intro (by kernel_rfl) ?_) | (refine And.intro (by omega) ?_) | (refine And.intro (by simp) ?_)
  refine AL.go (X := Nat) (fun i => ⟨ofL [(1, .bp [0] 0), (2, .bp [1] 0), (3, .bp [4] 0), (4, .int .i64 (i : Int))], ML [.box (cLines l), .box [.nils, .nils, .nils], .row 1 l.stops.length (lpv pString l.stops), .row 3 l.walks.length (lpv pWalk l.walks), .box [.sl [2] 1 l.stops.length 0 l.stops.length, .sl [5] 3 i 0 i, .sl [3] 3 l.walks.length 0 l.walks.length], .row 3 i (lpv oTrip (l.trips.take i))]⟩) (fun i => l.trips.length - i) (fun i => i ≤ l.trips.length) 0 (by simp) ?_ (fun i hi => vc_ok _ _ _ ?_)
  · refine T_foldn [6] 0 1 3 ?_
    simp only [VS, VZ, TY, openC, foldC, foldN, PF, pick_or, pick_and, aop, aopD, rdN, wrN, idL, idA, apure, AS.ev, startA, strip, abin, aint, astr, alen, aslice, optI, aconv, aconvM, gdv, AS.put, ofVal, pcells, ld, ldo, nOw, PV.isOw, gtmp, within, astore, splice, afill, allCells, okIdx, asrc, aflat, aappend, hintOk, PV.clo, PV.clo1, ofL_n, ofL_c, nams, reO, reP, reA, reC, srcI, setG, obG, List.cons.injEq, aeq1, aeqs, onG, Int.reduceLE, Int.reduceNeg, Int.reduceLT, Nat.reduceEqDiff, ↓reduceIte, Nat.reduceLT, Nat.reduceLeDiff, Nat.reduceAdd, Nat.reduceMul, Nat.reduceSub, reduceCtorEq, Int.reduceEq]
    refine T_open [6] 0 1 ?_
    simp only [VS, VZ, TY, openC, foldC, foldN, PF, pick_or, pick_and, aop, aopD, rdN, wrN, idL, idA, apure, AS.ev, startA, strip, abin, aint, astr, alen, aslice, optI, aconv, aconvM, gdv, AS.put, ofVal, pcells, ld, ldo, nOw, PV.isOw, gtmp, within, astore, splice, afill, allCells, okIdx, asrc, aflat, aappend, hintOk, PV.clo, PV.clo1, ofL_n, ofL_c, nams, reO, reP, reA, reC, srcI, setG, obG, List.cons.injEq, aeq1, aeqs, onG, Int.reduceLE, Int.reduceNeg, Int.reduceLT, Nat.reduceEqDiff, ↓reduceIte, Nat.reduceLT, Nat.reduceLeDiff, Nat.reduceAdd, Nat.reduceMul, Nat.reduceSub, reduceCtorEq, Int.reduceEq]
    exact Told_go hn [[0], [1], [3], [5], [6], [7]] tS (by simp [cLines, nl_String, nl_Walk, nl_Trip, obsT, obT, okO, okP, okA, okC, okD, okI, reP, reA, reC, srcI, Nl_nil, Nl_cons, PV.nl, upd_at, ofL_n, ofL_c, VS, argsT, lendA, lendL, lendT, Cvl_nil, Cvl_cons, Cv_bool, Cv_int, Cv_str, Cv_nils, Cv_nilc, Cv_cl, Cv_ow, noFn, PV.noF, NR_iff, NRO, hb, ares, ares1, ldo, ld, nOw, PV.isOw, TY]) (by simp [cLines, nl_String, nl_Walk, nl_Trip, obsT, obT, okO, okP, okA, okC, okD, okI, reP, reA, reC, srcI, Nl_nil, Nl_cons, PV.nl, upd_at, ofL_n, ofL_c, VS, argsT, lendA, lendL, lendT, Cvl_nil, Cvl_cons, Cv_bool, Cv_int, Cv_str, Cv_nils, Cv_nilc, Cv_cl, Cv_ow, noFn, PV.noF, NR_iff, NRO, hb, ares, ares1, ldo, ld, nOw, PV.isOw, TY])
  simp only [hC, cLines, VS, VZ, TY, openC, foldC, foldN, PF, pick_or, pick_and, aop, aopD, rdN, wrN, idL, idA, apure, AS.ev, startA, strip, abin, aint, astr, alen, aslice, optI, aconv, aconvM, gdv, AS.put, ofVal, pcells, ld, ldo, nOw, PV.isOw, gtmp, within, astore, splice, afill, allCells, okIdx, asrc, aflat, aappend, hintOk, PV.clo, PV.clo1, ofL_n, ofL_c, nams, reO, reP, reA, reC, srcI, setG, obG, List.cons.injEq, aeq1, aeqs, onG, Int.reduceLE, Int.reduceNeg, Int.reduceLT, Nat.reduceEqDiff, ↓reduceIte, Nat.reduceLT, Nat.reduceLeDiff, Nat.reduceAdd, Nat.reduceMul, Nat.reduceSub, reduceCtorEq, Int.reduceEq]
  refine ⟨fun h1 => ?_, fun h1 => ?_⟩
  · have h1 : i < l.trips.length := by simpa using h1
    have e := tpA_pv h1
    have us := take_tp h1
    have tl := take_tl l.trips hi
    have hc : (tpA l.trips i).calls.length ≤ 1048576 := by rw [tpA_at h1]; exact b3 _ (List.getElem_mem h1)
    refine ⟨by omega, ?_⟩
    simp only [e, cTrip, VS, VZ, TY, openC, foldC, foldN, PF, pick_or, pick_and, aop, aopD, rdN, wrN, idL, idA, apure, AS.ev, startA, strip, abin, aint, astr, alen, aslice, optI, aconv, aconvM, gdv, AS.put, ofVal, pcells, ld, ldo, nOw, PV.isOw, gtmp, within, astore, splice, afill, allCells, okIdx, asrc, aflat, aappend, hintOk, PV.clo, PV.clo1, ofL_n, ofL_c, nams, reO, reP, reA, reC, srcI, setG, obG, List.cons.injEq, aeq1, aeqs, onG, Int.reduceLE, Int.reduceNeg, Int.reduceLT, Nat.reduceEqDiff, ↓reduceIte, Nat.reduceLT, Nat.reduceLeDiff, Nat.reduceAdd, Nat.reduceMul, Nat.reduceSub, reduceCtorEq, Int.reduceEq]
    simp (disch := omega) only [wr64]
    repeat first | (refine And.intro (by kernel_rfl) ?_) | (refine And.intro (by omega) ?_) | (refine And.intro (by simp) ?_)
    refine ⟨i + 1, by omega, by omega, ?_⟩
    refine T_fold [10] i 2 [8] ?_
    simp only [VS, VZ, TY, openC, foldC, foldN, PF, pick_or, pick_and, aop, aopD, rdN, wrN, idL, idA, apure, AS.ev, startA, strip, abin, aint, astr, alen, aslice, optI, aconv, aconvM, gdv, AS.put, ofVal, pcells, ld, ldo, nOw, PV.isOw, gtmp, within, astore, splice, afill, allCells, okIdx, asrc, aflat, aappend, hintOk, PV.clo, PV.clo1, ofL_n, ofL_c, nams, reO, reP, reA, reC, srcI, setG, obG, List.cons.injEq, aeq1, aeqs, onG, Int.reduceLE, Int.reduceNeg, Int.reduceLT, Nat.reduceEqDiff, ↓reduceIte, Nat.reduceLT, Nat.reduceLeDiff, Nat.reduceAdd, Nat.reduceMul, Nat.reduceSub, reduceCtorEq, Int.reduceEq]
    refine ⟨by omega, by simp, by simp [nl_Call], ?_⟩
    refine Told_go hn [[0], [1], [2], [3], [4], [10]] tS ?_ (by simp [cLines, nl_String, nl_Walk, nl_Trip, obsT, obT, okO, okP, okA, okC, okD, okI, reP, reA, reC, srcI, Nl_nil, Nl_cons, PV.nl, upd_at, ofL_n, ofL_c, VS, argsT, lendA, lendL, lendT, Cvl_nil, Cvl_cons, Cv_bool, Cv_int, Cv_str, Cv_nils, Cv_nilc, Cv_cl, Cv_ow, noFn, PV.noF, NR_iff, NRO, hb, ares, ares1, ldo, ld, nOw, PV.isOw, TY])
    rw [us]
    simp [cLines, nl_String, nl_Walk, obsT, obT, okO, okP, okA, okC, okD, okI, reP, reA, reC, srcI, Nl_nil, Nl_cons, PV.nl, upd_at, ofL_n, ofL_c, VS, argsT, lendA, lendL, lendT, Cvl_nil, Cvl_cons, Cv_bool, Cv_int, Cv_str, Cv_nils, Cv_nilc, Cv_cl, Cv_ow, noFn, PV.noF, NR_iff, NRO, hb, ares, ares1, ldo, ld, nOw, PV.isOw, TY]
    intro j hj
    refine ⟨?_, by simp [nl_Trip]⟩
    by_cases q : j = i
    · subst q
      have := lpv_new (pv := oTrip) (L := l.trips.take j) (x := tpA l.trips j)
      rw [tl] at this
      rw [this]; simp [oTrip, obsT, obT, okO, okP, okA, okC, okD, okI, reP, reA, reC, srcI, Nl_nil, Nl_cons, PV.nl, upd_at, ofL_n, ofL_c, VS, argsT, lendA, lendL, lendT, Cvl_nil, Cvl_cons, Cv_bool, Cv_int, Cv_str, Cv_nils, Cv_nilc, Cv_cl, Cv_ow, noFn, PV.noF, NR_iff, NRO, hb, ares, ares1, ldo, ld, nOw, PV.isOw, TY]
    · rw [lpv_old (by omega)]; simp [q, show j < i by omega, obsT, obT, okO, okP, okA, okC, okD, okI, reP, reA, reC, srcI, Nl_nil, Nl_cons, PV.nl, upd_at, ofL_n, ofL_c, VS, argsT, lendA, lendL, lendT, Cvl_nil, Cvl_cons, Cv_bool, Cv_int, Cv_str, Cv_nils, Cv_nilc, Cv_cl, Cv_ow, noFn, PV.noF, NR_iff, NRO, hb, ares, ares1, ldo, ld, nOw, PV.isOw, TY]
  have : i = l.trips.length := by simp at h1; omega
  subst this
  rw [List.take_length] at *
  exact Ret_go [[2], [5], [3]] tS (by simp [nl_String, nl_Walk, nl_Trip, obsT, obT, okO, okP, okA, okC, okD, okI, reP, reA, reC, srcI, Nl_nil, Nl_cons, PV.nl, upd_at, ofL_n, ofL_c, VS, argsT, lendA, lendL, lendT, Cvl_nil, Cvl_cons, Cv_bool, Cv_int, Cv_str, Cv_nils, Cv_nilc, Cv_cl, Cv_ow, noFn, PV.noF, NR_iff, NRO, hb, ares, ares1, ldo, ld, nOw, PV.isOw, TY]) (by simp [nl_String, nl_Walk, nl_Trip, obsT, obT, okO, okP, okA, okC, okD, okI, reP, reA, reC, srcI, Nl_nil, Nl_cons, PV.nl, upd_at, ofL_n, ofL_c, VS, argsT, lendA, lendL, lendT, Cvl_nil, Cvl_cons, Cv_bool, Cv_int, Cv_str, Cv_nils, Cv_nilc, Cv_cl, Cv_ow, noFn, PV.noF, NR_iff, NRO, hb, ares, ares1, ldo, ld, nOw, PV.isOw, TY])
theorem late_B {l : Ln} {q k b : Int} (h : linesB l = false) : late l q k b = ln0 := by simp [late, lateOk, h]
theorem late_no {l : Ln} {q k b : Int} (h : ¬ (0 ≤ q ∧ q < l.trips.length ∧ 0 ≤ k ∧ k < (tpA l.trips q.toNat).calls.length ∧ 0 ≤ b ∧ b ≤ 100000)) : late l q k b = ln0 := by simp [late, lateOk, h]
theorem late_ok {l : Ln} {q k b : Int} (hB : linesB l = true) (h : 0 ≤ q ∧ q < l.trips.length ∧ 0 ≤ k ∧ k < (tpA l.trips q.toNat).calls.length ∧ 0 ≤ b ∧ b ≤ 100000) : late l q k b = if linesB (lateL l q.toNat k.toNat b) = true then lateL l q.toNat k.toNat b else ln0 := by simp [late, lateOk, h, hB]
theorem nl1 (L i) : Nl (lpv pString L i) := (nl_String L i).2 trivial
theorem nl2 (L i) : Nl (lpv oTrip L i) := (nl_Trip L i).2 trivial
theorem nl3 (L i) : Nl (lpv pWalk L i) := (nl_Walk L i).2 trivial
theorem nl4 (x : Cl) : Nl (pCall x) := by simp [pCall, Nl_cons, Nl_nil, PV.nl]
theorem nl5 (L i) : Nl (lpv pCall L i) := (nl_Call L i).2 trivial
theorem lateTs_len (l : List Tp) (q k : Nat) (b : Int) : (lateTs l q k b).length = l.length := by simp [lateTs]
theorem lateTs_at (l : List Tp) (q k : Nat) (b : Int) {j : Nat} (h : j < l.length) : lpv oTrip (lateTs l q k b) j = oTrip (if j = q then lateT b k (tpA l j) else tpA l j) := by
  unfold lateTs; rw [lpv_map _ _ _ (by simpa using h)]; simp
theorem late_s {l : Ln} {q k : Nat} {b : Int} (h : sLines l) : sLines (lateL l q k b) := by
  have hm : ∀ x ∈ lateTs l.trips q k b, ∃ t ∈ l.trips, x.line = t.line ∧ x.calls.length = t.calls.length := fun x hx => by
    simp only [lateTs, List.mem_map, List.mem_range] at hx
    obtain ⟨i, hi, rfl⟩ := hx
    refine ⟨tpA l.trips i, by rw [tpA_at hi]; exact List.getElem_mem hi, ?_⟩
    split
    · exact ⟨rfl, by simp [lateT, shL_len]⟩
    · exact ⟨rfl, rfl⟩
  obtain ⟨h1, h2, b1, b2, b3, b4⟩ := h
  refine ⟨h1, fun x hx => ?_, b1, by simp only [lateL]; rw [lateTs_len]; exact b2, fun x hx => ?_, b4⟩
  · obtain ⟨t, ht, e, _⟩ := hm x hx; rw [e]; exact h2 t ht
  · obtain ⟨t, ht, _, e⟩ := hm x hx; have := b3 t ht; simp only [bTrip] at *; omega
theorem shU_0 (b : Int) (l : List Cl) (k j : Nat) : shU b l k k j = clA l j := by unfold shU; rw [if_neg (by omega)]
theorem trip_calls {l : Ln} (h : linesB l = true) {n : Nat} (hn : n < l.trips.length) : ∀ j, j < (tpA l.trips n).calls.length → 0 ≤ (clA (tpA l.trips n).calls j).stop ∧ (clA (tpA l.trips n).calls j).stop < l.stops.length ∧ 0 ≤ (clA (tpA l.trips n).calls j).arr ∧ (clA (tpA l.trips n).calls j).arr ≤ (clA (tpA l.trips n).calls j).dep ∧ (clA (tpA l.trips n).calls j).dep ≤ 1000000 := by
  simp only [linesB, Bool.and_eq_true, allI_iff] at h
  have := h.2.2.1 n (by omega) (by omega)
  simp only [tripB, Bool.and_eq_true, allI_iff] at this
  have hc := this.2
  intro j
  induction j with
  | zero =>
    intro hj
    have := hc 0 (by omega) (by omega)
    simp only [callB, decide_eq_true_eq, lastD] at this
    simp at this
    omega
  | succ j ih =>
    intro hj
    have h1 := ih (by omega)
    have := hc (j + 1) (by omega) (by omega)
    simp only [callB, decide_eq_true_eq, lastD_s] at this
    omega
theorem tp_len (l : Ln) {n : Nat} (hn : n < l.trips.length) (b3 : ∀ y ∈ l.trips, bTrip y) : (tpA l.trips n).calls.length ≤ 1048576 := by rw [tpA_at hn]; exact b3 _ (List.getElem_mem hn)
set_option maxHeartbeats 4000000 in
theorem cs_Late (l : Ln) (q k b : Int) (hl : sLines l) : AC Try.prog 52 [.ag (cLines l), .int .i64 q, .int .i64 k, .int .i64 b] (ML []) (rLines (late l q k b)) (ML (mLines (late l q k b))) := by
  obtain ⟨b1, b2, b3, b4⟩ := hl.2.2
  refine AC.ofA Try.func52 rfl rfl (by simp [Try.ntmps52]) rfl (fun C hC hm => ?_)
  rw [Try.ntmps52] at hC
  have hn : C.m0.nx = _ := congrArg Mem.nx hm
  simp only [ML_nx, List.length_nil, List.length_cons, Nat.zero_add, Nat.reduceAdd] at hn
  refine AW_cut ?_
  simp only [hC, cLines, VS, VZ, TY, openC, foldC, foldN, PF, pick_or, pick_and, aop, aopD, rdN, wrN, idL, idA, apure, AS.ev, startA, strip, abin, aint, astr, alen, aslice, optI, aconv, aconvM, gdv, AS.put, ofVal, pcells, ld, ldo, nOw, PV.isOw, gtmp, within, astore, splice, afill, allCells, okIdx, asrc, aflat, aappend, hintOk, PV.clo, PV.clo1, ofL_n, ofL_c, nams, reO, reP, reA, reC, srcI, setG, obG, List.cons.injEq, aeq1, aeqs, onG, Int.reduceLE, Int.reduceNeg, Int.reduceLT, Nat.reduceEqDiff, ↓reduceIte, Nat.reduceLT, Nat.reduceLeDiff, Nat.reduceAdd, Nat.reduceMul, Nat.reduceSub, reduceCtorEq, Int.reduceEq]
  refine AW_cut ?_
  simp only [hC, cLines, VS, VZ, TY, openC, foldC, foldN, PF, pick_or, pick_and, aop, aopD, rdN, wrN, idL, idA, apure, AS.ev, startA, strip, abin, aint, astr, alen, aslice, optI, aconv, aconvM, gdv, AS.put, ofVal, pcells, ld, ldo, nOw, PV.isOw, gtmp, within, astore, splice, afill, allCells, okIdx, asrc, aflat, aappend, hintOk, PV.clo, PV.clo1, ofL_n, ofL_c, nams, reO, reP, reA, reC, srcI, setG, obG, List.cons.injEq, aeq1, aeqs, onG, Int.reduceLE, Int.reduceNeg, Int.reduceLT, Nat.reduceEqDiff, ↓reduceIte, Nat.reduceLT, Nat.reduceLeDiff, Nat.reduceAdd, Nat.reduceMul, Nat.reduceSub, reduceCtorEq, Int.reduceEq]
  refine acall_p false (cs_LinesOk l hl) (by simp [cLines, cv_Trip, cv_Call, cv_Walk, cv_String, obsT, obT, okO, okP, okA, okC, okD, okI, reP, reA, reC, srcI, Nl_nil, Nl_cons, PV.nl, upd_at, ofL_n, ofL_c, VS, argsT, lendA, lendL, lendT, Cvl_nil, Cvl_cons, Cv_bool, Cv_int, Cv_str, Cv_nils, Cv_nilc, Cv_cl, Cv_ow, noFn, PV.noF, NR_iff, NRO, hb, ares, ares1, ldo, ld, nOw, PV.isOw, TY]) tS (.inl rfl) ?_
  cases hB : linesB l with
  | false =>
    simp only [hC, hB, cLines, VS, VZ, TY, openC, foldC, foldN, PF, pick_or, pick_and, aop, aopD, rdN, wrN, idL, idA, apure, AS.ev, startA, strip, abin, aint, astr, alen, aslice, optI, aconv, aconvM, gdv, AS.put, ofVal, pcells, ld, ldo, nOw, PV.isOw, gtmp, within, astore, splice, afill, allCells, okIdx, asrc, aflat, aappend, hintOk, PV.clo, PV.clo1, ofL_n, ofL_c, nams, reO, reP, reA, reC, srcI, setG, obG, List.cons.injEq, aeq1, aeqs, onG, Int.reduceLE, Int.reduceNeg, Int.reduceLT, Nat.reduceEqDiff, ↓reduceIte, Nat.reduceLT, Nat.reduceLeDiff, Nat.reduceAdd, Nat.reduceMul, Nat.reduceSub, reduceCtorEq, Int.reduceEq]
    rw [late_B hB]
    refine R_foldn [1] 0 0 1 ?_
    simp only [VS, VZ, TY, openC, foldC, foldN, PF, pick_or, pick_and, aop, aopD, rdN, wrN, idL, idA, apure, AS.ev, startA, strip, abin, aint, astr, alen, aslice, optI, aconv, aconvM, gdv, AS.put, ofVal, pcells, ld, ldo, nOw, PV.isOw, gtmp, within, astore, splice, afill, allCells, okIdx, asrc, aflat, aappend, hintOk, PV.clo, PV.clo1, ofL_n, ofL_c, nams, reO, reP, reA, reC, srcI, setG, obG, List.cons.injEq, aeq1, aeqs, onG, Int.reduceLE, Int.reduceNeg, Int.reduceLT, Nat.reduceEqDiff, ↓reduceIte, Nat.reduceLT, Nat.reduceLeDiff, Nat.reduceAdd, Nat.reduceMul, Nat.reduceSub, reduceCtorEq, Int.reduceEq]
    refine R_open [1] 0 0 ?_
    simp only [VS, VZ, TY, openC, foldC, foldN, PF, pick_or, pick_and, aop, aopD, rdN, wrN, idL, idA, apure, AS.ev, startA, strip, abin, aint, astr, alen, aslice, optI, aconv, aconvM, gdv, AS.put, ofVal, pcells, ld, ldo, nOw, PV.isOw, gtmp, within, astore, splice, afill, allCells, okIdx, asrc, aflat, aappend, hintOk, PV.clo, PV.clo1, ofL_n, ofL_c, nams, reO, reP, reA, reC, srcI, setG, obG, List.cons.injEq, aeq1, aeqs, onG, Int.reduceLE, Int.reduceNeg, Int.reduceLT, Nat.reduceEqDiff, ↓reduceIte, Nat.reduceLT, Nat.reduceLeDiff, Nat.reduceAdd, Nat.reduceMul, Nat.reduceSub, reduceCtorEq, Int.reduceEq]
    refine R_foldn [1] 0 1 3 ?_
    simp only [VS, VZ, TY, openC, foldC, foldN, PF, pick_or, pick_and, aop, aopD, rdN, wrN, idL, idA, apure, AS.ev, startA, strip, abin, aint, astr, alen, aslice, optI, aconv, aconvM, gdv, AS.put, ofVal, pcells, ld, ldo, nOw, PV.isOw, gtmp, within, astore, splice, afill, allCells, okIdx, asrc, aflat, aappend, hintOk, PV.clo, PV.clo1, ofL_n, ofL_c, nams, reO, reP, reA, reC, srcI, setG, obG, List.cons.injEq, aeq1, aeqs, onG, Int.reduceLE, Int.reduceNeg, Int.reduceLT, Nat.reduceEqDiff, ↓reduceIte, Nat.reduceLT, Nat.reduceLeDiff, Nat.reduceAdd, Nat.reduceMul, Nat.reduceSub, reduceCtorEq, Int.reduceEq]
    refine R_open [1] 0 1 ?_
    simp only [VS, VZ, TY, openC, foldC, foldN, PF, pick_or, pick_and, aop, aopD, rdN, wrN, idL, idA, apure, AS.ev, startA, strip, abin, aint, astr, alen, aslice, optI, aconv, aconvM, gdv, AS.put, ofVal, pcells, ld, ldo, nOw, PV.isOw, gtmp, within, astore, splice, afill, allCells, okIdx, asrc, aflat, aappend, hintOk, PV.clo, PV.clo1, ofL_n, ofL_c, nams, reO, reP, reA, reC, srcI, setG, obG, List.cons.injEq, aeq1, aeqs, onG, Int.reduceLE, Int.reduceNeg, Int.reduceLT, Nat.reduceEqDiff, ↓reduceIte, Nat.reduceLT, Nat.reduceLeDiff, Nat.reduceAdd, Nat.reduceMul, Nat.reduceSub, reduceCtorEq, Int.reduceEq]
    refine R_foldn [1] 0 2 3 ?_
    simp only [VS, VZ, TY, openC, foldC, foldN, PF, pick_or, pick_and, aop, aopD, rdN, wrN, idL, idA, apure, AS.ev, startA, strip, abin, aint, astr, alen, aslice, optI, aconv, aconvM, gdv, AS.put, ofVal, pcells, ld, ldo, nOw, PV.isOw, gtmp, within, astore, splice, afill, allCells, okIdx, asrc, aflat, aappend, hintOk, PV.clo, PV.clo1, ofL_n, ofL_c, nams, reO, reP, reA, reC, srcI, setG, obG, List.cons.injEq, aeq1, aeqs, onG, Int.reduceLE, Int.reduceNeg, Int.reduceLT, Nat.reduceEqDiff, ↓reduceIte, Nat.reduceLT, Nat.reduceLeDiff, Nat.reduceAdd, Nat.reduceMul, Nat.reduceSub, reduceCtorEq, Int.reduceEq]
    refine R_open [1] 0 2 ?_
    simp only [VS, VZ, TY, openC, foldC, foldN, PF, pick_or, pick_and, aop, aopD, rdN, wrN, idL, idA, apure, AS.ev, startA, strip, abin, aint, astr, alen, aslice, optI, aconv, aconvM, gdv, AS.put, ofVal, pcells, ld, ldo, nOw, PV.isOw, gtmp, within, astore, splice, afill, allCells, okIdx, asrc, aflat, aappend, hintOk, PV.clo, PV.clo1, ofL_n, ofL_c, nams, reO, reP, reA, reC, srcI, setG, obG, List.cons.injEq, aeq1, aeqs, onG, Int.reduceLE, Int.reduceNeg, Int.reduceLT, Nat.reduceEqDiff, ↓reduceIte, Nat.reduceLT, Nat.reduceLeDiff, Nat.reduceAdd, Nat.reduceMul, Nat.reduceSub, reduceCtorEq, Int.reduceEq]
    exact Ret_go [[2], [3], [4]] (by simp [ln0, obsT, obT, okO, okP, okA, okC, okD, okI, reP, reA, reC, srcI, Nl_nil, Nl_cons, PV.nl, upd_at, ofL_n, ofL_c, VS, argsT, lendA, lendL, lendT, Cvl_nil, Cvl_cons, Cv_bool, Cv_int, Cv_str, Cv_nils, Cv_nilc, Cv_cl, Cv_ow, noFn, PV.noF, NR_iff, NRO, hb, ares, ares1, ldo, ld, nOw, PV.isOw, TY]) (by simp [ln0, nl_String, nl_Walk, nl_Trip, obsT, obT, okO, okP, okA, okC, okD, okI, reP, reA, reC, srcI, Nl_nil, Nl_cons, PV.nl, upd_at, ofL_n, ofL_c, VS, argsT, lendA, lendL, lendT, Cvl_nil, Cvl_cons, Cv_bool, Cv_int, Cv_str, Cv_nils, Cv_nilc, Cv_cl, Cv_ow, noFn, PV.noF, NR_iff, NRO, hb, ares, ares1, ldo, ld, nOw, PV.isOw, TY]) (by simp [ln0, nl_String, nl_Walk, nl_Trip, obsT, obT, okO, okP, okA, okC, okD, okI, reP, reA, reC, srcI, Nl_nil, Nl_cons, PV.nl, upd_at, ofL_n, ofL_c, VS, argsT, lendA, lendL, lendT, Cvl_nil, Cvl_cons, Cv_bool, Cv_int, Cv_str, Cv_nils, Cv_nilc, Cv_cl, Cv_ow, noFn, PV.noF, NR_iff, NRO, hb, ares, ares1, ldo, ld, nOw, PV.isOw, TY])
  | true =>
  by_cases hq : 0 ≤ q ∧ q < l.trips.length
  case neg =>
    rw [late_no (by omega)]
    by_cases hq0 : q < 0
    · have d0 : decide (q < 0) = true := by simpa using hq0
      simp only [hC, hB, d0, cLines, VS, VZ, TY, openC, foldC, foldN, PF, pick_or, pick_and, aop, aopD, rdN, wrN, idL, idA, apure, AS.ev, startA, strip, abin, aint, astr, alen, aslice, optI, aconv, aconvM, gdv, AS.put, ofVal, pcells, ld, ldo, nOw, PV.isOw, gtmp, within, astore, splice, afill, allCells, okIdx, asrc, aflat, aappend, hintOk, PV.clo, PV.clo1, ofL_n, ofL_c, nams, reO, reP, reA, reC, srcI, setG, obG, List.cons.injEq, aeq1, aeqs, onG, Int.reduceLE, Int.reduceNeg, Int.reduceLT, Nat.reduceEqDiff, ↓reduceIte, Nat.reduceLT, Nat.reduceLeDiff, Nat.reduceAdd, Nat.reduceMul, Nat.reduceSub, reduceCtorEq, Int.reduceEq]
      refine R_foldn [1] 0 0 1 ?_
      simp only [VS, VZ, TY, openC, foldC, foldN, PF, pick_or, pick_and, aop, aopD, rdN, wrN, idL, idA, apure, AS.ev, startA, strip, abin, aint, astr, alen, aslice, optI, aconv, aconvM, gdv, AS.put, ofVal, pcells, ld, ldo, nOw, PV.isOw, gtmp, within, astore, splice, afill, allCells, okIdx, asrc, aflat, aappend, hintOk, PV.clo, PV.clo1, ofL_n, ofL_c, nams, reO, reP, reA, reC, srcI, setG, obG, List.cons.injEq, aeq1, aeqs, onG, Int.reduceLE, Int.reduceNeg, Int.reduceLT, Nat.reduceEqDiff, ↓reduceIte, Nat.reduceLT, Nat.reduceLeDiff, Nat.reduceAdd, Nat.reduceMul, Nat.reduceSub, reduceCtorEq, Int.reduceEq]
      refine R_open [1] 0 0 ?_
      simp only [VS, VZ, TY, openC, foldC, foldN, PF, pick_or, pick_and, aop, aopD, rdN, wrN, idL, idA, apure, AS.ev, startA, strip, abin, aint, astr, alen, aslice, optI, aconv, aconvM, gdv, AS.put, ofVal, pcells, ld, ldo, nOw, PV.isOw, gtmp, within, astore, splice, afill, allCells, okIdx, asrc, aflat, aappend, hintOk, PV.clo, PV.clo1, ofL_n, ofL_c, nams, reO, reP, reA, reC, srcI, setG, obG, List.cons.injEq, aeq1, aeqs, onG, Int.reduceLE, Int.reduceNeg, Int.reduceLT, Nat.reduceEqDiff, ↓reduceIte, Nat.reduceLT, Nat.reduceLeDiff, Nat.reduceAdd, Nat.reduceMul, Nat.reduceSub, reduceCtorEq, Int.reduceEq]
      refine R_foldn [1] 0 1 3 ?_
      simp only [VS, VZ, TY, openC, foldC, foldN, PF, pick_or, pick_and, aop, aopD, rdN, wrN, idL, idA, apure, AS.ev, startA, strip, abin, aint, astr, alen, aslice, optI, aconv, aconvM, gdv, AS.put, ofVal, pcells, ld, ldo, nOw, PV.isOw, gtmp, within, astore, splice, afill, allCells, okIdx, asrc, aflat, aappend, hintOk, PV.clo, PV.clo1, ofL_n, ofL_c, nams, reO, reP, reA, reC, srcI, setG, obG, List.cons.injEq, aeq1, aeqs, onG, Int.reduceLE, Int.reduceNeg, Int.reduceLT, Nat.reduceEqDiff, ↓reduceIte, Nat.reduceLT, Nat.reduceLeDiff, Nat.reduceAdd, Nat.reduceMul, Nat.reduceSub, reduceCtorEq, Int.reduceEq]
      refine R_open [1] 0 1 ?_
      simp only [VS, VZ, TY, openC, foldC, foldN, PF, pick_or, pick_and, aop, aopD, rdN, wrN, idL, idA, apure, AS.ev, startA, strip, abin, aint, astr, alen, aslice, optI, aconv, aconvM, gdv, AS.put, ofVal, pcells, ld, ldo, nOw, PV.isOw, gtmp, within, astore, splice, afill, allCells, okIdx, asrc, aflat, aappend, hintOk, PV.clo, PV.clo1, ofL_n, ofL_c, nams, reO, reP, reA, reC, srcI, setG, obG, List.cons.injEq, aeq1, aeqs, onG, Int.reduceLE, Int.reduceNeg, Int.reduceLT, Nat.reduceEqDiff, ↓reduceIte, Nat.reduceLT, Nat.reduceLeDiff, Nat.reduceAdd, Nat.reduceMul, Nat.reduceSub, reduceCtorEq, Int.reduceEq]
      refine R_foldn [1] 0 2 3 ?_
      simp only [VS, VZ, TY, openC, foldC, foldN, PF, pick_or, pick_and, aop, aopD, rdN, wrN, idL, idA, apure, AS.ev, startA, strip, abin, aint, astr, alen, aslice, optI, aconv, aconvM, gdv, AS.put, ofVal, pcells, ld, ldo, nOw, PV.isOw, gtmp, within, astore, splice, afill, allCells, okIdx, asrc, aflat, aappend, hintOk, PV.clo, PV.clo1, ofL_n, ofL_c, nams, reO, reP, reA, reC, srcI, setG, obG, List.cons.injEq, aeq1, aeqs, onG, Int.reduceLE, Int.reduceNeg, Int.reduceLT, Nat.reduceEqDiff, ↓reduceIte, Nat.reduceLT, Nat.reduceLeDiff, Nat.reduceAdd, Nat.reduceMul, Nat.reduceSub, reduceCtorEq, Int.reduceEq]
      refine R_open [1] 0 2 ?_
      simp only [VS, VZ, TY, openC, foldC, foldN, PF, pick_or, pick_and, aop, aopD, rdN, wrN, idL, idA, apure, AS.ev, startA, strip, abin, aint, astr, alen, aslice, optI, aconv, aconvM, gdv, AS.put, ofVal, pcells, ld, ldo, nOw, PV.isOw, gtmp, within, astore, splice, afill, allCells, okIdx, asrc, aflat, aappend, hintOk, PV.clo, PV.clo1, ofL_n, ofL_c, nams, reO, reP, reA, reC, srcI, setG, obG, List.cons.injEq, aeq1, aeqs, onG, Int.reduceLE, Int.reduceNeg, Int.reduceLT, Nat.reduceEqDiff, ↓reduceIte, Nat.reduceLT, Nat.reduceLeDiff, Nat.reduceAdd, Nat.reduceMul, Nat.reduceSub, reduceCtorEq, Int.reduceEq]
      exact Ret_go [[2], [3], [4]] (by simp [ln0, obsT, obT, okO, okP, okA, okC, okD, okI, reP, reA, reC, srcI, Nl_nil, Nl_cons, PV.nl, upd_at, ofL_n, ofL_c, VS, argsT, lendA, lendL, lendT, Cvl_nil, Cvl_cons, Cv_bool, Cv_int, Cv_str, Cv_nils, Cv_nilc, Cv_cl, Cv_ow, noFn, PV.noF, NR_iff, NRO, hb, ares, ares1, ldo, ld, nOw, PV.isOw, TY]) (by simp [ln0, nl_String, nl_Walk, nl_Trip, obsT, obT, okO, okP, okA, okC, okD, okI, reP, reA, reC, srcI, Nl_nil, Nl_cons, PV.nl, upd_at, ofL_n, ofL_c, VS, argsT, lendA, lendL, lendT, Cvl_nil, Cvl_cons, Cv_bool, Cv_int, Cv_str, Cv_nils, Cv_nilc, Cv_cl, Cv_ow, noFn, PV.noF, NR_iff, NRO, hb, ares, ares1, ldo, ld, nOw, PV.isOw, TY]) (by simp [ln0, nl_String, nl_Walk, nl_Trip, obsT, obT, okO, okP, okA, okC, okD, okI, reP, reA, reC, srcI, Nl_nil, Nl_cons, PV.nl, upd_at, ofL_n, ofL_c, VS, argsT, lendA, lendL, lendT, Cvl_nil, Cvl_cons, Cv_bool, Cv_int, Cv_str, Cv_nils, Cv_nilc, Cv_cl, Cv_ow, noFn, PV.noF, NR_iff, NRO, hb, ares, ares1, ldo, ld, nOw, PV.isOw, TY])
    · have d0 : decide (q < 0) = false := by simpa using hq0
      have d1 : decide ((l.trips.length : Int) ≤ q) = true := by simp; omega
      simp only [hC, hB, d0, d1, cLines, VS, VZ, TY, openC, foldC, foldN, PF, pick_or, pick_and, aop, aopD, rdN, wrN, idL, idA, apure, AS.ev, startA, strip, abin, aint, astr, alen, aslice, optI, aconv, aconvM, gdv, AS.put, ofVal, pcells, ld, ldo, nOw, PV.isOw, gtmp, within, astore, splice, afill, allCells, okIdx, asrc, aflat, aappend, hintOk, PV.clo, PV.clo1, ofL_n, ofL_c, nams, reO, reP, reA, reC, srcI, setG, obG, List.cons.injEq, aeq1, aeqs, onG, Int.reduceLE, Int.reduceNeg, Int.reduceLT, Nat.reduceEqDiff, ↓reduceIte, Nat.reduceLT, Nat.reduceLeDiff, Nat.reduceAdd, Nat.reduceMul, Nat.reduceSub, reduceCtorEq, Int.reduceEq]
      refine R_foldn [1] 0 0 1 ?_
      simp only [VS, VZ, TY, openC, foldC, foldN, PF, pick_or, pick_and, aop, aopD, rdN, wrN, idL, idA, apure, AS.ev, startA, strip, abin, aint, astr, alen, aslice, optI, aconv, aconvM, gdv, AS.put, ofVal, pcells, ld, ldo, nOw, PV.isOw, gtmp, within, astore, splice, afill, allCells, okIdx, asrc, aflat, aappend, hintOk, PV.clo, PV.clo1, ofL_n, ofL_c, nams, reO, reP, reA, reC, srcI, setG, obG, List.cons.injEq, aeq1, aeqs, onG, Int.reduceLE, Int.reduceNeg, Int.reduceLT, Nat.reduceEqDiff, ↓reduceIte, Nat.reduceLT, Nat.reduceLeDiff, Nat.reduceAdd, Nat.reduceMul, Nat.reduceSub, reduceCtorEq, Int.reduceEq]
      refine R_open [1] 0 0 ?_
      simp only [VS, VZ, TY, openC, foldC, foldN, PF, pick_or, pick_and, aop, aopD, rdN, wrN, idL, idA, apure, AS.ev, startA, strip, abin, aint, astr, alen, aslice, optI, aconv, aconvM, gdv, AS.put, ofVal, pcells, ld, ldo, nOw, PV.isOw, gtmp, within, astore, splice, afill, allCells, okIdx, asrc, aflat, aappend, hintOk, PV.clo, PV.clo1, ofL_n, ofL_c, nams, reO, reP, reA, reC, srcI, setG, obG, List.cons.injEq, aeq1, aeqs, onG, Int.reduceLE, Int.reduceNeg, Int.reduceLT, Nat.reduceEqDiff, ↓reduceIte, Nat.reduceLT, Nat.reduceLeDiff, Nat.reduceAdd, Nat.reduceMul, Nat.reduceSub, reduceCtorEq, Int.reduceEq]
      refine R_foldn [1] 0 1 3 ?_
      simp only [VS, VZ, TY, openC, foldC, foldN, PF, pick_or, pick_and, aop, aopD, rdN, wrN, idL, idA, apure, AS.ev, startA, strip, abin, aint, astr, alen, aslice, optI, aconv, aconvM, gdv, AS.put, ofVal, pcells, ld, ldo, nOw, PV.isOw, gtmp, within, astore, splice, afill, allCells, okIdx, asrc, aflat, aappend, hintOk, PV.clo, PV.clo1, ofL_n, ofL_c, nams, reO, reP, reA, reC, srcI, setG, obG, List.cons.injEq, aeq1, aeqs, onG, Int.reduceLE, Int.reduceNeg, Int.reduceLT, Nat.reduceEqDiff, ↓reduceIte, Nat.reduceLT, Nat.reduceLeDiff, Nat.reduceAdd, Nat.reduceMul, Nat.reduceSub, reduceCtorEq, Int.reduceEq]
      refine R_open [1] 0 1 ?_
      simp only [VS, VZ, TY, openC, foldC, foldN, PF, pick_or, pick_and, aop, aopD, rdN, wrN, idL, idA, apure, AS.ev, startA, strip, abin, aint, astr, alen, aslice, optI, aconv, aconvM, gdv, AS.put, ofVal, pcells, ld, ldo, nOw, PV.isOw, gtmp, within, astore, splice, afill, allCells, okIdx, asrc, aflat, aappend, hintOk, PV.clo, PV.clo1, ofL_n, ofL_c, nams, reO, reP, reA, reC, srcI, setG, obG, List.cons.injEq, aeq1, aeqs, onG, Int.reduceLE, Int.reduceNeg, Int.reduceLT, Nat.reduceEqDiff, ↓reduceIte, Nat.reduceLT, Nat.reduceLeDiff, Nat.reduceAdd, Nat.reduceMul, Nat.reduceSub, reduceCtorEq, Int.reduceEq]
      refine R_foldn [1] 0 2 3 ?_
      simp only [VS, VZ, TY, openC, foldC, foldN, PF, pick_or, pick_and, aop, aopD, rdN, wrN, idL, idA, apure, AS.ev, startA, strip, abin, aint, astr, alen, aslice, optI, aconv, aconvM, gdv, AS.put, ofVal, pcells, ld, ldo, nOw, PV.isOw, gtmp, within, astore, splice, afill, allCells, okIdx, asrc, aflat, aappend, hintOk, PV.clo, PV.clo1, ofL_n, ofL_c, nams, reO, reP, reA, reC, srcI, setG, obG, List.cons.injEq, aeq1, aeqs, onG, Int.reduceLE, Int.reduceNeg, Int.reduceLT, Nat.reduceEqDiff, ↓reduceIte, Nat.reduceLT, Nat.reduceLeDiff, Nat.reduceAdd, Nat.reduceMul, Nat.reduceSub, reduceCtorEq, Int.reduceEq]
      refine R_open [1] 0 2 ?_
      simp only [VS, VZ, TY, openC, foldC, foldN, PF, pick_or, pick_and, aop, aopD, rdN, wrN, idL, idA, apure, AS.ev, startA, strip, abin, aint, astr, alen, aslice, optI, aconv, aconvM, gdv, AS.put, ofVal, pcells, ld, ldo, nOw, PV.isOw, gtmp, within, astore, splice, afill, allCells, okIdx, asrc, aflat, aappend, hintOk, PV.clo, PV.clo1, ofL_n, ofL_c, nams, reO, reP, reA, reC, srcI, setG, obG, List.cons.injEq, aeq1, aeqs, onG, Int.reduceLE, Int.reduceNeg, Int.reduceLT, Nat.reduceEqDiff, ↓reduceIte, Nat.reduceLT, Nat.reduceLeDiff, Nat.reduceAdd, Nat.reduceMul, Nat.reduceSub, reduceCtorEq, Int.reduceEq]
      exact Ret_go [[2], [3], [4]] (by simp [ln0, obsT, obT, okO, okP, okA, okC, okD, okI, reP, reA, reC, srcI, Nl_nil, Nl_cons, PV.nl, upd_at, ofL_n, ofL_c, VS, argsT, lendA, lendL, lendT, Cvl_nil, Cvl_cons, Cv_bool, Cv_int, Cv_str, Cv_nils, Cv_nilc, Cv_cl, Cv_ow, noFn, PV.noF, NR_iff, NRO, hb, ares, ares1, ldo, ld, nOw, PV.isOw, TY]) (by simp [ln0, nl_String, nl_Walk, nl_Trip, obsT, obT, okO, okP, okA, okC, okD, okI, reP, reA, reC, srcI, Nl_nil, Nl_cons, PV.nl, upd_at, ofL_n, ofL_c, VS, argsT, lendA, lendL, lendT, Cvl_nil, Cvl_cons, Cv_bool, Cv_int, Cv_str, Cv_nils, Cv_nilc, Cv_cl, Cv_ow, noFn, PV.noF, NR_iff, NRO, hb, ares, ares1, ldo, ld, nOw, PV.isOw, TY]) (by simp [ln0, nl_String, nl_Walk, nl_Trip, obsT, obT, okO, okP, okA, okC, okD, okI, reP, reA, reC, srcI, Nl_nil, Nl_cons, PV.nl, upd_at, ofL_n, ofL_c, VS, argsT, lendA, lendL, lendT, Cvl_nil, Cvl_cons, Cv_bool, Cv_int, Cv_str, Cv_nils, Cv_nilc, Cv_cl, Cv_ow, noFn, PV.noF, NR_iff, NRO, hb, ares, ares1, ldo, ld, nOw, PV.isOw, TY])
  case pos =>
  have d0 : decide (q < 0) = false := by simp; omega
  have d1 : decide ((l.trips.length : Int) ≤ q) = false := by simp; omega
  obtain ⟨n, rfl⟩ : ∃ n : Nat, q = n := ⟨q.toNat, by omega⟩
  have hn_ : n < l.trips.length := by omega
  have e := tpA_pv hn_
  simp only [hC, hB, d0, d1, e, Int.toNat_natCast, cLines, cTrip, VS, VZ, TY, openC, foldC, foldN, PF, pick_or, pick_and, aop, aopD, rdN, wrN, idL, idA, apure, AS.ev, startA, strip, abin, aint, astr, alen, aslice, optI, aconv, aconvM, gdv, AS.put, ofVal, pcells, ld, ldo, nOw, PV.isOw, gtmp, within, astore, splice, afill, allCells, okIdx, asrc, aflat, aappend, hintOk, PV.clo, PV.clo1, ofL_n, ofL_c, nams, reO, reP, reA, reC, srcI, setG, obG, List.cons.injEq, aeq1, aeqs, onG, Int.reduceLE, Int.reduceNeg, Int.reduceLT, Nat.reduceEqDiff, ↓reduceIte, Nat.reduceLT, Nat.reduceLeDiff, Nat.reduceAdd, Nat.reduceMul, Nat.reduceSub, reduceCtorEq, Int.reduceEq]
  refine ⟨fun _ => by omega, fun h => ?_, fun h => ?_⟩
  · rw [late_no (by simp at h ⊢; omega)]
    refine R_foldn [1] 0 0 1 ?_
    simp only [VS, VZ, TY, openC, foldC, foldN, PF, pick_or, pick_and, aop, aopD, rdN, wrN, idL, idA, apure, AS.ev, startA, strip, abin, aint, astr, alen, aslice, optI, aconv, aconvM, gdv, AS.put, ofVal, pcells, ld, ldo, nOw, PV.isOw, gtmp, within, astore, splice, afill, allCells, okIdx, asrc, aflat, aappend, hintOk, PV.clo, PV.clo1, ofL_n, ofL_c, nams, reO, reP, reA, reC, srcI, setG, obG, List.cons.injEq, aeq1, aeqs, onG, Int.reduceLE, Int.reduceNeg, Int.reduceLT, Nat.reduceEqDiff, ↓reduceIte, Nat.reduceLT, Nat.reduceLeDiff, Nat.reduceAdd, Nat.reduceMul, Nat.reduceSub, reduceCtorEq, Int.reduceEq]
    refine R_open [1] 0 0 ?_
    simp only [VS, VZ, TY, openC, foldC, foldN, PF, pick_or, pick_and, aop, aopD, rdN, wrN, idL, idA, apure, AS.ev, startA, strip, abin, aint, astr, alen, aslice, optI, aconv, aconvM, gdv, AS.put, ofVal, pcells, ld, ldo, nOw, PV.isOw, gtmp, within, astore, splice, afill, allCells, okIdx, asrc, aflat, aappend, hintOk, PV.clo, PV.clo1, ofL_n, ofL_c, nams, reO, reP, reA, reC, srcI, setG, obG, List.cons.injEq, aeq1, aeqs, onG, Int.reduceLE, Int.reduceNeg, Int.reduceLT, Nat.reduceEqDiff, ↓reduceIte, Nat.reduceLT, Nat.reduceLeDiff, Nat.reduceAdd, Nat.reduceMul, Nat.reduceSub, reduceCtorEq, Int.reduceEq]
    refine R_foldn [1] 0 1 3 ?_
    simp only [VS, VZ, TY, openC, foldC, foldN, PF, pick_or, pick_and, aop, aopD, rdN, wrN, idL, idA, apure, AS.ev, startA, strip, abin, aint, astr, alen, aslice, optI, aconv, aconvM, gdv, AS.put, ofVal, pcells, ld, ldo, nOw, PV.isOw, gtmp, within, astore, splice, afill, allCells, okIdx, asrc, aflat, aappend, hintOk, PV.clo, PV.clo1, ofL_n, ofL_c, nams, reO, reP, reA, reC, srcI, setG, obG, List.cons.injEq, aeq1, aeqs, onG, Int.reduceLE, Int.reduceNeg, Int.reduceLT, Nat.reduceEqDiff, ↓reduceIte, Nat.reduceLT, Nat.reduceLeDiff, Nat.reduceAdd, Nat.reduceMul, Nat.reduceSub, reduceCtorEq, Int.reduceEq]
    refine R_open [1] 0 1 ?_
    simp only [VS, VZ, TY, openC, foldC, foldN, PF, pick_or, pick_and, aop, aopD, rdN, wrN, idL, idA, apure, AS.ev, startA, strip, abin, aint, astr, alen, aslice, optI, aconv, aconvM, gdv, AS.put, ofVal, pcells, ld, ldo, nOw, PV.isOw, gtmp, within, astore, splice, afill, allCells, okIdx, asrc, aflat, aappend, hintOk, PV.clo, PV.clo1, ofL_n, ofL_c, nams, reO, reP, reA, reC, srcI, setG, obG, List.cons.injEq, aeq1, aeqs, onG, Int.reduceLE, Int.reduceNeg, Int.reduceLT, Nat.reduceEqDiff, ↓reduceIte, Nat.reduceLT, Nat.reduceLeDiff, Nat.reduceAdd, Nat.reduceMul, Nat.reduceSub, reduceCtorEq, Int.reduceEq]
    refine R_foldn [1] 0 2 3 ?_
    simp only [VS, VZ, TY, openC, foldC, foldN, PF, pick_or, pick_and, aop, aopD, rdN, wrN, idL, idA, apure, AS.ev, startA, strip, abin, aint, astr, alen, aslice, optI, aconv, aconvM, gdv, AS.put, ofVal, pcells, ld, ldo, nOw, PV.isOw, gtmp, within, astore, splice, afill, allCells, okIdx, asrc, aflat, aappend, hintOk, PV.clo, PV.clo1, ofL_n, ofL_c, nams, reO, reP, reA, reC, srcI, setG, obG, List.cons.injEq, aeq1, aeqs, onG, Int.reduceLE, Int.reduceNeg, Int.reduceLT, Nat.reduceEqDiff, ↓reduceIte, Nat.reduceLT, Nat.reduceLeDiff, Nat.reduceAdd, Nat.reduceMul, Nat.reduceSub, reduceCtorEq, Int.reduceEq]
    refine R_open [1] 0 2 ?_
    simp only [VS, VZ, TY, openC, foldC, foldN, PF, pick_or, pick_and, aop, aopD, rdN, wrN, idL, idA, apure, AS.ev, startA, strip, abin, aint, astr, alen, aslice, optI, aconv, aconvM, gdv, AS.put, ofVal, pcells, ld, ldo, nOw, PV.isOw, gtmp, within, astore, splice, afill, allCells, okIdx, asrc, aflat, aappend, hintOk, PV.clo, PV.clo1, ofL_n, ofL_c, nams, reO, reP, reA, reC, srcI, setG, obG, List.cons.injEq, aeq1, aeqs, onG, Int.reduceLE, Int.reduceNeg, Int.reduceLT, Nat.reduceEqDiff, ↓reduceIte, Nat.reduceLT, Nat.reduceLeDiff, Nat.reduceAdd, Nat.reduceMul, Nat.reduceSub, reduceCtorEq, Int.reduceEq]
    exact Ret_go [[2], [3], [4]] (by simp [ln0, obsT, obT, okO, okP, okA, okC, okD, okI, reP, reA, reC, srcI, Nl_nil, Nl_cons, PV.nl, upd_at, ofL_n, ofL_c, VS, argsT, lendA, lendL, lendT, Cvl_nil, Cvl_cons, Cv_bool, Cv_int, Cv_str, Cv_nils, Cv_nilc, Cv_cl, Cv_ow, noFn, PV.noF, NR_iff, NRO, hb, ares, ares1, ldo, ld, nOw, PV.isOw, TY]) (by simp [ln0, nl_String, nl_Walk, nl_Trip, obsT, obT, okO, okP, okA, okC, okD, okI, reP, reA, reC, srcI, Nl_nil, Nl_cons, PV.nl, upd_at, ofL_n, ofL_c, VS, argsT, lendA, lendL, lendT, Cvl_nil, Cvl_cons, Cv_bool, Cv_int, Cv_str, Cv_nils, Cv_nilc, Cv_cl, Cv_ow, noFn, PV.noF, NR_iff, NRO, hb, ares, ares1, ldo, ld, nOw, PV.isOw, TY]) (by simp [ln0, nl_String, nl_Walk, nl_Trip, obsT, obT, okO, okP, okA, okC, okD, okI, reP, reA, reC, srcI, Nl_nil, Nl_cons, PV.nl, upd_at, ofL_n, ofL_c, VS, argsT, lendA, lendL, lendT, Cvl_nil, Cvl_cons, Cv_bool, Cv_int, Cv_str, Cv_nils, Cv_nilc, Cv_cl, Cv_ow, noFn, PV.noF, NR_iff, NRO, hb, ares, ares1, ldo, ld, nOw, PV.isOw, TY])
  have hk : 0 ≤ k ∧ k < (tpA l.trips n).calls.length ∧ 0 ≤ b ∧ b ≤ 100000 := by simp at h; omega
  rw [late_ok hB ⟨by omega, by omega, hk.1, by simpa using hk.2.1, hk.2.2.1, hk.2.2.2⟩]
  obtain ⟨kN, rfl⟩ : ∃ n : Nat, k = n := ⟨k.toNat, by omega⟩
  simp only [Int.toNat_natCast]
  clear h
  refine AW_cut ?_
  simp only [hC, cLines, VS, VZ, TY, openC, foldC, foldN, PF, pick_or, pick_and, aop, aopD, rdN, wrN, idL, idA, apure, AS.ev, startA, strip, abin, aint, astr, alen, aslice, optI, aconv, aconvM, gdv, AS.put, ofVal, pcells, ld, ldo, nOw, PV.isOw, gtmp, within, astore, splice, afill, allCells, okIdx, asrc, aflat, aappend, hintOk, PV.clo, PV.clo1, ofL_n, ofL_c, nams, reO, reP, reA, reC, srcI, setG, obG, List.cons.injEq, aeq1, aeqs, onG, Int.reduceLE, Int.reduceNeg, Int.reduceLT, Nat.reduceEqDiff, ↓reduceIte, Nat.reduceLT, Nat.reduceLeDiff, Nat.reduceAdd, Nat.reduceMul, Nat.reduceSub, reduceCtorEq, Int.reduceEq]
  refine acall_go false [] (cs_copy l hl.2.2) (by simp [cLines, cv_Trip, cv_Call, cv_Walk, cv_String, obsT, obT, okO, okP, okA, okC, okD, okI, reP, reA, reC, srcI, Nl_nil, Nl_cons, PV.nl, upd_at, ofL_n, ofL_c, VS, argsT, lendA, lendL, lendT, Cvl_nil, Cvl_cons, Cv_bool, Cv_int, Cv_str, Cv_nils, Cv_nilc, Cv_cl, Cv_ow, noFn, PV.noF, NR_iff, NRO, hb, ares, ares1, ldo, ld, nOw, PV.isOw, TY]) tS (by simp) (by simp) tS (by simp [nl_String, nl_Walk, nl_Trip, obsT, obT, okO, okP, okA, okC, okD, okI, reP, reA, reC, srcI, Nl_nil, Nl_cons, PV.nl, upd_at, ofL_n, ofL_c, VS, argsT, lendA, lendL, lendT, Cvl_nil, Cvl_cons, Cv_bool, Cv_int, Cv_str, Cv_nils, Cv_nilc, Cv_cl, Cv_ow, noFn, PV.noF, NR_iff, NRO, hb, ares, ares1, ldo, ld, nOw, PV.isOw, TY]) (.inl rfl) ?_
  simp only [hC, cLines, VS, VZ, TY, openC, foldC, foldN, PF, pick_or, pick_and, aop, aopD, rdN, wrN, idL, idA, apure, AS.ev, startA, strip, abin, aint, astr, alen, aslice, optI, aconv, aconvM, gdv, AS.put, ofVal, pcells, ld, ldo, nOw, PV.isOw, gtmp, within, astore, splice, afill, allCells, okIdx, asrc, aflat, aappend, hintOk, PV.clo, PV.clo1, ofL_n, ofL_c, nams, reO, reP, reA, reC, srcI, setG, obG, List.cons.injEq, aeq1, aeqs, onG, Int.reduceLE, Int.reduceNeg, Int.reduceLT, Nat.reduceEqDiff, ↓reduceIte, Nat.reduceLT, Nat.reduceLeDiff, Nat.reduceAdd, Nat.reduceMul, Nat.reduceSub, reduceCtorEq, Int.reduceEq]
  refine AW_open [3] n 2 ?_
  have eo : lpv oTrip l.trips n = oTrip (tpA l.trips n) := by rw [tpA_at hn_]; exact lpv_at hn_
  simp only [eo, oTrip, VS, VZ, TY, openC, foldC, foldN, PF, pick_or, pick_and, aop, aopD, rdN, wrN, idL, idA, apure, AS.ev, startA, strip, abin, aint, astr, alen, aslice, optI, aconv, aconvM, gdv, AS.put, ofVal, pcells, ld, ldo, nOw, PV.isOw, gtmp, within, astore, splice, afill, allCells, okIdx, asrc, aflat, aappend, hintOk, PV.clo, PV.clo1, ofL_n, ofL_c, nams, reO, reP, reA, reC, srcI, setG, obG, List.cons.injEq, aeq1, aeqs, onG, Int.reduceLE, Int.reduceNeg, Int.reduceLT, Nat.reduceEqDiff, ↓reduceIte, Nat.reduceLT, Nat.reduceLeDiff, Nat.reduceAdd, Nat.reduceMul, Nat.reduceSub, reduceCtorEq, Int.reduceEq]
  refine ⟨hn_, ?_⟩
  refine AW_cut ?_
  simp only [hC, cLines, VS, VZ, TY, openC, foldC, foldN, PF, pick_or, pick_and, aop, aopD, rdN, wrN, idL, idA, apure, AS.ev, startA, strip, abin, aint, astr, alen, aslice, optI, aconv, aconvM, gdv, AS.put, ofVal, pcells, ld, ldo, nOw, PV.isOw, gtmp, within, astore, splice, afill, allCells, okIdx, asrc, aflat, aappend, hintOk, PV.clo, PV.clo1, ofL_n, ofL_c, nams, reO, reP, reA, reC, srcI, setG, obG, List.cons.injEq, aeq1, aeqs, onG, Int.reduceLE, Int.reduceNeg, Int.reduceLT, Nat.reduceEqDiff, ↓reduceIte, Nat.reduceLT, Nat.reduceLeDiff, Nat.reduceAdd, Nat.reduceMul, Nat.reduceSub, reduceCtorEq, Int.reduceEq]
  refine ⟨by omega, ?_⟩
  refine AW_cut ?_
  simp only [hC, cLines, VS, VZ, TY, openC, foldC, foldN, PF, pick_or, pick_and, aop, aopD, rdN, wrN, idL, idA, apure, AS.ev, startA, strip, abin, aint, astr, alen, aslice, optI, aconv, aconvM, gdv, AS.put, ofVal, pcells, ld, ldo, nOw, PV.isOw, gtmp, within, astore, splice, afill, allCells, okIdx, asrc, aflat, aappend, hintOk, PV.clo, PV.clo1, ofL_n, ofL_c, nams, reO, reP, reA, reC, srcI, setG, obG, List.cons.injEq, aeq1, aeqs, onG, Int.reduceLE, Int.reduceNeg, Int.reduceLT, Nat.reduceEqDiff, ↓reduceIte, Nat.reduceLT, Nat.reduceLeDiff, Nat.reduceAdd, Nat.reduceMul, Nat.reduceSub, reduceCtorEq, Int.reduceEq]
  have hcl := trip_calls hB hn_
  have ht := tp_len l hn_ b3
  generalize ht_ : tpA l.trips n = t at *
  refine AL.go (X := Nat) (fun i => ⟨ofL [(3, .int .i64 b), (8, .bp [1] 0), (9, .bp [5] 0), (10, .sl [6] 3 t.calls.length 0 t.calls.length), (11, .int .i64 (i : Int))], ML [.box (cLines l), .box [.nils, .nils, .nils], .row 1 l.stops.length (lpv pString l.stops), .row 3 l.trips.length (upd (lpv oTrip l.trips) n [.str t.line, .int .i64 t.days, .sl [6] 3 t.calls.length 0 t.calls.length]), .row 3 l.walks.length (lpv pWalk l.walks), .box [.sl [2] 1 l.stops.length 0 l.stops.length, .sl [3] 3 l.trips.length 0 l.trips.length, .sl [4] 3 l.walks.length 0 l.walks.length], .row 3 t.calls.length (fun j => pCall (shU b t.calls kN i j))]⟩) (fun i => t.calls.length - i) (fun i => kN ≤ i ∧ i ≤ t.calls.length) kN ⟨by omega, by omega⟩ ?_ (fun i hi => vc_ok _ _ _ ?_)
  · refine Told_goR hn [[0], [1], [2], [3], [4], [5], [6]] tS ?_ ?_
    · refine ⟨by simp [obR, cLines, obsT, obT, okO, okP, okA, okC, okD, okI, reP, reA, reC, srcI, Nl_nil, Nl_cons, PV.nl, upd_at, ofL_n, ofL_c, VS, argsT, lendA, lendL, lendT, Cvl_nil, Cvl_cons, Cv_bool, Cv_int, Cv_str, Cv_nils, Cv_nilc, Cv_cl, Cv_ow, noFn, PV.noF, NR_iff, NRO, hb, ares, ares1, ldo, ld, nOw, PV.isOw, TY], by simp [obR, obsT, obT, okO, okP, okA, okC, okD, okI, reP, reA, reC, srcI, Nl_nil, Nl_cons, PV.nl, upd_at, ofL_n, ofL_c, VS, argsT, lendA, lendL, lendT, Cvl_nil, Cvl_cons, Cv_bool, Cv_int, Cv_str, Cv_nils, Cv_nilc, Cv_cl, Cv_ow, noFn, PV.noF, NR_iff, NRO, hb, ares, ares1, ldo, ld, nOw, PV.isOw, TY], obR_nl (by (simp only [VS, VZ, TY, openC, foldC, foldN, PF, pick_or, pick_and, aop, aopD, rdN, wrN, idL, idA, apure, AS.ev, startA, strip, abin, aint, astr, alen, aslice, optI, aconv, aconvM, gdv, AS.put, ofVal, pcells, ld, ldo, nOw, PV.isOw, gtmp, within, astore, splice, afill, allCells, okIdx, asrc, aflat, aappend, hintOk, PV.clo, PV.clo1, ofL_n, ofL_c, nams, reO, reP, reA, reC, srcI, setG, obG, List.cons.injEq, aeq1, aeqs, onG, Int.reduceLE, Int.reduceNeg, Int.reduceLT, Nat.reduceEqDiff, ↓reduceIte, Nat.reduceLT, Nat.reduceLeDiff, Nat.reduceAdd, Nat.reduceMul, Nat.reduceSub, reduceCtorEq, Int.reduceEq]) <;> rfl) (fun _ => nl1 _ _) (fun _ _ => rfl), obR_upd (by (simp only [VS, VZ, TY, openC, foldC, foldN, PF, pick_or, pick_and, aop, aopD, rdN, wrN, idL, idA, apure, AS.ev, startA, strip, abin, aint, astr, alen, aslice, optI, aconv, aconvM, gdv, AS.put, ofVal, pcells, ld, ldo, nOw, PV.isOw, gtmp, within, astore, splice, afill, allCells, okIdx, asrc, aflat, aappend, hintOk, PV.clo, PV.clo1, ofL_n, ofL_c, nams, reO, reP, reA, reC, srcI, setG, obG, List.cons.injEq, aeq1, aeqs, onG, Int.reduceLE, Int.reduceNeg, Int.reduceLT, Nat.reduceEqDiff, ↓reduceIte, Nat.reduceLT, Nat.reduceLeDiff, Nat.reduceAdd, Nat.reduceMul, Nat.reduceSub, reduceCtorEq, Int.reduceEq]) <;> rfl) (fun _ => nl2 _ _) (fun i _ q => by simp [q, upd_at]) (by simp [upd_at, reC, srcI]), obR_nl (by (simp only [VS, VZ, TY, openC, foldC, foldN, PF, pick_or, pick_and, aop, aopD, rdN, wrN, idL, idA, apure, AS.ev, startA, strip, abin, aint, astr, alen, aslice, optI, aconv, aconvM, gdv, AS.put, ofVal, pcells, ld, ldo, nOw, PV.isOw, gtmp, within, astore, splice, afill, allCells, okIdx, asrc, aflat, aappend, hintOk, PV.clo, PV.clo1, ofL_n, ofL_c, nams, reO, reP, reA, reC, srcI, setG, obG, List.cons.injEq, aeq1, aeqs, onG, Int.reduceLE, Int.reduceNeg, Int.reduceLT, Nat.reduceEqDiff, ↓reduceIte, Nat.reduceLT, Nat.reduceLeDiff, Nat.reduceAdd, Nat.reduceMul, Nat.reduceSub, reduceCtorEq, Int.reduceEq]) <;> rfl) (fun _ => nl3 _ _) (fun _ _ => rfl), by simp [obR, reC, srcI, obsT, obT, okO, okP, okA, okC, okD, okI, reP, reA, reC, srcI, Nl_nil, Nl_cons, PV.nl, upd_at, ofL_n, ofL_c, VS, argsT, lendA, lendL, lendT, Cvl_nil, Cvl_cons, Cv_bool, Cv_int, Cv_str, Cv_nils, Cv_nilc, Cv_cl, Cv_ow, noFn, PV.noF, NR_iff, NRO, hb, ares, ares1, ldo, ld, nOw, PV.isOw, TY], obR_nl (by (simp only [VS, VZ, TY, openC, foldC, foldN, PF, pick_or, pick_and, aop, aopD, rdN, wrN, idL, idA, apure, AS.ev, startA, strip, abin, aint, astr, alen, aslice, optI, aconv, aconvM, gdv, AS.put, ofVal, pcells, ld, ldo, nOw, PV.isOw, gtmp, within, astore, splice, afill, allCells, okIdx, asrc, aflat, aappend, hintOk, PV.clo, PV.clo1, ofL_n, ofL_c, nams, reO, reP, reA, reC, srcI, setG, obG, List.cons.injEq, aeq1, aeqs, onG, Int.reduceLE, Int.reduceNeg, Int.reduceLT, Nat.reduceEqDiff, ↓reduceIte, Nat.reduceLT, Nat.reduceLeDiff, Nat.reduceAdd, Nat.reduceMul, Nat.reduceSub, reduceCtorEq, Int.reduceEq]) <;> rfl) (fun _ => nl4 _) (fun i hi => by rw [clA_pv hi, shU_0]), trivial⟩
    · intro x hx
      simp only [List.mem_cons, List.not_mem_nil, or_false] at hx
      rcases hx with rfl | rfl | rfl | rfl | rfl | rfl | rfl
      · simp [okR, okO, okD, okC, cLines]
      · simp [okR, okO, okD, okC]
      · exact okR_nl (fun _ => nl1 _ _)
      · exact okR_upd (fun _ => nl2 _ _) (by simp [okD, okC, okI])
      · exact okR_nl (fun _ => nl3 _ _)
      · simp [okR, okO, okD, okC, okI]
      · exact okR_nl (fun _ => nl4 _)
  simp only [hC, cLines, VS, VZ, TY, openC, foldC, foldN, PF, pick_or, pick_and, aop, aopD, rdN, wrN, idL, idA, apure, AS.ev, startA, strip, abin, aint, astr, alen, aslice, optI, aconv, aconvM, gdv, AS.put, ofVal, pcells, ld, ldo, nOw, PV.isOw, gtmp, within, astore, splice, afill, allCells, okIdx, asrc, aflat, aappend, hintOk, PV.clo, PV.clo1, ofL_n, ofL_c, nams, reO, reP, reA, reC, srcI, setG, obG, List.cons.injEq, aeq1, aeqs, onG, Int.reduceLE, Int.reduceNeg, Int.reduceLT, Nat.reduceEqDiff, ↓reduceIte, Nat.reduceLT, Nat.reduceLeDiff, Nat.reduceAdd, Nat.reduceMul, Nat.reduceSub, reduceCtorEq, Int.reduceEq]
  refine ⟨fun h1 => ?_, fun h1 => ?_⟩
  · have h1 : i < t.calls.length := by simpa using h1
    have hc := hcl i h1
    have es : shU b t.calls kN i i = clA t.calls i := by simp [shU]
    have es2 : shU b t.calls kN (i + 1) i = shC b (clA t.calls i) := by simp [shU, hi.1]
    have es3 : ∀ j, j ≠ i → shU b t.calls kN (i + 1) j = shU b t.calls kN i j := fun j hj => by unfold shU; congr 1; apply propext; omega
    have w1 : IntKind.i64.wrap ((clA t.calls i).arr + b) = (clA t.calls i).arr + b := wr64 (by omega) (by omega)
    have w2 : IntKind.i64.wrap ((clA t.calls i).dep + b) = (clA t.calls i).dep + b := wr64 (by omega) (by omega)
    have w3 : IntKind.i64.wrap ((i : Int) + 1) = (i : Int) + 1 := wr64 (by omega) (by omega)
    simp only [es, w1, w2, w3, pCall, Int.toNat_natCast, VS, VZ, TY, openC, foldC, foldN, PF, pick_or, pick_and, aop, aopD, rdN, wrN, idL, idA, apure, AS.ev, startA, strip, abin, aint, astr, alen, aslice, optI, aconv, aconvM, gdv, AS.put, ofVal, pcells, ld, ldo, nOw, PV.isOw, gtmp, within, astore, splice, afill, allCells, okIdx, asrc, aflat, aappend, hintOk, PV.clo, PV.clo1, ofL_n, ofL_c, nams, reO, reP, reA, reC, srcI, setG, obG, List.cons.injEq, aeq1, aeqs, onG, Int.reduceLE, Int.reduceNeg, Int.reduceLT, Nat.reduceEqDiff, ↓reduceIte, Nat.reduceLT, Nat.reduceLeDiff, Nat.reduceAdd, Nat.reduceMul, Nat.reduceSub, reduceCtorEq, Int.reduceEq]
    repeat first | (refine And.intro (by kernel_rfl) ?_) | (refine And.intro (by omega) ?_) | (refine And.intro (by simp) ?_)
    refine ⟨i + 1, ⟨by omega, by omega⟩, by omega, ?_⟩
    refine Told_goR hn [[0], [1], [2], [3], [4], [5], [6]] tS ?_ ?_
    · refine ⟨by simp [obR, cLines, obsT, obT, okO, okP, okA, okC, okD, okI, reP, reA, reC, srcI, Nl_nil, Nl_cons, PV.nl, upd_at, ofL_n, ofL_c, VS, argsT, lendA, lendL, lendT, Cvl_nil, Cvl_cons, Cv_bool, Cv_int, Cv_str, Cv_nils, Cv_nilc, Cv_cl, Cv_ow, noFn, PV.noF, NR_iff, NRO, hb, ares, ares1, ldo, ld, nOw, PV.isOw, TY], by simp [obR, obsT, obT, okO, okP, okA, okC, okD, okI, reP, reA, reC, srcI, Nl_nil, Nl_cons, PV.nl, upd_at, ofL_n, ofL_c, VS, argsT, lendA, lendL, lendT, Cvl_nil, Cvl_cons, Cv_bool, Cv_int, Cv_str, Cv_nils, Cv_nilc, Cv_cl, Cv_ow, noFn, PV.noF, NR_iff, NRO, hb, ares, ares1, ldo, ld, nOw, PV.isOw, TY], obR_nl (by (simp only [VS, VZ, TY, openC, foldC, foldN, PF, pick_or, pick_and, aop, aopD, rdN, wrN, idL, idA, apure, AS.ev, startA, strip, abin, aint, astr, alen, aslice, optI, aconv, aconvM, gdv, AS.put, ofVal, pcells, ld, ldo, nOw, PV.isOw, gtmp, within, astore, splice, afill, allCells, okIdx, asrc, aflat, aappend, hintOk, PV.clo, PV.clo1, ofL_n, ofL_c, nams, reO, reP, reA, reC, srcI, setG, obG, List.cons.injEq, aeq1, aeqs, onG, Int.reduceLE, Int.reduceNeg, Int.reduceLT, Nat.reduceEqDiff, ↓reduceIte, Nat.reduceLT, Nat.reduceLeDiff, Nat.reduceAdd, Nat.reduceMul, Nat.reduceSub, reduceCtorEq, Int.reduceEq]) <;> rfl) (fun _ => nl1 _ _) (fun _ _ => rfl), obR_upd (by (simp only [VS, VZ, TY, openC, foldC, foldN, PF, pick_or, pick_and, aop, aopD, rdN, wrN, idL, idA, apure, AS.ev, startA, strip, abin, aint, astr, alen, aslice, optI, aconv, aconvM, gdv, AS.put, ofVal, pcells, ld, ldo, nOw, PV.isOw, gtmp, within, astore, splice, afill, allCells, okIdx, asrc, aflat, aappend, hintOk, PV.clo, PV.clo1, ofL_n, ofL_c, nams, reO, reP, reA, reC, srcI, setG, obG, List.cons.injEq, aeq1, aeqs, onG, Int.reduceLE, Int.reduceNeg, Int.reduceLT, Nat.reduceEqDiff, ↓reduceIte, Nat.reduceLT, Nat.reduceLeDiff, Nat.reduceAdd, Nat.reduceMul, Nat.reduceSub, reduceCtorEq, Int.reduceEq]) <;> rfl) (fun _ => nl2 _ _) (fun i _ q => by simp [q, upd_at]) (by simp [upd_at, reC, srcI]), obR_nl (by (simp only [VS, VZ, TY, openC, foldC, foldN, PF, pick_or, pick_and, aop, aopD, rdN, wrN, idL, idA, apure, AS.ev, startA, strip, abin, aint, astr, alen, aslice, optI, aconv, aconvM, gdv, AS.put, ofVal, pcells, ld, ldo, nOw, PV.isOw, gtmp, within, astore, splice, afill, allCells, okIdx, asrc, aflat, aappend, hintOk, PV.clo, PV.clo1, ofL_n, ofL_c, nams, reO, reP, reA, reC, srcI, setG, obG, List.cons.injEq, aeq1, aeqs, onG, Int.reduceLE, Int.reduceNeg, Int.reduceLT, Nat.reduceEqDiff, ↓reduceIte, Nat.reduceLT, Nat.reduceLeDiff, Nat.reduceAdd, Nat.reduceMul, Nat.reduceSub, reduceCtorEq, Int.reduceEq]) <;> rfl) (fun _ => nl3 _ _) (fun _ _ => rfl), by simp [obR, reC, srcI, obsT, obT, okO, okP, okA, okC, okD, okI, reP, reA, reC, srcI, Nl_nil, Nl_cons, PV.nl, upd_at, ofL_n, ofL_c, VS, argsT, lendA, lendL, lendT, Cvl_nil, Cvl_cons, Cv_bool, Cv_int, Cv_str, Cv_nils, Cv_nilc, Cv_cl, Cv_ow, noFn, PV.noF, NR_iff, NRO, hb, ares, ares1, ldo, ld, nOw, PV.isOw, TY], obR_nl (by (simp only [VS, VZ, TY, openC, foldC, foldN, PF, pick_or, pick_and, aop, aopD, rdN, wrN, idL, idA, apure, AS.ev, startA, strip, abin, aint, astr, alen, aslice, optI, aconv, aconvM, gdv, AS.put, ofVal, pcells, ld, ldo, nOw, PV.isOw, gtmp, within, astore, splice, afill, allCells, okIdx, asrc, aflat, aappend, hintOk, PV.clo, PV.clo1, ofL_n, ofL_c, nams, reO, reP, reA, reC, srcI, setG, obG, List.cons.injEq, aeq1, aeqs, onG, Int.reduceLE, Int.reduceNeg, Int.reduceLT, Nat.reduceEqDiff, ↓reduceIte, Nat.reduceLT, Nat.reduceLeDiff, Nat.reduceAdd, Nat.reduceMul, Nat.reduceSub, reduceCtorEq, Int.reduceEq]) <;> rfl) (fun _ => nl4 _) (fun j hj => ?_), trivial⟩
      simp only [VS, VZ, TY, openC, foldC, foldN, PF, pick_or, pick_and, aop, aopD, rdN, wrN, idL, idA, apure, AS.ev, startA, strip, abin, aint, astr, alen, aslice, optI, aconv, aconvM, gdv, AS.put, ofVal, pcells, ld, ldo, nOw, PV.isOw, gtmp, within, astore, splice, afill, allCells, okIdx, asrc, aflat, aappend, hintOk, PV.clo, PV.clo1, ofL_n, ofL_c, nams, reO, reP, reA, reC, srcI, setG, obG, List.cons.injEq, aeq1, aeqs, onG, Int.reduceLE, Int.reduceNeg, Int.reduceLT, Nat.reduceEqDiff, ↓reduceIte, Nat.reduceLT, Nat.reduceLeDiff, Nat.reduceAdd, Nat.reduceMul, Nat.reduceSub, reduceCtorEq, Int.reduceEq]
      by_cases q : j = i
      · subst q; simp [es2, shC, pCall, obsT, obT, okO, okP, okA, okC, okD, okI, reP, reA, reC, srcI, Nl_nil, Nl_cons, PV.nl, upd_at, ofL_n, ofL_c, VS, argsT, lendA, lendL, lendT, Cvl_nil, Cvl_cons, Cv_bool, Cv_int, Cv_str, Cv_nils, Cv_nilc, Cv_cl, Cv_ow, noFn, PV.noF, NR_iff, NRO, hb, ares, ares1, ldo, ld, nOw, PV.isOw, TY]
      · simp [q, es3 j q, pCall, obsT, obT, okO, okP, okA, okC, okD, okI, reP, reA, reC, srcI, Nl_nil, Nl_cons, PV.nl, upd_at, ofL_n, ofL_c, VS, argsT, lendA, lendL, lendT, Cvl_nil, Cvl_cons, Cv_bool, Cv_int, Cv_str, Cv_nils, Cv_nilc, Cv_cl, Cv_ow, noFn, PV.noF, NR_iff, NRO, hb, ares, ares1, ldo, ld, nOw, PV.isOw, TY]
    · intro x hx
      simp only [List.mem_cons, List.not_mem_nil, or_false] at hx
      rcases hx with rfl | rfl | rfl | rfl | rfl | rfl | rfl
      · simp [okR, okO, okD, okC, cLines]
      · simp [okR, okO, okD, okC]
      · exact okR_nl (fun _ => nl1 _ _)
      · exact okR_upd (fun _ => nl2 _ _) (by simp [okD, okC, okI])
      · exact okR_nl (fun _ => nl3 _ _)
      · simp [okR, okO, okD, okC, okI]
      · exact okR_nl (fun _ => nl4 _)
  have : i = t.calls.length := by simp at h1; omega
  subst this
  clear hi h1
  obtain ⟨L, hL⟩ : ∃ L, L = shL b t.calls kN := ⟨_, rfl⟩
  have hLl : L.length = t.calls.length := by rw [hL, shL_len]
  have hLa : ∀ j, j < t.calls.length → pCall (shU b t.calls kN t.calls.length j) = lpv pCall L j := fun j hj => by rw [hL, shL_at _ _ _ hj]
  refine AW.told (s' := ⟨ofL [(8, .bp [1] 0), (9, .bp [5] 0)], ML [.box (cLines l), .box [.nils, .nils, .nils], .row 1 l.stops.length (lpv pString l.stops), .row 3 l.trips.length (upd (lpv oTrip l.trips) n [.str t.line, .int .i64 t.days, .sl [6] 3 t.calls.length 0 t.calls.length]), .row 3 l.walks.length (lpv pWalk l.walks), .box [.sl [2] 1 l.stops.length 0 l.stops.length, .sl [3] 3 l.trips.length 0 l.trips.length, .sl [4] 3 l.walks.length 0 l.walks.length], .row 3 t.calls.length (lpv pCall L)]⟩) ?_ ?_
  · refine Told_goR hn [[0], [1], [2], [3], [4], [5], [6]] tS ?_ ?_
    · exact ⟨by simp [obR, cLines, obsT, obT, okO, okP, okA, okC, okD, okI, reP, reA, reC, srcI, Nl_nil, Nl_cons, PV.nl, upd_at, ofL_n, ofL_c, VS, argsT, lendA, lendL, lendT, Cvl_nil, Cvl_cons, Cv_bool, Cv_int, Cv_str, Cv_nils, Cv_nilc, Cv_cl, Cv_ow, noFn, PV.noF, NR_iff, NRO, hb, ares, ares1, ldo, ld, nOw, PV.isOw, TY], by simp [obR, obsT, obT, okO, okP, okA, okC, okD, okI, reP, reA, reC, srcI, Nl_nil, Nl_cons, PV.nl, upd_at, ofL_n, ofL_c, VS, argsT, lendA, lendL, lendT, Cvl_nil, Cvl_cons, Cv_bool, Cv_int, Cv_str, Cv_nils, Cv_nilc, Cv_cl, Cv_ow, noFn, PV.noF, NR_iff, NRO, hb, ares, ares1, ldo, ld, nOw, PV.isOw, TY], obR_nl (by (simp only [VS, VZ, TY, openC, foldC, foldN, PF, pick_or, pick_and, aop, aopD, rdN, wrN, idL, idA, apure, AS.ev, startA, strip, abin, aint, astr, alen, aslice, optI, aconv, aconvM, gdv, AS.put, ofVal, pcells, ld, ldo, nOw, PV.isOw, gtmp, within, astore, splice, afill, allCells, okIdx, asrc, aflat, aappend, hintOk, PV.clo, PV.clo1, ofL_n, ofL_c, nams, reO, reP, reA, reC, srcI, setG, obG, List.cons.injEq, aeq1, aeqs, onG, Int.reduceLE, Int.reduceNeg, Int.reduceLT, Nat.reduceEqDiff, ↓reduceIte, Nat.reduceLT, Nat.reduceLeDiff, Nat.reduceAdd, Nat.reduceMul, Nat.reduceSub, reduceCtorEq, Int.reduceEq]) <;> rfl) (fun _ => nl1 _ _) (fun _ _ => rfl), obR_upd (by (simp only [VS, VZ, TY, openC, foldC, foldN, PF, pick_or, pick_and, aop, aopD, rdN, wrN, idL, idA, apure, AS.ev, startA, strip, abin, aint, astr, alen, aslice, optI, aconv, aconvM, gdv, AS.put, ofVal, pcells, ld, ldo, nOw, PV.isOw, gtmp, within, astore, splice, afill, allCells, okIdx, asrc, aflat, aappend, hintOk, PV.clo, PV.clo1, ofL_n, ofL_c, nams, reO, reP, reA, reC, srcI, setG, obG, List.cons.injEq, aeq1, aeqs, onG, Int.reduceLE, Int.reduceNeg, Int.reduceLT, Nat.reduceEqDiff, ↓reduceIte, Nat.reduceLT, Nat.reduceLeDiff, Nat.reduceAdd, Nat.reduceMul, Nat.reduceSub, reduceCtorEq, Int.reduceEq]) <;> rfl) (fun _ => nl2 _ _) (fun i _ q => by simp [q, upd_at]) (by simp [upd_at, reC, srcI]), obR_nl (by (simp only [VS, VZ, TY, openC, foldC, foldN, PF, pick_or, pick_and, aop, aopD, rdN, wrN, idL, idA, apure, AS.ev, startA, strip, abin, aint, astr, alen, aslice, optI, aconv, aconvM, gdv, AS.put, ofVal, pcells, ld, ldo, nOw, PV.isOw, gtmp, within, astore, splice, afill, allCells, okIdx, asrc, aflat, aappend, hintOk, PV.clo, PV.clo1, ofL_n, ofL_c, nams, reO, reP, reA, reC, srcI, setG, obG, List.cons.injEq, aeq1, aeqs, onG, Int.reduceLE, Int.reduceNeg, Int.reduceLT, Nat.reduceEqDiff, ↓reduceIte, Nat.reduceLT, Nat.reduceLeDiff, Nat.reduceAdd, Nat.reduceMul, Nat.reduceSub, reduceCtorEq, Int.reduceEq]) <;> rfl) (fun _ => nl3 _ _) (fun _ _ => rfl), by simp [obR, reC, srcI, obsT, obT, okO, okP, okA, okC, okD, okI, reP, reA, reC, srcI, Nl_nil, Nl_cons, PV.nl, upd_at, ofL_n, ofL_c, VS, argsT, lendA, lendL, lendT, Cvl_nil, Cvl_cons, Cv_bool, Cv_int, Cv_str, Cv_nils, Cv_nilc, Cv_cl, Cv_ow, noFn, PV.noF, NR_iff, NRO, hb, ares, ares1, ldo, ld, nOw, PV.isOw, TY], obR_nl (by (simp only [VS, VZ, TY, openC, foldC, foldN, PF, pick_or, pick_and, aop, aopD, rdN, wrN, idL, idA, apure, AS.ev, startA, strip, abin, aint, astr, alen, aslice, optI, aconv, aconvM, gdv, AS.put, ofVal, pcells, ld, ldo, nOw, PV.isOw, gtmp, within, astore, splice, afill, allCells, okIdx, asrc, aflat, aappend, hintOk, PV.clo, PV.clo1, ofL_n, ofL_c, nams, reO, reP, reA, reC, srcI, setG, obG, List.cons.injEq, aeq1, aeqs, onG, Int.reduceLE, Int.reduceNeg, Int.reduceLT, Nat.reduceEqDiff, ↓reduceIte, Nat.reduceLT, Nat.reduceLeDiff, Nat.reduceAdd, Nat.reduceMul, Nat.reduceSub, reduceCtorEq, Int.reduceEq]) <;> rfl) (fun _ => nl5 _ _) (fun j hj => hLa j hj), trivial⟩
    · intro x hx
      simp only [List.mem_cons, List.not_mem_nil, or_false] at hx
      rcases hx with rfl | rfl | rfl | rfl | rfl | rfl | rfl
      · simp [okR, okO, okD, okC, cLines]
      · simp [okR, okO, okD, okC]
      · exact okR_nl (fun _ => nl1 _ _)
      · exact okR_upd (fun _ => nl2 _ _) (by simp [okD, okC, okI])
      · exact okR_nl (fun _ => nl3 _ _)
      · simp [okR, okO, okD, okC, okI]
      · exact okR_nl (fun _ => nl5 _ _)
  refine AW_fold [3] n 2 [6] ?_
  simp only [VS, VZ, TY, openC, foldC, foldN, PF, pick_or, pick_and, aop, aopD, rdN, wrN, idL, idA, apure, AS.ev, startA, strip, abin, aint, astr, alen, aslice, optI, aconv, aconvM, gdv, AS.put, ofVal, pcells, ld, ldo, nOw, PV.isOw, gtmp, within, astore, splice, afill, allCells, okIdx, asrc, aflat, aappend, hintOk, PV.clo, PV.clo1, ofL_n, ofL_c, nams, reO, reP, reA, reC, srcI, setG, obG, List.cons.injEq, aeq1, aeqs, onG, Int.reduceLE, Int.reduceNeg, Int.reduceLT, Nat.reduceEqDiff, ↓reduceIte, Nat.reduceLT, Nat.reduceLeDiff, Nat.reduceAdd, Nat.reduceMul, Nat.reduceSub, reduceCtorEq, Int.reduceEq]
  refine ⟨hn_, by simp, by simp [nl_Call], ?_⟩
  have hTl := lateTs_len l.trips n kN b
  have hTa : ∀ j, j < l.trips.length → lpv oTrip (lateTs l.trips n kN b) j = if j = n then [.str t.line, .int .i64 t.days, .ow 3 t.calls.length (lpv pCall L)] else lpv oTrip l.trips j := fun j hj => by
    rw [lateTs_at _ _ _ _ hj]
    by_cases q : j = n
    · subst q; rw [if_pos rfl, if_pos rfl, ht_]; simp [oTrip, lateT, ← hL, hLl]
    · rw [if_neg q, if_neg q, tpA_at hj]; exact (lpv_at hj).symm
  have hsl := late_s (q := n) (k := kN) (b := b) hl
  have hcs : (lateL l n kN b) = ⟨l.stops, lateTs l.trips n kN b, l.walks⟩ := rfl
  refine AW.told (s' := ⟨ofL [(8, .bp [1] 0), (9, .bp [5] 0)], ML [.box (cLines l), .box [.nils, .nils, .nils], .row 1 l.stops.length (lpv pString l.stops), .row 3 (lateTs l.trips n kN b).length (lpv oTrip (lateTs l.trips n kN b)), .row 3 l.walks.length (lpv pWalk l.walks), .box [.sl [2] 1 l.stops.length 0 l.stops.length, .sl [3] 3 (lateTs l.trips n kN b).length 0 (lateTs l.trips n kN b).length, .sl [4] 3 l.walks.length 0 l.walks.length]]⟩) ?_ (vc_ok _ _ _ ?_)
  · refine Told_go hn [[0], [1], [2], [3], [4], [5]] tS ?_ (by simp [cLines, nl_String, nl_Walk, nl_Trip, obsT, obT, okO, okP, okA, okC, okD, okI, reP, reA, reC, srcI, Nl_nil, Nl_cons, PV.nl, upd_at, ofL_n, ofL_c, VS, argsT, lendA, lendL, lendT, Cvl_nil, Cvl_cons, Cv_bool, Cv_int, Cv_str, Cv_nils, Cv_nilc, Cv_cl, Cv_ow, noFn, PV.noF, NR_iff, NRO, hb, ares, ares1, ldo, ld, nOw, PV.isOw, TY])
    simp only [hTl]
    simp [cLines, nl_String, nl_Walk, obsT, obT, okO, okP, okA, okC, okD, okI, reP, reA, reC, srcI, Nl_nil, Nl_cons, PV.nl, upd_at, ofL_n, ofL_c, VS, argsT, lendA, lendL, lendT, Cvl_nil, Cvl_cons, Cv_bool, Cv_int, Cv_str, Cv_nils, Cv_nilc, Cv_cl, Cv_ow, noFn, PV.noF, NR_iff, NRO, hb, ares, ares1, ldo, ld, nOw, PV.isOw, TY]
    intro j hj
    refine ⟨?_, by simp [nl_Trip]⟩
    rw [hTa j hj]
    by_cases q : j = n
    · simp [q]
    · simp [q]
  rw [hcs] at hsl ⊢
  clear hcs
  generalize lateTs l.trips n kN b = T at *
  have cs_ := cs_LinesOk ⟨l.stops, T, l.walks⟩ hsl
  simp only [hC, cLines, VS, VZ, TY, openC, foldC, foldN, PF, pick_or, pick_and, aop, aopD, rdN, wrN, idL, idA, apure, AS.ev, startA, strip, abin, aint, astr, alen, aslice, optI, aconv, aconvM, gdv, AS.put, ofVal, pcells, ld, ldo, nOw, PV.isOw, gtmp, within, astore, splice, afill, allCells, okIdx, asrc, aflat, aappend, hintOk, PV.clo, PV.clo1, ofL_n, ofL_c, nams, reO, reP, reA, reC, srcI, setG, obG, List.cons.injEq, aeq1, aeqs, onG, Int.reduceLE, Int.reduceNeg, Int.reduceLT, Nat.reduceEqDiff, ↓reduceIte, Nat.reduceLT, Nat.reduceLeDiff, Nat.reduceAdd, Nat.reduceMul, Nat.reduceSub, reduceCtorEq, Int.reduceEq]
  refine acall_p true cs_ (by simp [cLines, cv_Trip, cv_Call, cv_Walk, cv_String, obsT, obT, okO, okP, okA, okC, okD, okI, reP, reA, reC, srcI, Nl_nil, Nl_cons, PV.nl, upd_at, ofL_n, ofL_c, VS, argsT, lendA, lendL, lendT, Cvl_nil, Cvl_cons, Cv_bool, Cv_int, Cv_str, Cv_nils, Cv_nilc, Cv_cl, Cv_ow, noFn, PV.noF, NR_iff, NRO, hb, ares, ares1, ldo, ld, nOw, PV.isOw, TY]) tS (.inr tS) ?_
  simp only [hC, cLines, VS, VZ, TY, openC, foldC, foldN, PF, pick_or, pick_and, aop, aopD, rdN, wrN, idL, idA, apure, AS.ev, startA, strip, abin, aint, astr, alen, aslice, optI, aconv, aconvM, gdv, AS.put, ofVal, pcells, ld, ldo, nOw, PV.isOw, gtmp, within, astore, splice, afill, allCells, okIdx, asrc, aflat, aappend, hintOk, PV.clo, PV.clo1, ofL_n, ofL_c, nams, reO, reP, reA, reC, srcI, setG, obG, List.cons.injEq, aeq1, aeqs, onG, Int.reduceLE, Int.reduceNeg, Int.reduceLT, Nat.reduceEqDiff, ↓reduceIte, Nat.reduceLT, Nat.reduceLeDiff, Nat.reduceAdd, Nat.reduceMul, Nat.reduceSub, reduceCtorEq, Int.reduceEq]
  cases hB2 : linesB ⟨l.stops, T, l.walks⟩ with
  | false =>
    refine ⟨fun _ => ?_, fun h => absurd h (by simp)⟩
    rw [if_neg (by simp)]
    refine R_foldn [1] 0 0 1 ?_
    simp only [VS, VZ, TY, openC, foldC, foldN, PF, pick_or, pick_and, aop, aopD, rdN, wrN, idL, idA, apure, AS.ev, startA, strip, abin, aint, astr, alen, aslice, optI, aconv, aconvM, gdv, AS.put, ofVal, pcells, ld, ldo, nOw, PV.isOw, gtmp, within, astore, splice, afill, allCells, okIdx, asrc, aflat, aappend, hintOk, PV.clo, PV.clo1, ofL_n, ofL_c, nams, reO, reP, reA, reC, srcI, setG, obG, List.cons.injEq, aeq1, aeqs, onG, Int.reduceLE, Int.reduceNeg, Int.reduceLT, Nat.reduceEqDiff, ↓reduceIte, Nat.reduceLT, Nat.reduceLeDiff, Nat.reduceAdd, Nat.reduceMul, Nat.reduceSub, reduceCtorEq, Int.reduceEq]
    refine R_open [1] 0 0 ?_
    simp only [VS, VZ, TY, openC, foldC, foldN, PF, pick_or, pick_and, aop, aopD, rdN, wrN, idL, idA, apure, AS.ev, startA, strip, abin, aint, astr, alen, aslice, optI, aconv, aconvM, gdv, AS.put, ofVal, pcells, ld, ldo, nOw, PV.isOw, gtmp, within, astore, splice, afill, allCells, okIdx, asrc, aflat, aappend, hintOk, PV.clo, PV.clo1, ofL_n, ofL_c, nams, reO, reP, reA, reC, srcI, setG, obG, List.cons.injEq, aeq1, aeqs, onG, Int.reduceLE, Int.reduceNeg, Int.reduceLT, Nat.reduceEqDiff, ↓reduceIte, Nat.reduceLT, Nat.reduceLeDiff, Nat.reduceAdd, Nat.reduceMul, Nat.reduceSub, reduceCtorEq, Int.reduceEq]
    refine R_foldn [1] 0 1 3 ?_
    simp only [VS, VZ, TY, openC, foldC, foldN, PF, pick_or, pick_and, aop, aopD, rdN, wrN, idL, idA, apure, AS.ev, startA, strip, abin, aint, astr, alen, aslice, optI, aconv, aconvM, gdv, AS.put, ofVal, pcells, ld, ldo, nOw, PV.isOw, gtmp, within, astore, splice, afill, allCells, okIdx, asrc, aflat, aappend, hintOk, PV.clo, PV.clo1, ofL_n, ofL_c, nams, reO, reP, reA, reC, srcI, setG, obG, List.cons.injEq, aeq1, aeqs, onG, Int.reduceLE, Int.reduceNeg, Int.reduceLT, Nat.reduceEqDiff, ↓reduceIte, Nat.reduceLT, Nat.reduceLeDiff, Nat.reduceAdd, Nat.reduceMul, Nat.reduceSub, reduceCtorEq, Int.reduceEq]
    refine R_open [1] 0 1 ?_
    simp only [VS, VZ, TY, openC, foldC, foldN, PF, pick_or, pick_and, aop, aopD, rdN, wrN, idL, idA, apure, AS.ev, startA, strip, abin, aint, astr, alen, aslice, optI, aconv, aconvM, gdv, AS.put, ofVal, pcells, ld, ldo, nOw, PV.isOw, gtmp, within, astore, splice, afill, allCells, okIdx, asrc, aflat, aappend, hintOk, PV.clo, PV.clo1, ofL_n, ofL_c, nams, reO, reP, reA, reC, srcI, setG, obG, List.cons.injEq, aeq1, aeqs, onG, Int.reduceLE, Int.reduceNeg, Int.reduceLT, Nat.reduceEqDiff, ↓reduceIte, Nat.reduceLT, Nat.reduceLeDiff, Nat.reduceAdd, Nat.reduceMul, Nat.reduceSub, reduceCtorEq, Int.reduceEq]
    refine R_foldn [1] 0 2 3 ?_
    simp only [VS, VZ, TY, openC, foldC, foldN, PF, pick_or, pick_and, aop, aopD, rdN, wrN, idL, idA, apure, AS.ev, startA, strip, abin, aint, astr, alen, aslice, optI, aconv, aconvM, gdv, AS.put, ofVal, pcells, ld, ldo, nOw, PV.isOw, gtmp, within, astore, splice, afill, allCells, okIdx, asrc, aflat, aappend, hintOk, PV.clo, PV.clo1, ofL_n, ofL_c, nams, reO, reP, reA, reC, srcI, setG, obG, List.cons.injEq, aeq1, aeqs, onG, Int.reduceLE, Int.reduceNeg, Int.reduceLT, Nat.reduceEqDiff, ↓reduceIte, Nat.reduceLT, Nat.reduceLeDiff, Nat.reduceAdd, Nat.reduceMul, Nat.reduceSub, reduceCtorEq, Int.reduceEq]
    refine R_open [1] 0 2 ?_
    simp only [VS, VZ, TY, openC, foldC, foldN, PF, pick_or, pick_and, aop, aopD, rdN, wrN, idL, idA, apure, AS.ev, startA, strip, abin, aint, astr, alen, aslice, optI, aconv, aconvM, gdv, AS.put, ofVal, pcells, ld, ldo, nOw, PV.isOw, gtmp, within, astore, splice, afill, allCells, okIdx, asrc, aflat, aappend, hintOk, PV.clo, PV.clo1, ofL_n, ofL_c, nams, reO, reP, reA, reC, srcI, setG, obG, List.cons.injEq, aeq1, aeqs, onG, Int.reduceLE, Int.reduceNeg, Int.reduceLT, Nat.reduceEqDiff, ↓reduceIte, Nat.reduceLT, Nat.reduceLeDiff, Nat.reduceAdd, Nat.reduceMul, Nat.reduceSub, reduceCtorEq, Int.reduceEq]
    exact Ret_go [[6], [7], [8]] (by simp [ln0, obsT, obT, okO, okP, okA, okC, okD, okI, reP, reA, reC, srcI, Nl_nil, Nl_cons, PV.nl, upd_at, ofL_n, ofL_c, VS, argsT, lendA, lendL, lendT, Cvl_nil, Cvl_cons, Cv_bool, Cv_int, Cv_str, Cv_nils, Cv_nilc, Cv_cl, Cv_ow, noFn, PV.noF, NR_iff, NRO, hb, ares, ares1, ldo, ld, nOw, PV.isOw, TY]) (by simp [ln0, nl_String, nl_Walk, nl_Trip, obsT, obT, okO, okP, okA, okC, okD, okI, reP, reA, reC, srcI, Nl_nil, Nl_cons, PV.nl, upd_at, ofL_n, ofL_c, VS, argsT, lendA, lendL, lendT, Cvl_nil, Cvl_cons, Cv_bool, Cv_int, Cv_str, Cv_nils, Cv_nilc, Cv_cl, Cv_ow, noFn, PV.noF, NR_iff, NRO, hb, ares, ares1, ldo, ld, nOw, PV.isOw, TY]) (by simp [ln0, nl_String, nl_Walk, nl_Trip, obsT, obT, okO, okP, okA, okC, okD, okI, reP, reA, reC, srcI, Nl_nil, Nl_cons, PV.nl, upd_at, ofL_n, ofL_c, VS, argsT, lendA, lendL, lendT, Cvl_nil, Cvl_cons, Cv_bool, Cv_int, Cv_str, Cv_nils, Cv_nilc, Cv_cl, Cv_ow, noFn, PV.noF, NR_iff, NRO, hb, ares, ares1, ldo, ld, nOw, PV.isOw, TY])
  | true =>
    refine ⟨fun h => absurd h (by simp), fun _ => ?_⟩
    rw [if_pos rfl]
    exact Ret_go [[2], [3], [4]] tS (by simp [nl_String, nl_Walk, nl_Trip, obsT, obT, okO, okP, okA, okC, okD, okI, reP, reA, reC, srcI, Nl_nil, Nl_cons, PV.nl, upd_at, ofL_n, ofL_c, VS, argsT, lendA, lendL, lendT, Cvl_nil, Cvl_cons, Cv_bool, Cv_int, Cv_str, Cv_nils, Cv_nilc, Cv_cl, Cv_ow, noFn, PV.noF, NR_iff, NRO, hb, ares, ares1, ldo, ld, nOw, PV.isOw, TY]) (by simp [nl_String, nl_Walk, nl_Trip, obsT, obT, okO, okP, okA, okC, okD, okI, reP, reA, reC, srcI, Nl_nil, Nl_cons, PV.nl, upd_at, ofL_n, ofL_c, VS, argsT, lendA, lendL, lendT, Cvl_nil, Cvl_cons, Cv_bool, Cv_int, Cv_str, Cv_nils, Cv_nilc, Cv_cl, Cv_ow, noFn, PV.noF, NR_iff, NRO, hb, ares, ares1, ldo, ld, nOw, PV.isOw, TY])
end Go.Proofs.Ytmmlpehfieojdaa.Wd
namespace Go.Proofs.Ytmmlpehfieojdaa.Wd
open Go Go.RowKit Go.Proofs Go.Proofs.YtmmlpehfieojdaaW.AW
set_option linter.unusedVariables false
set_option linter.unusedSimpArgs false
set_option maxRecDepth 100000
def shM (b : Int) (l : List Cl) (k i : Nat) : List Cl := (List.range l.length).map (shU b l k i)
theorem shM_at (b : Int) (l : List Cl) (k i : Nat) {j : Nat} (h : j < l.length) : lpv pCall (shM b l k i) j = pCall (shU b l k i j) := by
  unfold shM; rw [lpv_map _ _ _ (by simpa using h)]; simp
theorem nl4' (x : Cl) : Nl (pCall x) ↔ True := iff_true_intro (nl4 x)
theorem take_s {X : Type} {l : List X} {i : Nat} {x : X} (h : l[i]? = some x) : l.take (i + 1) = l.take i ++ [x] := by
  obtain ⟨h1, h2⟩ := List.getElem?_eq_some_iff.1 h
  rw [List.take_succ_eq_append_getElem h1, h2]
theorem lateTs_get (l : List Tp) (q k : Nat) (b : Int) {j : Nat} (h : j < l.length) : (lateTs l q k b)[j]? = some (if j = q then lateT b k (tpA l j) else tpA l j) := by
  simp [lateTs, h]
set_option maxHeartbeats 8000000 in
theorem ci_Late (l : Ln) (q k b : Int) (hl : sLines l) : AC Try.prog 21 [.ag (cLines l), .int .i64 q, .int .i64 k, .int .i64 b] (ML []) (rLines (late l q k b)) (ML (mLines (late l q k b))) := by
  obtain ⟨b1, b2, b3, b4⟩ := hl.2.2
  refine AC.of Try.func21 rfl rfl (by simp [Try.ntmps21]) rfl (fun C hC hm => ?_)
  rw [Try.ntmps21] at hC
  have hn : C.m0.nx = _ := congrArg Mem.nx hm
  simp only [ML_nx, List.length_nil, List.length_cons, Nat.zero_add, Nat.reduceAdd] at hn
  simp only [hC, cLines, VS, VZ, TY, openC, foldC, foldN, PF, pick_or, pick_and, aop, aopD, rdN, wrN, idL, idA, apure, AS.ev, startA, strip, abin, aint, astr, alen, aslice, optI, aconv, aconvM, gdv, AS.put, ofVal, pcells, ld, ldo, nOw, PV.isOw, gtmp, within, astore, splice, afill, allCells, okIdx, asrc, aflat, aappend, hintOk, PV.clo, PV.clo1, ofL_n, ofL_c, nams, reO, reP, reA, reC, srcI, setG, obG, List.cons.injEq, aeq1, aeqs, onG, Int.reduceLE, Int.reduceNeg, Int.reduceLT, Nat.reduceEqDiff, ↓reduceIte, Nat.reduceLT, Nat.reduceLeDiff, Nat.reduceAdd, Nat.reduceMul, Nat.reduceSub, reduceCtorEq, Int.reduceEq]
  refine acall_p false (ci_LinesOk l hl) (by simp [cLines, cv_Trip, cv_Call, cv_Walk, cv_String, obsT, obT, okO, okP, okA, okC, okD, okI, reP, reA, reC, srcI, Nl_nil, Nl_cons, PV.nl, upd_at, ofL_n, ofL_c, VS, argsT, lendA, lendL, lendT, Cvl_nil, Cvl_cons, Cv_bool, Cv_int, Cv_str, Cv_nils, Cv_nilc, Cv_cl, Cv_ow, noFn, PV.noF, NR_iff, NRO, hb, ares, ares1, ldo, ld, nOw, PV.isOw, TY]) tS (.inl rfl) ?_
  cases hB : linesB l with
  | false =>
    simp only [hC, hB, cLines, VS, VZ, TY, openC, foldC, foldN, PF, pick_or, pick_and, aop, aopD, rdN, wrN, idL, idA, apure, AS.ev, startA, strip, abin, aint, astr, alen, aslice, optI, aconv, aconvM, gdv, AS.put, ofVal, pcells, ld, ldo, nOw, PV.isOw, gtmp, within, astore, splice, afill, allCells, okIdx, asrc, aflat, aappend, hintOk, PV.clo, PV.clo1, ofL_n, ofL_c, nams, reO, reP, reA, reC, srcI, setG, obG, List.cons.injEq, aeq1, aeqs, onG, Int.reduceLE, Int.reduceNeg, Int.reduceLT, Nat.reduceEqDiff, ↓reduceIte, Nat.reduceLT, Nat.reduceLeDiff, Nat.reduceAdd, Nat.reduceMul, Nat.reduceSub, reduceCtorEq, Int.reduceEq]
    rw [late_B hB]
    refine R_foldn [1] 0 0 1 ?_
    simp only [VS, VZ, TY, openC, foldC, foldN, PF, pick_or, pick_and, aop, aopD, rdN, wrN, idL, idA, apure, AS.ev, startA, strip, abin, aint, astr, alen, aslice, optI, aconv, aconvM, gdv, AS.put, ofVal, pcells, ld, ldo, nOw, PV.isOw, gtmp, within, astore, splice, afill, allCells, okIdx, asrc, aflat, aappend, hintOk, PV.clo, PV.clo1, ofL_n, ofL_c, nams, reO, reP, reA, reC, srcI, setG, obG, List.cons.injEq, aeq1, aeqs, onG, Int.reduceLE, Int.reduceNeg, Int.reduceLT, Nat.reduceEqDiff, ↓reduceIte, Nat.reduceLT, Nat.reduceLeDiff, Nat.reduceAdd, Nat.reduceMul, Nat.reduceSub, reduceCtorEq, Int.reduceEq]
    refine R_open [1] 0 0 ?_
    simp only [VS, VZ, TY, openC, foldC, foldN, PF, pick_or, pick_and, aop, aopD, rdN, wrN, idL, idA, apure, AS.ev, startA, strip, abin, aint, astr, alen, aslice, optI, aconv, aconvM, gdv, AS.put, ofVal, pcells, ld, ldo, nOw, PV.isOw, gtmp, within, astore, splice, afill, allCells, okIdx, asrc, aflat, aappend, hintOk, PV.clo, PV.clo1, ofL_n, ofL_c, nams, reO, reP, reA, reC, srcI, setG, obG, List.cons.injEq, aeq1, aeqs, onG, Int.reduceLE, Int.reduceNeg, Int.reduceLT, Nat.reduceEqDiff, ↓reduceIte, Nat.reduceLT, Nat.reduceLeDiff, Nat.reduceAdd, Nat.reduceMul, Nat.reduceSub, reduceCtorEq, Int.reduceEq]
    refine R_foldn [1] 0 1 3 ?_
    simp only [VS, VZ, TY, openC, foldC, foldN, PF, pick_or, pick_and, aop, aopD, rdN, wrN, idL, idA, apure, AS.ev, startA, strip, abin, aint, astr, alen, aslice, optI, aconv, aconvM, gdv, AS.put, ofVal, pcells, ld, ldo, nOw, PV.isOw, gtmp, within, astore, splice, afill, allCells, okIdx, asrc, aflat, aappend, hintOk, PV.clo, PV.clo1, ofL_n, ofL_c, nams, reO, reP, reA, reC, srcI, setG, obG, List.cons.injEq, aeq1, aeqs, onG, Int.reduceLE, Int.reduceNeg, Int.reduceLT, Nat.reduceEqDiff, ↓reduceIte, Nat.reduceLT, Nat.reduceLeDiff, Nat.reduceAdd, Nat.reduceMul, Nat.reduceSub, reduceCtorEq, Int.reduceEq]
    refine R_open [1] 0 1 ?_
    simp only [VS, VZ, TY, openC, foldC, foldN, PF, pick_or, pick_and, aop, aopD, rdN, wrN, idL, idA, apure, AS.ev, startA, strip, abin, aint, astr, alen, aslice, optI, aconv, aconvM, gdv, AS.put, ofVal, pcells, ld, ldo, nOw, PV.isOw, gtmp, within, astore, splice, afill, allCells, okIdx, asrc, aflat, aappend, hintOk, PV.clo, PV.clo1, ofL_n, ofL_c, nams, reO, reP, reA, reC, srcI, setG, obG, List.cons.injEq, aeq1, aeqs, onG, Int.reduceLE, Int.reduceNeg, Int.reduceLT, Nat.reduceEqDiff, ↓reduceIte, Nat.reduceLT, Nat.reduceLeDiff, Nat.reduceAdd, Nat.reduceMul, Nat.reduceSub, reduceCtorEq, Int.reduceEq]
    refine R_foldn [1] 0 2 3 ?_
    simp only [VS, VZ, TY, openC, foldC, foldN, PF, pick_or, pick_and, aop, aopD, rdN, wrN, idL, idA, apure, AS.ev, startA, strip, abin, aint, astr, alen, aslice, optI, aconv, aconvM, gdv, AS.put, ofVal, pcells, ld, ldo, nOw, PV.isOw, gtmp, within, astore, splice, afill, allCells, okIdx, asrc, aflat, aappend, hintOk, PV.clo, PV.clo1, ofL_n, ofL_c, nams, reO, reP, reA, reC, srcI, setG, obG, List.cons.injEq, aeq1, aeqs, onG, Int.reduceLE, Int.reduceNeg, Int.reduceLT, Nat.reduceEqDiff, ↓reduceIte, Nat.reduceLT, Nat.reduceLeDiff, Nat.reduceAdd, Nat.reduceMul, Nat.reduceSub, reduceCtorEq, Int.reduceEq]
    refine R_open [1] 0 2 ?_
    simp only [VS, VZ, TY, openC, foldC, foldN, PF, pick_or, pick_and, aop, aopD, rdN, wrN, idL, idA, apure, AS.ev, startA, strip, abin, aint, astr, alen, aslice, optI, aconv, aconvM, gdv, AS.put, ofVal, pcells, ld, ldo, nOw, PV.isOw, gtmp, within, astore, splice, afill, allCells, okIdx, asrc, aflat, aappend, hintOk, PV.clo, PV.clo1, ofL_n, ofL_c, nams, reO, reP, reA, reC, srcI, setG, obG, List.cons.injEq, aeq1, aeqs, onG, Int.reduceLE, Int.reduceNeg, Int.reduceLT, Nat.reduceEqDiff, ↓reduceIte, Nat.reduceLT, Nat.reduceLeDiff, Nat.reduceAdd, Nat.reduceMul, Nat.reduceSub, reduceCtorEq, Int.reduceEq]
    exact Ret_go [[2], [3], [4]] (by simp [ln0, obsT, obT, okO, okP, okA, okC, okD, okI, reP, reA, reC, srcI, Nl_nil, Nl_cons, PV.nl, upd_at, ofL_n, ofL_c, VS, argsT, lendA, lendL, lendT, Cvl_nil, Cvl_cons, Cv_bool, Cv_int, Cv_str, Cv_nils, Cv_nilc, Cv_cl, Cv_ow, noFn, PV.noF, NR_iff, NRO, hb, ares, ares1, ldo, ld, nOw, PV.isOw, TY]) (by simp [ln0, nl_String, nl_Walk, nl_Trip, obsT, obT, okO, okP, okA, okC, okD, okI, reP, reA, reC, srcI, Nl_nil, Nl_cons, PV.nl, upd_at, ofL_n, ofL_c, VS, argsT, lendA, lendL, lendT, Cvl_nil, Cvl_cons, Cv_bool, Cv_int, Cv_str, Cv_nils, Cv_nilc, Cv_cl, Cv_ow, noFn, PV.noF, NR_iff, NRO, hb, ares, ares1, ldo, ld, nOw, PV.isOw, TY]) (by simp [ln0, nl_String, nl_Walk, nl_Trip, obsT, obT, okO, okP, okA, okC, okD, okI, reP, reA, reC, srcI, Nl_nil, Nl_cons, PV.nl, upd_at, ofL_n, ofL_c, VS, argsT, lendA, lendL, lendT, Cvl_nil, Cvl_cons, Cv_bool, Cv_int, Cv_str, Cv_nils, Cv_nilc, Cv_cl, Cv_ow, noFn, PV.noF, NR_iff, NRO, hb, ares, ares1, ldo, ld, nOw, PV.isOw, TY])
  | true =>
  by_cases hq : 0 ≤ q ∧ q < l.trips.length
  case neg =>
    rw [late_no (by omega)]
    by_cases hq0 : q < 0
    · have d0 : decide (q < 0) = true := by simpa using hq0
      simp only [hC, hB, d0, cLines, VS, VZ, TY, openC, foldC, foldN, PF, pick_or, pick_and, aop, aopD, rdN, wrN, idL, idA, apure, AS.ev, startA, strip, abin, aint, astr, alen, aslice, optI, aconv, aconvM, gdv, AS.put, ofVal, pcells, ld, ldo, nOw, PV.isOw, gtmp, within, astore, splice, afill, allCells, okIdx, asrc, aflat, aappend, hintOk, PV.clo, PV.clo1, ofL_n, ofL_c, nams, reO, reP, reA, reC, srcI, setG, obG, List.cons.injEq, aeq1, aeqs, onG, Int.reduceLE, Int.reduceNeg, Int.reduceLT, Nat.reduceEqDiff, ↓reduceIte, Nat.reduceLT, Nat.reduceLeDiff, Nat.reduceAdd, Nat.reduceMul, Nat.reduceSub, reduceCtorEq, Int.reduceEq]
      refine R_foldn [1] 0 0 1 ?_
      simp only [VS, VZ, TY, openC, foldC, foldN, PF, pick_or, pick_and, aop, aopD, rdN, wrN, idL, idA, apure, AS.ev, startA, strip, abin, aint, astr, alen, aslice, optI, aconv, aconvM, gdv, AS.put, ofVal, pcells, ld, ldo, nOw, PV.isOw, gtmp, within, astore, splice, afill, allCells, okIdx, asrc, aflat, aappend, hintOk, PV.clo, PV.clo1, ofL_n, ofL_c, nams, reO, reP, reA, reC, srcI, setG, obG, List.cons.injEq, aeq1, aeqs, onG, Int.reduceLE, Int.reduceNeg, Int.reduceLT, Nat.reduceEqDiff, ↓reduceIte, Nat.reduceLT, Nat.reduceLeDiff, Nat.reduceAdd, Nat.reduceMul, Nat.reduceSub, reduceCtorEq, Int.reduceEq]
      refine R_open [1] 0 0 ?_
      simp only [VS, VZ, TY, openC, foldC, foldN, PF, pick_or, pick_and, aop, aopD, rdN, wrN, idL, idA, apure, AS.ev, startA, strip, abin, aint, astr, alen, aslice, optI, aconv, aconvM, gdv, AS.put, ofVal, pcells, ld, ldo, nOw, PV.isOw, gtmp, within, astore, splice, afill, allCells, okIdx, asrc, aflat, aappend, hintOk, PV.clo, PV.clo1, ofL_n, ofL_c, nams, reO, reP, reA, reC, srcI, setG, obG, List.cons.injEq, aeq1, aeqs, onG, Int.reduceLE, Int.reduceNeg, Int.reduceLT, Nat.reduceEqDiff, ↓reduceIte, Nat.reduceLT, Nat.reduceLeDiff, Nat.reduceAdd, Nat.reduceMul, Nat.reduceSub, reduceCtorEq, Int.reduceEq]
      refine R_foldn [1] 0 1 3 ?_
      simp only [VS, VZ, TY, openC, foldC, foldN, PF, pick_or, pick_and, aop, aopD, rdN, wrN, idL, idA, apure, AS.ev, startA, strip, abin, aint, astr, alen, aslice, optI, aconv, aconvM, gdv, AS.put, ofVal, pcells, ld, ldo, nOw, PV.isOw, gtmp, within, astore, splice, afill, allCells, okIdx, asrc, aflat, aappend, hintOk, PV.clo, PV.clo1, ofL_n, ofL_c, nams, reO, reP, reA, reC, srcI, setG, obG, List.cons.injEq, aeq1, aeqs, onG, Int.reduceLE, Int.reduceNeg, Int.reduceLT, Nat.reduceEqDiff, ↓reduceIte, Nat.reduceLT, Nat.reduceLeDiff, Nat.reduceAdd, Nat.reduceMul, Nat.reduceSub, reduceCtorEq, Int.reduceEq]
      refine R_open [1] 0 1 ?_
      simp only [VS, VZ, TY, openC, foldC, foldN, PF, pick_or, pick_and, aop, aopD, rdN, wrN, idL, idA, apure, AS.ev, startA, strip, abin, aint, astr, alen, aslice, optI, aconv, aconvM, gdv, AS.put, ofVal, pcells, ld, ldo, nOw, PV.isOw, gtmp, within, astore, splice, afill, allCells, okIdx, asrc, aflat, aappend, hintOk, PV.clo, PV.clo1, ofL_n, ofL_c, nams, reO, reP, reA, reC, srcI, setG, obG, List.cons.injEq, aeq1, aeqs, onG, Int.reduceLE, Int.reduceNeg, Int.reduceLT, Nat.reduceEqDiff, ↓reduceIte, Nat.reduceLT, Nat.reduceLeDiff, Nat.reduceAdd, Nat.reduceMul, Nat.reduceSub, reduceCtorEq, Int.reduceEq]
      refine R_foldn [1] 0 2 3 ?_
      simp only [VS, VZ, TY, openC, foldC, foldN, PF, pick_or, pick_and, aop, aopD, rdN, wrN, idL, idA, apure, AS.ev, startA, strip, abin, aint, astr, alen, aslice, optI, aconv, aconvM, gdv, AS.put, ofVal, pcells, ld, ldo, nOw, PV.isOw, gtmp, within, astore, splice, afill, allCells, okIdx, asrc, aflat, aappend, hintOk, PV.clo, PV.clo1, ofL_n, ofL_c, nams, reO, reP, reA, reC, srcI, setG, obG, List.cons.injEq, aeq1, aeqs, onG, Int.reduceLE, Int.reduceNeg, Int.reduceLT, Nat.reduceEqDiff, ↓reduceIte, Nat.reduceLT, Nat.reduceLeDiff, Nat.reduceAdd, Nat.reduceMul, Nat.reduceSub, reduceCtorEq, Int.reduceEq]
      refine R_open [1] 0 2 ?_
      simp only [VS, VZ, TY, openC, foldC, foldN, PF, pick_or, pick_and, aop, aopD, rdN, wrN, idL, idA, apure, AS.ev, startA, strip, abin, aint, astr, alen, aslice, optI, aconv, aconvM, gdv, AS.put, ofVal, pcells, ld, ldo, nOw, PV.isOw, gtmp, within, astore, splice, afill, allCells, okIdx, asrc, aflat, aappend, hintOk, PV.clo, PV.clo1, ofL_n, ofL_c, nams, reO, reP, reA, reC, srcI, setG, obG, List.cons.injEq, aeq1, aeqs, onG, Int.reduceLE, Int.reduceNeg, Int.reduceLT, Nat.reduceEqDiff, ↓reduceIte, Nat.reduceLT, Nat.reduceLeDiff, Nat.reduceAdd, Nat.reduceMul, Nat.reduceSub, reduceCtorEq, Int.reduceEq]
      exact Ret_go [[2], [3], [4]] (by simp [ln0, obsT, obT, okO, okP, okA, okC, okD, okI, reP, reA, reC, srcI, Nl_nil, Nl_cons, PV.nl, upd_at, ofL_n, ofL_c, VS, argsT, lendA, lendL, lendT, Cvl_nil, Cvl_cons, Cv_bool, Cv_int, Cv_str, Cv_nils, Cv_nilc, Cv_cl, Cv_ow, noFn, PV.noF, NR_iff, NRO, hb, ares, ares1, ldo, ld, nOw, PV.isOw, TY]) (by simp [ln0, nl_String, nl_Walk, nl_Trip, obsT, obT, okO, okP, okA, okC, okD, okI, reP, reA, reC, srcI, Nl_nil, Nl_cons, PV.nl, upd_at, ofL_n, ofL_c, VS, argsT, lendA, lendL, lendT, Cvl_nil, Cvl_cons, Cv_bool, Cv_int, Cv_str, Cv_nils, Cv_nilc, Cv_cl, Cv_ow, noFn, PV.noF, NR_iff, NRO, hb, ares, ares1, ldo, ld, nOw, PV.isOw, TY]) (by simp [ln0, nl_String, nl_Walk, nl_Trip, obsT, obT, okO, okP, okA, okC, okD, okI, reP, reA, reC, srcI, Nl_nil, Nl_cons, PV.nl, upd_at, ofL_n, ofL_c, VS, argsT, lendA, lendL, lendT, Cvl_nil, Cvl_cons, Cv_bool, Cv_int, Cv_str, Cv_nils, Cv_nilc, Cv_cl, Cv_ow, noFn, PV.noF, NR_iff, NRO, hb, ares, ares1, ldo, ld, nOw, PV.isOw, TY])
    · have d0 : decide (q < 0) = false := by simpa using hq0
      have d1 : decide ((l.trips.length : Int) ≤ q) = true := by simp; omega
      simp only [hC, hB, d0, d1, cLines, VS, VZ, TY, openC, foldC, foldN, PF, pick_or, pick_and, aop, aopD, rdN, wrN, idL, idA, apure, AS.ev, startA, strip, abin, aint, astr, alen, aslice, optI, aconv, aconvM, gdv, AS.put, ofVal, pcells, ld, ldo, nOw, PV.isOw, gtmp, within, astore, splice, afill, allCells, okIdx, asrc, aflat, aappend, hintOk, PV.clo, PV.clo1, ofL_n, ofL_c, nams, reO, reP, reA, reC, srcI, setG, obG, List.cons.injEq, aeq1, aeqs, onG, Int.reduceLE, Int.reduceNeg, Int.reduceLT, Nat.reduceEqDiff, ↓reduceIte, Nat.reduceLT, Nat.reduceLeDiff, Nat.reduceAdd, Nat.reduceMul, Nat.reduceSub, reduceCtorEq, Int.reduceEq]
      refine R_foldn [1] 0 0 1 ?_
      simp only [VS, VZ, TY, openC, foldC, foldN, PF, pick_or, pick_and, aop, aopD, rdN, wrN, idL, idA, apure, AS.ev, startA, strip, abin, aint, astr, alen, aslice, optI, aconv, aconvM, gdv, AS.put, ofVal, pcells, ld, ldo, nOw, PV.isOw, gtmp, within, astore, splice, afill, allCells, okIdx, asrc, aflat, aappend, hintOk, PV.clo, PV.clo1, ofL_n, ofL_c, nams, reO, reP, reA, reC, srcI, setG, obG, List.cons.injEq, aeq1, aeqs, onG, Int.reduceLE, Int.reduceNeg, Int.reduceLT, Nat.reduceEqDiff, ↓reduceIte, Nat.reduceLT, Nat.reduceLeDiff, Nat.reduceAdd, Nat.reduceMul, Nat.reduceSub, reduceCtorEq, Int.reduceEq]
      refine R_open [1] 0 0 ?_
      simp only [VS, VZ, TY, openC, foldC, foldN, PF, pick_or, pick_and, aop, aopD, rdN, wrN, idL, idA, apure, AS.ev, startA, strip, abin, aint, astr, alen, aslice, optI, aconv, aconvM, gdv, AS.put, ofVal, pcells, ld, ldo, nOw, PV.isOw, gtmp, within, astore, splice, afill, allCells, okIdx, asrc, aflat, aappend, hintOk, PV.clo, PV.clo1, ofL_n, ofL_c, nams, reO, reP, reA, reC, srcI, setG, obG, List.cons.injEq, aeq1, aeqs, onG, Int.reduceLE, Int.reduceNeg, Int.reduceLT, Nat.reduceEqDiff, ↓reduceIte, Nat.reduceLT, Nat.reduceLeDiff, Nat.reduceAdd, Nat.reduceMul, Nat.reduceSub, reduceCtorEq, Int.reduceEq]
      refine R_foldn [1] 0 1 3 ?_
      simp only [VS, VZ, TY, openC, foldC, foldN, PF, pick_or, pick_and, aop, aopD, rdN, wrN, idL, idA, apure, AS.ev, startA, strip, abin, aint, astr, alen, aslice, optI, aconv, aconvM, gdv, AS.put, ofVal, pcells, ld, ldo, nOw, PV.isOw, gtmp, within, astore, splice, afill, allCells, okIdx, asrc, aflat, aappend, hintOk, PV.clo, PV.clo1, ofL_n, ofL_c, nams, reO, reP, reA, reC, srcI, setG, obG, List.cons.injEq, aeq1, aeqs, onG, Int.reduceLE, Int.reduceNeg, Int.reduceLT, Nat.reduceEqDiff, ↓reduceIte, Nat.reduceLT, Nat.reduceLeDiff, Nat.reduceAdd, Nat.reduceMul, Nat.reduceSub, reduceCtorEq, Int.reduceEq]
      refine R_open [1] 0 1 ?_
      simp only [VS, VZ, TY, openC, foldC, foldN, PF, pick_or, pick_and, aop, aopD, rdN, wrN, idL, idA, apure, AS.ev, startA, strip, abin, aint, astr, alen, aslice, optI, aconv, aconvM, gdv, AS.put, ofVal, pcells, ld, ldo, nOw, PV.isOw, gtmp, within, astore, splice, afill, allCells, okIdx, asrc, aflat, aappend, hintOk, PV.clo, PV.clo1, ofL_n, ofL_c, nams, reO, reP, reA, reC, srcI, setG, obG, List.cons.injEq, aeq1, aeqs, onG, Int.reduceLE, Int.reduceNeg, Int.reduceLT, Nat.reduceEqDiff, ↓reduceIte, Nat.reduceLT, Nat.reduceLeDiff, Nat.reduceAdd, Nat.reduceMul, Nat.reduceSub, reduceCtorEq, Int.reduceEq]
      refine R_foldn [1] 0 2 3 ?_
      simp only [VS, VZ, TY, openC, foldC, foldN, PF, pick_or, pick_and, aop, aopD, rdN, wrN, idL, idA, apure, AS.ev, startA, strip, abin, aint, astr, alen, aslice, optI, aconv, aconvM, gdv, AS.put, ofVal, pcells, ld, ldo, nOw, PV.isOw, gtmp, within, astore, splice, afill, allCells, okIdx, asrc, aflat, aappend, hintOk, PV.clo, PV.clo1, ofL_n, ofL_c, nams, reO, reP, reA, reC, srcI, setG, obG, List.cons.injEq, aeq1, aeqs, onG, Int.reduceLE, Int.reduceNeg, Int.reduceLT, Nat.reduceEqDiff, ↓reduceIte, Nat.reduceLT, Nat.reduceLeDiff, Nat.reduceAdd, Nat.reduceMul, Nat.reduceSub, reduceCtorEq, Int.reduceEq]
      refine R_open [1] 0 2 ?_
      simp only [VS, VZ, TY, openC, foldC, foldN, PF, pick_or, pick_and, aop, aopD, rdN, wrN, idL, idA, apure, AS.ev, startA, strip, abin, aint, astr, alen, aslice, optI, aconv, aconvM, gdv, AS.put, ofVal, pcells, ld, ldo, nOw, PV.isOw, gtmp, within, astore, splice, afill, allCells, okIdx, asrc, aflat, aappend, hintOk, PV.clo, PV.clo1, ofL_n, ofL_c, nams, reO, reP, reA, reC, srcI, setG, obG, List.cons.injEq, aeq1, aeqs, onG, Int.reduceLE, Int.reduceNeg, Int.reduceLT, Nat.reduceEqDiff, ↓reduceIte, Nat.reduceLT, Nat.reduceLeDiff, Nat.reduceAdd, Nat.reduceMul, Nat.reduceSub, reduceCtorEq, Int.reduceEq]
      exact Ret_go [[2], [3], [4]] (by simp [ln0, obsT, obT, okO, okP, okA, okC, okD, okI, reP, reA, reC, srcI, Nl_nil, Nl_cons, PV.nl, upd_at, ofL_n, ofL_c, VS, argsT, lendA, lendL, lendT, Cvl_nil, Cvl_cons, Cv_bool, Cv_int, Cv_str, Cv_nils, Cv_nilc, Cv_cl, Cv_ow, noFn, PV.noF, NR_iff, NRO, hb, ares, ares1, ldo, ld, nOw, PV.isOw, TY]) (by simp [ln0, nl_String, nl_Walk, nl_Trip, obsT, obT, okO, okP, okA, okC, okD, okI, reP, reA, reC, srcI, Nl_nil, Nl_cons, PV.nl, upd_at, ofL_n, ofL_c, VS, argsT, lendA, lendL, lendT, Cvl_nil, Cvl_cons, Cv_bool, Cv_int, Cv_str, Cv_nils, Cv_nilc, Cv_cl, Cv_ow, noFn, PV.noF, NR_iff, NRO, hb, ares, ares1, ldo, ld, nOw, PV.isOw, TY]) (by simp [ln0, nl_String, nl_Walk, nl_Trip, obsT, obT, okO, okP, okA, okC, okD, okI, reP, reA, reC, srcI, Nl_nil, Nl_cons, PV.nl, upd_at, ofL_n, ofL_c, VS, argsT, lendA, lendL, lendT, Cvl_nil, Cvl_cons, Cv_bool, Cv_int, Cv_str, Cv_nils, Cv_nilc, Cv_cl, Cv_ow, noFn, PV.noF, NR_iff, NRO, hb, ares, ares1, ldo, ld, nOw, PV.isOw, TY])
  case pos =>
  have d0 : decide (q < 0) = false := by simp; omega
  have d1 : decide ((l.trips.length : Int) ≤ q) = false := by simp; omega
  obtain ⟨n, rfl⟩ : ∃ n : Nat, q = n := ⟨q.toNat, by omega⟩
  have hn_ : n < l.trips.length := by omega
  have e := tpA_pv hn_
  simp only [hC, hB, d0, d1, e, Int.toNat_natCast, cLines, cTrip, VS, VZ, TY, openC, foldC, foldN, PF, pick_or, pick_and, aop, aopD, rdN, wrN, idL, idA, apure, AS.ev, startA, strip, abin, aint, astr, alen, aslice, optI, aconv, aconvM, gdv, AS.put, ofVal, pcells, ld, ldo, nOw, PV.isOw, gtmp, within, astore, splice, afill, allCells, okIdx, asrc, aflat, aappend, hintOk, PV.clo, PV.clo1, ofL_n, ofL_c, nams, reO, reP, reA, reC, srcI, setG, obG, List.cons.injEq, aeq1, aeqs, onG, Int.reduceLE, Int.reduceNeg, Int.reduceLT, Nat.reduceEqDiff, ↓reduceIte, Nat.reduceLT, Nat.reduceLeDiff, Nat.reduceAdd, Nat.reduceMul, Nat.reduceSub, reduceCtorEq, Int.reduceEq]
  refine ⟨fun _ => by omega, fun h => ?_, fun h => ?_⟩
  · rw [late_no (by simp at h ⊢; omega)]
    refine R_foldn [1] 0 0 1 ?_
    simp only [VS, VZ, TY, openC, foldC, foldN, PF, pick_or, pick_and, aop, aopD, rdN, wrN, idL, idA, apure, AS.ev, startA, strip, abin, aint, astr, alen, aslice, optI, aconv, aconvM, gdv, AS.put, ofVal, pcells, ld, ldo, nOw, PV.isOw, gtmp, within, astore, splice, afill, allCells, okIdx, asrc, aflat, aappend, hintOk, PV.clo, PV.clo1, ofL_n, ofL_c, nams, reO, reP, reA, reC, srcI, setG, obG, List.cons.injEq, aeq1, aeqs, onG, Int.reduceLE, Int.reduceNeg, Int.reduceLT, Nat.reduceEqDiff, ↓reduceIte, Nat.reduceLT, Nat.reduceLeDiff, Nat.reduceAdd, Nat.reduceMul, Nat.reduceSub, reduceCtorEq, Int.reduceEq]
    refine R_open [1] 0 0 ?_
    simp only [VS, VZ, TY, openC, foldC, foldN, PF, pick_or, pick_and, aop, aopD, rdN, wrN, idL, idA, apure, AS.ev, startA, strip, abin, aint, astr, alen, aslice, optI, aconv, aconvM, gdv, AS.put, ofVal, pcells, ld, ldo, nOw, PV.isOw, gtmp, within, astore, splice, afill, allCells, okIdx, asrc, aflat, aappend, hintOk, PV.clo, PV.clo1, ofL_n, ofL_c, nams, reO, reP, reA, reC, srcI, setG, obG, List.cons.injEq, aeq1, aeqs, onG, Int.reduceLE, Int.reduceNeg, Int.reduceLT, Nat.reduceEqDiff, ↓reduceIte, Nat.reduceLT, Nat.reduceLeDiff, Nat.reduceAdd, Nat.reduceMul, Nat.reduceSub, reduceCtorEq, Int.reduceEq]
    refine R_foldn [1] 0 1 3 ?_
    simp only [VS, VZ, TY, openC, foldC, foldN, PF, pick_or, pick_and, aop, aopD, rdN, wrN, idL, idA, apure, AS.ev, startA, strip, abin, aint, astr, alen, aslice, optI, aconv, aconvM, gdv, AS.put, ofVal, pcells, ld, ldo, nOw, PV.isOw, gtmp, within, astore, splice, afill, allCells, okIdx, asrc, aflat, aappend, hintOk, PV.clo, PV.clo1, ofL_n, ofL_c, nams, reO, reP, reA, reC, srcI, setG, obG, List.cons.injEq, aeq1, aeqs, onG, Int.reduceLE, Int.reduceNeg, Int.reduceLT, Nat.reduceEqDiff, ↓reduceIte, Nat.reduceLT, Nat.reduceLeDiff, Nat.reduceAdd, Nat.reduceMul, Nat.reduceSub, reduceCtorEq, Int.reduceEq]
    refine R_open [1] 0 1 ?_
    simp only [VS, VZ, TY, openC, foldC, foldN, PF, pick_or, pick_and, aop, aopD, rdN, wrN, idL, idA, apure, AS.ev, startA, strip, abin, aint, astr, alen, aslice, optI, aconv, aconvM, gdv, AS.put, ofVal, pcells, ld, ldo, nOw, PV.isOw, gtmp, within, astore, splice, afill, allCells, okIdx, asrc, aflat, aappend, hintOk, PV.clo, PV.clo1, ofL_n, ofL_c, nams, reO, reP, reA, reC, srcI, setG, obG, List.cons.injEq, aeq1, aeqs, onG, Int.reduceLE, Int.reduceNeg, Int.reduceLT, Nat.reduceEqDiff, ↓reduceIte, Nat.reduceLT, Nat.reduceLeDiff, Nat.reduceAdd, Nat.reduceMul, Nat.reduceSub, reduceCtorEq, Int.reduceEq]
    refine R_foldn [1] 0 2 3 ?_
    simp only [VS, VZ, TY, openC, foldC, foldN, PF, pick_or, pick_and, aop, aopD, rdN, wrN, idL, idA, apure, AS.ev, startA, strip, abin, aint, astr, alen, aslice, optI, aconv, aconvM, gdv, AS.put, ofVal, pcells, ld, ldo, nOw, PV.isOw, gtmp, within, astore, splice, afill, allCells, okIdx, asrc, aflat, aappend, hintOk, PV.clo, PV.clo1, ofL_n, ofL_c, nams, reO, reP, reA, reC, srcI, setG, obG, List.cons.injEq, aeq1, aeqs, onG, Int.reduceLE, Int.reduceNeg, Int.reduceLT, Nat.reduceEqDiff, ↓reduceIte, Nat.reduceLT, Nat.reduceLeDiff, Nat.reduceAdd, Nat.reduceMul, Nat.reduceSub, reduceCtorEq, Int.reduceEq]
    refine R_open [1] 0 2 ?_
    simp only [VS, VZ, TY, openC, foldC, foldN, PF, pick_or, pick_and, aop, aopD, rdN, wrN, idL, idA, apure, AS.ev, startA, strip, abin, aint, astr, alen, aslice, optI, aconv, aconvM, gdv, AS.put, ofVal, pcells, ld, ldo, nOw, PV.isOw, gtmp, within, astore, splice, afill, allCells, okIdx, asrc, aflat, aappend, hintOk, PV.clo, PV.clo1, ofL_n, ofL_c, nams, reO, reP, reA, reC, srcI, setG, obG, List.cons.injEq, aeq1, aeqs, onG, Int.reduceLE, Int.reduceNeg, Int.reduceLT, Nat.reduceEqDiff, ↓reduceIte, Nat.reduceLT, Nat.reduceLeDiff, Nat.reduceAdd, Nat.reduceMul, Nat.reduceSub, reduceCtorEq, Int.reduceEq]
    exact Ret_go [[2], [3], [4]] (by simp [ln0, obsT, obT, okO, okP, okA, okC, okD, okI, reP, reA, reC, srcI, Nl_nil, Nl_cons, PV.nl, upd_at, ofL_n, ofL_c, VS, argsT, lendA, lendL, lendT, Cvl_nil, Cvl_cons, Cv_bool, Cv_int, Cv_str, Cv_nils, Cv_nilc, Cv_cl, Cv_ow, noFn, PV.noF, NR_iff, NRO, hb, ares, ares1, ldo, ld, nOw, PV.isOw, TY]) (by simp [ln0, nl_String, nl_Walk, nl_Trip, obsT, obT, okO, okP, okA, okC, okD, okI, reP, reA, reC, srcI, Nl_nil, Nl_cons, PV.nl, upd_at, ofL_n, ofL_c, VS, argsT, lendA, lendL, lendT, Cvl_nil, Cvl_cons, Cv_bool, Cv_int, Cv_str, Cv_nils, Cv_nilc, Cv_cl, Cv_ow, noFn, PV.noF, NR_iff, NRO, hb, ares, ares1, ldo, ld, nOw, PV.isOw, TY]) (by simp [ln0, nl_String, nl_Walk, nl_Trip, obsT, obT, okO, okP, okA, okC, okD, okI, reP, reA, reC, srcI, Nl_nil, Nl_cons, PV.nl, upd_at, ofL_n, ofL_c, VS, argsT, lendA, lendL, lendT, Cvl_nil, Cvl_cons, Cv_bool, Cv_int, Cv_str, Cv_nils, Cv_nilc, Cv_cl, Cv_ow, noFn, PV.noF, NR_iff, NRO, hb, ares, ares1, ldo, ld, nOw, PV.isOw, TY])
  have hk : 0 ≤ k ∧ k < (tpA l.trips n).calls.length ∧ 0 ≤ b ∧ b ≤ 100000 := by simp at h; omega
  rw [late_ok hB ⟨by omega, by omega, hk.1, by simpa using hk.2.1, hk.2.2.1, hk.2.2.2⟩]
  obtain ⟨kN, rfl⟩ : ∃ n : Nat, k = n := ⟨k.toNat, by omega⟩
  simp only [Int.toNat_natCast]
  clear h e
  have hTl := lateTs_len l.trips n kN b
  have hTg : ∀ j, j < l.trips.length → (lateTs l.trips n kN b)[j]? = some (if j = n then lateT b kN (tpA l.trips j) else tpA l.trips j) := fun j hj => lateTs_get _ _ _ _ hj
  have hsl := late_s (q := n) (k := kN) (b := b) hl
  have hcs : (lateL l n kN b) = ⟨l.stops, lateTs l.trips n kN b, l.walks⟩ := rfl
  rw [hcs] at hsl ⊢
  clear hcs
  generalize lateTs l.trips n kN b = T at *
  repeat first | (refine And.intro (by kernel_rfl) ?_) | (refine And.intro (by omega) ?_) | (refine And.intro (fun j hj => (by obtain rfl : j = 0 := (by omega); simp)) ?_) | fail
  refine AL.go (X := Nat) (fun i => ⟨ofL [(1, .int .i64 n), (2, .int .i64 kN), (3, .int .i64 b), (8, .bp [1] 0), (9, .bp [4] 0), (62, .cl 3 l.trips.length (lpv cTrip l.trips)), (63, .int .i64 l.trips.length), (64, .int .i64 (i : Int))], ML [.box (cLines l), .box [.nils, .nils, .nils], .row 1 l.stops.length (lpv pString l.stops), .row 3 l.walks.length (lpv pWalk l.walks), .box [.sl [2] 1 l.stops.length 0 l.stops.length, .sl [5] 3 i 0 i, .sl [3] 3 l.walks.length 0 l.walks.length], .row 3 i (lpv oTrip (T.take i))]⟩) (fun i => l.trips.length - i) (fun i => i ≤ l.trips.length) 0 (by simp) ?_ (fun i hi => vc_ok _ _ _ ?_)
  · refine T_foldn [6] 0 1 3 ?_
    simp only [VS, VZ, TY, openC, foldC, foldN, PF, pick_or, pick_and, aop, aopD, rdN, wrN, idL, idA, apure, AS.ev, startA, strip, abin, aint, astr, alen, aslice, optI, aconv, aconvM, gdv, AS.put, ofVal, pcells, ld, ldo, nOw, PV.isOw, gtmp, within, astore, splice, afill, allCells, okIdx, asrc, aflat, aappend, hintOk, PV.clo, PV.clo1, ofL_n, ofL_c, nams, reO, reP, reA, reC, srcI, setG, obG, List.cons.injEq, aeq1, aeqs, onG, Int.reduceLE, Int.reduceNeg, Int.reduceLT, Nat.reduceEqDiff, ↓reduceIte, Nat.reduceLT, Nat.reduceLeDiff, Nat.reduceAdd, Nat.reduceMul, Nat.reduceSub, reduceCtorEq, Int.reduceEq]
    refine T_open [6] 0 1 ?_
    simp only [VS, VZ, TY, openC, foldC, foldN, PF, pick_or, pick_and, aop, aopD, rdN, wrN, idL, idA, apure, AS.ev, startA, strip, abin, aint, astr, alen, aslice, optI, aconv, aconvM, gdv, AS.put, ofVal, pcells, ld, ldo, nOw, PV.isOw, gtmp, within, astore, splice, afill, allCells, okIdx, asrc, aflat, aappend, hintOk, PV.clo, PV.clo1, ofL_n, ofL_c, nams, reO, reP, reA, reC, srcI, setG, obG, List.cons.injEq, aeq1, aeqs, onG, Int.reduceLE, Int.reduceNeg, Int.reduceLT, Nat.reduceEqDiff, ↓reduceIte, Nat.reduceLT, Nat.reduceLeDiff, Nat.reduceAdd, Nat.reduceMul, Nat.reduceSub, reduceCtorEq, Int.reduceEq]
    exact Told_go hn [[0], [1], [3], [5], [6], [7]] tS (by simp [cLines, nl_String, nl_Walk, nl_Trip, obsT, obT, okO, okP, okA, okC, okD, okI, reP, reA, reC, srcI, Nl_nil, Nl_cons, PV.nl, upd_at, ofL_n, ofL_c, VS, argsT, lendA, lendL, lendT, Cvl_nil, Cvl_cons, Cv_bool, Cv_int, Cv_str, Cv_nils, Cv_nilc, Cv_cl, Cv_ow, noFn, PV.noF, NR_iff, NRO, hb, ares, ares1, ldo, ld, nOw, PV.isOw, TY]) (by simp [cLines, nl_String, nl_Walk, nl_Trip, obsT, obT, okO, okP, okA, okC, okD, okI, reP, reA, reC, srcI, Nl_nil, Nl_cons, PV.nl, upd_at, ofL_n, ofL_c, VS, argsT, lendA, lendL, lendT, Cvl_nil, Cvl_cons, Cv_bool, Cv_int, Cv_str, Cv_nils, Cv_nilc, Cv_cl, Cv_ow, noFn, PV.noF, NR_iff, NRO, hb, ares, ares1, ldo, ld, nOw, PV.isOw, TY])
  simp only [hC, cLines, VS, VZ, TY, openC, foldC, foldN, PF, pick_or, pick_and, aop, aopD, rdN, wrN, idL, idA, apure, AS.ev, startA, strip, abin, aint, astr, alen, aslice, optI, aconv, aconvM, gdv, AS.put, ofVal, pcells, ld, ldo, nOw, PV.isOw, gtmp, within, astore, splice, afill, allCells, okIdx, asrc, aflat, aappend, hintOk, PV.clo, PV.clo1, ofL_n, ofL_c, nams, reO, reP, reA, reC, srcI, setG, obG, List.cons.injEq, aeq1, aeqs, onG, Int.reduceLE, Int.reduceNeg, Int.reduceLT, Nat.reduceEqDiff, ↓reduceIte, Nat.reduceLT, Nat.reduceLeDiff, Nat.reduceAdd, Nat.reduceMul, Nat.reduceSub, reduceCtorEq, Int.reduceEq]
  refine ⟨fun h1 => ?_, fun h1 => ?_⟩
  · have h1 : i < l.trips.length := by simpa using h1
    have e := tpA_pv h1
    have us := take_s (hTg i h1)
    have tl := take_tl T (i := i) (by omega)
    have hc := tp_len l h1 b3
    have hcl := trip_calls hB h1
    have w3 : IntKind.i64.wrap ((i : Int) + 1) = (i : Int) + 1 := wr64 (by omega) (by omega)
    have hkn : i = n → (kN : Int) < (tpA l.trips i).calls.length := fun q => by rw [q]; exact hk.2.1
    generalize tpA l.trips i = t at *
    simp only [e, w3, cTrip, VS, VZ, TY, openC, foldC, foldN, PF, pick_or, pick_and, aop, aopD, rdN, wrN, idL, idA, apure, AS.ev, startA, strip, abin, aint, astr, alen, aslice, optI, aconv, aconvM, gdv, AS.put, ofVal, pcells, ld, ldo, nOw, PV.isOw, gtmp, within, astore, splice, afill, allCells, okIdx, asrc, aflat, aappend, hintOk, PV.clo, PV.clo1, ofL_n, ofL_c, nams, reO, reP, reA, reC, srcI, setG, obG, List.cons.injEq, aeq1, aeqs, onG, Int.reduceLE, Int.reduceNeg, Int.reduceLT, Nat.reduceEqDiff, ↓reduceIte, Nat.reduceLT, Nat.reduceLeDiff, Nat.reduceAdd, Nat.reduceMul, Nat.reduceSub, reduceCtorEq, Int.reduceEq]
    repeat first | (refine And.intro (by kernel_rfl) ?_) | (refine And.intro (by omega) ?_) | (refine And.intro (fun j hj => (by obtain rfl : j = 0 := (by omega); simp)) ?_) | fail
    refine ⟨fun h2 => ?_, fun h2 => ?_⟩
    · have h2 : i = n := by simp at h2; omega
      rw [if_pos h2] at us
      have hkc := hkn h2
      refine AL.go (X := Nat) (fun j => ⟨ofL [(1, .int .i64 n), (2, .int .i64 kN), (3, .int .i64 b), (8, .bp [1] 0), (9, .bp [4] 0), (62, .cl 3 l.trips.length (lpv cTrip l.trips)), (63, .int .i64 l.trips.length), (64, .int .i64 (i : Int)), (12, .bp [6] 0), (13, .int .i64 (j : Int))], ML [.box (cLines l), .box [.nils, .nils, .nils], .row 1 l.stops.length (lpv pString l.stops), .row 3 l.walks.length (lpv pWalk l.walks), .box [.sl [2] 1 l.stops.length 0 l.stops.length, .sl [5] 3 i 0 i, .sl [3] 3 l.walks.length 0 l.walks.length], .row 3 i (lpv oTrip (T.take i)), .box [.str t.line, .int .i64 t.days, .sl [7] 3 t.calls.length 0 t.calls.length], .row 3 t.calls.length (lpv pCall (shM b t.calls kN j))]⟩) (fun j => t.calls.length - j) (fun j => kN ≤ j ∧ j ≤ t.calls.length) kN ⟨by omega, by omega⟩ ?_ (fun j hj => vc_ok _ _ _ ?_)
      · exact Told_go hn [[0], [1], [2], [3], [4], [5], [9], [8]] tS (by simp (config := {contextual := true}) [shM_at, shU_0, clA_pv, nl4', cLines, nl_String, nl_Walk, nl_Trip, nl_Call, obsT, obT, okO, okP, okA, okC, okD, okI, reP, reA, reC, srcI, Nl_nil, Nl_cons, PV.nl, upd_at, ofL_n, ofL_c, VS, argsT, lendA, lendL, lendT, Cvl_nil, Cvl_cons, Cv_bool, Cv_int, Cv_str, Cv_nils, Cv_nilc, Cv_cl, Cv_ow, noFn, PV.noF, NR_iff, NRO, hb, ares, ares1, ldo, ld, nOw, PV.isOw, TY]) (by simp [cLines, nl_String, nl_Walk, nl_Trip, nl_Call, obsT, obT, okO, okP, okA, okC, okD, okI, reP, reA, reC, srcI, Nl_nil, Nl_cons, PV.nl, upd_at, ofL_n, ofL_c, VS, argsT, lendA, lendL, lendT, Cvl_nil, Cvl_cons, Cv_bool, Cv_int, Cv_str, Cv_nils, Cv_nilc, Cv_cl, Cv_ow, noFn, PV.noF, NR_iff, NRO, hb, ares, ares1, ldo, ld, nOw, PV.isOw, TY])
      simp only [hC, cLines, VS, VZ, TY, openC, foldC, foldN, PF, pick_or, pick_and, aop, aopD, rdN, wrN, idL, idA, apure, AS.ev, startA, strip, abin, aint, astr, alen, aslice, optI, aconv, aconvM, gdv, AS.put, ofVal, pcells, ld, ldo, nOw, PV.isOw, gtmp, within, astore, splice, afill, allCells, okIdx, asrc, aflat, aappend, hintOk, PV.clo, PV.clo1, ofL_n, ofL_c, nams, reO, reP, reA, reC, srcI, setG, obG, List.cons.injEq, aeq1, aeqs, onG, Int.reduceLE, Int.reduceNeg, Int.reduceLT, Nat.reduceEqDiff, ↓reduceIte, Nat.reduceLT, Nat.reduceLeDiff, Nat.reduceAdd, Nat.reduceMul, Nat.reduceSub, reduceCtorEq, Int.reduceEq]
      refine ⟨fun h3 => ?_, fun h3 => ?_⟩
      · have h3 : j < t.calls.length := by simpa using h3
        have hc := hcl j h3
        have es : shU b t.calls kN j j = clA t.calls j := by simp [shU]
        have es2 : shU b t.calls kN (j + 1) j = shC b (clA t.calls j) := by simp [shU, hj.1]
        have es3 : ∀ q, q ≠ j → shU b t.calls kN (j + 1) q = shU b t.calls kN j q := fun q hq => by unfold shU; congr 1; apply propext; omega
        have w1 : IntKind.i64.wrap ((clA t.calls j).arr + b) = (clA t.calls j).arr + b := wr64 (by omega) (by omega)
        have w2 : IntKind.i64.wrap ((clA t.calls j).dep + b) = (clA t.calls j).dep + b := wr64 (by omega) (by omega)
        have w4 : IntKind.i64.wrap ((j : Int) + 1) = (j : Int) + 1 := wr64 (by omega) (by omega)
        have em := shM_at b t.calls kN j h3
        simp only [em, es, w1, w2, w4, pCall, Int.toNat_natCast, VS, VZ, TY, openC, foldC, foldN, PF, pick_or, pick_and, aop, aopD, rdN, wrN, idL, idA, apure, AS.ev, startA, strip, abin, aint, astr, alen, aslice, optI, aconv, aconvM, gdv, AS.put, ofVal, pcells, ld, ldo, nOw, PV.isOw, gtmp, within, astore, splice, afill, allCells, okIdx, asrc, aflat, aappend, hintOk, PV.clo, PV.clo1, ofL_n, ofL_c, nams, reO, reP, reA, reC, srcI, setG, obG, List.cons.injEq, aeq1, aeqs, onG, Int.reduceLE, Int.reduceNeg, Int.reduceLT, Nat.reduceEqDiff, ↓reduceIte, Nat.reduceLT, Nat.reduceLeDiff, Nat.reduceAdd, Nat.reduceMul, Nat.reduceSub, reduceCtorEq, Int.reduceEq]
        repeat first | (refine And.intro (by kernel_rfl) ?_) | (refine And.intro (by omega) ?_) | (refine And.intro (fun j hj => (by obtain rfl : j = 0 := (by omega); simp)) ?_) | fail
        refine ⟨j + 1, ⟨by omega, by omega⟩, by omega, ?_⟩
        refine Told_go hn [[0], [1], [2], [3], [4], [5], [6], [7]] tS ?_ (by simp [cLines, nl_String, nl_Walk, nl_Trip, nl_Call, obsT, obT, okO, okP, okA, okC, okD, okI, reP, reA, reC, srcI, Nl_nil, Nl_cons, PV.nl, upd_at, ofL_n, ofL_c, VS, argsT, lendA, lendL, lendT, Cvl_nil, Cvl_cons, Cv_bool, Cv_int, Cv_str, Cv_nils, Cv_nilc, Cv_cl, Cv_ow, noFn, PV.noF, NR_iff, NRO, hb, ares, ares1, ldo, ld, nOw, PV.isOw, TY])
        simp [cLines, nl_String, nl_Walk, nl_Trip, obsT, obT, okO, okP, okA, okC, okD, okI, reP, reA, reC, srcI, Nl_nil, Nl_cons, PV.nl, upd_at, ofL_n, ofL_c, VS, argsT, lendA, lendL, lendT, Cvl_nil, Cvl_cons, Cv_bool, Cv_int, Cv_str, Cv_nils, Cv_nilc, Cv_cl, Cv_ow, noFn, PV.noF, NR_iff, NRO, hb, ares, ares1, ldo, ld, nOw, PV.isOw, TY]
        intro q hq
        refine ⟨?_, by simp [nl_Call]⟩
        rw [shM_at _ _ _ (j + 1) hq]
        by_cases qj : q = j
        · subst qj; simp [es2, shC, pCall, obsT, obT, okO, okP, okA, okC, okD, okI, reP, reA, reC, srcI, Nl_nil, Nl_cons, PV.nl, upd_at, ofL_n, ofL_c, VS, argsT, lendA, lendL, lendT, Cvl_nil, Cvl_cons, Cv_bool, Cv_int, Cv_str, Cv_nils, Cv_nilc, Cv_cl, Cv_ow, noFn, PV.noF, NR_iff, NRO, hb, ares, ares1, ldo, ld, nOw, PV.isOw, TY]
        · simp [qj, es3 q qj, shM_at _ _ _ j hq, obsT, obT, okO, okP, okA, okC, okD, okI, reP, reA, reC, srcI, Nl_nil, Nl_cons, PV.nl, upd_at, ofL_n, ofL_c, VS, argsT, lendA, lendL, lendT, Cvl_nil, Cvl_cons, Cv_bool, Cv_int, Cv_str, Cv_nils, Cv_nilc, Cv_cl, Cv_ow, noFn, PV.noF, NR_iff, NRO, hb, ares, ares1, ldo, ld, nOw, PV.isOw, TY]
      have : j = t.calls.length := by simp at h3; omega
      subst this
      have hL : shM b t.calls kN t.calls.length = shL b t.calls kN := rfl
      have hLl := shL_len b t.calls kN
      rw [hL]
      repeat first | (refine And.intro (by kernel_rfl) ?_) | (refine And.intro (by omega) ?_) | (refine And.intro (fun j hj => (by obtain rfl : j = 0 := (by omega); simp)) ?_) | fail
      refine ⟨i + 1, by omega, by omega, ?_⟩
      refine T_fold [9] i 2 [7] ?_
      simp only [VS, VZ, TY, openC, foldC, foldN, PF, pick_or, pick_and, aop, aopD, rdN, wrN, idL, idA, apure, AS.ev, startA, strip, abin, aint, astr, alen, aslice, optI, aconv, aconvM, gdv, AS.put, ofVal, pcells, ld, ldo, nOw, PV.isOw, gtmp, within, astore, splice, afill, allCells, okIdx, asrc, aflat, aappend, hintOk, PV.clo, PV.clo1, ofL_n, ofL_c, nams, reO, reP, reA, reC, srcI, setG, obG, List.cons.injEq, aeq1, aeqs, onG, Int.reduceLE, Int.reduceNeg, Int.reduceLT, Nat.reduceEqDiff, ↓reduceIte, Nat.reduceLT, Nat.reduceLeDiff, Nat.reduceAdd, Nat.reduceMul, Nat.reduceSub, reduceCtorEq, Int.reduceEq]
      refine ⟨by omega, by simp, by simp [nl_Call], ?_⟩
      refine Told_go hn [[0], [1], [2], [3], [4], [9]] (by simp [w3, obsT, obT, okO, okP, okA, okC, okD, okI, reP, reA, reC, srcI, Nl_nil, Nl_cons, PV.nl, upd_at, ofL_n, ofL_c, VS, argsT, lendA, lendL, lendT, Cvl_nil, Cvl_cons, Cv_bool, Cv_int, Cv_str, Cv_nils, Cv_nilc, Cv_cl, Cv_ow, noFn, PV.noF, NR_iff, NRO, hb, ares, ares1, ldo, ld, nOw, PV.isOw, TY]) ?_ (by simp [cLines, nl_String, nl_Walk, nl_Trip, obsT, obT, okO, okP, okA, okC, okD, okI, reP, reA, reC, srcI, Nl_nil, Nl_cons, PV.nl, upd_at, ofL_n, ofL_c, VS, argsT, lendA, lendL, lendT, Cvl_nil, Cvl_cons, Cv_bool, Cv_int, Cv_str, Cv_nils, Cv_nilc, Cv_cl, Cv_ow, noFn, PV.noF, NR_iff, NRO, hb, ares, ares1, ldo, ld, nOw, PV.isOw, TY])
      rw [us]
      simp [cLines, nl_String, nl_Walk, obsT, obT, okO, okP, okA, okC, okD, okI, reP, reA, reC, srcI, Nl_nil, Nl_cons, PV.nl, upd_at, ofL_n, ofL_c, VS, argsT, lendA, lendL, lendT, Cvl_nil, Cvl_cons, Cv_bool, Cv_int, Cv_str, Cv_nils, Cv_nilc, Cv_cl, Cv_ow, noFn, PV.noF, NR_iff, NRO, hb, ares, ares1, ldo, ld, nOw, PV.isOw, TY]
      intro j hj
      refine ⟨?_, by simp [nl_Trip]⟩
      by_cases q : j = i
      · subst q
        have := lpv_new (pv := oTrip) (L := T.take j) (x := lateT b kN t)
        rw [tl] at this
        rw [this]; simp [oTrip, lateT, hLl, obsT, obT, okO, okP, okA, okC, okD, okI, reP, reA, reC, srcI, Nl_nil, Nl_cons, PV.nl, upd_at, ofL_n, ofL_c, VS, argsT, lendA, lendL, lendT, Cvl_nil, Cvl_cons, Cv_bool, Cv_int, Cv_str, Cv_nils, Cv_nilc, Cv_cl, Cv_ow, noFn, PV.noF, NR_iff, NRO, hb, ares, ares1, ldo, ld, nOw, PV.isOw, TY]
      · rw [lpv_old (by omega)]; simp [q, show j < i by omega, obsT, obT, okO, okP, okA, okC, okD, okI, reP, reA, reC, srcI, Nl_nil, Nl_cons, PV.nl, upd_at, ofL_n, ofL_c, VS, argsT, lendA, lendL, lendT, Cvl_nil, Cvl_cons, Cv_bool, Cv_int, Cv_str, Cv_nils, Cv_nilc, Cv_cl, Cv_ow, noFn, PV.noF, NR_iff, NRO, hb, ares, ares1, ldo, ld, nOw, PV.isOw, TY]
    · have h2 : i ≠ n := by simp at h2; omega
      rw [if_neg h2] at us
      repeat first | (refine And.intro (by kernel_rfl) ?_) | (refine And.intro (by omega) ?_) | (refine And.intro (fun j hj => (by obtain rfl : j = 0 := (by omega); simp)) ?_) | fail
      refine ⟨i + 1, by omega, by omega, ?_⟩
      refine T_fold [11] i 2 [8] ?_
      simp only [VS, VZ, TY, openC, foldC, foldN, PF, pick_or, pick_and, aop, aopD, rdN, wrN, idL, idA, apure, AS.ev, startA, strip, abin, aint, astr, alen, aslice, optI, aconv, aconvM, gdv, AS.put, ofVal, pcells, ld, ldo, nOw, PV.isOw, gtmp, within, astore, splice, afill, allCells, okIdx, asrc, aflat, aappend, hintOk, PV.clo, PV.clo1, ofL_n, ofL_c, nams, reO, reP, reA, reC, srcI, setG, obG, List.cons.injEq, aeq1, aeqs, onG, Int.reduceLE, Int.reduceNeg, Int.reduceLT, Nat.reduceEqDiff, ↓reduceIte, Nat.reduceLT, Nat.reduceLeDiff, Nat.reduceAdd, Nat.reduceMul, Nat.reduceSub, reduceCtorEq, Int.reduceEq]
      refine ⟨by omega, by simp, by simp [nl_Call], ?_⟩
      refine Told_go hn [[0], [1], [2], [3], [4], [11]] (by simp [w3, obsT, obT, okO, okP, okA, okC, okD, okI, reP, reA, reC, srcI, Nl_nil, Nl_cons, PV.nl, upd_at, ofL_n, ofL_c, VS, argsT, lendA, lendL, lendT, Cvl_nil, Cvl_cons, Cv_bool, Cv_int, Cv_str, Cv_nils, Cv_nilc, Cv_cl, Cv_ow, noFn, PV.noF, NR_iff, NRO, hb, ares, ares1, ldo, ld, nOw, PV.isOw, TY]) ?_ (by simp [cLines, nl_String, nl_Walk, nl_Trip, obsT, obT, okO, okP, okA, okC, okD, okI, reP, reA, reC, srcI, Nl_nil, Nl_cons, PV.nl, upd_at, ofL_n, ofL_c, VS, argsT, lendA, lendL, lendT, Cvl_nil, Cvl_cons, Cv_bool, Cv_int, Cv_str, Cv_nils, Cv_nilc, Cv_cl, Cv_ow, noFn, PV.noF, NR_iff, NRO, hb, ares, ares1, ldo, ld, nOw, PV.isOw, TY])
      rw [us]
      simp [cLines, nl_String, nl_Walk, obsT, obT, okO, okP, okA, okC, okD, okI, reP, reA, reC, srcI, Nl_nil, Nl_cons, PV.nl, upd_at, ofL_n, ofL_c, VS, argsT, lendA, lendL, lendT, Cvl_nil, Cvl_cons, Cv_bool, Cv_int, Cv_str, Cv_nils, Cv_nilc, Cv_cl, Cv_ow, noFn, PV.noF, NR_iff, NRO, hb, ares, ares1, ldo, ld, nOw, PV.isOw, TY]
      intro j hj
      refine ⟨?_, by simp [nl_Trip]⟩
      by_cases q : j = i
      · subst q
        have := lpv_new (pv := oTrip) (L := T.take j) (x := t)
        rw [tl] at this
        rw [this]; simp [oTrip, obsT, obT, okO, okP, okA, okC, okD, okI, reP, reA, reC, srcI, Nl_nil, Nl_cons, PV.nl, upd_at, ofL_n, ofL_c, VS, argsT, lendA, lendL, lendT, Cvl_nil, Cvl_cons, Cv_bool, Cv_int, Cv_str, Cv_nils, Cv_nilc, Cv_cl, Cv_ow, noFn, PV.noF, NR_iff, NRO, hb, ares, ares1, ldo, ld, nOw, PV.isOw, TY]
      · rw [lpv_old (by omega)]; simp [q, show j < i by omega, obsT, obT, okO, okP, okA, okC, okD, okI, reP, reA, reC, srcI, Nl_nil, Nl_cons, PV.nl, upd_at, ofL_n, ofL_c, VS, argsT, lendA, lendL, lendT, Cvl_nil, Cvl_cons, Cv_bool, Cv_int, Cv_str, Cv_nils, Cv_nilc, Cv_cl, Cv_ow, noFn, PV.noF, NR_iff, NRO, hb, ares, ares1, ldo, ld, nOw, PV.isOw, TY]
  have : i = l.trips.length := by simp at h1; omega
  subst this
  clear h1 hi
  have hT : T.take l.trips.length = T := by rw [← hTl, List.take_length]
  rw [hT]
  have cs_ := ci_LinesOk ⟨l.stops, T, l.walks⟩ hsl
  simp only [cLines, hTl] at cs_
  refine acall_p true cs_ (by simp [cLines, cv_Trip, cv_Call, cv_Walk, cv_String, obsT, obT, okO, okP, okA, okC, okD, okI, reP, reA, reC, srcI, Nl_nil, Nl_cons, PV.nl, upd_at, ofL_n, ofL_c, VS, argsT, lendA, lendL, lendT, Cvl_nil, Cvl_cons, Cv_bool, Cv_int, Cv_str, Cv_nils, Cv_nilc, Cv_cl, Cv_ow, noFn, PV.noF, NR_iff, NRO, hb, ares, ares1, ldo, ld, nOw, PV.isOw, TY]) tS (.inr tS) ?_
  simp only [hC, cLines, VS, VZ, TY, openC, foldC, foldN, PF, pick_or, pick_and, aop, aopD, rdN, wrN, idL, idA, apure, AS.ev, startA, strip, abin, aint, astr, alen, aslice, optI, aconv, aconvM, gdv, AS.put, ofVal, pcells, ld, ldo, nOw, PV.isOw, gtmp, within, astore, splice, afill, allCells, okIdx, asrc, aflat, aappend, hintOk, PV.clo, PV.clo1, ofL_n, ofL_c, nams, reO, reP, reA, reC, srcI, setG, obG, List.cons.injEq, aeq1, aeqs, onG, Int.reduceLE, Int.reduceNeg, Int.reduceLT, Nat.reduceEqDiff, ↓reduceIte, Nat.reduceLT, Nat.reduceLeDiff, Nat.reduceAdd, Nat.reduceMul, Nat.reduceSub, reduceCtorEq, Int.reduceEq]
  cases hB2 : linesB ⟨l.stops, T, l.walks⟩ with
  | false =>
    refine ⟨fun _ => ?_, fun h => absurd h (by simp)⟩
    rw [if_neg (by simp)]
    refine R_foldn [1] 0 0 1 ?_
    simp only [VS, VZ, TY, openC, foldC, foldN, PF, pick_or, pick_and, aop, aopD, rdN, wrN, idL, idA, apure, AS.ev, startA, strip, abin, aint, astr, alen, aslice, optI, aconv, aconvM, gdv, AS.put, ofVal, pcells, ld, ldo, nOw, PV.isOw, gtmp, within, astore, splice, afill, allCells, okIdx, asrc, aflat, aappend, hintOk, PV.clo, PV.clo1, ofL_n, ofL_c, nams, reO, reP, reA, reC, srcI, setG, obG, List.cons.injEq, aeq1, aeqs, onG, Int.reduceLE, Int.reduceNeg, Int.reduceLT, Nat.reduceEqDiff, ↓reduceIte, Nat.reduceLT, Nat.reduceLeDiff, Nat.reduceAdd, Nat.reduceMul, Nat.reduceSub, reduceCtorEq, Int.reduceEq]
    refine R_open [1] 0 0 ?_
    simp only [VS, VZ, TY, openC, foldC, foldN, PF, pick_or, pick_and, aop, aopD, rdN, wrN, idL, idA, apure, AS.ev, startA, strip, abin, aint, astr, alen, aslice, optI, aconv, aconvM, gdv, AS.put, ofVal, pcells, ld, ldo, nOw, PV.isOw, gtmp, within, astore, splice, afill, allCells, okIdx, asrc, aflat, aappend, hintOk, PV.clo, PV.clo1, ofL_n, ofL_c, nams, reO, reP, reA, reC, srcI, setG, obG, List.cons.injEq, aeq1, aeqs, onG, Int.reduceLE, Int.reduceNeg, Int.reduceLT, Nat.reduceEqDiff, ↓reduceIte, Nat.reduceLT, Nat.reduceLeDiff, Nat.reduceAdd, Nat.reduceMul, Nat.reduceSub, reduceCtorEq, Int.reduceEq]
    refine R_foldn [1] 0 1 3 ?_
    simp only [VS, VZ, TY, openC, foldC, foldN, PF, pick_or, pick_and, aop, aopD, rdN, wrN, idL, idA, apure, AS.ev, startA, strip, abin, aint, astr, alen, aslice, optI, aconv, aconvM, gdv, AS.put, ofVal, pcells, ld, ldo, nOw, PV.isOw, gtmp, within, astore, splice, afill, allCells, okIdx, asrc, aflat, aappend, hintOk, PV.clo, PV.clo1, ofL_n, ofL_c, nams, reO, reP, reA, reC, srcI, setG, obG, List.cons.injEq, aeq1, aeqs, onG, Int.reduceLE, Int.reduceNeg, Int.reduceLT, Nat.reduceEqDiff, ↓reduceIte, Nat.reduceLT, Nat.reduceLeDiff, Nat.reduceAdd, Nat.reduceMul, Nat.reduceSub, reduceCtorEq, Int.reduceEq]
    refine R_open [1] 0 1 ?_
    simp only [VS, VZ, TY, openC, foldC, foldN, PF, pick_or, pick_and, aop, aopD, rdN, wrN, idL, idA, apure, AS.ev, startA, strip, abin, aint, astr, alen, aslice, optI, aconv, aconvM, gdv, AS.put, ofVal, pcells, ld, ldo, nOw, PV.isOw, gtmp, within, astore, splice, afill, allCells, okIdx, asrc, aflat, aappend, hintOk, PV.clo, PV.clo1, ofL_n, ofL_c, nams, reO, reP, reA, reC, srcI, setG, obG, List.cons.injEq, aeq1, aeqs, onG, Int.reduceLE, Int.reduceNeg, Int.reduceLT, Nat.reduceEqDiff, ↓reduceIte, Nat.reduceLT, Nat.reduceLeDiff, Nat.reduceAdd, Nat.reduceMul, Nat.reduceSub, reduceCtorEq, Int.reduceEq]
    refine R_foldn [1] 0 2 3 ?_
    simp only [VS, VZ, TY, openC, foldC, foldN, PF, pick_or, pick_and, aop, aopD, rdN, wrN, idL, idA, apure, AS.ev, startA, strip, abin, aint, astr, alen, aslice, optI, aconv, aconvM, gdv, AS.put, ofVal, pcells, ld, ldo, nOw, PV.isOw, gtmp, within, astore, splice, afill, allCells, okIdx, asrc, aflat, aappend, hintOk, PV.clo, PV.clo1, ofL_n, ofL_c, nams, reO, reP, reA, reC, srcI, setG, obG, List.cons.injEq, aeq1, aeqs, onG, Int.reduceLE, Int.reduceNeg, Int.reduceLT, Nat.reduceEqDiff, ↓reduceIte, Nat.reduceLT, Nat.reduceLeDiff, Nat.reduceAdd, Nat.reduceMul, Nat.reduceSub, reduceCtorEq, Int.reduceEq]
    refine R_open [1] 0 2 ?_
    simp only [VS, VZ, TY, openC, foldC, foldN, PF, pick_or, pick_and, aop, aopD, rdN, wrN, idL, idA, apure, AS.ev, startA, strip, abin, aint, astr, alen, aslice, optI, aconv, aconvM, gdv, AS.put, ofVal, pcells, ld, ldo, nOw, PV.isOw, gtmp, within, astore, splice, afill, allCells, okIdx, asrc, aflat, aappend, hintOk, PV.clo, PV.clo1, ofL_n, ofL_c, nams, reO, reP, reA, reC, srcI, setG, obG, List.cons.injEq, aeq1, aeqs, onG, Int.reduceLE, Int.reduceNeg, Int.reduceLT, Nat.reduceEqDiff, ↓reduceIte, Nat.reduceLT, Nat.reduceLeDiff, Nat.reduceAdd, Nat.reduceMul, Nat.reduceSub, reduceCtorEq, Int.reduceEq]
    exact Ret_go [[6], [7], [8]] (by simp [ln0, obsT, obT, okO, okP, okA, okC, okD, okI, reP, reA, reC, srcI, Nl_nil, Nl_cons, PV.nl, upd_at, ofL_n, ofL_c, VS, argsT, lendA, lendL, lendT, Cvl_nil, Cvl_cons, Cv_bool, Cv_int, Cv_str, Cv_nils, Cv_nilc, Cv_cl, Cv_ow, noFn, PV.noF, NR_iff, NRO, hb, ares, ares1, ldo, ld, nOw, PV.isOw, TY]) (by simp [ln0, nl_String, nl_Walk, nl_Trip, obsT, obT, okO, okP, okA, okC, okD, okI, reP, reA, reC, srcI, Nl_nil, Nl_cons, PV.nl, upd_at, ofL_n, ofL_c, VS, argsT, lendA, lendL, lendT, Cvl_nil, Cvl_cons, Cv_bool, Cv_int, Cv_str, Cv_nils, Cv_nilc, Cv_cl, Cv_ow, noFn, PV.noF, NR_iff, NRO, hb, ares, ares1, ldo, ld, nOw, PV.isOw, TY]) (by simp [ln0, nl_String, nl_Walk, nl_Trip, obsT, obT, okO, okP, okA, okC, okD, okI, reP, reA, reC, srcI, Nl_nil, Nl_cons, PV.nl, upd_at, ofL_n, ofL_c, VS, argsT, lendA, lendL, lendT, Cvl_nil, Cvl_cons, Cv_bool, Cv_int, Cv_str, Cv_nils, Cv_nilc, Cv_cl, Cv_ow, noFn, PV.noF, NR_iff, NRO, hb, ares, ares1, ldo, ld, nOw, PV.isOw, TY])
  | true =>
    refine ⟨fun h => absurd h (by simp), fun _ => ?_⟩
    rw [if_pos rfl]
    exact Ret_go [[2], [5], [3]] (by simp [hTl, obsT, obT, okO, okP, okA, okC, okD, okI, reP, reA, reC, srcI, Nl_nil, Nl_cons, PV.nl, upd_at, ofL_n, ofL_c, VS, argsT, lendA, lendL, lendT, Cvl_nil, Cvl_cons, Cv_bool, Cv_int, Cv_str, Cv_nils, Cv_nilc, Cv_cl, Cv_ow, noFn, PV.noF, NR_iff, NRO, hb, ares, ares1, ldo, ld, nOw, PV.isOw, TY]) (by simp [hTl, nl_String, nl_Walk, nl_Trip, obsT, obT, okO, okP, okA, okC, okD, okI, reP, reA, reC, srcI, Nl_nil, Nl_cons, PV.nl, upd_at, ofL_n, ofL_c, VS, argsT, lendA, lendL, lendT, Cvl_nil, Cvl_cons, Cv_bool, Cv_int, Cv_str, Cv_nils, Cv_nilc, Cv_cl, Cv_ow, noFn, PV.noF, NR_iff, NRO, hb, ares, ares1, ldo, ld, nOw, PV.isOw, TY]) (by simp [nl_String, nl_Walk, nl_Trip, obsT, obT, okO, okP, okA, okC, okD, okI, reP, reA, reC, srcI, Nl_nil, Nl_cons, PV.nl, upd_at, ofL_n, ofL_c, VS, argsT, lendA, lendL, lendT, Cvl_nil, Cvl_cons, Cv_bool, Cv_int, Cv_str, Cv_nils, Cv_nilc, Cv_cl, Cv_ow, noFn, PV.noF, NR_iff, NRO, hb, ares, ares1, ldo, ld, nOw, PV.isOw, TY])
end Go.Proofs.Ytmmlpehfieojdaa.Wd
namespace Go.Proofs.Ytmmlpehfieojdaa.Wd
open Go Go.RowKit Go.Proofs Go.Proofs.YtmmlpehfieojdaaW.AW
set_option linter.unusedVariables false
set_option linter.unusedSimpArgs false
set_option maxRecDepth 100000
def totStringS (L : List ByteArray) : Nat := L.length + (L.map (fun x => x.size)).sum
def wStringS (L : List ByteArray) : Prop := L.length ≤ 9223372036854775807 ∧ (∀ x ∈ L, x.size ≤ 9223372036854775807)
def totCallS (L : List Cl) : Nat := L.length
def wCallS (L : List Cl) : Prop := L.length ≤ 9223372036854775807
def totTrip (x : Tp) : Nat := x.line.size + totCallS x.calls
def wTrip (x : Tp) : Prop := x.line.size ≤ 9223372036854775807 ∧ wCallS x.calls
def totTripS (L : List Tp) : Nat := L.length + (L.map totTrip).sum
def wTripS (L : List Tp) : Prop := L.length ≤ 9223372036854775807 ∧ (∀ x ∈ L, wTrip x)
def totWalkS (L : List Wk_) : Nat := L.length
def wWalkS (L : List Wk_) : Prop := L.length ≤ 9223372036854775807
def totLines (x : Ln) : Nat := totStringS x.stops + totTripS x.trips + totWalkS x.walks
def wLines (x : Ln) : Prop := wStringS x.stops ∧ wTripS x.trips ∧ wWalkS x.walks
theorem c_szStringS (L : List ByteArray) (left : Int) (h0 : 0 ≤ left) (h1 : left ≤ 1048576) (hw : wStringS L) : AC Try.prog 98 [.cl 1 L.length (lpv pString L), .int .i64 left] (ML []) (.int .i64 (lessBy left (totStringS L))) (ML []) := by
  refine AC.of Try.func98 rfl rfl (by simp [Try.ntmps98]) rfl (fun C hC hm => ?_)
  rw [Try.ntmps98] at hC
  have hn : C.m0.nx = _ := congrArg Mem.nx hm
  simp only [ML_nx, List.length_nil, List.length_cons, Nat.zero_add, Nat.reduceAdd] at hn
  simp only [wStringS] at hw
  simp only [hC, VS, VZ, TY, openC, foldC, foldN, PF, pick_or, pick_and, aop, aopD, rdN, wrN, idL, idA, apure, AS.ev, startA, strip, abin, aint, astr, alen, aslice, optI, aconv, aconvM, gdv, AS.put, ofVal, pcells, ld, ldo, nOw, PV.isOw, gtmp, within, astore, splice, afill, allCells, okIdx, asrc, aflat, aappend, hintOk, PV.clo, PV.clo1, ofL_n, ofL_c, nams, reO, reP, reA, reC, srcI, setG, obG, List.cons.injEq, aeq1, aeqs, onG, Int.reduceLE, Int.reduceNeg, Int.reduceLT, Nat.reduceEqDiff, ↓reduceIte, Nat.reduceLT, Nat.reduceLeDiff, Nat.reduceAdd, Nat.reduceMul, Nat.reduceSub, reduceCtorEq, Int.reduceEq]
  simp (disch := omega) only [wr64]
  refine ⟨fun h => ?_, fun h => ?_⟩ <;> simp at h
  · have q : lessBy left (totStringS L) = -1 := lessBy_m1 (by simp only [totStringS]; omega)
    exact Ret_go [] (by simp [q, obsT, obT, okO, okP, okA, okC, okD, okI, reP, reA, reC, srcI, Nl_nil, Nl_cons, PV.nl, upd_at, ofL_n, ofL_c, VS, argsT, lendA, lendL, lendT, Cvl_nil, Cvl_cons, Cv_bool, Cv_int, Cv_str, Cv_nils, Cv_nilc, Cv_cl, Cv_ow, noFn, PV.noF, NR_iff, NRO, hb, ares, ares1, ldo, ld, nOw, PV.isOw, TY]) tS (by simp)
  have hs : lessBy left (totStringS L) = lessBy (left - L.length) ((L.drop 0).map (fun x : ByteArray => x.size)).sum := by simp only [totStringS, lessBy, List.drop_zero]; congr 1 <;> simp <;> omega
  generalize lessBy left (totStringS L) = tot at *
  refine AL.go (X := Nat × Int) (fun p => ⟨ofL [(0, .cl 1 L.length (lpv pString L)), (1, .int .i64 p.2), (5, .int .i64 (p.1 : Int))], ML []⟩) (fun p => L.length - p.1) (fun p => p.1 ≤ L.length ∧ 0 ≤ p.2 ∧ p.2 ≤ 1048576 ∧ tot = lessBy p.2 ((L.drop p.1).map (fun x : ByteArray => x.size)).sum) (0, left - L.length) ⟨Nat.zero_le _, by simp only; omega, by simp only; omega, hs⟩
    (Told_go hn [] tS tS (by simp)) ?_
  rintro ⟨i, l⟩ ⟨hi, hl0, hl1, ht⟩
  simp only at hi hl0 hl1 ht ⊢
  refine vc_ok _ _ _ ?_
  simp only [hC, VS, VZ, TY, openC, foldC, foldN, PF, pick_or, pick_and, aop, aopD, rdN, wrN, idL, idA, apure, AS.ev, startA, strip, abin, aint, astr, alen, aslice, optI, aconv, aconvM, gdv, AS.put, ofVal, pcells, ld, ldo, nOw, PV.isOw, gtmp, within, astore, splice, afill, allCells, okIdx, asrc, aflat, aappend, hintOk, PV.clo, PV.clo1, ofL_n, ofL_c, nams, reO, reP, reA, reC, srcI, setG, obG, List.cons.injEq, aeq1, aeqs, onG, Int.reduceLE, Int.reduceNeg, Int.reduceLT, Nat.reduceEqDiff, ↓reduceIte, Nat.reduceLT, Nat.reduceLeDiff, Nat.reduceAdd, Nat.reduceMul, Nat.reduceSub, reduceCtorEq, Int.reduceEq]
  refine ⟨fun h => ?_, fun h => ?_⟩
  · have h : i < L.length := by simpa using h
    have e : lpv pString L i = [.str L[i]] := lpv_at h
    have hwi := hw.2 _ (List.getElem_mem h)
    rw [List.drop_eq_getElem_cons h, List.map_cons, List.sum_cons] at ht
    refine ⟨by simpa using h, ?_⟩
    simp only [e, VS, VZ, TY, openC, foldC, foldN, PF, pick_or, pick_and, aop, aopD, rdN, wrN, idL, idA, apure, AS.ev, startA, strip, abin, aint, astr, alen, aslice, optI, aconv, aconvM, gdv, AS.put, ofVal, pcells, ld, ldo, nOw, PV.isOw, gtmp, within, astore, splice, afill, allCells, okIdx, asrc, aflat, aappend, hintOk, PV.clo, PV.clo1, ofL_n, ofL_c, nams, reO, reP, reA, reC, srcI, setG, obG, List.cons.injEq, aeq1, aeqs, onG, Int.reduceLE, Int.reduceNeg, Int.reduceLT, Nat.reduceEqDiff, ↓reduceIte, Nat.reduceLT, Nat.reduceLeDiff, Nat.reduceAdd, Nat.reduceMul, Nat.reduceSub, reduceCtorEq, Int.reduceEq]
    simp (disch := omega) only [wr64]
    refine ⟨fun h2 => ?_, fun h2 => ?_⟩ <;> simp at h2
    · have q : tot = -1 := by rw [ht]; exact lessBy_m1 (by omega)
      exact Ret_go [] (by simp [q, obsT, obT, okO, okP, okA, okC, okD, okI, reP, reA, reC, srcI, Nl_nil, Nl_cons, PV.nl, upd_at, ofL_n, ofL_c, VS, argsT, lendA, lendL, lendT, Cvl_nil, Cvl_cons, Cv_bool, Cv_int, Cv_str, Cv_nils, Cv_nilc, Cv_cl, Cv_ow, noFn, PV.noF, NR_iff, NRO, hb, ares, ares1, ldo, ld, nOw, PV.isOw, TY]) tS (by simp)
    refine ⟨(i + 1, l - L[i].size), ⟨by simp only; omega, by simp only; omega, by simp only; omega, by rw [ht]; simp only [lessBy]; congr 1 <;> simp <;> omega⟩, by simp only; omega, Told_go hn [] tS tS (by simp)⟩
  · have : i = L.length := by simp at h; omega
    subst this
    have q : tot = l := by rw [ht]; simp [lessBy]; omega
    exact Ret_go [] (by simp [q, obsT, obT, okO, okP, okA, okC, okD, okI, reP, reA, reC, srcI, Nl_nil, Nl_cons, PV.nl, upd_at, ofL_n, ofL_c, VS, argsT, lendA, lendL, lendT, Cvl_nil, Cvl_cons, Cv_bool, Cv_int, Cv_str, Cv_nils, Cv_nilc, Cv_cl, Cv_ow, noFn, PV.noF, NR_iff, NRO, hb, ares, ares1, ldo, ld, nOw, PV.isOw, TY]) tS (by simp)
theorem c_szCallS (L : List Cl) (left : Int) (h0 : 0 ≤ left) (h1 : left ≤ 1048576) (hw : wCallS L) : AC Try.prog 158 [.cl 3 L.length (lpv pCall L), .int .i64 left] (ML []) (.int .i64 (lessBy left (totCallS L))) (ML []) := by
  refine AC.of Try.func158 rfl rfl (by simp [Try.ntmps158]) rfl (fun C hC hm => ?_)
  rw [Try.ntmps158] at hC
  have hn : C.m0.nx = _ := congrArg Mem.nx hm
  simp only [ML_nx, List.length_nil, List.length_cons, Nat.zero_add, Nat.reduceAdd] at hn
  simp only [wCallS] at hw
  simp only [hC, VS, VZ, TY, openC, foldC, foldN, PF, pick_or, pick_and, aop, aopD, rdN, wrN, idL, idA, apure, AS.ev, startA, strip, abin, aint, astr, alen, aslice, optI, aconv, aconvM, gdv, AS.put, ofVal, pcells, ld, ldo, nOw, PV.isOw, gtmp, within, astore, splice, afill, allCells, okIdx, asrc, aflat, aappend, hintOk, PV.clo, PV.clo1, ofL_n, ofL_c, nams, reO, reP, reA, reC, srcI, setG, obG, List.cons.injEq, aeq1, aeqs, onG, Int.reduceLE, Int.reduceNeg, Int.reduceLT, Nat.reduceEqDiff, ↓reduceIte, Nat.reduceLT, Nat.reduceLeDiff, Nat.reduceAdd, Nat.reduceMul, Nat.reduceSub, reduceCtorEq, Int.reduceEq]
  simp (disch := omega) only [wr64]
  refine ⟨fun h => ?_, fun h => ?_⟩ <;> simp at h
  · have q : lessBy left (totCallS L) = -1 := lessBy_m1 (by simp only [totCallS]; omega)
    exact Ret_go [] (by simp [q, obsT, obT, okO, okP, okA, okC, okD, okI, reP, reA, reC, srcI, Nl_nil, Nl_cons, PV.nl, upd_at, ofL_n, ofL_c, VS, argsT, lendA, lendL, lendT, Cvl_nil, Cvl_cons, Cv_bool, Cv_int, Cv_str, Cv_nils, Cv_nilc, Cv_cl, Cv_ow, noFn, PV.noF, NR_iff, NRO, hb, ares, ares1, ldo, ld, nOw, PV.isOw, TY]) tS (by simp)
  · have q : lessBy left (totCallS L) = left - L.length := by rw [lessBy_ok (by simp only [totCallS]; omega)]; simp only [totCallS]
    exact Ret_go [] (by simp [q, obsT, obT, okO, okP, okA, okC, okD, okI, reP, reA, reC, srcI, Nl_nil, Nl_cons, PV.nl, upd_at, ofL_n, ofL_c, VS, argsT, lendA, lendL, lendT, Cvl_nil, Cvl_cons, Cv_bool, Cv_int, Cv_str, Cv_nils, Cv_nilc, Cv_cl, Cv_ow, noFn, PV.noF, NR_iff, NRO, hb, ares, ares1, ldo, ld, nOw, PV.isOw, TY]) tS (by simp)
theorem c_szTrip (x : Tp) (left : Int) (h0 : 0 ≤ left) (h1 : left ≤ 1048576) (hw : wTrip x) : AC Try.prog 130 [.ag (cTrip x), .int .i64 left] (ML []) (.int .i64 (lessBy left (totTrip x))) (ML []) := by
  refine AC.of Try.func130 rfl rfl (by simp [Try.ntmps130]) rfl (fun C hC hm => ?_)
  rw [Try.ntmps130] at hC
  have hn : C.m0.nx = _ := congrArg Mem.nx hm
  simp only [ML_nx, List.length_nil, List.length_cons, Nat.zero_add, Nat.reduceAdd] at hn
  simp only [wTrip] at hw
  simp only [hC, cTrip, VS, VZ, TY, openC, foldC, foldN, PF, pick_or, pick_and, aop, aopD, rdN, wrN, idL, idA, apure, AS.ev, startA, strip, abin, aint, astr, alen, aslice, optI, aconv, aconvM, gdv, AS.put, ofVal, pcells, ld, ldo, nOw, PV.isOw, gtmp, within, astore, splice, afill, allCells, okIdx, asrc, aflat, aappend, hintOk, PV.clo, PV.clo1, ofL_n, ofL_c, nams, reO, reP, reA, reC, srcI, setG, obG, List.cons.injEq, aeq1, aeqs, onG, Int.reduceLE, Int.reduceNeg, Int.reduceLT, Nat.reduceEqDiff, ↓reduceIte, Nat.reduceLT, Nat.reduceLeDiff, Nat.reduceAdd, Nat.reduceMul, Nat.reduceSub, reduceCtorEq, Int.reduceEq]
  simp (disch := omega) only [wr64]
  refine ⟨fun h => ?_, fun h => ?_⟩
  · simp only [decide_eq_true_eq] at h
    have q : lessBy left (totTrip x) = -1 := lessBy_m1 (by simp only [totTrip] <;> omega)
    exact Ret_go [] (by simp [q, obsT, obT, okO, okP, okA, okC, okD, okI, reP, reA, reC, srcI, Nl_nil, Nl_cons, PV.nl, upd_at, ofL_n, ofL_c, VS, argsT, lendA, lendL, lendT, Cvl_nil, Cvl_cons, Cv_bool, Cv_int, Cv_str, Cv_nils, Cv_nilc, Cv_cl, Cv_ow, noFn, PV.noF, NR_iff, NRO, hb, ares, ares1, ldo, ld, nOw, PV.isOw, TY]) tS (by simp)
  simp only [decide_eq_false_iff_not] at h
  refine acall_p false (c_szCallS x.calls (left - (x.line.size : Int)) (by omega) (by omega) (by simp_all)) tS tS (.inl rfl) ?_
  rcases lessBy_cases (left - (x.line.size : Int)) (totCallS x.calls) with ⟨h, e⟩ | ⟨h, e⟩
  · rw [e]
    simp only [hC, VS, VZ, TY, openC, foldC, foldN, PF, pick_or, pick_and, aop, aopD, rdN, wrN, idL, idA, apure, AS.ev, startA, strip, abin, aint, astr, alen, aslice, optI, aconv, aconvM, gdv, AS.put, ofVal, pcells, ld, ldo, nOw, PV.isOw, gtmp, within, astore, splice, afill, allCells, okIdx, asrc, aflat, aappend, hintOk, PV.clo, PV.clo1, ofL_n, ofL_c, nams, reO, reP, reA, reC, srcI, setG, obG, List.cons.injEq, aeq1, aeqs, onG, Int.reduceLE, Int.reduceNeg, Int.reduceLT, Nat.reduceEqDiff, ↓reduceIte, Nat.reduceLT, Nat.reduceLeDiff, Nat.reduceAdd, Nat.reduceMul, Nat.reduceSub, reduceCtorEq, Int.reduceEq]
    have q : lessBy left (totTrip x) = -1 := lessBy_m1 (by simp only [totTrip] <;> omega)
    exact Ret_go [] (by simp [q, obsT, obT, okO, okP, okA, okC, okD, okI, reP, reA, reC, srcI, Nl_nil, Nl_cons, PV.nl, upd_at, ofL_n, ofL_c, VS, argsT, lendA, lendL, lendT, Cvl_nil, Cvl_cons, Cv_bool, Cv_int, Cv_str, Cv_nils, Cv_nilc, Cv_cl, Cv_ow, noFn, PV.noF, NR_iff, NRO, hb, ares, ares1, ldo, ld, nOw, PV.isOw, TY]) tS (by simp)
  rw [e]
  simp only [hC, VS, VZ, TY, openC, foldC, foldN, PF, pick_or, pick_and, aop, aopD, rdN, wrN, idL, idA, apure, AS.ev, startA, strip, abin, aint, astr, alen, aslice, optI, aconv, aconvM, gdv, AS.put, ofVal, pcells, ld, ldo, nOw, PV.isOw, gtmp, within, astore, splice, afill, allCells, okIdx, asrc, aflat, aappend, hintOk, PV.clo, PV.clo1, ofL_n, ofL_c, nams, reO, reP, reA, reC, srcI, setG, obG, List.cons.injEq, aeq1, aeqs, onG, Int.reduceLE, Int.reduceNeg, Int.reduceLT, Nat.reduceEqDiff, ↓reduceIte, Nat.reduceLT, Nat.reduceLeDiff, Nat.reduceAdd, Nat.reduceMul, Nat.reduceSub, reduceCtorEq, Int.reduceEq]
  refine ⟨fun h => by simp at h; omega, fun _ => ?_⟩
  have q : lessBy left (totTrip x) = ((left - (x.line.size : Int)) - ((totCallS x.calls) : Nat)) := (lessBy_ok (by simp only [totTrip] <;> omega)).trans (by simp only [totTrip] <;> omega)
  exact Ret_go [] (by simp [q, obsT, obT, okO, okP, okA, okC, okD, okI, reP, reA, reC, srcI, Nl_nil, Nl_cons, PV.nl, upd_at, ofL_n, ofL_c, VS, argsT, lendA, lendL, lendT, Cvl_nil, Cvl_cons, Cv_bool, Cv_int, Cv_str, Cv_nils, Cv_nilc, Cv_cl, Cv_ow, noFn, PV.noF, NR_iff, NRO, hb, ares, ares1, ldo, ld, nOw, PV.isOw, TY]) tS (by simp)
theorem c_szTripS (L : List Tp) (left : Int) (h0 : 0 ≤ left) (h1 : left ≤ 1048576) (hw : wTripS L) : AC Try.prog 99 [.cl 3 L.length (lpv cTrip L), .int .i64 left] (ML []) (.int .i64 (lessBy left (totTripS L))) (ML []) := by
  refine AC.of Try.func99 rfl rfl (by simp [Try.ntmps99]) rfl (fun C hC hm => ?_)
  rw [Try.ntmps99] at hC
  have hn : C.m0.nx = _ := congrArg Mem.nx hm
  simp only [ML_nx, List.length_nil, List.length_cons, Nat.zero_add, Nat.reduceAdd] at hn
  simp only [wTripS] at hw
  simp only [hC, VS, VZ, TY, openC, foldC, foldN, PF, pick_or, pick_and, aop, aopD, rdN, wrN, idL, idA, apure, AS.ev, startA, strip, abin, aint, astr, alen, aslice, optI, aconv, aconvM, gdv, AS.put, ofVal, pcells, ld, ldo, nOw, PV.isOw, gtmp, within, astore, splice, afill, allCells, okIdx, asrc, aflat, aappend, hintOk, PV.clo, PV.clo1, ofL_n, ofL_c, nams, reO, reP, reA, reC, srcI, setG, obG, List.cons.injEq, aeq1, aeqs, onG, Int.reduceLE, Int.reduceNeg, Int.reduceLT, Nat.reduceEqDiff, ↓reduceIte, Nat.reduceLT, Nat.reduceLeDiff, Nat.reduceAdd, Nat.reduceMul, Nat.reduceSub, reduceCtorEq, Int.reduceEq]
  simp (disch := omega) only [wr64]
  refine ⟨fun h => ?_, fun h => ?_⟩ <;> simp at h
  · have q : lessBy left (totTripS L) = -1 := lessBy_m1 (by simp only [totTripS]; omega)
    exact Ret_go [] (by simp [q, obsT, obT, okO, okP, okA, okC, okD, okI, reP, reA, reC, srcI, Nl_nil, Nl_cons, PV.nl, upd_at, ofL_n, ofL_c, VS, argsT, lendA, lendL, lendT, Cvl_nil, Cvl_cons, Cv_bool, Cv_int, Cv_str, Cv_nils, Cv_nilc, Cv_cl, Cv_ow, noFn, PV.noF, NR_iff, NRO, hb, ares, ares1, ldo, ld, nOw, PV.isOw, TY]) tS (by simp)
  have hs : lessBy left (totTripS L) = lessBy (left - L.length) ((L.drop 0).map totTrip).sum := by simp only [totTripS, lessBy, List.drop_zero]; congr 1 <;> simp <;> omega
  generalize lessBy left (totTripS L) = tot at *
  refine AL.go (X := Nat × Int) (fun p => ⟨ofL [(0, .cl 3 L.length (lpv cTrip L)), (1, .int .i64 p.2), (5, .int .i64 (p.1 : Int))], ML []⟩) (fun p => L.length - p.1) (fun p => p.1 ≤ L.length ∧ 0 ≤ p.2 ∧ p.2 ≤ 1048576 ∧ tot = lessBy p.2 ((L.drop p.1).map totTrip).sum) (0, left - L.length) ⟨Nat.zero_le _, by simp only; omega, by simp only; omega, hs⟩
    (Told_go hn [] tS tS (by simp)) ?_
  rintro ⟨i, l⟩ ⟨hi, hl0, hl1, ht⟩
  simp only at hi hl0 hl1 ht ⊢
  refine vc_ok _ _ _ ?_
  simp only [hC, VS, VZ, TY, openC, foldC, foldN, PF, pick_or, pick_and, aop, aopD, rdN, wrN, idL, idA, apure, AS.ev, startA, strip, abin, aint, astr, alen, aslice, optI, aconv, aconvM, gdv, AS.put, ofVal, pcells, ld, ldo, nOw, PV.isOw, gtmp, within, astore, splice, afill, allCells, okIdx, asrc, aflat, aappend, hintOk, PV.clo, PV.clo1, ofL_n, ofL_c, nams, reO, reP, reA, reC, srcI, setG, obG, List.cons.injEq, aeq1, aeqs, onG, Int.reduceLE, Int.reduceNeg, Int.reduceLT, Nat.reduceEqDiff, ↓reduceIte, Nat.reduceLT, Nat.reduceLeDiff, Nat.reduceAdd, Nat.reduceMul, Nat.reduceSub, reduceCtorEq, Int.reduceEq]
  refine ⟨fun h => ?_, fun h => ?_⟩
  · have h : i < L.length := by simpa using h
    have e : lpv cTrip L i = [.str L[i].line, .int .i64 L[i].days, .cl 3 L[i].calls.length (lpv pCall L[i].calls)] := lpv_at h
    have hwi := hw.2 _ (List.getElem_mem h)
    rw [List.drop_eq_getElem_cons h, List.map_cons, List.sum_cons] at ht
    refine ⟨by simpa using h, ?_⟩
    simp only [e, VS, VZ, TY, openC, foldC, foldN, PF, pick_or, pick_and, aop, aopD, rdN, wrN, idL, idA, apure, AS.ev, startA, strip, abin, aint, astr, alen, aslice, optI, aconv, aconvM, gdv, AS.put, ofVal, pcells, ld, ldo, nOw, PV.isOw, gtmp, within, astore, splice, afill, allCells, okIdx, asrc, aflat, aappend, hintOk, PV.clo, PV.clo1, ofL_n, ofL_c, nams, reO, reP, reA, reC, srcI, setG, obG, List.cons.injEq, aeq1, aeqs, onG, Int.reduceLE, Int.reduceNeg, Int.reduceLT, Nat.reduceEqDiff, ↓reduceIte, Nat.reduceLT, Nat.reduceLeDiff, Nat.reduceAdd, Nat.reduceMul, Nat.reduceSub, reduceCtorEq, Int.reduceEq]
    refine acall_p false (c_szTrip L[i] l hl0 hl1 hwi) (by simp [cTrip, obsT, obT, okO, okP, okA, okC, okD, okI, reP, reA, reC, srcI, Nl_nil, Nl_cons, PV.nl, upd_at, ofL_n, ofL_c, VS, argsT, lendA, lendL, lendT, Cvl_nil, Cvl_cons, Cv_bool, Cv_int, Cv_str, Cv_nils, Cv_nilc, Cv_cl, Cv_ow, noFn, PV.noF, NR_iff, NRO, hb, ares, ares1, ldo, ld, nOw, PV.isOw, TY]) tS (.inl rfl) ?_
    rcases lessBy_cases l (totTrip L[i]) with ⟨h2, e2⟩ | ⟨h2, e2⟩
    · rw [e2]
      simp only [hC, VS, VZ, TY, openC, foldC, foldN, PF, pick_or, pick_and, aop, aopD, rdN, wrN, idL, idA, apure, AS.ev, startA, strip, abin, aint, astr, alen, aslice, optI, aconv, aconvM, gdv, AS.put, ofVal, pcells, ld, ldo, nOw, PV.isOw, gtmp, within, astore, splice, afill, allCells, okIdx, asrc, aflat, aappend, hintOk, PV.clo, PV.clo1, ofL_n, ofL_c, nams, reO, reP, reA, reC, srcI, setG, obG, List.cons.injEq, aeq1, aeqs, onG, Int.reduceLE, Int.reduceNeg, Int.reduceLT, Nat.reduceEqDiff, ↓reduceIte, Nat.reduceLT, Nat.reduceLeDiff, Nat.reduceAdd, Nat.reduceMul, Nat.reduceSub, reduceCtorEq, Int.reduceEq]
      have q : tot = -1 := by rw [ht]; exact lessBy_m1 (by omega)
      exact Ret_go [] (by simp [q, obsT, obT, okO, okP, okA, okC, okD, okI, reP, reA, reC, srcI, Nl_nil, Nl_cons, PV.nl, upd_at, ofL_n, ofL_c, VS, argsT, lendA, lendL, lendT, Cvl_nil, Cvl_cons, Cv_bool, Cv_int, Cv_str, Cv_nils, Cv_nilc, Cv_cl, Cv_ow, noFn, PV.noF, NR_iff, NRO, hb, ares, ares1, ldo, ld, nOw, PV.isOw, TY]) tS (by simp)
    rw [e2]
    simp only [hC, VS, VZ, TY, openC, foldC, foldN, PF, pick_or, pick_and, aop, aopD, rdN, wrN, idL, idA, apure, AS.ev, startA, strip, abin, aint, astr, alen, aslice, optI, aconv, aconvM, gdv, AS.put, ofVal, pcells, ld, ldo, nOw, PV.isOw, gtmp, within, astore, splice, afill, allCells, okIdx, asrc, aflat, aappend, hintOk, PV.clo, PV.clo1, ofL_n, ofL_c, nams, reO, reP, reA, reC, srcI, setG, obG, List.cons.injEq, aeq1, aeqs, onG, Int.reduceLE, Int.reduceNeg, Int.reduceLT, Nat.reduceEqDiff, ↓reduceIte, Nat.reduceLT, Nat.reduceLeDiff, Nat.reduceAdd, Nat.reduceMul, Nat.reduceSub, reduceCtorEq, Int.reduceEq]
    simp (disch := omega) only [wr64]
    refine ⟨fun h => by simp at h; omega, fun _ => ?_⟩
    refine ⟨(i + 1, l - (totTrip L[i] : Nat)), ⟨by simp only; omega, by simp only; omega, by simp only; omega, by rw [ht]; simp only [lessBy]; congr 1 <;> simp <;> omega⟩, by simp only; omega, Told_go hn [] tS tS (by simp)⟩
  · have : i = L.length := by simp at h; omega
    subst this
    have q : tot = l := by rw [ht]; simp [lessBy]; omega
    exact Ret_go [] (by simp [q, obsT, obT, okO, okP, okA, okC, okD, okI, reP, reA, reC, srcI, Nl_nil, Nl_cons, PV.nl, upd_at, ofL_n, ofL_c, VS, argsT, lendA, lendL, lendT, Cvl_nil, Cvl_cons, Cv_bool, Cv_int, Cv_str, Cv_nils, Cv_nilc, Cv_cl, Cv_ow, noFn, PV.noF, NR_iff, NRO, hb, ares, ares1, ldo, ld, nOw, PV.isOw, TY]) tS (by simp)
theorem c_szWalkS (L : List Wk_) (left : Int) (h0 : 0 ≤ left) (h1 : left ≤ 1048576) (hw : wWalkS L) : AC Try.prog 100 [.cl 3 L.length (lpv pWalk L), .int .i64 left] (ML []) (.int .i64 (lessBy left (totWalkS L))) (ML []) := by
  refine AC.of Try.func100 rfl rfl (by simp [Try.ntmps100]) rfl (fun C hC hm => ?_)
  rw [Try.ntmps100] at hC
  have hn : C.m0.nx = _ := congrArg Mem.nx hm
  simp only [ML_nx, List.length_nil, List.length_cons, Nat.zero_add, Nat.reduceAdd] at hn
  simp only [wWalkS] at hw
  simp only [hC, VS, VZ, TY, openC, foldC, foldN, PF, pick_or, pick_and, aop, aopD, rdN, wrN, idL, idA, apure, AS.ev, startA, strip, abin, aint, astr, alen, aslice, optI, aconv, aconvM, gdv, AS.put, ofVal, pcells, ld, ldo, nOw, PV.isOw, gtmp, within, astore, splice, afill, allCells, okIdx, asrc, aflat, aappend, hintOk, PV.clo, PV.clo1, ofL_n, ofL_c, nams, reO, reP, reA, reC, srcI, setG, obG, List.cons.injEq, aeq1, aeqs, onG, Int.reduceLE, Int.reduceNeg, Int.reduceLT, Nat.reduceEqDiff, ↓reduceIte, Nat.reduceLT, Nat.reduceLeDiff, Nat.reduceAdd, Nat.reduceMul, Nat.reduceSub, reduceCtorEq, Int.reduceEq]
  simp (disch := omega) only [wr64]
  refine ⟨fun h => ?_, fun h => ?_⟩ <;> simp at h
  · have q : lessBy left (totWalkS L) = -1 := lessBy_m1 (by simp only [totWalkS]; omega)
    exact Ret_go [] (by simp [q, obsT, obT, okO, okP, okA, okC, okD, okI, reP, reA, reC, srcI, Nl_nil, Nl_cons, PV.nl, upd_at, ofL_n, ofL_c, VS, argsT, lendA, lendL, lendT, Cvl_nil, Cvl_cons, Cv_bool, Cv_int, Cv_str, Cv_nils, Cv_nilc, Cv_cl, Cv_ow, noFn, PV.noF, NR_iff, NRO, hb, ares, ares1, ldo, ld, nOw, PV.isOw, TY]) tS (by simp)
  · have q : lessBy left (totWalkS L) = left - L.length := by rw [lessBy_ok (by simp only [totWalkS]; omega)]; simp only [totWalkS]
    exact Ret_go [] (by simp [q, obsT, obT, okO, okP, okA, okC, okD, okI, reP, reA, reC, srcI, Nl_nil, Nl_cons, PV.nl, upd_at, ofL_n, ofL_c, VS, argsT, lendA, lendL, lendT, Cvl_nil, Cvl_cons, Cv_bool, Cv_int, Cv_str, Cv_nils, Cv_nilc, Cv_cl, Cv_ow, noFn, PV.noF, NR_iff, NRO, hb, ares, ares1, ldo, ld, nOw, PV.isOw, TY]) tS (by simp)
theorem c_szLines (x : Ln) (left : Int) (h0 : 0 ≤ left) (h1 : left ≤ 1048576) (hw : wLines x) : AC Try.prog 51 [.ag (cLines x), .int .i64 left] (ML []) (.int .i64 (lessBy left (totLines x))) (ML []) := by
  refine AC.of Try.func51 rfl rfl (by simp [Try.ntmps51]) rfl (fun C hC hm => ?_)
  rw [Try.ntmps51] at hC
  have hn : C.m0.nx = _ := congrArg Mem.nx hm
  simp only [ML_nx, List.length_nil, List.length_cons, Nat.zero_add, Nat.reduceAdd] at hn
  simp only [wLines] at hw
  simp only [hC, cLines, VS, VZ, TY, openC, foldC, foldN, PF, pick_or, pick_and, aop, aopD, rdN, wrN, idL, idA, apure, AS.ev, startA, strip, abin, aint, astr, alen, aslice, optI, aconv, aconvM, gdv, AS.put, ofVal, pcells, ld, ldo, nOw, PV.isOw, gtmp, within, astore, splice, afill, allCells, okIdx, asrc, aflat, aappend, hintOk, PV.clo, PV.clo1, ofL_n, ofL_c, nams, reO, reP, reA, reC, srcI, setG, obG, List.cons.injEq, aeq1, aeqs, onG, Int.reduceLE, Int.reduceNeg, Int.reduceLT, Nat.reduceEqDiff, ↓reduceIte, Nat.reduceLT, Nat.reduceLeDiff, Nat.reduceAdd, Nat.reduceMul, Nat.reduceSub, reduceCtorEq, Int.reduceEq]
  refine acall_p false (c_szStringS x.stops left (by omega) (by omega) (by simp_all)) tS tS (.inl rfl) ?_
  rcases lessBy_cases left (totStringS x.stops) with ⟨h, e⟩ | ⟨h, e⟩
  · rw [e]
    simp only [hC, VS, VZ, TY, openC, foldC, foldN, PF, pick_or, pick_and, aop, aopD, rdN, wrN, idL, idA, apure, AS.ev, startA, strip, abin, aint, astr, alen, aslice, optI, aconv, aconvM, gdv, AS.put, ofVal, pcells, ld, ldo, nOw, PV.isOw, gtmp, within, astore, splice, afill, allCells, okIdx, asrc, aflat, aappend, hintOk, PV.clo, PV.clo1, ofL_n, ofL_c, nams, reO, reP, reA, reC, srcI, setG, obG, List.cons.injEq, aeq1, aeqs, onG, Int.reduceLE, Int.reduceNeg, Int.reduceLT, Nat.reduceEqDiff, ↓reduceIte, Nat.reduceLT, Nat.reduceLeDiff, Nat.reduceAdd, Nat.reduceMul, Nat.reduceSub, reduceCtorEq, Int.reduceEq]
    have q : lessBy left (totLines x) = -1 := lessBy_m1 (by simp only [totLines] <;> omega)
    exact Ret_go [] (by simp [q, obsT, obT, okO, okP, okA, okC, okD, okI, reP, reA, reC, srcI, Nl_nil, Nl_cons, PV.nl, upd_at, ofL_n, ofL_c, VS, argsT, lendA, lendL, lendT, Cvl_nil, Cvl_cons, Cv_bool, Cv_int, Cv_str, Cv_nils, Cv_nilc, Cv_cl, Cv_ow, noFn, PV.noF, NR_iff, NRO, hb, ares, ares1, ldo, ld, nOw, PV.isOw, TY]) tS (by simp)
  rw [e]
  simp only [hC, VS, VZ, TY, openC, foldC, foldN, PF, pick_or, pick_and, aop, aopD, rdN, wrN, idL, idA, apure, AS.ev, startA, strip, abin, aint, astr, alen, aslice, optI, aconv, aconvM, gdv, AS.put, ofVal, pcells, ld, ldo, nOw, PV.isOw, gtmp, within, astore, splice, afill, allCells, okIdx, asrc, aflat, aappend, hintOk, PV.clo, PV.clo1, ofL_n, ofL_c, nams, reO, reP, reA, reC, srcI, setG, obG, List.cons.injEq, aeq1, aeqs, onG, Int.reduceLE, Int.reduceNeg, Int.reduceLT, Nat.reduceEqDiff, ↓reduceIte, Nat.reduceLT, Nat.reduceLeDiff, Nat.reduceAdd, Nat.reduceMul, Nat.reduceSub, reduceCtorEq, Int.reduceEq]
  refine ⟨fun h => by simp at h; omega, fun _ => ?_⟩
  refine acall_p false (c_szTripS x.trips (left - ((totStringS x.stops) : Nat)) (by omega) (by omega) (by simp_all)) tS tS (.inl rfl) ?_
  rcases lessBy_cases (left - ((totStringS x.stops) : Nat)) (totTripS x.trips) with ⟨h, e⟩ | ⟨h, e⟩
  · rw [e]
    simp only [hC, VS, VZ, TY, openC, foldC, foldN, PF, pick_or, pick_and, aop, aopD, rdN, wrN, idL, idA, apure, AS.ev, startA, strip, abin, aint, astr, alen, aslice, optI, aconv, aconvM, gdv, AS.put, ofVal, pcells, ld, ldo, nOw, PV.isOw, gtmp, within, astore, splice, afill, allCells, okIdx, asrc, aflat, aappend, hintOk, PV.clo, PV.clo1, ofL_n, ofL_c, nams, reO, reP, reA, reC, srcI, setG, obG, List.cons.injEq, aeq1, aeqs, onG, Int.reduceLE, Int.reduceNeg, Int.reduceLT, Nat.reduceEqDiff, ↓reduceIte, Nat.reduceLT, Nat.reduceLeDiff, Nat.reduceAdd, Nat.reduceMul, Nat.reduceSub, reduceCtorEq, Int.reduceEq]
    have q : lessBy left (totLines x) = -1 := lessBy_m1 (by simp only [totLines] <;> omega)
    exact Ret_go [] (by simp [q, obsT, obT, okO, okP, okA, okC, okD, okI, reP, reA, reC, srcI, Nl_nil, Nl_cons, PV.nl, upd_at, ofL_n, ofL_c, VS, argsT, lendA, lendL, lendT, Cvl_nil, Cvl_cons, Cv_bool, Cv_int, Cv_str, Cv_nils, Cv_nilc, Cv_cl, Cv_ow, noFn, PV.noF, NR_iff, NRO, hb, ares, ares1, ldo, ld, nOw, PV.isOw, TY]) tS (by simp)
  rw [e]
  simp only [hC, VS, VZ, TY, openC, foldC, foldN, PF, pick_or, pick_and, aop, aopD, rdN, wrN, idL, idA, apure, AS.ev, startA, strip, abin, aint, astr, alen, aslice, optI, aconv, aconvM, gdv, AS.put, ofVal, pcells, ld, ldo, nOw, PV.isOw, gtmp, within, astore, splice, afill, allCells, okIdx, asrc, aflat, aappend, hintOk, PV.clo, PV.clo1, ofL_n, ofL_c, nams, reO, reP, reA, reC, srcI, setG, obG, List.cons.injEq, aeq1, aeqs, onG, Int.reduceLE, Int.reduceNeg, Int.reduceLT, Nat.reduceEqDiff, ↓reduceIte, Nat.reduceLT, Nat.reduceLeDiff, Nat.reduceAdd, Nat.reduceMul, Nat.reduceSub, reduceCtorEq, Int.reduceEq]
  refine ⟨fun h => by simp at h; omega, fun _ => ?_⟩
  refine acall_p false (c_szWalkS x.walks ((left - ((totStringS x.stops) : Nat)) - ((totTripS x.trips) : Nat)) (by omega) (by omega) (by simp_all)) tS tS (.inl rfl) ?_
  rcases lessBy_cases ((left - ((totStringS x.stops) : Nat)) - ((totTripS x.trips) : Nat)) (totWalkS x.walks) with ⟨h, e⟩ | ⟨h, e⟩
  · rw [e]
    simp only [hC, VS, VZ, TY, openC, foldC, foldN, PF, pick_or, pick_and, aop, aopD, rdN, wrN, idL, idA, apure, AS.ev, startA, strip, abin, aint, astr, alen, aslice, optI, aconv, aconvM, gdv, AS.put, ofVal, pcells, ld, ldo, nOw, PV.isOw, gtmp, within, astore, splice, afill, allCells, okIdx, asrc, aflat, aappend, hintOk, PV.clo, PV.clo1, ofL_n, ofL_c, nams, reO, reP, reA, reC, srcI, setG, obG, List.cons.injEq, aeq1, aeqs, onG, Int.reduceLE, Int.reduceNeg, Int.reduceLT, Nat.reduceEqDiff, ↓reduceIte, Nat.reduceLT, Nat.reduceLeDiff, Nat.reduceAdd, Nat.reduceMul, Nat.reduceSub, reduceCtorEq, Int.reduceEq]
    have q : lessBy left (totLines x) = -1 := lessBy_m1 (by simp only [totLines] <;> omega)
    exact Ret_go [] (by simp [q, obsT, obT, okO, okP, okA, okC, okD, okI, reP, reA, reC, srcI, Nl_nil, Nl_cons, PV.nl, upd_at, ofL_n, ofL_c, VS, argsT, lendA, lendL, lendT, Cvl_nil, Cvl_cons, Cv_bool, Cv_int, Cv_str, Cv_nils, Cv_nilc, Cv_cl, Cv_ow, noFn, PV.noF, NR_iff, NRO, hb, ares, ares1, ldo, ld, nOw, PV.isOw, TY]) tS (by simp)
  rw [e]
  simp only [hC, VS, VZ, TY, openC, foldC, foldN, PF, pick_or, pick_and, aop, aopD, rdN, wrN, idL, idA, apure, AS.ev, startA, strip, abin, aint, astr, alen, aslice, optI, aconv, aconvM, gdv, AS.put, ofVal, pcells, ld, ldo, nOw, PV.isOw, gtmp, within, astore, splice, afill, allCells, okIdx, asrc, aflat, aappend, hintOk, PV.clo, PV.clo1, ofL_n, ofL_c, nams, reO, reP, reA, reC, srcI, setG, obG, List.cons.injEq, aeq1, aeqs, onG, Int.reduceLE, Int.reduceNeg, Int.reduceLT, Nat.reduceEqDiff, ↓reduceIte, Nat.reduceLT, Nat.reduceLeDiff, Nat.reduceAdd, Nat.reduceMul, Nat.reduceSub, reduceCtorEq, Int.reduceEq]
  refine ⟨fun h => by simp at h; omega, fun _ => ?_⟩
  have q : lessBy left (totLines x) = (((left - ((totStringS x.stops) : Nat)) - ((totTripS x.trips) : Nat)) - ((totWalkS x.walks) : Nat)) := (lessBy_ok (by simp only [totLines] <;> omega)).trans (by simp only [totLines] <;> omega)
  exact Ret_go [] (by simp [q, obsT, obT, okO, okP, okA, okC, okD, okI, reP, reA, reC, srcI, Nl_nil, Nl_cons, PV.nl, upd_at, ofL_n, ofL_c, VS, argsT, lendA, lendL, lendT, Cvl_nil, Cvl_cons, Cv_bool, Cv_int, Cv_str, Cv_nils, Cv_nilc, Cv_cl, Cv_ow, noFn, PV.noF, NR_iff, NRO, hb, ares, ares1, ldo, ld, nOw, PV.isOw, TY]) tS (by simp)
theorem c_eqStringS (L : List ByteArray) (hL : L.length ≤ 1048576) : AC Try.prog 67 [.cl 1 L.length (lpv pString L), .cl 1 L.length (lpv pString L)] (ML []) (.bool true) (ML []) := by
  refine AC.of Try.func67 rfl rfl (by simp [Try.ntmps67]) rfl (fun C hC hm => ?_)
  rw [Try.ntmps67] at hC
  have hn : C.m0.nx = _ := congrArg Mem.nx hm
  simp only [ML_nx, List.length_nil, List.length_cons, Nat.zero_add, Nat.reduceAdd] at hn
  simp only [hC, VS, VZ, TY, openC, foldC, foldN, PF, pick_or, pick_and, aop, aopD, rdN, wrN, idL, idA, apure, AS.ev, startA, strip, abin, aint, astr, alen, aslice, optI, aconv, aconvM, gdv, AS.put, ofVal, pcells, ld, ldo, nOw, PV.isOw, gtmp, within, astore, splice, afill, allCells, okIdx, asrc, aflat, aappend, hintOk, PV.clo, PV.clo1, ofL_n, ofL_c, nams, reO, reP, reA, reC, srcI, setG, obG, List.cons.injEq, aeq1, aeqs, onG, Int.reduceLE, Int.reduceNeg, Int.reduceLT, Nat.reduceEqDiff, ↓reduceIte, Nat.reduceLT, Nat.reduceLeDiff, Nat.reduceAdd, Nat.reduceMul, Nat.reduceSub, reduceCtorEq, Int.reduceEq]
  refine AL.go (X := Nat) (fun i => ⟨ofL [(0, .cl 1 L.length (lpv pString L)), (1, .cl 1 L.length (lpv pString L)), (5, .int .i64 (i : Int))], ML []⟩) (fun i => L.length - i) (fun i => i ≤ L.length) 0 (Nat.zero_le _) (Told_go hn [] tS tS (by simp)) (fun i hi => vc_ok _ _ _ ?_)
  simp only [hC, VS, VZ, TY, openC, foldC, foldN, PF, pick_or, pick_and, aop, aopD, rdN, wrN, idL, idA, apure, AS.ev, startA, strip, abin, aint, astr, alen, aslice, optI, aconv, aconvM, gdv, AS.put, ofVal, pcells, ld, ldo, nOw, PV.isOw, gtmp, within, astore, splice, afill, allCells, okIdx, asrc, aflat, aappend, hintOk, PV.clo, PV.clo1, ofL_n, ofL_c, nams, reO, reP, reA, reC, srcI, setG, obG, List.cons.injEq, aeq1, aeqs, onG, Int.reduceLE, Int.reduceNeg, Int.reduceLT, Nat.reduceEqDiff, ↓reduceIte, Nat.reduceLT, Nat.reduceLeDiff, Nat.reduceAdd, Nat.reduceMul, Nat.reduceSub, reduceCtorEq, Int.reduceEq]
  refine ⟨fun h => ?_, fun h => ?_⟩
  · have h : i < L.length := by simpa using h
    have e : lpv pString L i = [.str L[i]] := lpv_at h
    simp only [e, VS, VZ, TY, openC, foldC, foldN, PF, pick_or, pick_and, aop, aopD, rdN, wrN, idL, idA, apure, AS.ev, startA, strip, abin, aint, astr, alen, aslice, optI, aconv, aconvM, gdv, AS.put, ofVal, pcells, ld, ldo, nOw, PV.isOw, gtmp, within, astore, splice, afill, allCells, okIdx, asrc, aflat, aappend, hintOk, PV.clo, PV.clo1, ofL_n, ofL_c, nams, reO, reP, reA, reC, srcI, setG, obG, List.cons.injEq, aeq1, aeqs, onG, Int.reduceLE, Int.reduceNeg, Int.reduceLT, Nat.reduceEqDiff, ↓reduceIte, Nat.reduceLT, Nat.reduceLeDiff, Nat.reduceAdd, Nat.reduceMul, Nat.reduceSub, reduceCtorEq, Int.reduceEq]
    refine ⟨by kernel_rfl, by simpa using h, by simpa using h, ?_⟩
    simp (disch := omega) only [wr64]
    exact ⟨i + 1, by omega, by omega, Told_go hn [] tS tS (by simp)⟩
  · exact Ret_go [] tS tS (by simp)
theorem c_eqCall (x : Cl) : AC Try.prog 164 [.ag (pCall x), .ag (pCall x)] (ML []) (.bool true) (ML []) := by
  refine AC.of Try.func164 rfl rfl (by simp [Try.ntmps164]) rfl (fun C hC hm => ?_)
  rw [Try.ntmps164] at hC
  have hn : C.m0.nx = _ := congrArg Mem.nx hm
  simp only [ML_nx, List.length_nil, List.length_cons, Nat.zero_add, Nat.reduceAdd] at hn
  simp only [hC, pCall, VS, VZ, TY, openC, foldC, foldN, PF, pick_or, pick_and, aop, aopD, rdN, wrN, idL, idA, apure, AS.ev, startA, strip, abin, aint, astr, alen, aslice, optI, aconv, aconvM, gdv, AS.put, ofVal, pcells, ld, ldo, nOw, PV.isOw, gtmp, within, astore, splice, afill, allCells, okIdx, asrc, aflat, aappend, hintOk, PV.clo, PV.clo1, ofL_n, ofL_c, nams, reO, reP, reA, reC, srcI, setG, obG, List.cons.injEq, aeq1, aeqs, onG, Int.reduceLE, Int.reduceNeg, Int.reduceLT, Nat.reduceEqDiff, ↓reduceIte, Nat.reduceLT, Nat.reduceLeDiff, Nat.reduceAdd, Nat.reduceMul, Nat.reduceSub, reduceCtorEq, Int.reduceEq]
  exact Ret_go [] tS tS (by simp)
theorem c_eqCallS (L : List Cl) (hL : L.length ≤ 1048576) : AC Try.prog 160 [.cl 3 L.length (lpv pCall L), .cl 3 L.length (lpv pCall L)] (ML []) (.bool true) (ML []) := by
  refine AC.of Try.func160 rfl rfl (by simp [Try.ntmps160]) rfl (fun C hC hm => ?_)
  rw [Try.ntmps160] at hC
  have hn : C.m0.nx = _ := congrArg Mem.nx hm
  simp only [ML_nx, List.length_nil, List.length_cons, Nat.zero_add, Nat.reduceAdd] at hn
  simp only [hC, VS, VZ, TY, openC, foldC, foldN, PF, pick_or, pick_and, aop, aopD, rdN, wrN, idL, idA, apure, AS.ev, startA, strip, abin, aint, astr, alen, aslice, optI, aconv, aconvM, gdv, AS.put, ofVal, pcells, ld, ldo, nOw, PV.isOw, gtmp, within, astore, splice, afill, allCells, okIdx, asrc, aflat, aappend, hintOk, PV.clo, PV.clo1, ofL_n, ofL_c, nams, reO, reP, reA, reC, srcI, setG, obG, List.cons.injEq, aeq1, aeqs, onG, Int.reduceLE, Int.reduceNeg, Int.reduceLT, Nat.reduceEqDiff, ↓reduceIte, Nat.reduceLT, Nat.reduceLeDiff, Nat.reduceAdd, Nat.reduceMul, Nat.reduceSub, reduceCtorEq, Int.reduceEq]
  refine AL.go (X := Nat) (fun i => ⟨ofL [(0, .cl 3 L.length (lpv pCall L)), (1, .cl 3 L.length (lpv pCall L)), (5, .int .i64 (i : Int))], ML []⟩) (fun i => L.length - i) (fun i => i ≤ L.length) 0 (Nat.zero_le _) (Told_go hn [] tS tS (by simp)) (fun i hi => vc_ok _ _ _ ?_)
  simp only [hC, VS, VZ, TY, openC, foldC, foldN, PF, pick_or, pick_and, aop, aopD, rdN, wrN, idL, idA, apure, AS.ev, startA, strip, abin, aint, astr, alen, aslice, optI, aconv, aconvM, gdv, AS.put, ofVal, pcells, ld, ldo, nOw, PV.isOw, gtmp, within, astore, splice, afill, allCells, okIdx, asrc, aflat, aappend, hintOk, PV.clo, PV.clo1, ofL_n, ofL_c, nams, reO, reP, reA, reC, srcI, setG, obG, List.cons.injEq, aeq1, aeqs, onG, Int.reduceLE, Int.reduceNeg, Int.reduceLT, Nat.reduceEqDiff, ↓reduceIte, Nat.reduceLT, Nat.reduceLeDiff, Nat.reduceAdd, Nat.reduceMul, Nat.reduceSub, reduceCtorEq, Int.reduceEq]
  refine ⟨fun h => ?_, fun h => ?_⟩
  · have h : i < L.length := by simpa using h
    have e : lpv pCall L i = [.int .i64 L[i].stop, .int .i64 L[i].arr, .int .i64 L[i].dep] := lpv_at h
    simp only [e, VS, VZ, TY, openC, foldC, foldN, PF, pick_or, pick_and, aop, aopD, rdN, wrN, idL, idA, apure, AS.ev, startA, strip, abin, aint, astr, alen, aslice, optI, aconv, aconvM, gdv, AS.put, ofVal, pcells, ld, ldo, nOw, PV.isOw, gtmp, within, astore, splice, afill, allCells, okIdx, asrc, aflat, aappend, hintOk, PV.clo, PV.clo1, ofL_n, ofL_c, nams, reO, reP, reA, reC, srcI, setG, obG, List.cons.injEq, aeq1, aeqs, onG, Int.reduceLE, Int.reduceNeg, Int.reduceLT, Nat.reduceEqDiff, ↓reduceIte, Nat.reduceLT, Nat.reduceLeDiff, Nat.reduceAdd, Nat.reduceMul, Nat.reduceSub, reduceCtorEq, Int.reduceEq]
    refine ⟨by kernel_rfl, by simpa using h, by simpa using h, ?_⟩
    refine acall_p false (c_eqCall L[i]) (by simp [pCall, obsT, obT, okO, okP, okA, okC, okD, okI, reP, reA, reC, srcI, Nl_nil, Nl_cons, PV.nl, upd_at, ofL_n, ofL_c, VS, argsT, lendA, lendL, lendT, Cvl_nil, Cvl_cons, Cv_bool, Cv_int, Cv_str, Cv_nils, Cv_nilc, Cv_cl, Cv_ow, noFn, PV.noF, NR_iff, NRO, hb, ares, ares1, ldo, ld, nOw, PV.isOw, TY]) tS (.inl rfl) ?_
    simp only [hC, VS, VZ, TY, openC, foldC, foldN, PF, pick_or, pick_and, aop, aopD, rdN, wrN, idL, idA, apure, AS.ev, startA, strip, abin, aint, astr, alen, aslice, optI, aconv, aconvM, gdv, AS.put, ofVal, pcells, ld, ldo, nOw, PV.isOw, gtmp, within, astore, splice, afill, allCells, okIdx, asrc, aflat, aappend, hintOk, PV.clo, PV.clo1, ofL_n, ofL_c, nams, reO, reP, reA, reC, srcI, setG, obG, List.cons.injEq, aeq1, aeqs, onG, Int.reduceLE, Int.reduceNeg, Int.reduceLT, Nat.reduceEqDiff, ↓reduceIte, Nat.reduceLT, Nat.reduceLeDiff, Nat.reduceAdd, Nat.reduceMul, Nat.reduceSub, reduceCtorEq, Int.reduceEq]
    simp (disch := omega) only [wr64]
    exact ⟨i + 1, by omega, by omega, Told_go hn [] tS tS (by simp)⟩
  · exact Ret_go [] tS tS (by simp)
theorem c_eqTrip (x : Tp) (hx : bTrip x) : AC Try.prog 135 [.ag (cTrip x), .ag (cTrip x)] (ML []) (.bool true) (ML []) := by
  refine AC.of Try.func135 rfl rfl (by simp [Try.ntmps135]) rfl (fun C hC hm => ?_)
  rw [Try.ntmps135] at hC
  have hn : C.m0.nx = _ := congrArg Mem.nx hm
  simp only [ML_nx, List.length_nil, List.length_cons, Nat.zero_add, Nat.reduceAdd] at hn
  simp only [bTrip] at hx
  simp only [hC, cTrip, VS, VZ, TY, openC, foldC, foldN, PF, pick_or, pick_and, aop, aopD, rdN, wrN, idL, idA, apure, AS.ev, startA, strip, abin, aint, astr, alen, aslice, optI, aconv, aconvM, gdv, AS.put, ofVal, pcells, ld, ldo, nOw, PV.isOw, gtmp, within, astore, splice, afill, allCells, okIdx, asrc, aflat, aappend, hintOk, PV.clo, PV.clo1, ofL_n, ofL_c, nams, reO, reP, reA, reC, srcI, setG, obG, List.cons.injEq, aeq1, aeqs, onG, Int.reduceLE, Int.reduceNeg, Int.reduceLT, Nat.reduceEqDiff, ↓reduceIte, Nat.reduceLT, Nat.reduceLeDiff, Nat.reduceAdd, Nat.reduceMul, Nat.reduceSub, reduceCtorEq, Int.reduceEq]
  refine acall_p false (c_eqCallS x.calls (by simp_all)) (by simp [upd_at, obsT, obT, okO, okP, okA, okC, okD, okI, reP, reA, reC, srcI, Nl_nil, Nl_cons, PV.nl, upd_at, ofL_n, ofL_c, VS, argsT, lendA, lendL, lendT, Cvl_nil, Cvl_cons, Cv_bool, Cv_int, Cv_str, Cv_nils, Cv_nilc, Cv_cl, Cv_ow, noFn, PV.noF, NR_iff, NRO, hb, ares, ares1, ldo, ld, nOw, PV.isOw, TY]) tS (.inl rfl) ?_
  simp only [hC, VS, VZ, TY, openC, foldC, foldN, PF, pick_or, pick_and, aop, aopD, rdN, wrN, idL, idA, apure, AS.ev, startA, strip, abin, aint, astr, alen, aslice, optI, aconv, aconvM, gdv, AS.put, ofVal, pcells, ld, ldo, nOw, PV.isOw, gtmp, within, astore, splice, afill, allCells, okIdx, asrc, aflat, aappend, hintOk, PV.clo, PV.clo1, ofL_n, ofL_c, nams, reO, reP, reA, reC, srcI, setG, obG, List.cons.injEq, aeq1, aeqs, onG, Int.reduceLE, Int.reduceNeg, Int.reduceLT, Nat.reduceEqDiff, ↓reduceIte, Nat.reduceLT, Nat.reduceLeDiff, Nat.reduceAdd, Nat.reduceMul, Nat.reduceSub, reduceCtorEq, Int.reduceEq]
  exact Ret_go [] tS tS (by simp)
theorem c_eqTripS (L : List Tp) (hL : L.length ≤ 1048576) (hE : ∀ x ∈ L, bTrip x) : AC Try.prog 106 [.cl 3 L.length (lpv cTrip L), .cl 3 L.length (lpv cTrip L)] (ML []) (.bool true) (ML []) := by
  refine AC.of Try.func106 rfl rfl (by simp [Try.ntmps106]) rfl (fun C hC hm => ?_)
  rw [Try.ntmps106] at hC
  have hn : C.m0.nx = _ := congrArg Mem.nx hm
  simp only [ML_nx, List.length_nil, List.length_cons, Nat.zero_add, Nat.reduceAdd] at hn
  simp only [hC, VS, VZ, TY, openC, foldC, foldN, PF, pick_or, pick_and, aop, aopD, rdN, wrN, idL, idA, apure, AS.ev, startA, strip, abin, aint, astr, alen, aslice, optI, aconv, aconvM, gdv, AS.put, ofVal, pcells, ld, ldo, nOw, PV.isOw, gtmp, within, astore, splice, afill, allCells, okIdx, asrc, aflat, aappend, hintOk, PV.clo, PV.clo1, ofL_n, ofL_c, nams, reO, reP, reA, reC, srcI, setG, obG, List.cons.injEq, aeq1, aeqs, onG, Int.reduceLE, Int.reduceNeg, Int.reduceLT, Nat.reduceEqDiff, ↓reduceIte, Nat.reduceLT, Nat.reduceLeDiff, Nat.reduceAdd, Nat.reduceMul, Nat.reduceSub, reduceCtorEq, Int.reduceEq]
  refine AL.go (X := Nat) (fun i => ⟨ofL [(0, .cl 3 L.length (lpv cTrip L)), (1, .cl 3 L.length (lpv cTrip L)), (5, .int .i64 (i : Int))], ML []⟩) (fun i => L.length - i) (fun i => i ≤ L.length) 0 (Nat.zero_le _) (Told_go hn [] tS tS (by simp)) (fun i hi => vc_ok _ _ _ ?_)
  simp only [hC, VS, VZ, TY, openC, foldC, foldN, PF, pick_or, pick_and, aop, aopD, rdN, wrN, idL, idA, apure, AS.ev, startA, strip, abin, aint, astr, alen, aslice, optI, aconv, aconvM, gdv, AS.put, ofVal, pcells, ld, ldo, nOw, PV.isOw, gtmp, within, astore, splice, afill, allCells, okIdx, asrc, aflat, aappend, hintOk, PV.clo, PV.clo1, ofL_n, ofL_c, nams, reO, reP, reA, reC, srcI, setG, obG, List.cons.injEq, aeq1, aeqs, onG, Int.reduceLE, Int.reduceNeg, Int.reduceLT, Nat.reduceEqDiff, ↓reduceIte, Nat.reduceLT, Nat.reduceLeDiff, Nat.reduceAdd, Nat.reduceMul, Nat.reduceSub, reduceCtorEq, Int.reduceEq]
  refine ⟨fun h => ?_, fun h => ?_⟩
  · have h : i < L.length := by simpa using h
    have e : lpv cTrip L i = [.str L[i].line, .int .i64 L[i].days, .cl 3 L[i].calls.length (lpv pCall L[i].calls)] := lpv_at h
    simp only [e, VS, VZ, TY, openC, foldC, foldN, PF, pick_or, pick_and, aop, aopD, rdN, wrN, idL, idA, apure, AS.ev, startA, strip, abin, aint, astr, alen, aslice, optI, aconv, aconvM, gdv, AS.put, ofVal, pcells, ld, ldo, nOw, PV.isOw, gtmp, within, astore, splice, afill, allCells, okIdx, asrc, aflat, aappend, hintOk, PV.clo, PV.clo1, ofL_n, ofL_c, nams, reO, reP, reA, reC, srcI, setG, obG, List.cons.injEq, aeq1, aeqs, onG, Int.reduceLE, Int.reduceNeg, Int.reduceLT, Nat.reduceEqDiff, ↓reduceIte, Nat.reduceLT, Nat.reduceLeDiff, Nat.reduceAdd, Nat.reduceMul, Nat.reduceSub, reduceCtorEq, Int.reduceEq]
    refine ⟨by kernel_rfl, by simpa using h, by simpa using h, ?_⟩
    refine acall_p false (c_eqTrip L[i] (hE _ (List.getElem_mem h))) (by simp [cTrip, obsT, obT, okO, okP, okA, okC, okD, okI, reP, reA, reC, srcI, Nl_nil, Nl_cons, PV.nl, upd_at, ofL_n, ofL_c, VS, argsT, lendA, lendL, lendT, Cvl_nil, Cvl_cons, Cv_bool, Cv_int, Cv_str, Cv_nils, Cv_nilc, Cv_cl, Cv_ow, noFn, PV.noF, NR_iff, NRO, hb, ares, ares1, ldo, ld, nOw, PV.isOw, TY]) tS (.inl rfl) ?_
    simp only [hC, VS, VZ, TY, openC, foldC, foldN, PF, pick_or, pick_and, aop, aopD, rdN, wrN, idL, idA, apure, AS.ev, startA, strip, abin, aint, astr, alen, aslice, optI, aconv, aconvM, gdv, AS.put, ofVal, pcells, ld, ldo, nOw, PV.isOw, gtmp, within, astore, splice, afill, allCells, okIdx, asrc, aflat, aappend, hintOk, PV.clo, PV.clo1, ofL_n, ofL_c, nams, reO, reP, reA, reC, srcI, setG, obG, List.cons.injEq, aeq1, aeqs, onG, Int.reduceLE, Int.reduceNeg, Int.reduceLT, Nat.reduceEqDiff, ↓reduceIte, Nat.reduceLT, Nat.reduceLeDiff, Nat.reduceAdd, Nat.reduceMul, Nat.reduceSub, reduceCtorEq, Int.reduceEq]
    simp (disch := omega) only [wr64]
    exact ⟨i + 1, by omega, by omega, Told_go hn [] tS tS (by simp)⟩
  · exact Ret_go [] tS tS (by simp)
theorem c_eqWalk (x : Wk_) : AC Try.prog 136 [.ag (pWalk x), .ag (pWalk x)] (ML []) (.bool true) (ML []) := by
  refine AC.of Try.func136 rfl rfl (by simp [Try.ntmps136]) rfl (fun C hC hm => ?_)
  rw [Try.ntmps136] at hC
  have hn : C.m0.nx = _ := congrArg Mem.nx hm
  simp only [ML_nx, List.length_nil, List.length_cons, Nat.zero_add, Nat.reduceAdd] at hn
  simp only [hC, pWalk, VS, VZ, TY, openC, foldC, foldN, PF, pick_or, pick_and, aop, aopD, rdN, wrN, idL, idA, apure, AS.ev, startA, strip, abin, aint, astr, alen, aslice, optI, aconv, aconvM, gdv, AS.put, ofVal, pcells, ld, ldo, nOw, PV.isOw, gtmp, within, astore, splice, afill, allCells, okIdx, asrc, aflat, aappend, hintOk, PV.clo, PV.clo1, ofL_n, ofL_c, nams, reO, reP, reA, reC, srcI, setG, obG, List.cons.injEq, aeq1, aeqs, onG, Int.reduceLE, Int.reduceNeg, Int.reduceLT, Nat.reduceEqDiff, ↓reduceIte, Nat.reduceLT, Nat.reduceLeDiff, Nat.reduceAdd, Nat.reduceMul, Nat.reduceSub, reduceCtorEq, Int.reduceEq]
  exact Ret_go [] tS tS (by simp)
theorem c_eqWalkS (L : List Wk_) (hL : L.length ≤ 1048576) : AC Try.prog 107 [.cl 3 L.length (lpv pWalk L), .cl 3 L.length (lpv pWalk L)] (ML []) (.bool true) (ML []) := by
  refine AC.of Try.func107 rfl rfl (by simp [Try.ntmps107]) rfl (fun C hC hm => ?_)
  rw [Try.ntmps107] at hC
  have hn : C.m0.nx = _ := congrArg Mem.nx hm
  simp only [ML_nx, List.length_nil, List.length_cons, Nat.zero_add, Nat.reduceAdd] at hn
  simp only [hC, VS, VZ, TY, openC, foldC, foldN, PF, pick_or, pick_and, aop, aopD, rdN, wrN, idL, idA, apure, AS.ev, startA, strip, abin, aint, astr, alen, aslice, optI, aconv, aconvM, gdv, AS.put, ofVal, pcells, ld, ldo, nOw, PV.isOw, gtmp, within, astore, splice, afill, allCells, okIdx, asrc, aflat, aappend, hintOk, PV.clo, PV.clo1, ofL_n, ofL_c, nams, reO, reP, reA, reC, srcI, setG, obG, List.cons.injEq, aeq1, aeqs, onG, Int.reduceLE, Int.reduceNeg, Int.reduceLT, Nat.reduceEqDiff, ↓reduceIte, Nat.reduceLT, Nat.reduceLeDiff, Nat.reduceAdd, Nat.reduceMul, Nat.reduceSub, reduceCtorEq, Int.reduceEq]
  refine AL.go (X := Nat) (fun i => ⟨ofL [(0, .cl 3 L.length (lpv pWalk L)), (1, .cl 3 L.length (lpv pWalk L)), (5, .int .i64 (i : Int))], ML []⟩) (fun i => L.length - i) (fun i => i ≤ L.length) 0 (Nat.zero_le _) (Told_go hn [] tS tS (by simp)) (fun i hi => vc_ok _ _ _ ?_)
  simp only [hC, VS, VZ, TY, openC, foldC, foldN, PF, pick_or, pick_and, aop, aopD, rdN, wrN, idL, idA, apure, AS.ev, startA, strip, abin, aint, astr, alen, aslice, optI, aconv, aconvM, gdv, AS.put, ofVal, pcells, ld, ldo, nOw, PV.isOw, gtmp, within, astore, splice, afill, allCells, okIdx, asrc, aflat, aappend, hintOk, PV.clo, PV.clo1, ofL_n, ofL_c, nams, reO, reP, reA, reC, srcI, setG, obG, List.cons.injEq, aeq1, aeqs, onG, Int.reduceLE, Int.reduceNeg, Int.reduceLT, Nat.reduceEqDiff, ↓reduceIte, Nat.reduceLT, Nat.reduceLeDiff, Nat.reduceAdd, Nat.reduceMul, Nat.reduceSub, reduceCtorEq, Int.reduceEq]
  refine ⟨fun h => ?_, fun h => ?_⟩
  · have h : i < L.length := by simpa using h
    have e : lpv pWalk L i = [.int .i64 L[i].fr, .int .i64 L[i].to, .int .i64 L[i].time] := lpv_at h
    simp only [e, VS, VZ, TY, openC, foldC, foldN, PF, pick_or, pick_and, aop, aopD, rdN, wrN, idL, idA, apure, AS.ev, startA, strip, abin, aint, astr, alen, aslice, optI, aconv, aconvM, gdv, AS.put, ofVal, pcells, ld, ldo, nOw, PV.isOw, gtmp, within, astore, splice, afill, allCells, okIdx, asrc, aflat, aappend, hintOk, PV.clo, PV.clo1, ofL_n, ofL_c, nams, reO, reP, reA, reC, srcI, setG, obG, List.cons.injEq, aeq1, aeqs, onG, Int.reduceLE, Int.reduceNeg, Int.reduceLT, Nat.reduceEqDiff, ↓reduceIte, Nat.reduceLT, Nat.reduceLeDiff, Nat.reduceAdd, Nat.reduceMul, Nat.reduceSub, reduceCtorEq, Int.reduceEq]
    refine ⟨by kernel_rfl, by simpa using h, by simpa using h, ?_⟩
    refine acall_p false (c_eqWalk L[i]) (by simp [pWalk, obsT, obT, okO, okP, okA, okC, okD, okI, reP, reA, reC, srcI, Nl_nil, Nl_cons, PV.nl, upd_at, ofL_n, ofL_c, VS, argsT, lendA, lendL, lendT, Cvl_nil, Cvl_cons, Cv_bool, Cv_int, Cv_str, Cv_nils, Cv_nilc, Cv_cl, Cv_ow, noFn, PV.noF, NR_iff, NRO, hb, ares, ares1, ldo, ld, nOw, PV.isOw, TY]) tS (.inl rfl) ?_
    simp only [hC, VS, VZ, TY, openC, foldC, foldN, PF, pick_or, pick_and, aop, aopD, rdN, wrN, idL, idA, apure, AS.ev, startA, strip, abin, aint, astr, alen, aslice, optI, aconv, aconvM, gdv, AS.put, ofVal, pcells, ld, ldo, nOw, PV.isOw, gtmp, within, astore, splice, afill, allCells, okIdx, asrc, aflat, aappend, hintOk, PV.clo, PV.clo1, ofL_n, ofL_c, nams, reO, reP, reA, reC, srcI, setG, obG, List.cons.injEq, aeq1, aeqs, onG, Int.reduceLE, Int.reduceNeg, Int.reduceLT, Nat.reduceEqDiff, ↓reduceIte, Nat.reduceLT, Nat.reduceLeDiff, Nat.reduceAdd, Nat.reduceMul, Nat.reduceSub, reduceCtorEq, Int.reduceEq]
    simp (disch := omega) only [wr64]
    exact ⟨i + 1, by omega, by omega, Told_go hn [] tS tS (by simp)⟩
  · exact Ret_go [] tS tS (by simp)
theorem c_eqLines (x : Ln) (hx : bLines x) : AC Try.prog 54 [.ag (cLines x), .ag (cLines x)] (ML []) (.bool true) (ML []) := by
  refine AC.of Try.func54 rfl rfl (by simp [Try.ntmps54]) rfl (fun C hC hm => ?_)
  rw [Try.ntmps54] at hC
  have hn : C.m0.nx = _ := congrArg Mem.nx hm
  simp only [ML_nx, List.length_nil, List.length_cons, Nat.zero_add, Nat.reduceAdd] at hn
  simp only [bLines] at hx
  simp only [hC, cLines, VS, VZ, TY, openC, foldC, foldN, PF, pick_or, pick_and, aop, aopD, rdN, wrN, idL, idA, apure, AS.ev, startA, strip, abin, aint, astr, alen, aslice, optI, aconv, aconvM, gdv, AS.put, ofVal, pcells, ld, ldo, nOw, PV.isOw, gtmp, within, astore, splice, afill, allCells, okIdx, asrc, aflat, aappend, hintOk, PV.clo, PV.clo1, ofL_n, ofL_c, nams, reO, reP, reA, reC, srcI, setG, obG, List.cons.injEq, aeq1, aeqs, onG, Int.reduceLE, Int.reduceNeg, Int.reduceLT, Nat.reduceEqDiff, ↓reduceIte, Nat.reduceLT, Nat.reduceLeDiff, Nat.reduceAdd, Nat.reduceMul, Nat.reduceSub, reduceCtorEq, Int.reduceEq]
  refine acall_p false (c_eqStringS x.stops (by simp_all)) (by simp [upd_at, obsT, obT, okO, okP, okA, okC, okD, okI, reP, reA, reC, srcI, Nl_nil, Nl_cons, PV.nl, upd_at, ofL_n, ofL_c, VS, argsT, lendA, lendL, lendT, Cvl_nil, Cvl_cons, Cv_bool, Cv_int, Cv_str, Cv_nils, Cv_nilc, Cv_cl, Cv_ow, noFn, PV.noF, NR_iff, NRO, hb, ares, ares1, ldo, ld, nOw, PV.isOw, TY]) tS (.inl rfl) ?_
  simp only [hC, VS, VZ, TY, openC, foldC, foldN, PF, pick_or, pick_and, aop, aopD, rdN, wrN, idL, idA, apure, AS.ev, startA, strip, abin, aint, astr, alen, aslice, optI, aconv, aconvM, gdv, AS.put, ofVal, pcells, ld, ldo, nOw, PV.isOw, gtmp, within, astore, splice, afill, allCells, okIdx, asrc, aflat, aappend, hintOk, PV.clo, PV.clo1, ofL_n, ofL_c, nams, reO, reP, reA, reC, srcI, setG, obG, List.cons.injEq, aeq1, aeqs, onG, Int.reduceLE, Int.reduceNeg, Int.reduceLT, Nat.reduceEqDiff, ↓reduceIte, Nat.reduceLT, Nat.reduceLeDiff, Nat.reduceAdd, Nat.reduceMul, Nat.reduceSub, reduceCtorEq, Int.reduceEq]
  refine acall_p false (c_eqTripS x.trips (by simp_all) (by simp_all)) (by simp [upd_at, obsT, obT, okO, okP, okA, okC, okD, okI, reP, reA, reC, srcI, Nl_nil, Nl_cons, PV.nl, upd_at, ofL_n, ofL_c, VS, argsT, lendA, lendL, lendT, Cvl_nil, Cvl_cons, Cv_bool, Cv_int, Cv_str, Cv_nils, Cv_nilc, Cv_cl, Cv_ow, noFn, PV.noF, NR_iff, NRO, hb, ares, ares1, ldo, ld, nOw, PV.isOw, TY]) tS (.inl rfl) ?_
  simp only [hC, VS, VZ, TY, openC, foldC, foldN, PF, pick_or, pick_and, aop, aopD, rdN, wrN, idL, idA, apure, AS.ev, startA, strip, abin, aint, astr, alen, aslice, optI, aconv, aconvM, gdv, AS.put, ofVal, pcells, ld, ldo, nOw, PV.isOw, gtmp, within, astore, splice, afill, allCells, okIdx, asrc, aflat, aappend, hintOk, PV.clo, PV.clo1, ofL_n, ofL_c, nams, reO, reP, reA, reC, srcI, setG, obG, List.cons.injEq, aeq1, aeqs, onG, Int.reduceLE, Int.reduceNeg, Int.reduceLT, Nat.reduceEqDiff, ↓reduceIte, Nat.reduceLT, Nat.reduceLeDiff, Nat.reduceAdd, Nat.reduceMul, Nat.reduceSub, reduceCtorEq, Int.reduceEq]
  refine acall_p false (c_eqWalkS x.walks (by simp_all)) (by simp [upd_at, obsT, obT, okO, okP, okA, okC, okD, okI, reP, reA, reC, srcI, Nl_nil, Nl_cons, PV.nl, upd_at, ofL_n, ofL_c, VS, argsT, lendA, lendL, lendT, Cvl_nil, Cvl_cons, Cv_bool, Cv_int, Cv_str, Cv_nils, Cv_nilc, Cv_cl, Cv_ow, noFn, PV.noF, NR_iff, NRO, hb, ares, ares1, ldo, ld, nOw, PV.isOw, TY]) tS (.inl rfl) ?_
  simp only [hC, VS, VZ, TY, openC, foldC, foldN, PF, pick_or, pick_and, aop, aopD, rdN, wrN, idL, idA, apure, AS.ev, startA, strip, abin, aint, astr, alen, aslice, optI, aconv, aconvM, gdv, AS.put, ofVal, pcells, ld, ldo, nOw, PV.isOw, gtmp, within, astore, splice, afill, allCells, okIdx, asrc, aflat, aappend, hintOk, PV.clo, PV.clo1, ofL_n, ofL_c, nams, reO, reP, reA, reC, srcI, setG, obG, List.cons.injEq, aeq1, aeqs, onG, Int.reduceLE, Int.reduceNeg, Int.reduceLT, Nat.reduceEqDiff, ↓reduceIte, Nat.reduceLT, Nat.reduceLeDiff, Nat.reduceAdd, Nat.reduceMul, Nat.reduceSub, reduceCtorEq, Int.reduceEq]
  exact Ret_go [] tS tS (by simp)
end Go.Proofs.Ytmmlpehfieojdaa.Wd
namespace Go.Proofs.Ytmmlpehfieojdaa.Wd
open Go Go.RowKit Go.Proofs Go.Proofs.YtmmlpehfieojdaaW.AW
set_option linter.unusedVariables false
set_option linter.unusedSimpArgs false
set_option maxRecDepth 100000
namespace MT
theorem TY : (tyD Try.prog 3 = ⟨TK.int IntKind.i64, 1, [], [PV.int IntKind.i64 0], true, 0, 0, false, [], PV.int IntKind.i64 0, true, false, []⟩ ∧ tk Try.prog 3 = TK.int IntKind.i64 ∧ (tkU8 Try.prog 3 ↔ False)) ∧
    (tyD Try.prog 4 = ⟨TK.bool, 1, [], [PV.bool false], true, 0, 0, false, [], PV.bool false, true, false, []⟩ ∧ tk Try.prog 4 = TK.bool ∧ (tkU8 Try.prog 4 ↔ False)) ∧
    (tyD Try.prog 9 = ⟨TK.string, 1, [], [PV.str ByteArray.empty], true, 0, 0, false, [], PV.str ByteArray.empty, true, false, []⟩ ∧ tk Try.prog 9 = TK.string ∧ (tkU8 Try.prog 9 ↔ False)) ∧
    (tyD Try.prog 22 = ⟨TK.slice 5, 1, [], [PV.nils], true, 1, 1, true, [PV.int IntKind.u8 0], PV.nils, true, false, []⟩ ∧ tk Try.prog 22 = TK.slice 5 ∧ ((∃ e', Try.prog.underlying 22 = some (.slice e')) ↔ True) ∧ (tkU8 Try.prog 22 ↔ True)) ∧
    (tyD Try.prog 5 = ⟨TK.int IntKind.u8, 1, [], [PV.int IntKind.u8 0], true, 0, 0, false, [], PV.int IntKind.u8 0, true, false, []⟩ ∧ tk Try.prog 5 = TK.int IntKind.u8 ∧ (tkU8 Try.prog 5 ↔ False)) :=
  ⟨⟨by kernel_rfl, by kernel_rfl, ⟨fun h => absurd h (by decide +kernel), fun h => h.elim⟩⟩,
    ⟨by kernel_rfl, by kernel_rfl, ⟨fun h => absurd h (by decide +kernel), fun h => h.elim⟩⟩,
    ⟨by kernel_rfl, by kernel_rfl, ⟨fun h => absurd h (by decide +kernel), fun h => h.elim⟩⟩,
    ⟨by kernel_rfl, by kernel_rfl, ⟨fun _ => trivial, fun _ => ⟨5, by kernel_rfl⟩⟩, ⟨fun _ => trivial, fun _ => by unfold tkU8; rw [show tk Try.prog 22 = TK.slice 5 from by kernel_rfl]; exact (by kernel_rfl : tk Try.prog 5 = TK.int IntKind.u8)⟩⟩,
    ⟨by kernel_rfl, by kernel_rfl, ⟨fun h => absurd h (by decide +kernel), fun h => h.elim⟩⟩⟩
theorem PF : Try.prog.follows .mixedOrders = true := by kernel_rfl
def dig (k : Int) : ByteArray := bytesG 1 (fun _ => [.int .u8 (IntKind.u8.wrap (48 + k.tmod 10))])
def digs (k : Nat) (acc : ByteArray) : ByteArray := if h : k = 0 then acc else digs (k / 10) (dig k ++ acc)
decreasing_by omega
def mkT (k : Int) : ByteArray := if k ≤ 0 then ByteArray.mk #[109, 48] else ByteArray.mk #[109] ++ digs k.toNat ByteArray.empty
theorem c_markText (k : Int) (hk0 : 0 ≤ k) (hk : k ≤ 4611686018427387904) : AC Try.prog 119 [.int .i64 k] (ML []) (.str (mkT k)) (ML []) := by
  refine AC.of Try.func119 rfl rfl (by simp [Try.ntmps119]) rfl (fun C hC hm => ?_)
  rw [Try.ntmps119] at hC
  have hn : C.m0.nx = _ := congrArg Mem.nx hm
  simp only [ML_nx, List.length_nil, List.length_cons, Nat.zero_add, Nat.reduceAdd] at hn
  simp only [hC, VS, VZ, TY, openC, foldC, foldN, PF, pick_or, pick_and, aop, aopD, rdN, wrN, idL, idA, apure, AS.ev, startA, strip, abin, aint, astr, alen, aslice, optI, aconv, aconvM, gdv, AS.put, ofVal, pcells, ld, ldo, nOw, PV.isOw, gtmp, within, astore, splice, afill, allCells, okIdx, asrc, aflat, aappend, hintOk, PV.clo, PV.clo1, ofL_n, ofL_c, nams, reO, reP, reA, reC, srcI, setG, obG, List.cons.injEq, aeq1, aeqs, onG, Int.reduceLE, Int.reduceNeg, Int.reduceLT, Nat.reduceEqDiff, ↓reduceIte, Nat.reduceLT, Nat.reduceLeDiff, Nat.reduceAdd, Nat.reduceMul, Nat.reduceSub, reduceCtorEq, Int.reduceEq]
  refine ⟨fun h => ?_, fun h => ?_⟩ <;> simp at h
  · exact Ret_go [] (by simp [mkT, h, obsT, obT, okO, okP, okA, okC, okD, okI, reP, reA, reC, srcI, Nl_nil, Nl_cons, PV.nl, upd_at, ofL_n, ofL_c, VS, argsT, lendA, lendL, lendT, Cvl_nil, Cvl_cons, Cv_bool, Cv_int, Cv_str, Cv_nils, Cv_nilc, Cv_cl, Cv_ow, noFn, PV.noF, NR_iff, NRO, hb, ares, ares1, ldo, ld, nOw, PV.isOw, TY]) (by simp [obsT, obT, okO, okP, okA, okC, okD, okI, reP, reA, reC, srcI, Nl_nil, Nl_cons, PV.nl, upd_at, ofL_n, ofL_c, VS, argsT, lendA, lendL, lendT, Cvl_nil, Cvl_cons, Cv_bool, Cv_int, Cv_str, Cv_nils, Cv_nilc, Cv_cl, Cv_ow, noFn, PV.noF, NR_iff, NRO, hb, ares, ares1, ldo, ld, nOw, PV.isOw, TY]) (by simp)
  have hs : mkT k = ByteArray.mk #[109] ++ digs k.toNat ByteArray.empty := by rw [mkT, if_neg (by omega)]
  generalize mkT k = tot at *
  refine AL.go (X := Int × ByteArray) (fun p => ⟨ofL [(0, .int .i64 p.1), (3, .str p.2)], ML []⟩) (fun p => p.1.toNat) (fun p => 0 ≤ p.1 ∧ (p.2.size : Int) + p.1 ≤ 4611686018427387904 ∧ tot = ByteArray.mk #[109] ++ digs p.1.toNat p.2) (k, ByteArray.empty) ⟨hk0, by simp; omega, hs⟩
    (Told_go hn [] (by simp [obsT, obT, okO, okP, okA, okC, okD, okI, reP, reA, reC, srcI, Nl_nil, Nl_cons, PV.nl, upd_at, ofL_n, ofL_c, VS, argsT, lendA, lendL, lendT, Cvl_nil, Cvl_cons, Cv_bool, Cv_int, Cv_str, Cv_nils, Cv_nilc, Cv_cl, Cv_ow, noFn, PV.noF, NR_iff, NRO, hb, ares, ares1, ldo, ld, nOw, PV.isOw, TY]; exact rfl) (by simp [obsT, obT, okO, okP, okA, okC, okD, okI, reP, reA, reC, srcI, Nl_nil, Nl_cons, PV.nl, upd_at, ofL_n, ofL_c, VS, argsT, lendA, lendL, lendT, Cvl_nil, Cvl_cons, Cv_bool, Cv_int, Cv_str, Cv_nils, Cv_nilc, Cv_cl, Cv_ow, noFn, PV.noF, NR_iff, NRO, hb, ares, ares1, ldo, ld, nOw, PV.isOw, TY]) (by simp)) ?_
  rintro ⟨k, out⟩ ⟨h0, hb, ht⟩
  simp only at h0 hb ht ⊢
  refine vc_ok _ _ _ ?_
  simp only [hC, VS, VZ, TY, openC, foldC, foldN, PF, pick_or, pick_and, aop, aopD, rdN, wrN, idL, idA, apure, AS.ev, startA, strip, abin, aint, astr, alen, aslice, optI, aconv, aconvM, gdv, AS.put, ofVal, pcells, ld, ldo, nOw, PV.isOw, gtmp, within, astore, splice, afill, allCells, okIdx, asrc, aflat, aappend, hintOk, PV.clo, PV.clo1, ofL_n, ofL_c, nams, reO, reP, reA, reC, srcI, setG, obG, List.cons.injEq, aeq1, aeqs, onG, Int.reduceLE, Int.reduceNeg, Int.reduceLT, Nat.reduceEqDiff, ↓reduceIte, Nat.reduceLT, Nat.reduceLeDiff, Nat.reduceAdd, Nat.reduceMul, Nat.reduceSub, reduceCtorEq, Int.reduceEq]
  refine ⟨fun h => ?_, fun h => ?_⟩ <;> simp at h
  · have m1 : k.tmod 10 = k % 10 := Int.tmod_eq_emod_of_nonneg h0
    have m2 : k.tdiv 10 = k / 10 := Int.tdiv_eq_ediv_of_nonneg h0
    have m3 : 0 ≤ k % 10 ∧ k % 10 < 10 := by omega
    have b1 : 0 ≤ k.tmod 10 ∧ k.tmod 10 < 10 := by rw [m1]; omega
    simp only [m2]
    simp (disch := omega) only [wr64]
    have e : (fun i : Nat => [[PV.int .u8 (IntKind.u8.wrap (48 + k.tmod 10))]].getD i []) = fun i => if i = 0 then [PV.int .u8 (IntKind.u8.wrap (48 + k.tmod 10))] else [] := by funext i; cases i <;> simp
    have e2 : bytesG 1 (fun i : Nat => [[PV.int .u8 (IntKind.u8.wrap (48 + k.tmod 10))]].getD i []) = dig k := by simp [bytesG, dig]
    have hd : (dig k).size = 1 := bytesG_size _ _
    simp only [e2, hd]
    refine ⟨fun i hi => ⟨IntKind.u8.wrap (48 + k.tmod 10), by cases i with
                                  | zero => rfl
                                  | succ i => omega⟩, by omega, (k / 10, dig k ++ out), ⟨by simp only; omega, by simp only [ByteArray.size_append, hd]; omega, ?_⟩, by simp only; omega, Told_go hn [] (by simp [obsT, obT, okO, okP, okA, okC, okD, okI, reP, reA, reC, srcI, Nl_nil, Nl_cons, PV.nl, upd_at, ofL_n, ofL_c, VS, argsT, lendA, lendL, lendT, Cvl_nil, Cvl_cons, Cv_bool, Cv_int, Cv_str, Cv_nils, Cv_nilc, Cv_cl, Cv_ow, noFn, PV.noF, NR_iff, NRO, hb, ares, ares1, ldo, ld, nOw, PV.isOw, TY]) (by simp [obsT, obT, okO, okP, okA, okC, okD, okI, reP, reA, reC, srcI, Nl_nil, Nl_cons, PV.nl, upd_at, ofL_n, ofL_c, VS, argsT, lendA, lendL, lendT, Cvl_nil, Cvl_cons, Cv_bool, Cv_int, Cv_str, Cv_nils, Cv_nilc, Cv_cl, Cv_ow, noFn, PV.noF, NR_iff, NRO, hb, ares, ares1, ldo, ld, nOw, PV.isOw, TY]) (by simp)⟩
    rw [ht, digs, dif_neg (by omega)]
    have e3 : ((k.toNat : Nat) : Int) = k := by omega
    have e4 : k.toNat / 10 = (k / 10).toNat := by omega
    rw [e3, e4]
  · have : k = 0 := by omega
    subst this
    have hq : digs 0 out = out := by rw [digs]; simp
    have ht : tot = ByteArray.mk #[109] ++ out := by rw [ht]; simp [hq]
    refine ⟨?_, ?_⟩
    · omega
    exact Ret_go [] (by simp [ht, obsT, obT, okO, okP, okA, okC, okD, okI, reP, reA, reC, srcI, Nl_nil, Nl_cons, PV.nl, upd_at, ofL_n, ofL_c, VS, argsT, lendA, lendL, lendT, Cvl_nil, Cvl_cons, Cv_bool, Cv_int, Cv_str, Cv_nils, Cv_nilc, Cv_cl, Cv_ow, noFn, PV.noF, NR_iff, NRO, hb, ares, ares1, ldo, ld, nOw, PV.isOw, TY]) (by simp [obsT, obT, okO, okP, okA, okC, okD, okI, reP, reA, reC, srcI, Nl_nil, Nl_cons, PV.nl, upd_at, ofL_n, ofL_c, VS, argsT, lendA, lendL, lendT, Cvl_nil, Cvl_cons, Cv_bool, Cv_int, Cv_str, Cv_nils, Cv_nilc, Cv_cl, Cv_ow, noFn, PV.noF, NR_iff, NRO, hb, ares, ares1, ldo, ld, nOw, PV.isOw, TY]) (by simp)
end MT
end Go.Proofs.Ytmmlpehfieojdaa.Wd
