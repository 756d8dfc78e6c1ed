/- What the proof of FnExactWordsOf stands on, part 5: plain lemmas and contracts. -/
import Derived.Test.YtmmlpehfieojdaaProg
import Derived.Test.YtmmlpehfieojdaaXWO4
namespace Go.Proofs.Ytmmlpehfieojdaa.Wd
open Go Go.RowKit Go.Proofs Go.Proofs.YtmmlpehfieojdaaW.AW
set_option linter.unusedVariables false
set_option linter.unusedSimpArgs false
set_option maxRecDepth 100000
theorem lpv_new {X : Type} {pv : X → List PV} {L : List X} {x : X} : lpv pv (L ++ [x]) L.length = pv x := by simp [lpv]
theorem lpv_old {X : Type} {pv : X → List PV} {L : List X} {x : X} {j : Nat} (h : j < L.length) : lpv pv (L ++ [x]) j = lpv pv L j := by unfold lpv; rw [List.getElem?_append_left h]
theorem lpv_nil {X : Type} (pv : X → List PV) : lpv pv [] = fun _ => [] := rfl
end Go.Proofs.Ytmmlpehfieojdaa.Wd
namespace Go.Proofs.Ytmmlpehfieojdaa.Wd
open Go Go.RowKit Go.Proofs Go.Proofs.YtmmlpehfieojdaaW.AW
set_option linter.unusedVariables false
set_option linter.unusedSimpArgs false
set_option maxRecDepth 100000
def canon (w : ByteArray) : ByteArray :=
  if w = ⟨#[115, 116]⟩ then ⟨#[115, 116, 114, 101, 101, 116]⟩ else if w = ⟨#[114, 100]⟩ then ⟨#[114, 111, 97, 100]⟩ else if w = ⟨#[108, 110]⟩ then ⟨#[108, 97, 110, 101]⟩
  else if w = ⟨#[110]⟩ ∨ w = ⟨#[110, 116, 104]⟩ then ⟨#[110, 111, 114, 116, 104]⟩ else if w = ⟨#[115]⟩ then ⟨#[115, 111, 117, 116, 104]⟩ else w
def strW (W : List Int) : ByteArray := ⟨(W.map (fun n => UInt8.ofNat n.toNat)).toArray⟩
theorem strW_size (W : List Int) : (strW W).size = W.length := by simp [strW, ByteArray.size]
theorem strW_app (V W : List Int) : strW V ++ strW W = strW (V ++ W) := by
  apply ByteArray.ext
  rw [ByteArray.data_append]
  simp [strW]
theorem strW_nil (W : List Int) : strW W = ⟨#[]⟩ ↔ W = [] := by
  constructor
  · intro h
    have := congrArg ByteArray.size h
    rw [strW_size] at this
    exact List.length_eq_zero_iff.1 (by simpa [ByteArray.size] using this)
  · rintro rfl; rfl
theorem enc_W {c : Int} (h0 : 0 ≤ c) (h1 : c < 128) : Utf8.encode c = strW [c] := by
  have hv : Utf8.valid c = true := by simp [Utf8.valid]; omega
  unfold Utf8.encode
  simp only [hv, if_true]
  rw [if_pos (by omega)]
  simp [strW]
def pB (c : Int) : List PV := [.int .u8 c]
theorem nlB (L i) : Nl (lpv pB L i) := Nl_lpv (fun x => by simp [pB, Nl_nil, Nl_cons, PV.nl])
theorem nlB' (L i) : Nl (lpv pB L i) ↔ True := iff_true_intro (nlB L i)
theorem pB_at {W : List Int} {i : Nat} (h : i < W.length) : lpv pB W i = [.int .u8 W[i]] := lpv_at h
theorem bytes_W (W : List Int) : bytesG W.length (fun i => lpv pB W i) = strW W := by
  unfold bytesG strW
  congr 2
  apply List.ext_getElem
  · simp
  · intro i h1 h2
    have hi : i < W.length := by simpa using h2
    simp [pB_at hi, byteAt]
theorem wr8 {n : Int} (h0 : 0 ≤ n) (h1 : n ≤ 255) : IntKind.u8.wrap n = n := by simp [IntKind.wrap, IntKind.bits, IntKind.signed]; omega
theorem wr32 {n : Int} (h0 : 0 ≤ n) (h1 : n ≤ 255) : IntKind.i32.wrap n = n := by simp [IntKind.wrap, IntKind.bits, IntKind.signed]; omega
theorem bt_in (s : ByteArray) (i : Int) : 0 ≤ bt s i ∧ bt s i ≤ 255 := by
  unfold bt; split
  · have := UInt8.toNat_lt (s[i.toNat]'(by assumption)); omega
  · omega
def lowB (c : Int) : Int := if 65 ≤ c ∧ c ≤ 90 then c + 32 else c
def isW (c : Int) : Bool := decide ((97 ≤ c ∧ c ≤ 122) ∨ (48 ≤ c ∧ c ≤ 57))
def endW (W : List Int) (out : List ByteArray) : List ByteArray := if W = [] then out else out ++ [canon (strW W)]
def stepW (p : List Int × List ByteArray) (c : Int) : List Int × List ByteArray := if isW (lowB c) = true then (p.1 ++ [lowB c], p.2) else ([], endW p.1 p.2)
def wTo (s : ByteArray) : Nat → List Int × List ByteArray
  | 0 => ([], [])
  | i + 1 => stepW (wTo s i) (bt s i)
def wordsOf (s : ByteArray) : List ByteArray := if s.size ≤ 100 then endW (wTo s s.size).1 (wTo s s.size).2 else []
theorem wTo_len (s : ByteArray) : ∀ i, (wTo s i).1.length ≤ i ∧ (wTo s i).2.length ≤ i
  | 0 => ⟨Nat.le_refl _, Nat.le_refl _⟩
  | i + 1 => by
    have := wTo_len s i
    simp only [wTo, stepW, endW]
    split
    · simp; omega
    · split <;> simp <;> omega
theorem wTo_b (s : ByteArray) : ∀ i, ∀ c ∈ (wTo s i).1, 0 ≤ c ∧ c < 128
  | 0, c, h => by simp [wTo] at h
  | i + 1, c, h => by
    simp only [wTo, stepW] at h
    split at h
    · rename_i hw
      rcases List.mem_append.1 h with h | h
      · exact wTo_b s i c h
      · simp only [List.mem_singleton] at h
        simp only [isW, decide_eq_true_eq] at hw
        omega
    · simp at h
theorem endW_len (W : List Int) (out : List ByteArray) : (endW W out).length ≤ out.length + 1 := by unfold endW; split <;> simp
set_option maxHeartbeats 1000000 in
theorem cs_Word (w : ByteArray) (hw : w.size ≤ 1048576) : AC Try.prog 117 [.str w] (ML []) (.str (canon w)) (ML []) := by
  refine AC.of Try.func117 rfl rfl (by simp [Try.ntmps117]) rfl (fun C hC hm => ?_)
  rw [Try.ntmps117] at hC
  have hn : C.m0.nx = _ := congrArg Mem.nx hm
  simp only [ML_nx, List.length_nil, List.length_cons, Nat.zero_add, Nat.reduceAdd] at hn
  by_cases q1 : w = ⟨#[115, 116]⟩
  · have hc : canon w = ⟨#[115, 116, 114, 101, 101, 116]⟩ := by unfold canon; rw [if_pos q1]
    have k1 := decide_eq_true q1
    simp only [hC, k1, VS, VZ, TY, openC, foldC, foldN, PF, pick_or, pick_and, aop, aopD, rdN, wrN, idL, idA, apure, AS.ev, startA, strip, abin, aint, astr, alen, aslice, optI, aconv, aconvM, gdv, AS.put, ofVal, pcells, ld, ldo, nOw, PV.isOw, gtmp, within, astore, splice, afill, allCells, okIdx, asrc, aflat, aappend, hintOk, PV.clo, PV.clo1, ofL_n, ofL_c, nams, reO, reP, reA, reC, srcI, setG, obG, List.cons.injEq, aeq1, aeqs, onG, Int.reduceLE, Int.reduceNeg, Int.reduceLT, Nat.reduceEqDiff, ↓reduceIte, Nat.reduceLT, Nat.reduceLeDiff, Nat.reduceAdd, Nat.reduceMul, Nat.reduceSub, reduceCtorEq, Int.reduceEq]
    exact Ret_go [] (by simp [hc, obsT, obT, okO, okP, okA, okC, okD, okI, reP, reA, reC, srcI, Nl_nil, Nl_cons, PV.nl, upd_at, ofL_n, ofL_c, VS, argsT, lendA, lendL, lendT, Cvl_nil, Cvl_cons, Cv_bool, Cv_int, Cv_str, Cv_nils, Cv_nilc, Cv_cl, Cv_ow, noFn, PV.noF, NR_iff, NRO, hb, ares, ares1, ldo, ld, nOw, PV.isOw, TY]) tS tS
  have k1 := decide_eq_false q1
  by_cases q2 : w = ⟨#[114, 100]⟩
  · have hc : canon w = ⟨#[114, 111, 97, 100]⟩ := by unfold canon; rw [if_neg q1, if_pos q2]
    have k2_ := decide_eq_true q2
    simp only [hC, k1, k2_, VS, VZ, TY, openC, foldC, foldN, PF, pick_or, pick_and, aop, aopD, rdN, wrN, idL, idA, apure, AS.ev, startA, strip, abin, aint, astr, alen, aslice, optI, aconv, aconvM, gdv, AS.put, ofVal, pcells, ld, ldo, nOw, PV.isOw, gtmp, within, astore, splice, afill, allCells, okIdx, asrc, aflat, aappend, hintOk, PV.clo, PV.clo1, ofL_n, ofL_c, nams, reO, reP, reA, reC, srcI, setG, obG, List.cons.injEq, aeq1, aeqs, onG, Int.reduceLE, Int.reduceNeg, Int.reduceLT, Nat.reduceEqDiff, ↓reduceIte, Nat.reduceLT, Nat.reduceLeDiff, Nat.reduceAdd, Nat.reduceMul, Nat.reduceSub, reduceCtorEq, Int.reduceEq]
    exact Ret_go [] (by simp [hc, obsT, obT, okO, okP, okA, okC, okD, okI, reP, reA, reC, srcI, Nl_nil, Nl_cons, PV.nl, upd_at, ofL_n, ofL_c, VS, argsT, lendA, lendL, lendT, Cvl_nil, Cvl_cons, Cv_bool, Cv_int, Cv_str, Cv_nils, Cv_nilc, Cv_cl, Cv_ow, noFn, PV.noF, NR_iff, NRO, hb, ares, ares1, ldo, ld, nOw, PV.isOw, TY]) tS tS
  have k2_ := decide_eq_false q2
  by_cases q3 : w = ⟨#[108, 110]⟩
  · have hc : canon w = ⟨#[108, 97, 110, 101]⟩ := by unfold canon; rw [if_neg q1, if_neg q2, if_pos q3]
    have k3 := decide_eq_true q3
    simp only [hC, k1, k2_, k3, VS, VZ, TY, openC, foldC, foldN, PF, pick_or, pick_and, aop, aopD, rdN, wrN, idL, idA, apure, AS.ev, startA, strip, abin, aint, astr, alen, aslice, optI, aconv, aconvM, gdv, AS.put, ofVal, pcells, ld, ldo, nOw, PV.isOw, gtmp, within, astore, splice, afill, allCells, okIdx, asrc, aflat, aappend, hintOk, PV.clo, PV.clo1, ofL_n, ofL_c, nams, reO, reP, reA, reC, srcI, setG, obG, List.cons.injEq, aeq1, aeqs, onG, Int.reduceLE, Int.reduceNeg, Int.reduceLT, Nat.reduceEqDiff, ↓reduceIte, Nat.reduceLT, Nat.reduceLeDiff, Nat.reduceAdd, Nat.reduceMul, Nat.reduceSub, reduceCtorEq, Int.reduceEq]
    exact Ret_go [] (by simp [hc, obsT, obT, okO, okP, okA, okC, okD, okI, reP, reA, reC, srcI, Nl_nil, Nl_cons, PV.nl, upd_at, ofL_n, ofL_c, VS, argsT, lendA, lendL, lendT, Cvl_nil, Cvl_cons, Cv_bool, Cv_int, Cv_str, Cv_nils, Cv_nilc, Cv_cl, Cv_ow, noFn, PV.noF, NR_iff, NRO, hb, ares, ares1, ldo, ld, nOw, PV.isOw, TY]) tS tS
  have k3 := decide_eq_false q3
  by_cases q4 : w = ⟨#[110]⟩ ∨ w = ⟨#[110, 116, 104]⟩
  · have hc : canon w = ⟨#[110, 111, 114, 116, 104]⟩ := by unfold canon; rw [if_neg q1, if_neg q2, if_neg q3, if_pos q4]
    by_cases q5 : w = ⟨#[110]⟩
    · have k4 := decide_eq_true q5
      simp only [hC, k1, k2_, k3, k4, VS, VZ, TY, openC, foldC, foldN, PF, pick_or, pick_and, aop, aopD, rdN, wrN, idL, idA, apure, AS.ev, startA, strip, abin, aint, astr, alen, aslice, optI, aconv, aconvM, gdv, AS.put, ofVal, pcells, ld, ldo, nOw, PV.isOw, gtmp, within, astore, splice, afill, allCells, okIdx, asrc, aflat, aappend, hintOk, PV.clo, PV.clo1, ofL_n, ofL_c, nams, reO, reP, reA, reC, srcI, setG, obG, List.cons.injEq, aeq1, aeqs, onG, Int.reduceLE, Int.reduceNeg, Int.reduceLT, Nat.reduceEqDiff, ↓reduceIte, Nat.reduceLT, Nat.reduceLeDiff, Nat.reduceAdd, Nat.reduceMul, Nat.reduceSub, reduceCtorEq, Int.reduceEq]
      exact Ret_go [] (by simp [hc, obsT, obT, okO, okP, okA, okC, okD, okI, reP, reA, reC, srcI, Nl_nil, Nl_cons, PV.nl, upd_at, ofL_n, ofL_c, VS, argsT, lendA, lendL, lendT, Cvl_nil, Cvl_cons, Cv_bool, Cv_int, Cv_str, Cv_nils, Cv_nilc, Cv_cl, Cv_ow, noFn, PV.noF, NR_iff, NRO, hb, ares, ares1, ldo, ld, nOw, PV.isOw, TY]) tS tS
    · have k4 := decide_eq_false q5
      have k5 := decide_eq_true (q4.resolve_left q5)
      simp only [hC, k1, k2_, k3, k4, k5, VS, VZ, TY, openC, foldC, foldN, PF, pick_or, pick_and, aop, aopD, rdN, wrN, idL, idA, apure, AS.ev, startA, strip, abin, aint, astr, alen, aslice, optI, aconv, aconvM, gdv, AS.put, ofVal, pcells, ld, ldo, nOw, PV.isOw, gtmp, within, astore, splice, afill, allCells, okIdx, asrc, aflat, aappend, hintOk, PV.clo, PV.clo1, ofL_n, ofL_c, nams, reO, reP, reA, reC, srcI, setG, obG, List.cons.injEq, aeq1, aeqs, onG, Int.reduceLE, Int.reduceNeg, Int.reduceLT, Nat.reduceEqDiff, ↓reduceIte, Nat.reduceLT, Nat.reduceLeDiff, Nat.reduceAdd, Nat.reduceMul, Nat.reduceSub, reduceCtorEq, Int.reduceEq]
      exact Ret_go [] (by simp [hc, obsT, obT, okO, okP, okA, okC, okD, okI, reP, reA, reC, srcI, Nl_nil, Nl_cons, PV.nl, upd_at, ofL_n, ofL_c, VS, argsT, lendA, lendL, lendT, Cvl_nil, Cvl_cons, Cv_bool, Cv_int, Cv_str, Cv_nils, Cv_nilc, Cv_cl, Cv_ow, noFn, PV.noF, NR_iff, NRO, hb, ares, ares1, ldo, ld, nOw, PV.isOw, TY]) tS tS
  have k4 := decide_eq_false (fun q => q4 (.inl q))
  have k5 := decide_eq_false (fun q => q4 (.inr q))
  by_cases q6 : w = ⟨#[115]⟩
  · have hc : canon w = ⟨#[115, 111, 117, 116, 104]⟩ := by unfold canon; rw [if_neg q1, if_neg q2, if_neg q3, if_neg q4, if_pos q6]
    have k6 := decide_eq_true q6
    simp only [hC, k1, k2_, k3, k4, k5, k6, VS, VZ, TY, openC, foldC, foldN, PF, pick_or, pick_and, aop, aopD, rdN, wrN, idL, idA, apure, AS.ev, startA, strip, abin, aint, astr, alen, aslice, optI, aconv, aconvM, gdv, AS.put, ofVal, pcells, ld, ldo, nOw, PV.isOw, gtmp, within, astore, splice, afill, allCells, okIdx, asrc, aflat, aappend, hintOk, PV.clo, PV.clo1, ofL_n, ofL_c, nams, reO, reP, reA, reC, srcI, setG, obG, List.cons.injEq, aeq1, aeqs, onG, Int.reduceLE, Int.reduceNeg, Int.reduceLT, Nat.reduceEqDiff, ↓reduceIte, Nat.reduceLT, Nat.reduceLeDiff, Nat.reduceAdd, Nat.reduceMul, Nat.reduceSub, reduceCtorEq, Int.reduceEq]
    exact Ret_go [] (by simp [hc, obsT, obT, okO, okP, okA, okC, okD, okI, reP, reA, reC, srcI, Nl_nil, Nl_cons, PV.nl, upd_at, ofL_n, ofL_c, VS, argsT, lendA, lendL, lendT, Cvl_nil, Cvl_cons, Cv_bool, Cv_int, Cv_str, Cv_nils, Cv_nilc, Cv_cl, Cv_ow, noFn, PV.noF, NR_iff, NRO, hb, ares, ares1, ldo, ld, nOw, PV.isOw, TY]) tS tS
  · have hc : canon w = w := by unfold canon; rw [if_neg q1, if_neg q2, if_neg q3, if_neg q4, if_neg q6]
    have k6 := decide_eq_false q6
    simp only [hC, k1, k2_, k3, k4, k5, k6, VS, VZ, TY, openC, foldC, foldN, PF, pick_or, pick_and, aop, aopD, rdN, wrN, idL, idA, apure, AS.ev, startA, strip, abin, aint, astr, alen, aslice, optI, aconv, aconvM, gdv, AS.put, ofVal, pcells, ld, ldo, nOw, PV.isOw, gtmp, within, astore, splice, afill, allCells, okIdx, asrc, aflat, aappend, hintOk, PV.clo, PV.clo1, ofL_n, ofL_c, nams, reO, reP, reA, reC, srcI, setG, obG, List.cons.injEq, aeq1, aeqs, onG, Int.reduceLE, Int.reduceNeg, Int.reduceLT, Nat.reduceEqDiff, ↓reduceIte, Nat.reduceLT, Nat.reduceLeDiff, Nat.reduceAdd, Nat.reduceMul, Nat.reduceSub, reduceCtorEq, Int.reduceEq]
    exact Ret_go [] (by simp [hc, obsT, obT, okO, okP, okA, okC, okD, okI, reP, reA, reC, srcI, Nl_nil, Nl_cons, PV.nl, upd_at, ofL_n, ofL_c, VS, argsT, lendA, lendL, lendT, Cvl_nil, Cvl_cons, Cv_bool, Cv_int, Cv_str, Cv_nils, Cv_nilc, Cv_cl, Cv_ow, noFn, PV.noF, NR_iff, NRO, hb, ares, ares1, ldo, ld, nOw, PV.isOw, TY]) tS tS
end Go.Proofs.Ytmmlpehfieojdaa.Wd
namespace Go.Proofs.Ytmmlpehfieojdaa.Wd
open Go Go.RowKit Go.Proofs Go.Proofs.YtmmlpehfieojdaaW.AW
set_option linter.unusedVariables false
set_option linter.unusedSimpArgs false
set_option maxRecDepth 100000
--VCX TY4
theorem TY4 : (tyD Try.prog 21 = ⟨TK.int IntKind.i32, 1, [], [PV.int IntKind.i32 0], true, 0, 0, false, [], PV.int IntKind.i32 0, true, false, []⟩ ∧ tk Try.prog 21 = TK.int IntKind.i32 ∧ (tkU8 Try.prog 21 ↔ False)) ∧
    (tyD Try.prog 5 = ⟨TK.int IntKind.u8, 1, [], [PV.int IntKind.u8 0], true, 0, 0, false, [], PV.int IntKind.u8 0, true, false, []⟩ ∧ tk Try.prog 5 = TK.int IntKind.u8 ∧ (tkU8 Try.prog 5 ↔ False)) ∧
    (tyD Try.prog 22 = ⟨TK.slice 5, 1, [], [PV.nils], true, 1, 1, true, [PV.int IntKind.u8 0], PV.nils, true, false, []⟩ ∧ tk Try.prog 22 = TK.slice 5 ∧ ((∃ e', Try.prog.underlying 22 = some (.slice e')) ↔ True) ∧ (tkU8 Try.prog 22 ↔ True)) :=
  ⟨⟨by kernel_rfl, by kernel_rfl, ⟨fun h => absurd h (by decide +kernel), fun h => h.elim⟩⟩,
    ⟨by kernel_rfl, by kernel_rfl, ⟨fun h => absurd h (by decide +kernel), fun h => h.elim⟩⟩,
    ⟨by kernel_rfl, by kernel_rfl, ⟨fun _ => trivial, fun _ => ⟨5, by kernel_rfl⟩⟩, ⟨fun _ => trivial, fun _ => by unfold tkU8; rw [show tk Try.prog 22 = TK.slice 5 from by kernel_rfl]; exact (by kernel_rfl : tk Try.prog 5 = TK.int IntKind.u8)⟩⟩⟩
set_option maxHeartbeats 4000000 in
theorem cs_WordsOf (s : ByteArray) (hs : s.size ≤ 9223372036854775807) : AC Try.prog 65 [.str s] (ML []) (.sl [0] 1 (wordsOf s).length 0 (wordsOf s).length) (ML [.row 1 (wordsOf s).length (lpv pString (wordsOf s))]) := by
  refine AC.of Try.func65 rfl rfl (by simp [Try.ntmps65]) rfl (fun C hC hm => ?_)
  rw [Try.ntmps65] at hC
  have hn : C.m0.nx = _ := congrArg Mem.nx hm
  simp only [ML_nx, List.length_nil, List.length_cons, Nat.zero_add, Nat.reduceAdd] at hn
  simp only [hC, VS, VZ, TY, openC, foldC, foldN, PF, pick_or, pick_and, aop, aopD, rdN, wrN, idL, idA, apure, AS.ev, startA, strip, abin, aint, astr, alen, aslice, optI, aconv, aconvM, gdv, AS.put, ofVal, pcells, ld, ldo, nOw, PV.isOw, gtmp, within, astore, splice, afill, allCells, okIdx, asrc, aflat, aappend, hintOk, PV.clo, PV.clo1, ofL_n, ofL_c, nams, reO, reP, reA, reC, srcI, setG, obG, List.cons.injEq, aeq1, aeqs, onG, Int.reduceLE, Int.reduceNeg, Int.reduceLT, Nat.reduceEqDiff, ↓reduceIte, Nat.reduceLT, Nat.reduceLeDiff, Nat.reduceAdd, Nat.reduceMul, Nat.reduceSub, reduceCtorEq, Int.reduceEq, TY4]
  by_cases hz : s.size ≤ 100
  case neg =>
    have hw : wordsOf s = [] := by unfold wordsOf; rw [if_neg hz]
    rw [hw]
    refine AL.go (X := Unit) (fun _ => ⟨ofL [(0, .str s), (3, .sl [0] 1 0 0 0), (5, .int .i64 0)], ML [.row 1 0 (lpv pString [])]⟩) (fun _ => 0) (fun _ => True) () trivial
      (Told_go hn [[0]] (by simp [obsT, obT, okO, okP, okA, okC, okD, okI, reP, reA, reC, srcI, Nl_nil, Nl_cons, PV.nl, upd_at, ofL_n, ofL_c, VS, argsT, lendA, lendL, lendT, Cvl_nil, Cvl_cons, Cv_bool, Cv_int, Cv_str, Cv_nils, Cv_nilc, Cv_cl, Cv_ow, noFn, PV.noF, NR_iff, NRO, hb, ares, ares1, ldo, ld, nOw, PV.isOw, TY, TY4]) (by simp [obsT, obT, okO, okP, okA, okC, okD, okI, reP, reA, reC, srcI, Nl_nil, Nl_cons, PV.nl, upd_at, ofL_n, ofL_c, VS, argsT, lendA, lendL, lendT, Cvl_nil, Cvl_cons, Cv_bool, Cv_int, Cv_str, Cv_nils, Cv_nilc, Cv_cl, Cv_ow, noFn, PV.noF, NR_iff, NRO, hb, ares, ares1, ldo, ld, nOw, PV.isOw, TY, TY4]) (by simp [obsT, obT, okO, okP, okA, okC, okD, okI, reP, reA, reC, srcI, Nl_nil, Nl_cons, PV.nl, upd_at, ofL_n, ofL_c, VS, argsT, lendA, lendL, lendT, Cvl_nil, Cvl_cons, Cv_bool, Cv_int, Cv_str, Cv_nils, Cv_nilc, Cv_cl, Cv_ow, noFn, PV.noF, NR_iff, NRO, hb, ares, ares1, ldo, ld, nOw, PV.isOw, TY, TY4])) (fun _ _ => vc_ok _ _ _ ?_)
    have k1 : decide ((s.size : Int) ≤ 100) = false := decide_eq_false (by omega)
    simp only [hC, k1, VS, VZ, TY, openC, foldC, foldN, PF, pick_or, pick_and, aop, aopD, rdN, wrN, idL, idA, apure, AS.ev, startA, strip, abin, aint, astr, alen, aslice, optI, aconv, aconvM, gdv, AS.put, ofVal, pcells, ld, ldo, nOw, PV.isOw, gtmp, within, astore, splice, afill, allCells, okIdx, asrc, aflat, aappend, hintOk, PV.clo, PV.clo1, ofL_n, ofL_c, nams, reO, reP, reA, reC, srcI, setG, obG, List.cons.injEq, aeq1, aeqs, onG, Int.reduceLE, Int.reduceNeg, Int.reduceLT, Nat.reduceEqDiff, ↓reduceIte, Nat.reduceLT, Nat.reduceLeDiff, Nat.reduceAdd, Nat.reduceMul, Nat.reduceSub, reduceCtorEq, Int.reduceEq, TY4]
    refine ⟨fun h => by simp at h, fun _ => ?_⟩
    exact Ret_go [[0]] (by simp [obsT, obT, okO, okP, okA, okC, okD, okI, reP, reA, reC, srcI, Nl_nil, Nl_cons, PV.nl, upd_at, ofL_n, ofL_c, VS, argsT, lendA, lendL, lendT, Cvl_nil, Cvl_cons, Cv_bool, Cv_int, Cv_str, Cv_nils, Cv_nilc, Cv_cl, Cv_ow, noFn, PV.noF, NR_iff, NRO, hb, ares, ares1, ldo, ld, nOw, PV.isOw, TY, TY4]) (by simp [obsT, obT, okO, okP, okA, okC, okD, okI, reP, reA, reC, srcI, Nl_nil, Nl_cons, PV.nl, upd_at, ofL_n, ofL_c, VS, argsT, lendA, lendL, lendT, Cvl_nil, Cvl_cons, Cv_bool, Cv_int, Cv_str, Cv_nils, Cv_nilc, Cv_cl, Cv_ow, noFn, PV.noF, NR_iff, NRO, hb, ares, ares1, ldo, ld, nOw, PV.isOw, TY, TY4]) (by simp [obsT, obT, okO, okP, okA, okC, okD, okI, reP, reA, reC, srcI, Nl_nil, Nl_cons, PV.nl, upd_at, ofL_n, ofL_c, VS, argsT, lendA, lendL, lendT, Cvl_nil, Cvl_cons, Cv_bool, Cv_int, Cv_str, Cv_nils, Cv_nilc, Cv_cl, Cv_ow, noFn, PV.noF, NR_iff, NRO, hb, ares, ares1, ldo, ld, nOw, PV.isOw, TY, TY4])
  case pos =>
  refine AL.go (X := Nat × (List Int × List ByteArray)) (fun x => ⟨ofL [(0, .str s), (3, .sl [0] 1 x.2.2.length 0 x.2.2.length), (4, .sl [1] 1 x.2.1.length 0 x.2.1.length), (5, .int .i64 (x.1 : Int))], ML [.row 1 x.2.2.length (lpv pString x.2.2), .row 1 x.2.1.length (lpv pB x.2.1)]⟩) (fun x => s.size + 1 - x.1) (fun x => (x.1 ≤ s.size ∧ x.2 = wTo s x.1) ∨ (x.1 = s.size + 1 ∧ x.2 = ([], wordsOf s))) (0, ([], [])) (.inl ⟨by simp, rfl⟩)
    (Told_go hn [[0], [1]] (by simp [obsT, obT, okO, okP, okA, okC, okD, okI, reP, reA, reC, srcI, Nl_nil, Nl_cons, PV.nl, upd_at, ofL_n, ofL_c, VS, argsT, lendA, lendL, lendT, Cvl_nil, Cvl_cons, Cv_bool, Cv_int, Cv_str, Cv_nils, Cv_nilc, Cv_cl, Cv_ow, noFn, PV.noF, NR_iff, NRO, hb, ares, ares1, ldo, ld, nOw, PV.isOw, TY, TY4]) (by simp [nl_String, nlB', obsT, obT, okO, okP, okA, okC, okD, okI, reP, reA, reC, srcI, Nl_nil, Nl_cons, PV.nl, upd_at, ofL_n, ofL_c, VS, argsT, lendA, lendL, lendT, Cvl_nil, Cvl_cons, Cv_bool, Cv_int, Cv_str, Cv_nils, Cv_nilc, Cv_cl, Cv_ow, noFn, PV.noF, NR_iff, NRO, hb, ares, ares1, ldo, ld, nOw, PV.isOw, TY, TY4]) (by simp [nl_String, nlB', obsT, obT, okO, okP, okA, okC, okD, okI, reP, reA, reC, srcI, Nl_nil, Nl_cons, PV.nl, upd_at, ofL_n, ofL_c, VS, argsT, lendA, lendL, lendT, Cvl_nil, Cvl_cons, Cv_bool, Cv_int, Cv_str, Cv_nils, Cv_nilc, Cv_cl, Cv_ow, noFn, PV.noF, NR_iff, NRO, hb, ares, ares1, ldo, ld, nOw, PV.isOw, TY, TY4])) (fun x hx => ?_)
  obtain ⟨i, W, out⟩ := x
  simp only at hx ⊢
  refine AW_cut ?_
  have k1 : decide ((s.size : Int) ≤ 100) = true := decide_eq_true (by omega)
  simp only [hC, k1, VS, VZ, TY, openC, foldC, foldN, PF, pick_or, pick_and, aop, aopD, rdN, wrN, idL, idA, apure, AS.ev, startA, strip, abin, aint, astr, alen, aslice, optI, aconv, aconvM, gdv, AS.put, ofVal, pcells, ld, ldo, nOw, PV.isOw, gtmp, within, astore, splice, afill, allCells, okIdx, asrc, aflat, aappend, hintOk, PV.clo, PV.clo1, ofL_n, ofL_c, nams, reO, reP, reA, reC, srcI, setG, obG, List.cons.injEq, aeq1, aeqs, onG, Int.reduceLE, Int.reduceNeg, Int.reduceLT, Nat.reduceEqDiff, ↓reduceIte, Nat.reduceLT, Nat.reduceLeDiff, Nat.reduceAdd, Nat.reduceMul, Nat.reduceSub, reduceCtorEq, Int.reduceEq, TY4]
  rcases hx with ⟨hi, hp⟩ | ⟨hi, hp⟩
  · refine ⟨fun h => ?_, fun h => by simp at h; omega⟩
    clear h
    have hlen := wTo_len s i
    have hbnd := wTo_b s i
    rw [← hp] at hlen hbnd
    simp only at hlen hbnd
    refine vc_ok _ _ _ ?_
    by_cases hi2 : i < s.size
    · have kd : decide ((i : Int) < (s.size : Int)) = true := by simpa using hi2
      have hst : wTo s (i + 1) = stepW (W, out) (bt s i) := by rw [wTo, ← hp]
      have hbt := bt_in s i
      have w3 : IntKind.i64.wrap ((i : Int) + 1) = (i : Int) + 1 := wr64 (by omega) (by omega)
      simp only [hC, kd, w3, VS, VZ, TY, openC, foldC, foldN, PF, pick_or, pick_and, aop, aopD, rdN, wrN, idL, idA, apure, AS.ev, startA, strip, abin, aint, astr, alen, aslice, optI, aconv, aconvM, gdv, AS.put, ofVal, pcells, ld, ldo, nOw, PV.isOw, gtmp, within, astore, splice, afill, allCells, okIdx, asrc, aflat, aappend, hintOk, PV.clo, PV.clo1, ofL_n, ofL_c, nams, reO, reP, reA, reC, srcI, setG, obG, List.cons.injEq, aeq1, aeqs, onG, Int.reduceLE, Int.reduceNeg, Int.reduceLT, Nat.reduceEqDiff, ↓reduceIte, Nat.reduceLT, Nat.reduceLeDiff, Nat.reduceAdd, Nat.reduceMul, Nat.reduceSub, reduceCtorEq, Int.reduceEq, TY4]
      refine ⟨by omega, fun h3 => ?_, fun h3 => ?_⟩
      · have h3 : 65 ≤ bt s i ∧ bt s i ≤ 90 := by simpa using h3
        have wu : IntKind.u8.wrap (bt s i + 32) = bt s i + 32 := wr8 (by omega) (by omega)
        have hl : lowB (bt s i) = bt s i + 32 := by unfold lowB; rw [if_pos h3]
        have hisw : isW (bt s i + 32) = true := by simp [isW]; omega
        rw [stepW, hl, if_pos hisw] at hst
        rw [wu]
        refine ⟨fun _ => ?_, fun h4 => by simp at h4; omega⟩
        repeat first | (refine And.intro (by kernel_rfl) ?_) | (refine And.intro (by omega) ?_) | (refine And.intro (fun j hj => (by obtain rfl : j = 0 := (by omega); simp)) ?_) | fail
        refine ⟨(i + 1, (W ++ [bt s i + 32], out)), .inl ⟨by simp only; omega, by simp only; rw [hst]⟩, by simp only; omega, ?_⟩
        refine Told_go hn [[0], [3]] (by simp [obsT, obT, okO, okP, okA, okC, okD, okI, reP, reA, reC, srcI, Nl_nil, Nl_cons, PV.nl, upd_at, ofL_n, ofL_c, VS, argsT, lendA, lendL, lendT, Cvl_nil, Cvl_cons, Cv_bool, Cv_int, Cv_str, Cv_nils, Cv_nilc, Cv_cl, Cv_ow, noFn, PV.noF, NR_iff, NRO, hb, ares, ares1, ldo, ld, nOw, PV.isOw, TY, TY4]) ?_ (by simp [nl_String, nlB', obsT, obT, okO, okP, okA, okC, okD, okI, reP, reA, reC, srcI, Nl_nil, Nl_cons, PV.nl, upd_at, ofL_n, ofL_c, VS, argsT, lendA, lendL, lendT, Cvl_nil, Cvl_cons, Cv_bool, Cv_int, Cv_str, Cv_nils, Cv_nilc, Cv_cl, Cv_ow, noFn, PV.noF, NR_iff, NRO, hb, ares, ares1, ldo, ld, nOw, PV.isOw, TY, TY4])
        simp [nl_String, nlB', obsT, obT, okO, okP, okA, okC, okD, okI, reP, reA, reC, srcI, Nl_nil, Nl_cons, PV.nl, upd_at, ofL_n, ofL_c, VS, argsT, lendA, lendL, lendT, Cvl_nil, Cvl_cons, Cv_bool, Cv_int, Cv_str, Cv_nils, Cv_nilc, Cv_cl, Cv_ow, noFn, PV.noF, NR_iff, NRO, hb, ares, ares1, ldo, ld, nOw, PV.isOw, TY, TY4]
        intro j hj
        by_cases q : j = W.length
        · subst q; rw [lpv_new]; simp [pB]
        · rw [lpv_old (by omega)]; simp [show j < W.length by omega]
      · have h3 : ¬ (65 ≤ bt s i ∧ bt s i ≤ 90) := by simp at h3; omega
        have hl : lowB (bt s i) = bt s i := by unfold lowB; rw [if_neg h3]
        refine ⟨fun h4 => ?_, fun h4 => ?_⟩
        · have hisw : isW (bt s i) = true := by simp [isW]; simp at h4; omega
          rw [stepW, hl, if_pos hisw] at hst
          repeat first | (refine And.intro (by kernel_rfl) ?_) | (refine And.intro (by omega) ?_) | (refine And.intro (fun j hj => (by obtain rfl : j = 0 := (by omega); simp)) ?_) | fail
          refine ⟨(i + 1, (W ++ [bt s i], out)), .inl ⟨by simp only; omega, by simp only; rw [hst]⟩, by simp only; omega, ?_⟩
          refine Told_go hn [[0], [3]] (by simp [obsT, obT, okO, okP, okA, okC, okD, okI, reP, reA, reC, srcI, Nl_nil, Nl_cons, PV.nl, upd_at, ofL_n, ofL_c, VS, argsT, lendA, lendL, lendT, Cvl_nil, Cvl_cons, Cv_bool, Cv_int, Cv_str, Cv_nils, Cv_nilc, Cv_cl, Cv_ow, noFn, PV.noF, NR_iff, NRO, hb, ares, ares1, ldo, ld, nOw, PV.isOw, TY, TY4]) ?_ (by simp [nl_String, nlB', obsT, obT, okO, okP, okA, okC, okD, okI, reP, reA, reC, srcI, Nl_nil, Nl_cons, PV.nl, upd_at, ofL_n, ofL_c, VS, argsT, lendA, lendL, lendT, Cvl_nil, Cvl_cons, Cv_bool, Cv_int, Cv_str, Cv_nils, Cv_nilc, Cv_cl, Cv_ow, noFn, PV.noF, NR_iff, NRO, hb, ares, ares1, ldo, ld, nOw, PV.isOw, TY, TY4])
          simp [nl_String, nlB', obsT, obT, okO, okP, okA, okC, okD, okI, reP, reA, reC, srcI, Nl_nil, Nl_cons, PV.nl, upd_at, ofL_n, ofL_c, VS, argsT, lendA, lendL, lendT, Cvl_nil, Cvl_cons, Cv_bool, Cv_int, Cv_str, Cv_nils, Cv_nilc, Cv_cl, Cv_ow, noFn, PV.noF, NR_iff, NRO, hb, ares, ares1, ldo, ld, nOw, PV.isOw, TY, TY4]
          intro j hj
          by_cases q : j = W.length
          · subst q; rw [lpv_new]; simp [pB]
          · rw [lpv_old (by omega)]; simp [show j < W.length by omega]
        · have hisw : isW (bt s i) = false := by simp [isW]; simp at h4; omega
          rw [stepW, hl, hisw, if_neg (by simp)] at hst
          refine ⟨fun h2 => ?_, fun h2 => ?_⟩
          · have hne : W ≠ [] := by rintro rfl; simp at h2
            refine ⟨fun i hi => ⟨_, pB_at hi⟩, ?_⟩
            rw [bytes_W]
            refine acall_p false (cs_Word (strW W) (by rw [strW_size]; omega)) (by simp [obsT, obT, okO, okP, okA, okC, okD, okI, reP, reA, reC, srcI, Nl_nil, Nl_cons, PV.nl, upd_at, ofL_n, ofL_c, VS, argsT, lendA, lendL, lendT, Cvl_nil, Cvl_cons, Cv_bool, Cv_int, Cv_str, Cv_nils, Cv_nilc, Cv_cl, Cv_ow, noFn, PV.noF, NR_iff, NRO, hb, ares, ares1, ldo, ld, nOw, PV.isOw, TY, TY4]) (by simp [obsT, obT, okO, okP, okA, okC, okD, okI, reP, reA, reC, srcI, Nl_nil, Nl_cons, PV.nl, upd_at, ofL_n, ofL_c, VS, argsT, lendA, lendL, lendT, Cvl_nil, Cvl_cons, Cv_bool, Cv_int, Cv_str, Cv_nils, Cv_nilc, Cv_cl, Cv_ow, noFn, PV.noF, NR_iff, NRO, hb, ares, ares1, ldo, ld, nOw, PV.isOw, TY, TY4]) (.inl rfl) ?_
            simp only [hC, w3, VS, VZ, TY, openC, foldC, foldN, PF, pick_or, pick_and, aop, aopD, rdN, wrN, idL, idA, apure, AS.ev, startA, strip, abin, aint, astr, alen, aslice, optI, aconv, aconvM, gdv, AS.put, ofVal, pcells, ld, ldo, nOw, PV.isOw, gtmp, within, astore, splice, afill, allCells, okIdx, asrc, aflat, aappend, hintOk, PV.clo, PV.clo1, ofL_n, ofL_c, nams, reO, reP, reA, reC, srcI, setG, obG, List.cons.injEq, aeq1, aeqs, onG, Int.reduceLE, Int.reduceNeg, Int.reduceLT, Nat.reduceEqDiff, ↓reduceIte, Nat.reduceLT, Nat.reduceLeDiff, Nat.reduceAdd, Nat.reduceMul, Nat.reduceSub, reduceCtorEq, Int.reduceEq, TY4]
            repeat first | (refine And.intro (by kernel_rfl) ?_) | (refine And.intro (by omega) ?_) | (refine And.intro (fun j hj => (by obtain rfl : j = 0 := (by omega); simp)) ?_) | fail
            have he : endW W out = out ++ [canon (strW W)] := by unfold endW; rw [if_neg hne]
            refine ⟨(i + 1, ([], endW W out)), .inl ⟨by simp only; omega, by simp only; rw [hst]⟩, by simp only; omega, ?_⟩
            refine Told_go hn [[3], [4]] (by simp [he, obsT, obT, okO, okP, okA, okC, okD, okI, reP, reA, reC, srcI, Nl_nil, Nl_cons, PV.nl, upd_at, ofL_n, ofL_c, VS, argsT, lendA, lendL, lendT, Cvl_nil, Cvl_cons, Cv_bool, Cv_int, Cv_str, Cv_nils, Cv_nilc, Cv_cl, Cv_ow, noFn, PV.noF, NR_iff, NRO, hb, ares, ares1, ldo, ld, nOw, PV.isOw, TY, TY4]) ?_ (by simp [nl_String, nlB', obsT, obT, okO, okP, okA, okC, okD, okI, reP, reA, reC, srcI, Nl_nil, Nl_cons, PV.nl, upd_at, ofL_n, ofL_c, VS, argsT, lendA, lendL, lendT, Cvl_nil, Cvl_cons, Cv_bool, Cv_int, Cv_str, Cv_nils, Cv_nilc, Cv_cl, Cv_ow, noFn, PV.noF, NR_iff, NRO, hb, ares, ares1, ldo, ld, nOw, PV.isOw, TY, TY4])
            simp [nl_String, he, obsT, obT, okO, okP, okA, okC, okD, okI, reP, reA, reC, srcI, Nl_nil, Nl_cons, PV.nl, upd_at, ofL_n, ofL_c, VS, argsT, lendA, lendL, lendT, Cvl_nil, Cvl_cons, Cv_bool, Cv_int, Cv_str, Cv_nils, Cv_nilc, Cv_cl, Cv_ow, noFn, PV.noF, NR_iff, NRO, hb, ares, ares1, ldo, ld, nOw, PV.isOw, TY, TY4]
            intro j hj
            by_cases q : j = out.length
            · subst q; rw [lpv_new]; simp [pString]
            · rw [lpv_old (by omega)]; simp [show j < out.length by omega]
          · have hne : W = [] := by
              cases W with
              | nil => rfl
              | cons c W => simp at h2
            have he : endW W out = out := by unfold endW; rw [if_pos hne]
            refine ⟨(i + 1, ([], endW W out)), .inl ⟨by simp only; omega, by simp only; rw [hst]⟩, by simp only; omega, Told_go hn [[0], [1]] (by simp [hne, show endW [] out = out from rfl, obsT, obT, okO, okP, okA, okC, okD, okI, reP, reA, reC, srcI, Nl_nil, Nl_cons, PV.nl, upd_at, ofL_n, ofL_c, VS, argsT, lendA, lendL, lendT, Cvl_nil, Cvl_cons, Cv_bool, Cv_int, Cv_str, Cv_nils, Cv_nilc, Cv_cl, Cv_ow, noFn, PV.noF, NR_iff, NRO, hb, ares, ares1, ldo, ld, nOw, PV.isOw, TY, TY4]) (by simp [nl_String, nlB', show endW [] out = out from rfl, hne, obsT, obT, okO, okP, okA, okC, okD, okI, reP, reA, reC, srcI, Nl_nil, Nl_cons, PV.nl, upd_at, ofL_n, ofL_c, VS, argsT, lendA, lendL, lendT, Cvl_nil, Cvl_cons, Cv_bool, Cv_int, Cv_str, Cv_nils, Cv_nilc, Cv_cl, Cv_ow, noFn, PV.noF, NR_iff, NRO, hb, ares, ares1, ldo, ld, nOw, PV.isOw, TY, TY4]) (by simp [nl_String, nlB', obsT, obT, okO, okP, okA, okC, okD, okI, reP, reA, reC, srcI, Nl_nil, Nl_cons, PV.nl, upd_at, ofL_n, ofL_c, VS, argsT, lendA, lendL, lendT, Cvl_nil, Cvl_cons, Cv_bool, Cv_int, Cv_str, Cv_nils, Cv_nilc, Cv_cl, Cv_ow, noFn, PV.noF, NR_iff, NRO, hb, ares, ares1, ldo, ld, nOw, PV.isOw, TY, TY4])⟩
    · obtain rfl : i = s.size := by omega
      have kd : decide ((s.size : Int) < (s.size : Int)) = false := by simp
      have w3 : IntKind.i64.wrap ((s.size : Int) + 1) = (s.size : Int) + 1 := wr64 (by omega) (by omega)
      have hws : wordsOf s = endW W out := by unfold wordsOf; rw [if_pos hz, ← hp]
      simp only [hC, kd, w3, VS, VZ, TY, openC, foldC, foldN, PF, pick_or, pick_and, aop, aopD, rdN, wrN, idL, idA, apure, AS.ev, startA, strip, abin, aint, astr, alen, aslice, optI, aconv, aconvM, gdv, AS.put, ofVal, pcells, ld, ldo, nOw, PV.isOw, gtmp, within, astore, splice, afill, allCells, okIdx, asrc, aflat, aappend, hintOk, PV.clo, PV.clo1, ofL_n, ofL_c, nams, reO, reP, reA, reC, srcI, setG, obG, List.cons.injEq, aeq1, aeqs, onG, Int.reduceLE, Int.reduceNeg, Int.reduceLT, Nat.reduceEqDiff, ↓reduceIte, Nat.reduceLT, Nat.reduceLeDiff, Nat.reduceAdd, Nat.reduceMul, Nat.reduceSub, reduceCtorEq, Int.reduceEq, TY4]
      refine ⟨fun h2 => ?_, fun h2 => ?_⟩
      · have hne : W ≠ [] := by rintro rfl; simp at h2
        refine ⟨fun i hi => ⟨_, pB_at hi⟩, ?_⟩
        rw [bytes_W]
        refine acall_p false (cs_Word (strW W) (by rw [strW_size]; omega)) (by simp [obsT, obT, okO, okP, okA, okC, okD, okI, reP, reA, reC, srcI, Nl_nil, Nl_cons, PV.nl, upd_at, ofL_n, ofL_c, VS, argsT, lendA, lendL, lendT, Cvl_nil, Cvl_cons, Cv_bool, Cv_int, Cv_str, Cv_nils, Cv_nilc, Cv_cl, Cv_ow, noFn, PV.noF, NR_iff, NRO, hb, ares, ares1, ldo, ld, nOw, PV.isOw, TY, TY4]) (by simp [obsT, obT, okO, okP, okA, okC, okD, okI, reP, reA, reC, srcI, Nl_nil, Nl_cons, PV.nl, upd_at, ofL_n, ofL_c, VS, argsT, lendA, lendL, lendT, Cvl_nil, Cvl_cons, Cv_bool, Cv_int, Cv_str, Cv_nils, Cv_nilc, Cv_cl, Cv_ow, noFn, PV.noF, NR_iff, NRO, hb, ares, ares1, ldo, ld, nOw, PV.isOw, TY, TY4]) (.inl rfl) ?_
        simp only [hC, w3, VS, VZ, TY, openC, foldC, foldN, PF, pick_or, pick_and, aop, aopD, rdN, wrN, idL, idA, apure, AS.ev, startA, strip, abin, aint, astr, alen, aslice, optI, aconv, aconvM, gdv, AS.put, ofVal, pcells, ld, ldo, nOw, PV.isOw, gtmp, within, astore, splice, afill, allCells, okIdx, asrc, aflat, aappend, hintOk, PV.clo, PV.clo1, ofL_n, ofL_c, nams, reO, reP, reA, reC, srcI, setG, obG, List.cons.injEq, aeq1, aeqs, onG, Int.reduceLE, Int.reduceNeg, Int.reduceLT, Nat.reduceEqDiff, ↓reduceIte, Nat.reduceLT, Nat.reduceLeDiff, Nat.reduceAdd, Nat.reduceMul, Nat.reduceSub, reduceCtorEq, Int.reduceEq, TY4]
        repeat first | (refine And.intro (by kernel_rfl) ?_) | (refine And.intro (by omega) ?_) | (refine And.intro (fun j hj => (by obtain rfl : j = 0 := (by omega); simp)) ?_) | fail
        have he : endW W out = out ++ [canon (strW W)] := by unfold endW; rw [if_neg hne]
        refine ⟨(s.size + 1, ([], endW W out)), .inr ⟨rfl, by simp only; rw [hws]⟩, by simp only; omega, ?_⟩
        refine Told_go hn [[3], [4]] (by simp [he, obsT, obT, okO, okP, okA, okC, okD, okI, reP, reA, reC, srcI, Nl_nil, Nl_cons, PV.nl, upd_at, ofL_n, ofL_c, VS, argsT, lendA, lendL, lendT, Cvl_nil, Cvl_cons, Cv_bool, Cv_int, Cv_str, Cv_nils, Cv_nilc, Cv_cl, Cv_ow, noFn, PV.noF, NR_iff, NRO, hb, ares, ares1, ldo, ld, nOw, PV.isOw, TY, TY4]) ?_ (by simp [nl_String, nlB', obsT, obT, okO, okP, okA, okC, okD, okI, reP, reA, reC, srcI, Nl_nil, Nl_cons, PV.nl, upd_at, ofL_n, ofL_c, VS, argsT, lendA, lendL, lendT, Cvl_nil, Cvl_cons, Cv_bool, Cv_int, Cv_str, Cv_nils, Cv_nilc, Cv_cl, Cv_ow, noFn, PV.noF, NR_iff, NRO, hb, ares, ares1, ldo, ld, nOw, PV.isOw, TY, TY4])
        simp [nl_String, he, obsT, obT, okO, okP, okA, okC, okD, okI, reP, reA, reC, srcI, Nl_nil, Nl_cons, PV.nl, upd_at, ofL_n, ofL_c, VS, argsT, lendA, lendL, lendT, Cvl_nil, Cvl_cons, Cv_bool, Cv_int, Cv_str, Cv_nils, Cv_nilc, Cv_cl, Cv_ow, noFn, PV.noF, NR_iff, NRO, hb, ares, ares1, ldo, ld, nOw, PV.isOw, TY, TY4]
        intro j hj
        by_cases q : j = out.length
        · subst q; rw [lpv_new]; simp [pString]
        · rw [lpv_old (by omega)]; simp [show j < out.length by omega]
      · have hne : W = [] := by
          cases W with
          | nil => rfl
          | cons c W => simp at h2
        have he : endW W out = out := by unfold endW; rw [if_pos hne]
        refine ⟨(s.size + 1, ([], endW W out)), .inr ⟨rfl, by simp only; rw [hws]⟩, by simp only; omega, Told_go hn [[0], [1]] (by simp [hne, show endW [] out = out from rfl, obsT, obT, okO, okP, okA, okC, okD, okI, reP, reA, reC, srcI, Nl_nil, Nl_cons, PV.nl, upd_at, ofL_n, ofL_c, VS, argsT, lendA, lendL, lendT, Cvl_nil, Cvl_cons, Cv_bool, Cv_int, Cv_str, Cv_nils, Cv_nilc, Cv_cl, Cv_ow, noFn, PV.noF, NR_iff, NRO, hb, ares, ares1, ldo, ld, nOw, PV.isOw, TY, TY4]) (by simp [nl_String, nlB', show endW [] out = out from rfl, hne, obsT, obT, okO, okP, okA, okC, okD, okI, reP, reA, reC, srcI, Nl_nil, Nl_cons, PV.nl, upd_at, ofL_n, ofL_c, VS, argsT, lendA, lendL, lendT, Cvl_nil, Cvl_cons, Cv_bool, Cv_int, Cv_str, Cv_nils, Cv_nilc, Cv_cl, Cv_ow, noFn, PV.noF, NR_iff, NRO, hb, ares, ares1, ldo, ld, nOw, PV.isOw, TY, TY4]) (by simp [nl_String, nlB', obsT, obT, okO, okP, okA, okC, okD, okI, reP, reA, reC, srcI, Nl_nil, Nl_cons, PV.nl, upd_at, ofL_n, ofL_c, VS, argsT, lendA, lendL, lendT, Cvl_nil, Cvl_cons, Cv_bool, Cv_int, Cv_str, Cv_nils, Cv_nilc, Cv_cl, Cv_ow, noFn, PV.noF, NR_iff, NRO, hb, ares, ares1, ldo, ld, nOw, PV.isOw, TY, TY4])⟩
  · obtain ⟨rfl, rfl⟩ : W = [] ∧ out = wordsOf s := by cases hp; exact ⟨rfl, rfl⟩
    refine ⟨fun h => by simp at h; omega, fun h => ?_⟩
    exact Ret_go [[0]] (by simp [obsT, obT, okO, okP, okA, okC, okD, okI, reP, reA, reC, srcI, Nl_nil, Nl_cons, PV.nl, upd_at, ofL_n, ofL_c, VS, argsT, lendA, lendL, lendT, Cvl_nil, Cvl_cons, Cv_bool, Cv_int, Cv_str, Cv_nils, Cv_nilc, Cv_cl, Cv_ow, noFn, PV.noF, NR_iff, NRO, hb, ares, ares1, ldo, ld, nOw, PV.isOw, TY, TY4]) (by simp [nl_String, obsT, obT, okO, okP, okA, okC, okD, okI, reP, reA, reC, srcI, Nl_nil, Nl_cons, PV.nl, upd_at, ofL_n, ofL_c, VS, argsT, lendA, lendL, lendT, Cvl_nil, Cvl_cons, Cv_bool, Cv_int, Cv_str, Cv_nils, Cv_nilc, Cv_cl, Cv_ow, noFn, PV.noF, NR_iff, NRO, hb, ares, ares1, ldo, ld, nOw, PV.isOw, TY, TY4]) (by simp [nl_String, obsT, obT, okO, okP, okA, okC, okD, okI, reP, reA, reC, srcI, Nl_nil, Nl_cons, PV.nl, upd_at, ofL_n, ofL_c, VS, argsT, lendA, lendL, lendT, Cvl_nil, Cvl_cons, Cv_bool, Cv_int, Cv_str, Cv_nils, Cv_nilc, Cv_cl, Cv_ow, noFn, PV.noF, NR_iff, NRO, hb, ares, ares1, ldo, ld, nOw, PV.isOw, TY, TY4])
end Go.Proofs.Ytmmlpehfieojdaa.Wd
namespace Go.Proofs.Ytmmlpehfieojdaa.Wd
open Go Go.RowKit Go.Proofs Go.Proofs.YtmmlpehfieojdaaW.AW
set_option linter.unusedVariables false
set_option linter.unusedSimpArgs false
set_option maxRecDepth 100000
--VCX TY4
theorem own_str (L : List ByteArray) (i : Nat) : Nl (lpv pString L i) := (nl_String L i).2 trivial
set_option maxHeartbeats 4000000 in
theorem ci_end (W : List Int) (out : List ByteArray) (hW : W.length ≤ 1048576) (ho : out.length ≤ 1048576) : AC Try.prog 118 [.bp [0] 0, .bp [1] 0] (ML [.box [.str (strW W)], .box [.ow 1 out.length (lpv pString out)]]) (.tu []) (ML [.box [.str ⟨#[]⟩], .box [.ow 1 (endW W out).length (lpv pString (endW W out))]]) := by
  refine AC.ofA Try.func118 rfl rfl (by simp [Try.ntmps118]) rfl (fun C hC hm => ?_)
  rw [Try.ntmps118] at hC
  have hn : C.m0.nx = _ := congrArg Mem.nx hm
  simp only [ML_nx, List.length_nil, List.length_cons, Nat.zero_add, Nat.reduceAdd] at hn
  refine AW_open [1] 0 0 ?_
  simp only [VS, VZ, TY, openC, foldC, foldN, PF, pick_or, pick_and, aop, aopD, rdN, wrN, idL, idA, apure, AS.ev, startA, strip, abin, aint, astr, alen, aslice, optI, aconv, aconvM, gdv, AS.put, ofVal, pcells, ld, ldo, nOw, PV.isOw, gtmp, within, astore, splice, afill, allCells, okIdx, asrc, aflat, aappend, hintOk, PV.clo, PV.clo1, ofL_n, ofL_c, nams, reO, reP, reA, reC, srcI, setG, obG, List.cons.injEq, aeq1, aeqs, onG, Int.reduceLE, Int.reduceNeg, Int.reduceLT, Nat.reduceEqDiff, ↓reduceIte, Nat.reduceLT, Nat.reduceLeDiff, Nat.reduceAdd, Nat.reduceMul, Nat.reduceSub, reduceCtorEq, Int.reduceEq, TY4]
  refine vc_ok _ _ _ ?_
  by_cases hne : W = []
  · have k0 : decide (strW W = ⟨#[]⟩) = true := decide_eq_true ((strW_nil W).2 hne)
    have he : endW W out = out := by unfold endW; rw [if_pos hne]
    have hs : strW W = ⟨#[]⟩ := (strW_nil W).2 hne
    rw [he]
    simp only [hC, k0, VS, VZ, TY, openC, foldC, foldN, PF, pick_or, pick_and, aop, aopD, rdN, wrN, idL, idA, apure, AS.ev, startA, strip, abin, aint, astr, alen, aslice, optI, aconv, aconvM, gdv, AS.put, ofVal, pcells, ld, ldo, nOw, PV.isOw, gtmp, within, astore, splice, afill, allCells, okIdx, asrc, aflat, aappend, hintOk, PV.clo, PV.clo1, ofL_n, ofL_c, nams, reO, reP, reA, reC, srcI, setG, obG, List.cons.injEq, aeq1, aeqs, onG, Int.reduceLE, Int.reduceNeg, Int.reduceLT, Nat.reduceEqDiff, ↓reduceIte, Nat.reduceLT, Nat.reduceLeDiff, Nat.reduceAdd, Nat.reduceMul, Nat.reduceSub, reduceCtorEq, Int.reduceEq, TY4]
    refine R_fold [1] 0 0 [2] ?_
    simp only [VS, VZ, TY, openC, foldC, foldN, PF, pick_or, pick_and, aop, aopD, rdN, wrN, idL, idA, apure, AS.ev, startA, strip, abin, aint, astr, alen, aslice, optI, aconv, aconvM, gdv, AS.put, ofVal, pcells, ld, ldo, nOw, PV.isOw, gtmp, within, astore, splice, afill, allCells, okIdx, asrc, aflat, aappend, hintOk, PV.clo, PV.clo1, ofL_n, ofL_c, nams, reO, reP, reA, reC, srcI, setG, obG, List.cons.injEq, aeq1, aeqs, onG, Int.reduceLE, Int.reduceNeg, Int.reduceLT, Nat.reduceEqDiff, ↓reduceIte, Nat.reduceLT, Nat.reduceLeDiff, Nat.reduceAdd, Nat.reduceMul, Nat.reduceSub, reduceCtorEq, Int.reduceEq, TY4]
    refine ⟨by simp, fun _ _ => own_str _ _, ?_⟩
    exact Ret_go [[0], [1]] (by simp [obsT, obT, okO, okP, okA, okC, okD, okI, reP, reA, reC, srcI, Nl_nil, Nl_cons, PV.nl, upd_at, ofL_n, ofL_c, VS, argsT, lendA, lendL, lendT, Cvl_nil, Cvl_cons, Cv_bool, Cv_int, Cv_str, Cv_nils, Cv_nilc, Cv_cl, Cv_ow, noFn, PV.noF, NR_iff, NRO, hb, ares, ares1, ldo, ld, nOw, PV.isOw, TY, TY4]) (by simp [hs, obsT, obT, okO, okP, okA, okC, okD, okI, reP, reA, reC, srcI, Nl_nil, Nl_cons, PV.nl, upd_at, ofL_n, ofL_c, VS, argsT, lendA, lendL, lendT, Cvl_nil, Cvl_cons, Cv_bool, Cv_int, Cv_str, Cv_nils, Cv_nilc, Cv_cl, Cv_ow, noFn, PV.noF, NR_iff, NRO, hb, ares, ares1, ldo, ld, nOw, PV.isOw, TY, TY4]) (by simp [obsT, obT, okO, okP, okA, okC, okD, okI, reP, reA, reC, srcI, Nl_nil, Nl_cons, PV.nl, upd_at, ofL_n, ofL_c, VS, argsT, lendA, lendL, lendT, Cvl_nil, Cvl_cons, Cv_bool, Cv_int, Cv_str, Cv_nils, Cv_nilc, Cv_cl, Cv_ow, noFn, PV.noF, NR_iff, NRO, hb, ares, ares1, ldo, ld, nOw, PV.isOw, TY, TY4])
  have k0 : decide (strW W = ⟨#[]⟩) = false := decide_eq_false (fun q => hne ((strW_nil W).1 q))
  have he : endW W out = out ++ [canon (strW W)] := by unfold endW; rw [if_neg hne]
  have hsz : (strW W).size = W.length := strW_size W
  rw [he]
  clear he hne
  generalize strW W = w at *
  by_cases q0 : w = ⟨#[115, 116]⟩
  · have hc : canon w = ⟨#[115, 116, 114, 101, 101, 116]⟩ := by unfold canon; rw [if_pos q0]
    have k0_ := decide_eq_true q0
    simp only [hC, k0, k0_, VS, VZ, TY, openC, foldC, foldN, PF, pick_or, pick_and, aop, aopD, rdN, wrN, idL, idA, apure, AS.ev, startA, strip, abin, aint, astr, alen, aslice, optI, aconv, aconvM, gdv, AS.put, ofVal, pcells, ld, ldo, nOw, PV.isOw, gtmp, within, astore, splice, afill, allCells, okIdx, asrc, aflat, aappend, hintOk, PV.clo, PV.clo1, ofL_n, ofL_c, nams, reO, reP, reA, reC, srcI, setG, obG, List.cons.injEq, aeq1, aeqs, onG, Int.reduceLE, Int.reduceNeg, Int.reduceLT, Nat.reduceEqDiff, ↓reduceIte, Nat.reduceLT, Nat.reduceLeDiff, Nat.reduceAdd, Nat.reduceMul, Nat.reduceSub, reduceCtorEq, Int.reduceEq, TY4]
    repeat first | (refine And.intro (by kernel_rfl) ?_) | (refine And.intro (by omega) ?_) | (refine And.intro (fun j hj => (by obtain rfl : j = 0 := (by omega); simp)) ?_) | fail
    refine R_fold [1] 0 0 [4] ?_
    simp only [VS, VZ, TY, openC, foldC, foldN, PF, pick_or, pick_and, aop, aopD, rdN, wrN, idL, idA, apure, AS.ev, startA, strip, abin, aint, astr, alen, aslice, optI, aconv, aconvM, gdv, AS.put, ofVal, pcells, ld, ldo, nOw, PV.isOw, gtmp, within, astore, splice, afill, allCells, okIdx, asrc, aflat, aappend, hintOk, PV.clo, PV.clo1, ofL_n, ofL_c, nams, reO, reP, reA, reC, srcI, setG, obG, List.cons.injEq, aeq1, aeqs, onG, Int.reduceLE, Int.reduceNeg, Int.reduceLT, Nat.reduceEqDiff, ↓reduceIte, Nat.reduceLT, Nat.reduceLeDiff, Nat.reduceAdd, Nat.reduceMul, Nat.reduceSub, reduceCtorEq, Int.reduceEq, TY4]
    refine ⟨by omega, fun k hk => ?_, ?_⟩
    · by_cases q : k < out.length
      · rw [if_pos q]; exact own_str _ _
      · obtain rfl : k = out.length := by omega
        simp [Nl_cons, Nl_nil, PV.nl]
    · have e : (fun i => if i < out.length then lpv pString out i else [[PV.str ⟨#[115, 116, 114, 101, 101, 116]⟩]].getD (i - out.length) []) = lpv pString (out ++ [canon w]) := funext fun i => by
        by_cases q : i < out.length
        · rw [if_pos q, lpv_old q]
        · rw [if_neg q]
          by_cases q2 : i = out.length
          · subst q2; rw [lpv_new, hc]; simp [pString]
          · simp [lpv, show ¬ i < out.length + 1 by omega, show i - out.length ≠ 0 by omega]
      rw [e]
      exact Ret_go [[0], [1]] (by simp [obsT, obT, okO, okP, okA, okC, okD, okI, reP, reA, reC, srcI, Nl_nil, Nl_cons, PV.nl, upd_at, ofL_n, ofL_c, VS, argsT, lendA, lendL, lendT, Cvl_nil, Cvl_cons, Cv_bool, Cv_int, Cv_str, Cv_nils, Cv_nilc, Cv_cl, Cv_ow, noFn, PV.noF, NR_iff, NRO, hb, ares, ares1, ldo, ld, nOw, PV.isOw, TY, TY4]) (by simp [obsT, obT, okO, okP, okA, okC, okD, okI, reP, reA, reC, srcI, Nl_nil, Nl_cons, PV.nl, upd_at, ofL_n, ofL_c, VS, argsT, lendA, lendL, lendT, Cvl_nil, Cvl_cons, Cv_bool, Cv_int, Cv_str, Cv_nils, Cv_nilc, Cv_cl, Cv_ow, noFn, PV.noF, NR_iff, NRO, hb, ares, ares1, ldo, ld, nOw, PV.isOw, TY, TY4]) (by simp [obsT, obT, okO, okP, okA, okC, okD, okI, reP, reA, reC, srcI, Nl_nil, Nl_cons, PV.nl, upd_at, ofL_n, ofL_c, VS, argsT, lendA, lendL, lendT, Cvl_nil, Cvl_cons, Cv_bool, Cv_int, Cv_str, Cv_nils, Cv_nilc, Cv_cl, Cv_ow, noFn, PV.noF, NR_iff, NRO, hb, ares, ares1, ldo, ld, nOw, PV.isOw, TY, TY4])
  have k0_ := decide_eq_false q0
  by_cases q1 : w = ⟨#[114, 100]⟩
  · have hc : canon w = ⟨#[114, 111, 97, 100]⟩ := by unfold canon; rw [if_neg q0, if_pos q1]
    have k1_ := decide_eq_true q1
    simp only [hC, k0, k0_, k1_, VS, VZ, TY, openC, foldC, foldN, PF, pick_or, pick_and, aop, aopD, rdN, wrN, idL, idA, apure, AS.ev, startA, strip, abin, aint, astr, alen, aslice, optI, aconv, aconvM, gdv, AS.put, ofVal, pcells, ld, ldo, nOw, PV.isOw, gtmp, within, astore, splice, afill, allCells, okIdx, asrc, aflat, aappend, hintOk, PV.clo, PV.clo1, ofL_n, ofL_c, nams, reO, reP, reA, reC, srcI, setG, obG, List.cons.injEq, aeq1, aeqs, onG, Int.reduceLE, Int.reduceNeg, Int.reduceLT, Nat.reduceEqDiff, ↓reduceIte, Nat.reduceLT, Nat.reduceLeDiff, Nat.reduceAdd, Nat.reduceMul, Nat.reduceSub, reduceCtorEq, Int.reduceEq, TY4]
    repeat first | (refine And.intro (by kernel_rfl) ?_) | (refine And.intro (by omega) ?_) | (refine And.intro (fun j hj => (by obtain rfl : j = 0 := (by omega); simp)) ?_) | fail
    refine R_fold [1] 0 0 [4] ?_
    simp only [VS, VZ, TY, openC, foldC, foldN, PF, pick_or, pick_and, aop, aopD, rdN, wrN, idL, idA, apure, AS.ev, startA, strip, abin, aint, astr, alen, aslice, optI, aconv, aconvM, gdv, AS.put, ofVal, pcells, ld, ldo, nOw, PV.isOw, gtmp, within, astore, splice, afill, allCells, okIdx, asrc, aflat, aappend, hintOk, PV.clo, PV.clo1, ofL_n, ofL_c, nams, reO, reP, reA, reC, srcI, setG, obG, List.cons.injEq, aeq1, aeqs, onG, Int.reduceLE, Int.reduceNeg, Int.reduceLT, Nat.reduceEqDiff, ↓reduceIte, Nat.reduceLT, Nat.reduceLeDiff, Nat.reduceAdd, Nat.reduceMul, Nat.reduceSub, reduceCtorEq, Int.reduceEq, TY4]
    refine ⟨by omega, fun k hk => ?_, ?_⟩
    · by_cases q : k < out.length
      · rw [if_pos q]; exact own_str _ _
      · obtain rfl : k = out.length := by omega
        simp [Nl_cons, Nl_nil, PV.nl]
    · have e : (fun i => if i < out.length then lpv pString out i else [[PV.str ⟨#[114, 111, 97, 100]⟩]].getD (i - out.length) []) = lpv pString (out ++ [canon w]) := funext fun i => by
        by_cases q : i < out.length
        · rw [if_pos q, lpv_old q]
        · rw [if_neg q]
          by_cases q2 : i = out.length
          · subst q2; rw [lpv_new, hc]; simp [pString]
          · simp [lpv, show ¬ i < out.length + 1 by omega, show i - out.length ≠ 0 by omega]
      rw [e]
      exact Ret_go [[0], [1]] (by simp [obsT, obT, okO, okP, okA, okC, okD, okI, reP, reA, reC, srcI, Nl_nil, Nl_cons, PV.nl, upd_at, ofL_n, ofL_c, VS, argsT, lendA, lendL, lendT, Cvl_nil, Cvl_cons, Cv_bool, Cv_int, Cv_str, Cv_nils, Cv_nilc, Cv_cl, Cv_ow, noFn, PV.noF, NR_iff, NRO, hb, ares, ares1, ldo, ld, nOw, PV.isOw, TY, TY4]) (by simp [obsT, obT, okO, okP, okA, okC, okD, okI, reP, reA, reC, srcI, Nl_nil, Nl_cons, PV.nl, upd_at, ofL_n, ofL_c, VS, argsT, lendA, lendL, lendT, Cvl_nil, Cvl_cons, Cv_bool, Cv_int, Cv_str, Cv_nils, Cv_nilc, Cv_cl, Cv_ow, noFn, PV.noF, NR_iff, NRO, hb, ares, ares1, ldo, ld, nOw, PV.isOw, TY, TY4]) (by simp [obsT, obT, okO, okP, okA, okC, okD, okI, reP, reA, reC, srcI, Nl_nil, Nl_cons, PV.nl, upd_at, ofL_n, ofL_c, VS, argsT, lendA, lendL, lendT, Cvl_nil, Cvl_cons, Cv_bool, Cv_int, Cv_str, Cv_nils, Cv_nilc, Cv_cl, Cv_ow, noFn, PV.noF, NR_iff, NRO, hb, ares, ares1, ldo, ld, nOw, PV.isOw, TY, TY4])
  have k1_ := decide_eq_false q1
  by_cases q2 : w = ⟨#[108, 110]⟩
  · have hc : canon w = ⟨#[108, 97, 110, 101]⟩ := by unfold canon; rw [if_neg q0, if_neg q1, if_pos q2]
    have k2_ := decide_eq_true q2
    simp only [hC, k0, k0_, k1_, k2_, VS, VZ, TY, openC, foldC, foldN, PF, pick_or, pick_and, aop, aopD, rdN, wrN, idL, idA, apure, AS.ev, startA, strip, abin, aint, astr, alen, aslice, optI, aconv, aconvM, gdv, AS.put, ofVal, pcells, ld, ldo, nOw, PV.isOw, gtmp, within, astore, splice, afill, allCells, okIdx, asrc, aflat, aappend, hintOk, PV.clo, PV.clo1, ofL_n, ofL_c, nams, reO, reP, reA, reC, srcI, setG, obG, List.cons.injEq, aeq1, aeqs, onG, Int.reduceLE, Int.reduceNeg, Int.reduceLT, Nat.reduceEqDiff, ↓reduceIte, Nat.reduceLT, Nat.reduceLeDiff, Nat.reduceAdd, Nat.reduceMul, Nat.reduceSub, reduceCtorEq, Int.reduceEq, TY4]
    repeat first | (refine And.intro (by kernel_rfl) ?_) | (refine And.intro (by omega) ?_) | (refine And.intro (fun j hj => (by obtain rfl : j = 0 := (by omega); simp)) ?_) | fail
    refine R_fold [1] 0 0 [4] ?_
    simp only [VS, VZ, TY, openC, foldC, foldN, PF, pick_or, pick_and, aop, aopD, rdN, wrN, idL, idA, apure, AS.ev, startA, strip, abin, aint, astr, alen, aslice, optI, aconv, aconvM, gdv, AS.put, ofVal, pcells, ld, ldo, nOw, PV.isOw, gtmp, within, astore, splice, afill, allCells, okIdx, asrc, aflat, aappend, hintOk, PV.clo, PV.clo1, ofL_n, ofL_c, nams, reO, reP, reA, reC, srcI, setG, obG, List.cons.injEq, aeq1, aeqs, onG, Int.reduceLE, Int.reduceNeg, Int.reduceLT, Nat.reduceEqDiff, ↓reduceIte, Nat.reduceLT, Nat.reduceLeDiff, Nat.reduceAdd, Nat.reduceMul, Nat.reduceSub, reduceCtorEq, Int.reduceEq, TY4]
    refine ⟨by omega, fun k hk => ?_, ?_⟩
    · by_cases q : k < out.length
      · rw [if_pos q]; exact own_str _ _
      · obtain rfl : k = out.length := by omega
        simp [Nl_cons, Nl_nil, PV.nl]
    · have e : (fun i => if i < out.length then lpv pString out i else [[PV.str ⟨#[108, 97, 110, 101]⟩]].getD (i - out.length) []) = lpv pString (out ++ [canon w]) := funext fun i => by
        by_cases q : i < out.length
        · rw [if_pos q, lpv_old q]
        · rw [if_neg q]
          by_cases q2 : i = out.length
          · subst q2; rw [lpv_new, hc]; simp [pString]
          · simp [lpv, show ¬ i < out.length + 1 by omega, show i - out.length ≠ 0 by omega]
      rw [e]
      exact Ret_go [[0], [1]] (by simp [obsT, obT, okO, okP, okA, okC, okD, okI, reP, reA, reC, srcI, Nl_nil, Nl_cons, PV.nl, upd_at, ofL_n, ofL_c, VS, argsT, lendA, lendL, lendT, Cvl_nil, Cvl_cons, Cv_bool, Cv_int, Cv_str, Cv_nils, Cv_nilc, Cv_cl, Cv_ow, noFn, PV.noF, NR_iff, NRO, hb, ares, ares1, ldo, ld, nOw, PV.isOw, TY, TY4]) (by simp [obsT, obT, okO, okP, okA, okC, okD, okI, reP, reA, reC, srcI, Nl_nil, Nl_cons, PV.nl, upd_at, ofL_n, ofL_c, VS, argsT, lendA, lendL, lendT, Cvl_nil, Cvl_cons, Cv_bool, Cv_int, Cv_str, Cv_nils, Cv_nilc, Cv_cl, Cv_ow, noFn, PV.noF, NR_iff, NRO, hb, ares, ares1, ldo, ld, nOw, PV.isOw, TY, TY4]) (by simp [obsT, obT, okO, okP, okA, okC, okD, okI, reP, reA, reC, srcI, Nl_nil, Nl_cons, PV.nl, upd_at, ofL_n, ofL_c, VS, argsT, lendA, lendL, lendT, Cvl_nil, Cvl_cons, Cv_bool, Cv_int, Cv_str, Cv_nils, Cv_nilc, Cv_cl, Cv_ow, noFn, PV.noF, NR_iff, NRO, hb, ares, ares1, ldo, ld, nOw, PV.isOw, TY, TY4])
  have k2_ := decide_eq_false q2
  by_cases q3 : w = ⟨#[110]⟩
  · have hc : canon w = ⟨#[110, 111, 114, 116, 104]⟩ := by unfold canon; rw [if_neg q0, if_neg q1, if_neg q2, if_pos (Or.inl q3)]
    have k3_ := decide_eq_true q3
    simp only [hC, k0, k0_, k1_, k2_, k3_, VS, VZ, TY, openC, foldC, foldN, PF, pick_or, pick_and, aop, aopD, rdN, wrN, idL, idA, apure, AS.ev, startA, strip, abin, aint, astr, alen, aslice, optI, aconv, aconvM, gdv, AS.put, ofVal, pcells, ld, ldo, nOw, PV.isOw, gtmp, within, astore, splice, afill, allCells, okIdx, asrc, aflat, aappend, hintOk, PV.clo, PV.clo1, ofL_n, ofL_c, nams, reO, reP, reA, reC, srcI, setG, obG, List.cons.injEq, aeq1, aeqs, onG, Int.reduceLE, Int.reduceNeg, Int.reduceLT, Nat.reduceEqDiff, ↓reduceIte, Nat.reduceLT, Nat.reduceLeDiff, Nat.reduceAdd, Nat.reduceMul, Nat.reduceSub, reduceCtorEq, Int.reduceEq, TY4]
    repeat first | (refine And.intro (by kernel_rfl) ?_) | (refine And.intro (by omega) ?_) | (refine And.intro (fun j hj => (by obtain rfl : j = 0 := (by omega); simp)) ?_) | fail
    refine R_fold [1] 0 0 [4] ?_
    simp only [VS, VZ, TY, openC, foldC, foldN, PF, pick_or, pick_and, aop, aopD, rdN, wrN, idL, idA, apure, AS.ev, startA, strip, abin, aint, astr, alen, aslice, optI, aconv, aconvM, gdv, AS.put, ofVal, pcells, ld, ldo, nOw, PV.isOw, gtmp, within, astore, splice, afill, allCells, okIdx, asrc, aflat, aappend, hintOk, PV.clo, PV.clo1, ofL_n, ofL_c, nams, reO, reP, reA, reC, srcI, setG, obG, List.cons.injEq, aeq1, aeqs, onG, Int.reduceLE, Int.reduceNeg, Int.reduceLT, Nat.reduceEqDiff, ↓reduceIte, Nat.reduceLT, Nat.reduceLeDiff, Nat.reduceAdd, Nat.reduceMul, Nat.reduceSub, reduceCtorEq, Int.reduceEq, TY4]
    refine ⟨by omega, fun k hk => ?_, ?_⟩
    · by_cases q : k < out.length
      · rw [if_pos q]; exact own_str _ _
      · obtain rfl : k = out.length := by omega
        simp [Nl_cons, Nl_nil, PV.nl]
    · have e : (fun i => if i < out.length then lpv pString out i else [[PV.str ⟨#[110, 111, 114, 116, 104]⟩]].getD (i - out.length) []) = lpv pString (out ++ [canon w]) := funext fun i => by
        by_cases q : i < out.length
        · rw [if_pos q, lpv_old q]
        · rw [if_neg q]
          by_cases q2 : i = out.length
          · subst q2; rw [lpv_new, hc]; simp [pString]
          · simp [lpv, show ¬ i < out.length + 1 by omega, show i - out.length ≠ 0 by omega]
      rw [e]
      exact Ret_go [[0], [1]] (by simp [obsT, obT, okO, okP, okA, okC, okD, okI, reP, reA, reC, srcI, Nl_nil, Nl_cons, PV.nl, upd_at, ofL_n, ofL_c, VS, argsT, lendA, lendL, lendT, Cvl_nil, Cvl_cons, Cv_bool, Cv_int, Cv_str, Cv_nils, Cv_nilc, Cv_cl, Cv_ow, noFn, PV.noF, NR_iff, NRO, hb, ares, ares1, ldo, ld, nOw, PV.isOw, TY, TY4]) (by simp [obsT, obT, okO, okP, okA, okC, okD, okI, reP, reA, reC, srcI, Nl_nil, Nl_cons, PV.nl, upd_at, ofL_n, ofL_c, VS, argsT, lendA, lendL, lendT, Cvl_nil, Cvl_cons, Cv_bool, Cv_int, Cv_str, Cv_nils, Cv_nilc, Cv_cl, Cv_ow, noFn, PV.noF, NR_iff, NRO, hb, ares, ares1, ldo, ld, nOw, PV.isOw, TY, TY4]) (by simp [obsT, obT, okO, okP, okA, okC, okD, okI, reP, reA, reC, srcI, Nl_nil, Nl_cons, PV.nl, upd_at, ofL_n, ofL_c, VS, argsT, lendA, lendL, lendT, Cvl_nil, Cvl_cons, Cv_bool, Cv_int, Cv_str, Cv_nils, Cv_nilc, Cv_cl, Cv_ow, noFn, PV.noF, NR_iff, NRO, hb, ares, ares1, ldo, ld, nOw, PV.isOw, TY, TY4])
  have k3_ := decide_eq_false q3
  by_cases q4 : w = ⟨#[110, 116, 104]⟩
  · have hc : canon w = ⟨#[110, 111, 114, 116, 104]⟩ := by unfold canon; rw [if_neg q0, if_neg q1, if_neg q2, if_pos (Or.inr q4)]
    have k4_ := decide_eq_true q4
    simp only [hC, k0, k0_, k1_, k2_, k3_, k4_, VS, VZ, TY, openC, foldC, foldN, PF, pick_or, pick_and, aop, aopD, rdN, wrN, idL, idA, apure, AS.ev, startA, strip, abin, aint, astr, alen, aslice, optI, aconv, aconvM, gdv, AS.put, ofVal, pcells, ld, ldo, nOw, PV.isOw, gtmp, within, astore, splice, afill, allCells, okIdx, asrc, aflat, aappend, hintOk, PV.clo, PV.clo1, ofL_n, ofL_c, nams, reO, reP, reA, reC, srcI, setG, obG, List.cons.injEq, aeq1, aeqs, onG, Int.reduceLE, Int.reduceNeg, Int.reduceLT, Nat.reduceEqDiff, ↓reduceIte, Nat.reduceLT, Nat.reduceLeDiff, Nat.reduceAdd, Nat.reduceMul, Nat.reduceSub, reduceCtorEq, Int.reduceEq, TY4]
    repeat first | (refine And.intro (by kernel_rfl) ?_) | (refine And.intro (by omega) ?_) | (refine And.intro (fun j hj => (by obtain rfl : j = 0 := (by omega); simp)) ?_) | fail
    refine R_fold [1] 0 0 [4] ?_
    simp only [VS, VZ, TY, openC, foldC, foldN, PF, pick_or, pick_and, aop, aopD, rdN, wrN, idL, idA, apure, AS.ev, startA, strip, abin, aint, astr, alen, aslice, optI, aconv, aconvM, gdv, AS.put, ofVal, pcells, ld, ldo, nOw, PV.isOw, gtmp, within, astore, splice, afill, allCells, okIdx, asrc, aflat, aappend, hintOk, PV.clo, PV.clo1, ofL_n, ofL_c, nams, reO, reP, reA, reC, srcI, setG, obG, List.cons.injEq, aeq1, aeqs, onG, Int.reduceLE, Int.reduceNeg, Int.reduceLT, Nat.reduceEqDiff, ↓reduceIte, Nat.reduceLT, Nat.reduceLeDiff, Nat.reduceAdd, Nat.reduceMul, Nat.reduceSub, reduceCtorEq, Int.reduceEq, TY4]
    refine ⟨by omega, fun k hk => ?_, ?_⟩
    · by_cases q : k < out.length
      · rw [if_pos q]; exact own_str _ _
      · obtain rfl : k = out.length := by omega
        simp [Nl_cons, Nl_nil, PV.nl]
    · have e : (fun i => if i < out.length then lpv pString out i else [[PV.str ⟨#[110, 111, 114, 116, 104]⟩]].getD (i - out.length) []) = lpv pString (out ++ [canon w]) := funext fun i => by
        by_cases q : i < out.length
        · rw [if_pos q, lpv_old q]
        · rw [if_neg q]
          by_cases q2 : i = out.length
          · subst q2; rw [lpv_new, hc]; simp [pString]
          · simp [lpv, show ¬ i < out.length + 1 by omega, show i - out.length ≠ 0 by omega]
      rw [e]
      exact Ret_go [[0], [1]] (by simp [obsT, obT, okO, okP, okA, okC, okD, okI, reP, reA, reC, srcI, Nl_nil, Nl_cons, PV.nl, upd_at, ofL_n, ofL_c, VS, argsT, lendA, lendL, lendT, Cvl_nil, Cvl_cons, Cv_bool, Cv_int, Cv_str, Cv_nils, Cv_nilc, Cv_cl, Cv_ow, noFn, PV.noF, NR_iff, NRO, hb, ares, ares1, ldo, ld, nOw, PV.isOw, TY, TY4]) (by simp [obsT, obT, okO, okP, okA, okC, okD, okI, reP, reA, reC, srcI, Nl_nil, Nl_cons, PV.nl, upd_at, ofL_n, ofL_c, VS, argsT, lendA, lendL, lendT, Cvl_nil, Cvl_cons, Cv_bool, Cv_int, Cv_str, Cv_nils, Cv_nilc, Cv_cl, Cv_ow, noFn, PV.noF, NR_iff, NRO, hb, ares, ares1, ldo, ld, nOw, PV.isOw, TY, TY4]) (by simp [obsT, obT, okO, okP, okA, okC, okD, okI, reP, reA, reC, srcI, Nl_nil, Nl_cons, PV.nl, upd_at, ofL_n, ofL_c, VS, argsT, lendA, lendL, lendT, Cvl_nil, Cvl_cons, Cv_bool, Cv_int, Cv_str, Cv_nils, Cv_nilc, Cv_cl, Cv_ow, noFn, PV.noF, NR_iff, NRO, hb, ares, ares1, ldo, ld, nOw, PV.isOw, TY, TY4])
  have k4_ := decide_eq_false q4
  by_cases q5 : w = ⟨#[115]⟩
  · have hc : canon w = ⟨#[115, 111, 117, 116, 104]⟩ := by unfold canon; rw [if_neg q0, if_neg q1, if_neg q2, if_neg (fun q => q.elim q3 q4), if_pos q5]
    have k5_ := decide_eq_true q5
    simp only [hC, k0, k0_, k1_, k2_, k3_, k4_, k5_, VS, VZ, TY, openC, foldC, foldN, PF, pick_or, pick_and, aop, aopD, rdN, wrN, idL, idA, apure, AS.ev, startA, strip, abin, aint, astr, alen, aslice, optI, aconv, aconvM, gdv, AS.put, ofVal, pcells, ld, ldo, nOw, PV.isOw, gtmp, within, astore, splice, afill, allCells, okIdx, asrc, aflat, aappend, hintOk, PV.clo, PV.clo1, ofL_n, ofL_c, nams, reO, reP, reA, reC, srcI, setG, obG, List.cons.injEq, aeq1, aeqs, onG, Int.reduceLE, Int.reduceNeg, Int.reduceLT, Nat.reduceEqDiff, ↓reduceIte, Nat.reduceLT, Nat.reduceLeDiff, Nat.reduceAdd, Nat.reduceMul, Nat.reduceSub, reduceCtorEq, Int.reduceEq, TY4]
    repeat first | (refine And.intro (by kernel_rfl) ?_) | (refine And.intro (by omega) ?_) | (refine And.intro (fun j hj => (by obtain rfl : j = 0 := (by omega); simp)) ?_) | fail
    refine R_fold [1] 0 0 [4] ?_
    simp only [VS, VZ, TY, openC, foldC, foldN, PF, pick_or, pick_and, aop, aopD, rdN, wrN, idL, idA, apure, AS.ev, startA, strip, abin, aint, astr, alen, aslice, optI, aconv, aconvM, gdv, AS.put, ofVal, pcells, ld, ldo, nOw, PV.isOw, gtmp, within, astore, splice, afill, allCells, okIdx, asrc, aflat, aappend, hintOk, PV.clo, PV.clo1, ofL_n, ofL_c, nams, reO, reP, reA, reC, srcI, setG, obG, List.cons.injEq, aeq1, aeqs, onG, Int.reduceLE, Int.reduceNeg, Int.reduceLT, Nat.reduceEqDiff, ↓reduceIte, Nat.reduceLT, Nat.reduceLeDiff, Nat.reduceAdd, Nat.reduceMul, Nat.reduceSub, reduceCtorEq, Int.reduceEq, TY4]
    refine ⟨by omega, fun k hk => ?_, ?_⟩
    · by_cases q : k < out.length
      · rw [if_pos q]; exact own_str _ _
      · obtain rfl : k = out.length := by omega
        simp [Nl_cons, Nl_nil, PV.nl]
    · have e : (fun i => if i < out.length then lpv pString out i else [[PV.str ⟨#[115, 111, 117, 116, 104]⟩]].getD (i - out.length) []) = lpv pString (out ++ [canon w]) := funext fun i => by
        by_cases q : i < out.length
        · rw [if_pos q, lpv_old q]
        · rw [if_neg q]
          by_cases q2 : i = out.length
          · subst q2; rw [lpv_new, hc]; simp [pString]
          · simp [lpv, show ¬ i < out.length + 1 by omega, show i - out.length ≠ 0 by omega]
      rw [e]
      exact Ret_go [[0], [1]] (by simp [obsT, obT, okO, okP, okA, okC, okD, okI, reP, reA, reC, srcI, Nl_nil, Nl_cons, PV.nl, upd_at, ofL_n, ofL_c, VS, argsT, lendA, lendL, lendT, Cvl_nil, Cvl_cons, Cv_bool, Cv_int, Cv_str, Cv_nils, Cv_nilc, Cv_cl, Cv_ow, noFn, PV.noF, NR_iff, NRO, hb, ares, ares1, ldo, ld, nOw, PV.isOw, TY, TY4]) (by simp [obsT, obT, okO, okP, okA, okC, okD, okI, reP, reA, reC, srcI, Nl_nil, Nl_cons, PV.nl, upd_at, ofL_n, ofL_c, VS, argsT, lendA, lendL, lendT, Cvl_nil, Cvl_cons, Cv_bool, Cv_int, Cv_str, Cv_nils, Cv_nilc, Cv_cl, Cv_ow, noFn, PV.noF, NR_iff, NRO, hb, ares, ares1, ldo, ld, nOw, PV.isOw, TY, TY4]) (by simp [obsT, obT, okO, okP, okA, okC, okD, okI, reP, reA, reC, srcI, Nl_nil, Nl_cons, PV.nl, upd_at, ofL_n, ofL_c, VS, argsT, lendA, lendL, lendT, Cvl_nil, Cvl_cons, Cv_bool, Cv_int, Cv_str, Cv_nils, Cv_nilc, Cv_cl, Cv_ow, noFn, PV.noF, NR_iff, NRO, hb, ares, ares1, ldo, ld, nOw, PV.isOw, TY, TY4])
  have k5_ := decide_eq_false q5
  have hc : canon w = w := by unfold canon; rw [if_neg q0, if_neg q1, if_neg q2, if_neg (fun q => q.elim q3 q4), if_neg q5]
  simp only [hC, k0, k0_, k1_, k2_, k3_, k4_, k5_, VS, VZ, TY, openC, foldC, foldN, PF, pick_or, pick_and, aop, aopD, rdN, wrN, idL, idA, apure, AS.ev, startA, strip, abin, aint, astr, alen, aslice, optI, aconv, aconvM, gdv, AS.put, ofVal, pcells, ld, ldo, nOw, PV.isOw, gtmp, within, astore, splice, afill, allCells, okIdx, asrc, aflat, aappend, hintOk, PV.clo, PV.clo1, ofL_n, ofL_c, nams, reO, reP, reA, reC, srcI, setG, obG, List.cons.injEq, aeq1, aeqs, onG, Int.reduceLE, Int.reduceNeg, Int.reduceLT, Nat.reduceEqDiff, ↓reduceIte, Nat.reduceLT, Nat.reduceLeDiff, Nat.reduceAdd, Nat.reduceMul, Nat.reduceSub, reduceCtorEq, Int.reduceEq, TY4]
  repeat first | (refine And.intro (by kernel_rfl) ?_) | (refine And.intro (by omega) ?_) | (refine And.intro (fun j hj => (by obtain rfl : j = 0 := (by omega); simp)) ?_) | fail
  refine R_fold [1] 0 0 [4] ?_
  simp only [VS, VZ, TY, openC, foldC, foldN, PF, pick_or, pick_and, aop, aopD, rdN, wrN, idL, idA, apure, AS.ev, startA, strip, abin, aint, astr, alen, aslice, optI, aconv, aconvM, gdv, AS.put, ofVal, pcells, ld, ldo, nOw, PV.isOw, gtmp, within, astore, splice, afill, allCells, okIdx, asrc, aflat, aappend, hintOk, PV.clo, PV.clo1, ofL_n, ofL_c, nams, reO, reP, reA, reC, srcI, setG, obG, List.cons.injEq, aeq1, aeqs, onG, Int.reduceLE, Int.reduceNeg, Int.reduceLT, Nat.reduceEqDiff, ↓reduceIte, Nat.reduceLT, Nat.reduceLeDiff, Nat.reduceAdd, Nat.reduceMul, Nat.reduceSub, reduceCtorEq, Int.reduceEq, TY4]
  refine ⟨by omega, fun k hk => ?_, ?_⟩
  · by_cases q : k < out.length
    · rw [if_pos q]; exact own_str _ _
    · obtain rfl : k = out.length := by omega
      simp [Nl_cons, Nl_nil, PV.nl]
  · have e : (fun i => if i < out.length then lpv pString out i else [[PV.str w]].getD (i - out.length) []) = lpv pString (out ++ [canon w]) := funext fun i => by
      by_cases q : i < out.length
      · rw [if_pos q, lpv_old q]
      · rw [if_neg q]
        by_cases q2 : i = out.length
        · subst q2; rw [lpv_new, hc]; simp [pString]
        · simp [lpv, show ¬ i < out.length + 1 by omega, show i - out.length ≠ 0 by omega]
    rw [e]
    exact Ret_go [[0], [1]] (by simp [obsT, obT, okO, okP, okA, okC, okD, okI, reP, reA, reC, srcI, Nl_nil, Nl_cons, PV.nl, upd_at, ofL_n, ofL_c, VS, argsT, lendA, lendL, lendT, Cvl_nil, Cvl_cons, Cv_bool, Cv_int, Cv_str, Cv_nils, Cv_nilc, Cv_cl, Cv_ow, noFn, PV.noF, NR_iff, NRO, hb, ares, ares1, ldo, ld, nOw, PV.isOw, TY, TY4]) (by simp [obsT, obT, okO, okP, okA, okC, okD, okI, reP, reA, reC, srcI, Nl_nil, Nl_cons, PV.nl, upd_at, ofL_n, ofL_c, VS, argsT, lendA, lendL, lendT, Cvl_nil, Cvl_cons, Cv_bool, Cv_int, Cv_str, Cv_nils, Cv_nilc, Cv_cl, Cv_ow, noFn, PV.noF, NR_iff, NRO, hb, ares, ares1, ldo, ld, nOw, PV.isOw, TY, TY4]) (by simp [obsT, obT, okO, okP, okA, okC, okD, okI, reP, reA, reC, srcI, Nl_nil, Nl_cons, PV.nl, upd_at, ofL_n, ofL_c, VS, argsT, lendA, lendL, lendT, Cvl_nil, Cvl_cons, Cv_bool, Cv_int, Cv_str, Cv_nils, Cv_nilc, Cv_cl, Cv_ow, noFn, PV.noF, NR_iff, NRO, hb, ares, ares1, ldo, ld, nOw, PV.isOw, TY, TY4])
end Go.Proofs.Ytmmlpehfieojdaa.Wd
namespace Go.Proofs.Ytmmlpehfieojdaa.Wd
open Go Go.RowKit Go.Proofs Go.Proofs.YtmmlpehfieojdaaW.AW
set_option linter.unusedVariables false
set_option linter.unusedSimpArgs false
set_option maxRecDepth 100000
--VCX TY4
theorem strW_0 : strW [] = ⟨#[]⟩ := rfl
set_option maxHeartbeats 4000000 in
theorem ci_WordsOf (s : ByteArray) (hs : s.size ≤ 9223372036854775807) : AC Try.prog 66 [.str s] (ML []) (.sl [0] 1 (wordsOf s).length 0 (wordsOf s).length) (ML [.row 1 (wordsOf s).length (lpv pString (wordsOf s))]) := by
  refine AC.ofA Try.func66 rfl rfl (by simp [Try.ntmps66]) rfl (fun C hC hm => ?_)
  rw [Try.ntmps66] at hC
  have hn : C.m0.nx = _ := congrArg Mem.nx hm
  simp only [ML_nx, List.length_nil, List.length_cons, Nat.zero_add, Nat.reduceAdd] at hn
  refine AW_cut ?_
  simp only [hC, VS, VZ, TY, openC, foldC, foldN, PF, pick_or, pick_and, aop, aopD, rdN, wrN, idL, idA, apure, AS.ev, startA, strip, abin, aint, astr, alen, aslice, optI, aconv, aconvM, gdv, AS.put, ofVal, pcells, ld, ldo, nOw, PV.isOw, gtmp, within, astore, splice, afill, allCells, okIdx, asrc, aflat, aappend, hintOk, PV.clo, PV.clo1, ofL_n, ofL_c, nams, reO, reP, reA, reC, srcI, setG, obG, List.cons.injEq, aeq1, aeqs, onG, Int.reduceLE, Int.reduceNeg, Int.reduceLT, Nat.reduceEqDiff, ↓reduceIte, Nat.reduceLT, Nat.reduceLeDiff, Nat.reduceAdd, Nat.reduceMul, Nat.reduceSub, reduceCtorEq, Int.reduceEq, TY4]
  refine AW_cut ?_
  simp only [hC, VS, VZ, TY, openC, foldC, foldN, PF, pick_or, pick_and, aop, aopD, rdN, wrN, idL, idA, apure, AS.ev, startA, strip, abin, aint, astr, alen, aslice, optI, aconv, aconvM, gdv, AS.put, ofVal, pcells, ld, ldo, nOw, PV.isOw, gtmp, within, astore, splice, afill, allCells, okIdx, asrc, aflat, aappend, hintOk, PV.clo, PV.clo1, ofL_n, ofL_c, nams, reO, reP, reA, reC, srcI, setG, obG, List.cons.injEq, aeq1, aeqs, onG, Int.reduceLE, Int.reduceNeg, Int.reduceLT, Nat.reduceEqDiff, ↓reduceIte, Nat.reduceLT, Nat.reduceLeDiff, Nat.reduceAdd, Nat.reduceMul, Nat.reduceSub, reduceCtorEq, Int.reduceEq, TY4]
  refine ⟨fun h => ?_, fun h => ?_⟩
  · have hw : wordsOf s = [] := by unfold wordsOf; rw [if_neg (by simp at h; omega)]
    rw [hw]
    refine RetT.told (Told_nil 2 1 (lpv pString []) (by simp only [VS, VZ, TY, openC, foldC, foldN, PF, pick_or, pick_and, aop, aopD, rdN, wrN, idL, idA, apure, AS.ev, startA, strip, abin, aint, astr, alen, aslice, optI, aconv, aconvM, gdv, AS.put, ofVal, pcells, ld, ldo, nOw, PV.isOw, gtmp, within, astore, splice, afill, allCells, okIdx, asrc, aflat, aappend, hintOk, PV.clo, PV.clo1, ofL_n, ofL_c, nams, reO, reP, reA, reC, srcI, setG, obG, List.cons.injEq, aeq1, aeqs, onG, Int.reduceLE, Int.reduceNeg, Int.reduceLT, Nat.reduceEqDiff, ↓reduceIte, Nat.reduceLT, Nat.reduceLeDiff, Nat.reduceAdd, Nat.reduceMul, Nat.reduceSub, reduceCtorEq, Int.reduceEq, TY4])) ?_
    exact Ret_go [[0]] (by simp [obsT, obT, okO, okP, okA, okC, okD, okI, reP, reA, reC, srcI, Nl_nil, Nl_cons, PV.nl, upd_at, ofL_n, ofL_c, VS, argsT, lendA, lendL, lendT, Cvl_nil, Cvl_cons, Cv_bool, Cv_int, Cv_str, Cv_nils, Cv_nilc, Cv_cl, Cv_ow, noFn, PV.noF, NR_iff, NRO, hb, ares, ares1, ldo, ld, nOw, PV.isOw, TY, TY4]) (by simp [obsT, obT, okO, okP, okA, okC, okD, okI, reP, reA, reC, srcI, Nl_nil, Nl_cons, PV.nl, upd_at, ofL_n, ofL_c, VS, argsT, lendA, lendL, lendT, Cvl_nil, Cvl_cons, Cv_bool, Cv_int, Cv_str, Cv_nils, Cv_nilc, Cv_cl, Cv_ow, noFn, PV.noF, NR_iff, NRO, hb, ares, ares1, ldo, ld, nOw, PV.isOw, TY, TY4]) (by simp [obsT, obT, okO, okP, okA, okC, okD, okI, reP, reA, reC, srcI, Nl_nil, Nl_cons, PV.nl, upd_at, ofL_n, ofL_c, VS, argsT, lendA, lendL, lendT, Cvl_nil, Cvl_cons, Cv_bool, Cv_int, Cv_str, Cv_nils, Cv_nilc, Cv_cl, Cv_ow, noFn, PV.noF, NR_iff, NRO, hb, ares, ares1, ldo, ld, nOw, PV.isOw, TY, TY4])
  have hz : s.size ≤ 100 := by simp at h; omega
  refine AW_cut ?_
  simp only [hC, VS, VZ, TY, openC, foldC, foldN, PF, pick_or, pick_and, aop, aopD, rdN, wrN, idL, idA, apure, AS.ev, startA, strip, abin, aint, astr, alen, aslice, optI, aconv, aconvM, gdv, AS.put, ofVal, pcells, ld, ldo, nOw, PV.isOw, gtmp, within, astore, splice, afill, allCells, okIdx, asrc, aflat, aappend, hintOk, PV.clo, PV.clo1, ofL_n, ofL_c, nams, reO, reP, reA, reC, srcI, setG, obG, List.cons.injEq, aeq1, aeqs, onG, Int.reduceLE, Int.reduceNeg, Int.reduceLT, Nat.reduceEqDiff, ↓reduceIte, Nat.reduceLT, Nat.reduceLeDiff, Nat.reduceAdd, Nat.reduceMul, Nat.reduceSub, reduceCtorEq, Int.reduceEq, TY4]
  refine AW_cut ?_
  simp only [hC, VS, VZ, TY, openC, foldC, foldN, PF, pick_or, pick_and, aop, aopD, rdN, wrN, idL, idA, apure, AS.ev, startA, strip, abin, aint, astr, alen, aslice, optI, aconv, aconvM, gdv, AS.put, ofVal, pcells, ld, ldo, nOw, PV.isOw, gtmp, within, astore, splice, afill, allCells, okIdx, asrc, aflat, aappend, hintOk, PV.clo, PV.clo1, ofL_n, ofL_c, nams, reO, reP, reA, reC, srcI, setG, obG, List.cons.injEq, aeq1, aeqs, onG, Int.reduceLE, Int.reduceNeg, Int.reduceLT, Nat.reduceEqDiff, ↓reduceIte, Nat.reduceLT, Nat.reduceLeDiff, Nat.reduceAdd, Nat.reduceMul, Nat.reduceSub, reduceCtorEq, Int.reduceEq, TY4]
  refine AW_cut ?_
  simp only [hC, VS, VZ, TY, openC, foldC, foldN, PF, pick_or, pick_and, aop, aopD, rdN, wrN, idL, idA, apure, AS.ev, startA, strip, abin, aint, astr, alen, aslice, optI, aconv, aconvM, gdv, AS.put, ofVal, pcells, ld, ldo, nOw, PV.isOw, gtmp, within, astore, splice, afill, allCells, okIdx, asrc, aflat, aappend, hintOk, PV.clo, PV.clo1, ofL_n, ofL_c, nams, reO, reP, reA, reC, srcI, setG, obG, List.cons.injEq, aeq1, aeqs, onG, Int.reduceLE, Int.reduceNeg, Int.reduceLT, Nat.reduceEqDiff, ↓reduceIte, Nat.reduceLT, Nat.reduceLeDiff, Nat.reduceAdd, Nat.reduceMul, Nat.reduceSub, reduceCtorEq, Int.reduceEq, TY4]
  refine AW_cut ?_
  simp only [hC, VS, VZ, TY, openC, foldC, foldN, PF, pick_or, pick_and, aop, aopD, rdN, wrN, idL, idA, apure, AS.ev, startA, strip, abin, aint, astr, alen, aslice, optI, aconv, aconvM, gdv, AS.put, ofVal, pcells, ld, ldo, nOw, PV.isOw, gtmp, within, astore, splice, afill, allCells, okIdx, asrc, aflat, aappend, hintOk, PV.clo, PV.clo1, ofL_n, ofL_c, nams, reO, reP, reA, reC, srcI, setG, obG, List.cons.injEq, aeq1, aeqs, onG, Int.reduceLE, Int.reduceNeg, Int.reduceLT, Nat.reduceEqDiff, ↓reduceIte, Nat.reduceLT, Nat.reduceLeDiff, Nat.reduceAdd, Nat.reduceMul, Nat.reduceSub, reduceCtorEq, Int.reduceEq, TY4]
  refine AL.go (X := Nat) (fun i => ⟨ofL [(0, .str s), (3, .bp [0] 0), (4, .bp [1] 0), (5, .fn 118 [.bp [1] 0, .bp [0] 0]), (6, .int .i64 (i : Int))], ML [.box [.ow 1 (wTo s i).2.length (lpv pString (wTo s i).2)], .box [.str (strW (wTo s i).1)]]⟩) (fun i => s.size - i) (fun i => i ≤ s.size) 0 (by simp) ?_ (fun i hi => vc_ok _ _ _ ?_)
  · refine T_foldn [0] 0 0 1 ?_
    simp only [VS, VZ, TY, openC, foldC, foldN, PF, pick_or, pick_and, aop, aopD, rdN, wrN, idL, idA, apure, AS.ev, startA, strip, abin, aint, astr, alen, aslice, optI, aconv, aconvM, gdv, AS.put, ofVal, pcells, ld, ldo, nOw, PV.isOw, gtmp, within, astore, splice, afill, allCells, okIdx, asrc, aflat, aappend, hintOk, PV.clo, PV.clo1, ofL_n, ofL_c, nams, reO, reP, reA, reC, srcI, setG, obG, List.cons.injEq, aeq1, aeqs, onG, Int.reduceLE, Int.reduceNeg, Int.reduceLT, Nat.reduceEqDiff, ↓reduceIte, Nat.reduceLT, Nat.reduceLeDiff, Nat.reduceAdd, Nat.reduceMul, Nat.reduceSub, reduceCtorEq, Int.reduceEq, TY4]
    exact Told_go hn [[0], [1]] (by simp [obsT, obT, okO, okP, okA, okC, okD, okI, reP, reA, reC, srcI, Nl_nil, Nl_cons, PV.nl, upd_at, ofL_n, ofL_c, VS, argsT, lendA, lendL, lendT, Cvl_nil, Cvl_cons, Cv_bool, Cv_int, Cv_str, Cv_nils, Cv_nilc, Cv_cl, Cv_ow, noFn, PV.noF, NR_iff, NRO, hb, ares, ares1, ldo, ld, nOw, PV.isOw, TY, TY4]) (by simp [wTo, strW_0, lpv_nil, obsT, obT, okO, okP, okA, okC, okD, okI, reP, reA, reC, srcI, Nl_nil, Nl_cons, PV.nl, upd_at, ofL_n, ofL_c, VS, argsT, lendA, lendL, lendT, Cvl_nil, Cvl_cons, Cv_bool, Cv_int, Cv_str, Cv_nils, Cv_nilc, Cv_cl, Cv_ow, noFn, PV.noF, NR_iff, NRO, hb, ares, ares1, ldo, ld, nOw, PV.isOw, TY, TY4]) (by simp [obsT, obT, okO, okP, okA, okC, okD, okI, reP, reA, reC, srcI, Nl_nil, Nl_cons, PV.nl, upd_at, ofL_n, ofL_c, VS, argsT, lendA, lendL, lendT, Cvl_nil, Cvl_cons, Cv_bool, Cv_int, Cv_str, Cv_nils, Cv_nilc, Cv_cl, Cv_ow, noFn, PV.noF, NR_iff, NRO, hb, ares, ares1, ldo, ld, nOw, PV.isOw, TY, TY4])
  have hlen := wTo_len s i
  simp only [hC, VS, VZ, TY, openC, foldC, foldN, PF, pick_or, pick_and, aop, aopD, rdN, wrN, idL, idA, apure, AS.ev, startA, strip, abin, aint, astr, alen, aslice, optI, aconv, aconvM, gdv, AS.put, ofVal, pcells, ld, ldo, nOw, PV.isOw, gtmp, within, astore, splice, afill, allCells, okIdx, asrc, aflat, aappend, hintOk, PV.clo, PV.clo1, ofL_n, ofL_c, nams, reO, reP, reA, reC, srcI, setG, obG, List.cons.injEq, aeq1, aeqs, onG, Int.reduceLE, Int.reduceNeg, Int.reduceLT, Nat.reduceEqDiff, ↓reduceIte, Nat.reduceLT, Nat.reduceLeDiff, Nat.reduceAdd, Nat.reduceMul, Nat.reduceSub, reduceCtorEq, Int.reduceEq, TY4]
  refine ⟨fun h1 => ?_, fun h1 => ?_⟩
  · have h1 : i < s.size := by simpa using h1
    have hbt := bt_in s i
    have hst : wTo s (i + 1) = stepW (wTo s i) (bt s i) := rfl
    have w3 : IntKind.i64.wrap ((i : Int) + 1) = (i : Int) + 1 := wr64 (by omega) (by omega)
    have wi : IntKind.i32.wrap (bt s i) = bt s i := wr32 (by omega) (by omega)
    have hsz := strW_size (wTo s i).1
    obtain ⟨W, hW⟩ : ∃ W, W = (wTo s i).1 := ⟨_, rfl⟩
    obtain ⟨out, hout⟩ : ∃ out, out = (wTo s i).2 := ⟨_, rfl⟩
    have hp : wTo s i = (W, out) := by rw [hW, hout]
    rw [← hW] at hlen hsz ⊢
    rw [← hout] at hlen ⊢
    rw [hp] at hst
    clear hp hW hout
    refine ⟨by omega, fun h2 => ?_, fun h2 => ?_⟩
    · have h2 : (97 ≤ bt s i ∧ bt s i ≤ 122) ∨ (48 ≤ bt s i ∧ bt s i ≤ 57) := by simpa using h2
      have hl : lowB (bt s i) = bt s i := by unfold lowB; rw [if_neg (by omega)]
      have hisw : isW (bt s i) = true := by simp [isW]; omega
      rw [stepW, hl, if_pos hisw] at hst
      rw [wi, enc_W hbt.1 (by omega), strW_app]
      refine ⟨by rw [hsz]; simp only [List.length_singleton, strW_size]; omega, ?_⟩
      exact ⟨i + 1, by omega, by omega, Told_go hn [[0], [1]] (by simp [w3, obsT, obT, okO, okP, okA, okC, okD, okI, reP, reA, reC, srcI, Nl_nil, Nl_cons, PV.nl, upd_at, ofL_n, ofL_c, VS, argsT, lendA, lendL, lendT, Cvl_nil, Cvl_cons, Cv_bool, Cv_int, Cv_str, Cv_nils, Cv_nilc, Cv_cl, Cv_ow, noFn, PV.noF, NR_iff, NRO, hb, ares, ares1, ldo, ld, nOw, PV.isOw, TY, TY4]) (by simp [hst, obsT, obT, okO, okP, okA, okC, okD, okI, reP, reA, reC, srcI, Nl_nil, Nl_cons, PV.nl, upd_at, ofL_n, ofL_c, VS, argsT, lendA, lendL, lendT, Cvl_nil, Cvl_cons, Cv_bool, Cv_int, Cv_str, Cv_nils, Cv_nilc, Cv_cl, Cv_ow, noFn, PV.noF, NR_iff, NRO, hb, ares, ares1, ldo, ld, nOw, PV.isOw, TY, TY4]) (by simp [obsT, obT, okO, okP, okA, okC, okD, okI, reP, reA, reC, srcI, Nl_nil, Nl_cons, PV.nl, upd_at, ofL_n, ofL_c, VS, argsT, lendA, lendL, lendT, Cvl_nil, Cvl_cons, Cv_bool, Cv_int, Cv_str, Cv_nils, Cv_nilc, Cv_cl, Cv_ow, noFn, PV.noF, NR_iff, NRO, hb, ares, ares1, ldo, ld, nOw, PV.isOw, TY, TY4])⟩
    · have h2 : ¬ ((97 ≤ bt s i ∧ bt s i ≤ 122) ∨ (48 ≤ bt s i ∧ bt s i ≤ 57)) := by simp at h2; omega
      refine ⟨fun h3 => ?_, fun h3 => ?_⟩
      · have h3 : 65 ≤ bt s i ∧ bt s i ≤ 90 := by simpa using h3
        have hl : lowB (bt s i) = bt s i + 32 := by unfold lowB; rw [if_pos h3]
        have hisw : isW (bt s i + 32) = true := by simp [isW]; omega
        rw [stepW, hl, if_pos hisw] at hst
        have wa : IntKind.u8.wrap (bt s i - 65) = bt s i - 65 := wr8 (by omega) (by omega)
        have wb : IntKind.u8.wrap (bt s i - 65 + 97) = bt s i + 32 := by rw [wr8 (by omega) (by omega)]; omega
        rw [wa, wb, wr32 (by omega) (by omega), enc_W (by omega) (by omega), strW_app]
        refine ⟨by rw [hsz]; simp only [List.length_singleton, strW_size]; omega, ?_⟩
        exact ⟨i + 1, by omega, by omega, Told_go hn [[0], [1]] (by simp [w3, obsT, obT, okO, okP, okA, okC, okD, okI, reP, reA, reC, srcI, Nl_nil, Nl_cons, PV.nl, upd_at, ofL_n, ofL_c, VS, argsT, lendA, lendL, lendT, Cvl_nil, Cvl_cons, Cv_bool, Cv_int, Cv_str, Cv_nils, Cv_nilc, Cv_cl, Cv_ow, noFn, PV.noF, NR_iff, NRO, hb, ares, ares1, ldo, ld, nOw, PV.isOw, TY, TY4]) (by simp [hst, obsT, obT, okO, okP, okA, okC, okD, okI, reP, reA, reC, srcI, Nl_nil, Nl_cons, PV.nl, upd_at, ofL_n, ofL_c, VS, argsT, lendA, lendL, lendT, Cvl_nil, Cvl_cons, Cv_bool, Cv_int, Cv_str, Cv_nils, Cv_nilc, Cv_cl, Cv_ow, noFn, PV.noF, NR_iff, NRO, hb, ares, ares1, ldo, ld, nOw, PV.isOw, TY, TY4]) (by simp [obsT, obT, okO, okP, okA, okC, okD, okI, reP, reA, reC, srcI, Nl_nil, Nl_cons, PV.nl, upd_at, ofL_n, ofL_c, VS, argsT, lendA, lendL, lendT, Cvl_nil, Cvl_cons, Cv_bool, Cv_int, Cv_str, Cv_nils, Cv_nilc, Cv_cl, Cv_ow, noFn, PV.noF, NR_iff, NRO, hb, ares, ares1, ldo, ld, nOw, PV.isOw, TY, TY4])⟩
      · have h3 : ¬ (65 ≤ bt s i ∧ bt s i ≤ 90) := by simp at h3; omega
        have hl : lowB (bt s i) = bt s i := by unfold lowB; rw [if_neg h3]
        have hisw : isW (bt s i) = false := by simp [isW]; omega
        rw [stepW, hl, hisw, if_neg (by simp)] at hst
        refine acall_go false [[1], [0]] (ci_end W out (by omega) (by omega)) (by simp [obsT, obT, okO, okP, okA, okC, okD, okI, reP, reA, reC, srcI, Nl_nil, Nl_cons, PV.nl, upd_at, ofL_n, ofL_c, VS, argsT, lendA, lendL, lendT, Cvl_nil, Cvl_cons, Cv_bool, Cv_int, Cv_str, Cv_nils, Cv_nilc, Cv_cl, Cv_ow, noFn, PV.noF, NR_iff, NRO, hb, ares, ares1, ldo, ld, nOw, PV.isOw, TY, TY4]) (by simp [obsT, obT, okO, okP, okA, okC, okD, okI, reP, reA, reC, srcI, Nl_nil, Nl_cons, PV.nl, upd_at, ofL_n, ofL_c, VS, argsT, lendA, lendL, lendT, Cvl_nil, Cvl_cons, Cv_bool, Cv_int, Cv_str, Cv_nils, Cv_nilc, Cv_cl, Cv_ow, noFn, PV.noF, NR_iff, NRO, hb, ares, ares1, ldo, ld, nOw, PV.isOw, TY, TY4]) (by simp [obsT, obT, okO, okP, okA, okC, okD, okI, reP, reA, reC, srcI, Nl_nil, Nl_cons, PV.nl, upd_at, ofL_n, ofL_c, VS, argsT, lendA, lendL, lendT, Cvl_nil, Cvl_cons, Cv_bool, Cv_int, Cv_str, Cv_nils, Cv_nilc, Cv_cl, Cv_ow, noFn, PV.noF, NR_iff, NRO, hb, ares, ares1, ldo, ld, nOw, PV.isOw, TY, TY4]) (by simp [obsT, obT, okO, okP, okA, okC, okD, okI, reP, reA, reC, srcI, Nl_nil, Nl_cons, PV.nl, upd_at, ofL_n, ofL_c, VS, argsT, lendA, lendL, lendT, Cvl_nil, Cvl_cons, Cv_bool, Cv_int, Cv_str, Cv_nils, Cv_nilc, Cv_cl, Cv_ow, noFn, PV.noF, NR_iff, NRO, hb, ares, ares1, ldo, ld, nOw, PV.isOw, TY, TY4]) (by simp [obsT, obT, okO, okP, okA, okC, okD, okI, reP, reA, reC, srcI, Nl_nil, Nl_cons, PV.nl, upd_at, ofL_n, ofL_c, VS, argsT, lendA, lendL, lendT, Cvl_nil, Cvl_cons, Cv_bool, Cv_int, Cv_str, Cv_nils, Cv_nilc, Cv_cl, Cv_ow, noFn, PV.noF, NR_iff, NRO, hb, ares, ares1, ldo, ld, nOw, PV.isOw, TY, TY4]) (by simp [obsT, obT, okO, okP, okA, okC, okD, okI, reP, reA, reC, srcI, Nl_nil, Nl_cons, PV.nl, upd_at, ofL_n, ofL_c, VS, argsT, lendA, lendL, lendT, Cvl_nil, Cvl_cons, Cv_bool, Cv_int, Cv_str, Cv_nils, Cv_nilc, Cv_cl, Cv_ow, noFn, PV.noF, NR_iff, NRO, hb, ares, ares1, ldo, ld, nOw, PV.isOw, TY, TY4]) (.inl rfl) ?_
        simp only [hC, w3, VS, VZ, TY, openC, foldC, foldN, PF, pick_or, pick_and, aop, aopD, rdN, wrN, idL, idA, apure, AS.ev, startA, strip, abin, aint, astr, alen, aslice, optI, aconv, aconvM, gdv, AS.put, ofVal, pcells, ld, ldo, nOw, PV.isOw, gtmp, within, astore, splice, afill, allCells, okIdx, asrc, aflat, aappend, hintOk, PV.clo, PV.clo1, ofL_n, ofL_c, nams, reO, reP, reA, reC, srcI, setG, obG, List.cons.injEq, aeq1, aeqs, onG, Int.reduceLE, Int.reduceNeg, Int.reduceLT, Nat.reduceEqDiff, ↓reduceIte, Nat.reduceLT, Nat.reduceLeDiff, Nat.reduceAdd, Nat.reduceMul, Nat.reduceSub, reduceCtorEq, Int.reduceEq, TY4]
        exact ⟨i + 1, by omega, by omega, Told_go hn [[0], [1]] (by simp [w3, obsT, obT, okO, okP, okA, okC, okD, okI, reP, reA, reC, srcI, Nl_nil, Nl_cons, PV.nl, upd_at, ofL_n, ofL_c, VS, argsT, lendA, lendL, lendT, Cvl_nil, Cvl_cons, Cv_bool, Cv_int, Cv_str, Cv_nils, Cv_nilc, Cv_cl, Cv_ow, noFn, PV.noF, NR_iff, NRO, hb, ares, ares1, ldo, ld, nOw, PV.isOw, TY, TY4]) (by simp [hst, strW_0, obsT, obT, okO, okP, okA, okC, okD, okI, reP, reA, reC, srcI, Nl_nil, Nl_cons, PV.nl, upd_at, ofL_n, ofL_c, VS, argsT, lendA, lendL, lendT, Cvl_nil, Cvl_cons, Cv_bool, Cv_int, Cv_str, Cv_nils, Cv_nilc, Cv_cl, Cv_ow, noFn, PV.noF, NR_iff, NRO, hb, ares, ares1, ldo, ld, nOw, PV.isOw, TY, TY4]) (by simp [obsT, obT, okO, okP, okA, okC, okD, okI, reP, reA, reC, srcI, Nl_nil, Nl_cons, PV.nl, upd_at, ofL_n, ofL_c, VS, argsT, lendA, lendL, lendT, Cvl_nil, Cvl_cons, Cv_bool, Cv_int, Cv_str, Cv_nils, Cv_nilc, Cv_cl, Cv_ow, noFn, PV.noF, NR_iff, NRO, hb, ares, ares1, ldo, ld, nOw, PV.isOw, TY, TY4])⟩
  have : i = s.size := by simp at h1; omega
  subst this
  have hw : wordsOf s = endW (wTo s s.size).1 (wTo s s.size).2 := by unfold wordsOf; rw [if_pos hz]
  rw [hw]
  refine AW_cut ?_
  simp only [hC, VS, VZ, TY, openC, foldC, foldN, PF, pick_or, pick_and, aop, aopD, rdN, wrN, idL, idA, apure, AS.ev, startA, strip, abin, aint, astr, alen, aslice, optI, aconv, aconvM, gdv, AS.put, ofVal, pcells, ld, ldo, nOw, PV.isOw, gtmp, within, astore, splice, afill, allCells, okIdx, asrc, aflat, aappend, hintOk, PV.clo, PV.clo1, ofL_n, ofL_c, nams, reO, reP, reA, reC, srcI, setG, obG, List.cons.injEq, aeq1, aeqs, onG, Int.reduceLE, Int.reduceNeg, Int.reduceLT, Nat.reduceEqDiff, ↓reduceIte, Nat.reduceLT, Nat.reduceLeDiff, Nat.reduceAdd, Nat.reduceMul, Nat.reduceSub, reduceCtorEq, Int.reduceEq, TY4]
  refine acall_go false [[1], [0]] (ci_end (wTo s s.size).1 (wTo s s.size).2 (by omega) (by omega)) (by simp [obsT, obT, okO, okP, okA, okC, okD, okI, reP, reA, reC, srcI, Nl_nil, Nl_cons, PV.nl, upd_at, ofL_n, ofL_c, VS, argsT, lendA, lendL, lendT, Cvl_nil, Cvl_cons, Cv_bool, Cv_int, Cv_str, Cv_nils, Cv_nilc, Cv_cl, Cv_ow, noFn, PV.noF, NR_iff, NRO, hb, ares, ares1, ldo, ld, nOw, PV.isOw, TY, TY4]) (by simp [obsT, obT, okO, okP, okA, okC, okD, okI, reP, reA, reC, srcI, Nl_nil, Nl_cons, PV.nl, upd_at, ofL_n, ofL_c, VS, argsT, lendA, lendL, lendT, Cvl_nil, Cvl_cons, Cv_bool, Cv_int, Cv_str, Cv_nils, Cv_nilc, Cv_cl, Cv_ow, noFn, PV.noF, NR_iff, NRO, hb, ares, ares1, ldo, ld, nOw, PV.isOw, TY, TY4]) (by simp [obsT, obT, okO, okP, okA, okC, okD, okI, reP, reA, reC, srcI, Nl_nil, Nl_cons, PV.nl, upd_at, ofL_n, ofL_c, VS, argsT, lendA, lendL, lendT, Cvl_nil, Cvl_cons, Cv_bool, Cv_int, Cv_str, Cv_nils, Cv_nilc, Cv_cl, Cv_ow, noFn, PV.noF, NR_iff, NRO, hb, ares, ares1, ldo, ld, nOw, PV.isOw, TY, TY4]) (by simp [obsT, obT, okO, okP, okA, okC, okD, okI, reP, reA, reC, srcI, Nl_nil, Nl_cons, PV.nl, upd_at, ofL_n, ofL_c, VS, argsT, lendA, lendL, lendT, Cvl_nil, Cvl_cons, Cv_bool, Cv_int, Cv_str, Cv_nils, Cv_nilc, Cv_cl, Cv_ow, noFn, PV.noF, NR_iff, NRO, hb, ares, ares1, ldo, ld, nOw, PV.isOw, TY, TY4]) (by simp [obsT, obT, okO, okP, okA, okC, okD, okI, reP, reA, reC, srcI, Nl_nil, Nl_cons, PV.nl, upd_at, ofL_n, ofL_c, VS, argsT, lendA, lendL, lendT, Cvl_nil, Cvl_cons, Cv_bool, Cv_int, Cv_str, Cv_nils, Cv_nilc, Cv_cl, Cv_ow, noFn, PV.noF, NR_iff, NRO, hb, ares, ares1, ldo, ld, nOw, PV.isOw, TY, TY4]) (by simp [obsT, obT, okO, okP, okA, okC, okD, okI, reP, reA, reC, srcI, Nl_nil, Nl_cons, PV.nl, upd_at, ofL_n, ofL_c, VS, argsT, lendA, lendL, lendT, Cvl_nil, Cvl_cons, Cv_bool, Cv_int, Cv_str, Cv_nils, Cv_nilc, Cv_cl, Cv_ow, noFn, PV.noF, NR_iff, NRO, hb, ares, ares1, ldo, ld, nOw, PV.isOw, TY, TY4]) (.inl rfl) ?_
  simp only [hC, VS, VZ, TY, openC, foldC, foldN, PF, pick_or, pick_and, aop, aopD, rdN, wrN, idL, idA, apure, AS.ev, startA, strip, abin, aint, astr, alen, aslice, optI, aconv, aconvM, gdv, AS.put, ofVal, pcells, ld, ldo, nOw, PV.isOw, gtmp, within, astore, splice, afill, allCells, okIdx, asrc, aflat, aappend, hintOk, PV.clo, PV.clo1, ofL_n, ofL_c, nams, reO, reP, reA, reC, srcI, setG, obG, List.cons.injEq, aeq1, aeqs, onG, Int.reduceLE, Int.reduceNeg, Int.reduceLT, Nat.reduceEqDiff, ↓reduceIte, Nat.reduceLT, Nat.reduceLeDiff, Nat.reduceAdd, Nat.reduceMul, Nat.reduceSub, reduceCtorEq, Int.reduceEq, TY4]
  refine AW_open [0] 0 0 ?_
  simp only [VS, VZ, TY, openC, foldC, foldN, PF, pick_or, pick_and, aop, aopD, rdN, wrN, idL, idA, apure, AS.ev, startA, strip, abin, aint, astr, alen, aslice, optI, aconv, aconvM, gdv, AS.put, ofVal, pcells, ld, ldo, nOw, PV.isOw, gtmp, within, astore, splice, afill, allCells, okIdx, asrc, aflat, aappend, hintOk, PV.clo, PV.clo1, ofL_n, ofL_c, nams, reO, reP, reA, reC, srcI, setG, obG, List.cons.injEq, aeq1, aeqs, onG, Int.reduceLE, Int.reduceNeg, Int.reduceLT, Nat.reduceEqDiff, ↓reduceIte, Nat.reduceLT, Nat.reduceLeDiff, Nat.reduceAdd, Nat.reduceMul, Nat.reduceSub, reduceCtorEq, Int.reduceEq, TY4]
  refine vc_ok _ _ _ ?_
  simp only [hC, VS, VZ, TY, openC, foldC, foldN, PF, pick_or, pick_and, aop, aopD, rdN, wrN, idL, idA, apure, AS.ev, startA, strip, abin, aint, astr, alen, aslice, optI, aconv, aconvM, gdv, AS.put, ofVal, pcells, ld, ldo, nOw, PV.isOw, gtmp, within, astore, splice, afill, allCells, okIdx, asrc, aflat, aappend, hintOk, PV.clo, PV.clo1, ofL_n, ofL_c, nams, reO, reP, reA, reC, srcI, setG, obG, List.cons.injEq, aeq1, aeqs, onG, Int.reduceLE, Int.reduceNeg, Int.reduceLT, Nat.reduceEqDiff, ↓reduceIte, Nat.reduceLT, Nat.reduceLeDiff, Nat.reduceAdd, Nat.reduceMul, Nat.reduceSub, reduceCtorEq, Int.reduceEq, TY4]
  exact Ret_go [[2]] (by simp [obsT, obT, okO, okP, okA, okC, okD, okI, reP, reA, reC, srcI, Nl_nil, Nl_cons, PV.nl, upd_at, ofL_n, ofL_c, VS, argsT, lendA, lendL, lendT, Cvl_nil, Cvl_cons, Cv_bool, Cv_int, Cv_str, Cv_nils, Cv_nilc, Cv_cl, Cv_ow, noFn, PV.noF, NR_iff, NRO, hb, ares, ares1, ldo, ld, nOw, PV.isOw, TY, TY4]) (by simp [nl_String, obsT, obT, okO, okP, okA, okC, okD, okI, reP, reA, reC, srcI, Nl_nil, Nl_cons, PV.nl, upd_at, ofL_n, ofL_c, VS, argsT, lendA, lendL, lendT, Cvl_nil, Cvl_cons, Cv_bool, Cv_int, Cv_str, Cv_nils, Cv_nilc, Cv_cl, Cv_ow, noFn, PV.noF, NR_iff, NRO, hb, ares, ares1, ldo, ld, nOw, PV.isOw, TY, TY4]) (by simp [nl_String, obsT, obT, okO, okP, okA, okC, okD, okI, reP, reA, reC, srcI, Nl_nil, Nl_cons, PV.nl, upd_at, ofL_n, ofL_c, VS, argsT, lendA, lendL, lendT, Cvl_nil, Cvl_cons, Cv_bool, Cv_int, Cv_str, Cv_nils, Cv_nilc, Cv_cl, Cv_ow, noFn, PV.noF, NR_iff, NRO, hb, ares, ares1, ldo, ld, nOw, PV.isOw, TY, TY4])
end Go.Proofs.Ytmmlpehfieojdaa.Wd
namespace Go.Proofs.Ytmmlpehfieojdaa.Wd
open Go Go.RowKit Go.Proofs Go.Proofs.YtmmlpehfieojdaaW.AW
set_option linter.unusedVariables false
set_option linter.unusedSimpArgs false
set_option maxRecDepth 100000
theorem c_eqStringS (L : List ByteArray) (hL : L.length ≤ 1048576) : AC Try.prog 67 [.cl 1 L.length (lpv pString L), .cl 1 L.length (lpv pString L)] (ML []) (.bool true) (ML []) := by
  refine AC.of Try.func67 rfl rfl (by simp [Try.ntmps67]) rfl (fun C hC hm => ?_)
  rw [Try.ntmps67] at hC
  have hn : C.m0.nx = _ := congrArg Mem.nx hm
  simp only [ML_nx, List.length_nil, List.length_cons, Nat.zero_add, Nat.reduceAdd] at hn
  simp only [hC, VS, VZ, TY, openC, foldC, foldN, PF, pick_or, pick_and, aop, aopD, rdN, wrN, idL, idA, apure, AS.ev, startA, strip, abin, aint, astr, alen, aslice, optI, aconv, aconvM, gdv, AS.put, ofVal, pcells, ld, ldo, nOw, PV.isOw, gtmp, within, astore, splice, afill, allCells, okIdx, asrc, aflat, aappend, hintOk, PV.clo, PV.clo1, ofL_n, ofL_c, nams, reO, reP, reA, reC, srcI, setG, obG, List.cons.injEq, aeq1, aeqs, onG, Int.reduceLE, Int.reduceNeg, Int.reduceLT, Nat.reduceEqDiff, ↓reduceIte, Nat.reduceLT, Nat.reduceLeDiff, Nat.reduceAdd, Nat.reduceMul, Nat.reduceSub, reduceCtorEq, Int.reduceEq]
  refine AL.go (X := Nat) (fun i => ⟨ofL [(0, .cl 1 L.length (lpv pString L)), (1, .cl 1 L.length (lpv pString L)), (5, .int .i64 (i : Int))], ML []⟩) (fun i => L.length - i) (fun i => i ≤ L.length) 0 (Nat.zero_le _) (Told_go hn [] tS tS (by simp)) (fun i hi => vc_ok _ _ _ ?_)
  simp only [hC, VS, VZ, TY, openC, foldC, foldN, PF, pick_or, pick_and, aop, aopD, rdN, wrN, idL, idA, apure, AS.ev, startA, strip, abin, aint, astr, alen, aslice, optI, aconv, aconvM, gdv, AS.put, ofVal, pcells, ld, ldo, nOw, PV.isOw, gtmp, within, astore, splice, afill, allCells, okIdx, asrc, aflat, aappend, hintOk, PV.clo, PV.clo1, ofL_n, ofL_c, nams, reO, reP, reA, reC, srcI, setG, obG, List.cons.injEq, aeq1, aeqs, onG, Int.reduceLE, Int.reduceNeg, Int.reduceLT, Nat.reduceEqDiff, ↓reduceIte, Nat.reduceLT, Nat.reduceLeDiff, Nat.reduceAdd, Nat.reduceMul, Nat.reduceSub, reduceCtorEq, Int.reduceEq]
  refine ⟨fun h => ?_, fun h => ?_⟩
  · have h : i < L.length := by simpa using h
    have e : lpv pString L i = [.str L[i]] := lpv_at h
    simp only [e, VS, VZ, TY, openC, foldC, foldN, PF, pick_or, pick_and, aop, aopD, rdN, wrN, idL, idA, apure, AS.ev, startA, strip, abin, aint, astr, alen, aslice, optI, aconv, aconvM, gdv, AS.put, ofVal, pcells, ld, ldo, nOw, PV.isOw, gtmp, within, astore, splice, afill, allCells, okIdx, asrc, aflat, aappend, hintOk, PV.clo, PV.clo1, ofL_n, ofL_c, nams, reO, reP, reA, reC, srcI, setG, obG, List.cons.injEq, aeq1, aeqs, onG, Int.reduceLE, Int.reduceNeg, Int.reduceLT, Nat.reduceEqDiff, ↓reduceIte, Nat.reduceLT, Nat.reduceLeDiff, Nat.reduceAdd, Nat.reduceMul, Nat.reduceSub, reduceCtorEq, Int.reduceEq]
    refine ⟨by kernel_rfl, by simpa using h, by simpa using h, ?_⟩
    simp (disch := omega) only [wr64]
    exact ⟨i + 1, by omega, by omega, Told_go hn [] tS tS (by simp)⟩
  · exact Ret_go [] tS tS (by simp)
end Go.Proofs.Ytmmlpehfieojdaa.Wd
namespace Go.Proofs.Ytmmlpehfieojdaa.Wd
open Go Go.RowKit Go.Proofs Go.Proofs.YtmmlpehfieojdaaW.AW
set_option linter.unusedVariables false
set_option linter.unusedSimpArgs false
set_option maxRecDepth 100000
namespace MT
theorem TY : (tyD Try.prog 3 = ⟨TK.int IntKind.i64, 1, [], [PV.int IntKind.i64 0], true, 0, 0, false, [], PV.int IntKind.i64 0, true, false, []⟩ ∧ tk Try.prog 3 = TK.int IntKind.i64 ∧ (tkU8 Try.prog 3 ↔ False)) ∧
    (tyD Try.prog 4 = ⟨TK.bool, 1, [], [PV.bool false], true, 0, 0, false, [], PV.bool false, true, false, []⟩ ∧ tk Try.prog 4 = TK.bool ∧ (tkU8 Try.prog 4 ↔ False)) ∧
    (tyD Try.prog 9 = ⟨TK.string, 1, [], [PV.str ByteArray.empty], true, 0, 0, false, [], PV.str ByteArray.empty, true, false, []⟩ ∧ tk Try.prog 9 = TK.string ∧ (tkU8 Try.prog 9 ↔ False)) ∧
    (tyD Try.prog 22 = ⟨TK.slice 5, 1, [], [PV.nils], true, 1, 1, true, [PV.int IntKind.u8 0], PV.nils, true, false, []⟩ ∧ tk Try.prog 22 = TK.slice 5 ∧ ((∃ e', Try.prog.underlying 22 = some (.slice e')) ↔ True) ∧ (tkU8 Try.prog 22 ↔ True)) ∧
    (tyD Try.prog 5 = ⟨TK.int IntKind.u8, 1, [], [PV.int IntKind.u8 0], true, 0, 0, false, [], PV.int IntKind.u8 0, true, false, []⟩ ∧ tk Try.prog 5 = TK.int IntKind.u8 ∧ (tkU8 Try.prog 5 ↔ False)) :=
  ⟨⟨by kernel_rfl, by kernel_rfl, ⟨fun h => absurd h (by decide +kernel), fun h => h.elim⟩⟩,
    ⟨by kernel_rfl, by kernel_rfl, ⟨fun h => absurd h (by decide +kernel), fun h => h.elim⟩⟩,
    ⟨by kernel_rfl, by kernel_rfl, ⟨fun h => absurd h (by decide +kernel), fun h => h.elim⟩⟩,
    ⟨by kernel_rfl, by kernel_rfl, ⟨fun _ => trivial, fun _ => ⟨5, by kernel_rfl⟩⟩, ⟨fun _ => trivial, fun _ => by unfold tkU8; rw [show tk Try.prog 22 = TK.slice 5 from by kernel_rfl]; exact (by kernel_rfl : tk Try.prog 5 = TK.int IntKind.u8)⟩⟩,
    ⟨by kernel_rfl, by kernel_rfl, ⟨fun h => absurd h (by decide +kernel), fun h => h.elim⟩⟩⟩
theorem PF : Try.prog.follows .mixedOrders = true := by kernel_rfl
def dig (k : Int) : ByteArray := bytesG 1 (fun _ => [.int .u8 (IntKind.u8.wrap (48 + k.tmod 10))])
def digs (k : Nat) (acc : ByteArray) : ByteArray := if h : k = 0 then acc else digs (k / 10) (dig k ++ acc)
decreasing_by omega
def mkT (k : Int) : ByteArray := if k ≤ 0 then ByteArray.mk #[109, 48] else ByteArray.mk #[109] ++ digs k.toNat ByteArray.empty
theorem c_markText (k : Int) (hk0 : 0 ≤ k) (hk : k ≤ 4611686018427387904) : AC Try.prog 119 [.int .i64 k] (ML []) (.str (mkT k)) (ML []) := by
  refine AC.of Try.func119 rfl rfl (by simp [Try.ntmps119]) rfl (fun C hC hm => ?_)
  rw [Try.ntmps119] at hC
  have hn : C.m0.nx = _ := congrArg Mem.nx hm
  simp only [ML_nx, List.length_nil, List.length_cons, Nat.zero_add, Nat.reduceAdd] at hn
  simp only [hC, VS, VZ, TY, openC, foldC, foldN, PF, pick_or, pick_and, aop, aopD, rdN, wrN, idL, idA, apure, AS.ev, startA, strip, abin, aint, astr, alen, aslice, optI, aconv, aconvM, gdv, AS.put, ofVal, pcells, ld, ldo, nOw, PV.isOw, gtmp, within, astore, splice, afill, allCells, okIdx, asrc, aflat, aappend, hintOk, PV.clo, PV.clo1, ofL_n, ofL_c, nams, reO, reP, reA, reC, srcI, setG, obG, List.cons.injEq, aeq1, aeqs, onG, Int.reduceLE, Int.reduceNeg, Int.reduceLT, Nat.reduceEqDiff, ↓reduceIte, Nat.reduceLT, Nat.reduceLeDiff, Nat.reduceAdd, Nat.reduceMul, Nat.reduceSub, reduceCtorEq, Int.reduceEq]
  refine ⟨fun h => ?_, fun h => ?_⟩ <;> simp at h
  · exact Ret_go [] (by simp [mkT, h, obsT, obT, okO, okP, okA, okC, okD, okI, reP, reA, reC, srcI, Nl_nil, Nl_cons, PV.nl, upd_at, ofL_n, ofL_c, VS, argsT, lendA, lendL, lendT, Cvl_nil, Cvl_cons, Cv_bool, Cv_int, Cv_str, Cv_nils, Cv_nilc, Cv_cl, Cv_ow, noFn, PV.noF, NR_iff, NRO, hb, ares, ares1, ldo, ld, nOw, PV.isOw, TY]) (by simp [obsT, obT, okO, okP, okA, okC, okD, okI, reP, reA, reC, srcI, Nl_nil, Nl_cons, PV.nl, upd_at, ofL_n, ofL_c, VS, argsT, lendA, lendL, lendT, Cvl_nil, Cvl_cons, Cv_bool, Cv_int, Cv_str, Cv_nils, Cv_nilc, Cv_cl, Cv_ow, noFn, PV.noF, NR_iff, NRO, hb, ares, ares1, ldo, ld, nOw, PV.isOw, TY]) (by simp)
  have hs : mkT k = ByteArray.mk #[109] ++ digs k.toNat ByteArray.empty := by rw [mkT, if_neg (by omega)]
  generalize mkT k = tot at *
  refine AL.go (X := Int × ByteArray) (fun p => ⟨ofL [(0, .int .i64 p.1), (3, .str p.2)], ML []⟩) (fun p => p.1.toNat) (fun p => 0 ≤ p.1 ∧ (p.2.size : Int) + p.1 ≤ 4611686018427387904 ∧ tot = ByteArray.mk #[109] ++ digs p.1.toNat p.2) (k, ByteArray.empty) ⟨hk0, by simp; omega, hs⟩
    (Told_go hn [] (by simp [obsT, obT, okO, okP, okA, okC, okD, okI, reP, reA, reC, srcI, Nl_nil, Nl_cons, PV.nl, upd_at, ofL_n, ofL_c, VS, argsT, lendA, lendL, lendT, Cvl_nil, Cvl_cons, Cv_bool, Cv_int, Cv_str, Cv_nils, Cv_nilc, Cv_cl, Cv_ow, noFn, PV.noF, NR_iff, NRO, hb, ares, ares1, ldo, ld, nOw, PV.isOw, TY]; exact rfl) (by simp [obsT, obT, okO, okP, okA, okC, okD, okI, reP, reA, reC, srcI, Nl_nil, Nl_cons, PV.nl, upd_at, ofL_n, ofL_c, VS, argsT, lendA, lendL, lendT, Cvl_nil, Cvl_cons, Cv_bool, Cv_int, Cv_str, Cv_nils, Cv_nilc, Cv_cl, Cv_ow, noFn, PV.noF, NR_iff, NRO, hb, ares, ares1, ldo, ld, nOw, PV.isOw, TY]) (by simp)) ?_
  rintro ⟨k, out⟩ ⟨h0, hb, ht⟩
  simp only at h0 hb ht ⊢
  refine vc_ok _ _ _ ?_
  simp only [hC, VS, VZ, TY, openC, foldC, foldN, PF, pick_or, pick_and, aop, aopD, rdN, wrN, idL, idA, apure, AS.ev, startA, strip, abin, aint, astr, alen, aslice, optI, aconv, aconvM, gdv, AS.put, ofVal, pcells, ld, ldo, nOw, PV.isOw, gtmp, within, astore, splice, afill, allCells, okIdx, asrc, aflat, aappend, hintOk, PV.clo, PV.clo1, ofL_n, ofL_c, nams, reO, reP, reA, reC, srcI, setG, obG, List.cons.injEq, aeq1, aeqs, onG, Int.reduceLE, Int.reduceNeg, Int.reduceLT, Nat.reduceEqDiff, ↓reduceIte, Nat.reduceLT, Nat.reduceLeDiff, Nat.reduceAdd, Nat.reduceMul, Nat.reduceSub, reduceCtorEq, Int.reduceEq]
  refine ⟨fun h => ?_, fun h => ?_⟩ <;> simp at h
  · have m1 : k.tmod 10 = k % 10 := Int.tmod_eq_emod_of_nonneg h0
    have m2 : k.tdiv 10 = k / 10 := Int.tdiv_eq_ediv_of_nonneg h0
    have m3 : 0 ≤ k % 10 ∧ k % 10 < 10 := by omega
    have b1 : 0 ≤ k.tmod 10 ∧ k.tmod 10 < 10 := by rw [m1]; omega
    simp only [m2]
    simp (disch := omega) only [wr64]
    have e : (fun i : Nat => [[PV.int .u8 (IntKind.u8.wrap (48 + k.tmod 10))]].getD i []) = fun i => if i = 0 then [PV.int .u8 (IntKind.u8.wrap (48 + k.tmod 10))] else [] := by funext i; cases i <;> simp
    have e2 : bytesG 1 (fun i : Nat => [[PV.int .u8 (IntKind.u8.wrap (48 + k.tmod 10))]].getD i []) = dig k := by simp [bytesG, dig]
    have hd : (dig k).size = 1 := bytesG_size _ _
    simp only [e2, hd]
    refine ⟨fun i hi => ⟨IntKind.u8.wrap (48 + k.tmod 10), by cases i with
                                  | zero => rfl
                                  | succ i => omega⟩, by omega, (k / 10, dig k ++ out), ⟨by simp only; omega, by simp only [ByteArray.size_append, hd]; omega, ?_⟩, by simp only; omega, Told_go hn [] (by simp [obsT, obT, okO, okP, okA, okC, okD, okI, reP, reA, reC, srcI, Nl_nil, Nl_cons, PV.nl, upd_at, ofL_n, ofL_c, VS, argsT, lendA, lendL, lendT, Cvl_nil, Cvl_cons, Cv_bool, Cv_int, Cv_str, Cv_nils, Cv_nilc, Cv_cl, Cv_ow, noFn, PV.noF, NR_iff, NRO, hb, ares, ares1, ldo, ld, nOw, PV.isOw, TY]) (by simp [obsT, obT, okO, okP, okA, okC, okD, okI, reP, reA, reC, srcI, Nl_nil, Nl_cons, PV.nl, upd_at, ofL_n, ofL_c, VS, argsT, lendA, lendL, lendT, Cvl_nil, Cvl_cons, Cv_bool, Cv_int, Cv_str, Cv_nils, Cv_nilc, Cv_cl, Cv_ow, noFn, PV.noF, NR_iff, NRO, hb, ares, ares1, ldo, ld, nOw, PV.isOw, TY]) (by simp)⟩
    rw [ht, digs, dif_neg (by omega)]
    have e3 : ((k.toNat : Nat) : Int) = k := by omega
    have e4 : k.toNat / 10 = (k / 10).toNat := by omega
    rw [e3, e4]
  · have : k = 0 := by omega
    subst this
    have hq : digs 0 out = out := by rw [digs]; simp
    have ht : tot = ByteArray.mk #[109] ++ out := by rw [ht]; simp [hq]
    refine ⟨?_, ?_⟩
    · omega
    exact Ret_go [] (by simp [ht, obsT, obT, okO, okP, okA, okC, okD, okI, reP, reA, reC, srcI, Nl_nil, Nl_cons, PV.nl, upd_at, ofL_n, ofL_c, VS, argsT, lendA, lendL, lendT, Cvl_nil, Cvl_cons, Cv_bool, Cv_int, Cv_str, Cv_nils, Cv_nilc, Cv_cl, Cv_ow, noFn, PV.noF, NR_iff, NRO, hb, ares, ares1, ldo, ld, nOw, PV.isOw, TY]) (by simp [obsT, obT, okO, okP, okA, okC, okD, okI, reP, reA, reC, srcI, Nl_nil, Nl_cons, PV.nl, upd_at, ofL_n, ofL_c, VS, argsT, lendA, lendL, lendT, Cvl_nil, Cvl_cons, Cv_bool, Cv_int, Cv_str, Cv_nils, Cv_nilc, Cv_cl, Cv_ow, noFn, PV.noF, NR_iff, NRO, hb, ares, ares1, ldo, ld, nOw, PV.isOw, TY]) (by simp)
end MT
end Go.Proofs.Ytmmlpehfieojdaa.Wd
namespace Go.Proofs.Ytmmlpehfieojdaa.Wd
open Go Go.RowKit Go.Proofs Go.Proofs.YtmmlpehfieojdaaW.AW
set_option linter.unusedVariables false
set_option linter.unusedSimpArgs false
set_option maxRecDepth 100000
def cntString (x : ByteArray) : Nat := 1
def mkString (k : Int) (x : ByteArray) : ByteArray := MT.mkT (k)
def cntStringS : List ByteArray → Nat
  | [] => 0
  | x :: L => cntString x + cntStringS L
def mkStringS (k : Int) : List ByteArray → List ByteArray
  | [] => []
  | x :: L => mkString k x :: mkStringS (k + (cntString x : Nat)) L
theorem cntStringS_ge (L : List ByteArray) : L.length ≤ cntStringS L := by
  induction L with
  | nil => simp
  | cons x L ih => simp only [List.length_cons, cntStringS, cntString]; omega
theorem mkStringS_len (k : Int) (L) : (mkStringS k L).length = L.length := by
  induction L generalizing k with
  | nil => rfl
  | cons x L ih => simp [mkStringS, ih]
def cntCall (x : Cl) : Nat := 3
def mkCall (k : Int) (x : Cl) : Cl := ⟨k, k + 1, k + 2⟩
def cntCallS : List Cl → Nat
  | [] => 0
  | x :: L => cntCall x + cntCallS L
def mkCallS (k : Int) : List Cl → List Cl
  | [] => []
  | x :: L => mkCall k x :: mkCallS (k + (cntCall x : Nat)) L
def cntTrip (x : Tp) : Nat := 2 + cntCallS x.calls
def mkTrip (k : Int) (x : Tp) : Tp := ⟨MT.mkT (k), k + 1, mkCallS (k + 2) x.calls⟩
def mkTripS (k : Int) : List Tp → List Tp
  | [] => []
  | x :: L => mkTrip k x :: mkTripS (k + (cntTrip x : Nat)) L
theorem mkTripS_len (k : Int) (L) : (mkTripS k L).length = L.length := by
  induction L generalizing k with
  | nil => rfl
  | cons x L ih => simp [mkTripS, ih]
def cntWalk (x : Wk_) : Nat := 3
def mkWalk (k : Int) (x : Wk_) : Wk_ := ⟨k, k + 1, k + 2⟩
def mkWalkS (k : Int) : List Wk_ → List Wk_
  | [] => []
  | x :: L => mkWalk k x :: mkWalkS (k + (cntWalk x : Nat)) L
theorem mkWalkS_len (k : Int) (L) : (mkWalkS k L).length = L.length := by
  induction L generalizing k with
  | nil => rfl
  | cons x L ih => simp [mkWalkS, ih]
theorem c_markStringS (L : List ByteArray) (k : Int) (hk0 : 0 ≤ k) (hk : k + (cntStringS L : Nat) ≤ 4611686018427387904) : AC Try.prog 68 [.sl [0] 1 L.length 0 L.length, .int .i64 k] (ML [.row 1 L.length (lpv pString L)]) (.int .i64 (k + (cntStringS L : Nat))) (ML [.row 1 L.length (lpv pString (mkStringS k L))]) := by
  refine AC.ofA Try.func68 rfl rfl (by simp [Try.ntmps68]) rfl (fun C hC hm => ?_)
  rw [Try.ntmps68] at hC
  have hn : C.m0.nx = _ := congrArg Mem.nx hm
  simp only [ML_nx, List.length_nil, List.length_cons, Nat.zero_add, Nat.reduceAdd] at hn
  have hL := cntStringS_ge L
  have hML := mkStringS_len k L
  generalize hM : mkStringS k L = M at *
  obtain ⟨r, hr⟩ : ∃ r : Int, r = k + (cntStringS L : Nat) := ⟨_, rfl⟩
  rw [← hr]
  rw [← hr] at hk
  refine vc_ok _ _ _ ?_
  simp only [hC, VS, VZ, TY, openC, foldC, foldN, PF, pick_or, pick_and, aop, aopD, rdN, wrN, idL, idA, apure, AS.ev, startA, strip, abin, aint, astr, alen, aslice, optI, aconv, aconvM, gdv, AS.put, ofVal, pcells, ld, ldo, nOw, PV.isOw, gtmp, within, astore, splice, afill, allCells, okIdx, asrc, aflat, aappend, hintOk, PV.clo, PV.clo1, ofL_n, ofL_c, nams, reO, reP, reA, reC, srcI, setG, obG, List.cons.injEq, aeq1, aeqs, onG, Int.reduceLE, Int.reduceNeg, Int.reduceLT, Nat.reduceEqDiff, ↓reduceIte, Nat.reduceLT, Nat.reduceLeDiff, Nat.reduceAdd, Nat.reduceMul, Nat.reduceSub, reduceCtorEq, Int.reduceEq]
  refine AL.go (X := Nat × Int) (fun p => ⟨ofL [(0, .sl [0] 1 L.length 0 L.length), (1, .int .i64 p.2), (5, .int .i64 (p.1 : Int))], ML [.row 1 L.length (upto p.1 (lpv pString M) (lpv pString L))]⟩) (fun p => L.length - p.1) (fun p => p.1 ≤ L.length ∧ 0 ≤ p.2 ∧ M.drop p.1 = mkStringS p.2 (L.drop p.1) ∧ r = p.2 + (cntStringS (L.drop p.1) : Nat)) (0, k) ⟨Nat.zero_le _, hk0, by simp [hM], by simpa using hr⟩
    (Told_go hn [[0]] tS (by simp [upto_0, nl_String, obsT, obT, okO, okP, okA, okC, okD, okI, reP, reA, reC, srcI, Nl_nil, Nl_cons, PV.nl, upd_at, ofL_n, ofL_c, VS, argsT, lendA, lendL, lendT, Cvl_nil, Cvl_cons, Cv_bool, Cv_int, Cv_str, Cv_nils, Cv_nilc, Cv_cl, Cv_ow, noFn, PV.noF, NR_iff, NRO, hb, ares, ares1, ldo, ld, nOw, PV.isOw, TY]) (by simp [upto_0, nl_String, obsT, obT, okO, okP, okA, okC, okD, okI, reP, reA, reC, srcI, Nl_nil, Nl_cons, PV.nl, upd_at, ofL_n, ofL_c, VS, argsT, lendA, lendL, lendT, Cvl_nil, Cvl_cons, Cv_bool, Cv_int, Cv_str, Cv_nils, Cv_nilc, Cv_cl, Cv_ow, noFn, PV.noF, NR_iff, NRO, hb, ares, ares1, ldo, ld, nOw, PV.isOw, TY])) ?_
  rintro ⟨i, k⟩ ⟨hi, hk0, hM, hr⟩
  simp only at hi hk0 hM hr ⊢
  by_cases h : i < L.length
  · have eo : lpv pString L i = [.str L[i]] := lpv_at h
    have hcx : cntString L[i] = 1 := rfl
    have hdec : decide ((i : Int) < (L.length : Int)) = true := by simpa using h
    have hbi : (0 ≤ (i : Int) ∧ (i : Int) < (L.length : Int)) ↔ True := by simp; omega
    rw [List.drop_eq_getElem_cons h, List.drop_eq_getElem_cons (show i < M.length by omega), mkStringS, List.cons.injEq] at hM
    rw [List.drop_eq_getElem_cons h, cntStringS] at hr
    have em : lpv pString M i = [.str (MT.mkT (k))] := by rw [lpv_at (show i < M.length by omega), hM.1]; simp [pString, mkString, upd_at]
    refine vc_ok _ _ _ ?_
    simp only [hC, eo, hdec, hbi, VS, VZ, TY, openC, foldC, foldN, PF, pick_or, pick_and, aop, aopD, rdN, wrN, idL, idA, apure, AS.ev, startA, strip, abin, aint, astr, alen, aslice, optI, aconv, aconvM, gdv, AS.put, ofVal, pcells, ld, ldo, nOw, PV.isOw, gtmp, within, astore, splice, afill, allCells, okIdx, asrc, aflat, aappend, hintOk, PV.clo, PV.clo1, ofL_n, ofL_c, nams, reO, reP, reA, reC, srcI, setG, obG, List.cons.injEq, aeq1, aeqs, onG, Int.reduceLE, Int.reduceNeg, Int.reduceLT, Nat.reduceEqDiff, ↓reduceIte, Nat.reduceLT, Nat.reduceLeDiff, Nat.reduceAdd, Nat.reduceMul, Nat.reduceSub, reduceCtorEq, Int.reduceEq]
    try (simp (disch := omega) only [wr64, Int.add_assoc, Int.reduceAdd, eq_self, decide_true, decide_false, Bool.not_true, Bool.not_false, true_implies, false_implies, Bool.false_eq_true, Bool.true_eq_false, and_true, true_and, and_self, beq_self_eq_true])
    refine acall_p false (MT.c_markText (k) (by omega) (by omega)) (by simp [obsT, obT, okO, okP, okA, okC, okD, okI, reP, reA, reC, srcI, Nl_nil, Nl_cons, PV.nl, upd_at, ofL_n, ofL_c, VS, argsT, lendA, lendL, lendT, Cvl_nil, Cvl_cons, Cv_bool, Cv_int, Cv_str, Cv_nils, Cv_nilc, Cv_cl, Cv_ow, noFn, PV.noF, NR_iff, NRO, hb, ares, ares1, ldo, ld, nOw, PV.isOw, TY] <;> omega) tS (.inl rfl) ?_
    simp only [hC, hdec, hbi, VS, VZ, TY, openC, foldC, foldN, PF, pick_or, pick_and, aop, aopD, rdN, wrN, idL, idA, apure, AS.ev, startA, strip, abin, aint, astr, alen, aslice, optI, aconv, aconvM, gdv, AS.put, ofVal, pcells, ld, ldo, nOw, PV.isOw, gtmp, within, astore, splice, afill, allCells, okIdx, asrc, aflat, aappend, hintOk, PV.clo, PV.clo1, ofL_n, ofL_c, nams, reO, reP, reA, reC, srcI, setG, obG, List.cons.injEq, aeq1, aeqs, onG, Int.reduceLE, Int.reduceNeg, Int.reduceLT, Nat.reduceEqDiff, ↓reduceIte, Nat.reduceLT, Nat.reduceLeDiff, Nat.reduceAdd, Nat.reduceMul, Nat.reduceSub, reduceCtorEq, Int.reduceEq]
    try (simp (disch := omega) only [wr64, Int.add_assoc, Int.reduceAdd, eq_self, decide_true, decide_false, Bool.not_true, Bool.not_false, true_implies, false_implies, Bool.false_eq_true, Bool.true_eq_false, and_true, true_and, and_self, beq_self_eq_true])
    refine ⟨(i + 1, k + (cntString L[i] : Nat)), ⟨by simp only; omega, by simp only; omega, hM.2, by simp only; omega⟩, by simp only; omega, ?_⟩
    refine Told_go hn [[0]] (by simp [obsT, obT, okO, okP, okA, okC, okD, okI, reP, reA, reC, srcI, Nl_nil, Nl_cons, PV.nl, upd_at, ofL_n, ofL_c, VS, argsT, lendA, lendL, lendT, Cvl_nil, Cvl_cons, Cv_bool, Cv_int, Cv_str, Cv_nils, Cv_nilc, Cv_cl, Cv_ow, noFn, PV.noF, NR_iff, NRO, hb, ares, ares1, ldo, ld, nOw, PV.isOw, TY] <;> omega) ?_ ?_
    · simp only [obsT, obT, VS, VZ, TY, openC, foldC, foldN, PF, pick_or, pick_and, aop, aopD, rdN, wrN, idL, idA, apure, AS.ev, startA, strip, abin, aint, astr, alen, aslice, optI, aconv, aconvM, gdv, AS.put, ofVal, pcells, ld, ldo, nOw, PV.isOw, gtmp, within, astore, splice, afill, allCells, okIdx, asrc, aflat, aappend, hintOk, PV.clo, PV.clo1, ofL_n, ofL_c, nams, reO, reP, reA, reC, srcI, setG, obG, List.cons.injEq, aeq1, aeqs, onG, Int.reduceLE, Int.reduceNeg, Int.reduceLT, Nat.reduceEqDiff, ↓reduceIte, Nat.reduceLT, Nat.reduceLeDiff, Nat.reduceAdd, Nat.reduceMul, Nat.reduceSub, reduceCtorEq, Int.reduceEq]
      intro j hj
      by_cases q : j = i
      · subst q; simp [upto_eq, em, eo, obsT, obT, okO, okP, okA, okC, okD, okI, reP, reA, reC, srcI, Nl_nil, Nl_cons, PV.nl, upd_at, ofL_n, ofL_c, VS, argsT, lendA, lendL, lendT, Cvl_nil, Cvl_cons, Cv_bool, Cv_int, Cv_str, Cv_nils, Cv_nilc, Cv_cl, Cv_ow, noFn, PV.noF, NR_iff, NRO, hb, ares, ares1, ldo, ld, nOw, PV.isOw, TY]
      · simp [upto_ne q, q, Nl_upto, nl_String, obsT, obT, okO, okP, okA, okC, okD, okI, reP, reA, reC, srcI, Nl_nil, Nl_cons, PV.nl, upd_at, ofL_n, ofL_c, VS, argsT, lendA, lendL, lendT, Cvl_nil, Cvl_cons, Cv_bool, Cv_int, Cv_str, Cv_nils, Cv_nilc, Cv_cl, Cv_ow, noFn, PV.noF, NR_iff, NRO, hb, ares, ares1, ldo, ld, nOw, PV.isOw, TY]
    · simp [Nl_upto, nl_String, obsT, obT, okO, okP, okA, okC, okD, okI, reP, reA, reC, srcI, Nl_nil, Nl_cons, PV.nl, upd_at, ofL_n, ofL_c, VS, argsT, lendA, lendL, lendT, Cvl_nil, Cvl_cons, Cv_bool, Cv_int, Cv_str, Cv_nils, Cv_nilc, Cv_cl, Cv_ow, noFn, PV.noF, NR_iff, NRO, hb, ares, ares1, ldo, ld, nOw, PV.isOw, TY]
  · have : i = L.length := by omega
    subst this
    have hdec : decide ((L.length : Int) < (L.length : Int)) = false := by simp
    have hr : r = k := by simpa [cntStringS] using hr
    refine vc_ok _ _ _ ?_
    simp only [hC, hdec, VS, VZ, TY, openC, foldC, foldN, PF, pick_or, pick_and, aop, aopD, rdN, wrN, idL, idA, apure, AS.ev, startA, strip, abin, aint, astr, alen, aslice, optI, aconv, aconvM, gdv, AS.put, ofVal, pcells, ld, ldo, nOw, PV.isOw, gtmp, within, astore, splice, afill, allCells, okIdx, asrc, aflat, aappend, hintOk, PV.clo, PV.clo1, ofL_n, ofL_c, nams, reO, reP, reA, reC, srcI, setG, obG, List.cons.injEq, aeq1, aeqs, onG, Int.reduceLE, Int.reduceNeg, Int.reduceLT, Nat.reduceEqDiff, ↓reduceIte, Nat.reduceLT, Nat.reduceLeDiff, Nat.reduceAdd, Nat.reduceMul, Nat.reduceSub, reduceCtorEq, Int.reduceEq]
    exact Ret_go [[0]] (by simp [hr, obsT, obT, okO, okP, okA, okC, okD, okI, reP, reA, reC, srcI, Nl_nil, Nl_cons, PV.nl, upd_at, ofL_n, ofL_c, VS, argsT, lendA, lendL, lendT, Cvl_nil, Cvl_cons, Cv_bool, Cv_int, Cv_str, Cv_nils, Cv_nilc, Cv_cl, Cv_ow, noFn, PV.noF, NR_iff, NRO, hb, ares, ares1, ldo, ld, nOw, PV.isOw, TY]) (by simp (config := {contextual := true}) [upto_lt, nl_String, obsT, obT, okO, okP, okA, okC, okD, okI, reP, reA, reC, srcI, Nl_nil, Nl_cons, PV.nl, upd_at, ofL_n, ofL_c, VS, argsT, lendA, lendL, lendT, Cvl_nil, Cvl_cons, Cv_bool, Cv_int, Cv_str, Cv_nils, Cv_nilc, Cv_cl, Cv_ow, noFn, PV.noF, NR_iff, NRO, hb, ares, ares1, ldo, ld, nOw, PV.isOw, TY]) (by simp [nl_String, obsT, obT, okO, okP, okA, okC, okD, okI, reP, reA, reC, srcI, Nl_nil, Nl_cons, PV.nl, upd_at, ofL_n, ofL_c, VS, argsT, lendA, lendL, lendT, Cvl_nil, Cvl_cons, Cv_bool, Cv_int, Cv_str, Cv_nils, Cv_nilc, Cv_cl, Cv_ow, noFn, PV.noF, NR_iff, NRO, hb, ares, ares1, ldo, ld, nOw, PV.isOw, TY])
theorem c_heldStringS (L : List ByteArray) (k : Int) (hk0 : 0 ≤ k) (hk : k + (cntStringS L : Nat) ≤ 4611686018427387904) : AC Try.prog 69 [.cl 1 L.length (lpv pString (mkStringS k L)), .int .i64 k] (ML []) (.int .i64 (k + (cntStringS L : Nat))) (ML []) := by
  refine AC.of Try.func69 rfl rfl (by simp [Try.ntmps69]) rfl (fun C hC hm => ?_)
  rw [Try.ntmps69] at hC
  have hn : C.m0.nx = _ := congrArg Mem.nx hm
  simp only [ML_nx, List.length_nil, List.length_cons, Nat.zero_add, Nat.reduceAdd] at hn
  have hL := cntStringS_ge L
  have hML := mkStringS_len k L
  generalize hM : mkStringS k L = M at *
  obtain ⟨r, hr⟩ : ∃ r : Int, r = k + (cntStringS L : Nat) := ⟨_, rfl⟩
  rw [← hr]
  rw [← hr] at hk
  simp only [hC, VS, VZ, TY, openC, foldC, foldN, PF, pick_or, pick_and, aop, aopD, rdN, wrN, idL, idA, apure, AS.ev, startA, strip, abin, aint, astr, alen, aslice, optI, aconv, aconvM, gdv, AS.put, ofVal, pcells, ld, ldo, nOw, PV.isOw, gtmp, within, astore, splice, afill, allCells, okIdx, asrc, aflat, aappend, hintOk, PV.clo, PV.clo1, ofL_n, ofL_c, nams, reO, reP, reA, reC, srcI, setG, obG, List.cons.injEq, aeq1, aeqs, onG, Int.reduceLE, Int.reduceNeg, Int.reduceLT, Nat.reduceEqDiff, ↓reduceIte, Nat.reduceLT, Nat.reduceLeDiff, Nat.reduceAdd, Nat.reduceMul, Nat.reduceSub, reduceCtorEq, Int.reduceEq]
  refine AL.go (X := Nat × Int) (fun p => ⟨ofL [(0, .cl 1 L.length (lpv pString M)), (1, .int .i64 p.2), (5, .int .i64 (p.1 : Int))], ML []⟩) (fun p => L.length - p.1) (fun p => p.1 ≤ L.length ∧ 0 ≤ p.2 ∧ M.drop p.1 = mkStringS p.2 (L.drop p.1) ∧ r = p.2 + (cntStringS (L.drop p.1) : Nat)) (0, k) ⟨Nat.zero_le _, hk0, by simp [hM], by simpa using hr⟩
    (Told_go hn [] tS tS (by simp)) ?_
  rintro ⟨i, k⟩ ⟨hi, hk0, hM, hr⟩
  simp only at hi hk0 hM hr ⊢
  by_cases h : i < L.length
  · have hcx : cntString L[i] = 1 := rfl
    have hdec : decide ((i : Int) < (L.length : Int)) = true := by simpa using h
    have hbi : (0 ≤ (i : Int) ∧ (i : Int) < (L.length : Int)) ↔ True := by simp; omega
    rw [List.drop_eq_getElem_cons h, List.drop_eq_getElem_cons (show i < M.length by omega), mkStringS, List.cons.injEq] at hM
    rw [List.drop_eq_getElem_cons h, cntStringS] at hr
    have em : lpv pString M i = [.str (MT.mkT (k))] := by rw [lpv_at (show i < M.length by omega), hM.1]; simp [pString, mkString, upd_at]
    refine vc_ok _ _ _ ?_
    simp only [hC, em, hdec, hbi, VS, VZ, TY, openC, foldC, foldN, PF, pick_or, pick_and, aop, aopD, rdN, wrN, idL, idA, apure, AS.ev, startA, strip, abin, aint, astr, alen, aslice, optI, aconv, aconvM, gdv, AS.put, ofVal, pcells, ld, ldo, nOw, PV.isOw, gtmp, within, astore, splice, afill, allCells, okIdx, asrc, aflat, aappend, hintOk, PV.clo, PV.clo1, ofL_n, ofL_c, nams, reO, reP, reA, reC, srcI, setG, obG, List.cons.injEq, aeq1, aeqs, onG, Int.reduceLE, Int.reduceNeg, Int.reduceLT, Nat.reduceEqDiff, ↓reduceIte, Nat.reduceLT, Nat.reduceLeDiff, Nat.reduceAdd, Nat.reduceMul, Nat.reduceSub, reduceCtorEq, Int.reduceEq]
    try (simp (disch := omega) only [wr64, Int.add_assoc, Int.reduceAdd, eq_self, decide_true, decide_false, Bool.not_true, Bool.not_false, true_implies, false_implies, Bool.false_eq_true, Bool.true_eq_false, and_true, true_and, and_self, beq_self_eq_true])
    refine ⟨by kernel_rfl, ?_⟩
    refine acall_p false (MT.c_markText (k) (by omega) (by omega)) (by simp [obsT, obT, okO, okP, okA, okC, okD, okI, reP, reA, reC, srcI, Nl_nil, Nl_cons, PV.nl, upd_at, ofL_n, ofL_c, VS, argsT, lendA, lendL, lendT, Cvl_nil, Cvl_cons, Cv_bool, Cv_int, Cv_str, Cv_nils, Cv_nilc, Cv_cl, Cv_ow, noFn, PV.noF, NR_iff, NRO, hb, ares, ares1, ldo, ld, nOw, PV.isOw, TY] <;> omega) tS (.inl rfl) ?_
    simp only [hC, hdec, hbi, em, VS, VZ, TY, openC, foldC, foldN, PF, pick_or, pick_and, aop, aopD, rdN, wrN, idL, idA, apure, AS.ev, startA, strip, abin, aint, astr, alen, aslice, optI, aconv, aconvM, gdv, AS.put, ofVal, pcells, ld, ldo, nOw, PV.isOw, gtmp, within, astore, splice, afill, allCells, okIdx, asrc, aflat, aappend, hintOk, PV.clo, PV.clo1, ofL_n, ofL_c, nams, reO, reP, reA, reC, srcI, setG, obG, List.cons.injEq, aeq1, aeqs, onG, Int.reduceLE, Int.reduceNeg, Int.reduceLT, Nat.reduceEqDiff, ↓reduceIte, Nat.reduceLT, Nat.reduceLeDiff, Nat.reduceAdd, Nat.reduceMul, Nat.reduceSub, reduceCtorEq, Int.reduceEq]
    try (simp (disch := omega) only [wr64, Int.add_assoc, Int.reduceAdd, eq_self, decide_true, decide_false, Bool.not_true, Bool.not_false, true_implies, false_implies, Bool.false_eq_true, Bool.true_eq_false, and_true, true_and, and_self, beq_self_eq_true])
    refine ⟨(i + 1, k + (cntString L[i] : Nat)), ⟨by simp only; omega, by simp only; omega, hM.2, by simp only; omega⟩, by simp only; omega, ?_⟩
    exact Told_go hn [] (by simp [obsT, obT, okO, okP, okA, okC, okD, okI, reP, reA, reC, srcI, Nl_nil, Nl_cons, PV.nl, upd_at, ofL_n, ofL_c, VS, argsT, lendA, lendL, lendT, Cvl_nil, Cvl_cons, Cv_bool, Cv_int, Cv_str, Cv_nils, Cv_nilc, Cv_cl, Cv_ow, noFn, PV.noF, NR_iff, NRO, hb, ares, ares1, ldo, ld, nOw, PV.isOw, TY] <;> omega) tS (by simp)
  · have : i = L.length := by omega
    subst this
    have hdec : decide ((L.length : Int) < (L.length : Int)) = false := by simp
    have hr : r = k := by simpa [cntStringS] using hr
    refine vc_ok _ _ _ ?_
    simp only [hC, hdec, VS, VZ, TY, openC, foldC, foldN, PF, pick_or, pick_and, aop, aopD, rdN, wrN, idL, idA, apure, AS.ev, startA, strip, abin, aint, astr, alen, aslice, optI, aconv, aconvM, gdv, AS.put, ofVal, pcells, ld, ldo, nOw, PV.isOw, gtmp, within, astore, splice, afill, allCells, okIdx, asrc, aflat, aappend, hintOk, PV.clo, PV.clo1, ofL_n, ofL_c, nams, reO, reP, reA, reC, srcI, setG, obG, List.cons.injEq, aeq1, aeqs, onG, Int.reduceLE, Int.reduceNeg, Int.reduceLT, Nat.reduceEqDiff, ↓reduceIte, Nat.reduceLT, Nat.reduceLeDiff, Nat.reduceAdd, Nat.reduceMul, Nat.reduceSub, reduceCtorEq, Int.reduceEq]
    exact Ret_go [] (by simp [hr, obsT, obT, okO, okP, okA, okC, okD, okI, reP, reA, reC, srcI, Nl_nil, Nl_cons, PV.nl, upd_at, ofL_n, ofL_c, VS, argsT, lendA, lendL, lendT, Cvl_nil, Cvl_cons, Cv_bool, Cv_int, Cv_str, Cv_nils, Cv_nilc, Cv_cl, Cv_ow, noFn, PV.noF, NR_iff, NRO, hb, ares, ares1, ldo, ld, nOw, PV.isOw, TY]) tS (by simp)
end Go.Proofs.Ytmmlpehfieojdaa.Wd
namespace Go.Proofs.Ytmmlpehfieojdaa.Wd
open Go Go.RowKit Go.Proofs Go.Proofs.YtmmlpehfieojdaaW.AW
set_option linter.unusedVariables false
set_option linter.unusedSimpArgs false
set_option maxRecDepth 100000
--LS cv_String, cv_Trip, cv_Call, cv_Walk, nl_String, nl_Trip, nl_Walk, nr_String, nr_Trip, nr_Walk, mkStringS_len, mkTripS_len, mkWalkS_len
theorem cnt_strs (l : List ByteArray) : cntStringS l = l.length := by
  induction l with
  | nil => rfl
  | cons x l ih => simp only [cntStringS, ih, List.length_cons]; have : cntString x = 1 := rfl; omega
end Go.Proofs.Ytmmlpehfieojdaa.Wd
namespace Go.Proofs.Ytmmlpehfieojdaa.Wd
open Go Go.RowKit Go.Proofs Go.Proofs.YtmmlpehfieojdaaW.AW
set_option linter.unusedVariables false
set_option linter.unusedSimpArgs false
set_option maxRecDepth 100000
--LS cv_String, nl_String, nr_String, mkStringS_len
theorem wordsOf_len (s : ByteArray) : (wordsOf s).length ≤ 101 := by
  unfold wordsOf; split
  · have h1 := (wTo_len s s.size).2
    have h2 := endW_len (wTo s s.size).1 (wTo s s.size).2
    omega
  · simp
set_option maxHeartbeats 2000000 in
theorem conWordsOf (s : ByteArray) (hs : s.size ≤ 9223372036854775807) : AC Try.prog 13 [.str s] (ML []) (.bool true) (ML []) := by
  refine AC.of Try.func13 rfl rfl (by simp [Try.ntmps13]) rfl (fun C hC hm => ?_)
  rw [Try.ntmps13] at hC
  have hn : C.m0.nx = _ := congrArg Mem.nx hm
  simp only [ML_nx, List.length_nil, List.length_cons, Nat.zero_add, Nat.reduceAdd] at hn
  simp only [hC, VS, VZ, TY, openC, foldC, foldN, PF, pick_or, pick_and, aop, aopD, rdN, wrN, idL, idA, apure, AS.ev, startA, strip, abin, aint, astr, alen, aslice, optI, aconv, aconvM, gdv, AS.put, ofVal, pcells, ld, ldo, nOw, PV.isOw, gtmp, within, astore, splice, afill, allCells, okIdx, asrc, aflat, aappend, hintOk, PV.clo, PV.clo1, ofL_n, ofL_c, nams, reO, reP, reA, reC, srcI, setG, obG, List.cons.injEq, aeq1, aeqs, onG, Int.reduceLE, Int.reduceNeg, Int.reduceLT, Nat.reduceEqDiff, ↓reduceIte, Nat.reduceLT, Nat.reduceLeDiff, Nat.reduceAdd, Nat.reduceMul, Nat.reduceSub, reduceCtorEq, Int.reduceEq]
  refine ⟨fun h => ?_, fun h => ?_⟩
  · exact Ret_go [] tS tS tS
  have sp_ := cs_WordsOf s hs
  have im_ := ci_WordsOf s hs
  have hl := wordsOf_len s
  have hcn := cnt_strs (wordsOf s)
  have eq_ := c_eqStringS (wordsOf s) (by omega)
  have mk_ := c_markStringS (wordsOf s) 1 (by omega) (by omega)
  have he_ := c_heldStringS (wordsOf s) 1 (by omega) (by omega)
  have hc1 : decide ((1 : Int) + (cntStringS (wordsOf s) : Nat) < 0) = false := by simp; omega
  generalize wordsOf s = R at *
  refine acall_go true [] (sp_) (by simp [cv_String, nl_String, nr_String, mkStringS_len, obsT, obT, okO, okP, okA, okC, okD, okI, reP, reA, reC, srcI, Nl_nil, Nl_cons, PV.nl, upd_at, ofL_n, ofL_c, VS, argsT, lendA, lendL, lendT, Cvl_nil, Cvl_cons, Cv_bool, Cv_int, Cv_str, Cv_nils, Cv_nilc, Cv_cl, Cv_ow, noFn, PV.noF, NR_iff, NRO, hb, ares, ares1, ldo, ld, nOw, PV.isOw, TY]) (by simp [cv_String, nl_String, nr_String, mkStringS_len, obsT, obT, okO, okP, okA, okC, okD, okI, reP, reA, reC, srcI, Nl_nil, Nl_cons, PV.nl, upd_at, ofL_n, ofL_c, VS, argsT, lendA, lendL, lendT, Cvl_nil, Cvl_cons, Cv_bool, Cv_int, Cv_str, Cv_nils, Cv_nilc, Cv_cl, Cv_ow, noFn, PV.noF, NR_iff, NRO, hb, ares, ares1, ldo, ld, nOw, PV.isOw, TY]) (by simp [cv_String, nl_String, nr_String, mkStringS_len, obsT, obT, okO, okP, okA, okC, okD, okI, reP, reA, reC, srcI, Nl_nil, Nl_cons, PV.nl, upd_at, ofL_n, ofL_c, VS, argsT, lendA, lendL, lendT, Cvl_nil, Cvl_cons, Cv_bool, Cv_int, Cv_str, Cv_nils, Cv_nilc, Cv_cl, Cv_ow, noFn, PV.noF, NR_iff, NRO, hb, ares, ares1, ldo, ld, nOw, PV.isOw, TY]) tS tS (by simp [cv_String, nl_String, nr_String, mkStringS_len, obsT, obT, okO, okP, okA, okC, okD, okI, reP, reA, reC, srcI, Nl_nil, Nl_cons, PV.nl, upd_at, ofL_n, ofL_c, VS, argsT, lendA, lendL, lendT, Cvl_nil, Cvl_cons, Cv_bool, Cv_int, Cv_str, Cv_nils, Cv_nilc, Cv_cl, Cv_ow, noFn, PV.noF, NR_iff, NRO, hb, ares, ares1, ldo, ld, nOw, PV.isOw, TY]) (.inr ⟨by simp [obsT, obT, okO, okP, okA, okC, okD, okI, reP, reA, reC, srcI, Nl_nil, Nl_cons, PV.nl, upd_at, ofL_n, ofL_c, VS, argsT, lendA, lendL, lendT, Cvl_nil, Cvl_cons, Cv_bool, Cv_int, Cv_str, Cv_nils, Cv_nilc, Cv_cl, Cv_ow, noFn, PV.noF, NR_iff, NRO, hb, ares, ares1, ldo, ld, nOw, PV.isOw, TY], by simp [cv_String, nl_String, nr_String, mkStringS_len, obsT, obT, okO, okP, okA, okC, okD, okI, reP, reA, reC, srcI, Nl_nil, Nl_cons, PV.nl, upd_at, ofL_n, ofL_c, VS, argsT, lendA, lendL, lendT, Cvl_nil, Cvl_cons, Cv_bool, Cv_int, Cv_str, Cv_nils, Cv_nilc, Cv_cl, Cv_ow, noFn, PV.noF, NR_iff, NRO, hb, ares, ares1, ldo, ld, nOw, PV.isOw, TY]⟩) ?_
  simp only [hC, VS, VZ, TY, openC, foldC, foldN, PF, pick_or, pick_and, aop, aopD, rdN, wrN, idL, idA, apure, AS.ev, startA, strip, abin, aint, astr, alen, aslice, optI, aconv, aconvM, gdv, AS.put, ofVal, pcells, ld, ldo, nOw, PV.isOw, gtmp, within, astore, splice, afill, allCells, okIdx, asrc, aflat, aappend, hintOk, PV.clo, PV.clo1, ofL_n, ofL_c, nams, reO, reP, reA, reC, srcI, setG, obG, List.cons.injEq, aeq1, aeqs, onG, Int.reduceLE, Int.reduceNeg, Int.reduceLT, Nat.reduceEqDiff, ↓reduceIte, Nat.reduceLT, Nat.reduceLeDiff, Nat.reduceAdd, Nat.reduceMul, Nat.reduceSub, reduceCtorEq, Int.reduceEq]
  refine acall_go true [] (im_) (by simp [cv_String, nl_String, nr_String, mkStringS_len, obsT, obT, okO, okP, okA, okC, okD, okI, reP, reA, reC, srcI, Nl_nil, Nl_cons, PV.nl, upd_at, ofL_n, ofL_c, VS, argsT, lendA, lendL, lendT, Cvl_nil, Cvl_cons, Cv_bool, Cv_int, Cv_str, Cv_nils, Cv_nilc, Cv_cl, Cv_ow, noFn, PV.noF, NR_iff, NRO, hb, ares, ares1, ldo, ld, nOw, PV.isOw, TY]) (by simp [cv_String, nl_String, nr_String, mkStringS_len, obsT, obT, okO, okP, okA, okC, okD, okI, reP, reA, reC, srcI, Nl_nil, Nl_cons, PV.nl, upd_at, ofL_n, ofL_c, VS, argsT, lendA, lendL, lendT, Cvl_nil, Cvl_cons, Cv_bool, Cv_int, Cv_str, Cv_nils, Cv_nilc, Cv_cl, Cv_ow, noFn, PV.noF, NR_iff, NRO, hb, ares, ares1, ldo, ld, nOw, PV.isOw, TY]) (by simp [cv_String, nl_String, nr_String, mkStringS_len, obsT, obT, okO, okP, okA, okC, okD, okI, reP, reA, reC, srcI, Nl_nil, Nl_cons, PV.nl, upd_at, ofL_n, ofL_c, VS, argsT, lendA, lendL, lendT, Cvl_nil, Cvl_cons, Cv_bool, Cv_int, Cv_str, Cv_nils, Cv_nilc, Cv_cl, Cv_ow, noFn, PV.noF, NR_iff, NRO, hb, ares, ares1, ldo, ld, nOw, PV.isOw, TY]) tS tS (by simp [cv_String, nl_String, nr_String, mkStringS_len, obsT, obT, okO, okP, okA, okC, okD, okI, reP, reA, reC, srcI, Nl_nil, Nl_cons, PV.nl, upd_at, ofL_n, ofL_c, VS, argsT, lendA, lendL, lendT, Cvl_nil, Cvl_cons, Cv_bool, Cv_int, Cv_str, Cv_nils, Cv_nilc, Cv_cl, Cv_ow, noFn, PV.noF, NR_iff, NRO, hb, ares, ares1, ldo, ld, nOw, PV.isOw, TY]) (.inr ⟨by simp [obsT, obT, okO, okP, okA, okC, okD, okI, reP, reA, reC, srcI, Nl_nil, Nl_cons, PV.nl, upd_at, ofL_n, ofL_c, VS, argsT, lendA, lendL, lendT, Cvl_nil, Cvl_cons, Cv_bool, Cv_int, Cv_str, Cv_nils, Cv_nilc, Cv_cl, Cv_ow, noFn, PV.noF, NR_iff, NRO, hb, ares, ares1, ldo, ld, nOw, PV.isOw, TY], by simp [cv_String, nl_String, nr_String, mkStringS_len, obsT, obT, okO, okP, okA, okC, okD, okI, reP, reA, reC, srcI, Nl_nil, Nl_cons, PV.nl, upd_at, ofL_n, ofL_c, VS, argsT, lendA, lendL, lendT, Cvl_nil, Cvl_cons, Cv_bool, Cv_int, Cv_str, Cv_nils, Cv_nilc, Cv_cl, Cv_ow, noFn, PV.noF, NR_iff, NRO, hb, ares, ares1, ldo, ld, nOw, PV.isOw, TY]⟩) ?_
  simp only [hC, VS, VZ, TY, openC, foldC, foldN, PF, pick_or, pick_and, aop, aopD, rdN, wrN, idL, idA, apure, AS.ev, startA, strip, abin, aint, astr, alen, aslice, optI, aconv, aconvM, gdv, AS.put, ofVal, pcells, ld, ldo, nOw, PV.isOw, gtmp, within, astore, splice, afill, allCells, okIdx, asrc, aflat, aappend, hintOk, PV.clo, PV.clo1, ofL_n, ofL_c, nams, reO, reP, reA, reC, srcI, setG, obG, List.cons.injEq, aeq1, aeqs, onG, Int.reduceLE, Int.reduceNeg, Int.reduceLT, Nat.reduceEqDiff, ↓reduceIte, Nat.reduceLT, Nat.reduceLeDiff, Nat.reduceAdd, Nat.reduceMul, Nat.reduceSub, reduceCtorEq, Int.reduceEq]
  refine acall_p true (eq_) (by simp [cv_String, nl_String, nr_String, mkStringS_len, obsT, obT, okO, okP, okA, okC, okD, okI, reP, reA, reC, srcI, Nl_nil, Nl_cons, PV.nl, upd_at, ofL_n, ofL_c, VS, argsT, lendA, lendL, lendT, Cvl_nil, Cvl_cons, Cv_bool, Cv_int, Cv_str, Cv_nils, Cv_nilc, Cv_cl, Cv_ow, noFn, PV.noF, NR_iff, NRO, hb, ares, ares1, ldo, ld, nOw, PV.isOw, TY]) (by simp [cv_String, nl_String, nr_String, mkStringS_len, obsT, obT, okO, okP, okA, okC, okD, okI, reP, reA, reC, srcI, Nl_nil, Nl_cons, PV.nl, upd_at, ofL_n, ofL_c, VS, argsT, lendA, lendL, lendT, Cvl_nil, Cvl_cons, Cv_bool, Cv_int, Cv_str, Cv_nils, Cv_nilc, Cv_cl, Cv_ow, noFn, PV.noF, NR_iff, NRO, hb, ares, ares1, ldo, ld, nOw, PV.isOw, TY]) (.inr tS) ?_
  simp only [hC, VS, VZ, TY, openC, foldC, foldN, PF, pick_or, pick_and, aop, aopD, rdN, wrN, idL, idA, apure, AS.ev, startA, strip, abin, aint, astr, alen, aslice, optI, aconv, aconvM, gdv, AS.put, ofVal, pcells, ld, ldo, nOw, PV.isOw, gtmp, within, astore, splice, afill, allCells, okIdx, asrc, aflat, aappend, hintOk, PV.clo, PV.clo1, ofL_n, ofL_c, nams, reO, reP, reA, reC, srcI, setG, obG, List.cons.injEq, aeq1, aeqs, onG, Int.reduceLE, Int.reduceNeg, Int.reduceLT, Nat.reduceEqDiff, ↓reduceIte, Nat.reduceLT, Nat.reduceLeDiff, Nat.reduceAdd, Nat.reduceMul, Nat.reduceSub, reduceCtorEq, Int.reduceEq]
  refine acall_go true [[1]] (mk_) (by simp [cv_String, nl_String, nr_String, mkStringS_len, obsT, obT, okO, okP, okA, okC, okD, okI, reP, reA, reC, srcI, Nl_nil, Nl_cons, PV.nl, upd_at, ofL_n, ofL_c, VS, argsT, lendA, lendL, lendT, Cvl_nil, Cvl_cons, Cv_bool, Cv_int, Cv_str, Cv_nils, Cv_nilc, Cv_cl, Cv_ow, noFn, PV.noF, NR_iff, NRO, hb, ares, ares1, ldo, ld, nOw, PV.isOw, TY]) (by simp [cv_String, nl_String, nr_String, mkStringS_len, obsT, obT, okO, okP, okA, okC, okD, okI, reP, reA, reC, srcI, Nl_nil, Nl_cons, PV.nl, upd_at, ofL_n, ofL_c, VS, argsT, lendA, lendL, lendT, Cvl_nil, Cvl_cons, Cv_bool, Cv_int, Cv_str, Cv_nils, Cv_nilc, Cv_cl, Cv_ow, noFn, PV.noF, NR_iff, NRO, hb, ares, ares1, ldo, ld, nOw, PV.isOw, TY]) (by simp [cv_String, nl_String, nr_String, mkStringS_len, obsT, obT, okO, okP, okA, okC, okD, okI, reP, reA, reC, srcI, Nl_nil, Nl_cons, PV.nl, upd_at, ofL_n, ofL_c, VS, argsT, lendA, lendL, lendT, Cvl_nil, Cvl_cons, Cv_bool, Cv_int, Cv_str, Cv_nils, Cv_nilc, Cv_cl, Cv_ow, noFn, PV.noF, NR_iff, NRO, hb, ares, ares1, ldo, ld, nOw, PV.isOw, TY]) tS tS (by simp [cv_String, nl_String, nr_String, mkStringS_len, obsT, obT, okO, okP, okA, okC, okD, okI, reP, reA, reC, srcI, Nl_nil, Nl_cons, PV.nl, upd_at, ofL_n, ofL_c, VS, argsT, lendA, lendL, lendT, Cvl_nil, Cvl_cons, Cv_bool, Cv_int, Cv_str, Cv_nils, Cv_nilc, Cv_cl, Cv_ow, noFn, PV.noF, NR_iff, NRO, hb, ares, ares1, ldo, ld, nOw, PV.isOw, TY]) (.inr ⟨by simp [obsT, obT, okO, okP, okA, okC, okD, okI, reP, reA, reC, srcI, Nl_nil, Nl_cons, PV.nl, upd_at, ofL_n, ofL_c, VS, argsT, lendA, lendL, lendT, Cvl_nil, Cvl_cons, Cv_bool, Cv_int, Cv_str, Cv_nils, Cv_nilc, Cv_cl, Cv_ow, noFn, PV.noF, NR_iff, NRO, hb, ares, ares1, ldo, ld, nOw, PV.isOw, TY], by simp [cv_String, nl_String, nr_String, mkStringS_len, obsT, obT, okO, okP, okA, okC, okD, okI, reP, reA, reC, srcI, Nl_nil, Nl_cons, PV.nl, upd_at, ofL_n, ofL_c, VS, argsT, lendA, lendL, lendT, Cvl_nil, Cvl_cons, Cv_bool, Cv_int, Cv_str, Cv_nils, Cv_nilc, Cv_cl, Cv_ow, noFn, PV.noF, NR_iff, NRO, hb, ares, ares1, ldo, ld, nOw, PV.isOw, TY]⟩) ?_
  simp only [hC, VS, VZ, TY, openC, foldC, foldN, PF, pick_or, pick_and, aop, aopD, rdN, wrN, idL, idA, apure, AS.ev, startA, strip, abin, aint, astr, alen, aslice, optI, aconv, aconvM, gdv, AS.put, ofVal, pcells, ld, ldo, nOw, PV.isOw, gtmp, within, astore, splice, afill, allCells, okIdx, asrc, aflat, aappend, hintOk, PV.clo, PV.clo1, ofL_n, ofL_c, nams, reO, reP, reA, reC, srcI, setG, obG, List.cons.injEq, aeq1, aeqs, onG, Int.reduceLE, Int.reduceNeg, Int.reduceLT, Nat.reduceEqDiff, ↓reduceIte, Nat.reduceLT, Nat.reduceLeDiff, Nat.reduceAdd, Nat.reduceMul, Nat.reduceSub, reduceCtorEq, Int.reduceEq]
  refine acall_p true (he_) (by simp [cv_String, nl_String, nr_String, mkStringS_len, obsT, obT, okO, okP, okA, okC, okD, okI, reP, reA, reC, srcI, Nl_nil, Nl_cons, PV.nl, upd_at, ofL_n, ofL_c, VS, argsT, lendA, lendL, lendT, Cvl_nil, Cvl_cons, Cv_bool, Cv_int, Cv_str, Cv_nils, Cv_nilc, Cv_cl, Cv_ow, noFn, PV.noF, NR_iff, NRO, hb, ares, ares1, ldo, ld, nOw, PV.isOw, TY]) (by simp [cv_String, nl_String, nr_String, mkStringS_len, obsT, obT, okO, okP, okA, okC, okD, okI, reP, reA, reC, srcI, Nl_nil, Nl_cons, PV.nl, upd_at, ofL_n, ofL_c, VS, argsT, lendA, lendL, lendT, Cvl_nil, Cvl_cons, Cv_bool, Cv_int, Cv_str, Cv_nils, Cv_nilc, Cv_cl, Cv_ow, noFn, PV.noF, NR_iff, NRO, hb, ares, ares1, ldo, ld, nOw, PV.isOw, TY]) (.inr tS) ?_
  simp only [hC, VS, VZ, TY, openC, foldC, foldN, PF, pick_or, pick_and, aop, aopD, rdN, wrN, idL, idA, apure, AS.ev, startA, strip, abin, aint, astr, alen, aslice, optI, aconv, aconvM, gdv, AS.put, ofVal, pcells, ld, ldo, nOw, PV.isOw, gtmp, within, astore, splice, afill, allCells, okIdx, asrc, aflat, aappend, hintOk, PV.clo, PV.clo1, ofL_n, ofL_c, nams, reO, reP, reA, reC, srcI, setG, obG, List.cons.injEq, aeq1, aeqs, onG, Int.reduceLE, Int.reduceNeg, Int.reduceLT, Nat.reduceEqDiff, ↓reduceIte, Nat.reduceLT, Nat.reduceLeDiff, Nat.reduceAdd, Nat.reduceMul, Nat.reduceSub, reduceCtorEq, Int.reduceEq]
  simp only [hC, hc1, VS, VZ, TY, openC, foldC, foldN, PF, pick_or, pick_and, aop, aopD, rdN, wrN, idL, idA, apure, AS.ev, startA, strip, abin, aint, astr, alen, aslice, optI, aconv, aconvM, gdv, AS.put, ofVal, pcells, ld, ldo, nOw, PV.isOw, gtmp, within, astore, splice, afill, allCells, okIdx, asrc, aflat, aappend, hintOk, PV.clo, PV.clo1, ofL_n, ofL_c, nams, reO, reP, reA, reC, srcI, setG, obG, List.cons.injEq, aeq1, aeqs, onG, Int.reduceLE, Int.reduceNeg, Int.reduceLT, Nat.reduceEqDiff, ↓reduceIte, Nat.reduceLT, Nat.reduceLeDiff, Nat.reduceAdd, Nat.reduceMul, Nat.reduceSub, reduceCtorEq, Int.reduceEq]
  refine acall_go true [] (im_) (by simp [cv_String, nl_String, nr_String, mkStringS_len, obsT, obT, okO, okP, okA, okC, okD, okI, reP, reA, reC, srcI, Nl_nil, Nl_cons, PV.nl, upd_at, ofL_n, ofL_c, VS, argsT, lendA, lendL, lendT, Cvl_nil, Cvl_cons, Cv_bool, Cv_int, Cv_str, Cv_nils, Cv_nilc, Cv_cl, Cv_ow, noFn, PV.noF, NR_iff, NRO, hb, ares, ares1, ldo, ld, nOw, PV.isOw, TY]) (by simp [cv_String, nl_String, nr_String, mkStringS_len, obsT, obT, okO, okP, okA, okC, okD, okI, reP, reA, reC, srcI, Nl_nil, Nl_cons, PV.nl, upd_at, ofL_n, ofL_c, VS, argsT, lendA, lendL, lendT, Cvl_nil, Cvl_cons, Cv_bool, Cv_int, Cv_str, Cv_nils, Cv_nilc, Cv_cl, Cv_ow, noFn, PV.noF, NR_iff, NRO, hb, ares, ares1, ldo, ld, nOw, PV.isOw, TY]) (by simp [cv_String, nl_String, nr_String, mkStringS_len, obsT, obT, okO, okP, okA, okC, okD, okI, reP, reA, reC, srcI, Nl_nil, Nl_cons, PV.nl, upd_at, ofL_n, ofL_c, VS, argsT, lendA, lendL, lendT, Cvl_nil, Cvl_cons, Cv_bool, Cv_int, Cv_str, Cv_nils, Cv_nilc, Cv_cl, Cv_ow, noFn, PV.noF, NR_iff, NRO, hb, ares, ares1, ldo, ld, nOw, PV.isOw, TY]) tS tS (by simp [cv_String, nl_String, nr_String, mkStringS_len, obsT, obT, okO, okP, okA, okC, okD, okI, reP, reA, reC, srcI, Nl_nil, Nl_cons, PV.nl, upd_at, ofL_n, ofL_c, VS, argsT, lendA, lendL, lendT, Cvl_nil, Cvl_cons, Cv_bool, Cv_int, Cv_str, Cv_nils, Cv_nilc, Cv_cl, Cv_ow, noFn, PV.noF, NR_iff, NRO, hb, ares, ares1, ldo, ld, nOw, PV.isOw, TY]) (.inr ⟨by simp [obsT, obT, okO, okP, okA, okC, okD, okI, reP, reA, reC, srcI, Nl_nil, Nl_cons, PV.nl, upd_at, ofL_n, ofL_c, VS, argsT, lendA, lendL, lendT, Cvl_nil, Cvl_cons, Cv_bool, Cv_int, Cv_str, Cv_nils, Cv_nilc, Cv_cl, Cv_ow, noFn, PV.noF, NR_iff, NRO, hb, ares, ares1, ldo, ld, nOw, PV.isOw, TY], by simp [cv_String, nl_String, nr_String, mkStringS_len, obsT, obT, okO, okP, okA, okC, okD, okI, reP, reA, reC, srcI, Nl_nil, Nl_cons, PV.nl, upd_at, ofL_n, ofL_c, VS, argsT, lendA, lendL, lendT, Cvl_nil, Cvl_cons, Cv_bool, Cv_int, Cv_str, Cv_nils, Cv_nilc, Cv_cl, Cv_ow, noFn, PV.noF, NR_iff, NRO, hb, ares, ares1, ldo, ld, nOw, PV.isOw, TY]⟩) ?_
  simp only [hC, VS, VZ, TY, openC, foldC, foldN, PF, pick_or, pick_and, aop, aopD, rdN, wrN, idL, idA, apure, AS.ev, startA, strip, abin, aint, astr, alen, aslice, optI, aconv, aconvM, gdv, AS.put, ofVal, pcells, ld, ldo, nOw, PV.isOw, gtmp, within, astore, splice, afill, allCells, okIdx, asrc, aflat, aappend, hintOk, PV.clo, PV.clo1, ofL_n, ofL_c, nams, reO, reP, reA, reC, srcI, setG, obG, List.cons.injEq, aeq1, aeqs, onG, Int.reduceLE, Int.reduceNeg, Int.reduceLT, Nat.reduceEqDiff, ↓reduceIte, Nat.reduceLT, Nat.reduceLeDiff, Nat.reduceAdd, Nat.reduceMul, Nat.reduceSub, reduceCtorEq, Int.reduceEq]
  refine acall_p true (eq_) (by simp [cv_String, nl_String, nr_String, mkStringS_len, obsT, obT, okO, okP, okA, okC, okD, okI, reP, reA, reC, srcI, Nl_nil, Nl_cons, PV.nl, upd_at, ofL_n, ofL_c, VS, argsT, lendA, lendL, lendT, Cvl_nil, Cvl_cons, Cv_bool, Cv_int, Cv_str, Cv_nils, Cv_nilc, Cv_cl, Cv_ow, noFn, PV.noF, NR_iff, NRO, hb, ares, ares1, ldo, ld, nOw, PV.isOw, TY]) (by simp [cv_String, nl_String, nr_String, mkStringS_len, obsT, obT, okO, okP, okA, okC, okD, okI, reP, reA, reC, srcI, Nl_nil, Nl_cons, PV.nl, upd_at, ofL_n, ofL_c, VS, argsT, lendA, lendL, lendT, Cvl_nil, Cvl_cons, Cv_bool, Cv_int, Cv_str, Cv_nils, Cv_nilc, Cv_cl, Cv_ow, noFn, PV.noF, NR_iff, NRO, hb, ares, ares1, ldo, ld, nOw, PV.isOw, TY]) (.inr tS) ?_
  simp only [hC, VS, VZ, TY, openC, foldC, foldN, PF, pick_or, pick_and, aop, aopD, rdN, wrN, idL, idA, apure, AS.ev, startA, strip, abin, aint, astr, alen, aslice, optI, aconv, aconvM, gdv, AS.put, ofVal, pcells, ld, ldo, nOw, PV.isOw, gtmp, within, astore, splice, afill, allCells, okIdx, asrc, aflat, aappend, hintOk, PV.clo, PV.clo1, ofL_n, ofL_c, nams, reO, reP, reA, reC, srcI, setG, obG, List.cons.injEq, aeq1, aeqs, onG, Int.reduceLE, Int.reduceNeg, Int.reduceLT, Nat.reduceEqDiff, ↓reduceIte, Nat.reduceLT, Nat.reduceLeDiff, Nat.reduceAdd, Nat.reduceMul, Nat.reduceSub, reduceCtorEq, Int.reduceEq]
  refine acall_p true (he_) (by simp [cv_String, nl_String, nr_String, mkStringS_len, obsT, obT, okO, okP, okA, okC, okD, okI, reP, reA, reC, srcI, Nl_nil, Nl_cons, PV.nl, upd_at, ofL_n, ofL_c, VS, argsT, lendA, lendL, lendT, Cvl_nil, Cvl_cons, Cv_bool, Cv_int, Cv_str, Cv_nils, Cv_nilc, Cv_cl, Cv_ow, noFn, PV.noF, NR_iff, NRO, hb, ares, ares1, ldo, ld, nOw, PV.isOw, TY]) (by simp [cv_String, nl_String, nr_String, mkStringS_len, obsT, obT, okO, okP, okA, okC, okD, okI, reP, reA, reC, srcI, Nl_nil, Nl_cons, PV.nl, upd_at, ofL_n, ofL_c, VS, argsT, lendA, lendL, lendT, Cvl_nil, Cvl_cons, Cv_bool, Cv_int, Cv_str, Cv_nils, Cv_nilc, Cv_cl, Cv_ow, noFn, PV.noF, NR_iff, NRO, hb, ares, ares1, ldo, ld, nOw, PV.isOw, TY]) (.inr tS) ?_
  simp only [hC, VS, VZ, TY, openC, foldC, foldN, PF, pick_or, pick_and, aop, aopD, rdN, wrN, idL, idA, apure, AS.ev, startA, strip, abin, aint, astr, alen, aslice, optI, aconv, aconvM, gdv, AS.put, ofVal, pcells, ld, ldo, nOw, PV.isOw, gtmp, within, astore, splice, afill, allCells, okIdx, asrc, aflat, aappend, hintOk, PV.clo, PV.clo1, ofL_n, ofL_c, nams, reO, reP, reA, reC, srcI, setG, obG, List.cons.injEq, aeq1, aeqs, onG, Int.reduceLE, Int.reduceNeg, Int.reduceLT, Nat.reduceEqDiff, ↓reduceIte, Nat.reduceLT, Nat.reduceLeDiff, Nat.reduceAdd, Nat.reduceMul, Nat.reduceSub, reduceCtorEq, Int.reduceEq]
  simp only [hC, hc1, VS, VZ, TY, openC, foldC, foldN, PF, pick_or, pick_and, aop, aopD, rdN, wrN, idL, idA, apure, AS.ev, startA, strip, abin, aint, astr, alen, aslice, optI, aconv, aconvM, gdv, AS.put, ofVal, pcells, ld, ldo, nOw, PV.isOw, gtmp, within, astore, splice, afill, allCells, okIdx, asrc, aflat, aappend, hintOk, PV.clo, PV.clo1, ofL_n, ofL_c, nams, reO, reP, reA, reC, srcI, setG, obG, List.cons.injEq, aeq1, aeqs, onG, Int.reduceLE, Int.reduceNeg, Int.reduceLT, Nat.reduceEqDiff, ↓reduceIte, Nat.reduceLT, Nat.reduceLeDiff, Nat.reduceAdd, Nat.reduceMul, Nat.reduceSub, reduceCtorEq, Int.reduceEq]
  exact Ret_go [] tS tS tS
end Go.Proofs.Ytmmlpehfieojdaa.Wd
