/- The text of a mark. -/
import Derived.Test.YtofaiiobggnibaaWB27
import Derived.Test.YtofaiiobggnibaaProg
namespace Go.Proofs.Ytofaiiobggnibaa.Wd
open Go Go.RowKit Go.Proofs Go.Proofs.YtofaiiobggnibaaW.AW
set_option linter.unusedVariables false
set_option linter.unusedSimpArgs false
set_option maxRecDepth 100000
namespace MT
theorem TY : (tyD Try.prog 3 = ⟨TK.int IntKind.i64, 1, [], [PV.int IntKind.i64 0], true, 0, 0, false, [], PV.int IntKind.i64 0, true, false, []⟩ ∧ tk Try.prog 3 = TK.int IntKind.i64 ∧ (tkU8 Try.prog 3 ↔ False)) ∧
    (tyD Try.prog 4 = ⟨TK.bool, 1, [], [PV.bool false], true, 0, 0, false, [], PV.bool false, true, false, []⟩ ∧ tk Try.prog 4 = TK.bool ∧ (tkU8 Try.prog 4 ↔ False)) ∧
    (tyD Try.prog 9 = ⟨TK.string, 1, [], [PV.str ByteArray.empty], true, 0, 0, false, [], PV.str ByteArray.empty, true, false, []⟩ ∧ tk Try.prog 9 = TK.string ∧ (tkU8 Try.prog 9 ↔ False)) ∧
    (tyD Try.prog 57 = ⟨TK.slice 5, 1, [], [PV.nils], true, 1, 1, true, [PV.int IntKind.u8 0], PV.nils, true, false, []⟩ ∧ tk Try.prog 57 = TK.slice 5 ∧ ((∃ e', Try.prog.underlying 57 = some (.slice e')) ↔ True) ∧ (tkU8 Try.prog 57 ↔ True)) ∧
    (tyD Try.prog 5 = ⟨TK.int IntKind.u8, 1, [], [PV.int IntKind.u8 0], true, 0, 0, false, [], PV.int IntKind.u8 0, true, false, []⟩ ∧ tk Try.prog 5 = TK.int IntKind.u8 ∧ (tkU8 Try.prog 5 ↔ False)) :=
  ⟨⟨by kernel_rfl, by kernel_rfl, ⟨fun h => absurd h (by decide +kernel), fun h => h.elim⟩⟩,
    ⟨by kernel_rfl, by kernel_rfl, ⟨fun h => absurd h (by decide +kernel), fun h => h.elim⟩⟩,
    ⟨by kernel_rfl, by kernel_rfl, ⟨fun h => absurd h (by decide +kernel), fun h => h.elim⟩⟩,
    ⟨by kernel_rfl, by kernel_rfl, ⟨fun _ => trivial, fun _ => ⟨5, by kernel_rfl⟩⟩, ⟨fun _ => trivial, fun _ => by unfold tkU8; rw [show tk Try.prog 57 = TK.slice 5 from by kernel_rfl]; exact (by kernel_rfl : tk Try.prog 5 = TK.int IntKind.u8)⟩⟩,
    ⟨by kernel_rfl, by kernel_rfl, ⟨fun h => absurd h (by decide +kernel), fun h => h.elim⟩⟩⟩
theorem PF : Try.prog.follows .mixedOrders = true := by kernel_rfl

def dig (k : Int) : ByteArray := bytesG 1 (fun _ => [.int .u8 (IntKind.u8.wrap (48 + k.tmod 10))])
def digs (k : Nat) (acc : ByteArray) : ByteArray := if h : k = 0 then acc else digs (k / 10) (dig k ++ acc)
decreasing_by omega
def mkT (k : Int) : ByteArray := if k ≤ 0 then ByteArray.mk #[109, 48] else ByteArray.mk #[109] ++ digs k.toNat ByteArray.empty
theorem c_markText (k : Int) (hk0 : 0 ≤ k) (hk : k ≤ 4611686018427387904) : AC Try.prog 169 [.int .i64 k] (ML []) (.str (mkT k)) (ML []) := by
  refine AC.of Try.func169 rfl rfl (by simp [Try.ntmps169]) rfl (fun C hC hm => ?_)
  rw [Try.ntmps169] at hC
  have hn : C.m0.nx = _ := congrArg Mem.nx hm
  simp only [ML_nx, List.length_nil, List.length_cons, Nat.zero_add, Nat.reduceAdd] at hn
  simp only [hC, VS, VZ, TY, openC, foldC, foldN, PF, pick_or, pick_and, aop, aopD, rdN, wrN, idL, idA, apure, AS.ev, startA, strip, abin, aint, astr, alen, aslice, optI, aconv, aconvM, gdv, AS.put, ofVal, pcells, ld, ldo, nOw, PV.isOw, gtmp, within, astore, splice, afill, allCells, okIdx, asrc, aflat, aappend, hintOk, PV.clo, PV.clo1, ofL_n, ofL_c, nams, reO, reP, reA, reC, srcI, setG, obG, List.cons.injEq, aeq1, aeqs, onG, Int.reduceLE, Int.reduceNeg, Int.reduceLT, Nat.reduceEqDiff, ↓reduceIte, Nat.reduceLT, Nat.reduceLeDiff, Nat.reduceAdd, Nat.reduceMul, Nat.reduceSub, reduceCtorEq, Int.reduceEq]
  refine ⟨fun h => ?_, fun h => ?_⟩ <;> simp at h
  · exact Ret_go [] (by simp [mkT, h, obsT, obT, okO, okP, okA, okC, okD, okI, reP, reA, reC, srcI, Nl_nil, Nl_cons, PV.nl, upd_at, ofL_n, ofL_c, VS, argsT, lendA, lendL, lendT, Cvl_nil, Cvl_cons, Cv_bool, Cv_int, Cv_str, Cv_nils, Cv_nilc, Cv_cl, Cv_ow, noFn, PV.noF, NR_iff, NRO, hb, ares, ares1, ldo, ld, nOw, PV.isOw, TY]) (by simp [obsT, obT, okO, okP, okA, okC, okD, okI, reP, reA, reC, srcI, Nl_nil, Nl_cons, PV.nl, upd_at, ofL_n, ofL_c, VS, argsT, lendA, lendL, lendT, Cvl_nil, Cvl_cons, Cv_bool, Cv_int, Cv_str, Cv_nils, Cv_nilc, Cv_cl, Cv_ow, noFn, PV.noF, NR_iff, NRO, hb, ares, ares1, ldo, ld, nOw, PV.isOw, TY]) (by simp)
  have hs : mkT k = ByteArray.mk #[109] ++ digs k.toNat ByteArray.empty := by rw [mkT, if_neg (by omega)]
  generalize mkT k = tot at *
  refine AL.go (X := Int × ByteArray) (fun p => ⟨ofL [(0, .int .i64 p.1), (3, .str p.2)], ML []⟩) (fun p => p.1.toNat) (fun p => 0 ≤ p.1 ∧ (p.2.size : Int) + p.1 ≤ 4611686018427387904 ∧ tot = ByteArray.mk #[109] ++ digs p.1.toNat p.2) (k, ByteArray.empty) ⟨hk0, by simp; omega, hs⟩
    (Told_go hn [] (by simp [obsT, obT, okO, okP, okA, okC, okD, okI, reP, reA, reC, srcI, Nl_nil, Nl_cons, PV.nl, upd_at, ofL_n, ofL_c, VS, argsT, lendA, lendL, lendT, Cvl_nil, Cvl_cons, Cv_bool, Cv_int, Cv_str, Cv_nils, Cv_nilc, Cv_cl, Cv_ow, noFn, PV.noF, NR_iff, NRO, hb, ares, ares1, ldo, ld, nOw, PV.isOw, TY]; exact rfl) (by simp [obsT, obT, okO, okP, okA, okC, okD, okI, reP, reA, reC, srcI, Nl_nil, Nl_cons, PV.nl, upd_at, ofL_n, ofL_c, VS, argsT, lendA, lendL, lendT, Cvl_nil, Cvl_cons, Cv_bool, Cv_int, Cv_str, Cv_nils, Cv_nilc, Cv_cl, Cv_ow, noFn, PV.noF, NR_iff, NRO, hb, ares, ares1, ldo, ld, nOw, PV.isOw, TY]) (by simp)) ?_
  rintro ⟨k, out⟩ ⟨h0, hb, ht⟩
  simp only at h0 hb ht ⊢
  refine vc_ok _ _ _ ?_
  simp only [hC, VS, VZ, TY, openC, foldC, foldN, PF, pick_or, pick_and, aop, aopD, rdN, wrN, idL, idA, apure, AS.ev, startA, strip, abin, aint, astr, alen, aslice, optI, aconv, aconvM, gdv, AS.put, ofVal, pcells, ld, ldo, nOw, PV.isOw, gtmp, within, astore, splice, afill, allCells, okIdx, asrc, aflat, aappend, hintOk, PV.clo, PV.clo1, ofL_n, ofL_c, nams, reO, reP, reA, reC, srcI, setG, obG, List.cons.injEq, aeq1, aeqs, onG, Int.reduceLE, Int.reduceNeg, Int.reduceLT, Nat.reduceEqDiff, ↓reduceIte, Nat.reduceLT, Nat.reduceLeDiff, Nat.reduceAdd, Nat.reduceMul, Nat.reduceSub, reduceCtorEq, Int.reduceEq]
  refine ⟨fun h => ?_, fun h => ?_⟩ <;> simp at h
  · have m1 : k.tmod 10 = k % 10 := Int.tmod_eq_emod_of_nonneg h0
    have m2 : k.tdiv 10 = k / 10 := Int.tdiv_eq_ediv_of_nonneg h0
    have m3 : 0 ≤ k % 10 ∧ k % 10 < 10 := by omega
    have b1 : 0 ≤ k.tmod 10 ∧ k.tmod 10 < 10 := by rw [m1]; omega
    simp only [m2]
    simp (disch := omega) only [wr64]
    have e : (fun i : Nat => [[PV.int .u8 (IntKind.u8.wrap (48 + k.tmod 10))]].getD i []) = fun i => if i = 0 then [PV.int .u8 (IntKind.u8.wrap (48 + k.tmod 10))] else [] := by funext i; cases i <;> simp
    have e2 : bytesG 1 (fun i : Nat => [[PV.int .u8 (IntKind.u8.wrap (48 + k.tmod 10))]].getD i []) = dig k := by simp [bytesG, dig]
    have hd : (dig k).size = 1 := bytesG_size _ _
    simp only [e2, hd]
    refine ⟨fun i hi => ⟨IntKind.u8.wrap (48 + k.tmod 10), by cases i with
                                  | zero => rfl
                                  | succ i => omega⟩, by omega, (k / 10, dig k ++ out), ⟨by simp only; omega, by simp only [ByteArray.size_append, hd]; omega, ?_⟩, by simp only; omega, Told_go hn [] (by simp [obsT, obT, okO, okP, okA, okC, okD, okI, reP, reA, reC, srcI, Nl_nil, Nl_cons, PV.nl, upd_at, ofL_n, ofL_c, VS, argsT, lendA, lendL, lendT, Cvl_nil, Cvl_cons, Cv_bool, Cv_int, Cv_str, Cv_nils, Cv_nilc, Cv_cl, Cv_ow, noFn, PV.noF, NR_iff, NRO, hb, ares, ares1, ldo, ld, nOw, PV.isOw, TY]) (by simp [obsT, obT, okO, okP, okA, okC, okD, okI, reP, reA, reC, srcI, Nl_nil, Nl_cons, PV.nl, upd_at, ofL_n, ofL_c, VS, argsT, lendA, lendL, lendT, Cvl_nil, Cvl_cons, Cv_bool, Cv_int, Cv_str, Cv_nils, Cv_nilc, Cv_cl, Cv_ow, noFn, PV.noF, NR_iff, NRO, hb, ares, ares1, ldo, ld, nOw, PV.isOw, TY]) (by simp)⟩
    rw [ht, digs, dif_neg (by omega)]
    have e3 : ((k.toNat : Nat) : Int) = k := by omega
    have e4 : k.toNat / 10 = (k / 10).toNat := by omega
    rw [e3, e4]
  · have : k = 0 := by omega
    subst this
    have hq : digs 0 out = out := by rw [digs]; simp
    have ht : tot = ByteArray.mk #[109] ++ out := by rw [ht]; simp [hq]
    refine ⟨?_, ?_⟩
    · omega
    exact Ret_go [] (by simp [ht, obsT, obT, okO, okP, okA, okC, okD, okI, reP, reA, reC, srcI, Nl_nil, Nl_cons, PV.nl, upd_at, ofL_n, ofL_c, VS, argsT, lendA, lendL, lendT, Cvl_nil, Cvl_cons, Cv_bool, Cv_int, Cv_str, Cv_nils, Cv_nilc, Cv_cl, Cv_ow, noFn, PV.noF, NR_iff, NRO, hb, ares, ares1, ldo, ld, nOw, PV.isOw, TY]) (by simp [obsT, obT, okO, okP, okA, okC, okD, okI, reP, reA, reC, srcI, Nl_nil, Nl_cons, PV.nl, upd_at, ofL_n, ofL_c, VS, argsT, lendA, lendL, lendT, Cvl_nil, Cvl_cons, Cv_bool, Cv_int, Cv_str, Cv_nils, Cv_nilc, Cv_cl, Cv_ow, noFn, PV.noF, NR_iff, NRO, hb, ares, ares1, ldo, ld, nOw, PV.isOw, TY]) (by simp)
end MT
end Go.Proofs.Ytofaiiobggnibaa.Wd
