/- Tiles in a box: the reference's. -/
import Derived.Test.YtolejglfohagnaaETilesOf3
namespace Go.Proofs.Ytolejglfohagnaa.Wd
open Go Go.RowKit Go.Proofs Go.Proofs.YtolejglfohagnaaW.AW
set_option linter.unusedVariables false
set_option linter.unusedSimpArgs false
set_option maxRecDepth 100000
theorem wru64 {n : Int} (h0 : 0 ≤ n) (h1 : n ≤ 18446744073709551615) : IntKind.u64.wrap n = n := by simp [IntKind.wrap, IntKind.bits, IntKind.signed]; omega
theorem con87 (x y : Int) : AC Try.prog 87 [pv x y] (E 0) (.bool (ptOk x y)) (E 0) := by
  refine AC.of Try.func87 rfl rfl (by simp [Try.ntmps87]) rfl (fun C hC hm => ?_)
  rw [Try.ntmps87] at hC
  simp only [hC, pv, VS, TY, PF, pickv, pick_or, pick_and, aop, apure, AS.ev, startA, strip, abin, aint, alen, gdv, AS.put, upd_at, mi64, ma64, miu8, mau8, ofVal, pcells, ld, gtmp, within, astore, splice, afill, allCells, okIdx, asrc, aappend, ofL, Own.pv, Int.reduceLE, Int.reduceNeg, Int.reduceLT, and_self, and_true, true_and, and_false, false_and, if_true, if_false, Nat.reduceEqDiff, List.getD_cons_zero, List.getD_cons_succ, ↓reduceIte, List.map_cons, List.map_nil, List.getElem?_cons_succ, List.getElem?_cons_zero, List.getElem?_nil, Option.bind_some, id_eq, List.all_nil, forall_const, Option.all_some, Option.all_none, Nat.reduceLT, Nat.reduceLeDiff, Nat.reduceAdd, Nat.reduceMul, Nat.zero_add, Nat.add_zero, decide_true, implies_true, List.nil_append, List.append_nil, List.cons_append, cond_false, cond_true, List.all_cons, Bool.and_true, List.drop_zero, List.drop_succ_cons, List.take_zero, List.take_succ_cons, List.drop_nil, List.take_nil, List.length_cons, List.length_nil, ne_eq, not_false_eq_true, not_true_eq_false, List.cons.injEq, Nat.one_ne_zero, Nat.add_one_ne_zero, reduceCtorEq, true_or, or_true, or_self, beq_self_eq_true, List.size_toArray, List.mem_cons, List.not_mem_nil, or_false, forall_eq, forall_eq_or_imp]
  exact .of (Ret_pure (.inl rfl) trivial (by simp [ares, ares1, upd_at, ptOk]) Clo_bool)
theorem con70 (a b c d : Int) : AC Try.prog 70 [bxv a b c d] (E 0) (.bool (bxOk a b c d)) (E 0) := by
  refine AC.of Try.func70 rfl rfl (by simp [Try.ntmps70]) rfl (fun C hC hm => ?_)
  rw [Try.ntmps70] at hC
  simp only [hC, bxv, VS, TY, PF, pickv, pick_or, pick_and, aop, apure, AS.ev, startA, strip, abin, aint, alen, gdv, AS.put, upd_at, mi64, ma64, miu8, mau8, ofVal, pcells, ld, gtmp, within, astore, splice, afill, allCells, okIdx, asrc, aappend, ofL, Own.pv, Int.reduceLE, Int.reduceNeg, Int.reduceLT, and_self, and_true, true_and, and_false, false_and, if_true, if_false, Nat.reduceEqDiff, List.getD_cons_zero, List.getD_cons_succ, ↓reduceIte, List.map_cons, List.map_nil, List.getElem?_cons_succ, List.getElem?_cons_zero, List.getElem?_nil, Option.bind_some, id_eq, List.all_nil, forall_const, Option.all_some, Option.all_none, Nat.reduceLT, Nat.reduceLeDiff, Nat.reduceAdd, Nat.reduceMul, Nat.zero_add, Nat.add_zero, decide_true, implies_true, List.nil_append, List.append_nil, List.cons_append, cond_false, cond_true, List.all_cons, Bool.and_true, List.drop_zero, List.drop_succ_cons, List.take_zero, List.take_succ_cons, List.drop_nil, List.take_nil, List.length_cons, List.length_nil, ne_eq, not_false_eq_true, not_true_eq_false, List.cons.injEq, Nat.one_ne_zero, Nat.add_one_ne_zero, reduceCtorEq, true_or, or_true, or_self, beq_self_eq_true, List.size_toArray, List.mem_cons, List.not_mem_nil, or_false, forall_eq, forall_eq_or_imp]
  refine acall_p (con87 a b) (by simp [CloS]) Clo_bool ?_
  simp only [hC, bxv, VS, TY, PF, pickv, pick_or, pick_and, aop, apure, AS.ev, startA, strip, abin, aint, alen, gdv, AS.put, upd_at, mi64, ma64, miu8, mau8, ofVal, pcells, ld, gtmp, within, astore, splice, afill, allCells, okIdx, asrc, aappend, ofL, Own.pv, Int.reduceLE, Int.reduceNeg, Int.reduceLT, and_self, and_true, true_and, and_false, false_and, if_true, if_false, Nat.reduceEqDiff, List.getD_cons_zero, List.getD_cons_succ, ↓reduceIte, List.map_cons, List.map_nil, List.getElem?_cons_succ, List.getElem?_cons_zero, List.getElem?_nil, Option.bind_some, id_eq, List.all_nil, forall_const, Option.all_some, Option.all_none, Nat.reduceLT, Nat.reduceLeDiff, Nat.reduceAdd, Nat.reduceMul, Nat.zero_add, Nat.add_zero, decide_true, implies_true, List.nil_append, List.append_nil, List.cons_append, cond_false, cond_true, List.all_cons, Bool.and_true, List.drop_zero, List.drop_succ_cons, List.take_zero, List.take_succ_cons, List.drop_nil, List.take_nil, List.length_cons, List.length_nil, ne_eq, not_false_eq_true, not_true_eq_false, List.cons.injEq, Nat.one_ne_zero, Nat.add_one_ne_zero, reduceCtorEq, true_or, or_true, or_self, beq_self_eq_true, List.size_toArray, List.mem_cons, List.not_mem_nil, or_false, forall_eq, forall_eq_or_imp]
  refine acall_p (con87 c d) (by simp [CloS]) Clo_bool ?_
  simp only [hC, bxv, VS, TY, PF, pickv, pick_or, pick_and, aop, apure, AS.ev, startA, strip, abin, aint, alen, gdv, AS.put, upd_at, mi64, ma64, miu8, mau8, ofVal, pcells, ld, gtmp, within, astore, splice, afill, allCells, okIdx, asrc, aappend, ofL, Own.pv, Int.reduceLE, Int.reduceNeg, Int.reduceLT, and_self, and_true, true_and, and_false, false_and, if_true, if_false, Nat.reduceEqDiff, List.getD_cons_zero, List.getD_cons_succ, ↓reduceIte, List.map_cons, List.map_nil, List.getElem?_cons_succ, List.getElem?_cons_zero, List.getElem?_nil, Option.bind_some, id_eq, List.all_nil, forall_const, Option.all_some, Option.all_none, Nat.reduceLT, Nat.reduceLeDiff, Nat.reduceAdd, Nat.reduceMul, Nat.zero_add, Nat.add_zero, decide_true, implies_true, List.nil_append, List.append_nil, List.cons_append, cond_false, cond_true, List.all_cons, Bool.and_true, List.drop_zero, List.drop_succ_cons, List.take_zero, List.take_succ_cons, List.drop_nil, List.take_nil, List.length_cons, List.length_nil, ne_eq, not_false_eq_true, not_true_eq_false, List.cons.injEq, Nat.one_ne_zero, Nat.add_one_ne_zero, reduceCtorEq, true_or, or_true, or_self, beq_self_eq_true, List.size_toArray, List.mem_cons, List.not_mem_nil, or_false, forall_eq, forall_eq_or_imp]
  exact .of (Ret_pure (.inl rfl) trivial (by simp [ares, ares1, upd_at, bxOk]) Clo_bool)
theorem con126 (z : Int) (h0 : 0 ≤ z) (h1 : z ≤ 10) : AC Try.prog 126 [.int .i64 z] (E 0) (.int .i64 ((33554432 : Int).fdiv (2 ^ min z.toNat 64))) (E 0) := by
  refine AC.of Try.func126 rfl rfl (by simp [Try.ntmps126]) rfl (fun C hC hm => ?_)
  rw [Try.ntmps126] at hC
  simp only [hC, VS, TY, PF, pickv, pick_or, pick_and, aop, apure, AS.ev, startA, strip, abin, aint, alen, gdv, AS.put, upd_at, mi64, ma64, miu8, mau8, ofVal, pcells, ld, gtmp, within, astore, splice, afill, allCells, okIdx, asrc, aappend, ofL, Own.pv, Int.reduceLE, Int.reduceNeg, Int.reduceLT, and_self, and_true, true_and, and_false, false_and, if_true, if_false, Nat.reduceEqDiff, List.getD_cons_zero, List.getD_cons_succ, ↓reduceIte, List.map_cons, List.map_nil, List.getElem?_cons_succ, List.getElem?_cons_zero, List.getElem?_nil, Option.bind_some, id_eq, List.all_nil, forall_const, Option.all_some, Option.all_none, Nat.reduceLT, Nat.reduceLeDiff, Nat.reduceAdd, Nat.reduceMul, Nat.zero_add, Nat.add_zero, decide_true, implies_true, List.nil_append, List.append_nil, List.cons_append, cond_false, cond_true, List.all_cons, Bool.and_true, List.drop_zero, List.drop_succ_cons, List.take_zero, List.take_succ_cons, List.drop_nil, List.take_nil, List.length_cons, List.length_nil, ne_eq, not_false_eq_true, not_true_eq_false, List.cons.injEq, Nat.one_ne_zero, Nat.add_one_ne_zero, reduceCtorEq, true_or, or_true, or_self, beq_self_eq_true, List.size_toArray, List.mem_cons, List.not_mem_nil, or_false, forall_eq, forall_eq_or_imp, aconv]
  rw [wru64 h0 (by omega)]
  exact ⟨h0, .of (Ret_pure (.inl rfl) trivial (by simp [ares, ares1, upd_at, bits64]) Clo_int)⟩
theorem tA_eq {lo s : Int} (h0 : -10000000 ≤ lo) (h5 : 0 < s) : tA lo s = if 0 < (lo + 16777216).tdiv s ∧ (lo + 16777216).tmod s = 0 then (lo + 16777216).tdiv s - 1 else (lo + 16777216).tdiv s := by
  generalize hu : lo + 16777216 = u
  have h0 : 0 ≤ u := by omega
  rw [tA, hu, Int.tdiv_eq_ediv_of_nonneg h0, Int.tdiv_eq_ediv_of_nonneg (by omega), Int.tmod_eq_emod_of_nonneg h0]
  have e := Int.emod_add_mul_ediv u s
  have r0 := Int.emod_nonneg u (by omega : s ≠ 0)
  have r1 := Int.emod_lt_of_pos u h5
  have q0 := Int.ediv_nonneg h0 (by omega : 0 ≤ s)
  by_cases hr : u % s = 0
  · have : (u + s - 1) / s = u / s := ((Int.ediv_emod_unique (a := u + s - 1) (r := s - 1) h5).2 ⟨by omega, by omega, by omega⟩).1
    rw [this, hr]
    split <;> split <;> omega
  · have : (u + s - 1) / s = u / s + 1 := ((Int.ediv_emod_unique (a := u + s - 1) (r := u % s - 1) h5).2 ⟨by rw [Int.mul_add]; omega, by omega, by omega⟩).1
    rw [this]
    split <;> split <;> omega
theorem con71 (lo hi z : Int) (h1 : -10000000 ≤ lo) (h2 : lo ≤ 10000000) (h3 : -10000000 ≤ hi) (h4 : hi ≤ 10000000) (h5 : 0 ≤ z) (h6 : z ≤ 10) :
    AC Try.prog 71 [.int .i64 lo, .int .i64 hi, .int .i64 z] (E 0) (.tu [.int .i64 (tA lo ((33554432 : Int).fdiv (2 ^ min z.toNat 64))), .int .i64 (tB hi ((33554432 : Int).fdiv (2 ^ min z.toNat 64)) (1 * 2 ^ min z.toNat 64))]) (E 0) := by
  refine AC.of Try.func71 rfl rfl (by simp [Try.ntmps71]) rfl (fun C hC hm => ?_)
  rw [Try.ntmps71] at hC
  obtain ⟨s1, s2, n1, n2⟩ := side_in (z := z) (by omega) (by omega)
  simp only [hC, VS, TY, PF, pickv, pick_or, pick_and, aop, apure, AS.ev, startA, strip, abin, aint, alen, gdv, AS.put, upd_at, mi64, ma64, miu8, mau8, ofVal, pcells, ld, gtmp, within, astore, splice, afill, allCells, okIdx, asrc, aappend, ofL, Own.pv, Int.reduceLE, Int.reduceNeg, Int.reduceLT, and_self, and_true, true_and, and_false, false_and, if_true, if_false, Nat.reduceEqDiff, List.getD_cons_zero, List.getD_cons_succ, ↓reduceIte, List.map_cons, List.map_nil, List.getElem?_cons_succ, List.getElem?_cons_zero, List.getElem?_nil, Option.bind_some, id_eq, List.all_nil, forall_const, Option.all_some, Option.all_none, Nat.reduceLT, Nat.reduceLeDiff, Nat.reduceAdd, Nat.reduceMul, Nat.zero_add, Nat.add_zero, decide_true, implies_true, List.nil_append, List.append_nil, List.cons_append, cond_false, cond_true, List.all_cons, Bool.and_true, List.drop_zero, List.drop_succ_cons, List.take_zero, List.take_succ_cons, List.drop_nil, List.take_nil, List.length_cons, List.length_nil, ne_eq, not_false_eq_true, not_true_eq_false, List.cons.injEq, Nat.one_ne_zero, Nat.add_one_ne_zero, reduceCtorEq, true_or, or_true, or_self, beq_self_eq_true, List.size_toArray, List.mem_cons, List.not_mem_nil, or_false, forall_eq, forall_eq_or_imp]
  refine acall_p (con126 z h5 h6) (by simp [CloS]) Clo_int ?_
  simp only [hC, VS, TY, PF, pickv, pick_or, pick_and, aop, apure, AS.ev, startA, strip, abin, aint, alen, gdv, AS.put, upd_at, mi64, ma64, miu8, mau8, ofVal, pcells, ld, gtmp, within, astore, splice, afill, allCells, okIdx, asrc, aappend, ofL, Own.pv, Int.reduceLE, Int.reduceNeg, Int.reduceLT, and_self, and_true, true_and, and_false, false_and, if_true, if_false, Nat.reduceEqDiff, List.getD_cons_zero, List.getD_cons_succ, ↓reduceIte, List.map_cons, List.map_nil, List.getElem?_cons_succ, List.getElem?_cons_zero, List.getElem?_nil, Option.bind_some, id_eq, List.all_nil, forall_const, Option.all_some, Option.all_none, Nat.reduceLT, Nat.reduceLeDiff, Nat.reduceAdd, Nat.reduceMul, Nat.zero_add, Nat.add_zero, decide_true, implies_true, List.nil_append, List.append_nil, List.cons_append, cond_false, cond_true, List.all_cons, Bool.and_true, List.drop_zero, List.drop_succ_cons, List.take_zero, List.take_succ_cons, List.drop_nil, List.take_nil, List.length_cons, List.length_nil, ne_eq, not_false_eq_true, not_true_eq_false, List.cons.injEq, Nat.one_ne_zero, Nat.add_one_ne_zero, reduceCtorEq, true_or, or_true, or_self, beq_self_eq_true, List.size_toArray, List.mem_cons, List.not_mem_nil, or_false, forall_eq, forall_eq_or_imp, aconv]
  rw [wru64 h5 (by omega), bits64, wr64 (n := 1 * 2 ^ min z.toNat 64) (by omega) (by omega)]
  generalize hS : (33554432 : Int).fdiv (2 ^ min z.toNat 64) = side at *
  generalize hN : (1 : Int) * 2 ^ min z.toNat 64 = n at *
  obtain ⟨a1, a2⟩ := tdiv_in (a := lo + 16777216) (b := side) (k := 100000000) (by omega) (by omega) s1
  obtain ⟨b1, b2⟩ := tdiv_in (a := hi + 16777216) (b := side) (k := 100000000) (by omega) (by omega) s1
  rw [tA_eq h1 s1]
  simp (disch := omega) only [wr64]
  refine ⟨h5, by omega, fun _ => by omega, fun hc => ⟨by omega, fun hd => ?_, fun hd => ?_⟩, fun hc => ⟨by omega, fun hd => ?_, fun hd => ?_⟩⟩ <;>
  simp only [Bool.and_eq_true, Bool.and_eq_false_iff, decide_eq_true_eq, decide_eq_false_iff_not] at hc hd
  · exact .of (Ret_pure (.inl rfl) (by simp [ares, ares1]) (by simp [ares, ares1, upd_at, tB, hc, hd]) (by simp [CloS]))
  · exact .of (Ret_pure (.inl rfl) (by simp [ares, ares1]) (by simp [ares, ares1, upd_at, tB, hc, hd]) (by simp [CloS]))
  · rw [if_neg (by omega)]; exact .of (Ret_pure (.inl rfl) (by simp [ares, ares1]) (by simp [ares, ares1, upd_at, tB, hd]) (by simp [CloS]))
  · rw [if_neg (by omega)]; exact .of (Ret_pure (.inl rfl) (by simp [ares, ares1]) (by simp [ares, ares1, upd_at, tB, hd]) (by simp [CloS]))
theorem con14 (a b c d z : Int) : AC Try.prog 14 [bxv a b c d, .int .i64 z] (E 0) (.sl [0] 3 (tilesI a b c d z).length 0 (tilesI a b c d z).length) (ML [rowT z (tilesI a b c d z)]) := by
  refine AC.of Try.func14 rfl rfl (by simp [Try.ntmps14]) rfl (fun C hC hm => ?_)
  rw [Try.ntmps14] at hC
  simp only [hC, bxv, VS, TY, PF, pickv, pick_or, pick_and, aop, apure, AS.ev, startA, strip, abin, aint, alen, gdv, AS.put, upd_at, mi64, ma64, miu8, mau8, ofVal, pcells, ld, gtmp, within, astore, splice, afill, allCells, okIdx, asrc, aappend, ofL, Own.pv, Int.reduceLE, Int.reduceNeg, Int.reduceLT, and_self, and_true, true_and, and_false, false_and, if_true, if_false, Nat.reduceEqDiff, List.getD_cons_zero, List.getD_cons_succ, ↓reduceIte, List.map_cons, List.map_nil, List.getElem?_cons_succ, List.getElem?_cons_zero, List.getElem?_nil, Option.bind_some, id_eq, List.all_nil, forall_const, Option.all_some, Option.all_none, Nat.reduceLT, Nat.reduceLeDiff, Nat.reduceAdd, Nat.reduceMul, Nat.zero_add, Nat.add_zero, decide_true, implies_true, List.nil_append, List.append_nil, List.cons_append, cond_false, cond_true, List.all_cons, Bool.and_true, List.drop_zero, List.drop_succ_cons, List.take_zero, List.take_succ_cons, List.drop_nil, List.take_nil, List.length_cons, List.length_nil, ne_eq, not_false_eq_true, not_true_eq_false, List.cons.injEq, Nat.one_ne_zero, Nat.add_one_ne_zero, reduceCtorEq, true_or, or_true, or_self, beq_self_eq_true, List.size_toArray, List.mem_cons, List.not_mem_nil, or_false, forall_eq, forall_eq_or_imp]
  refine ⟨by simp, ?_⟩
  refine acall_p (con70 a b c d) (by simp [CloS]) Clo_bool ?_
  simp only [hC, bxv, VS, TY, PF, pickv, pick_or, pick_and, aop, apure, AS.ev, startA, strip, abin, aint, alen, gdv, AS.put, upd_at, mi64, ma64, miu8, mau8, ofVal, pcells, ld, gtmp, within, astore, splice, afill, allCells, okIdx, asrc, aappend, ofL, Own.pv, Int.reduceLE, Int.reduceNeg, Int.reduceLT, and_self, and_true, true_and, and_false, false_and, if_true, if_false, Nat.reduceEqDiff, List.getD_cons_zero, List.getD_cons_succ, ↓reduceIte, List.map_cons, List.map_nil, List.getElem?_cons_succ, List.getElem?_cons_zero, List.getElem?_nil, Option.bind_some, id_eq, List.all_nil, forall_const, Option.all_some, Option.all_none, Nat.reduceLT, Nat.reduceLeDiff, Nat.reduceAdd, Nat.reduceMul, Nat.zero_add, Nat.add_zero, decide_true, implies_true, List.nil_append, List.append_nil, List.cons_append, cond_false, cond_true, List.all_cons, Bool.and_true, List.drop_zero, List.drop_succ_cons, List.take_zero, List.take_succ_cons, List.drop_nil, List.take_nil, List.length_cons, List.length_nil, ne_eq, not_false_eq_true, not_true_eq_false, List.cons.injEq, Nat.one_ne_zero, Nat.add_one_ne_zero, reduceCtorEq, true_or, or_true, or_self, beq_self_eq_true, List.size_toArray, List.mem_cons, List.not_mem_nil, or_false, forall_eq, forall_eq_or_imp]
  refine ⟨fun hbad => ?_, fun hok => ?_⟩
  · have e : tilesI a b c d z = [] := by
      rw [tilesI, if_pos]
      simp only [Bool.or_eq_true, Bool.not_eq_true', decide_eq_true_eq] at hbad
      exact or_assoc.1 hbad
    rw [e]
    exact Ret_O (.sl 0 3 0 0 0) [[1]] [rowT z []] (by simp [ares, ares1]) (by simp [ares, ares1, upd_at, Own.pv, VS]) (by simp [Own.ok]) (by simp [obsT, obT, upd_at, VS, rowT, ObC])
  simp only [Bool.or_eq_false_iff, Bool.not_eq_false', decide_eq_false_iff_not] at hok
  obtain ⟨⟨hbx, hz0⟩, hz1⟩ := hok
  obtain ⟨s1, s2, n1, n2⟩ := side_in (z := z) (by omega) (by omega)
  have hbx' := hbx
  simp only [bxOk, ptOk, Bool.and_eq_true, decide_eq_true_eq] at hbx
  refine acall_p (con71 a c z (by omega) (by omega) (by omega) (by omega) (by omega) (by omega)) (by simp [CloS]) (by simp [CloS]) ?_
  simp only [hC, bxv, VS, TY, PF, pickv, pick_or, pick_and, aop, apure, AS.ev, startA, strip, abin, aint, alen, gdv, AS.put, upd_at, mi64, ma64, miu8, mau8, ofVal, pcells, ld, gtmp, within, astore, splice, afill, allCells, okIdx, asrc, aappend, ofL, Own.pv, Int.reduceLE, Int.reduceNeg, Int.reduceLT, and_self, and_true, true_and, and_false, false_and, if_true, if_false, Nat.reduceEqDiff, List.getD_cons_zero, List.getD_cons_succ, ↓reduceIte, List.map_cons, List.map_nil, List.getElem?_cons_succ, List.getElem?_cons_zero, List.getElem?_nil, Option.bind_some, id_eq, List.all_nil, forall_const, Option.all_some, Option.all_none, Nat.reduceLT, Nat.reduceLeDiff, Nat.reduceAdd, Nat.reduceMul, Nat.zero_add, Nat.add_zero, decide_true, implies_true, List.nil_append, List.append_nil, List.cons_append, cond_false, cond_true, List.all_cons, Bool.and_true, List.drop_zero, List.drop_succ_cons, List.take_zero, List.take_succ_cons, List.drop_nil, List.take_nil, List.length_cons, List.length_nil, ne_eq, not_false_eq_true, not_true_eq_false, List.cons.injEq, Nat.one_ne_zero, Nat.add_one_ne_zero, reduceCtorEq, true_or, or_true, or_self, beq_self_eq_true, List.size_toArray, List.mem_cons, List.not_mem_nil, or_false, forall_eq, forall_eq_or_imp]
  refine acall_p (con71 b d z (by omega) (by omega) (by omega) (by omega) (by omega) (by omega)) (by simp [CloS]) (by simp [CloS]) ?_
  simp only [hC, bxv, VS, TY, PF, pickv, pick_or, pick_and, aop, apure, AS.ev, startA, strip, abin, aint, alen, gdv, AS.put, upd_at, mi64, ma64, miu8, mau8, ofVal, pcells, ld, gtmp, within, astore, splice, afill, allCells, okIdx, asrc, aappend, ofL, Own.pv, Int.reduceLE, Int.reduceNeg, Int.reduceLT, and_self, and_true, true_and, and_false, false_and, if_true, if_false, Nat.reduceEqDiff, List.getD_cons_zero, List.getD_cons_succ, ↓reduceIte, List.map_cons, List.map_nil, List.getElem?_cons_succ, List.getElem?_cons_zero, List.getElem?_nil, Option.bind_some, id_eq, List.all_nil, forall_const, Option.all_some, Option.all_none, Nat.reduceLT, Nat.reduceLeDiff, Nat.reduceAdd, Nat.reduceMul, Nat.zero_add, Nat.add_zero, decide_true, implies_true, List.nil_append, List.append_nil, List.cons_append, cond_false, cond_true, List.all_cons, Bool.and_true, List.drop_zero, List.drop_succ_cons, List.take_zero, List.take_succ_cons, List.drop_nil, List.take_nil, List.length_cons, List.length_nil, ne_eq, not_false_eq_true, not_true_eq_false, List.cons.injEq, Nat.one_ne_zero, Nat.add_one_ne_zero, reduceCtorEq, true_or, or_true, or_self, beq_self_eq_true, List.size_toArray, List.mem_cons, List.not_mem_nil, or_false, forall_eq, forall_eq_or_imp]
  generalize hS : (33554432 : Int).fdiv (2 ^ min z.toNat 64) = side at *
  generalize hN : (1 : Int) * 2 ^ min z.toNat 64 = n at *
  obtain ⟨a1, a2⟩ := tA_in (lo := a) (side := side) (by omega) (by omega) s1 s2
  obtain ⟨a3, a4⟩ := tA_in (lo := b) (side := side) (by omega) (by omega) s1 s2
  obtain ⟨b1, b2⟩ := tB_in (hi := c) (side := side) (n := n) (by omega) (by omega) s1 n1
  obtain ⟨b3, b4⟩ := tB_in (hi := d) (side := side) (n := n) (by omega) (by omega) s1 n1
  have hL : tilesI a b c d z = if 400 < (tB c side n - tA a side + 1) * (tB d side n - tA b side + 1) then [] else rows (tA a side) (tB c side n) (tA b side) (tB d side n) := by
    rw [tilesI, if_neg (by simp [hbx']; omega), hS, hN]
  generalize tilesI a b c d z = L0 at *
  generalize tA a side = x0 at *
  generalize tA b side = y0 at *
  generalize tB c side n = x1 at *
  generalize tB d side n = y1 at *
  obtain ⟨m1, m2⟩ := mul_in (u := x1 - x0 + 1) (v := y1 - y0 + 1) (by omega) (by omega) (by omega) (by omega)
  simp (disch := omega) only [wr64]
  refine ⟨fun hb => ?_, fun hb => ?_⟩
  · rw [hL, if_pos (by simpa using hb)]
    refine Ret_O (.sl 0 3 0 0 0) [[1]] [rowT z []] (by simp [ares, ares1]) (by simp [ares, ares1, upd_at, Own.pv, VS]) (by simp [Own.ok]) (by simp [obsT, obT, upd_at, VS, rowT, ObC])
  rw [if_neg (by simpa using hb)] at hL
  refine AL.told (Told_O (n0 := 0) (by rw [hm]; rfl) [(1, .v (.int .i64 z)), (6, .v (.int .i64 x0)), (7, .v (.int .i64 x1)), (8, .v (.int .i64 y0)), (9, .v (.int .i64 y1)), (5, .sl 0 3 0 0 0), (10, .v (.int .i64 y0))] [[1]] [rowT z []] (by simp [obsT, obT, upd_at, VS, rowT, ObC]) (by simp [upd_at, VS, Own.pv, Own.ok, CloS])) ?_
  have hlen : L0.length ≤ 1048576 := by rw [hL, rows_len]; exact (show _ ≤ 1024 * 1024 from Nat.mul_le_mul (by omega) (by omega))
  refine AL.ind (X := Int × List (Int × Int)) (st := fun p => ⟨ofL [(1, .int .i64 z), (6, .int .i64 x0), (7, .int .i64 x1), (8, .int .i64 y0), (9, .int .i64 y1), (5, .sl [0] 3 p.2.length 0 p.2.length), (10, .int .i64 p.1)], ML [rowT z p.2]⟩) (fun p => (y1 - p.1 + 1).toNat) (fun p => y0 ≤ p.1 ∧ p.2 ++ rows x0 x1 p.1 y1 = L0) ?_ (y0, []) ⟨Int.le_refl _, hL.symm⟩
  rintro ⟨y, L⟩ ⟨hy, hL1⟩ ih
  simp only at hy hL1 ih ⊢
  simp only [hC, VS, TY, PF, pickv, pick_or, pick_and, aop, apure, AS.ev, startA, strip, abin, aint, alen, gdv, AS.put, upd_at, mi64, ma64, miu8, mau8, ofVal, pcells, ld, gtmp, within, astore, splice, afill, allCells, okIdx, asrc, aappend, ofL, Own.pv, Int.reduceLE, Int.reduceNeg, Int.reduceLT, and_self, and_true, true_and, and_false, false_and, if_true, if_false, Nat.reduceEqDiff, List.getD_cons_zero, List.getD_cons_succ, ↓reduceIte, List.map_cons, List.map_nil, List.getElem?_cons_succ, List.getElem?_cons_zero, List.getElem?_nil, Option.bind_some, id_eq, List.all_nil, forall_const, Option.all_some, Option.all_none, Nat.reduceLT, Nat.reduceLeDiff, Nat.reduceAdd, Nat.reduceMul, Nat.zero_add, Nat.add_zero, decide_true, implies_true, List.nil_append, List.append_nil, List.cons_append, cond_false, cond_true, List.all_cons, Bool.and_true, List.drop_zero, List.drop_succ_cons, List.take_zero, List.take_succ_cons, List.drop_nil, List.take_nil, List.length_cons, List.length_nil, ne_eq, not_false_eq_true, not_true_eq_false, List.cons.injEq, Nat.one_ne_zero, Nat.add_one_ne_zero, reduceCtorEq, true_or, or_true, or_self, beq_self_eq_true, List.size_toArray, List.mem_cons, List.not_mem_nil, or_false, forall_eq, forall_eq_or_imp]
  refine ⟨fun hyy => ?_, fun hyy => ?_⟩
  · have hyy : y ≤ y1 := by simpa using hyy
    refine AL.told (Told_O (n0 := 0) (by rw [hm]; rfl) [(1, .v (.int .i64 z)), (6, .v (.int .i64 x0)), (7, .v (.int .i64 x1)), (8, .v (.int .i64 y0)), (9, .v (.int .i64 y1)), (5, .sl 0 3 L.length 0 L.length), (10, .v (.int .i64 y)), (11, .v (.int .i64 x0))] [[0]] [rowT z L] (by simp [obsT, obT, upd_at, VS, rowT, ObC, cellsT, CloS]) (by simp [upd_at, VS, Own.pv, Own.ok, CloS, ofL])) ?_
    refine AL.ind (X := Int × List (Int × Int)) (st := fun p => ⟨ofL [(1, .int .i64 z), (6, .int .i64 x0), (7, .int .i64 x1), (8, .int .i64 y0), (9, .int .i64 y1), (5, .sl [0] 3 p.2.length 0 p.2.length), (10, .int .i64 y), (11, .int .i64 p.1)], ML [rowT z p.2]⟩) (fun p => (x1 - p.1 + 1).toNat) (fun p => x0 ≤ p.1 ∧ p.2 ++ (row1 p.1 x1 y ++ rows x0 x1 (y + 1) y1) = L0) ?_ (x0, L) ⟨Int.le_refl _, ?_⟩
    · rintro ⟨x, M⟩ ⟨hx, hM⟩ ih2
      simp only at hx hM ih2 ⊢
      simp only [hC, rowT, VS, TY, PF, pickv, pick_or, pick_and, aop, apure, AS.ev, startA, strip, abin, aint, alen, gdv, AS.put, upd_at, mi64, ma64, miu8, mau8, ofVal, pcells, ld, gtmp, within, astore, splice, afill, allCells, okIdx, asrc, aappend, ofL, Own.pv, Int.reduceLE, Int.reduceNeg, Int.reduceLT, and_self, and_true, true_and, and_false, false_and, if_true, if_false, Nat.reduceEqDiff, List.getD_cons_zero, List.getD_cons_succ, ↓reduceIte, List.map_cons, List.map_nil, List.getElem?_cons_succ, List.getElem?_cons_zero, List.getElem?_nil, Option.bind_some, id_eq, List.all_nil, forall_const, Option.all_some, Option.all_none, Nat.reduceLT, Nat.reduceLeDiff, Nat.reduceAdd, Nat.reduceMul, Nat.zero_add, Nat.add_zero, decide_true, implies_true, List.nil_append, List.append_nil, List.cons_append, cond_false, cond_true, List.all_cons, Bool.and_true, List.drop_zero, List.drop_succ_cons, List.take_zero, List.take_succ_cons, List.drop_nil, List.take_nil, List.length_cons, List.length_nil, ne_eq, not_false_eq_true, not_true_eq_false, List.cons.injEq, Nat.one_ne_zero, Nat.add_one_ne_zero, reduceCtorEq, true_or, or_true, or_self, beq_self_eq_true, List.size_toArray, List.mem_cons, List.not_mem_nil, or_false, forall_eq, forall_eq_or_imp]
      refine ⟨fun hxx => ?_, fun hxx => ?_⟩
      · have hxx : x ≤ x1 := by simpa using hxx
        have hM1 : M.length < L0.length := by
          rw [row1, ir_cons hxx] at hM
          have := congrArg List.length hM
          simp at this; omega
        simp only [wr64 (n := x + 1) (by omega) (by omega)]
        refine ⟨by omega, ?_⟩
        refine AL.told (Told_O (n0 := 0) (by rw [hm]; rfl) [(1, .v (.int .i64 z)), (6, .v (.int .i64 x0)), (7, .v (.int .i64 x1)), (8, .v (.int .i64 y0)), (9, .v (.int .i64 y1)), (5, .sl 0 3 (M ++ [(x, y)]).length 0 (M ++ [(x, y)]).length), (10, .v (.int .i64 y)), (11, .v (.int .i64 (x + 1)))] [[2]] [rowT z (M ++ [(x, y)])] ?_ (by simp [upd_at, VS, Own.pv, Own.ok, CloS, ofL])) (ih2 (x + 1, M ++ [(x, y)]) ⟨by simp only; omega, ?_⟩ (by simp only; omega))
        · simp [obsT, obT, upd_at, VS, rowT, ObC, CloS]
          intro i hi
          rcases Nat.lt_or_ge i M.length with h | h
          · simp [h, List.getElem?_append_left h, cellsT, CloS]
          · obtain rfl : i = M.length := by omega
            simp [cellsT, CloS]
        · simp only
          rw [← hM, row1_cons hxx]; simp
      · have hxx : ¬ x ≤ x1 := by simpa using hxx
        simp only [wr64 (n := y + 1) (by omega) (by omega)]
        refine AL.told (Told_O (n0 := 0) (by rw [hm]; rfl) [(1, .v (.int .i64 z)), (6, .v (.int .i64 x0)), (7, .v (.int .i64 x1)), (8, .v (.int .i64 y0)), (9, .v (.int .i64 y1)), (5, .sl 0 3 M.length 0 M.length), (10, .v (.int .i64 (y + 1)))] [[0]] [rowT z M] (by simp [obsT, obT, upd_at, VS, rowT, ObC, cellsT, CloS]) (by simp [upd_at, VS, Own.pv, Own.ok, CloS, ofL])) (ih (y + 1, M) ⟨by simp only; omega, ?_⟩ (by simp only; omega))
        simp only
        rw [← hM, row1, ir_nil hxx]; rfl
    · rw [← hL1, rows_cons hyy]
  · have hyy : ¬ y ≤ y1 := by simpa using hyy
    have : L = L0 := by rw [← hL1, rows, ir_nil hyy]; simp
    subst this
    exact Ret_O (.sl 0 3 L.length 0 L.length) [[0]] [rowT z L] (by simp [ares, ares1]) (by simp [ares, ares1, upd_at, Own.pv, VS]) (by simp [Own.ok]) (by simp [obsT, obT, upd_at, VS, rowT, ObC, cellsT, CloS])
end Go.Proofs.Ytolejglfohagnaa.Wd
