/- Tiles in a box: the program's. -/
import Derived.Test.YtolejglfohagnaaETilesOf2
namespace Go.Proofs.Ytolejglfohagnaa.Wd
open Go Go.RowKit Go.Proofs Go.Proofs.YtolejglfohagnaaW.AW
set_option linter.unusedVariables false
set_option linter.unusedSimpArgs false
set_option maxRecDepth 100000
/-- From a to b. -/
def ir (a b : Int) : List Int := (List.range (b - a + 1).toNat).map (fun (i : Nat) => a + (i : Int))
theorem ir_nil {a b : Int} (h : ¬ a ≤ b) : ir a b = [] := by simp [ir, show (b - a + 1).toNat = 0 by omega]
theorem ir_cons {a b : Int} (h : a ≤ b) : ir a b = a :: ir (a + 1) b := by
  obtain ⟨k, hk⟩ : ∃ k : Nat, (b - a + 1).toNat = k + 1 := ⟨(b - a).toNat, by omega⟩
  have h2 : (b - (a + 1) + 1).toNat = k := by omega
  simp only [ir, hk, h2, List.range_succ_eq_map, List.map_cons, List.map_map]
  simp only [Function.comp_def, Nat.succ_eq_add_one]
  congr 1
  · simp
  · refine List.map_congr_left fun i _ => by push_cast; omega
def row1 (x0 x1 y : Int) : List (Int × Int) := (ir x0 x1).map (fun x => (x, y))
def rows (x0 x1 y0 y1 : Int) : List (Int × Int) := (ir y0 y1).flatMap (row1 x0 x1)
def cellsT (z : Int) (p : Int × Int) : List PV := [.int .i64 z, .int .i64 p.1, .int .i64 p.2]
def rowT (z : Int) (L : List (Int × Int)) : Ob := .row 3 L.length (fun i => cellsT z (L.getD i (0, 0)))
def tilesI (a b c d z : Int) : List (Int × Int) := if bxOk a b c d = false ∨ z < 0 ∨ 10 < z then [] else
  let side := (33554432 : Int).fdiv (2 ^ min z.toNat 64)
  let n := 1 * 2 ^ min z.toNat 64
  if 400 < (tB c side n - tA a side + 1) * (tB d side n - tA b side + 1) then [] else rows (tA a side) (tB c side n) (tA b side) (tB d side n)
theorem side_in {z : Int} (h0 : 0 ≤ z) (h1 : z ≤ 10) : 0 < (33554432 : Int).fdiv (2 ^ min z.toNat 64) ∧ (33554432 : Int).fdiv (2 ^ min z.toNat 64) ≤ 33554432 ∧ 0 < (1 : Int) * 2 ^ min z.toNat 64 ∧ (1 : Int) * 2 ^ min z.toNat 64 ≤ 1024 := by
  have key : ∀ k : Fin 11, 0 < (33554432 : Int).fdiv (2 ^ min k.val 64) ∧ (33554432 : Int).fdiv (2 ^ min k.val 64) ≤ 33554432 ∧ 0 < (1 : Int) * 2 ^ min k.val 64 ∧ (1 : Int) * 2 ^ min k.val 64 ≤ 1024 := by decide
  exact key ⟨z.toNat, by omega⟩
theorem bits64 : IntKind.i64.bits = 64 := rfl
theorem tA_in {lo side : Int} (h1 : -10000000 ≤ lo) (h2 : lo ≤ 10000000) (h5 : 0 < side) (h6 : side ≤ 33554432) : 0 ≤ tA lo side ∧ tA lo side ≤ 100000000 := by
  have := tdiv_in (a := lo + 16777216 + side - 1) (b := side) (k := 100000000) (by omega) (by omega) h5
  unfold tA; split <;> omega
theorem tB_in {hi side n : Int} (h1 : -10000000 ≤ hi) (h2 : hi ≤ 10000000) (h5 : 0 < side) (h7 : 0 < n) : 0 ≤ tB hi side n ∧ tB hi side n ≤ n - 1 := by
  have := tdiv_in (a := hi + 16777216) (b := side) (k := 100000000) (by omega) (by omega) h5
  unfold tB; split <;> omega
theorem mul_in {u v : Int} (h1 : -200000000 ≤ u) (h2 : u ≤ 200000000) (h3 : -200000000 ≤ v) (h4 : v ≤ 200000000) : -40000000000000000 ≤ u * v ∧ u * v ≤ 40000000000000000 := by
  have : (u * v).natAbs ≤ 200000000 * 200000000 := by rw [Int.natAbs_mul]; exact Nat.mul_le_mul (by omega) (by omega)
  omega
theorem rows_len {x0 x1 y0 y1 : Int} : (rows x0 x1 y0 y1).length = (y1 - y0 + 1).toNat * (x1 - x0 + 1).toNat := by
  simp [rows, List.length_flatMap, row1, ir, Function.comp_def, List.map_const']
theorem rows_cons {x0 x1 y0 y1 : Int} (h : y0 ≤ y1) : rows x0 x1 y0 y1 = row1 x0 x1 y0 ++ rows x0 x1 (y0 + 1) y1 := by
  rw [rows, ir_cons h, List.flatMap_cons]; rfl
theorem row1_cons {x0 x1 y : Int} (h : x0 ≤ x1) : row1 x0 x1 y = (x0, y) :: row1 (x0 + 1) x1 y := by simp [row1, ir_cons h]
theorem con16 (a b c d z : Int) : AC Try.prog 16 [bxv a b c d, .int .i64 z] (E 0) (.sl [0] 3 (tilesI a b c d z).length 0 (tilesI a b c d z).length) (ML [rowT z (tilesI a b c d z)]) := by
  refine AC.of Try.func16 rfl rfl (by simp [Try.ntmps16]) rfl (fun C hC hm => ?_)
  rw [Try.ntmps16] at hC
  simp only [hC, bxv, VS, TY, PF, pickv, pick_or, pick_and, aop, apure, AS.ev, startA, strip, abin, aint, alen, gdv, AS.put, upd_at, mi64, ma64, miu8, mau8, ofVal, pcells, ld, gtmp, within, astore, splice, afill, allCells, okIdx, asrc, aappend, ofL, Own.pv, Int.reduceLE, Int.reduceNeg, Int.reduceLT, and_self, and_true, true_and, and_false, false_and, if_true, if_false, Nat.reduceEqDiff, List.getD_cons_zero, List.getD_cons_succ, ↓reduceIte, List.map_cons, List.map_nil, List.getElem?_cons_succ, List.getElem?_cons_zero, List.getElem?_nil, Option.bind_some, id_eq, List.all_nil, forall_const, Option.all_some, Option.all_none, Nat.reduceLT, Nat.reduceLeDiff, Nat.reduceAdd, Nat.reduceMul, Nat.zero_add, Nat.add_zero, decide_true, implies_true, List.nil_append, List.append_nil, List.cons_append, cond_false, cond_true, List.all_cons, Bool.and_true, List.drop_zero, List.drop_succ_cons, List.take_zero, List.take_succ_cons, List.drop_nil, List.take_nil, List.length_cons, List.length_nil, ne_eq, not_false_eq_true, not_true_eq_false, List.cons.injEq, Nat.one_ne_zero, Nat.add_one_ne_zero, reduceCtorEq, true_or, or_true, or_self, beq_self_eq_true, List.size_toArray, List.mem_cons, List.not_mem_nil, or_false, forall_eq, forall_eq_or_imp]
  refine acall_p (con72 a b c d) (by simp [CloS]) Clo_bool ?_
  simp only [hC, bxv, VS, TY, PF, pickv, pick_or, pick_and, aop, apure, AS.ev, startA, strip, abin, aint, alen, gdv, AS.put, upd_at, mi64, ma64, miu8, mau8, ofVal, pcells, ld, gtmp, within, astore, splice, afill, allCells, okIdx, asrc, aappend, ofL, Own.pv, Int.reduceLE, Int.reduceNeg, Int.reduceLT, and_self, and_true, true_and, and_false, false_and, if_true, if_false, Nat.reduceEqDiff, List.getD_cons_zero, List.getD_cons_succ, ↓reduceIte, List.map_cons, List.map_nil, List.getElem?_cons_succ, List.getElem?_cons_zero, List.getElem?_nil, Option.bind_some, id_eq, List.all_nil, forall_const, Option.all_some, Option.all_none, Nat.reduceLT, Nat.reduceLeDiff, Nat.reduceAdd, Nat.reduceMul, Nat.zero_add, Nat.add_zero, decide_true, implies_true, List.nil_append, List.append_nil, List.cons_append, cond_false, cond_true, List.all_cons, Bool.and_true, List.drop_zero, List.drop_succ_cons, List.take_zero, List.take_succ_cons, List.drop_nil, List.take_nil, List.length_cons, List.length_nil, ne_eq, not_false_eq_true, not_true_eq_false, List.cons.injEq, Nat.one_ne_zero, Nat.add_one_ne_zero, reduceCtorEq, true_or, or_true, or_self, beq_self_eq_true, List.size_toArray, List.mem_cons, List.not_mem_nil, or_false, forall_eq, forall_eq_or_imp]
  refine ⟨fun hbad => RetT.told (Told.nil 4 3 (fun i => cellsT z (([] : List (Int × Int)).getD i (0, 0))) rfl) ?_, fun hok => ?_⟩
  · have e : tilesI a b c d z = [] := by
      rw [tilesI, if_pos]
      simp only [Bool.or_eq_true, Bool.not_eq_true', decide_eq_true_eq] at hbad
      exact or_assoc.1 hbad
    rw [e]
    refine Ret_O (.sl 0 3 0 0 0) [[1]] [rowT z []] (by simp [ares, ares1]) (by simp [ares, ares1, upd_at, Own.pv, VS]) (by simp [Own.ok]) (by simp [obsT, obT, upd_at, VS, rowT, ObC])
  simp only [Bool.or_eq_false_iff, Bool.not_eq_false', decide_eq_false_iff_not] at hok
  obtain ⟨⟨hbx, hz0⟩, hz1⟩ := hok
  obtain ⟨s1, s2, n1, n2⟩ := side_in (z := z) (by omega) (by omega)
  have hbx' := hbx
  simp only [bxOk, ptOk, Bool.and_eq_true, decide_eq_true_eq] at hbx
  refine ⟨by omega, by omega, ?_⟩
  rw [bits64, wr64 (n := 1 * 2 ^ min z.toNat 64) (by omega) (by omega)]
  generalize hS : (33554432 : Int).fdiv (2 ^ min z.toNat 64) = side at *
  generalize hN : (1 : Int) * 2 ^ min z.toNat 64 = n at *
  refine acall_O (.v (.tu [.int .i64 (tA a side), .int .i64 (tB c side n)])) [[1], [2]] [.v (.int .i64 a), .v (.int .i64 c), .bp 0 0, .bp 1 0] (con73 a c side n (by omega) (by omega) (by omega) (by omega) s1 s2 n1 n2) ?_ rfl (by simp [obsT, obT, upd_at, VS, ObC, CloS]) (by simp [Own.ok, CloS]) (by simp [Own.ok, CloS]) (by simp [ObC, CloS]) (by simp [hb, VS])
  simp only [hC, bxv, VS, TY, PF, pickv, pick_or, pick_and, aop, apure, AS.ev, startA, strip, abin, aint, alen, gdv, AS.put, upd_at, mi64, ma64, miu8, mau8, ofVal, pcells, ld, gtmp, within, astore, splice, afill, allCells, okIdx, asrc, aappend, ofL, Own.pv, Int.reduceLE, Int.reduceNeg, Int.reduceLT, and_self, and_true, true_and, and_false, false_and, if_true, if_false, Nat.reduceEqDiff, List.getD_cons_zero, List.getD_cons_succ, ↓reduceIte, List.map_cons, List.map_nil, List.getElem?_cons_succ, List.getElem?_cons_zero, List.getElem?_nil, Option.bind_some, id_eq, List.all_nil, forall_const, Option.all_some, Option.all_none, Nat.reduceLT, Nat.reduceLeDiff, Nat.reduceAdd, Nat.reduceMul, Nat.zero_add, Nat.add_zero, decide_true, implies_true, List.nil_append, List.append_nil, List.cons_append, cond_false, cond_true, List.all_cons, Bool.and_true, List.drop_zero, List.drop_succ_cons, List.take_zero, List.take_succ_cons, List.drop_nil, List.take_nil, List.length_cons, List.length_nil, ne_eq, not_false_eq_true, not_true_eq_false, List.cons.injEq, Nat.one_ne_zero, Nat.add_one_ne_zero, reduceCtorEq, true_or, or_true, or_self, beq_self_eq_true, List.size_toArray, List.mem_cons, List.not_mem_nil, or_false, forall_eq, forall_eq_or_imp]
  refine acall_O (.v (.tu [.int .i64 (tA b side), .int .i64 (tB d side n)])) [[1], [2]] [.v (.int .i64 b), .v (.int .i64 d), .bp 0 0, .bp 1 0] (con73 b d side n (by omega) (by omega) (by omega) (by omega) s1 s2 n1 n2) ?_ rfl (by simp [obsT, obT, upd_at, VS, ObC, CloS]) (by simp [Own.ok, CloS]) (by simp [Own.ok, CloS]) (by simp [ObC, CloS]) (by simp [hb, VS])
  simp only [hC, bxv, VS, TY, PF, pickv, pick_or, pick_and, aop, apure, AS.ev, startA, strip, abin, aint, alen, gdv, AS.put, upd_at, mi64, ma64, miu8, mau8, ofVal, pcells, ld, gtmp, within, astore, splice, afill, allCells, okIdx, asrc, aappend, ofL, Own.pv, Int.reduceLE, Int.reduceNeg, Int.reduceLT, and_self, and_true, true_and, and_false, false_and, if_true, if_false, Nat.reduceEqDiff, List.getD_cons_zero, List.getD_cons_succ, ↓reduceIte, List.map_cons, List.map_nil, List.getElem?_cons_succ, List.getElem?_cons_zero, List.getElem?_nil, Option.bind_some, id_eq, List.all_nil, forall_const, Option.all_some, Option.all_none, Nat.reduceLT, Nat.reduceLeDiff, Nat.reduceAdd, Nat.reduceMul, Nat.zero_add, Nat.add_zero, decide_true, implies_true, List.nil_append, List.append_nil, List.cons_append, cond_false, cond_true, List.all_cons, Bool.and_true, List.drop_zero, List.drop_succ_cons, List.take_zero, List.take_succ_cons, List.drop_nil, List.take_nil, List.length_cons, List.length_nil, ne_eq, not_false_eq_true, not_true_eq_false, List.cons.injEq, Nat.one_ne_zero, Nat.add_one_ne_zero, reduceCtorEq, true_or, or_true, or_self, beq_self_eq_true, List.size_toArray, List.mem_cons, List.not_mem_nil, or_false, forall_eq, forall_eq_or_imp]
  obtain ⟨a1, a2⟩ := tA_in (lo := a) (side := side) (by omega) (by omega) s1 s2
  obtain ⟨a3, a4⟩ := tA_in (lo := b) (side := side) (by omega) (by omega) s1 s2
  obtain ⟨b1, b2⟩ := tB_in (hi := c) (side := side) (n := n) (by omega) (by omega) s1 n1
  obtain ⟨b3, b4⟩ := tB_in (hi := d) (side := side) (n := n) (by omega) (by omega) s1 n1
  have hL : tilesI a b c d z = if 400 < (tB c side n - tA a side + 1) * (tB d side n - tA b side + 1) then [] else rows (tA a side) (tB c side n) (tA b side) (tB d side n) := by
    rw [tilesI, if_neg (by simp [hbx']; omega), hS, hN]
  generalize tilesI a b c d z = L0 at *
  generalize tA a side = x0 at *
  generalize tA b side = y0 at *
  generalize tB c side n = x1 at *
  generalize tB d side n = y1 at *
  obtain ⟨m1, m2⟩ := mul_in (u := x1 - x0 + 1) (v := y1 - y0 + 1) (by omega) (by omega) (by omega) (by omega)
  simp (disch := omega) only [wr64]
  refine ⟨fun hb => RetT.told (Told.nil 4 3 (fun i => cellsT z (([] : List (Int × Int)).getD i (0, 0))) rfl) ?_, fun hb => ?_⟩
  · rw [hL, if_pos (by simpa using hb)]
    refine Ret_O (.sl 0 3 0 0 0) [[3]] [rowT z []] (by simp [ares, ares1]) (by simp [ares, ares1, upd_at, Own.pv, VS]) (by simp [Own.ok]) (by simp [obsT, obT, upd_at, VS, rowT, ObC])
  rw [if_neg (by simpa using hb)] at hL
  refine AL.told (Told.nil 12 3 (fun i => cellsT z (([] : List (Int × Int)).getD i (0, 0))) (by simp [upd_at])) ?_
  refine AL.told (Told_O (n0 := 0) (by rw [hm]; rfl) [(1, .v (.int .i64 z)), (8, .v (.int .i64 x0)), (9, .v (.int .i64 x1)), (10, .v (.int .i64 y0)), (11, .v (.int .i64 y1)), (12, .sl 0 3 0 0 0), (13, .v (.int .i64 y0))] [[3]] [rowT z []] (by simp [obsT, obT, upd_at, VS, rowT, ObC]) (by simp [upd_at, VS, Own.pv, Own.ok, CloS])) ?_
  have hlen : L0.length ≤ 1048576 := by rw [hL, rows_len]; exact (show _ ≤ 1024 * 1024 from Nat.mul_le_mul (by omega) (by omega))
  refine AL.ind (X := Int × List (Int × Int)) (st := fun p => ⟨ofL [(1, .int .i64 z), (8, .int .i64 x0), (9, .int .i64 x1), (10, .int .i64 y0), (11, .int .i64 y1), (12, .sl [0] 3 p.2.length 0 p.2.length), (13, .int .i64 p.1)], ML [rowT z p.2]⟩) (fun p => (y1 - p.1 + 1).toNat) (fun p => y0 ≤ p.1 ∧ p.2 ++ rows x0 x1 p.1 y1 = L0) ?_ (y0, []) ⟨Int.le_refl _, hL.symm⟩
  rintro ⟨y, L⟩ ⟨hy, hL1⟩ ih
  simp only at hy hL1 ih ⊢
  simp only [hC, VS, TY, PF, pickv, pick_or, pick_and, aop, apure, AS.ev, startA, strip, abin, aint, alen, gdv, AS.put, upd_at, mi64, ma64, miu8, mau8, ofVal, pcells, ld, gtmp, within, astore, splice, afill, allCells, okIdx, asrc, aappend, ofL, Own.pv, Int.reduceLE, Int.reduceNeg, Int.reduceLT, and_self, and_true, true_and, and_false, false_and, if_true, if_false, Nat.reduceEqDiff, List.getD_cons_zero, List.getD_cons_succ, ↓reduceIte, List.map_cons, List.map_nil, List.getElem?_cons_succ, List.getElem?_cons_zero, List.getElem?_nil, Option.bind_some, id_eq, List.all_nil, forall_const, Option.all_some, Option.all_none, Nat.reduceLT, Nat.reduceLeDiff, Nat.reduceAdd, Nat.reduceMul, Nat.zero_add, Nat.add_zero, decide_true, implies_true, List.nil_append, List.append_nil, List.cons_append, cond_false, cond_true, List.all_cons, Bool.and_true, List.drop_zero, List.drop_succ_cons, List.take_zero, List.take_succ_cons, List.drop_nil, List.take_nil, List.length_cons, List.length_nil, ne_eq, not_false_eq_true, not_true_eq_false, List.cons.injEq, Nat.one_ne_zero, Nat.add_one_ne_zero, reduceCtorEq, true_or, or_true, or_self, beq_self_eq_true, List.size_toArray, List.mem_cons, List.not_mem_nil, or_false, forall_eq, forall_eq_or_imp]
  refine ⟨fun hyy => ?_, fun hyy => ?_⟩
  · have hyy : y ≤ y1 := by simpa using hyy
    refine AL.told (Told_O (n0 := 0) (by rw [hm]; rfl) [(1, .v (.int .i64 z)), (8, .v (.int .i64 x0)), (9, .v (.int .i64 x1)), (10, .v (.int .i64 y0)), (11, .v (.int .i64 y1)), (12, .sl 0 3 L.length 0 L.length), (13, .v (.int .i64 y)), (14, .v (.int .i64 x0))] [[0]] [rowT z L] (by simp [obsT, obT, upd_at, VS, rowT, ObC, cellsT, CloS]) (by simp [upd_at, VS, Own.pv, Own.ok, CloS, ofL])) ?_
    refine AL.ind (X := Int × List (Int × Int)) (st := fun p => ⟨ofL [(1, .int .i64 z), (8, .int .i64 x0), (9, .int .i64 x1), (10, .int .i64 y0), (11, .int .i64 y1), (12, .sl [0] 3 p.2.length 0 p.2.length), (13, .int .i64 y), (14, .int .i64 p.1)], ML [rowT z p.2]⟩) (fun p => (x1 - p.1 + 1).toNat) (fun p => x0 ≤ p.1 ∧ p.2 ++ (row1 p.1 x1 y ++ rows x0 x1 (y + 1) y1) = L0) ?_ (x0, L) ⟨Int.le_refl _, ?_⟩
    · rintro ⟨x, M⟩ ⟨hx, hM⟩ ih2
      simp only at hx hM ih2 ⊢
      simp only [hC, rowT, VS, TY, PF, pickv, pick_or, pick_and, aop, apure, AS.ev, startA, strip, abin, aint, alen, gdv, AS.put, upd_at, mi64, ma64, miu8, mau8, ofVal, pcells, ld, gtmp, within, astore, splice, afill, allCells, okIdx, asrc, aappend, ofL, Own.pv, Int.reduceLE, Int.reduceNeg, Int.reduceLT, and_self, and_true, true_and, and_false, false_and, if_true, if_false, Nat.reduceEqDiff, List.getD_cons_zero, List.getD_cons_succ, ↓reduceIte, List.map_cons, List.map_nil, List.getElem?_cons_succ, List.getElem?_cons_zero, List.getElem?_nil, Option.bind_some, id_eq, List.all_nil, forall_const, Option.all_some, Option.all_none, Nat.reduceLT, Nat.reduceLeDiff, Nat.reduceAdd, Nat.reduceMul, Nat.zero_add, Nat.add_zero, decide_true, implies_true, List.nil_append, List.append_nil, List.cons_append, cond_false, cond_true, List.all_cons, Bool.and_true, List.drop_zero, List.drop_succ_cons, List.take_zero, List.take_succ_cons, List.drop_nil, List.take_nil, List.length_cons, List.length_nil, ne_eq, not_false_eq_true, not_true_eq_false, List.cons.injEq, Nat.one_ne_zero, Nat.add_one_ne_zero, reduceCtorEq, true_or, or_true, or_self, beq_self_eq_true, List.size_toArray, List.mem_cons, List.not_mem_nil, or_false, forall_eq, forall_eq_or_imp]
      refine ⟨fun hxx => ?_, fun hxx => ?_⟩
      · have hxx : x ≤ x1 := by simpa using hxx
        have hM1 : M.length < L0.length := by
          rw [row1, ir_cons hxx] at hM
          have := congrArg List.length hM
          simp at this; omega
        simp only [wr64 (n := x + 1) (by omega) (by omega)]
        refine ⟨by omega, ?_⟩
        refine AL.told (Told_O (n0 := 0) (by rw [hm]; rfl) [(1, .v (.int .i64 z)), (8, .v (.int .i64 x0)), (9, .v (.int .i64 x1)), (10, .v (.int .i64 y0)), (11, .v (.int .i64 y1)), (12, .sl 0 3 (M ++ [(x, y)]).length 0 (M ++ [(x, y)]).length), (13, .v (.int .i64 y)), (14, .v (.int .i64 (x + 1)))] [[2]] [rowT z (M ++ [(x, y)])] ?_ (by simp [upd_at, VS, Own.pv, Own.ok, CloS, ofL])) (ih2 (x + 1, M ++ [(x, y)]) ⟨by simp only; omega, ?_⟩ (by simp only; omega))
        · simp [obsT, obT, upd_at, VS, rowT, ObC, CloS]
          intro i hi
          rcases Nat.lt_or_ge i M.length with h | h
          · simp [h, List.getElem?_append_left h, cellsT, CloS]
          · obtain rfl : i = M.length := by omega
            simp [cellsT, CloS]
        · simp only
          rw [← hM, row1_cons hxx]; simp
      · have hxx : ¬ x ≤ x1 := by simpa using hxx
        simp only [wr64 (n := y + 1) (by omega) (by omega)]
        refine AL.told (Told_O (n0 := 0) (by rw [hm]; rfl) [(1, .v (.int .i64 z)), (8, .v (.int .i64 x0)), (9, .v (.int .i64 x1)), (10, .v (.int .i64 y0)), (11, .v (.int .i64 y1)), (12, .sl 0 3 M.length 0 M.length), (13, .v (.int .i64 (y + 1)))] [[0]] [rowT z M] (by simp [obsT, obT, upd_at, VS, rowT, ObC, cellsT, CloS]) (by simp [upd_at, VS, Own.pv, Own.ok, CloS, ofL])) (ih (y + 1, M) ⟨by simp only; omega, ?_⟩ (by simp only; omega))
        simp only
        rw [← hM, row1, ir_nil hxx]; rfl
    · rw [← hL1, rows_cons hyy]
  · have hyy : ¬ y ≤ y1 := by simpa using hyy
    have : L = L0 := by rw [← hL1, rows, ir_nil hyy]; simp
    subst this
    exact Ret_O (.sl 0 3 L.length 0 L.length) [[0]] [rowT z L] (by simp [ares, ares1]) (by simp [ares, ares1, upd_at, Own.pv, VS]) (by simp [Own.ok]) (by simp [obsT, obT, upd_at, VS, rowT, ObC, cellsT, CloS])
end Go.Proofs.Ytolejglfohagnaa.Wd
