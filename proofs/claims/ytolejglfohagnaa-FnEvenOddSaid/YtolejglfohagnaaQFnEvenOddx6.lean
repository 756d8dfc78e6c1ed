/- Contracts of functions of the statement FnEvenOdd: the printed text, turned by a program of ours where it fell. -/
import Derived.Test.YtolejglfohagnaaQFnEvenOddx0
import Derived.Test.YtolejglfohagnaaQFnEvenOddx2
import Derived.Test.YtolejglfohagnaaQFnEvenOddx5
namespace Go.Proofs.Ytolejglfohagnaa.PFnEvenOdd
open Go.RowKit Go.Proofs.YtolejglfohagnaaW.PrintWords Go.Proofs.YtolejglfohagnaaW.PrintLast Go.Proofs.YtolejglfohagnaaW.PrintMore
attribute [local go_sem] max2_int min2_int max_two min_two max_three min_three max_four min_four   -- for this text's walks alone
set_option linter.unusedVariables false
set_option linter.unusedSimpArgs false

/-! ### spec_DrawInside: function 38 -/
def spec_DrawInside.j0 : Nat → List (S65) → Bool → List Int → Int → Int → Int → Int → Option ((List (S65)) × Int × Int)
 | 0, _, _, _, _, _, _, _ => none
 | k + 1, x5, x34, x279000, x279001, x279002, x291000, x291001 => if x34 = true then (if 0 < (x5.length : Int) then (if 0 < (((rd_T65 x5 0).f0).length : Int) then (if 1 < (((rd_T65 x5 0).f0).length : Int) then ((spec_l1Once.f x279000 x279001 x279002 3).bind fun bt301 => (if bt301.1 = true then (some (x5, (-100), (rd_T28 ((rd_T65 x5 0).f0) 0).f1)) else (some (x5, wrap64 (Int.tdiv (wrap64 (((rd_T28 ((rd_T65 x5 0).f0) 0).f0) + ((rd_T28 ((rd_T65 x5 0).f0) 1).f0))) 2), wrap64 (Int.tdiv (wrap64 (((rd_T28 ((rd_T65 x5 0).f0) 0).f1) + ((rd_T28 ((rd_T65 x5 0).f0) 1).f1))) 2))))) else (none)) else (none)) else (none)) else (some (x5, x291000, x291001))
def spec_DrawInside.f (k : Nat) (l0 : List Int) : Option ((List (S65)) × Int × Int) := (spec_l1New.f k l0).bind fun bt275 => ((spec_l4DrawRings.f k bt275.1 bt275.2.1 bt275.2.2).bind fun bt279 => ((spec_l1Below.f bt275.1 bt279.2.1 bt279.2.2 200).bind fun bt284 => ((spec_l1Below.f bt275.1 bt284.2.1 bt284.2.2 200).bind fun bt287 => ((spec_l1Once.f bt275.1 bt287.2.1 bt287.2.2 4).bind fun bt291 => (if bt291.1 = true then (if (bt279.1.length : Int) > 0 then (if 0 < (bt279.1.length : Int) then (spec_DrawInside.j0 k bt279.1 (decide ((((rd_T65 bt279.1 0).f0).length : Int) > 1)) bt275.1 bt291.2.1 bt291.2.2 (wrap64 (bt284.1 - 60)) (wrap64 (bt287.1 - 60))) else (none)) else (spec_DrawInside.j0 k bt279.1 false bt275.1 bt291.2.1 bt291.2.2 (wrap64 (bt284.1 - 60)) (wrap64 (bt287.1 - 60)))) else (spec_DrawInside.j0 k bt279.1 false bt275.1 bt291.2.1 bt291.2.2 (wrap64 (bt284.1 - 60)) (wrap64 (bt287.1 - 60))))))))
theorem spec_DrawInside.mono_l : ∀ k, (∀ y0 y1 y2 y3 y4 y5 y6, LeO (spec_DrawInside.j0 k y0 y1 y2 y3 y4 y5 y6) (spec_DrawInside.j0 (k + 1) y0 y1 y2 y3 y4 y5 y6))
 | 0 => fun _ _ _ _ _ _ _ r h => by simp [spec_DrawInside.j0] at h
 | k + 1 => by
  have ih0 := spec_DrawInside.mono_l k
  ·intro y0 y1 y2 y3 y4 y5 y6
   unfold spec_DrawInside.j0
   repeat' first
   | (with_reducible exact ih0 _ _ _ _ _ _ _)
   | (with_reducible exact spec_l1New.mono _ _)
   | (with_reducible exact spec_l4DrawRings.mono _ _ _ _)
   | (with_reducible exact LeO.refl _)
   | (with_reducible exact LeO.none _)
   | (with_reducible refine LeO.ite ?_ ?_)
   | (with_reducible refine LeO.bind ?_ (fun _ => ?_))
   | exact ih0 _ _ _ _ _ _ _
   | exact spec_l1New.mono _ _
   | exact spec_l4DrawRings.mono _ _ _ _
   | exact LeO.none _
   | refine LeO.ite ?_ ?_
   | refine LeO.bind ?_ (fun _ => ?_)
theorem spec_DrawInside.mono : ∀ a0 k, LeO (spec_DrawInside.f k a0) (spec_DrawInside.f (k + 1) a0) := by
 intro a0 k
 have ih0 := spec_DrawInside.mono_l k
 unfold spec_DrawInside.f
 repeat' first
   | (with_reducible exact ih0 _ _ _ _ _ _ _)
   | (with_reducible exact spec_l1New.mono _ _)
   | (with_reducible exact spec_l4DrawRings.mono _ _ _ _)
   | (with_reducible exact LeO.refl _)
   | (with_reducible exact LeO.none _)
   | (with_reducible refine LeO.ite ?_ ?_)
   | (with_reducible refine LeO.bind ?_ (fun _ => ?_))
   | exact ih0 _ _ _ _ _ _ _
   | exact spec_l1New.mono _ _
   | exact spec_l4DrawRings.mono _ _ _ _
   | exact LeO.none _
   | refine LeO.ite ?_ ?_
   | refine LeO.bind ?_ (fun _ => ?_)
set_option maxHeartbeats 8000000 in
set_option maxRecDepth 100000 in
theorem spec_DrawInside.calls (k : Nat) (A0 : Option Addr) (c0 : Nat) (l0 : List Int) (r1 : List (S65)) (r2 : Int) (r3 : Int) (w : World) (hr0 : Kd.C (Kd.int .u8) w A0 l0.length l0) (hc0 : l0.length ≤ c0) (h : spec_DrawInside.f k l0 = some (r1, r2, r3)) :
  Calls Try.prog 38 #[.slice A0 l0.length c0] w fun e w' => ∃ v0_ : Value, e = .returned (.tuple #[v0_, .agg #[.int .i64 r2, .int .i64 r3]]) ∧ Kd.S k65 65 w' w.heap.size (fun _ => True) v0_ r1 ∧ Below w.heap.size w w' := by
 have hu28 := Try.underlying28
 have HR0 := Aside0.mk hr0
 have HC0 := Aside0.mk hc0
 clear hr0 hc0
 have HB := Aside0.mk (Below.refl w.heap.size w)
 have H : ((spec_l1New.f k l0).bind fun bt275 => ((spec_l4DrawRings.f k bt275.1 bt275.2.1 bt275.2.2).bind fun bt279 => ((spec_l1Below.f bt275.1 bt279.2.1 bt279.2.2 200).bind fun bt284 => ((spec_l1Below.f bt275.1 bt284.2.1 bt284.2.2 200).bind fun bt287 => ((spec_l1Once.f bt275.1 bt287.2.1 bt287.2.2 4).bind fun bt291 => (if bt291.1 = true then (if (bt279.1.length : Int) > 0 then (if 0 < (bt279.1.length : Int) then (spec_DrawInside.j0 k bt279.1 (decide ((((rd_T65 bt279.1 0).f0).length : Int) > 1)) bt275.1 bt291.2.1 bt291.2.2 (wrap64 (bt284.1 - 60)) (wrap64 (bt287.1 - 60))) else (none)) else (spec_DrawInside.j0 k bt279.1 false bt275.1 bt291.2.1 bt291.2.2 (wrap64 (bt284.1 - 60)) (wrap64 (bt287.1 - 60)))) else (spec_DrawInside.j0 k bt279.1 false bt275.1 bt291.2.1 bt291.2.2 (wrap64 (bt284.1 - 60)) (wrap64 (bt287.1 - 60))))))))) = some (r1, r2, r3) := h
 clear h
 replace H := Option.bind_eq_some_iff.mp H
 obtain ⟨⟨t275, t276, t277⟩, A20, H⟩ := H
 replace H : ((spec_l4DrawRings.f k t275 t276 t277).bind fun bt279 => ((spec_l1Below.f t275 bt279.2.1 bt279.2.2 200).bind fun bt284 => ((spec_l1Below.f t275 bt284.2.1 bt284.2.2 200).bind fun bt287 => ((spec_l1Once.f t275 bt287.2.1 bt287.2.2 4).bind fun bt291 => (if bt291.1 = true then (if (bt279.1.length : Int) > 0 then (if 0 < (bt279.1.length : Int) then (spec_DrawInside.j0 k bt279.1 (decide ((((rd_T65 bt279.1 0).f0).length : Int) > 1)) t275 bt291.2.1 bt291.2.2 (wrap64 (bt284.1 - 60)) (wrap64 (bt287.1 - 60))) else (none)) else (spec_DrawInside.j0 k bt279.1 false t275 bt291.2.1 bt291.2.2 (wrap64 (bt284.1 - 60)) (wrap64 (bt287.1 - 60)))) else (spec_DrawInside.j0 k bt279.1 false t275 bt291.2.1 bt291.2.2 (wrap64 (bt284.1 - 60)) (wrap64 (bt287.1 - 60)))))))) = some (r1, r2, r3) := H
 have A2 := Aside0.mk A20
 clear A20
 replace H := Option.bind_eq_some_iff.mp H
 obtain ⟨⟨t279, t282, t283⟩, A30, H⟩ := H
 replace H : ((spec_l1Below.f t275 t282 t283 200).bind fun bt284 => ((spec_l1Below.f t275 bt284.2.1 bt284.2.2 200).bind fun bt287 => ((spec_l1Once.f t275 bt287.2.1 bt287.2.2 4).bind fun bt291 => (if bt291.1 = true then (if (t279.length : Int) > 0 then (if 0 < (t279.length : Int) then (spec_DrawInside.j0 k t279 (decide ((((rd_T65 t279 0).f0).length : Int) > 1)) t275 bt291.2.1 bt291.2.2 (wrap64 (bt284.1 - 60)) (wrap64 (bt287.1 - 60))) else (none)) else (spec_DrawInside.j0 k t279 false t275 bt291.2.1 bt291.2.2 (wrap64 (bt284.1 - 60)) (wrap64 (bt287.1 - 60)))) else (spec_DrawInside.j0 k t279 false t275 bt291.2.1 bt291.2.2 (wrap64 (bt284.1 - 60)) (wrap64 (bt287.1 - 60))))))) = some (r1, r2, r3) := H
 have A3 := Aside0.mk A30
 clear A30
 replace H := Option.bind_eq_some_iff.mp H
 obtain ⟨⟨t284, t285, t286⟩, A40, H⟩ := H
 replace H : ((spec_l1Below.f t275 t285 t286 200).bind fun bt287 => ((spec_l1Once.f t275 bt287.2.1 bt287.2.2 4).bind fun bt291 => (if bt291.1 = true then (if (t279.length : Int) > 0 then (if 0 < (t279.length : Int) then (spec_DrawInside.j0 k t279 (decide ((((rd_T65 t279 0).f0).length : Int) > 1)) t275 bt291.2.1 bt291.2.2 (wrap64 (t284 - 60)) (wrap64 (bt287.1 - 60))) else (none)) else (spec_DrawInside.j0 k t279 false t275 bt291.2.1 bt291.2.2 (wrap64 (t284 - 60)) (wrap64 (bt287.1 - 60)))) else (spec_DrawInside.j0 k t279 false t275 bt291.2.1 bt291.2.2 (wrap64 (t284 - 60)) (wrap64 (bt287.1 - 60)))))) = some (r1, r2, r3) := H
 have A4 := Aside0.mk A40
 clear A40
 replace H := Option.bind_eq_some_iff.mp H
 obtain ⟨⟨t287, t288, t289⟩, A50, H⟩ := H
 replace H : ((spec_l1Once.f t275 t288 t289 4).bind fun bt291 => (if bt291.1 = true then (if (t279.length : Int) > 0 then (if 0 < (t279.length : Int) then (spec_DrawInside.j0 k t279 (decide ((((rd_T65 t279 0).f0).length : Int) > 1)) t275 bt291.2.1 bt291.2.2 (wrap64 (t284 - 60)) (wrap64 (t287 - 60))) else (none)) else (spec_DrawInside.j0 k t279 false t275 bt291.2.1 bt291.2.2 (wrap64 (t284 - 60)) (wrap64 (t287 - 60)))) else (spec_DrawInside.j0 k t279 false t275 bt291.2.1 bt291.2.2 (wrap64 (t284 - 60)) (wrap64 (t287 - 60))))) = some (r1, r2, r3) := H
 have A5 := Aside0.mk A50
 clear A50
 have HC6 := Aside0.mk H
 clear H
 go_enter Try.func38, Try.ntmps38
 go_upto_region 4 with (first | ((with_reducible refine gate_dst (N := 3) rfl ?_); (try (refine gate_guard (by rfl) ?_; dsimp only)); refine box_event ?hg (N := 3) ?hd (cs := #[.int .i64 0, .int .i64 0]) (t := 28) ?hr ?_; (case hd => rfl); (case hg => rfl); (case hr => first | (go_simp; done) | (go_simp; rfl)); intro gb274 hg w7 hbox hb; have n0_ := Aside0.mk (below_step (by repeat (first | (with_reducible first | exact HB.out | apply below_alloc | apply pw_below_drewN | apply below_drew1) | exact HB.out)) hb); have n1_ := Aside0.mk (hbox); have n2_ := Aside0.mk ((by rw [hg]; exact (below_size (by repeat (first | (with_reducible first | exact HB.out | apply below_alloc | apply pw_below_drewN | apply below_drew1) | exact HB.out))) : w.heap.size ≤ gb274)); have n3_ := Aside0.mk ((by rw [hg]; exact (below_size (by repeat (first | (with_reducible first | exact HB.out | apply below_alloc | apply pw_below_drewN | apply below_drew1) | exact HB.out))) : w.heap.size ≤ gb274)); clear HB; have HB := n0_; have BK274 := n1_; have GW274 := n2_; have GE274 := n3_; clear n0_ n1_ n2_ n3_; clear hb hbox hg) | ((with_reducible refine gate_callee (f := 75) rfl ?_); refine goesL_ (some 10) rfl rfl Try.func75 (by kernel_rfl) rfl #[.slice A0 l0.length c0] rfl (by (try simp only [List.map_toArray, List.map_cons, List.map_nil]); first | done | rfl | (simp only [List.length_drop, List.length_take]; rfl)) ?_; (with_reducible refine (spec_l1New.calls k _ _ l0 t275 t276 t277 w _ ?side1 ?side2 ?side3 A2.out).mono ?_); (case side1 => repeat (first | (with_reducible first | exact HB.out | apply below_alloc | apply pw_below_drewN | apply below_drew1 | refine below_set ?_ GE274.out) | exact HB.out)); (case side2 => exact HR0.out); (case side3 => exact HC0.out); rintro e w8 ⟨g278, rfl, hi, hb, hb2⟩; refine ⟨_, rfl, ?_⟩; have n0_ := Aside0.mk (blk_below (g := gb274) (o := .cells #[.int .i64 0, .int .i64 0] 28 (0, 0)) (by (with_reducible repeat (first | refine blk_drewN ?_ _ | refine blk_drew ?_ | refine blk_alloc ?_ _)); exact BK274.out) hb2); have n1_ := Aside0.mk (hb); have n2_ := Aside0.mk (hi); have n3_ := Aside0.mk (IsS157.ne_blk hi (blk_below (g := gb274) (o := .cells #[.int .i64 0, .int .i64 0] 28 (0, 0)) (by (with_reducible repeat (first | refine blk_drewN ?_ _ | refine blk_drew ?_ | refine blk_alloc ?_ _)); exact BK274.out) hb2) (by decide)); have n4_ := Aside0.mk (Ne.symm (IsS157.ne_blk hi (blk_below (g := gb274) (o := .cells #[.int .i64 0, .int .i64 0] 28 (0, 0)) (by (with_reducible repeat (first | refine blk_drewN ?_ _ | refine blk_drew ?_ | refine blk_alloc ?_ _)); exact BK274.out) hb2) (by decide))); clear BK274; clear HB; have BK274 := n0_; have HB := n1_; have HI278 := n2_; have NB278_274 := n3_; have NB274_278 := n4_; clear n0_ n1_ n2_ n3_ n4_; (try clear hb); (try clear hb2); (try clear hk); (try clear hi)) | ((with_reducible refine gate_callee (f := 94) rfl ?_); refine goesL_ (some 12) rfl rfl Try.func94 (by kernel_rfl) rfl #[.pointer (some ⟨g278, 0, none⟩)] rfl (by (try simp only [List.map_toArray, List.map_cons, List.map_nil]); first | done | rfl | (simp only [List.length_drop, List.length_take]; rfl)) ?_; (with_reducible refine (spec_l4DrawRings.calls k g278 t275 t276 t277 t279 t282 t283 w _ ?side1 ?side2 A3.out).mono ?_); (case side1 => repeat (first | (with_reducible first | exact HI278.out | apply IsS157.alloc | apply IsS157.drewN | apply IsS157.drew | apply IsS157.set_1 | apply IsS157.set_2 | refine IsS157.far ?_ NB278_274.out _) | exact HI278.out)); (case side2 => repeat (first | (with_reducible first | exact HB.out | apply below_alloc | apply pw_below_drewN | apply below_drew1 | refine below_set ?_ (IsS157.ge HI278.out) | refine below_set ?_ GE274.out) | exact HB.out)); rintro e w9 ⟨v280, rfl, ho0, hi, hb, hk⟩; refine ⟨_, rfl, ?_⟩; (try (first | (have onev280_ := (Kd.R_val ho0).2; have stv280_ := fun (w_ : World) (a_ : Addr) => run_store Try.prog w_ a_ v280 .plain onev280_; clear onev280_) | (have onev280_ := (Kd.N_val ho0).2; have stv280_ := fun (w_ : World) (a_ : Addr) => run_store Try.prog w_ a_ v280 .plain onev280_; clear onev280_))); (try (first | (have hcv280_ := congrArg List.toArray (Kd.R_val ho0).1; simp only [Array.toArray_toList] at hcv280_; unfold Value.cells at hcv280_) | (have hcv280_ := congrArg List.toArray (Kd.N_val ho0).1; simp only [Array.toArray_toList] at hcv280_; unfold Value.cells at hcv280_))); have n0_ := Aside0.mk (KeepBut.blk hk (g' := gb274) (o := .cells #[.int .i64 0, .int .i64 0] 28 (0, 0)) (by (with_reducible repeat (first | refine blk_drewN ?_ _ | refine blk_drew ?_ | refine blk_alloc ?_ _)); exact BK274.out) NB274_278.out (by simp)); have n1_ := Aside0.mk (Kd.S_lower (Kd.S_newB ho0 (g := gb274) (o := .cells #[.int .i64 0, .int .i64 0] 28 (0, 0)) (by (with_reducible repeat (first | refine blk_drewN ?_ _ | refine blk_drew ?_ | refine blk_alloc ?_ _)); exact BK274.out)) (below_size (by repeat (first | (with_reducible first | exact HB.out | apply below_alloc | apply pw_below_drewN | apply below_drew1 | refine below_set ?_ (IsS157.ge HI278.out) | refine below_set ?_ GE274.out) | exact HB.out)))); have n2_ := Aside0.mk (hb); have n3_ := Aside0.mk (hi); clear BK274; clear HB; clear HI278; have BK274 := n0_; have HO281 := n1_; have HB := n2_; have HI278 := n3_; clear n0_ n1_ n2_ n3_; (try clear hb); (try clear hb2); (try clear hk); (try clear hi); (try clear ho0)) | ((with_reducible refine gate_callee (f := 79) rfl ?_); refine goesL_ (some 14) rfl rfl Try.func79 (by kernel_rfl) rfl #[.pointer (some ⟨g278, 0, none⟩), .int .i64 200] rfl (by (try simp only [List.map_toArray, List.map_cons, List.map_nil]); first | done | rfl | (simp only [List.length_drop, List.length_take]; rfl)) ?_; (with_reducible refine (spec_l1Below.calls g278 t275 t282 t283 200 t284 t285 t286 w _ ?side1 ?side2 A4.out).mono ?_); (case side1 => repeat (first | (with_reducible first | exact HI278.out | apply IsS157.alloc | apply IsS157.drewN | apply IsS157.drew | apply IsS157.set_1 | apply IsS157.set_2 | refine IsS157.far ?_ NB278_274.out _) | exact HI278.out)); (case side2 => repeat (first | (with_reducible first | exact HB.out | apply below_alloc | apply pw_below_drewN | apply below_drew1 | refine below_set ?_ (IsS157.ge HI278.out) | refine below_set ?_ GE274.out) | exact HB.out)); rintro e w10 ⟨rfl, hi, hb, hk⟩; refine ⟨_, rfl, ?_⟩; have n0_ := Aside0.mk (KeepBut.blk hk (g' := gb274) (o := .cells #[.int .i64 0, .int .i64 0] 28 (0, 0)) (by (with_reducible repeat (first | refine blk_drewN ?_ _ | refine blk_drew ?_ | refine blk_alloc ?_ _)); exact BK274.out) NB274_278.out (by simp)); have n1_ := Aside0.mk (Kd.S_mono (Kd.S_keep (IsS157.apartS (show IsS157 w _ g278 t275 t282 t283 from by repeat (first | (with_reducible first | exact HI278.out | apply IsS157.alloc | apply IsS157.drewN | apply IsS157.drew | apply IsS157.set_1 | apply IsS157.set_2 | refine IsS157.far ?_ NB278_274.out _) | exact HI278.out)) (by (with_reducible repeat (first | apply Kd.S_alloc | apply Kd.S_drewN | apply Kd.S_drew)); exact HO281.out) (by decide)) hk (fun _ h => h.2)) (fun _ h => h.1)); have n2_ := Aside0.mk (hb); have n3_ := Aside0.mk (hi); clear BK274; clear HO281; clear HB; clear HI278; have BK274 := n0_; have HO281 := n1_; have HB := n2_; have HI278 := n3_; clear n0_ n1_ n2_ n3_; (try clear hb); (try clear hb2); (try clear hk); (try clear hi)) | ((with_reducible refine gate_callee (f := 79) rfl ?_); refine goesL_ (some 17) rfl rfl Try.func79 (by kernel_rfl) rfl #[.pointer (some ⟨g278, 0, none⟩), .int .i64 200] rfl (by (try simp only [List.map_toArray, List.map_cons, List.map_nil]); first | done | rfl | (simp only [List.length_drop, List.length_take]; rfl)) ?_; (with_reducible refine (spec_l1Below.calls g278 t275 t285 t286 200 t287 t288 t289 w _ ?side1 ?side2 A5.out).mono ?_); (case side1 => repeat (first | (with_reducible first | exact HI278.out | apply IsS157.alloc | apply IsS157.drewN | apply IsS157.drew | apply IsS157.set_1 | apply IsS157.set_2 | refine IsS157.far ?_ NB278_274.out _) | exact HI278.out)); (case side2 => repeat (first | (with_reducible first | exact HB.out | apply below_alloc | apply pw_below_drewN | apply below_drew1 | refine below_set ?_ (IsS157.ge HI278.out) | refine below_set ?_ GE274.out) | exact HB.out)); rintro e w11 ⟨rfl, hi, hb, hk⟩; refine ⟨_, rfl, ?_⟩; have n0_ := Aside0.mk (KeepBut.blk hk (g' := gb274) (o := .cells #[.int .i64 0, .int .i64 0] 28 (0, 0)) (by (with_reducible repeat (first | refine blk_drewN ?_ _ | refine blk_drew ?_ | refine blk_alloc ?_ _)); exact BK274.out) NB274_278.out (by simp)); have n1_ := Aside0.mk (Kd.S_mono (Kd.S_keep (IsS157.apartS (show IsS157 w _ g278 t275 t285 t286 from by repeat (first | (with_reducible first | exact HI278.out | apply IsS157.alloc | apply IsS157.drewN | apply IsS157.drew | apply IsS157.set_1 | apply IsS157.set_2 | refine IsS157.far ?_ NB278_274.out _) | exact HI278.out)) (by (with_reducible repeat (first | apply Kd.S_alloc | apply Kd.S_drewN | apply Kd.S_drew)); exact HO281.out) (by decide)) hk (fun _ h => h.2)) (fun _ h => h.1)); have n2_ := Aside0.mk (hb); have n3_ := Aside0.mk (hi); clear BK274; clear HO281; clear HB; clear HI278; have BK274 := n0_; have HO281 := n1_; have HB := n2_; have HI278 := n3_; clear n0_ n1_ n2_ n3_; (try clear hb); (try clear hb2); (try clear hk); (try clear hi)) | ((with_reducible refine gate_dst (N := 6) rfl ?_); (try (refine gate_guard (by rfl) ?_; dsimp only)); refine box_event ?hg (N := 6) ?hd (cs := #[.int .i64 0, .int .i64 0]) (t := 28) ?hr ?_; (case hd => rfl); (case hg => rfl); (case hr => first | (go_simp; done) | (go_simp; rfl)); intro gb290 hg w12 hbox hb; have n0_ := Aside0.mk (Kd.S_below (Kd.S_elderB (by (with_reducible repeat (first | apply Kd.S_alloc | apply Kd.S_drewN | apply Kd.S_drew)); exact HO281.out) gb290 (Nat.le_of_eq hg.symm)) hb); have n1_ := Aside0.mk (blk_below (g := gb274) (o := .cells #[.int .i64 0, .int .i64 0] 28 (0, 0)) (by (with_reducible repeat (first | refine blk_drewN ?_ _ | refine blk_drew ?_ | refine blk_alloc ?_ _)); exact BK274.out) hb); have n2_ := Aside0.mk (IsS157.below (by repeat (first | (with_reducible first | exact HI278.out | apply IsS157.alloc | apply IsS157.drewN | apply IsS157.drew | apply IsS157.set_1 | apply IsS157.set_2 | refine IsS157.far ?_ NB278_274.out _) | exact HI278.out)) hb); have n3_ := Aside0.mk (below_step (by repeat (first | (with_reducible first | exact HB.out | apply below_alloc | apply pw_below_drewN | apply below_drew1 | refine below_set ?_ (IsS157.ge HI278.out) | refine below_set ?_ GE274.out) | exact HB.out)) hb); have n4_ := Aside0.mk (hbox); have n5_ := Aside0.mk ((by rw [hg]; exact (below_size (by repeat (first | (with_reducible first | exact HB.out | apply below_alloc | apply pw_below_drewN | apply below_drew1 | refine below_set ?_ (IsS157.ge HI278.out) | refine below_set ?_ GE274.out) | exact HB.out))) : w.heap.size ≤ gb290)); have n6_ := Aside0.mk ((by rw [hg]; exact (below_size (by repeat (first | (with_reducible first | exact HB.out | apply below_alloc | apply pw_below_drewN | apply below_drew1 | refine below_set ?_ (IsS157.ge HI278.out) | refine below_set ?_ GE274.out) | exact HB.out))) : w.heap.size ≤ gb290)); have n7_ := Aside0.mk ((by rw [hg]; exact Nat.ne_of_lt (blk_lt (g := gb274) (o := .cells #[.int .i64 0, .int .i64 0] 28 (0, 0)) (by (with_reducible repeat (first | refine blk_drewN ?_ _ | refine blk_drew ?_ | refine blk_alloc ?_ _)); exact BK274.out)) : gb274 ≠ gb290)); have n8_ := Aside0.mk ((by rw [hg]; exact Nat.ne_of_gt (blk_lt (g := gb274) (o := .cells #[.int .i64 0, .int .i64 0] 28 (0, 0)) (by (with_reducible repeat (first | refine blk_drewN ?_ _ | refine blk_drew ?_ | refine blk_alloc ?_ _)); exact BK274.out)) : gb290 ≠ gb274)); have n9_ := Aside0.mk ((by rw [hg]; exact Nat.ne_of_lt (IsS157.lt (show IsS157 w _ g278 t275 t288 t289 from by repeat (first | (with_reducible first | exact HI278.out | apply IsS157.alloc | apply IsS157.drewN | apply IsS157.drew | apply IsS157.set_1 | apply IsS157.set_2 | refine IsS157.far ?_ NB278_274.out _) | exact HI278.out))) : g278 ≠ gb290)); have n10_ := Aside0.mk ((by rw [hg]; exact Nat.ne_of_gt (IsS157.lt (show IsS157 w _ g278 t275 t288 t289 from by repeat (first | (with_reducible first | exact HI278.out | apply IsS157.alloc | apply IsS157.drewN | apply IsS157.drew | apply IsS157.set_1 | apply IsS157.set_2 | refine IsS157.far ?_ NB278_274.out _) | exact HI278.out))) : gb290 ≠ g278)); clear HO281; clear BK274; clear HI278; clear HB; have HO281 := n0_; have BK274 := n1_; have HI278 := n2_; have HB := n3_; have BK290 := n4_; have GW290 := n5_; have GE290 := n6_; have NB274_290 := n7_; have NB290_274 := n8_; have NB278_290 := n9_; have NB290_278 := n10_; clear n0_ n1_ n2_ n3_ n4_ n5_ n6_ n7_ n8_ n9_ n10_; clear hb hbox hg; have hnb13 := NB290_274.out; have hnc13 := NB274_290.out; have hnb14 := NB290_278.out; have hnc14 := NB278_290.out; have hcz15_0 : w12.cell? ⟨gb290, 0, none⟩ = some (.int .i64 0) := (blk_cell BK290.out 0).trans rfl; have hcz15_1 : w12.cell? ⟨gb290, 1, none⟩ = some (.int .i64 0) := (blk_cell BK290.out 1).trans rfl; have hfz15_0 := blk_frozen BK290.out 0; have hfz15_1 := blk_frozen BK290.out 1))
 (try simp only [Act.put, List.setIfInBounds_toArray, List.set_cons_zero, List.set_cons_succ])
 go_cut [34] (fun v34 wc => ∃ (kq : Nat) (x34_5 : Bool) (x279001_5 : Int) (x279002_5 : Int), v34 = .bool x34_5 ∧ Aside0 (spec_DrawInside.j0 kq t279 x34_5 t275 x279001_5 x279002_5 (wrap64 (t284 - 60)) (wrap64 (t287 - 60)) = some (r1, r2, r3)) ∧ Aside0 (kq ≤ k) ∧ Aside0 (Kd.S k65 65 wc w.heap.size (fun k_ => k_ ≠ gb274 ∧ k_ ≠ gb290) v280 t279) ∧ Aside0 (wc.heap[gb274]? = some (.cells #[.int .i64 0, .int .i64 0] 28 (0, 0))) ∧ Aside0 (wc.heap[gb290]? = some (.cells #[.int .i64 (wrap64 (t284 - 60)), .int .i64 (wrap64 (t287 - 60))] 28 (0, 0))) ∧ Aside0 (IsS157 w wc g278 t275 x279001_5 x279002_5) ∧ Aside0 (Below w.heap.size w wc))
 case first =>
  have H := HC6.out
  clear HC6
  replace H := Option.bind_eq_some_iff.mp H
  obtain ⟨⟨t291, t292, t293⟩, A160, H⟩ := H
  replace H : (if t291 = true then (if (t279.length : Int) > 0 then (if 0 < (t279.length : Int) then (spec_DrawInside.j0 k t279 (decide ((((rd_T65 t279 0).f0).length : Int) > 1)) t275 t292 t293 (wrap64 (t284 - 60)) (wrap64 (t287 - 60))) else (none)) else (spec_DrawInside.j0 k t279 false t275 t292 t293 (wrap64 (t284 - 60)) (wrap64 (t287 - 60)))) else (spec_DrawInside.j0 k t279 false t275 t292 t293 (wrap64 (t284 - 60)) (wrap64 (t287 - 60)))) = some (r1, r2, r3) := H
  have A16 := Aside0.mk A160
  clear A160
  by_cases c17 : t291 = true
  rotate_left
  ·replace c17 := Bool.eq_false_iff.mpr c17
   subst c17
   have H1 : (spec_DrawInside.j0 k t279 false t275 t292 t293 (wrap64 (t284 - 60)) (wrap64 (t287 - 60))) = some (r1, r2, r3) := by rw [if_neg (show ¬ (false = true) by decide)] at H; exact H
   clear H
   have H := H1
   clear H1
   have H' := Aside0.mk H
   clear H
   go_wp2_with (first | ((with_reducible refine gate_callee (f := 95) rfl ?_); refine goesL_ (some 21) rfl rfl Try.func95 (by kernel_rfl) rfl #[.pointer (some ⟨g278, 0, none⟩), .int .i64 4] rfl (by (try simp only [List.map_toArray, List.map_cons, List.map_nil]); first | done | rfl | (simp only [List.length_drop, List.length_take]; rfl)) ?_; (with_reducible refine (spec_l1Once.calls g278 t275 t288 t289 4 false t292 t293 w _ ?side1 ?side2 A16.out).mono ?_); (case side1 => repeat (first | (with_reducible first | exact HI278.out | apply IsS157.alloc | apply IsS157.drewN | apply IsS157.drew | apply IsS157.set_1 | apply IsS157.set_2 | refine IsS157.far ?_ NB278_274.out _ | refine IsS157.far ?_ NB278_290.out _) | exact HI278.out)); (case side2 => repeat (first | (with_reducible first | exact HB.out | apply below_alloc | apply pw_below_drewN | apply below_drew1 | refine below_set ?_ (IsS157.ge HI278.out) | refine below_set ?_ GE274.out | refine below_set ?_ GE290.out) | exact HB.out)); rintro e w24 ⟨rfl, hi, hb, hk⟩; refine ⟨_, rfl, ?_⟩; have n0_ := Aside0.mk (KeepBut.blk hk (g' := gb274) (o := .cells #[.int .i64 0, .int .i64 0] 28 (0, 0)) (by (with_reducible repeat (first | refine blk_drewN ?_ _ | refine blk_drew ?_ | refine blk_alloc ?_ _)); refine blk_far ?_ NB274_290.out _; (with_reducible repeat (first | refine blk_drewN ?_ _ | refine blk_drew ?_ | refine blk_alloc ?_ _)); refine blk_far ?_ NB274_290.out _; (with_reducible repeat (first | refine blk_drewN ?_ _ | refine blk_drew ?_ | refine blk_alloc ?_ _)); exact BK274.out) NB274_278.out (by simp)); have n1_ := Aside0.mk (Kd.S_mono (Kd.S_keep (IsS157.apartS (show IsS157 w _ g278 t275 t288 t289 from by repeat (first | (with_reducible first | exact HI278.out | apply IsS157.alloc | apply IsS157.drewN | apply IsS157.drew | apply IsS157.set_1 | apply IsS157.set_2 | refine IsS157.far ?_ NB278_274.out _ | refine IsS157.far ?_ NB278_290.out _) | exact HI278.out)) (by (with_reducible repeat (first | apply Kd.S_alloc | apply Kd.S_drewN | apply Kd.S_drew)); exact (Kd.S_mono (Kd.S_far (p := ⟨gb290, 1, none⟩) (Kd.S_far (p := ⟨gb290, 0, none⟩) (Kd.S_mono HO281.out (fun k_ hk => (⟨hk, hk.2⟩ : _ ∧ k_ ≠ gb290))) (fun _ hk => hk.2) (.int .i64 (wrap64 (t284 - 60)))) (fun _ hk => hk.2) (.int .i64 (wrap64 (t287 - 60)))) (fun _ h_ => h_.1))) (by decide)) hk (fun _ h => h.2)) (fun _ h => h.1)); have n2_ := Aside0.mk (KeepBut.blk hk (g' := gb290) (o := .cells #[.int .i64 (wrap64 (t284 - 60)), .int .i64 (wrap64 (t287 - 60))] 28 (0, 0)) (by (with_reducible repeat (first | refine blk_drewN ?_ _ | refine blk_drew ?_ | refine blk_alloc ?_ _)); refine blk_put (cs := #[.int .i64 (wrap64 (t284 - 60)), .int .i64 0]) ?_ 1 _ rfl; (with_reducible repeat (first | refine blk_drewN ?_ _ | refine blk_drew ?_ | refine blk_alloc ?_ _)); refine blk_put (cs := #[.int .i64 0, .int .i64 0]) ?_ 0 _ rfl; (with_reducible repeat (first | refine blk_drewN ?_ _ | refine blk_drew ?_ | refine blk_alloc ?_ _)); exact BK290.out) NB290_278.out (by simp)); have n3_ := Aside0.mk (hb); have n4_ := Aside0.mk (hi); clear BK274; clear HO281; clear BK290; clear HB; clear HI278; have BK274 := n0_; have HO281 := n1_; have BK290 := n2_; have HB := n3_; have HI278 := n4_; clear n0_ n1_ n2_ n3_ n4_; (try clear hb); (try clear hb2); (try clear hk); (try clear hi)))
   go_meet
   case rel => exact ⟨_, (false), (t292), (t293), (by first | rfl | (simp; done) | (simp [*]; done)), H', ⟨by first | omega | exact Nat.le_refl _⟩, ⟨by (with_reducible repeat (first | apply Kd.S_alloc | apply Kd.S_drewN | apply Kd.S_drew)); exact Kd.S_mono HO281.out (fun _ hk => ⟨hk.1.2, hk.2⟩)⟩, ⟨by (with_reducible repeat (first | refine blk_drewN ?_ _ | refine blk_drew ?_ | refine blk_alloc ?_ _)); exact BK274.out⟩, ⟨by (with_reducible repeat (first | refine blk_drewN ?_ _ | refine blk_drew ?_ | refine blk_alloc ?_ _)); exact BK290.out⟩, ⟨by repeat (first | (with_reducible first | exact HI278.out | apply IsS157.alloc | apply IsS157.drewN | apply IsS157.drew | apply IsS157.set_1 | apply IsS157.set_2 | refine IsS157.far ?_ NB278_274.out _ | refine IsS157.far ?_ NB278_290.out _) | exact HI278.out)⟩, ⟨by repeat (first | (with_reducible first | exact HB.out | apply below_alloc | apply pw_below_drewN | apply below_drew1 | refine below_set ?_ (IsS157.ge HI278.out) | refine below_set ?_ GE274.out | refine below_set ?_ GE290.out) | exact HB.out)⟩⟩
  subst c17
  have H1 : (if (t279.length : Int) > 0 then (if 0 < (t279.length : Int) then (spec_DrawInside.j0 k t279 (decide ((((rd_T65 t279 0).f0).length : Int) > 1)) t275 t292 t293 (wrap64 (t284 - 60)) (wrap64 (t287 - 60))) else (none)) else (spec_DrawInside.j0 k t279 false t275 t292 t293 (wrap64 (t284 - 60)) (wrap64 (t287 - 60)))) = some (r1, r2, r3) := by rw [if_pos rfl] at H; exact H
  clear H
  have H := H1
  clear H1
  by_cases c18 : (t279.length : Int) > 0
  rotate_left
  ·rw [if_neg c18] at H
   have c18b0 : decide (0 < (t279.length : Int)) = false := decide_eq_false c18
   have c18b1 : decide (0 < t279.length) = false := decide_eq_false (by omega)
   clear c18
   (first | rw [c18b0] | (simp only [i64_w, i32_w]; rw [c18b0]) | rw [c18b1] | skip)
   have H' := Aside0.mk H
   clear H
   go_wp2_with (first | ((with_reducible refine gate_callee (f := 95) rfl ?_); refine goesL_ (some 21) rfl rfl Try.func95 (by kernel_rfl) rfl #[.pointer (some ⟨g278, 0, none⟩), .int .i64 4] rfl (by (try simp only [List.map_toArray, List.map_cons, List.map_nil]); first | done | rfl | (simp only [List.length_drop, List.length_take]; rfl)) ?_; (with_reducible refine (spec_l1Once.calls g278 t275 t288 t289 4 true t292 t293 w _ ?side1 ?side2 A16.out).mono ?_); (case side1 => repeat (first | (with_reducible first | exact HI278.out | apply IsS157.alloc | apply IsS157.drewN | apply IsS157.drew | apply IsS157.set_1 | apply IsS157.set_2 | refine IsS157.far ?_ NB278_274.out _ | refine IsS157.far ?_ NB278_290.out _) | exact HI278.out)); (case side2 => repeat (first | (with_reducible first | exact HB.out | apply below_alloc | apply pw_below_drewN | apply below_drew1 | refine below_set ?_ (IsS157.ge HI278.out) | refine below_set ?_ GE274.out | refine below_set ?_ GE290.out) | exact HB.out)); rintro e w22 ⟨rfl, hi, hb, hk⟩; refine ⟨_, rfl, ?_⟩; have n0_ := Aside0.mk (KeepBut.blk hk (g' := gb274) (o := .cells #[.int .i64 0, .int .i64 0] 28 (0, 0)) (by (with_reducible repeat (first | refine blk_drewN ?_ _ | refine blk_drew ?_ | refine blk_alloc ?_ _)); refine blk_far ?_ NB274_290.out _; (with_reducible repeat (first | refine blk_drewN ?_ _ | refine blk_drew ?_ | refine blk_alloc ?_ _)); refine blk_far ?_ NB274_290.out _; (with_reducible repeat (first | refine blk_drewN ?_ _ | refine blk_drew ?_ | refine blk_alloc ?_ _)); exact BK274.out) NB274_278.out (by simp)); have n1_ := Aside0.mk (Kd.S_mono (Kd.S_keep (IsS157.apartS (show IsS157 w _ g278 t275 t288 t289 from by repeat (first | (with_reducible first | exact HI278.out | apply IsS157.alloc | apply IsS157.drewN | apply IsS157.drew | apply IsS157.set_1 | apply IsS157.set_2 | refine IsS157.far ?_ NB278_274.out _ | refine IsS157.far ?_ NB278_290.out _) | exact HI278.out)) (by (with_reducible repeat (first | apply Kd.S_alloc | apply Kd.S_drewN | apply Kd.S_drew)); exact (Kd.S_mono (Kd.S_far (p := ⟨gb290, 1, none⟩) (Kd.S_far (p := ⟨gb290, 0, none⟩) (Kd.S_mono HO281.out (fun k_ hk => (⟨hk, hk.2⟩ : _ ∧ k_ ≠ gb290))) (fun _ hk => hk.2) (.int .i64 (wrap64 (t284 - 60)))) (fun _ hk => hk.2) (.int .i64 (wrap64 (t287 - 60)))) (fun _ h_ => h_.1))) (by decide)) hk (fun _ h => h.2)) (fun _ h => h.1)); have n2_ := Aside0.mk (KeepBut.blk hk (g' := gb290) (o := .cells #[.int .i64 (wrap64 (t284 - 60)), .int .i64 (wrap64 (t287 - 60))] 28 (0, 0)) (by (with_reducible repeat (first | refine blk_drewN ?_ _ | refine blk_drew ?_ | refine blk_alloc ?_ _)); refine blk_put (cs := #[.int .i64 (wrap64 (t284 - 60)), .int .i64 0]) ?_ 1 _ rfl; (with_reducible repeat (first | refine blk_drewN ?_ _ | refine blk_drew ?_ | refine blk_alloc ?_ _)); refine blk_put (cs := #[.int .i64 0, .int .i64 0]) ?_ 0 _ rfl; (with_reducible repeat (first | refine blk_drewN ?_ _ | refine blk_drew ?_ | refine blk_alloc ?_ _)); exact BK290.out) NB290_278.out (by simp)); have n3_ := Aside0.mk (hb); have n4_ := Aside0.mk (hi); clear BK274; clear HO281; clear BK290; clear HB; clear HI278; have BK274 := n0_; have HO281 := n1_; have BK290 := n2_; have HB := n3_; have HI278 := n4_; clear n0_ n1_ n2_ n3_ n4_; (try clear hb); (try clear hb2); (try clear hk); (try clear hi); obtain ⟨Ao23, co23, eo23⟩ := Kd.S_slice HO281.out; subst eo23))
   go_meet
   case rel => exact ⟨_, (false), (t292), (t293), (by first | rfl | (simp; done) | (simp [*]; done)), H', ⟨by first | omega | exact Nat.le_refl _⟩, ⟨by (with_reducible repeat (first | apply Kd.S_alloc | apply Kd.S_drewN | apply Kd.S_drew)); exact Kd.S_mono HO281.out (fun _ hk => ⟨hk.1.2, hk.2⟩)⟩, ⟨by (with_reducible repeat (first | refine blk_drewN ?_ _ | refine blk_drew ?_ | refine blk_alloc ?_ _)); exact BK274.out⟩, ⟨by (with_reducible repeat (first | refine blk_drewN ?_ _ | refine blk_drew ?_ | refine blk_alloc ?_ _)); exact BK290.out⟩, ⟨by repeat (first | (with_reducible first | exact HI278.out | apply IsS157.alloc | apply IsS157.drewN | apply IsS157.drew | apply IsS157.set_1 | apply IsS157.set_2 | refine IsS157.far ?_ NB278_274.out _ | refine IsS157.far ?_ NB278_290.out _) | exact HI278.out)⟩, ⟨by repeat (first | (with_reducible first | exact HB.out | apply below_alloc | apply pw_below_drewN | apply below_drew1 | refine below_set ?_ (IsS157.ge HI278.out) | refine below_set ?_ GE274.out | refine below_set ?_ GE290.out) | exact HB.out)⟩⟩
  rw [if_pos c18] at H
  have c18b0 : decide (0 < (t279.length : Int)) = true := decide_eq_true c18
  have c18b1 : decide (0 < t279.length) = true := decide_eq_true (by omega)
  clear c18
  (first | rw [c18b0] | (simp only [i64_w, i32_w]; rw [c18b0]) | rw [c18b1] | skip)
  by_cases c19 : 0 < (t279.length : Int)
  rotate_left
  ·rw [if_neg c19] at H
   exact absurd H (by simp)
  rw [if_pos c19] at H
  have c19b0 : decide (0 < (t279.length : Int)) = true := decide_eq_true c19
  have c19b1 : decide (0 < t279.length) = true := decide_eq_true (by omega)
  clear c19
  have H' := Aside0.mk H
  clear H
  go_wp2_with (first | ((with_reducible refine gate_callee (f := 95) rfl ?_); refine goesL_ (some 21) rfl rfl Try.func95 (by kernel_rfl) rfl #[.pointer (some ⟨g278, 0, none⟩), .int .i64 4] rfl (by (try simp only [List.map_toArray, List.map_cons, List.map_nil]); first | done | rfl | (simp only [List.length_drop, List.length_take]; rfl)) ?_; (with_reducible refine (spec_l1Once.calls g278 t275 t288 t289 4 true t292 t293 w _ ?side1 ?side2 A16.out).mono ?_); (case side1 => repeat (first | (with_reducible first | exact HI278.out | apply IsS157.alloc | apply IsS157.drewN | apply IsS157.drew | apply IsS157.set_1 | apply IsS157.set_2 | refine IsS157.far ?_ NB278_274.out _ | refine IsS157.far ?_ NB278_290.out _) | exact HI278.out)); (case side2 => repeat (first | (with_reducible first | exact HB.out | apply below_alloc | apply pw_below_drewN | apply below_drew1 | refine below_set ?_ (IsS157.ge HI278.out) | refine below_set ?_ GE274.out | refine below_set ?_ GE290.out) | exact HB.out)); rintro e w20 ⟨rfl, hi, hb, hk⟩; refine ⟨_, rfl, ?_⟩; have n0_ := Aside0.mk (KeepBut.blk hk (g' := gb274) (o := .cells #[.int .i64 0, .int .i64 0] 28 (0, 0)) (by (with_reducible repeat (first | refine blk_drewN ?_ _ | refine blk_drew ?_ | refine blk_alloc ?_ _)); refine blk_far ?_ NB274_290.out _; (with_reducible repeat (first | refine blk_drewN ?_ _ | refine blk_drew ?_ | refine blk_alloc ?_ _)); refine blk_far ?_ NB274_290.out _; (with_reducible repeat (first | refine blk_drewN ?_ _ | refine blk_drew ?_ | refine blk_alloc ?_ _)); exact BK274.out) NB274_278.out (by simp)); have n1_ := Aside0.mk (Kd.S_mono (Kd.S_keep (IsS157.apartS (show IsS157 w _ g278 t275 t288 t289 from by repeat (first | (with_reducible first | exact HI278.out | apply IsS157.alloc | apply IsS157.drewN | apply IsS157.drew | apply IsS157.set_1 | apply IsS157.set_2 | refine IsS157.far ?_ NB278_274.out _ | refine IsS157.far ?_ NB278_290.out _) | exact HI278.out)) (by (with_reducible repeat (first | apply Kd.S_alloc | apply Kd.S_drewN | apply Kd.S_drew)); exact (Kd.S_mono (Kd.S_far (p := ⟨gb290, 1, none⟩) (Kd.S_far (p := ⟨gb290, 0, none⟩) (Kd.S_mono HO281.out (fun k_ hk => (⟨hk, hk.2⟩ : _ ∧ k_ ≠ gb290))) (fun _ hk => hk.2) (.int .i64 (wrap64 (t284 - 60)))) (fun _ hk => hk.2) (.int .i64 (wrap64 (t287 - 60)))) (fun _ h_ => h_.1))) (by decide)) hk (fun _ h => h.2)) (fun _ h => h.1)); have n2_ := Aside0.mk (KeepBut.blk hk (g' := gb290) (o := .cells #[.int .i64 (wrap64 (t284 - 60)), .int .i64 (wrap64 (t287 - 60))] 28 (0, 0)) (by (with_reducible repeat (first | refine blk_drewN ?_ _ | refine blk_drew ?_ | refine blk_alloc ?_ _)); refine blk_put (cs := #[.int .i64 (wrap64 (t284 - 60)), .int .i64 0]) ?_ 1 _ rfl; (with_reducible repeat (first | refine blk_drewN ?_ _ | refine blk_drew ?_ | refine blk_alloc ?_ _)); refine blk_put (cs := #[.int .i64 0, .int .i64 0]) ?_ 0 _ rfl; (with_reducible repeat (first | refine blk_drewN ?_ _ | refine blk_drew ?_ | refine blk_alloc ?_ _)); exact BK290.out) NB290_278.out (by simp)); have n3_ := Aside0.mk (hb); have n4_ := Aside0.mk (hi); clear BK274; clear HO281; clear BK290; clear HB; clear HI278; have BK274 := n0_; have HO281 := n1_; have BK290 := n2_; have HB := n3_; have HI278 := n4_; clear n0_ n1_ n2_ n3_ n4_; (try clear hb); (try clear hb2); (try clear hk); (try clear hi); obtain ⟨Ao21, co21, eo21⟩ := Kd.S_slice HO281.out; subst eo21; have p294 : 0 ≤ (0 : Int) := (by omega); have q294 : 0 < (t279.length : Int) := of_decide_eq_true (by first | (with_reducible assumption) | assumption); obtain ⟨ad294, A294_0, c294_0, e294, hx294_0, hx294_1, hl294_0, hi294_0⟩ := at_T65 (Kd.S_reads' HO281.out).2.2 0 p294 q294; cases e294; obtain ⟨ce294, hce294, hMe294, hcc294⟩ := Kd.S_get HO281.out z65 0 p294 (by first | exact q294 | exact of_decide_eq_true (by first | (with_reducible assumption) | assumption) | (have e_ := (Kd.S_reads' HO281.out).1; omega)); obtain ⟨ve294_0, rfl, ge294_0⟩ := k65_openM hMe294; have hv294_0 := hcc294 0 _ rfl; rw [Nat.add_zero] at hv294_0; replace hv294_0 := Option.some.inj (hv294_0.symm.trans hx294_0); rw [hv294_0] at ge294_0; have HL294_0 := Aside0.mk (show Kd.R k28 28 _ _ _ _ ((rd_T65 t279 0).f0) from ge294_0); clear hv294_0 ge294_0; clear hcc294 hce294; have qi294 : (0 < t279.length) = True := eq_true (by omega); (try rw [show ((0 : Int)).toNat = 0 from rfl] at hx294_0); (try rw [show 0 * 2 = 0 from rfl] at hx294_0); (try rw [Addr.add_zero'] at hx294_0); (try rw [show ((0 : Int)).toNat = 0 from rfl] at hx294_1); (try rw [show 0 * 2 = 0 from rfl] at hx294_1); (try rw [Addr.add_zero'] at hx294_1); have HR294_0 := Aside0.mk hi294_0; have HC294_0 := Aside0.mk hl294_0; clear hi294_0 hl294_0; replace p294 := eq_true p294; replace q294 := eq_true q294))
  go_meet
  case rel => exact ⟨_, (decide ((((rd_T65 t279 0).f0).length : Int) > 1)), (t292), (t293), (by first | rfl | (simp; done) | (simp [*]; done)), H', ⟨by first | omega | exact Nat.le_refl _⟩, ⟨by (with_reducible repeat (first | apply Kd.S_alloc | apply Kd.S_drewN | apply Kd.S_drew)); exact Kd.S_mono HO281.out (fun _ hk => ⟨hk.1.2, hk.2⟩)⟩, ⟨by (with_reducible repeat (first | refine blk_drewN ?_ _ | refine blk_drew ?_ | refine blk_alloc ?_ _)); exact BK274.out⟩, ⟨by (with_reducible repeat (first | refine blk_drewN ?_ _ | refine blk_drew ?_ | refine blk_alloc ?_ _)); exact BK290.out⟩, ⟨by repeat (first | (with_reducible first | exact HI278.out | apply IsS157.alloc | apply IsS157.drewN | apply IsS157.drew | apply IsS157.set_1 | apply IsS157.set_2 | refine IsS157.far ?_ NB278_274.out _ | refine IsS157.far ?_ NB278_290.out _) | exact HI278.out)⟩, ⟨by repeat (first | (with_reducible first | exact HB.out | apply below_alloc | apply pw_below_drewN | apply below_drew1 | refine below_set ?_ (IsS157.ge HI278.out) | refine below_set ?_ GE274.out | refine below_set ?_ GE290.out) | exact HB.out)⟩⟩
 case rest =>
  clear HC6
  try clear c1
  try clear c2
  try clear p2
  try clear q2
  try clear hx2
  try clear qi2
  try clear c3
  try clear p6
  try clear c7
  try clear c9
  try clear c13
  try clear c14
  try clear c17
  try clear c18
  try clear c18b0
  try clear c18b1
  try clear c19
  try clear c19b0
  try clear c19b1
  try clear hcz15_0
  try clear hcz15_1
  try clear hfz15_0
  try clear hfz15_1
  try clear hx294_0
  try clear hx294_1
  try clear p294
  try clear q294
  obtain ⟨kq, x34_5, x279001_5, x279002_5, rfl, HA, HJ5, HO_5, BK274, BK290, HI278, HB⟩ := hcut
  cases kq with
  | zero => exact absurd HA.out (by simp [spec_DrawInside.j0])
  | succ kj5 =>
   have H := HA.out
   clear HA
   simp only [spec_DrawInside.j0] at H
   by_cases c25 : x34_5 = true
   rotate_left
   ·replace c25 := Bool.eq_false_iff.mpr c25
    subst c25
    have H1 : (some (t279, (wrap64 (t284 - 60)), (wrap64 (t287 - 60)))) = some (r1, r2, r3) := by rw [if_neg (show ¬ (false = true) by decide)] at H; exact H
    clear H
    have H := H1
    clear H1
    simp only [Option.some.injEq, Prod.mk.injEq] at H
    obtain ⟨rfl, rfl, rfl⟩ := H
    try go_wp2
    have n0_ := Aside0.mk (Kd.S_drew HO_5.out)
    have n1_ := Aside0.mk (blk_drew BK274.out)
    have n2_ := Aside0.mk (blk_drew BK290.out)
    have n3_ := Aside0.mk (IsS157.drew HI278.out)
    have n4_ := Aside0.mk (below_drew1 HB.out)
    clear HO_5
    clear BK274
    clear BK290
    clear HI278
    clear HB
    have HO_5 := n0_
    have BK274 := n1_
    have BK290 := n2_
    have HI278 := n3_
    have HB := n4_
    clear n0_ n1_ n2_ n3_ n4_
    refine start_ (n := 4) (S := fun w' => w'.cell? ⟨gb290, 0, none⟩ = some (.int .i64 (wrap64 (t284 - 60))) ∧ w'.cell? ⟨gb290, 1, none⟩ = some (.int .i64 (wrap64 (t287 - 60)))) (ds := []) #[false, false, false, false] (by kernel_rfl) rfl rfl ⟨(blk_cell BK290.out 0).trans rfl, (blk_cell BK290.out 1).trans rfl⟩ (fun hHeld => ?_)
    generalize wc.drew = w76 at HO_5 BK274 BK290 HI278 HB hHeld ⊢
    refine pure_ (i := 0) (N := some 66) (v := ?_) (a' := ?_) #[true, false, false, false] rfl rfl (by kernel_rfl) (fun _ _ _ h => h) (Or.inl ⟨by rfl, ?_⟩) ?_ ?_
    rotate_left
    ·intro w'
     go_simp
     with_reducible rfl
    rotate_left
    ·simp only [Act.put, List.setIfInBounds_toArray, List.set_cons_zero, List.set_cons_succ, i64_w, i32_w]
     rfl
    refine pure_ (i := 2) (N := some 2) (v := ?_) (a' := ?_) #[true, false, true, false] rfl rfl (by kernel_rfl) (fun _ _ _ h => h) (Or.inl ⟨by rfl, ?_⟩) ?_ ?_
    rotate_left
    ·intro w'
     go_simp
     with_reducible rfl
    rotate_left
    ·simp only [Act.put, List.setIfInBounds_toArray, List.set_cons_zero, List.set_cons_succ, i64_w, i32_w]
     rfl
    refine take_ (i := 1) (N := some 67) (v := ?_) (a' := ?_) #[true, true, true, false] rfl rfl (by kernel_rfl) (fun _ _ _ h => h) (Or.inl ⟨by rfl, ?_⟩) hHeld ?_ ?_
    rotate_left
    ·rintro w' ⟨s0, s1⟩
     go_simp
     with_reducible rfl
    rotate_left
    ·simp only [Act.put, List.setIfInBounds_toArray, List.set_cons_zero, List.set_cons_succ, i64_w, i32_w]
     rfl
    refine one_ (i := 3) (N := none) #[true, true, true, true] rfl rfl (by kernel_rfl) (by decide) (fun K hK => ?_)
    have hs77 : w76.cell? ⟨gb274, 0, none⟩ = some (.int .i64 0) := (blk_cell BK274.out 0).trans rfl
    have hfs77 := blk_frozen BK274.out 0
    have hns77_1 := NB290_274.out
    have hms77_1 := NB274_290.out
    have hs78 : w76.cell? ⟨gb274, 1, none⟩ = some (.int .i64 0) := (blk_cell BK274.out 1).trans rfl
    have hfs78 := blk_frozen BK274.out 1
    have hns78_1 := NB290_274.out
    have hms78_1 := NB274_290.out
    refine skip_ (w1 := ?_) (by rfl) rfl ?_ ?_
    rotate_left
    ·go_simp
     rfl
    refine hK.out _ _ ⟨((cell_far (p := ⟨gb274, _, none⟩) NB290_274.out _).trans (((cell_far (p := ⟨gb274, _, none⟩) NB290_274.out _).trans (hHeld.1)))), ((cell_far (p := ⟨gb274, _, none⟩) NB290_274.out _).trans (((cell_far (p := ⟨gb274, _, none⟩) NB290_274.out _).trans (hHeld.2))))⟩ (fun hHeld => ?_)
    clear hK K
    refine done_ (by kernel_rfl) ?_
    try go_wp2
    refine bodyPost_ret (results_tc rfl _ _ gb274 28 #[.int .i64 (wrap64 (t284 - 60)), .int .i64 (wrap64 (t287 - 60))] (0, 0) _ rfl (by (with_reducible repeat (first | refine blk_drewN ?_ _ | refine blk_drew ?_ | refine blk_alloc ?_ _)); refine blk_put (cs := #[.int .i64 (wrap64 (t284 - 60)), .int .i64 0]) ?_ 1 _ rfl; (with_reducible repeat (first | refine blk_drewN ?_ _ | refine blk_drew ?_ | refine blk_alloc ?_ _)); refine blk_put (cs := #[.int .i64 0, .int .i64 0]) ?_ 0 _ rfl; (with_reducible repeat (first | refine blk_drewN ?_ _ | refine blk_drew ?_ | refine blk_alloc ?_ _)); exact BK274.out) Try.underlying28 rfl (by kernel_rfl)) rfl ?_
    exact ⟨_, by first | rfl | (simp [errW_none, errW_some] <;> rfl) | (simp [*, errW_none, errW_some] <;> rfl), by (with_reducible repeat (first | apply Kd.S_alloc | apply Kd.S_drewN | apply Kd.S_drew)); exact Kd.S_mono (Kd.S_far (p := ⟨gb274, 1, none⟩) (Kd.S_far (p := ⟨gb274, 0, none⟩) (Kd.S_mono HO_5.out (fun k_ hk => (⟨hk, hk.1⟩ : _ ∧ k_ ≠ gb274))) (fun _ hk => hk.2) (.int .i64 (wrap64 (t284 - 60)))) (fun _ hk => hk.2) (.int .i64 (wrap64 (t287 - 60)))) (fun _ hk => trivial), by repeat (first | (with_reducible first | exact HB.out | apply below_alloc | apply pw_below_drewN | apply below_drew1 | refine below_set ?_ (IsS157.ge HI278.out) | refine below_set ?_ GE274.out | refine below_set ?_ GE290.out) | exact HB.out)⟩

   subst c25
   have H1 : (if 0 < (t279.length : Int) then (if 0 < (((rd_T65 t279 0).f0).length : Int) then (if 1 < (((rd_T65 t279 0).f0).length : Int) then ((spec_l1Once.f t275 x279001_5 x279002_5 3).bind fun bt301 => (if bt301.1 = true then (some (t279, (-100), (rd_T28 ((rd_T65 t279 0).f0) 0).f1)) else (some (t279, wrap64 (Int.tdiv (wrap64 (((rd_T28 ((rd_T65 t279 0).f0) 0).f0) + ((rd_T28 ((rd_T65 t279 0).f0) 1).f0))) 2), wrap64 (Int.tdiv (wrap64 (((rd_T28 ((rd_T65 t279 0).f0) 0).f1) + ((rd_T28 ((rd_T65 t279 0).f0) 1).f1))) 2))))) else (none)) else (none)) else (none)) = some (r1, r2, r3) := by rw [if_pos rfl] at H; exact H
   clear H
   have H := H1
   clear H1
   by_cases c26 : 0 < (t279.length : Int)
   rotate_left
   ·rw [if_neg c26] at H
    exact absurd H (by simp)
   rw [if_pos c26] at H
   have c26b0 : decide (0 < (t279.length : Int)) = true := decide_eq_true c26
   have c26b1 : decide (0 < t279.length) = true := decide_eq_true (by omega)
   clear c26
   by_cases c27 : 0 < (((rd_T65 t279 0).f0).length : Int)
   rotate_left
   ·rw [if_neg c27] at H
    exact absurd H (by simp)
   rw [if_pos c27] at H
   have c27b0 : decide (0 < (((rd_T65 t279 0).f0).length : Int)) = true := decide_eq_true c27
   have c27b1 : decide (0 < ((rd_T65 t279 0).f0).length) = true := decide_eq_true (by omega)
   clear c27
   by_cases c28 : 1 < (((rd_T65 t279 0).f0).length : Int)
   rotate_left
   ·rw [if_neg c28] at H
    exact absurd H (by simp)
   rw [if_pos c28] at H
   have c28b0 : decide (1 < (((rd_T65 t279 0).f0).length : Int)) = true := decide_eq_true c28
   have c28b1 : decide (1 < ((rd_T65 t279 0).f0).length) = true := decide_eq_true (by omega)
   clear c28
   replace H := Option.bind_eq_some_iff.mp H
   obtain ⟨⟨t301, t302, t303⟩, A290, H⟩ := H
   replace H : (if t301 = true then (some (t279, (-100), (rd_T28 ((rd_T65 t279 0).f0) 0).f1)) else (some (t279, wrap64 (Int.tdiv (wrap64 (((rd_T28 ((rd_T65 t279 0).f0) 0).f0) + ((rd_T28 ((rd_T65 t279 0).f0) 1).f0))) 2), wrap64 (Int.tdiv (wrap64 (((rd_T28 ((rd_T65 t279 0).f0) 0).f1) + ((rd_T28 ((rd_T65 t279 0).f0) 1).f1))) 2)))) = some (r1, r2, r3) := H
   have A29 := Aside0.mk A290
   clear A290
   by_cases c30 : t301 = true
   rotate_left
   ·replace c30 := Bool.eq_false_iff.mpr c30
    subst c30
    have H1 : (some (t279, wrap64 (Int.tdiv (wrap64 (((rd_T28 ((rd_T65 t279 0).f0) 0).f0) + ((rd_T28 ((rd_T65 t279 0).f0) 1).f0))) 2), wrap64 (Int.tdiv (wrap64 (((rd_T28 ((rd_T65 t279 0).f0) 0).f1) + ((rd_T28 ((rd_T65 t279 0).f0) 1).f1))) 2))) = some (r1, r2, r3) := by rw [if_neg (show ¬ (false = true) by decide)] at H; exact H
    clear H
    have H := H1
    clear H1
    simp only [Option.some.injEq, Prod.mk.injEq] at H
    obtain ⟨rfl, rfl, rfl⟩ := H
    obtain ⟨Ao55, co55, eo55⟩ := Kd.S_slice HO_5.out
    subst eo55
    have p295 : 0 ≤ (0 : Int) := (by omega)
    have q295 : 0 < (t279.length : Int) := of_decide_eq_true (by first | (with_reducible assumption) | assumption)
    obtain ⟨ad295, A295_0, c295_0, e295, hx295_0, hx295_1, hl295_0, hi295_0⟩ := at_T65 (Kd.S_reads' HO_5.out).2.2 0 p295 q295
    cases e295
    obtain ⟨ce295, hce295, hMe295, hcc295⟩ := Kd.S_get HO_5.out z65 0 p295 (by first | exact q295 | exact of_decide_eq_true (by first | (with_reducible assumption) | assumption) | (have e_ := (Kd.S_reads' HO_5.out).1; omega))
    obtain ⟨ve295_0, rfl, ge295_0⟩ := k65_openM hMe295
    have hv295_0 := hcc295 0 _ rfl
    rw [Nat.add_zero] at hv295_0
    replace hv295_0 := Option.some.inj (hv295_0.symm.trans hx295_0)
    rw [hv295_0] at ge295_0
    have HL295_0 := Aside0.mk (show Kd.R k28 28 _ _ _ _ ((rd_T65 t279 0).f0) from ge295_0)
    clear hv295_0 ge295_0
    clear hcc295 hce295
    have qi295 : (0 < t279.length) = True := eq_true (by omega)
    (try rw [show ((0 : Int)).toNat = 0 from rfl] at hx295_0)
    (try rw [show 0 * 2 = 0 from rfl] at hx295_0)
    (try rw [Addr.add_zero'] at hx295_0)
    (try rw [show ((0 : Int)).toNat = 0 from rfl] at hx295_1)
    (try rw [show 0 * 2 = 0 from rfl] at hx295_1)
    (try rw [Addr.add_zero'] at hx295_1)
    have HR295_0 := Aside0.mk hi295_0
    have HC295_0 := Aside0.mk hl295_0
    clear hi295_0 hl295_0
    replace p295 := eq_true p295
    replace q295 := eq_true q295
    have p296 : 0 ≤ (0 : Int) := (by omega)
    have q296 : 0 < (((rd_T65 t279 0).f0).length : Int) := of_decide_eq_true (by first | (with_reducible assumption) | assumption)
    obtain ⟨ad296, e296, hx296_0, hx296_1⟩ := at_T28 (by repeat (first | (with_reducible exact HR295_0.out) | (with_reducible refine Kd.C_alloc ?_ _) | (with_reducible refine Kd.C_drewN ?_ _) | (with_reducible refine Kd.C_drew ?_) | exact HR295_0.out | exact (Kd.R_reads' HL295_0.out).2.2)) 0 p296 q296
    cases e296
    have qi296 : (0 < ((rd_T65 t279 0).f0).length) = True := eq_true (by omega)
    (try rw [show ((0 : Int)).toNat = 0 from rfl] at hx296_0)
    (try rw [show 0 * 2 = 0 from rfl] at hx296_0)
    (try rw [Addr.add_zero'] at hx296_0)
    (try rw [show ((0 : Int)).toNat = 0 from rfl] at hx296_1)
    (try rw [show 0 * 2 = 0 from rfl] at hx296_1)
    (try rw [Addr.add_zero'] at hx296_1)
    replace p296 := eq_true p296
    replace q296 := eq_true q296
    try go_wp2_with (first | ((with_reducible refine gate_dst (N := 7) rfl ?_); (try (refine gate_guard (by rfl) ?_; dsimp only)); refine box_event ?hg (N := 7) ?hd (cs := #[.int .i64 0, .int .i64 0]) (t := 28) ?hr ?_; (case hd => rfl); (case hg => rfl); (case hr => first | (go_simp; done) | (go_simp; rfl)); intro gb297 hg w56 hbox hb; have n0_ := Aside0.mk (Kd.S_below (Kd.S_elderB (by (with_reducible repeat (first | apply Kd.S_alloc | apply Kd.S_drewN | apply Kd.S_drew)); exact HO_5.out) gb297 (Nat.le_of_eq hg.symm)) hb); have n1_ := Aside0.mk (Kd.R_below (Kd.R_elderB (by (with_reducible repeat (first | apply Kd.R_alloc | apply Kd.R_drewN | apply Kd.R_drew)); exact HL295_0.out) gb297 (Nat.le_of_eq hg.symm)) hb); have n2_ := Aside0.mk (blk_below (g := gb274) (o := .cells #[.int .i64 0, .int .i64 0] 28 (0, 0)) (by (with_reducible repeat (first | refine blk_drewN ?_ _ | refine blk_drew ?_ | refine blk_alloc ?_ _)); exact BK274.out) hb); have n3_ := Aside0.mk (blk_below (g := gb290) (o := .cells #[.int .i64 (wrap64 (t284 - 60)), .int .i64 (wrap64 (t287 - 60))] 28 (0, 0)) (by (with_reducible repeat (first | refine blk_drewN ?_ _ | refine blk_drew ?_ | refine blk_alloc ?_ _)); exact BK290.out) hb); have n4_ := Aside0.mk (IsS157.below (by repeat (first | (with_reducible first | exact HI278.out | apply IsS157.alloc | apply IsS157.drewN | apply IsS157.drew | apply IsS157.set_1 | apply IsS157.set_2 | refine IsS157.far ?_ NB278_274.out _ | refine IsS157.far ?_ NB278_290.out _) | exact HI278.out)) hb); have n5_ := Aside0.mk (Kd.C_below (by repeat (first | (with_reducible exact HR295_0.out) | (with_reducible refine Kd.C_alloc ?_ _) | (with_reducible refine Kd.C_drewN ?_ _) | (with_reducible refine Kd.C_drew ?_) | exact HR295_0.out | exact (Kd.R_reads' HL295_0.out).2.2)) hb); have n6_ := Aside0.mk (below_step (by repeat (first | (with_reducible first | exact HB.out | apply below_alloc | apply pw_below_drewN | apply below_drew1 | refine below_set ?_ (IsS157.ge HI278.out) | refine below_set ?_ GE274.out | refine below_set ?_ GE290.out) | exact HB.out)) hb); have n7_ := Aside0.mk (hbox); have n8_ := Aside0.mk ((by rw [hg]; exact (below_size (by repeat (first | (with_reducible first | exact HB.out | apply below_alloc | apply pw_below_drewN | apply below_drew1 | refine below_set ?_ (IsS157.ge HI278.out) | refine below_set ?_ GE274.out | refine below_set ?_ GE290.out) | exact HB.out))) : w.heap.size ≤ gb297)); have n9_ := Aside0.mk ((by rw [hg]; exact (below_size (by repeat (first | (with_reducible first | exact HB.out | apply below_alloc | apply pw_below_drewN | apply below_drew1 | refine below_set ?_ (IsS157.ge HI278.out) | refine below_set ?_ GE274.out | refine below_set ?_ GE290.out) | exact HB.out))) : w.heap.size ≤ gb297)); have n10_ := Aside0.mk ((by rw [hg]; exact Nat.ne_of_lt (blk_lt (g := gb274) (o := .cells #[.int .i64 0, .int .i64 0] 28 (0, 0)) (by (with_reducible repeat (first | refine blk_drewN ?_ _ | refine blk_drew ?_ | refine blk_alloc ?_ _)); exact BK274.out)) : gb274 ≠ gb297)); have n11_ := Aside0.mk ((by rw [hg]; exact Nat.ne_of_gt (blk_lt (g := gb274) (o := .cells #[.int .i64 0, .int .i64 0] 28 (0, 0)) (by (with_reducible repeat (first | refine blk_drewN ?_ _ | refine blk_drew ?_ | refine blk_alloc ?_ _)); exact BK274.out)) : gb297 ≠ gb274)); have n12_ := Aside0.mk ((by rw [hg]; exact Nat.ne_of_lt (blk_lt (g := gb290) (o := .cells #[.int .i64 (wrap64 (t284 - 60)), .int .i64 (wrap64 (t287 - 60))] 28 (0, 0)) (by (with_reducible repeat (first | refine blk_drewN ?_ _ | refine blk_drew ?_ | refine blk_alloc ?_ _)); exact BK290.out)) : gb290 ≠ gb297)); have n13_ := Aside0.mk ((by rw [hg]; exact Nat.ne_of_gt (blk_lt (g := gb290) (o := .cells #[.int .i64 (wrap64 (t284 - 60)), .int .i64 (wrap64 (t287 - 60))] 28 (0, 0)) (by (with_reducible repeat (first | refine blk_drewN ?_ _ | refine blk_drew ?_ | refine blk_alloc ?_ _)); exact BK290.out)) : gb297 ≠ gb290)); have n14_ := Aside0.mk ((by rw [hg]; exact Nat.ne_of_lt (IsS157.lt (show IsS157 w _ g278 t275 x279001_5 x279002_5 from by repeat (first | (with_reducible first | exact HI278.out | apply IsS157.alloc | apply IsS157.drewN | apply IsS157.drew | apply IsS157.set_1 | apply IsS157.set_2 | refine IsS157.far ?_ NB278_274.out _ | refine IsS157.far ?_ NB278_290.out _) | exact HI278.out))) : g278 ≠ gb297)); have n15_ := Aside0.mk ((by rw [hg]; exact Nat.ne_of_gt (IsS157.lt (show IsS157 w _ g278 t275 x279001_5 x279002_5 from by repeat (first | (with_reducible first | exact HI278.out | apply IsS157.alloc | apply IsS157.drewN | apply IsS157.drew | apply IsS157.set_1 | apply IsS157.set_2 | refine IsS157.far ?_ NB278_274.out _ | refine IsS157.far ?_ NB278_290.out _) | exact HI278.out))) : gb297 ≠ g278)); clear HO_5; clear HL295_0; clear BK274; clear BK290; clear HI278; clear HR295_0; clear HB; have HO_5 := n0_; have HL295_0 := n1_; have BK274 := n2_; have BK290 := n3_; have HI278 := n4_; have HR295_0 := n5_; have HB := n6_; have BK297 := n7_; have GW297 := n8_; have GE297 := n9_; have NB274_297 := n10_; have NB297_274 := n11_; have NB290_297 := n12_; have NB297_290 := n13_; have NB278_297 := n14_; have NB297_278 := n15_; clear n0_ n1_ n2_ n3_ n4_ n5_ n6_ n7_ n8_ n9_ n10_ n11_ n12_ n13_ n14_ n15_; clear hb hbox hg; have hnb57 := NB297_274.out; have hnc57 := NB274_297.out; have hnb58 := NB297_290.out; have hnc58 := NB290_297.out; have hnb59 := NB297_278.out; have hnc59 := NB278_297.out; have hcz60_0 : w56.cell? ⟨gb297, 0, none⟩ = some (.int .i64 0) := (blk_cell BK297.out 0).trans rfl; have hcz60_1 : w56.cell? ⟨gb297, 1, none⟩ = some (.int .i64 0) := (blk_cell BK297.out 1).trans rfl; have hfz60_0 := blk_frozen BK297.out 0; have hfz60_1 := blk_frozen BK297.out 1) | ((with_reducible refine gate_store (t := 28) (p := 7) rfl ?_); refine store_event (t := 28) (p := 7) (v := ?vo_w61) (w1 := ((w56.setCell ⟨gb297, 0, none⟩ (.int .i64 ((rd_T28 ((rd_T65 t279 0).f0) 0).f0))).setCell ⟨gb297, 1, none⟩ (.int .i64 ((rd_T28 ((rd_T65 t279 0).f0) 0).f1)))) ?hg ?ho ?hn ?hr ?_; (case ho => rfl); (case hg => rfl); (case hn => rfl); (case hr => first | (go_simp; done) | (go_simp; rfl)); intro w61 hw; have n0_ : Aside0 (Kd.S k65 65 w61 w.heap.size (fun k_ => k_ ≠ gb274 ∧ k_ ≠ gb290 ∧ k_ ≠ gb297) (.slice (some ad295) t279.length co55) t279) := ⟨(by rw [hw]; exact (by (with_reducible repeat (first | apply Kd.S_alloc | apply Kd.S_drewN | apply Kd.S_drew)); exact Kd.S_mono (Kd.S_far (p := ⟨gb297, 1, none⟩) (Kd.S_far (p := ⟨gb297, 0, none⟩) (Kd.S_mono HO_5.out (fun k_ hk => (⟨hk, hk.2⟩ : _ ∧ k_ ≠ gb297))) (fun _ hk => hk.2) (.int .i64 ((rd_T28 ((rd_T65 t279 0).f0) 0).f0))) (fun _ hk => hk.2) (.int .i64 ((rd_T28 ((rd_T65 t279 0).f0) 0).f1))) (fun _ hk => ⟨hk.1.1.1, ⟨hk.1.1.2, hk.1.2⟩⟩)))⟩; have n1_ : Aside0 (Kd.R k28 28 w61 w.heap.size (fun k_ => some k_ ≠ (.slice (some ad295) t279.length co55 : Value).ownBlock ∧ k_ ≠ gb274 ∧ k_ ≠ gb290 ∧ k_ ≠ gb297) (.slice (some ad296) ((rd_T65 t279 0).f0).length c295_0) ((rd_T65 t279 0).f0)) := ⟨(by rw [hw]; exact (by (with_reducible repeat (first | apply Kd.R_alloc | apply Kd.R_drewN | apply Kd.R_drew)); exact Kd.R_mono (Kd.R_far (p := ⟨gb297, 1, none⟩) (Kd.R_far (p := ⟨gb297, 0, none⟩) (Kd.R_mono HL295_0.out (fun k_ hk => (⟨hk, hk.2⟩ : _ ∧ k_ ≠ gb297))) (fun _ hk => hk.2) (.int .i64 ((rd_T28 ((rd_T65 t279 0).f0) 0).f0))) (fun _ hk => hk.2) (.int .i64 ((rd_T28 ((rd_T65 t279 0).f0) 0).f1))) (fun _ hk => ⟨hk.1.1.2, ⟨hk.1.1.1.1, ⟨hk.1.1.1.2, hk.1.2⟩⟩⟩)))⟩; have n2_ : Aside0 (w61.heap[gb274]? = some (.cells #[.int .i64 0, .int .i64 0] 28 (0, 0))) := ⟨(by rw [hw]; exact (by (with_reducible repeat (first | refine blk_drewN ?_ _ | refine blk_drew ?_ | refine blk_alloc ?_ _)); refine blk_far ?_ NB274_297.out _; (with_reducible repeat (first | refine blk_drewN ?_ _ | refine blk_drew ?_ | refine blk_alloc ?_ _)); refine blk_far ?_ NB274_297.out _; (with_reducible repeat (first | refine blk_drewN ?_ _ | refine blk_drew ?_ | refine blk_alloc ?_ _)); exact BK274.out))⟩; have n3_ : Aside0 (w61.heap[gb290]? = some (.cells #[.int .i64 (wrap64 (t284 - 60)), .int .i64 (wrap64 (t287 - 60))] 28 (0, 0))) := ⟨(by rw [hw]; exact (by (with_reducible repeat (first | refine blk_drewN ?_ _ | refine blk_drew ?_ | refine blk_alloc ?_ _)); refine blk_far ?_ NB290_297.out _; (with_reducible repeat (first | refine blk_drewN ?_ _ | refine blk_drew ?_ | refine blk_alloc ?_ _)); refine blk_far ?_ NB290_297.out _; (with_reducible repeat (first | refine blk_drewN ?_ _ | refine blk_drew ?_ | refine blk_alloc ?_ _)); exact BK290.out))⟩; have n4_ : Aside0 (w61.heap[gb297]? = some (.cells #[.int .i64 ((rd_T28 ((rd_T65 t279 0).f0) 0).f0), .int .i64 ((rd_T28 ((rd_T65 t279 0).f0) 0).f1)] 28 (0, 0))) := ⟨(by rw [hw]; exact (by (with_reducible repeat (first | refine blk_drewN ?_ _ | refine blk_drew ?_ | refine blk_alloc ?_ _)); refine blk_put (cs := #[.int .i64 ((rd_T28 ((rd_T65 t279 0).f0) 0).f0), .int .i64 0]) ?_ 1 _ rfl; (with_reducible repeat (first | refine blk_drewN ?_ _ | refine blk_drew ?_ | refine blk_alloc ?_ _)); refine blk_put (cs := #[.int .i64 0, .int .i64 0]) ?_ 0 _ rfl; (with_reducible repeat (first | refine blk_drewN ?_ _ | refine blk_drew ?_ | refine blk_alloc ?_ _)); exact BK297.out))⟩; have n5_ : Aside0 (IsS157 w w61 g278 t275 x279001_5 x279002_5) := ⟨(by rw [hw]; exact (by repeat (first | (with_reducible first | exact HI278.out | apply IsS157.alloc | apply IsS157.drewN | apply IsS157.drew | apply IsS157.set_1 | apply IsS157.set_2 | refine IsS157.far ?_ NB278_274.out _ | refine IsS157.far ?_ NB278_290.out _ | refine IsS157.far ?_ NB278_297.out _) | exact HI278.out)))⟩; have n6_ : Aside0 (Below w.heap.size w w61) := ⟨(by rw [hw]; exact (by repeat (first | (with_reducible first | exact HB.out | apply below_alloc | apply pw_below_drewN | apply below_drew1 | refine below_set ?_ (IsS157.ge HI278.out) | refine below_set ?_ GE274.out | refine below_set ?_ GE290.out | refine below_set ?_ GE297.out) | exact HB.out)))⟩; clear hw; clear HO_5; clear HL295_0; clear BK274; clear BK290; clear BK297; clear HI278; clear HB; have HO_5 := n0_; have HL295_0 := n1_; have BK274 := n2_; have BK290 := n3_; have BK297 := n4_; have HI278 := n5_; have HB := n6_; clear n0_ n1_ n2_ n3_ n4_ n5_ n6_; have p298 : 0 ≤ (0 : Int) := (by omega); have q298 : 0 < (t279.length : Int) := of_decide_eq_true (by first | (with_reducible assumption) | assumption); obtain ⟨ad298, A298_0, c298_0, e298, hx298_0, hx298_1, hl298_0, hi298_0⟩ := at_T65 (Kd.S_reads' HO_5.out).2.2 0 p298 q298; obtain rfl : ad295 = ad298 := (by injection e298); obtain ⟨ce298, hce298, hMe298, hcc298⟩ := Kd.S_get HO_5.out z65 0 p298 (by first | exact q298 | exact of_decide_eq_true (by first | (with_reducible assumption) | assumption) | (have e_ := (Kd.S_reads' HO_5.out).1; omega)); obtain ⟨ve298_0, rfl, ge298_0⟩ := k65_openM hMe298; have hv298_0 := hcc298 0 _ rfl; rw [Nat.add_zero] at hv298_0; replace hv298_0 := Option.some.inj (hv298_0.symm.trans hx298_0); rw [hv298_0] at ge298_0; have HL298_0 := Aside0.mk (show Kd.R k28 28 _ _ _ _ ((rd_T65 t279 0).f0) from ge298_0); clear hv298_0 ge298_0; clear hcc298 hce298; have qi298 : (0 < t279.length) = True := eq_true (by omega); (try rw [show ((0 : Int)).toNat = 0 from rfl] at hx298_0); (try rw [show 0 * 2 = 0 from rfl] at hx298_0); (try rw [Addr.add_zero'] at hx298_0); (try rw [show ((0 : Int)).toNat = 0 from rfl] at hx298_1); (try rw [show 0 * 2 = 0 from rfl] at hx298_1); (try rw [Addr.add_zero'] at hx298_1); have HR298_0 := Aside0.mk hi298_0; have HC298_0 := Aside0.mk hl298_0; clear hi298_0 hl298_0; replace p298 := eq_true p298; replace q298 := eq_true q298; have p299 : 0 ≤ (1 : Int) := (by omega); have q299 : 1 < (((rd_T65 t279 0).f0).length : Int) := of_decide_eq_true (by first | (with_reducible assumption) | assumption); obtain ⟨ad299, e299, hx299_0, hx299_1⟩ := at_T28 (by repeat (first | (with_reducible exact HR298_0.out) | (with_reducible refine Kd.C_alloc ?_ _) | (with_reducible refine Kd.C_drewN ?_ _) | (with_reducible refine Kd.C_drew ?_) | exact HR298_0.out | exact (Kd.R_reads' HL298_0.out).2.2)) 1 p299 q299; cases e299; (try simp only [show (1 : Int).toNat = 1 from rfl, Nat.reduceMul, Nat.reduceEqDiff, Go.Addr.add, ↓reduceIte] at hx299_0); (try simp only [show (1 : Int).toNat = 1 from rfl, Nat.reduceMul, Nat.reduceEqDiff, Go.Addr.add, ↓reduceIte] at hx299_1); have qi299 : (1 < ((rd_T65 t279 0).f0).length) = True := eq_true (by omega); (try rw [show ((1 : Int)).toNat = 1 from rfl] at hx299_0); (try rw [show 1 * 2 = 2 from rfl] at hx299_0); (try rw [show ((1 : Int)).toNat = 1 from rfl] at hx299_1); (try rw [show 1 * 2 = 2 from rfl] at hx299_1); replace p299 := eq_true p299; replace q299 := eq_true q299) | ((with_reducible refine gate_dst (N := 8) rfl ?_); (try (refine gate_guard (by rfl) ?_; dsimp only)); refine box_event ?hg (N := 8) ?hd (cs := #[.int .i64 0, .int .i64 0]) (t := 28) ?hr ?_; (case hd => rfl); (case hg => rfl); (case hr => first | (go_simp; done) | (go_simp; rfl)); intro gb300 hg w62 hbox hb; have n0_ := Aside0.mk (Kd.S_below (Kd.S_elderB (by (with_reducible repeat (first | apply Kd.S_alloc | apply Kd.S_drewN | apply Kd.S_drew)); exact HO_5.out) gb300 (Nat.le_of_eq hg.symm)) hb); have n1_ := Aside0.mk (Kd.R_below (Kd.R_elderB (by (with_reducible repeat (first | apply Kd.R_alloc | apply Kd.R_drewN | apply Kd.R_drew)); exact HL295_0.out) gb300 (Nat.le_of_eq hg.symm)) hb); have n2_ := Aside0.mk (Kd.R_below (Kd.R_elderB (by (with_reducible repeat (first | apply Kd.R_alloc | apply Kd.R_drewN | apply Kd.R_drew)); exact HL298_0.out) gb300 (Nat.le_of_eq hg.symm)) hb); have n3_ := Aside0.mk (blk_below (g := gb274) (o := .cells #[.int .i64 0, .int .i64 0] 28 (0, 0)) (by (with_reducible repeat (first | refine blk_drewN ?_ _ | refine blk_drew ?_ | refine blk_alloc ?_ _)); exact BK274.out) hb); have n4_ := Aside0.mk (blk_below (g := gb290) (o := .cells #[.int .i64 (wrap64 (t284 - 60)), .int .i64 (wrap64 (t287 - 60))] 28 (0, 0)) (by (with_reducible repeat (first | refine blk_drewN ?_ _ | refine blk_drew ?_ | refine blk_alloc ?_ _)); exact BK290.out) hb); have n5_ := Aside0.mk (IsS157.below (by repeat (first | (with_reducible first | exact HI278.out | apply IsS157.alloc | apply IsS157.drewN | apply IsS157.drew | apply IsS157.set_1 | apply IsS157.set_2 | refine IsS157.far ?_ NB278_274.out _ | refine IsS157.far ?_ NB278_290.out _ | refine IsS157.far ?_ NB278_297.out _) | exact HI278.out)) hb); have n6_ := Aside0.mk (Kd.C_below (by repeat (first | (with_reducible exact HR295_0.out) | (with_reducible refine Kd.C_alloc ?_ _) | (with_reducible refine Kd.C_drewN ?_ _) | (with_reducible refine Kd.C_drew ?_) | exact HR295_0.out | exact (Kd.R_reads' HL295_0.out).2.2)) hb); have n7_ := Aside0.mk (blk_below (g := gb297) (o := .cells #[.int .i64 ((rd_T28 ((rd_T65 t279 0).f0) 0).f0), .int .i64 ((rd_T28 ((rd_T65 t279 0).f0) 0).f1)] 28 (0, 0)) (by (with_reducible repeat (first | refine blk_drewN ?_ _ | refine blk_drew ?_ | refine blk_alloc ?_ _)); exact BK297.out) hb); have n8_ := Aside0.mk (Kd.C_below (by repeat (first | (with_reducible exact HR298_0.out) | (with_reducible refine Kd.C_alloc ?_ _) | (with_reducible refine Kd.C_drewN ?_ _) | (with_reducible refine Kd.C_drew ?_) | exact HR298_0.out | exact (Kd.R_reads' HL298_0.out).2.2)) hb); have n9_ := Aside0.mk (below_step (by repeat (first | (with_reducible first | exact HB.out | apply below_alloc | apply pw_below_drewN | apply below_drew1 | refine below_set ?_ (IsS157.ge HI278.out) | refine below_set ?_ GE274.out | refine below_set ?_ GE290.out | refine below_set ?_ GE297.out) | exact HB.out)) hb); have n10_ := Aside0.mk (hbox); have n11_ := Aside0.mk ((by rw [hg]; exact (below_size (by repeat (first | (with_reducible first | exact HB.out | apply below_alloc | apply pw_below_drewN | apply below_drew1 | refine below_set ?_ (IsS157.ge HI278.out) | refine below_set ?_ GE274.out | refine below_set ?_ GE290.out | refine below_set ?_ GE297.out) | exact HB.out))) : w.heap.size ≤ gb300)); have n12_ := Aside0.mk ((by rw [hg]; exact (below_size (by repeat (first | (with_reducible first | exact HB.out | apply below_alloc | apply pw_below_drewN | apply below_drew1 | refine below_set ?_ (IsS157.ge HI278.out) | refine below_set ?_ GE274.out | refine below_set ?_ GE290.out | refine below_set ?_ GE297.out) | exact HB.out))) : w.heap.size ≤ gb300)); have n13_ := Aside0.mk ((by rw [hg]; exact Nat.ne_of_lt (blk_lt (g := gb274) (o := .cells #[.int .i64 0, .int .i64 0] 28 (0, 0)) (by (with_reducible repeat (first | refine blk_drewN ?_ _ | refine blk_drew ?_ | refine blk_alloc ?_ _)); exact BK274.out)) : gb274 ≠ gb300)); have n14_ := Aside0.mk ((by rw [hg]; exact Nat.ne_of_gt (blk_lt (g := gb274) (o := .cells #[.int .i64 0, .int .i64 0] 28 (0, 0)) (by (with_reducible repeat (first | refine blk_drewN ?_ _ | refine blk_drew ?_ | refine blk_alloc ?_ _)); exact BK274.out)) : gb300 ≠ gb274)); have n15_ := Aside0.mk ((by rw [hg]; exact Nat.ne_of_lt (blk_lt (g := gb290) (o := .cells #[.int .i64 (wrap64 (t284 - 60)), .int .i64 (wrap64 (t287 - 60))] 28 (0, 0)) (by (with_reducible repeat (first | refine blk_drewN ?_ _ | refine blk_drew ?_ | refine blk_alloc ?_ _)); exact BK290.out)) : gb290 ≠ gb300)); have n16_ := Aside0.mk ((by rw [hg]; exact Nat.ne_of_gt (blk_lt (g := gb290) (o := .cells #[.int .i64 (wrap64 (t284 - 60)), .int .i64 (wrap64 (t287 - 60))] 28 (0, 0)) (by (with_reducible repeat (first | refine blk_drewN ?_ _ | refine blk_drew ?_ | refine blk_alloc ?_ _)); exact BK290.out)) : gb300 ≠ gb290)); have n17_ := Aside0.mk ((by rw [hg]; exact Nat.ne_of_lt (blk_lt (g := gb297) (o := .cells #[.int .i64 ((rd_T28 ((rd_T65 t279 0).f0) 0).f0), .int .i64 ((rd_T28 ((rd_T65 t279 0).f0) 0).f1)] 28 (0, 0)) (by (with_reducible repeat (first | refine blk_drewN ?_ _ | refine blk_drew ?_ | refine blk_alloc ?_ _)); exact BK297.out)) : gb297 ≠ gb300)); have n18_ := Aside0.mk ((by rw [hg]; exact Nat.ne_of_gt (blk_lt (g := gb297) (o := .cells #[.int .i64 ((rd_T28 ((rd_T65 t279 0).f0) 0).f0), .int .i64 ((rd_T28 ((rd_T65 t279 0).f0) 0).f1)] 28 (0, 0)) (by (with_reducible repeat (first | refine blk_drewN ?_ _ | refine blk_drew ?_ | refine blk_alloc ?_ _)); exact BK297.out)) : gb300 ≠ gb297)); have n19_ := Aside0.mk ((by rw [hg]; exact Nat.ne_of_lt (IsS157.lt (show IsS157 w _ g278 t275 x279001_5 x279002_5 from by repeat (first | (with_reducible first | exact HI278.out | apply IsS157.alloc | apply IsS157.drewN | apply IsS157.drew | apply IsS157.set_1 | apply IsS157.set_2 | refine IsS157.far ?_ NB278_274.out _ | refine IsS157.far ?_ NB278_290.out _ | refine IsS157.far ?_ NB278_297.out _) | exact HI278.out))) : g278 ≠ gb300)); have n20_ := Aside0.mk ((by rw [hg]; exact Nat.ne_of_gt (IsS157.lt (show IsS157 w _ g278 t275 x279001_5 x279002_5 from by repeat (first | (with_reducible first | exact HI278.out | apply IsS157.alloc | apply IsS157.drewN | apply IsS157.drew | apply IsS157.set_1 | apply IsS157.set_2 | refine IsS157.far ?_ NB278_274.out _ | refine IsS157.far ?_ NB278_290.out _ | refine IsS157.far ?_ NB278_297.out _) | exact HI278.out))) : gb300 ≠ g278)); clear HO_5; clear HL295_0; clear HL298_0; clear BK274; clear BK290; clear HI278; clear HR295_0; clear BK297; clear HR298_0; clear HB; have HO_5 := n0_; have HL295_0 := n1_; have HL298_0 := n2_; have BK274 := n3_; have BK290 := n4_; have HI278 := n5_; have HR295_0 := n6_; have BK297 := n7_; have HR298_0 := n8_; have HB := n9_; have BK300 := n10_; have GW300 := n11_; have GE300 := n12_; have NB274_300 := n13_; have NB300_274 := n14_; have NB290_300 := n15_; have NB300_290 := n16_; have NB297_300 := n17_; have NB300_297 := n18_; have NB278_300 := n19_; have NB300_278 := n20_; clear n0_ n1_ n2_ n3_ n4_ n5_ n6_ n7_ n8_ n9_ n10_ n11_ n12_ n13_ n14_ n15_ n16_ n17_ n18_ n19_ n20_; clear hb hbox hg; have hnb63 := NB300_274.out; have hnc63 := NB274_300.out; have hnb64 := NB300_290.out; have hnc64 := NB290_300.out; have hnb65 := NB300_297.out; have hnc65 := NB297_300.out; have hnb66 := NB300_278.out; have hnc66 := NB278_300.out; have hcz67_0 : w62.cell? ⟨gb300, 0, none⟩ = some (.int .i64 0) := (blk_cell BK300.out 0).trans rfl; have hcz67_1 : w62.cell? ⟨gb300, 1, none⟩ = some (.int .i64 0) := (blk_cell BK300.out 1).trans rfl; have hfz67_0 := blk_frozen BK300.out 0; have hfz67_1 := blk_frozen BK300.out 1; have hcz68_0 : w62.cell? ⟨gb297, 0, none⟩ = some (.int .i64 ((rd_T28 ((rd_T65 t279 0).f0) 0).f0)) := (blk_cell BK297.out 0).trans rfl; have hcz68_1 : w62.cell? ⟨gb297, 1, none⟩ = some (.int .i64 ((rd_T28 ((rd_T65 t279 0).f0) 0).f1)) := (blk_cell BK297.out 1).trans rfl; have hfz68_0 := blk_frozen BK297.out 0; have hfz68_1 := blk_frozen BK297.out 1; have hnb69 := NB290_274.out; have hnc69 := NB274_290.out; have hnb70 := NB290_278.out; have hnc70 := NB278_290.out; have hcz71_0 : w62.cell? ⟨gb290, 0, none⟩ = some (.int .i64 (wrap64 (t284 - 60))) := (blk_cell BK290.out 0).trans rfl; have hcz71_1 : w62.cell? ⟨gb290, 1, none⟩ = some (.int .i64 (wrap64 (t287 - 60))) := (blk_cell BK290.out 1).trans rfl; have hfz71_0 := blk_frozen BK290.out 0; have hfz71_1 := blk_frozen BK290.out 1) | ((with_reducible refine gate_callee (f := 95) rfl ?_); refine goesL_ (some 61) rfl rfl Try.func95 (by kernel_rfl) rfl #[.pointer (some ⟨g278, 0, none⟩), .int .i64 3] rfl (by (try simp only [List.map_toArray, List.map_cons, List.map_nil]); first | done | rfl | (simp only [List.length_drop, List.length_take]; rfl)) ?_; (with_reducible refine (spec_l1Once.calls g278 t275 x279001_5 x279002_5 3 false t302 t303 w _ ?side1 ?side2 A29.out).mono ?_); (case side1 => repeat (first | (with_reducible first | exact HI278.out | apply IsS157.alloc | apply IsS157.drewN | apply IsS157.drew | apply IsS157.set_1 | apply IsS157.set_2 | refine IsS157.far ?_ NB278_274.out _ | refine IsS157.far ?_ NB278_290.out _ | refine IsS157.far ?_ NB278_297.out _ | refine IsS157.far ?_ NB278_300.out _) | exact HI278.out)); (case side2 => repeat (first | (with_reducible first | exact HB.out | apply below_alloc | apply pw_below_drewN | apply below_drew1 | refine below_set ?_ (IsS157.ge HI278.out) | refine below_set ?_ GE274.out | refine below_set ?_ GE290.out | refine below_set ?_ GE297.out | refine below_set ?_ GE300.out) | exact HB.out)); rintro e w72 ⟨rfl, hi, hb, hk⟩; refine ⟨_, rfl, ?_⟩; have n0_ := Aside0.mk (Kd.S_mono (Kd.S_keep (IsS157.apartS (show IsS157 w _ g278 t275 x279001_5 x279002_5 from by repeat (first | (with_reducible first | exact HI278.out | apply IsS157.alloc | apply IsS157.drewN | apply IsS157.drew | apply IsS157.set_1 | apply IsS157.set_2 | refine IsS157.far ?_ NB278_274.out _ | refine IsS157.far ?_ NB278_290.out _ | refine IsS157.far ?_ NB278_297.out _ | refine IsS157.far ?_ NB278_300.out _) | exact HI278.out)) (by (with_reducible repeat (first | apply Kd.S_alloc | apply Kd.S_drewN | apply Kd.S_drew)); exact (Kd.S_mono (Kd.S_mono (Kd.S_far (p := ⟨gb290, 1, none⟩) (Kd.S_far (p := ⟨gb290, 0, none⟩) (Kd.S_far (p := ⟨gb300, 1, none⟩) (Kd.S_far (p := ⟨gb300, 0, none⟩) (Kd.S_mono (Kd.S_mono HO_5.out (fun k_ hk => (⟨hk, hk.2⟩ : _ ∧ k_ ≠ gb300))) (fun k_ hk => (⟨hk, hk.1.1.2.1⟩ : _ ∧ k_ ≠ gb290))) (fun _ hk => hk.1.2) (.int .i64 ((rd_T28 ((rd_T65 t279 0).f0) 1).f0))) (fun _ hk => hk.1.2) (.int .i64 ((rd_T28 ((rd_T65 t279 0).f0) 1).f1))) (fun _ hk => hk.2) (.int .i64 (wrap64 (Int.tdiv (wrap64 (((rd_T28 ((rd_T65 t279 0).f0) 0).f0) + ((rd_T28 ((rd_T65 t279 0).f0) 1).f0))) 2)))) (fun _ hk => hk.2) (.int .i64 (wrap64 (Int.tdiv (wrap64 (((rd_T28 ((rd_T65 t279 0).f0) 0).f1) + ((rd_T28 ((rd_T65 t279 0).f0) 1).f1))) 2)))) (fun _ h_ => h_.1)) (fun _ h_ => h_.1))) (by decide)) hk (fun _ h => h.2)) (fun _ h => h.1)); have n1_ := Aside0.mk (KeepBut.blk hk (g' := gb274) (o := .cells #[.int .i64 0, .int .i64 0] 28 (0, 0)) (by (with_reducible repeat (first | refine blk_drewN ?_ _ | refine blk_drew ?_ | refine blk_alloc ?_ _)); refine blk_far ?_ NB274_290.out _; (with_reducible repeat (first | refine blk_drewN ?_ _ | refine blk_drew ?_ | refine blk_alloc ?_ _)); refine blk_far ?_ NB274_290.out _; (with_reducible repeat (first | refine blk_drewN ?_ _ | refine blk_drew ?_ | refine blk_alloc ?_ _)); refine blk_far ?_ NB274_300.out _; (with_reducible repeat (first | refine blk_drewN ?_ _ | refine blk_drew ?_ | refine blk_alloc ?_ _)); refine blk_far ?_ NB274_300.out _; (with_reducible repeat (first | refine blk_drewN ?_ _ | refine blk_drew ?_ | refine blk_alloc ?_ _)); exact BK274.out) NB274_278.out (by simp)); have n2_ := Aside0.mk (KeepBut.blk hk (g' := gb290) (o := .cells #[.int .i64 (wrap64 (Int.tdiv (wrap64 (((rd_T28 ((rd_T65 t279 0).f0) 0).f0) + ((rd_T28 ((rd_T65 t279 0).f0) 1).f0))) 2)), .int .i64 (wrap64 (Int.tdiv (wrap64 (((rd_T28 ((rd_T65 t279 0).f0) 0).f1) + ((rd_T28 ((rd_T65 t279 0).f0) 1).f1))) 2))] 28 (0, 0)) (by (with_reducible repeat (first | refine blk_drewN ?_ _ | refine blk_drew ?_ | refine blk_alloc ?_ _)); refine blk_put (cs := #[.int .i64 (wrap64 (Int.tdiv (wrap64 (((rd_T28 ((rd_T65 t279 0).f0) 0).f0) + ((rd_T28 ((rd_T65 t279 0).f0) 1).f0))) 2)), .int .i64 (wrap64 (t287 - 60))]) ?_ 1 _ rfl; (with_reducible repeat (first | refine blk_drewN ?_ _ | refine blk_drew ?_ | refine blk_alloc ?_ _)); refine blk_put (cs := #[.int .i64 (wrap64 (t284 - 60)), .int .i64 (wrap64 (t287 - 60))]) ?_ 0 _ rfl; (with_reducible repeat (first | refine blk_drewN ?_ _ | refine blk_drew ?_ | refine blk_alloc ?_ _)); refine blk_far ?_ NB290_300.out _; (with_reducible repeat (first | refine blk_drewN ?_ _ | refine blk_drew ?_ | refine blk_alloc ?_ _)); refine blk_far ?_ NB290_300.out _; (with_reducible repeat (first | refine blk_drewN ?_ _ | refine blk_drew ?_ | refine blk_alloc ?_ _)); exact BK290.out) NB290_278.out (by simp)); have n3_ := Aside0.mk (Kd.R_mono (Kd.R_keep (IsS157.apart (show IsS157 w _ g278 t275 x279001_5 x279002_5 from by repeat (first | (with_reducible first | exact HI278.out | apply IsS157.alloc | apply IsS157.drewN | apply IsS157.drew | apply IsS157.set_1 | apply IsS157.set_2 | refine IsS157.far ?_ NB278_274.out _ | refine IsS157.far ?_ NB278_290.out _ | refine IsS157.far ?_ NB278_297.out _ | refine IsS157.far ?_ NB278_300.out _) | exact HI278.out)) (by (with_reducible repeat (first | apply Kd.R_alloc | apply Kd.R_drewN | apply Kd.R_drew)); exact (Kd.R_mono (Kd.R_mono (Kd.R_far (p := ⟨gb290, 1, none⟩) (Kd.R_far (p := ⟨gb290, 0, none⟩) (Kd.R_far (p := ⟨gb300, 1, none⟩) (Kd.R_far (p := ⟨gb300, 0, none⟩) (Kd.R_mono (Kd.R_mono HL295_0.out (fun k_ hk => (⟨hk, hk.2⟩ : _ ∧ k_ ≠ gb300))) (fun k_ hk => (⟨hk, hk.1.1.2.2.1⟩ : _ ∧ k_ ≠ gb290))) (fun _ hk => hk.1.2) (.int .i64 ((rd_T28 ((rd_T65 t279 0).f0) 1).f0))) (fun _ hk => hk.1.2) (.int .i64 ((rd_T28 ((rd_T65 t279 0).f0) 1).f1))) (fun _ hk => hk.2) (.int .i64 (wrap64 (Int.tdiv (wrap64 (((rd_T28 ((rd_T65 t279 0).f0) 0).f0) + ((rd_T28 ((rd_T65 t279 0).f0) 1).f0))) 2)))) (fun _ hk => hk.2) (.int .i64 (wrap64 (Int.tdiv (wrap64 (((rd_T28 ((rd_T65 t279 0).f0) 0).f1) + ((rd_T28 ((rd_T65 t279 0).f0) 1).f1))) 2)))) (fun _ h_ => h_.1)) (fun _ h_ => h_.1))) (by decide)) hk (fun _ h => h.2)) (fun _ h => h.1)); have n4_ := Aside0.mk (KeepBut.blk hk (g' := gb297) (o := .cells #[.int .i64 ((rd_T28 ((rd_T65 t279 0).f0) 0).f0), .int .i64 ((rd_T28 ((rd_T65 t279 0).f0) 0).f1)] 28 (0, 0)) (by (with_reducible repeat (first | refine blk_drewN ?_ _ | refine blk_drew ?_ | refine blk_alloc ?_ _)); refine blk_far ?_ NB297_290.out _; (with_reducible repeat (first | refine blk_drewN ?_ _ | refine blk_drew ?_ | refine blk_alloc ?_ _)); refine blk_far ?_ NB297_290.out _; (with_reducible repeat (first | refine blk_drewN ?_ _ | refine blk_drew ?_ | refine blk_alloc ?_ _)); refine blk_far ?_ NB297_300.out _; (with_reducible repeat (first | refine blk_drewN ?_ _ | refine blk_drew ?_ | refine blk_alloc ?_ _)); refine blk_far ?_ NB297_300.out _; (with_reducible repeat (first | refine blk_drewN ?_ _ | refine blk_drew ?_ | refine blk_alloc ?_ _)); exact BK297.out) NB297_278.out (by simp)); have n5_ := Aside0.mk (Kd.R_mono (Kd.R_keep (IsS157.apart (show IsS157 w _ g278 t275 x279001_5 x279002_5 from by repeat (first | (with_reducible first | exact HI278.out | apply IsS157.alloc | apply IsS157.drewN | apply IsS157.drew | apply IsS157.set_1 | apply IsS157.set_2 | refine IsS157.far ?_ NB278_274.out _ | refine IsS157.far ?_ NB278_290.out _ | refine IsS157.far ?_ NB278_297.out _ | refine IsS157.far ?_ NB278_300.out _) | exact HI278.out)) (by (with_reducible repeat (first | apply Kd.R_alloc | apply Kd.R_drewN | apply Kd.R_drew)); exact (Kd.R_mono (Kd.R_mono (Kd.R_far (p := ⟨gb290, 1, none⟩) (Kd.R_far (p := ⟨gb290, 0, none⟩) (Kd.R_far (p := ⟨gb300, 1, none⟩) (Kd.R_far (p := ⟨gb300, 0, none⟩) (Kd.R_mono (Kd.R_mono HL298_0.out (fun k_ hk => (⟨hk, hk.2⟩ : _ ∧ k_ ≠ gb300))) (fun k_ hk => (⟨hk, hk.1.1.1.2.1⟩ : _ ∧ k_ ≠ gb290))) (fun _ hk => hk.1.2) (.int .i64 ((rd_T28 ((rd_T65 t279 0).f0) 1).f0))) (fun _ hk => hk.1.2) (.int .i64 ((rd_T28 ((rd_T65 t279 0).f0) 1).f1))) (fun _ hk => hk.2) (.int .i64 (wrap64 (Int.tdiv (wrap64 (((rd_T28 ((rd_T65 t279 0).f0) 0).f0) + ((rd_T28 ((rd_T65 t279 0).f0) 1).f0))) 2)))) (fun _ hk => hk.2) (.int .i64 (wrap64 (Int.tdiv (wrap64 (((rd_T28 ((rd_T65 t279 0).f0) 0).f1) + ((rd_T28 ((rd_T65 t279 0).f0) 1).f1))) 2)))) (fun _ h_ => h_.1)) (fun _ h_ => h_.1))) (by decide)) hk (fun _ h => h.2)) (fun _ h => h.1)); have n6_ := Aside0.mk (KeepBut.blk hk (g' := gb300) (o := .cells #[.int .i64 ((rd_T28 ((rd_T65 t279 0).f0) 1).f0), .int .i64 ((rd_T28 ((rd_T65 t279 0).f0) 1).f1)] 28 (0, 0)) (by (with_reducible repeat (first | refine blk_drewN ?_ _ | refine blk_drew ?_ | refine blk_alloc ?_ _)); refine blk_far ?_ NB300_290.out _; (with_reducible repeat (first | refine blk_drewN ?_ _ | refine blk_drew ?_ | refine blk_alloc ?_ _)); refine blk_far ?_ NB300_290.out _; (with_reducible repeat (first | refine blk_drewN ?_ _ | refine blk_drew ?_ | refine blk_alloc ?_ _)); refine blk_put (cs := #[.int .i64 ((rd_T28 ((rd_T65 t279 0).f0) 1).f0), .int .i64 0]) ?_ 1 _ rfl; (with_reducible repeat (first | refine blk_drewN ?_ _ | refine blk_drew ?_ | refine blk_alloc ?_ _)); refine blk_put (cs := #[.int .i64 0, .int .i64 0]) ?_ 0 _ rfl; (with_reducible repeat (first | refine blk_drewN ?_ _ | refine blk_drew ?_ | refine blk_alloc ?_ _)); exact BK300.out) NB300_278.out (by simp)); have n7_ := Aside0.mk (hb); have n8_ := Aside0.mk (hi); clear HO_5; clear BK274; clear BK290; clear HL295_0; clear BK297; clear HL298_0; clear BK300; clear HB; clear HI278; have HO_5 := n0_; have BK274 := n1_; have BK290 := n2_; have HL295_0 := n3_; have BK297 := n4_; have HL298_0 := n5_; have BK300 := n6_; have HB := n7_; have HI278 := n8_; clear n0_ n1_ n2_ n3_ n4_ n5_ n6_ n7_ n8_; (try clear hb); (try clear hb2); (try clear hk); (try clear hi)))
    have n0_ := Aside0.mk (Kd.S_drew HO_5.out)
    have n1_ := Aside0.mk (Kd.R_drew HL295_0.out)
    have n2_ := Aside0.mk (Kd.R_drew HL298_0.out)
    have n3_ := Aside0.mk (blk_drew BK274.out)
    have n4_ := Aside0.mk (blk_drew BK290.out)
    have n5_ := Aside0.mk (blk_drew BK297.out)
    have n6_ := Aside0.mk (blk_drew BK300.out)
    have n7_ := Aside0.mk (IsS157.drew HI278.out)
    have n8_ := Aside0.mk (below_drew1 HB.out)
    clear HO_5
    clear HL295_0
    clear HL298_0
    clear BK274
    clear BK290
    clear BK297
    clear BK300
    clear HI278
    clear HB
    have HO_5 := n0_
    have HL295_0 := n1_
    have HL298_0 := n2_
    have BK274 := n3_
    have BK290 := n4_
    have BK297 := n5_
    have BK300 := n6_
    have HI278 := n7_
    have HB := n8_
    clear n0_ n1_ n2_ n3_ n4_ n5_ n6_ n7_ n8_
    refine start_ (n := 4) (S := fun w' => w'.cell? ⟨gb290, 0, none⟩ = some (.int .i64 (wrap64 (Int.tdiv (wrap64 (((rd_T28 ((rd_T65 t279 0).f0) 0).f0) + ((rd_T28 ((rd_T65 t279 0).f0) 1).f0))) 2))) ∧ w'.cell? ⟨gb290, 1, none⟩ = some (.int .i64 (wrap64 (Int.tdiv (wrap64 (((rd_T28 ((rd_T65 t279 0).f0) 0).f1) + ((rd_T28 ((rd_T65 t279 0).f0) 1).f1))) 2)))) (ds := []) #[false, false, false, false] (by kernel_rfl) rfl rfl ⟨(blk_cell BK290.out 0).trans rfl, (blk_cell BK290.out 1).trans rfl⟩ (fun hHeld => ?_)
    generalize w72.drew = w73 at HO_5 HL295_0 HL298_0 BK274 BK290 BK297 BK300 HI278 HB hHeld ⊢
    refine pure_ (i := 0) (N := some 66) (v := ?_) (a' := ?_) #[true, false, false, false] rfl rfl (by kernel_rfl) (fun _ _ _ h => h) (Or.inl ⟨by rfl, ?_⟩) ?_ ?_
    rotate_left
    ·intro w'
     go_simp
     with_reducible rfl
    rotate_left
    ·simp only [Act.put, List.setIfInBounds_toArray, List.set_cons_zero, List.set_cons_succ, i64_w, i32_w]
     rfl
    refine pure_ (i := 2) (N := some 2) (v := ?_) (a' := ?_) #[true, false, true, false] rfl rfl (by kernel_rfl) (fun _ _ _ h => h) (Or.inl ⟨by rfl, ?_⟩) ?_ ?_
    rotate_left
    ·intro w'
     go_simp
     with_reducible rfl
    rotate_left
    ·simp only [Act.put, List.setIfInBounds_toArray, List.set_cons_zero, List.set_cons_succ, i64_w, i32_w]
     rfl
    refine take_ (i := 1) (N := some 67) (v := ?_) (a' := ?_) #[true, true, true, false] rfl rfl (by kernel_rfl) (fun _ _ _ h => h) (Or.inl ⟨by rfl, ?_⟩) hHeld ?_ ?_
    rotate_left
    ·rintro w' ⟨s0, s1⟩
     go_simp
     with_reducible rfl
    rotate_left
    ·simp only [Act.put, List.setIfInBounds_toArray, List.set_cons_zero, List.set_cons_succ, i64_w, i32_w]
     rfl
    refine one_ (i := 3) (N := none) #[true, true, true, true] rfl rfl (by kernel_rfl) (by decide) (fun K hK => ?_)
    have hs74 : w73.cell? ⟨gb274, 0, none⟩ = some (.int .i64 0) := (blk_cell BK274.out 0).trans rfl
    have hfs74 := blk_frozen BK274.out 0
    have hns74_1 := NB290_274.out
    have hns74_2 := NB297_274.out
    have hns74_3 := NB300_274.out
    have hms74_1 := NB274_290.out
    have hms74_2 := NB274_297.out
    have hms74_3 := NB274_300.out
    have hs75 : w73.cell? ⟨gb274, 1, none⟩ = some (.int .i64 0) := (blk_cell BK274.out 1).trans rfl
    have hfs75 := blk_frozen BK274.out 1
    have hns75_1 := NB290_274.out
    have hns75_2 := NB297_274.out
    have hns75_3 := NB300_274.out
    have hms75_1 := NB274_290.out
    have hms75_2 := NB274_297.out
    have hms75_3 := NB274_300.out
    refine skip_ (w1 := ?_) (by rfl) rfl ?_ ?_
    rotate_left
    ·go_simp
     rfl
    refine hK.out _ _ ⟨((cell_far (p := ⟨gb274, _, none⟩) NB290_274.out _).trans (((cell_far (p := ⟨gb274, _, none⟩) NB290_274.out _).trans (hHeld.1)))), ((cell_far (p := ⟨gb274, _, none⟩) NB290_274.out _).trans (((cell_far (p := ⟨gb274, _, none⟩) NB290_274.out _).trans (hHeld.2))))⟩ (fun hHeld => ?_)
    clear hK K
    refine done_ (by kernel_rfl) ?_
    try go_wp2
    refine bodyPost_ret (results_tc rfl _ _ gb274 28 #[.int .i64 (wrap64 (Int.tdiv (wrap64 (((rd_T28 ((rd_T65 t279 0).f0) 0).f0) + ((rd_T28 ((rd_T65 t279 0).f0) 1).f0))) 2)), .int .i64 (wrap64 (Int.tdiv (wrap64 (((rd_T28 ((rd_T65 t279 0).f0) 0).f1) + ((rd_T28 ((rd_T65 t279 0).f0) 1).f1))) 2))] (0, 0) _ rfl (by (with_reducible repeat (first | refine blk_drewN ?_ _ | refine blk_drew ?_ | refine blk_alloc ?_ _)); refine blk_put (cs := #[.int .i64 (wrap64 (Int.tdiv (wrap64 (((rd_T28 ((rd_T65 t279 0).f0) 0).f0) + ((rd_T28 ((rd_T65 t279 0).f0) 1).f0))) 2)), .int .i64 0]) ?_ 1 _ rfl; (with_reducible repeat (first | refine blk_drewN ?_ _ | refine blk_drew ?_ | refine blk_alloc ?_ _)); refine blk_put (cs := #[.int .i64 0, .int .i64 0]) ?_ 0 _ rfl; (with_reducible repeat (first | refine blk_drewN ?_ _ | refine blk_drew ?_ | refine blk_alloc ?_ _)); exact BK274.out) Try.underlying28 rfl (by kernel_rfl)) rfl ?_
    exact ⟨_, by first | rfl | (simp [errW_none, errW_some] <;> rfl) | (simp [*, errW_none, errW_some] <;> rfl), by (with_reducible repeat (first | apply Kd.S_alloc | apply Kd.S_drewN | apply Kd.S_drew)); exact Kd.S_mono (Kd.S_far (p := ⟨gb274, 1, none⟩) (Kd.S_far (p := ⟨gb274, 0, none⟩) (Kd.S_mono HO_5.out (fun k_ hk => (⟨hk, hk.1.1⟩ : _ ∧ k_ ≠ gb274))) (fun _ hk => hk.2) (.int .i64 (wrap64 (Int.tdiv (wrap64 (((rd_T28 ((rd_T65 t279 0).f0) 0).f0) + ((rd_T28 ((rd_T65 t279 0).f0) 1).f0))) 2)))) (fun _ hk => hk.2) (.int .i64 (wrap64 (Int.tdiv (wrap64 (((rd_T28 ((rd_T65 t279 0).f0) 0).f1) + ((rd_T28 ((rd_T65 t279 0).f0) 1).f1))) 2)))) (fun _ hk => trivial), by repeat (first | (with_reducible first | exact HB.out | apply below_alloc | apply pw_below_drewN | apply below_drew1 | refine below_set ?_ (IsS157.ge HI278.out) | refine below_set ?_ GE274.out | refine below_set ?_ GE290.out | refine below_set ?_ GE297.out | refine below_set ?_ GE300.out) | exact HB.out)⟩
   subst c30
   have H1 : (some (t279, (-100), (rd_T28 ((rd_T65 t279 0).f0) 0).f1)) = some (r1, r2, r3) := by rw [if_pos rfl] at H; exact H
   clear H
   have H := H1
   clear H1
   simp only [Option.some.injEq, Prod.mk.injEq] at H
   obtain ⟨rfl, rfl, rfl⟩ := H
   obtain ⟨Ao31, co31, eo31⟩ := Kd.S_slice HO_5.out
   subst eo31
   have p295 : 0 ≤ (0 : Int) := (by omega)
   have q295 : 0 < (t279.length : Int) := of_decide_eq_true (by first | (with_reducible assumption) | assumption)
   obtain ⟨ad295, A295_0, c295_0, e295, hx295_0, hx295_1, hl295_0, hi295_0⟩ := at_T65 (Kd.S_reads' HO_5.out).2.2 0 p295 q295
   cases e295
   obtain ⟨ce295, hce295, hMe295, hcc295⟩ := Kd.S_get HO_5.out z65 0 p295 (by first | exact q295 | exact of_decide_eq_true (by first | (with_reducible assumption) | assumption) | (have e_ := (Kd.S_reads' HO_5.out).1; omega))
   obtain ⟨ve295_0, rfl, ge295_0⟩ := k65_openM hMe295
   have hv295_0 := hcc295 0 _ rfl
   rw [Nat.add_zero] at hv295_0
   replace hv295_0 := Option.some.inj (hv295_0.symm.trans hx295_0)
   rw [hv295_0] at ge295_0
   have HL295_0 := Aside0.mk (show Kd.R k28 28 _ _ _ _ ((rd_T65 t279 0).f0) from ge295_0)
   clear hv295_0 ge295_0
   clear hcc295 hce295
   have qi295 : (0 < t279.length) = True := eq_true (by omega)
   (try rw [show ((0 : Int)).toNat = 0 from rfl] at hx295_0)
   (try rw [show 0 * 2 = 0 from rfl] at hx295_0)
   (try rw [Addr.add_zero'] at hx295_0)
   (try rw [show ((0 : Int)).toNat = 0 from rfl] at hx295_1)
   (try rw [show 0 * 2 = 0 from rfl] at hx295_1)
   (try rw [Addr.add_zero'] at hx295_1)
   have HR295_0 := Aside0.mk hi295_0
   have HC295_0 := Aside0.mk hl295_0
   clear hi295_0 hl295_0
   replace p295 := eq_true p295
   replace q295 := eq_true q295
   have p296 : 0 ≤ (0 : Int) := (by omega)
   have q296 : 0 < (((rd_T65 t279 0).f0).length : Int) := of_decide_eq_true (by first | (with_reducible assumption) | assumption)
   obtain ⟨ad296, e296, hx296_0, hx296_1⟩ := at_T28 (by repeat (first | (with_reducible exact HR295_0.out) | (with_reducible refine Kd.C_alloc ?_ _) | (with_reducible refine Kd.C_drewN ?_ _) | (with_reducible refine Kd.C_drew ?_) | exact HR295_0.out | exact (Kd.R_reads' HL295_0.out).2.2)) 0 p296 q296
   cases e296
   have qi296 : (0 < ((rd_T65 t279 0).f0).length) = True := eq_true (by omega)
   (try rw [show ((0 : Int)).toNat = 0 from rfl] at hx296_0)
   (try rw [show 0 * 2 = 0 from rfl] at hx296_0)
   (try rw [Addr.add_zero'] at hx296_0)
   (try rw [show ((0 : Int)).toNat = 0 from rfl] at hx296_1)
   (try rw [show 0 * 2 = 0 from rfl] at hx296_1)
   (try rw [Addr.add_zero'] at hx296_1)
   replace p296 := eq_true p296
   replace q296 := eq_true q296
   try go_wp2_with (first | ((with_reducible refine gate_dst (N := 7) rfl ?_); (try (refine gate_guard (by rfl) ?_; dsimp only)); refine box_event ?hg (N := 7) ?hd (cs := #[.int .i64 0, .int .i64 0]) (t := 28) ?hr ?_; (case hd => rfl); (case hg => rfl); (case hr => first | (go_simp; done) | (go_simp; rfl)); intro gb297 hg w32 hbox hb; have n0_ := Aside0.mk (Kd.S_below (Kd.S_elderB (by (with_reducible repeat (first | apply Kd.S_alloc | apply Kd.S_drewN | apply Kd.S_drew)); exact HO_5.out) gb297 (Nat.le_of_eq hg.symm)) hb); have n1_ := Aside0.mk (Kd.R_below (Kd.R_elderB (by (with_reducible repeat (first | apply Kd.R_alloc | apply Kd.R_drewN | apply Kd.R_drew)); exact HL295_0.out) gb297 (Nat.le_of_eq hg.symm)) hb); have n2_ := Aside0.mk (blk_below (g := gb274) (o := .cells #[.int .i64 0, .int .i64 0] 28 (0, 0)) (by (with_reducible repeat (first | refine blk_drewN ?_ _ | refine blk_drew ?_ | refine blk_alloc ?_ _)); exact BK274.out) hb); have n3_ := Aside0.mk (blk_below (g := gb290) (o := .cells #[.int .i64 (wrap64 (t284 - 60)), .int .i64 (wrap64 (t287 - 60))] 28 (0, 0)) (by (with_reducible repeat (first | refine blk_drewN ?_ _ | refine blk_drew ?_ | refine blk_alloc ?_ _)); exact BK290.out) hb); have n4_ := Aside0.mk (IsS157.below (by repeat (first | (with_reducible first | exact HI278.out | apply IsS157.alloc | apply IsS157.drewN | apply IsS157.drew | apply IsS157.set_1 | apply IsS157.set_2 | refine IsS157.far ?_ NB278_274.out _ | refine IsS157.far ?_ NB278_290.out _) | exact HI278.out)) hb); have n5_ := Aside0.mk (Kd.C_below (by repeat (first | (with_reducible exact HR295_0.out) | (with_reducible refine Kd.C_alloc ?_ _) | (with_reducible refine Kd.C_drewN ?_ _) | (with_reducible refine Kd.C_drew ?_) | exact HR295_0.out | exact (Kd.R_reads' HL295_0.out).2.2)) hb); have n6_ := Aside0.mk (below_step (by repeat (first | (with_reducible first | exact HB.out | apply below_alloc | apply pw_below_drewN | apply below_drew1 | refine below_set ?_ (IsS157.ge HI278.out) | refine below_set ?_ GE274.out | refine below_set ?_ GE290.out) | exact HB.out)) hb); have n7_ := Aside0.mk (hbox); have n8_ := Aside0.mk ((by rw [hg]; exact (below_size (by repeat (first | (with_reducible first | exact HB.out | apply below_alloc | apply pw_below_drewN | apply below_drew1 | refine below_set ?_ (IsS157.ge HI278.out) | refine below_set ?_ GE274.out | refine below_set ?_ GE290.out) | exact HB.out))) : w.heap.size ≤ gb297)); have n9_ := Aside0.mk ((by rw [hg]; exact (below_size (by repeat (first | (with_reducible first | exact HB.out | apply below_alloc | apply pw_below_drewN | apply below_drew1 | refine below_set ?_ (IsS157.ge HI278.out) | refine below_set ?_ GE274.out | refine below_set ?_ GE290.out) | exact HB.out))) : w.heap.size ≤ gb297)); have n10_ := Aside0.mk ((by rw [hg]; exact Nat.ne_of_lt (blk_lt (g := gb274) (o := .cells #[.int .i64 0, .int .i64 0] 28 (0, 0)) (by (with_reducible repeat (first | refine blk_drewN ?_ _ | refine blk_drew ?_ | refine blk_alloc ?_ _)); exact BK274.out)) : gb274 ≠ gb297)); have n11_ := Aside0.mk ((by rw [hg]; exact Nat.ne_of_gt (blk_lt (g := gb274) (o := .cells #[.int .i64 0, .int .i64 0] 28 (0, 0)) (by (with_reducible repeat (first | refine blk_drewN ?_ _ | refine blk_drew ?_ | refine blk_alloc ?_ _)); exact BK274.out)) : gb297 ≠ gb274)); have n12_ := Aside0.mk ((by rw [hg]; exact Nat.ne_of_lt (blk_lt (g := gb290) (o := .cells #[.int .i64 (wrap64 (t284 - 60)), .int .i64 (wrap64 (t287 - 60))] 28 (0, 0)) (by (with_reducible repeat (first | refine blk_drewN ?_ _ | refine blk_drew ?_ | refine blk_alloc ?_ _)); exact BK290.out)) : gb290 ≠ gb297)); have n13_ := Aside0.mk ((by rw [hg]; exact Nat.ne_of_gt (blk_lt (g := gb290) (o := .cells #[.int .i64 (wrap64 (t284 - 60)), .int .i64 (wrap64 (t287 - 60))] 28 (0, 0)) (by (with_reducible repeat (first | refine blk_drewN ?_ _ | refine blk_drew ?_ | refine blk_alloc ?_ _)); exact BK290.out)) : gb297 ≠ gb290)); have n14_ := Aside0.mk ((by rw [hg]; exact Nat.ne_of_lt (IsS157.lt (show IsS157 w _ g278 t275 x279001_5 x279002_5 from by repeat (first | (with_reducible first | exact HI278.out | apply IsS157.alloc | apply IsS157.drewN | apply IsS157.drew | apply IsS157.set_1 | apply IsS157.set_2 | refine IsS157.far ?_ NB278_274.out _ | refine IsS157.far ?_ NB278_290.out _) | exact HI278.out))) : g278 ≠ gb297)); have n15_ := Aside0.mk ((by rw [hg]; exact Nat.ne_of_gt (IsS157.lt (show IsS157 w _ g278 t275 x279001_5 x279002_5 from by repeat (first | (with_reducible first | exact HI278.out | apply IsS157.alloc | apply IsS157.drewN | apply IsS157.drew | apply IsS157.set_1 | apply IsS157.set_2 | refine IsS157.far ?_ NB278_274.out _ | refine IsS157.far ?_ NB278_290.out _) | exact HI278.out))) : gb297 ≠ g278)); clear HO_5; clear HL295_0; clear BK274; clear BK290; clear HI278; clear HR295_0; clear HB; have HO_5 := n0_; have HL295_0 := n1_; have BK274 := n2_; have BK290 := n3_; have HI278 := n4_; have HR295_0 := n5_; have HB := n6_; have BK297 := n7_; have GW297 := n8_; have GE297 := n9_; have NB274_297 := n10_; have NB297_274 := n11_; have NB290_297 := n12_; have NB297_290 := n13_; have NB278_297 := n14_; have NB297_278 := n15_; clear n0_ n1_ n2_ n3_ n4_ n5_ n6_ n7_ n8_ n9_ n10_ n11_ n12_ n13_ n14_ n15_; clear hb hbox hg; have hnb33 := NB297_274.out; have hnc33 := NB274_297.out; have hnb34 := NB297_290.out; have hnc34 := NB290_297.out; have hnb35 := NB297_278.out; have hnc35 := NB278_297.out; have hcz36_0 : w32.cell? ⟨gb297, 0, none⟩ = some (.int .i64 0) := (blk_cell BK297.out 0).trans rfl; have hcz36_1 : w32.cell? ⟨gb297, 1, none⟩ = some (.int .i64 0) := (blk_cell BK297.out 1).trans rfl; have hfz36_0 := blk_frozen BK297.out 0; have hfz36_1 := blk_frozen BK297.out 1) | ((with_reducible refine gate_store (t := 28) (p := 7) rfl ?_); refine store_event (t := 28) (p := 7) (v := ?vo_w37) (w1 := ((w32.setCell ⟨gb297, 0, none⟩ (.int .i64 ((rd_T28 ((rd_T65 t279 0).f0) 0).f0))).setCell ⟨gb297, 1, none⟩ (.int .i64 ((rd_T28 ((rd_T65 t279 0).f0) 0).f1)))) ?hg ?ho ?hn ?hr ?_; (case ho => rfl); (case hg => rfl); (case hn => rfl); (case hr => first | (go_simp; done) | (go_simp; rfl)); intro w37 hw; have n0_ : Aside0 (Kd.S k65 65 w37 w.heap.size (fun k_ => k_ ≠ gb274 ∧ k_ ≠ gb290 ∧ k_ ≠ gb297) (.slice (some ad295) t279.length co31) t279) := ⟨(by rw [hw]; exact (by (with_reducible repeat (first | apply Kd.S_alloc | apply Kd.S_drewN | apply Kd.S_drew)); exact Kd.S_mono (Kd.S_far (p := ⟨gb297, 1, none⟩) (Kd.S_far (p := ⟨gb297, 0, none⟩) (Kd.S_mono HO_5.out (fun k_ hk => (⟨hk, hk.2⟩ : _ ∧ k_ ≠ gb297))) (fun _ hk => hk.2) (.int .i64 ((rd_T28 ((rd_T65 t279 0).f0) 0).f0))) (fun _ hk => hk.2) (.int .i64 ((rd_T28 ((rd_T65 t279 0).f0) 0).f1))) (fun _ hk => ⟨hk.1.1.1, ⟨hk.1.1.2, hk.1.2⟩⟩)))⟩; have n1_ : Aside0 (Kd.R k28 28 w37 w.heap.size (fun k_ => some k_ ≠ (.slice (some ad295) t279.length co31 : Value).ownBlock ∧ k_ ≠ gb274 ∧ k_ ≠ gb290 ∧ k_ ≠ gb297) (.slice (some ad296) ((rd_T65 t279 0).f0).length c295_0) ((rd_T65 t279 0).f0)) := ⟨(by rw [hw]; exact (by (with_reducible repeat (first | apply Kd.R_alloc | apply Kd.R_drewN | apply Kd.R_drew)); exact Kd.R_mono (Kd.R_far (p := ⟨gb297, 1, none⟩) (Kd.R_far (p := ⟨gb297, 0, none⟩) (Kd.R_mono HL295_0.out (fun k_ hk => (⟨hk, hk.2⟩ : _ ∧ k_ ≠ gb297))) (fun _ hk => hk.2) (.int .i64 ((rd_T28 ((rd_T65 t279 0).f0) 0).f0))) (fun _ hk => hk.2) (.int .i64 ((rd_T28 ((rd_T65 t279 0).f0) 0).f1))) (fun _ hk => ⟨hk.1.1.2, ⟨hk.1.1.1.1, ⟨hk.1.1.1.2, hk.1.2⟩⟩⟩)))⟩; have n2_ : Aside0 (w37.heap[gb274]? = some (.cells #[.int .i64 0, .int .i64 0] 28 (0, 0))) := ⟨(by rw [hw]; exact (by (with_reducible repeat (first | refine blk_drewN ?_ _ | refine blk_drew ?_ | refine blk_alloc ?_ _)); refine blk_far ?_ NB274_297.out _; (with_reducible repeat (first | refine blk_drewN ?_ _ | refine blk_drew ?_ | refine blk_alloc ?_ _)); refine blk_far ?_ NB274_297.out _; (with_reducible repeat (first | refine blk_drewN ?_ _ | refine blk_drew ?_ | refine blk_alloc ?_ _)); exact BK274.out))⟩; have n3_ : Aside0 (w37.heap[gb290]? = some (.cells #[.int .i64 (wrap64 (t284 - 60)), .int .i64 (wrap64 (t287 - 60))] 28 (0, 0))) := ⟨(by rw [hw]; exact (by (with_reducible repeat (first | refine blk_drewN ?_ _ | refine blk_drew ?_ | refine blk_alloc ?_ _)); refine blk_far ?_ NB290_297.out _; (with_reducible repeat (first | refine blk_drewN ?_ _ | refine blk_drew ?_ | refine blk_alloc ?_ _)); refine blk_far ?_ NB290_297.out _; (with_reducible repeat (first | refine blk_drewN ?_ _ | refine blk_drew ?_ | refine blk_alloc ?_ _)); exact BK290.out))⟩; have n4_ : Aside0 (w37.heap[gb297]? = some (.cells #[.int .i64 ((rd_T28 ((rd_T65 t279 0).f0) 0).f0), .int .i64 ((rd_T28 ((rd_T65 t279 0).f0) 0).f1)] 28 (0, 0))) := ⟨(by rw [hw]; exact (by (with_reducible repeat (first | refine blk_drewN ?_ _ | refine blk_drew ?_ | refine blk_alloc ?_ _)); refine blk_put (cs := #[.int .i64 ((rd_T28 ((rd_T65 t279 0).f0) 0).f0), .int .i64 0]) ?_ 1 _ rfl; (with_reducible repeat (first | refine blk_drewN ?_ _ | refine blk_drew ?_ | refine blk_alloc ?_ _)); refine blk_put (cs := #[.int .i64 0, .int .i64 0]) ?_ 0 _ rfl; (with_reducible repeat (first | refine blk_drewN ?_ _ | refine blk_drew ?_ | refine blk_alloc ?_ _)); exact BK297.out))⟩; have n5_ : Aside0 (IsS157 w w37 g278 t275 x279001_5 x279002_5) := ⟨(by rw [hw]; exact (by repeat (first | (with_reducible first | exact HI278.out | apply IsS157.alloc | apply IsS157.drewN | apply IsS157.drew | apply IsS157.set_1 | apply IsS157.set_2 | refine IsS157.far ?_ NB278_274.out _ | refine IsS157.far ?_ NB278_290.out _ | refine IsS157.far ?_ NB278_297.out _) | exact HI278.out)))⟩; have n6_ : Aside0 (Below w.heap.size w w37) := ⟨(by rw [hw]; exact (by repeat (first | (with_reducible first | exact HB.out | apply below_alloc | apply pw_below_drewN | apply below_drew1 | refine below_set ?_ (IsS157.ge HI278.out) | refine below_set ?_ GE274.out | refine below_set ?_ GE290.out | refine below_set ?_ GE297.out) | exact HB.out)))⟩; clear hw; clear HO_5; clear HL295_0; clear BK274; clear BK290; clear BK297; clear HI278; clear HB; have HO_5 := n0_; have HL295_0 := n1_; have BK274 := n2_; have BK290 := n3_; have BK297 := n4_; have HI278 := n5_; have HB := n6_; clear n0_ n1_ n2_ n3_ n4_ n5_ n6_; have p298 : 0 ≤ (0 : Int) := (by omega); have q298 : 0 < (t279.length : Int) := of_decide_eq_true (by first | (with_reducible assumption) | assumption); obtain ⟨ad298, A298_0, c298_0, e298, hx298_0, hx298_1, hl298_0, hi298_0⟩ := at_T65 (Kd.S_reads' HO_5.out).2.2 0 p298 q298; obtain rfl : ad295 = ad298 := (by injection e298); obtain ⟨ce298, hce298, hMe298, hcc298⟩ := Kd.S_get HO_5.out z65 0 p298 (by first | exact q298 | exact of_decide_eq_true (by first | (with_reducible assumption) | assumption) | (have e_ := (Kd.S_reads' HO_5.out).1; omega)); obtain ⟨ve298_0, rfl, ge298_0⟩ := k65_openM hMe298; have hv298_0 := hcc298 0 _ rfl; rw [Nat.add_zero] at hv298_0; replace hv298_0 := Option.some.inj (hv298_0.symm.trans hx298_0); rw [hv298_0] at ge298_0; have HL298_0 := Aside0.mk (show Kd.R k28 28 _ _ _ _ ((rd_T65 t279 0).f0) from ge298_0); clear hv298_0 ge298_0; clear hcc298 hce298; have qi298 : (0 < t279.length) = True := eq_true (by omega); (try rw [show ((0 : Int)).toNat = 0 from rfl] at hx298_0); (try rw [show 0 * 2 = 0 from rfl] at hx298_0); (try rw [Addr.add_zero'] at hx298_0); (try rw [show ((0 : Int)).toNat = 0 from rfl] at hx298_1); (try rw [show 0 * 2 = 0 from rfl] at hx298_1); (try rw [Addr.add_zero'] at hx298_1); have HR298_0 := Aside0.mk hi298_0; have HC298_0 := Aside0.mk hl298_0; clear hi298_0 hl298_0; replace p298 := eq_true p298; replace q298 := eq_true q298; have p299 : 0 ≤ (1 : Int) := (by omega); have q299 : 1 < (((rd_T65 t279 0).f0).length : Int) := of_decide_eq_true (by first | (with_reducible assumption) | assumption); obtain ⟨ad299, e299, hx299_0, hx299_1⟩ := at_T28 (by repeat (first | (with_reducible exact HR298_0.out) | (with_reducible refine Kd.C_alloc ?_ _) | (with_reducible refine Kd.C_drewN ?_ _) | (with_reducible refine Kd.C_drew ?_) | exact HR298_0.out | exact (Kd.R_reads' HL298_0.out).2.2)) 1 p299 q299; cases e299; (try simp only [show (1 : Int).toNat = 1 from rfl, Nat.reduceMul, Nat.reduceEqDiff, Go.Addr.add, ↓reduceIte] at hx299_0); (try simp only [show (1 : Int).toNat = 1 from rfl, Nat.reduceMul, Nat.reduceEqDiff, Go.Addr.add, ↓reduceIte] at hx299_1); have qi299 : (1 < ((rd_T65 t279 0).f0).length) = True := eq_true (by omega); (try rw [show ((1 : Int)).toNat = 1 from rfl] at hx299_0); (try rw [show 1 * 2 = 2 from rfl] at hx299_0); (try rw [show ((1 : Int)).toNat = 1 from rfl] at hx299_1); (try rw [show 1 * 2 = 2 from rfl] at hx299_1); replace p299 := eq_true p299; replace q299 := eq_true q299) | ((with_reducible refine gate_dst (N := 8) rfl ?_); (try (refine gate_guard (by rfl) ?_; dsimp only)); refine box_event ?hg (N := 8) ?hd (cs := #[.int .i64 0, .int .i64 0]) (t := 28) ?hr ?_; (case hd => rfl); (case hg => rfl); (case hr => first | (go_simp; done) | (go_simp; rfl)); intro gb300 hg w38 hbox hb; have n0_ := Aside0.mk (Kd.S_below (Kd.S_elderB (by (with_reducible repeat (first | apply Kd.S_alloc | apply Kd.S_drewN | apply Kd.S_drew)); exact HO_5.out) gb300 (Nat.le_of_eq hg.symm)) hb); have n1_ := Aside0.mk (Kd.R_below (Kd.R_elderB (by (with_reducible repeat (first | apply Kd.R_alloc | apply Kd.R_drewN | apply Kd.R_drew)); exact HL295_0.out) gb300 (Nat.le_of_eq hg.symm)) hb); have n2_ := Aside0.mk (Kd.R_below (Kd.R_elderB (by (with_reducible repeat (first | apply Kd.R_alloc | apply Kd.R_drewN | apply Kd.R_drew)); exact HL298_0.out) gb300 (Nat.le_of_eq hg.symm)) hb); have n3_ := Aside0.mk (blk_below (g := gb274) (o := .cells #[.int .i64 0, .int .i64 0] 28 (0, 0)) (by (with_reducible repeat (first | refine blk_drewN ?_ _ | refine blk_drew ?_ | refine blk_alloc ?_ _)); exact BK274.out) hb); have n4_ := Aside0.mk (blk_below (g := gb290) (o := .cells #[.int .i64 (wrap64 (t284 - 60)), .int .i64 (wrap64 (t287 - 60))] 28 (0, 0)) (by (with_reducible repeat (first | refine blk_drewN ?_ _ | refine blk_drew ?_ | refine blk_alloc ?_ _)); exact BK290.out) hb); have n5_ := Aside0.mk (IsS157.below (by repeat (first | (with_reducible first | exact HI278.out | apply IsS157.alloc | apply IsS157.drewN | apply IsS157.drew | apply IsS157.set_1 | apply IsS157.set_2 | refine IsS157.far ?_ NB278_274.out _ | refine IsS157.far ?_ NB278_290.out _ | refine IsS157.far ?_ NB278_297.out _) | exact HI278.out)) hb); have n6_ := Aside0.mk (Kd.C_below (by repeat (first | (with_reducible exact HR295_0.out) | (with_reducible refine Kd.C_alloc ?_ _) | (with_reducible refine Kd.C_drewN ?_ _) | (with_reducible refine Kd.C_drew ?_) | exact HR295_0.out | exact (Kd.R_reads' HL295_0.out).2.2)) hb); have n7_ := Aside0.mk (blk_below (g := gb297) (o := .cells #[.int .i64 ((rd_T28 ((rd_T65 t279 0).f0) 0).f0), .int .i64 ((rd_T28 ((rd_T65 t279 0).f0) 0).f1)] 28 (0, 0)) (by (with_reducible repeat (first | refine blk_drewN ?_ _ | refine blk_drew ?_ | refine blk_alloc ?_ _)); exact BK297.out) hb); have n8_ := Aside0.mk (Kd.C_below (by repeat (first | (with_reducible exact HR298_0.out) | (with_reducible refine Kd.C_alloc ?_ _) | (with_reducible refine Kd.C_drewN ?_ _) | (with_reducible refine Kd.C_drew ?_) | exact HR298_0.out | exact (Kd.R_reads' HL298_0.out).2.2)) hb); have n9_ := Aside0.mk (below_step (by repeat (first | (with_reducible first | exact HB.out | apply below_alloc | apply pw_below_drewN | apply below_drew1 | refine below_set ?_ (IsS157.ge HI278.out) | refine below_set ?_ GE274.out | refine below_set ?_ GE290.out | refine below_set ?_ GE297.out) | exact HB.out)) hb); have n10_ := Aside0.mk (hbox); have n11_ := Aside0.mk ((by rw [hg]; exact (below_size (by repeat (first | (with_reducible first | exact HB.out | apply below_alloc | apply pw_below_drewN | apply below_drew1 | refine below_set ?_ (IsS157.ge HI278.out) | refine below_set ?_ GE274.out | refine below_set ?_ GE290.out | refine below_set ?_ GE297.out) | exact HB.out))) : w.heap.size ≤ gb300)); have n12_ := Aside0.mk ((by rw [hg]; exact (below_size (by repeat (first | (with_reducible first | exact HB.out | apply below_alloc | apply pw_below_drewN | apply below_drew1 | refine below_set ?_ (IsS157.ge HI278.out) | refine below_set ?_ GE274.out | refine below_set ?_ GE290.out | refine below_set ?_ GE297.out) | exact HB.out))) : w.heap.size ≤ gb300)); have n13_ := Aside0.mk ((by rw [hg]; exact Nat.ne_of_lt (blk_lt (g := gb274) (o := .cells #[.int .i64 0, .int .i64 0] 28 (0, 0)) (by (with_reducible repeat (first | refine blk_drewN ?_ _ | refine blk_drew ?_ | refine blk_alloc ?_ _)); exact BK274.out)) : gb274 ≠ gb300)); have n14_ := Aside0.mk ((by rw [hg]; exact Nat.ne_of_gt (blk_lt (g := gb274) (o := .cells #[.int .i64 0, .int .i64 0] 28 (0, 0)) (by (with_reducible repeat (first | refine blk_drewN ?_ _ | refine blk_drew ?_ | refine blk_alloc ?_ _)); exact BK274.out)) : gb300 ≠ gb274)); have n15_ := Aside0.mk ((by rw [hg]; exact Nat.ne_of_lt (blk_lt (g := gb290) (o := .cells #[.int .i64 (wrap64 (t284 - 60)), .int .i64 (wrap64 (t287 - 60))] 28 (0, 0)) (by (with_reducible repeat (first | refine blk_drewN ?_ _ | refine blk_drew ?_ | refine blk_alloc ?_ _)); exact BK290.out)) : gb290 ≠ gb300)); have n16_ := Aside0.mk ((by rw [hg]; exact Nat.ne_of_gt (blk_lt (g := gb290) (o := .cells #[.int .i64 (wrap64 (t284 - 60)), .int .i64 (wrap64 (t287 - 60))] 28 (0, 0)) (by (with_reducible repeat (first | refine blk_drewN ?_ _ | refine blk_drew ?_ | refine blk_alloc ?_ _)); exact BK290.out)) : gb300 ≠ gb290)); have n17_ := Aside0.mk ((by rw [hg]; exact Nat.ne_of_lt (blk_lt (g := gb297) (o := .cells #[.int .i64 ((rd_T28 ((rd_T65 t279 0).f0) 0).f0), .int .i64 ((rd_T28 ((rd_T65 t279 0).f0) 0).f1)] 28 (0, 0)) (by (with_reducible repeat (first | refine blk_drewN ?_ _ | refine blk_drew ?_ | refine blk_alloc ?_ _)); exact BK297.out)) : gb297 ≠ gb300)); have n18_ := Aside0.mk ((by rw [hg]; exact Nat.ne_of_gt (blk_lt (g := gb297) (o := .cells #[.int .i64 ((rd_T28 ((rd_T65 t279 0).f0) 0).f0), .int .i64 ((rd_T28 ((rd_T65 t279 0).f0) 0).f1)] 28 (0, 0)) (by (with_reducible repeat (first | refine blk_drewN ?_ _ | refine blk_drew ?_ | refine blk_alloc ?_ _)); exact BK297.out)) : gb300 ≠ gb297)); have n19_ := Aside0.mk ((by rw [hg]; exact Nat.ne_of_lt (IsS157.lt (show IsS157 w _ g278 t275 x279001_5 x279002_5 from by repeat (first | (with_reducible first | exact HI278.out | apply IsS157.alloc | apply IsS157.drewN | apply IsS157.drew | apply IsS157.set_1 | apply IsS157.set_2 | refine IsS157.far ?_ NB278_274.out _ | refine IsS157.far ?_ NB278_290.out _ | refine IsS157.far ?_ NB278_297.out _) | exact HI278.out))) : g278 ≠ gb300)); have n20_ := Aside0.mk ((by rw [hg]; exact Nat.ne_of_gt (IsS157.lt (show IsS157 w _ g278 t275 x279001_5 x279002_5 from by repeat (first | (with_reducible first | exact HI278.out | apply IsS157.alloc | apply IsS157.drewN | apply IsS157.drew | apply IsS157.set_1 | apply IsS157.set_2 | refine IsS157.far ?_ NB278_274.out _ | refine IsS157.far ?_ NB278_290.out _ | refine IsS157.far ?_ NB278_297.out _) | exact HI278.out))) : gb300 ≠ g278)); clear HO_5; clear HL295_0; clear HL298_0; clear BK274; clear BK290; clear HI278; clear HR295_0; clear BK297; clear HR298_0; clear HB; have HO_5 := n0_; have HL295_0 := n1_; have HL298_0 := n2_; have BK274 := n3_; have BK290 := n4_; have HI278 := n5_; have HR295_0 := n6_; have BK297 := n7_; have HR298_0 := n8_; have HB := n9_; have BK300 := n10_; have GW300 := n11_; have GE300 := n12_; have NB274_300 := n13_; have NB300_274 := n14_; have NB290_300 := n15_; have NB300_290 := n16_; have NB297_300 := n17_; have NB300_297 := n18_; have NB278_300 := n19_; have NB300_278 := n20_; clear n0_ n1_ n2_ n3_ n4_ n5_ n6_ n7_ n8_ n9_ n10_ n11_ n12_ n13_ n14_ n15_ n16_ n17_ n18_ n19_ n20_; clear hb hbox hg; have hnb39 := NB300_274.out; have hnc39 := NB274_300.out; have hnb40 := NB300_290.out; have hnc40 := NB290_300.out; have hnb41 := NB300_297.out; have hnc41 := NB297_300.out; have hnb42 := NB300_278.out; have hnc42 := NB278_300.out; have hcz43_0 : w38.cell? ⟨gb300, 0, none⟩ = some (.int .i64 0) := (blk_cell BK300.out 0).trans rfl; have hcz43_1 : w38.cell? ⟨gb300, 1, none⟩ = some (.int .i64 0) := (blk_cell BK300.out 1).trans rfl; have hfz43_0 := blk_frozen BK300.out 0; have hfz43_1 := blk_frozen BK300.out 1; have hcz44_0 : w38.cell? ⟨gb297, 0, none⟩ = some (.int .i64 ((rd_T28 ((rd_T65 t279 0).f0) 0).f0)) := (blk_cell BK297.out 0).trans rfl; have hcz44_1 : w38.cell? ⟨gb297, 1, none⟩ = some (.int .i64 ((rd_T28 ((rd_T65 t279 0).f0) 0).f1)) := (blk_cell BK297.out 1).trans rfl; have hfz44_0 := blk_frozen BK297.out 0; have hfz44_1 := blk_frozen BK297.out 1; have hnb45 := NB290_274.out; have hnc45 := NB274_290.out; have hnb46 := NB290_278.out; have hnc46 := NB278_290.out; have hcz47_0 : w38.cell? ⟨gb290, 0, none⟩ = some (.int .i64 (wrap64 (t284 - 60))) := (blk_cell BK290.out 0).trans rfl; have hcz47_1 : w38.cell? ⟨gb290, 1, none⟩ = some (.int .i64 (wrap64 (t287 - 60))) := (blk_cell BK290.out 1).trans rfl; have hfz47_0 := blk_frozen BK290.out 0; have hfz47_1 := blk_frozen BK290.out 1) | ((with_reducible refine gate_callee (f := 95) rfl ?_); refine goesL_ (some 61) rfl rfl Try.func95 (by kernel_rfl) rfl #[.pointer (some ⟨g278, 0, none⟩), .int .i64 3] rfl (by (try simp only [List.map_toArray, List.map_cons, List.map_nil]); first | done | rfl | (simp only [List.length_drop, List.length_take]; rfl)) ?_; (with_reducible refine (spec_l1Once.calls g278 t275 x279001_5 x279002_5 3 true t302 t303 w _ ?side1 ?side2 A29.out).mono ?_); (case side1 => repeat (first | (with_reducible first | exact HI278.out | apply IsS157.alloc | apply IsS157.drewN | apply IsS157.drew | apply IsS157.set_1 | apply IsS157.set_2 | refine IsS157.far ?_ NB278_274.out _ | refine IsS157.far ?_ NB278_290.out _ | refine IsS157.far ?_ NB278_297.out _ | refine IsS157.far ?_ NB278_300.out _) | exact HI278.out)); (case side2 => repeat (first | (with_reducible first | exact HB.out | apply below_alloc | apply pw_below_drewN | apply below_drew1 | refine below_set ?_ (IsS157.ge HI278.out) | refine below_set ?_ GE274.out | refine below_set ?_ GE290.out | refine below_set ?_ GE297.out | refine below_set ?_ GE300.out) | exact HB.out)); rintro e w48 ⟨rfl, hi, hb, hk⟩; refine ⟨_, rfl, ?_⟩; have n0_ := Aside0.mk (Kd.S_mono (Kd.S_keep (IsS157.apartS (show IsS157 w _ g278 t275 x279001_5 x279002_5 from by repeat (first | (with_reducible first | exact HI278.out | apply IsS157.alloc | apply IsS157.drewN | apply IsS157.drew | apply IsS157.set_1 | apply IsS157.set_2 | refine IsS157.far ?_ NB278_274.out _ | refine IsS157.far ?_ NB278_290.out _ | refine IsS157.far ?_ NB278_297.out _ | refine IsS157.far ?_ NB278_300.out _) | exact HI278.out)) (by (with_reducible repeat (first | apply Kd.S_alloc | apply Kd.S_drewN | apply Kd.S_drew)); exact (Kd.S_mono (Kd.S_mono (Kd.S_far (p := ⟨gb290, 1, none⟩) (Kd.S_far (p := ⟨gb290, 0, none⟩) (Kd.S_far (p := ⟨gb300, 1, none⟩) (Kd.S_far (p := ⟨gb300, 0, none⟩) (Kd.S_mono (Kd.S_mono HO_5.out (fun k_ hk => (⟨hk, hk.2⟩ : _ ∧ k_ ≠ gb300))) (fun k_ hk => (⟨hk, hk.1.1.2.1⟩ : _ ∧ k_ ≠ gb290))) (fun _ hk => hk.1.2) (.int .i64 ((rd_T28 ((rd_T65 t279 0).f0) 1).f0))) (fun _ hk => hk.1.2) (.int .i64 ((rd_T28 ((rd_T65 t279 0).f0) 1).f1))) (fun _ hk => hk.2) (.int .i64 (wrap64 (Int.tdiv (wrap64 (((rd_T28 ((rd_T65 t279 0).f0) 0).f0) + ((rd_T28 ((rd_T65 t279 0).f0) 1).f0))) 2)))) (fun _ hk => hk.2) (.int .i64 (wrap64 (Int.tdiv (wrap64 (((rd_T28 ((rd_T65 t279 0).f0) 0).f1) + ((rd_T28 ((rd_T65 t279 0).f0) 1).f1))) 2)))) (fun _ h_ => h_.1)) (fun _ h_ => h_.1))) (by decide)) hk (fun _ h => h.2)) (fun _ h => h.1)); have n1_ := Aside0.mk (KeepBut.blk hk (g' := gb274) (o := .cells #[.int .i64 0, .int .i64 0] 28 (0, 0)) (by (with_reducible repeat (first | refine blk_drewN ?_ _ | refine blk_drew ?_ | refine blk_alloc ?_ _)); refine blk_far ?_ NB274_290.out _; (with_reducible repeat (first | refine blk_drewN ?_ _ | refine blk_drew ?_ | refine blk_alloc ?_ _)); refine blk_far ?_ NB274_290.out _; (with_reducible repeat (first | refine blk_drewN ?_ _ | refine blk_drew ?_ | refine blk_alloc ?_ _)); refine blk_far ?_ NB274_300.out _; (with_reducible repeat (first | refine blk_drewN ?_ _ | refine blk_drew ?_ | refine blk_alloc ?_ _)); refine blk_far ?_ NB274_300.out _; (with_reducible repeat (first | refine blk_drewN ?_ _ | refine blk_drew ?_ | refine blk_alloc ?_ _)); exact BK274.out) NB274_278.out (by simp)); have n2_ := Aside0.mk (KeepBut.blk hk (g' := gb290) (o := .cells #[.int .i64 (wrap64 (Int.tdiv (wrap64 (((rd_T28 ((rd_T65 t279 0).f0) 0).f0) + ((rd_T28 ((rd_T65 t279 0).f0) 1).f0))) 2)), .int .i64 (wrap64 (Int.tdiv (wrap64 (((rd_T28 ((rd_T65 t279 0).f0) 0).f1) + ((rd_T28 ((rd_T65 t279 0).f0) 1).f1))) 2))] 28 (0, 0)) (by (with_reducible repeat (first | refine blk_drewN ?_ _ | refine blk_drew ?_ | refine blk_alloc ?_ _)); refine blk_put (cs := #[.int .i64 (wrap64 (Int.tdiv (wrap64 (((rd_T28 ((rd_T65 t279 0).f0) 0).f0) + ((rd_T28 ((rd_T65 t279 0).f0) 1).f0))) 2)), .int .i64 (wrap64 (t287 - 60))]) ?_ 1 _ rfl; (with_reducible repeat (first | refine blk_drewN ?_ _ | refine blk_drew ?_ | refine blk_alloc ?_ _)); refine blk_put (cs := #[.int .i64 (wrap64 (t284 - 60)), .int .i64 (wrap64 (t287 - 60))]) ?_ 0 _ rfl; (with_reducible repeat (first | refine blk_drewN ?_ _ | refine blk_drew ?_ | refine blk_alloc ?_ _)); refine blk_far ?_ NB290_300.out _; (with_reducible repeat (first | refine blk_drewN ?_ _ | refine blk_drew ?_ | refine blk_alloc ?_ _)); refine blk_far ?_ NB290_300.out _; (with_reducible repeat (first | refine blk_drewN ?_ _ | refine blk_drew ?_ | refine blk_alloc ?_ _)); exact BK290.out) NB290_278.out (by simp)); have n3_ := Aside0.mk (Kd.R_mono (Kd.R_keep (IsS157.apart (show IsS157 w _ g278 t275 x279001_5 x279002_5 from by repeat (first | (with_reducible first | exact HI278.out | apply IsS157.alloc | apply IsS157.drewN | apply IsS157.drew | apply IsS157.set_1 | apply IsS157.set_2 | refine IsS157.far ?_ NB278_274.out _ | refine IsS157.far ?_ NB278_290.out _ | refine IsS157.far ?_ NB278_297.out _ | refine IsS157.far ?_ NB278_300.out _) | exact HI278.out)) (by (with_reducible repeat (first | apply Kd.R_alloc | apply Kd.R_drewN | apply Kd.R_drew)); exact (Kd.R_mono (Kd.R_mono (Kd.R_far (p := ⟨gb290, 1, none⟩) (Kd.R_far (p := ⟨gb290, 0, none⟩) (Kd.R_far (p := ⟨gb300, 1, none⟩) (Kd.R_far (p := ⟨gb300, 0, none⟩) (Kd.R_mono (Kd.R_mono HL295_0.out (fun k_ hk => (⟨hk, hk.2⟩ : _ ∧ k_ ≠ gb300))) (fun k_ hk => (⟨hk, hk.1.1.2.2.1⟩ : _ ∧ k_ ≠ gb290))) (fun _ hk => hk.1.2) (.int .i64 ((rd_T28 ((rd_T65 t279 0).f0) 1).f0))) (fun _ hk => hk.1.2) (.int .i64 ((rd_T28 ((rd_T65 t279 0).f0) 1).f1))) (fun _ hk => hk.2) (.int .i64 (wrap64 (Int.tdiv (wrap64 (((rd_T28 ((rd_T65 t279 0).f0) 0).f0) + ((rd_T28 ((rd_T65 t279 0).f0) 1).f0))) 2)))) (fun _ hk => hk.2) (.int .i64 (wrap64 (Int.tdiv (wrap64 (((rd_T28 ((rd_T65 t279 0).f0) 0).f1) + ((rd_T28 ((rd_T65 t279 0).f0) 1).f1))) 2)))) (fun _ h_ => h_.1)) (fun _ h_ => h_.1))) (by decide)) hk (fun _ h => h.2)) (fun _ h => h.1)); have n4_ := Aside0.mk (KeepBut.blk hk (g' := gb297) (o := .cells #[.int .i64 ((rd_T28 ((rd_T65 t279 0).f0) 0).f0), .int .i64 ((rd_T28 ((rd_T65 t279 0).f0) 0).f1)] 28 (0, 0)) (by (with_reducible repeat (first | refine blk_drewN ?_ _ | refine blk_drew ?_ | refine blk_alloc ?_ _)); refine blk_far ?_ NB297_290.out _; (with_reducible repeat (first | refine blk_drewN ?_ _ | refine blk_drew ?_ | refine blk_alloc ?_ _)); refine blk_far ?_ NB297_290.out _; (with_reducible repeat (first | refine blk_drewN ?_ _ | refine blk_drew ?_ | refine blk_alloc ?_ _)); refine blk_far ?_ NB297_300.out _; (with_reducible repeat (first | refine blk_drewN ?_ _ | refine blk_drew ?_ | refine blk_alloc ?_ _)); refine blk_far ?_ NB297_300.out _; (with_reducible repeat (first | refine blk_drewN ?_ _ | refine blk_drew ?_ | refine blk_alloc ?_ _)); exact BK297.out) NB297_278.out (by simp)); have n5_ := Aside0.mk (Kd.R_mono (Kd.R_keep (IsS157.apart (show IsS157 w _ g278 t275 x279001_5 x279002_5 from by repeat (first | (with_reducible first | exact HI278.out | apply IsS157.alloc | apply IsS157.drewN | apply IsS157.drew | apply IsS157.set_1 | apply IsS157.set_2 | refine IsS157.far ?_ NB278_274.out _ | refine IsS157.far ?_ NB278_290.out _ | refine IsS157.far ?_ NB278_297.out _ | refine IsS157.far ?_ NB278_300.out _) | exact HI278.out)) (by (with_reducible repeat (first | apply Kd.R_alloc | apply Kd.R_drewN | apply Kd.R_drew)); exact (Kd.R_mono (Kd.R_mono (Kd.R_far (p := ⟨gb290, 1, none⟩) (Kd.R_far (p := ⟨gb290, 0, none⟩) (Kd.R_far (p := ⟨gb300, 1, none⟩) (Kd.R_far (p := ⟨gb300, 0, none⟩) (Kd.R_mono (Kd.R_mono HL298_0.out (fun k_ hk => (⟨hk, hk.2⟩ : _ ∧ k_ ≠ gb300))) (fun k_ hk => (⟨hk, hk.1.1.1.2.1⟩ : _ ∧ k_ ≠ gb290))) (fun _ hk => hk.1.2) (.int .i64 ((rd_T28 ((rd_T65 t279 0).f0) 1).f0))) (fun _ hk => hk.1.2) (.int .i64 ((rd_T28 ((rd_T65 t279 0).f0) 1).f1))) (fun _ hk => hk.2) (.int .i64 (wrap64 (Int.tdiv (wrap64 (((rd_T28 ((rd_T65 t279 0).f0) 0).f0) + ((rd_T28 ((rd_T65 t279 0).f0) 1).f0))) 2)))) (fun _ hk => hk.2) (.int .i64 (wrap64 (Int.tdiv (wrap64 (((rd_T28 ((rd_T65 t279 0).f0) 0).f1) + ((rd_T28 ((rd_T65 t279 0).f0) 1).f1))) 2)))) (fun _ h_ => h_.1)) (fun _ h_ => h_.1))) (by decide)) hk (fun _ h => h.2)) (fun _ h => h.1)); have n6_ := Aside0.mk (KeepBut.blk hk (g' := gb300) (o := .cells #[.int .i64 ((rd_T28 ((rd_T65 t279 0).f0) 1).f0), .int .i64 ((rd_T28 ((rd_T65 t279 0).f0) 1).f1)] 28 (0, 0)) (by (with_reducible repeat (first | refine blk_drewN ?_ _ | refine blk_drew ?_ | refine blk_alloc ?_ _)); refine blk_far ?_ NB300_290.out _; (with_reducible repeat (first | refine blk_drewN ?_ _ | refine blk_drew ?_ | refine blk_alloc ?_ _)); refine blk_far ?_ NB300_290.out _; (with_reducible repeat (first | refine blk_drewN ?_ _ | refine blk_drew ?_ | refine blk_alloc ?_ _)); refine blk_put (cs := #[.int .i64 ((rd_T28 ((rd_T65 t279 0).f0) 1).f0), .int .i64 0]) ?_ 1 _ rfl; (with_reducible repeat (first | refine blk_drewN ?_ _ | refine blk_drew ?_ | refine blk_alloc ?_ _)); refine blk_put (cs := #[.int .i64 0, .int .i64 0]) ?_ 0 _ rfl; (with_reducible repeat (first | refine blk_drewN ?_ _ | refine blk_drew ?_ | refine blk_alloc ?_ _)); exact BK300.out) NB300_278.out (by simp)); have n7_ := Aside0.mk (hb); have n8_ := Aside0.mk (hi); clear HO_5; clear BK274; clear BK290; clear HL295_0; clear BK297; clear HL298_0; clear BK300; clear HB; clear HI278; have HO_5 := n0_; have BK274 := n1_; have BK290 := n2_; have HL295_0 := n3_; have BK297 := n4_; have HL298_0 := n5_; have BK300 := n6_; have HB := n7_; have HI278 := n8_; clear n0_ n1_ n2_ n3_ n4_ n5_ n6_ n7_ n8_; (try clear hb); (try clear hb2); (try clear hk); (try clear hi); have hcz49_0 : w48.cell? ⟨gb290, 0, none⟩ = some (.int .i64 (wrap64 (Int.tdiv (wrap64 (((rd_T28 ((rd_T65 t279 0).f0) 0).f0) + ((rd_T28 ((rd_T65 t279 0).f0) 1).f0))) 2))) := (blk_cell BK290.out 0).trans rfl; have hcz49_1 : w48.cell? ⟨gb290, 1, none⟩ = some (.int .i64 (wrap64 (Int.tdiv (wrap64 (((rd_T28 ((rd_T65 t279 0).f0) 0).f1) + ((rd_T28 ((rd_T65 t279 0).f0) 1).f1))) 2))) := (blk_cell BK290.out 1).trans rfl; have hfz49_0 := blk_frozen BK290.out 0; have hfz49_1 := blk_frozen BK290.out 1; have hcz50_0 : w48.cell? ⟨gb297, 0, none⟩ = some (.int .i64 ((rd_T28 ((rd_T65 t279 0).f0) 0).f0)) := (blk_cell BK297.out 0).trans rfl; have hcz50_1 : w48.cell? ⟨gb297, 1, none⟩ = some (.int .i64 ((rd_T28 ((rd_T65 t279 0).f0) 0).f1)) := (blk_cell BK297.out 1).trans rfl; have hfz50_0 := blk_frozen BK297.out 0; have hfz50_1 := blk_frozen BK297.out 1))
   have n0_ : Aside0 (Kd.S k65 65 ((w48.setCell ⟨gb290, 0, none⟩ (.int .i64 (-100))).setCell ⟨gb290, 1, none⟩ (.int .i64 ((rd_T28 ((rd_T65 t279 0).f0) 0).f1))) w.heap.size (fun k_ => k_ ≠ gb274 ∧ k_ ≠ gb290 ∧ k_ ≠ gb297 ∧ k_ ≠ gb300) (.slice (some ad295) t279.length co31) t279) := ⟨by (with_reducible repeat (first | apply Kd.S_alloc | apply Kd.S_drewN | apply Kd.S_drew)); exact Kd.S_mono (Kd.S_far (p := ⟨gb290, 1, none⟩) (Kd.S_far (p := ⟨gb290, 0, none⟩) (Kd.S_mono HO_5.out (fun k_ hk => (⟨hk, hk.1.2.1⟩ : _ ∧ k_ ≠ gb290))) (fun _ hk => hk.2) (.int .i64 (-100))) (fun _ hk => hk.2) (.int .i64 ((rd_T28 ((rd_T65 t279 0).f0) 0).f1))) (fun _ hk => ⟨hk.1.1.1, ⟨hk.1.1.2.1, ⟨hk.1.1.2.2, hk.1.2⟩⟩⟩)⟩
   have n1_ : Aside0 (Kd.R k28 28 ((w48.setCell ⟨gb290, 0, none⟩ (.int .i64 (-100))).setCell ⟨gb290, 1, none⟩ (.int .i64 ((rd_T28 ((rd_T65 t279 0).f0) 0).f1))) w.heap.size (fun k_ => some k_ ≠ (.slice (some ad295) t279.length co31 : Value).ownBlock ∧ k_ ≠ gb274 ∧ k_ ≠ gb290 ∧ k_ ≠ gb297 ∧ k_ ≠ gb300) (.slice (some ad296) ((rd_T65 t279 0).f0).length c295_0) ((rd_T65 t279 0).f0)) := ⟨by (with_reducible repeat (first | apply Kd.R_alloc | apply Kd.R_drewN | apply Kd.R_drew)); exact Kd.R_mono (Kd.R_far (p := ⟨gb290, 1, none⟩) (Kd.R_far (p := ⟨gb290, 0, none⟩) (Kd.R_mono HL295_0.out (fun k_ hk => (⟨hk, hk.1.2.2.1⟩ : _ ∧ k_ ≠ gb290))) (fun _ hk => hk.2) (.int .i64 (-100))) (fun _ hk => hk.2) (.int .i64 ((rd_T28 ((rd_T65 t279 0).f0) 0).f1))) (fun _ hk => ⟨hk.1.1.1, ⟨hk.1.1.2.1, ⟨hk.1.1.2.2.1, ⟨hk.1.1.2.2.2, hk.1.2⟩⟩⟩⟩)⟩
   have n2_ : Aside0 (Kd.R k28 28 ((w48.setCell ⟨gb290, 0, none⟩ (.int .i64 (-100))).setCell ⟨gb290, 1, none⟩ (.int .i64 ((rd_T28 ((rd_T65 t279 0).f0) 0).f1))) w.heap.size (fun k_ => some k_ ≠ (.slice (some ad295) t279.length co31 : Value).ownBlock ∧ k_ ≠ gb274 ∧ k_ ≠ gb290 ∧ k_ ≠ gb297 ∧ k_ ≠ gb300) (.slice (some ad299) ((rd_T65 t279 0).f0).length c298_0) ((rd_T65 t279 0).f0)) := ⟨by (with_reducible repeat (first | apply Kd.R_alloc | apply Kd.R_drewN | apply Kd.R_drew)); exact Kd.R_mono (Kd.R_far (p := ⟨gb290, 1, none⟩) (Kd.R_far (p := ⟨gb290, 0, none⟩) (Kd.R_mono HL298_0.out (fun k_ hk => (⟨hk, hk.1.1.2.1⟩ : _ ∧ k_ ≠ gb290))) (fun _ hk => hk.2) (.int .i64 (-100))) (fun _ hk => hk.2) (.int .i64 ((rd_T28 ((rd_T65 t279 0).f0) 0).f1))) (fun _ hk => ⟨hk.1.1.2, ⟨hk.1.1.1.1, ⟨hk.1.1.1.2.1, ⟨hk.1.1.1.2.2, hk.1.2⟩⟩⟩⟩)⟩
   have n3_ : Aside0 (((w48.setCell ⟨gb290, 0, none⟩ (.int .i64 (-100))).setCell ⟨gb290, 1, none⟩ (.int .i64 ((rd_T28 ((rd_T65 t279 0).f0) 0).f1))).heap[gb274]? = some (.cells #[.int .i64 0, .int .i64 0] 28 (0, 0))) := ⟨by (with_reducible repeat (first | refine blk_drewN ?_ _ | refine blk_drew ?_ | refine blk_alloc ?_ _)); refine blk_far ?_ NB274_290.out _; (with_reducible repeat (first | refine blk_drewN ?_ _ | refine blk_drew ?_ | refine blk_alloc ?_ _)); refine blk_far ?_ NB274_290.out _; (with_reducible repeat (first | refine blk_drewN ?_ _ | refine blk_drew ?_ | refine blk_alloc ?_ _)); exact BK274.out⟩
   have n4_ : Aside0 (((w48.setCell ⟨gb290, 0, none⟩ (.int .i64 (-100))).setCell ⟨gb290, 1, none⟩ (.int .i64 ((rd_T28 ((rd_T65 t279 0).f0) 0).f1))).heap[gb290]? = some (.cells #[.int .i64 (-100), .int .i64 ((rd_T28 ((rd_T65 t279 0).f0) 0).f1)] 28 (0, 0))) := ⟨by (with_reducible repeat (first | refine blk_drewN ?_ _ | refine blk_drew ?_ | refine blk_alloc ?_ _)); refine blk_put (cs := #[.int .i64 (-100), .int .i64 (wrap64 (Int.tdiv (wrap64 (((rd_T28 ((rd_T65 t279 0).f0) 0).f1) + ((rd_T28 ((rd_T65 t279 0).f0) 1).f1))) 2))]) ?_ 1 _ rfl; (with_reducible repeat (first | refine blk_drewN ?_ _ | refine blk_drew ?_ | refine blk_alloc ?_ _)); refine blk_put (cs := #[.int .i64 (wrap64 (Int.tdiv (wrap64 (((rd_T28 ((rd_T65 t279 0).f0) 0).f0) + ((rd_T28 ((rd_T65 t279 0).f0) 1).f0))) 2)), .int .i64 (wrap64 (Int.tdiv (wrap64 (((rd_T28 ((rd_T65 t279 0).f0) 0).f1) + ((rd_T28 ((rd_T65 t279 0).f0) 1).f1))) 2))]) ?_ 0 _ rfl; (with_reducible repeat (first | refine blk_drewN ?_ _ | refine blk_drew ?_ | refine blk_alloc ?_ _)); exact BK290.out⟩
   have n5_ : Aside0 (((w48.setCell ⟨gb290, 0, none⟩ (.int .i64 (-100))).setCell ⟨gb290, 1, none⟩ (.int .i64 ((rd_T28 ((rd_T65 t279 0).f0) 0).f1))).heap[gb297]? = some (.cells #[.int .i64 ((rd_T28 ((rd_T65 t279 0).f0) 0).f0), .int .i64 ((rd_T28 ((rd_T65 t279 0).f0) 0).f1)] 28 (0, 0))) := ⟨by (with_reducible repeat (first | refine blk_drewN ?_ _ | refine blk_drew ?_ | refine blk_alloc ?_ _)); refine blk_far ?_ NB297_290.out _; (with_reducible repeat (first | refine blk_drewN ?_ _ | refine blk_drew ?_ | refine blk_alloc ?_ _)); refine blk_far ?_ NB297_290.out _; (with_reducible repeat (first | refine blk_drewN ?_ _ | refine blk_drew ?_ | refine blk_alloc ?_ _)); exact BK297.out⟩
   have n6_ : Aside0 (((w48.setCell ⟨gb290, 0, none⟩ (.int .i64 (-100))).setCell ⟨gb290, 1, none⟩ (.int .i64 ((rd_T28 ((rd_T65 t279 0).f0) 0).f1))).heap[gb300]? = some (.cells #[.int .i64 ((rd_T28 ((rd_T65 t279 0).f0) 1).f0), .int .i64 ((rd_T28 ((rd_T65 t279 0).f0) 1).f1)] 28 (0, 0))) := ⟨by (with_reducible repeat (first | refine blk_drewN ?_ _ | refine blk_drew ?_ | refine blk_alloc ?_ _)); refine blk_far ?_ NB300_290.out _; (with_reducible repeat (first | refine blk_drewN ?_ _ | refine blk_drew ?_ | refine blk_alloc ?_ _)); refine blk_far ?_ NB300_290.out _; (with_reducible repeat (first | refine blk_drewN ?_ _ | refine blk_drew ?_ | refine blk_alloc ?_ _)); exact BK300.out⟩
   have n7_ : Aside0 (IsS157 w ((w48.setCell ⟨gb290, 0, none⟩ (.int .i64 (-100))).setCell ⟨gb290, 1, none⟩ (.int .i64 ((rd_T28 ((rd_T65 t279 0).f0) 0).f1))) g278 t275 t302 t303) := ⟨by repeat (first | (with_reducible first | exact HI278.out | apply IsS157.alloc | apply IsS157.drewN | apply IsS157.drew | apply IsS157.set_1 | apply IsS157.set_2 | refine IsS157.far ?_ NB278_274.out _ | refine IsS157.far ?_ NB278_290.out _ | refine IsS157.far ?_ NB278_297.out _ | refine IsS157.far ?_ NB278_300.out _) | exact HI278.out)⟩
   have n8_ : Aside0 (Below w.heap.size w ((w48.setCell ⟨gb290, 0, none⟩ (.int .i64 (-100))).setCell ⟨gb290, 1, none⟩ (.int .i64 ((rd_T28 ((rd_T65 t279 0).f0) 0).f1)))) := ⟨by repeat (first | (with_reducible first | exact HB.out | apply below_alloc | apply pw_below_drewN | apply below_drew1 | refine below_set ?_ (IsS157.ge HI278.out) | refine below_set ?_ GE274.out | refine below_set ?_ GE290.out | refine below_set ?_ GE297.out | refine below_set ?_ GE300.out) | exact HB.out)⟩
   (try clear HO_5)
   (try clear HL295_0)
   (try clear HL298_0)
   (try clear BK274)
   (try clear BK290)
   (try clear BK297)
   (try clear BK300)
   (try clear HI278)
   (try clear HB)
   generalize ((w48.setCell ⟨gb290, 0, none⟩ (.int .i64 (-100))).setCell ⟨gb290, 1, none⟩ (.int .i64 ((rd_T28 ((rd_T65 t279 0).f0) 0).f1))) = w51 at n0_ n1_ n2_ n3_ n4_ n5_ n6_ n7_ n8_ ⊢
   have HO_5 := n0_
   have HL295_0 := n1_
   have HL298_0 := n2_
   have BK274 := n3_
   have BK290 := n4_
   have BK297 := n5_
   have BK300 := n6_
   have HI278 := n7_
   have HB := n8_
   clear n0_ n1_ n2_ n3_ n4_ n5_ n6_ n7_ n8_
   have n0_ := Aside0.mk (Kd.S_drew HO_5.out)
   have n1_ := Aside0.mk (Kd.R_drew HL295_0.out)
   have n2_ := Aside0.mk (Kd.R_drew HL298_0.out)
   have n3_ := Aside0.mk (blk_drew BK274.out)
   have n4_ := Aside0.mk (blk_drew BK290.out)
   have n5_ := Aside0.mk (blk_drew BK297.out)
   have n6_ := Aside0.mk (blk_drew BK300.out)
   have n7_ := Aside0.mk (IsS157.drew HI278.out)
   have n8_ := Aside0.mk (below_drew1 HB.out)
   clear HO_5
   clear HL295_0
   clear HL298_0
   clear BK274
   clear BK290
   clear BK297
   clear BK300
   clear HI278
   clear HB
   have HO_5 := n0_
   have HL295_0 := n1_
   have HL298_0 := n2_
   have BK274 := n3_
   have BK290 := n4_
   have BK297 := n5_
   have BK300 := n6_
   have HI278 := n7_
   have HB := n8_
   clear n0_ n1_ n2_ n3_ n4_ n5_ n6_ n7_ n8_
   refine start_ (n := 4) (S := fun w' => w'.cell? ⟨gb290, 0, none⟩ = some (.int .i64 (-100)) ∧ w'.cell? ⟨gb290, 1, none⟩ = some (.int .i64 ((rd_T28 ((rd_T65 t279 0).f0) 0).f1))) (ds := []) #[false, false, false, false] (by kernel_rfl) rfl rfl ⟨(blk_cell BK290.out 0).trans rfl, (blk_cell BK290.out 1).trans rfl⟩ (fun hHeld => ?_)
   generalize w51.drew = w52 at HO_5 HL295_0 HL298_0 BK274 BK290 BK297 BK300 HI278 HB hHeld ⊢
   refine pure_ (i := 0) (N := some 66) (v := ?_) (a' := ?_) #[true, false, false, false] rfl rfl (by kernel_rfl) (fun _ _ _ h => h) (Or.inl ⟨by rfl, ?_⟩) ?_ ?_
   rotate_left
   ·intro w'
    go_simp
    with_reducible rfl
   rotate_left
   ·simp only [Act.put, List.setIfInBounds_toArray, List.set_cons_zero, List.set_cons_succ, i64_w, i32_w]
    rfl
   refine pure_ (i := 2) (N := some 2) (v := ?_) (a' := ?_) #[true, false, true, false] rfl rfl (by kernel_rfl) (fun _ _ _ h => h) (Or.inl ⟨by rfl, ?_⟩) ?_ ?_
   rotate_left
   ·intro w'
    go_simp
    with_reducible rfl
   rotate_left
   ·simp only [Act.put, List.setIfInBounds_toArray, List.set_cons_zero, List.set_cons_succ, i64_w, i32_w]
    rfl
   refine take_ (i := 1) (N := some 67) (v := ?_) (a' := ?_) #[true, true, true, false] rfl rfl (by kernel_rfl) (fun _ _ _ h => h) (Or.inl ⟨by rfl, ?_⟩) hHeld ?_ ?_
   rotate_left
   ·rintro w' ⟨s0, s1⟩
    go_simp
    with_reducible rfl
   rotate_left
   ·simp only [Act.put, List.setIfInBounds_toArray, List.set_cons_zero, List.set_cons_succ, i64_w, i32_w]
    rfl
   refine one_ (i := 3) (N := none) #[true, true, true, true] rfl rfl (by kernel_rfl) (by decide) (fun K hK => ?_)
   have hs53 : w52.cell? ⟨gb274, 0, none⟩ = some (.int .i64 0) := (blk_cell BK274.out 0).trans rfl
   have hfs53 := blk_frozen BK274.out 0
   have hns53_1 := NB290_274.out
   have hns53_2 := NB297_274.out
   have hns53_3 := NB300_274.out
   have hms53_1 := NB274_290.out
   have hms53_2 := NB274_297.out
   have hms53_3 := NB274_300.out
   have hs54 : w52.cell? ⟨gb274, 1, none⟩ = some (.int .i64 0) := (blk_cell BK274.out 1).trans rfl
   have hfs54 := blk_frozen BK274.out 1
   have hns54_1 := NB290_274.out
   have hns54_2 := NB297_274.out
   have hns54_3 := NB300_274.out
   have hms54_1 := NB274_290.out
   have hms54_2 := NB274_297.out
   have hms54_3 := NB274_300.out
   refine skip_ (w1 := ?_) (by rfl) rfl ?_ ?_
   rotate_left
   ·go_simp
    rfl
   refine hK.out _ _ ⟨((cell_far (p := ⟨gb274, _, none⟩) NB290_274.out _).trans (((cell_far (p := ⟨gb274, _, none⟩) NB290_274.out _).trans (hHeld.1)))), ((cell_far (p := ⟨gb274, _, none⟩) NB290_274.out _).trans (((cell_far (p := ⟨gb274, _, none⟩) NB290_274.out _).trans (hHeld.2))))⟩ (fun hHeld => ?_)
   clear hK K
   refine done_ (by kernel_rfl) ?_
   try go_wp2
   refine bodyPost_ret (results_tc rfl _ _ gb274 28 #[.int .i64 (-100), .int .i64 ((rd_T28 ((rd_T65 t279 0).f0) 0).f1)] (0, 0) _ rfl (by (with_reducible repeat (first | refine blk_drewN ?_ _ | refine blk_drew ?_ | refine blk_alloc ?_ _)); refine blk_put (cs := #[.int .i64 (-100), .int .i64 0]) ?_ 1 _ rfl; (with_reducible repeat (first | refine blk_drewN ?_ _ | refine blk_drew ?_ | refine blk_alloc ?_ _)); refine blk_put (cs := #[.int .i64 0, .int .i64 0]) ?_ 0 _ rfl; (with_reducible repeat (first | refine blk_drewN ?_ _ | refine blk_drew ?_ | refine blk_alloc ?_ _)); exact BK274.out) Try.underlying28 rfl (by kernel_rfl)) rfl ?_
   exact ⟨_, by first | rfl | (simp [errW_none, errW_some] <;> rfl) | (simp [*, errW_none, errW_some] <;> rfl), by (with_reducible repeat (first | apply Kd.S_alloc | apply Kd.S_drewN | apply Kd.S_drew)); exact Kd.S_mono (Kd.S_far (p := ⟨gb274, 1, none⟩) (Kd.S_far (p := ⟨gb274, 0, none⟩) (Kd.S_mono HO_5.out (fun k_ hk => (⟨hk, hk.1⟩ : _ ∧ k_ ≠ gb274))) (fun _ hk => hk.2) (.int .i64 (-100))) (fun _ hk => hk.2) (.int .i64 ((rd_T28 ((rd_T65 t279 0).f0) 0).f1))) (fun _ hk => trivial), by repeat (first | (with_reducible first | exact HB.out | apply below_alloc | apply pw_below_drewN | apply below_drew1 | refine below_set ?_ (IsS157.ge HI278.out) | refine below_set ?_ GE274.out | refine below_set ?_ GE290.out | refine below_set ?_ GE297.out | refine below_set ?_ GE300.out) | exact HB.out)⟩
/-! ### impl_rowOk: function 84 -/
def impl_rowOk.l0 : Nat → List (S28) → Int → Int → Option (Bool)
 | 0, _, _, _ => none
 | k + 1, x8, x9, x10 => if x10 < x9 then (if 0 ≤ x10 then (if x10 < (x8.length : Int) then ((impl_PointOk.f ((rd_T28 x8 x10).f0) ((rd_T28 x8 x10).f1)).bind fun t306 => (if t306 = true then (impl_rowOk.l0 k x8 x9 (wrap64 (x10 + 1))) else (some false))) else (none)) else (none)) else (some true)
def impl_rowOk.f (k : Nat) (l0 : List (S28)) : Option (Bool) := if (l0.length : Int) > 2000 then (some false) else (impl_rowOk.l0 k l0 (l0.length : Int) 0)
theorem impl_rowOk.mono_l : ∀ k, (∀ y0 y1 y2, LeO (impl_rowOk.l0 k y0 y1 y2) (impl_rowOk.l0 (k + 1) y0 y1 y2))
 | 0 => fun _ _ _ r h => by simp [impl_rowOk.l0] at h
 | k + 1 => by
  have ih0 := impl_rowOk.mono_l k
  ·intro y0 y1 y2
   unfold impl_rowOk.l0
   repeat' first
   | (with_reducible exact ih0 _ _ _)
   | (with_reducible exact LeO.refl _)
   | (with_reducible exact LeO.none _)
   | (with_reducible refine LeO.ite ?_ ?_)
   | (with_reducible refine LeO.bind ?_ (fun _ => ?_))
   | exact ih0 _ _ _
   | exact LeO.none _
   | refine LeO.ite ?_ ?_
   | refine LeO.bind ?_ (fun _ => ?_)
theorem impl_rowOk.mono : ∀ a0 k, LeO (impl_rowOk.f k a0) (impl_rowOk.f (k + 1) a0) := by
 intro a0 k
 have ih0 := impl_rowOk.mono_l k
 unfold impl_rowOk.f
 repeat' first
   | (with_reducible exact ih0 _ _ _)
   | (with_reducible exact LeO.refl _)
   | (with_reducible exact LeO.none _)
   | (with_reducible refine LeO.ite ?_ ?_)
   | (with_reducible refine LeO.bind ?_ (fun _ => ?_))
   | exact ih0 _ _ _
   | exact LeO.none _
   | refine LeO.ite ?_ ?_
   | refine LeO.bind ?_ (fun _ => ?_)
set_option maxHeartbeats 8000000 in
set_option maxRecDepth 100000 in
theorem impl_rowOk.calls (k : Nat) (A0 : Option Addr) (c0 : Nat) (l0 : List (S28)) (r : Bool) (w : World) (hr0 : Kd.C k28 w A0 l0.length l0) (hc0 : l0.length ≤ c0) (h : impl_rowOk.f k l0 = some r) :
  Calls Try.prog 84 #[.slice A0 l0.length c0] w fun e w' => e = .returned (.bool r) ∧ Below w.heap.size w w' := by
 have hu28 := Try.underlying28
 have HR0 := Aside0.mk hr0
 have HC0 := Aside0.mk hc0
 clear hr0 hc0
 have HB := Aside0.mk (Below.refl w.heap.size w)
 have H : (if (l0.length : Int) > 2000 then (some false) else (impl_rowOk.l0 k l0 (l0.length : Int) 0)) = some r := h
 clear h
 by_cases c2 : (l0.length : Int) > 2000
 ·rw [if_pos c2] at H
  have c2b0 : decide (2000 < (l0.length : Int)) = true := decide_eq_true c2
  have c2b1 : decide (2000 < l0.length) = true := decide_eq_true (by omega)
  clear c2
  obtain rfl := Option.some.inj H
  go_enter Try.func84, Try.ntmps84
  go_wp2
  go_ret
  exact ⟨by first | rfl | (simp [errW_none, errW_some] <;> rfl) | (simp [*, errW_none, errW_some] <;> rfl), by repeat (first | (with_reducible first | exact HB.out | apply below_alloc | apply pw_below_drewN | apply below_drew1) | exact HB.out)⟩
 rw [if_neg c2] at H
 have c2b0 : decide (2000 < (l0.length : Int)) = false := decide_eq_false c2
 have c2b1 : decide (2000 < l0.length) = false := decide_eq_false (by omega)
 clear c2
 have H' := Aside0.mk H
 clear H
 go_enter Try.func84, Try.ntmps84
 go_wp2
 go_loopg [10] k (fun kq v10 w' => ∃ (x10_1 : Int), v10 = .int .i64 x10_1 ∧ Aside0 (impl_rowOk.l0 kq l0 (l0.length : Int) x10_1 = some r) ∧ Aside0 (kq ≤ k) ∧ Aside0 (Below w.heap.size w w'))
 case atStart => exact ⟨(0), (by first | rfl | (simp; done) | (simp [*]; done)), H', ⟨Nat.le_refl _⟩, ⟨by repeat (first | (with_reducible first | exact HB.out | apply below_alloc | apply pw_below_drewN | apply below_drew1) | exact HB.out)⟩⟩
 case round =>
  clear H'
  try clear c2
  try clear c2b0
  try clear c2b1
  try clear p2
  obtain ⟨x10_1, rfl, HA, HK1, HB⟩ := hrel
  cases gk with
  | zero => exact absurd HA.out (by simp [impl_rowOk.l0])
  | succ k1 =>
   have H := HA.out
   clear HA
   simp only [impl_rowOk.l0] at H
   by_cases c3 : x10_1 < (l0.length : Int)
   rotate_left
   ·rw [if_neg c3] at H
    have c3b0 : decide (x10_1 < (l0.length : Int)) = false := decide_eq_false c3
    clear c3
    obtain rfl := Option.some.inj H
    go_wp2
    go_ret
    exact ⟨by first | rfl | (simp [errW_none, errW_some] <;> rfl) | (simp [*, errW_none, errW_some] <;> rfl), by repeat (first | (with_reducible first | exact HB.out | apply below_alloc | apply pw_below_drewN | apply below_drew1) | exact HB.out)⟩

   rw [if_pos c3] at H
   have c3b0 : decide (x10_1 < (l0.length : Int)) = true := decide_eq_true c3
   clear c3
   by_cases c4 : 0 ≤ x10_1
   rotate_left
   ·rw [if_neg c4] at H
    exact absurd H (by simp)
   rw [if_pos c4] at H
   have c4b0 : decide (0 ≤ x10_1) = true := decide_eq_true c4
   clear c4
   by_cases c5 : x10_1 < (l0.length : Int)
   rotate_left
   ·rw [if_neg c5] at H
    exact absurd H (by simp)
   rw [if_pos c5] at H
   have c5b0 : decide (x10_1 < (l0.length : Int)) = true := decide_eq_true c5
   clear c5
   replace H := Option.bind_eq_some_iff.mp H
   obtain ⟨t306, A60, H⟩ := H
   replace H : (if t306 = true then (impl_rowOk.l0 k1 l0 (l0.length : Int) (wrap64 (x10_1 + 1))) else (some false)) = some r := H
   have A6 := Aside0.mk A60
   clear A60
   by_cases c7 : t306 = true
   rotate_left
   ·replace c7 := Bool.eq_false_iff.mpr c7
    subst c7
    have H1 : (some false) = some r := by rw [if_neg (show ¬ (false = true) by decide)] at H; exact H
    clear H
    have H := H1
    clear H1
    obtain rfl := Option.some.inj H
    have p304 : 0 ≤ (x10_1 : Int) := of_decide_eq_true (by first | (with_reducible assumption) | assumption)
    have q304 : x10_1 < (l0.length : Int) := of_decide_eq_true (by first | (with_reducible assumption) | assumption)
    obtain ⟨ad304, e304, hx304_0, hx304_1⟩ := at_T28 HR0.out x10_1 p304 q304
    cases e304
    replace hx304_0 := (HB.out.cell (World.block_lt_of_cell? w _ hx304_0)).trans hx304_0
    replace hx304_1 := (HB.out.cell (World.block_lt_of_cell? w _ hx304_1)).trans hx304_1
    replace p304 := eq_true p304
    replace q304 := eq_true q304
    go_wp2_with (first | ((with_reducible refine gate_dst (N := 4) rfl ?_); refine box_event ?hg (N := 4) ?hd (cs := #[.int .i64 0, .int .i64 0]) (t := 28) ?hr ?_; (case hd => rfl); (case hg => rfl); (case hr => first | (go_simp; done) | (go_simp; rfl)); intro gb305 hg w11 hbox hb; have n0_ := Aside0.mk (below_step (by repeat (first | (with_reducible first | exact HB.out | apply below_alloc | apply pw_below_drewN | apply below_drew1) | exact HB.out)) hb); have n1_ := Aside0.mk (hbox); have n2_ := Aside0.mk ((by rw [hg]; exact (below_size (by repeat (first | (with_reducible first | exact HB.out | apply below_alloc | apply pw_below_drewN | apply below_drew1) | exact HB.out))) : w.heap.size ≤ gb305)); have n3_ := Aside0.mk ((by rw [hg]; exact (below_size (by repeat (first | (with_reducible first | exact HB.out | apply below_alloc | apply pw_below_drewN | apply below_drew1) | exact HB.out))) : w.heap.size ≤ gb305)); clear HB; have HB := n0_; have BK305 := n1_; have GW305 := n2_; have GE305 := n3_; clear n0_ n1_ n2_ n3_; clear hb hbox hg; have hcz12_0 : w11.cell? ⟨gb305, 0, none⟩ = some (.int .i64 0) := (blk_cell BK305.out 0).trans rfl; have hcz12_1 : w11.cell? ⟨gb305, 1, none⟩ = some (.int .i64 0) := (blk_cell BK305.out 1).trans rfl; have hfz12_0 := blk_frozen BK305.out 0; have hfz12_1 := blk_frozen BK305.out 1) | ((with_reducible refine gate_callee (f := 23) rfl ?_); refine goesL_ (some 15) rfl rfl Try.func23 (by kernel_rfl) rfl #[.agg #[.int .i64 ((rd_T28 l0 x10_1).f0), .int .i64 ((rd_T28 l0 x10_1).f1)]] rfl (by (try simp only [List.map_toArray, List.map_cons, List.map_nil]); first | done | rfl | (simp only [List.length_drop, List.length_take]; rfl)) ?_; (with_reducible refine (impl_PointOk.calls ((rd_T28 l0 x10_1).f0) ((rd_T28 l0 x10_1).f1) false _ A6.out).mono ?_); rintro e w13 ⟨rfl, hb⟩; refine ⟨_, rfl, ?_⟩; have n0_ := Aside0.mk (blk_below (g := gb305) (o := .cells #[.int .i64 ((rd_T28 l0 x10_1).f0), .int .i64 ((rd_T28 l0 x10_1).f1)] 28 (0, 0)) (by (with_reducible repeat (first | refine blk_drewN ?_ _ | refine blk_drew ?_ | refine blk_alloc ?_ _)); refine blk_put (cs := #[.int .i64 ((rd_T28 l0 x10_1).f0), .int .i64 0]) ?_ 1 _ rfl; (with_reducible repeat (first | refine blk_drewN ?_ _ | refine blk_drew ?_ | refine blk_alloc ?_ _)); refine blk_put (cs := #[.int .i64 0, .int .i64 0]) ?_ 0 _ rfl; (with_reducible repeat (first | refine blk_drewN ?_ _ | refine blk_drew ?_ | refine blk_alloc ?_ _)); exact BK305.out) hb); have n1_ := Aside0.mk (below_step (by repeat (first | (with_reducible first | exact HB.out | apply below_alloc | apply pw_below_drewN | apply below_drew1 | refine below_set ?_ GE305.out) | exact HB.out)) hb); clear BK305; clear HB; have BK305 := n0_; have HB := n1_; clear n0_ n1_; (try clear hb); (try clear hb2); (try clear hk); (try clear hi)))
    go_ret
    exact ⟨by first | rfl | (simp [errW_none, errW_some] <;> rfl) | (simp [*, errW_none, errW_some] <;> rfl), by repeat (first | (with_reducible first | exact HB.out | apply below_alloc | apply pw_below_drewN | apply below_drew1 | refine below_set ?_ GE305.out) | exact HB.out)⟩
   subst c7
   have H1 : (impl_rowOk.l0 k1 l0 (l0.length : Int) (wrap64 (x10_1 + 1))) = some r := by rw [if_pos rfl] at H; exact H
   clear H
   have H := H1
   clear H1
   have H' := Aside0.mk H
   clear H
   have p304 : 0 ≤ (x10_1 : Int) := of_decide_eq_true (by first | (with_reducible assumption) | assumption)
   have q304 : x10_1 < (l0.length : Int) := of_decide_eq_true (by first | (with_reducible assumption) | assumption)
   obtain ⟨ad304, e304, hx304_0, hx304_1⟩ := at_T28 HR0.out x10_1 p304 q304
   cases e304
   replace hx304_0 := (HB.out.cell (World.block_lt_of_cell? w _ hx304_0)).trans hx304_0
   replace hx304_1 := (HB.out.cell (World.block_lt_of_cell? w _ hx304_1)).trans hx304_1
   replace p304 := eq_true p304
   replace q304 := eq_true q304
   go_wp2_with (first | ((with_reducible refine gate_dst (N := 4) rfl ?_); refine box_event ?hg (N := 4) ?hd (cs := #[.int .i64 0, .int .i64 0]) (t := 28) ?hr ?_; (case hd => rfl); (case hg => rfl); (case hr => first | (go_simp; done) | (go_simp; rfl)); intro gb305 hg w8 hbox hb; have n0_ := Aside0.mk (below_step (by repeat (first | (with_reducible first | exact HB.out | apply below_alloc | apply pw_below_drewN | apply below_drew1) | exact HB.out)) hb); have n1_ := Aside0.mk (hbox); have n2_ := Aside0.mk ((by rw [hg]; exact (below_size (by repeat (first | (with_reducible first | exact HB.out | apply below_alloc | apply pw_below_drewN | apply below_drew1) | exact HB.out))) : w.heap.size ≤ gb305)); have n3_ := Aside0.mk ((by rw [hg]; exact (below_size (by repeat (first | (with_reducible first | exact HB.out | apply below_alloc | apply pw_below_drewN | apply below_drew1) | exact HB.out))) : w.heap.size ≤ gb305)); clear HB; have HB := n0_; have BK305 := n1_; have GW305 := n2_; have GE305 := n3_; clear n0_ n1_ n2_ n3_; clear hb hbox hg; have hcz9_0 : w8.cell? ⟨gb305, 0, none⟩ = some (.int .i64 0) := (blk_cell BK305.out 0).trans rfl; have hcz9_1 : w8.cell? ⟨gb305, 1, none⟩ = some (.int .i64 0) := (blk_cell BK305.out 1).trans rfl; have hfz9_0 := blk_frozen BK305.out 0; have hfz9_1 := blk_frozen BK305.out 1) | ((with_reducible refine gate_callee (f := 23) rfl ?_); refine goesL_ (some 15) rfl rfl Try.func23 (by kernel_rfl) rfl #[.agg #[.int .i64 ((rd_T28 l0 x10_1).f0), .int .i64 ((rd_T28 l0 x10_1).f1)]] rfl (by (try simp only [List.map_toArray, List.map_cons, List.map_nil]); first | done | rfl | (simp only [List.length_drop, List.length_take]; rfl)) ?_; (with_reducible refine (impl_PointOk.calls ((rd_T28 l0 x10_1).f0) ((rd_T28 l0 x10_1).f1) true _ A6.out).mono ?_); rintro e w10 ⟨rfl, hb⟩; refine ⟨_, rfl, ?_⟩; have n0_ := Aside0.mk (blk_below (g := gb305) (o := .cells #[.int .i64 ((rd_T28 l0 x10_1).f0), .int .i64 ((rd_T28 l0 x10_1).f1)] 28 (0, 0)) (by (with_reducible repeat (first | refine blk_drewN ?_ _ | refine blk_drew ?_ | refine blk_alloc ?_ _)); refine blk_put (cs := #[.int .i64 ((rd_T28 l0 x10_1).f0), .int .i64 0]) ?_ 1 _ rfl; (with_reducible repeat (first | refine blk_drewN ?_ _ | refine blk_drew ?_ | refine blk_alloc ?_ _)); refine blk_put (cs := #[.int .i64 0, .int .i64 0]) ?_ 0 _ rfl; (with_reducible repeat (first | refine blk_drewN ?_ _ | refine blk_drew ?_ | refine blk_alloc ?_ _)); exact BK305.out) hb); have n1_ := Aside0.mk (below_step (by repeat (first | (with_reducible first | exact HB.out | apply below_alloc | apply pw_below_drewN | apply below_drew1 | refine below_set ?_ GE305.out) | exact HB.out)) hb); clear BK305; clear HB; have BK305 := n0_; have HB := n1_; clear n0_ n1_; (try clear hb); (try clear hb2); (try clear hk); (try clear hi)))
   go_roundg k1
   case measure => have := HK1.out; omega
   case rel => exact ⟨(wrap64 (x10_1 + 1)), (by first | rfl | (simp; done) | (simp [*]; done)), H', ⟨by have := HK1.out; omega⟩, ⟨by repeat (first | (with_reducible first | exact HB.out | apply below_alloc | apply pw_below_drewN | apply below_drew1 | refine below_set ?_ GE305.out) | exact HB.out)⟩⟩
/-! ### impl_ringsOk: function 96 -/
def impl_ringsOk.l0 : Nat → List (S65) → Int → Int → Option (Bool)
 | 0, _, _, _ => none
 | k + 1, x8, x9, x10 => if x10 < x9 then (if 0 ≤ x10 then (if x10 < (x8.length : Int) then ((impl_rowOk.f k ((rd_T65 x8 x10).f0)).bind fun t309 => (if t309 = true then (impl_ringsOk.l0 k x8 x9 (wrap64 (x10 + 1))) else (some false))) else (none)) else (none)) else (some true)
def impl_ringsOk.f (k : Nat) (l0 : List (S65)) : Option (Bool) := if (l0.length : Int) > 40 then (some false) else (impl_ringsOk.l0 k l0 (l0.length : Int) 0)
theorem impl_ringsOk.mono_l : ∀ k, (∀ y0 y1 y2, LeO (impl_ringsOk.l0 k y0 y1 y2) (impl_ringsOk.l0 (k + 1) y0 y1 y2))
 | 0 => fun _ _ _ r h => by simp [impl_ringsOk.l0] at h
 | k + 1 => by
  have ih0 := impl_ringsOk.mono_l k
  ·intro y0 y1 y2
   unfold impl_ringsOk.l0
   repeat' first
   | (with_reducible exact ih0 _ _ _)
   | (with_reducible exact impl_rowOk.mono _ _)
   | (with_reducible exact LeO.refl _)
   | (with_reducible exact LeO.none _)
   | (with_reducible refine LeO.ite ?_ ?_)
   | (with_reducible refine LeO.bind ?_ (fun _ => ?_))
   | exact ih0 _ _ _
   | exact impl_rowOk.mono _ _
   | exact LeO.none _
   | refine LeO.ite ?_ ?_
   | refine LeO.bind ?_ (fun _ => ?_)
theorem impl_ringsOk.mono : ∀ a0 k, LeO (impl_ringsOk.f k a0) (impl_ringsOk.f (k + 1) a0) := by
 intro a0 k
 have ih0 := impl_ringsOk.mono_l k
 unfold impl_ringsOk.f
 repeat' first
   | (with_reducible exact ih0 _ _ _)
   | (with_reducible exact impl_rowOk.mono _ _)
   | (with_reducible exact LeO.refl _)
   | (with_reducible exact LeO.none _)
   | (with_reducible refine LeO.ite ?_ ?_)
   | (with_reducible refine LeO.bind ?_ (fun _ => ?_))
   | exact ih0 _ _ _
   | exact impl_rowOk.mono _ _
   | exact LeO.none _
   | refine LeO.ite ?_ ?_
   | refine LeO.bind ?_ (fun _ => ?_)
set_option maxHeartbeats 8000000 in
set_option maxRecDepth 100000 in
theorem impl_ringsOk.calls (k : Nat) (A0 : Option Addr) (c0 : Nat) (l0 : List (S65)) (r : Bool) (w : World) (hr0 : Kd.C k65 w A0 l0.length l0) (hc0 : l0.length ≤ c0) (h : impl_ringsOk.f k l0 = some r) :
  Calls Try.prog 96 #[.slice A0 l0.length c0] w fun e w' => e = .returned (.bool r) ∧ Below w.heap.size w w' := by
 have hu65 := Try.underlying65
 have HR0 := Aside0.mk hr0
 have HC0 := Aside0.mk hc0
 clear hr0 hc0
 have HB := Aside0.mk (Below.refl w.heap.size w)
 have H : (if (l0.length : Int) > 40 then (some false) else (impl_ringsOk.l0 k l0 (l0.length : Int) 0)) = some r := h
 clear h
 by_cases c2 : (l0.length : Int) > 40
 ·rw [if_pos c2] at H
  have c2b0 : decide (40 < (l0.length : Int)) = true := decide_eq_true c2
  have c2b1 : decide (40 < l0.length) = true := decide_eq_true (by omega)
  clear c2
  obtain rfl := Option.some.inj H
  go_enter Try.func96, Try.ntmps96
  go_wp2
  go_ret
  exact ⟨by first | rfl | (simp [errW_none, errW_some] <;> rfl) | (simp [*, errW_none, errW_some] <;> rfl), by repeat (first | (with_reducible first | exact HB.out | apply below_alloc | apply pw_below_drewN | apply below_drew1) | exact HB.out)⟩
 rw [if_neg c2] at H
 have c2b0 : decide (40 < (l0.length : Int)) = false := decide_eq_false c2
 have c2b1 : decide (40 < l0.length) = false := decide_eq_false (by omega)
 clear c2
 have H' := Aside0.mk H
 clear H
 go_enter Try.func96, Try.ntmps96
 go_wp2
 go_loopg [10] k (fun kq v10 w' => ∃ (x10_1 : Int), v10 = .int .i64 x10_1 ∧ Aside0 (impl_ringsOk.l0 kq l0 (l0.length : Int) x10_1 = some r) ∧ Aside0 (kq ≤ k) ∧ Aside0 (Below w.heap.size w w'))
 case atStart => exact ⟨(0), (by first | rfl | (simp; done) | (simp [*]; done)), H', ⟨Nat.le_refl _⟩, ⟨by repeat (first | (with_reducible first | exact HB.out | apply below_alloc | apply pw_below_drewN | apply below_drew1) | exact HB.out)⟩⟩
 case round =>
  clear H'
  try clear c2
  try clear c2b0
  try clear c2b1
  try clear p2
  obtain ⟨x10_1, rfl, HA, HK1, HB⟩ := hrel
  cases gk with
  | zero => exact absurd HA.out (by simp [impl_ringsOk.l0])
  | succ k1 =>
   have H := HA.out
   clear HA
   simp only [impl_ringsOk.l0] at H
   by_cases c3 : x10_1 < (l0.length : Int)
   rotate_left
   ·rw [if_neg c3] at H
    have c3b0 : decide (x10_1 < (l0.length : Int)) = false := decide_eq_false c3
    clear c3
    obtain rfl := Option.some.inj H
    go_wp2
    go_ret
    exact ⟨by first | rfl | (simp [errW_none, errW_some] <;> rfl) | (simp [*, errW_none, errW_some] <;> rfl), by repeat (first | (with_reducible first | exact HB.out | apply below_alloc | apply pw_below_drewN | apply below_drew1) | exact HB.out)⟩

   rw [if_pos c3] at H
   have c3b0 : decide (x10_1 < (l0.length : Int)) = true := decide_eq_true c3
   clear c3
   by_cases c4 : 0 ≤ x10_1
   rotate_left
   ·rw [if_neg c4] at H
    exact absurd H (by simp)
   rw [if_pos c4] at H
   have c4b0 : decide (0 ≤ x10_1) = true := decide_eq_true c4
   clear c4
   by_cases c5 : x10_1 < (l0.length : Int)
   rotate_left
   ·rw [if_neg c5] at H
    exact absurd H (by simp)
   rw [if_pos c5] at H
   have c5b0 : decide (x10_1 < (l0.length : Int)) = true := decide_eq_true c5
   clear c5
   replace H := Option.bind_eq_some_iff.mp H
   obtain ⟨t309, A60, H⟩ := H
   replace H : (if t309 = true then (impl_ringsOk.l0 k1 l0 (l0.length : Int) (wrap64 (x10_1 + 1))) else (some false)) = some r := H
   have A6 := Aside0.mk A60
   clear A60
   by_cases c7 : t309 = true
   rotate_left
   ·replace c7 := Bool.eq_false_iff.mpr c7
    subst c7
    have H1 : (some false) = some r := by rw [if_neg (show ¬ (false = true) by decide)] at H; exact H
    clear H
    have H := H1
    clear H1
    obtain rfl := Option.some.inj H
    have p307 : 0 ≤ (x10_1 : Int) := of_decide_eq_true (by first | (with_reducible assumption) | assumption)
    have q307 : x10_1 < (l0.length : Int) := of_decide_eq_true (by first | (with_reducible assumption) | assumption)
    obtain ⟨ad307, A307_0, c307_0, e307, hx307_0, hx307_1, hl307_0, hi307_0⟩ := at_T65 HR0.out x10_1 p307 q307
    cases e307
    replace hx307_0 := (HB.out.cell (World.block_lt_of_cell? w _ hx307_0)).trans hx307_0
    replace hx307_1 := (HB.out.cell (World.block_lt_of_cell? w _ hx307_1)).trans hx307_1
    have HR307_0 := Aside0.mk hi307_0
    have HC307_0 := Aside0.mk hl307_0
    clear hi307_0 hl307_0
    replace p307 := eq_true p307
    replace q307 := eq_true q307
    go_wp2_with (first | ((with_reducible refine gate_dst (N := 4) rfl ?_); refine box_event ?hg (N := 4) ?hd (cs := #[.slice none 0 0, .bool false]) (t := 65) ?hr ?_; (case hd => rfl); (case hg => rfl); (case hr => first | (go_simp; done) | (go_simp; rfl)); intro gb308 hg w11 hbox hb; have n0_ := Aside0.mk (below_step (by repeat (first | (with_reducible first | exact HB.out | apply below_alloc | apply pw_below_drewN | apply below_drew1) | exact HB.out)) hb); have n1_ := Aside0.mk (hbox); have n2_ := Aside0.mk ((by rw [hg]; exact (below_size (by repeat (first | (with_reducible first | exact HB.out | apply below_alloc | apply pw_below_drewN | apply below_drew1) | exact HB.out))) : w.heap.size ≤ gb308)); have n3_ := Aside0.mk ((by rw [hg]; exact (below_size (by repeat (first | (with_reducible first | exact HB.out | apply below_alloc | apply pw_below_drewN | apply below_drew1) | exact HB.out))) : w.heap.size ≤ gb308)); clear HB; have HB := n0_; have BK308 := n1_; have GW308 := n2_; have GE308 := n3_; clear n0_ n1_ n2_ n3_; clear hb hbox hg; have hcz12_0 : w11.cell? ⟨gb308, 0, none⟩ = some (.slice none 0 0) := (blk_cell BK308.out 0).trans rfl; have hcz12_1 : w11.cell? ⟨gb308, 1, none⟩ = some (.bool false) := (blk_cell BK308.out 1).trans rfl; have hfz12_0 := blk_frozen BK308.out 0; have hfz12_1 := blk_frozen BK308.out 1) | ((with_reducible refine gate_callee (f := 84) rfl ?_); refine goesL_ (some 16) rfl rfl Try.func84 (by kernel_rfl) rfl #[.slice A307_0 ((rd_T65 l0 x10_1).f0).length c307_0] rfl (by (try simp only [List.map_toArray, List.map_cons, List.map_nil]); first | done | rfl | (simp only [List.length_drop, List.length_take]; rfl)) ?_; (with_reducible refine (impl_rowOk.calls k1 _ _ ((rd_T65 l0 x10_1).f0) false _ ?side1 ?side2 A6.out).mono ?_); (case side1 => exact Kd.C_below HR307_0.out (by repeat (first | (with_reducible first | exact HB.out | apply below_alloc | apply pw_below_drewN | apply below_drew1 | refine below_set ?_ GE308.out) | exact HB.out))); (case side2 => exact HC307_0.out); rintro e w13 ⟨rfl, hb⟩; refine ⟨_, rfl, ?_⟩; have n0_ := Aside0.mk (blk_below (g := gb308) (o := .cells #[.slice A307_0 ((rd_T65 l0 x10_1).f0).length c307_0, .bool ((rd_T65 l0 x10_1).f1)] 65 (0, 0)) (by (with_reducible repeat (first | refine blk_drewN ?_ _ | refine blk_drew ?_ | refine blk_alloc ?_ _)); refine blk_put (cs := #[.slice A307_0 ((rd_T65 l0 x10_1).f0).length c307_0, .bool false]) ?_ 1 _ rfl; (with_reducible repeat (first | refine blk_drewN ?_ _ | refine blk_drew ?_ | refine blk_alloc ?_ _)); refine blk_put (cs := #[.slice none 0 0, .bool false]) ?_ 0 _ rfl; (with_reducible repeat (first | refine blk_drewN ?_ _ | refine blk_drew ?_ | refine blk_alloc ?_ _)); exact BK308.out) hb); have n1_ := Aside0.mk (below_step (by repeat (first | (with_reducible first | exact HB.out | apply below_alloc | apply pw_below_drewN | apply below_drew1 | refine below_set ?_ GE308.out) | exact HB.out)) hb); clear BK308; clear HB; have BK308 := n0_; have HB := n1_; clear n0_ n1_; (try clear hb); (try clear hb2); (try clear hk); (try clear hi)))
    go_ret
    exact ⟨by first | rfl | (simp [errW_none, errW_some] <;> rfl) | (simp [*, errW_none, errW_some] <;> rfl), by repeat (first | (with_reducible first | exact HB.out | apply below_alloc | apply pw_below_drewN | apply below_drew1 | refine below_set ?_ GE308.out) | exact HB.out)⟩
   subst c7
   have H1 : (impl_ringsOk.l0 k1 l0 (l0.length : Int) (wrap64 (x10_1 + 1))) = some r := by rw [if_pos rfl] at H; exact H
   clear H
   have H := H1
   clear H1
   have H' := Aside0.mk H
   clear H
   have p307 : 0 ≤ (x10_1 : Int) := of_decide_eq_true (by first | (with_reducible assumption) | assumption)
   have q307 : x10_1 < (l0.length : Int) := of_decide_eq_true (by first | (with_reducible assumption) | assumption)
   obtain ⟨ad307, A307_0, c307_0, e307, hx307_0, hx307_1, hl307_0, hi307_0⟩ := at_T65 HR0.out x10_1 p307 q307
   cases e307
   replace hx307_0 := (HB.out.cell (World.block_lt_of_cell? w _ hx307_0)).trans hx307_0
   replace hx307_1 := (HB.out.cell (World.block_lt_of_cell? w _ hx307_1)).trans hx307_1
   have HR307_0 := Aside0.mk hi307_0
   have HC307_0 := Aside0.mk hl307_0
   clear hi307_0 hl307_0
   replace p307 := eq_true p307
   replace q307 := eq_true q307
   go_wp2_with (first | ((with_reducible refine gate_dst (N := 4) rfl ?_); refine box_event ?hg (N := 4) ?hd (cs := #[.slice none 0 0, .bool false]) (t := 65) ?hr ?_; (case hd => rfl); (case hg => rfl); (case hr => first | (go_simp; done) | (go_simp; rfl)); intro gb308 hg w8 hbox hb; have n0_ := Aside0.mk (below_step (by repeat (first | (with_reducible first | exact HB.out | apply below_alloc | apply pw_below_drewN | apply below_drew1) | exact HB.out)) hb); have n1_ := Aside0.mk (hbox); have n2_ := Aside0.mk ((by rw [hg]; exact (below_size (by repeat (first | (with_reducible first | exact HB.out | apply below_alloc | apply pw_below_drewN | apply below_drew1) | exact HB.out))) : w.heap.size ≤ gb308)); have n3_ := Aside0.mk ((by rw [hg]; exact (below_size (by repeat (first | (with_reducible first | exact HB.out | apply below_alloc | apply pw_below_drewN | apply below_drew1) | exact HB.out))) : w.heap.size ≤ gb308)); clear HB; have HB := n0_; have BK308 := n1_; have GW308 := n2_; have GE308 := n3_; clear n0_ n1_ n2_ n3_; clear hb hbox hg; have hcz9_0 : w8.cell? ⟨gb308, 0, none⟩ = some (.slice none 0 0) := (blk_cell BK308.out 0).trans rfl; have hcz9_1 : w8.cell? ⟨gb308, 1, none⟩ = some (.bool false) := (blk_cell BK308.out 1).trans rfl; have hfz9_0 := blk_frozen BK308.out 0; have hfz9_1 := blk_frozen BK308.out 1) | ((with_reducible refine gate_callee (f := 84) rfl ?_); refine goesL_ (some 16) rfl rfl Try.func84 (by kernel_rfl) rfl #[.slice A307_0 ((rd_T65 l0 x10_1).f0).length c307_0] rfl (by (try simp only [List.map_toArray, List.map_cons, List.map_nil]); first | done | rfl | (simp only [List.length_drop, List.length_take]; rfl)) ?_; (with_reducible refine (impl_rowOk.calls k1 _ _ ((rd_T65 l0 x10_1).f0) true _ ?side1 ?side2 A6.out).mono ?_); (case side1 => exact Kd.C_below HR307_0.out (by repeat (first | (with_reducible first | exact HB.out | apply below_alloc | apply pw_below_drewN | apply below_drew1 | refine below_set ?_ GE308.out) | exact HB.out))); (case side2 => exact HC307_0.out); rintro e w10 ⟨rfl, hb⟩; refine ⟨_, rfl, ?_⟩; have n0_ := Aside0.mk (blk_below (g := gb308) (o := .cells #[.slice A307_0 ((rd_T65 l0 x10_1).f0).length c307_0, .bool ((rd_T65 l0 x10_1).f1)] 65 (0, 0)) (by (with_reducible repeat (first | refine blk_drewN ?_ _ | refine blk_drew ?_ | refine blk_alloc ?_ _)); refine blk_put (cs := #[.slice A307_0 ((rd_T65 l0 x10_1).f0).length c307_0, .bool false]) ?_ 1 _ rfl; (with_reducible repeat (first | refine blk_drewN ?_ _ | refine blk_drew ?_ | refine blk_alloc ?_ _)); refine blk_put (cs := #[.slice none 0 0, .bool false]) ?_ 0 _ rfl; (with_reducible repeat (first | refine blk_drewN ?_ _ | refine blk_drew ?_ | refine blk_alloc ?_ _)); exact BK308.out) hb); have n1_ := Aside0.mk (below_step (by repeat (first | (with_reducible first | exact HB.out | apply below_alloc | apply pw_below_drewN | apply below_drew1 | refine below_set ?_ GE308.out) | exact HB.out)) hb); clear BK308; clear HB; have BK308 := n0_; have HB := n1_; clear n0_ n1_; (try clear hb); (try clear hb2); (try clear hk); (try clear hi)))
   go_roundg k1
   case measure => have := HK1.out; omega
   case rel => exact ⟨(wrap64 (x10_1 + 1)), (by first | rfl | (simp; done) | (simp [*]; done)), H', ⟨by have := HK1.out; omega⟩, ⟨by repeat (first | (with_reducible first | exact HB.out | apply below_alloc | apply pw_below_drewN | apply below_drew1 | refine below_set ?_ GE308.out) | exact HB.out)⟩⟩
/-! ### impl_sgn: function 153 -/
def impl_sgn.f (a0 : Int) : Option (Int) := if a0 > 0 then (some 1) else (if a0 < 0 then (some (-1)) else (some 0))
set_option maxHeartbeats 8000000 in
set_option maxRecDepth 100000 in
theorem impl_sgn.calls (a0 : Int) (r : Int) (w : World) (h : impl_sgn.f a0 = some r) :
  Calls Try.prog 153 #[.int .i64 a0] w fun e w' => e = .returned (.int .i64 r) ∧ Drawn0 w w' := by
 have H : (if a0 > 0 then (some 1) else (if a0 < 0 then (some (-1)) else (some 0))) = some r := h
 clear h
 by_cases c2 : a0 > 0
 ·rw [if_pos c2] at H
  have c2b0 : decide (0 < a0) = true := decide_eq_true c2
  clear c2
  obtain rfl := Option.some.inj H
  go_enter Try.func153, Try.ntmps153
  go_wp2
  go_ret
  exact ⟨by first | rfl | (simp; done) | (simp [*]; done), by repeat (first | exact Drawn0.refl _ | apply Drawn0.step)⟩
 rw [if_neg c2] at H
 have c2b0 : decide (0 < a0) = false := decide_eq_false c2
 clear c2
 by_cases c3 : a0 < 0
 ·rw [if_pos c3] at H
  have c3b0 : decide (a0 < 0) = true := decide_eq_true c3
  clear c3
  obtain rfl := Option.some.inj H
  go_enter Try.func153, Try.ntmps153
  go_wp2
  go_ret
  exact ⟨by first | rfl | (simp; done) | (simp [*]; done), by repeat (first | exact Drawn0.refl _ | apply Drawn0.step)⟩
 rw [if_neg c3] at H
 have c3b0 : decide (a0 < 0) = false := decide_eq_false c3
 clear c3
 obtain rfl := Option.some.inj H
 go_enter Try.func153, Try.ntmps153
 go_wp2
 go_ret
 exact ⟨by first | rfl | (simp; done) | (simp [*]; done), by repeat (first | exact Drawn0.refl _ | apply Drawn0.step)⟩

end Go.Proofs.Ytolejglfohagnaa.PFnEvenOdd
