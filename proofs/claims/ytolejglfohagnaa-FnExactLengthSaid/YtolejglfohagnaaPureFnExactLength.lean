/- Length of the program and of the reference give the same number at every row. No condition beyond the statement's own guard. -/
import Derived.Test.YtolejglfohagnaaPreFnExactLength
import Derived.Test.YtolejglfohagnaaWMath
namespace Go.Proofs.Ytolejglfohagnaa.Pure
open Go.RowKit Go.Proofs.Ytolejglfohagnaa.PFnExactLength Go.Proofs.Ytolejglfohagnaa.PreFnExactLength Go.Proofs.YtolejglfohagnaaW.PrintWords Go.Proofs.YtolejglfohagnaaW.PrintLast Go.Proofs.YtolejglfohagnaaW.PrintMore Go.Proofs.YtolejglfohagnaaW.Math
set_option linter.unusedVariables false
set_option linter.unusedSimpArgs false

theorem spec_ok (x y : Int) : spec_PointOk.f x y = some (decide (OkP x y)) := by
  unfold spec_PointOk.f OkP
  grind

theorem rdP {l : List S28} {j : Nat} (h : j < l.length) : rd_T28 l (j : Int) = l[j] := by
  unfold rd_T28
  simp [List.getD_eq_getElem?_getD, h]
theorem rdL {l : List S23} {j : Nat} (h : j < l.length) : rd_T23 l (j : Int) = l[j] := by
  unfold rd_T23
  simp [List.getD_eq_getElem?_getD, h]
/-- A point of the statement's, as the program's. -/
def toP (p : S23) : S28 := ⟨p.f0, p.f1⟩
theorem sz_points {l : List S23} (hl : l.length ≤ 9223372036854775807) : laws_szPointS.f l 1048576 = some (if 1048576 < l.length then -1 else 1048576 - (l.length : Int)) := by
  unfold laws_szPointS.f
  rw [w64 (by omega) (by omega)]
  by_cases h : 1048576 < l.length
  · rw [if_pos (by omega), if_pos h]
  · rw [if_neg (by omega), if_neg h]
theorem to_points_loop (l : List S23) (hl : l.length ≤ 1048576) (d : Nat) : ∀ j : Nat, j + d = l.length → Ev (fun k => laws_toPointS.l0 k l ((l.take j).map toP ++ List.replicate d z28) j) (l.map toP) := by
  induction d with
  | zero =>
    intro j hj
    obtain rfl : j = l.length := by omega
    refine Ev.step (fun k => ?_) (Ev.now _)
    simp only [laws_toPointS.l0]
    rw [if_neg (by omega), List.take_length]
    simp
  | succ d ih =>
    intro j hj
    have hlt : j < l.length := by omega
    have hlen : ((l.take j).map toP).length = j := by rw [List.length_map, List.length_take]; omega
    refine Ev.step (fun k => ?_) (ih (j + 1) (by omega))
    simp only [laws_toPointS.l0, laws_toPoint.f, Option.bind_some]
    rw [if_pos (by omega), if_pos (by omega), if_pos (by rw [List.length_append, List.length_replicate, hlen]; omega), w64 (n := (j : Int) + 1) (by omega) (by omega), rdL hlt, Int.toNat_natCast]
    have h := fill_set ((l.take j).map toP) z28 (toP l[j]) d
    rw [hlen] at h
    have e : (⟨l[j].f0, l[j].f1⟩ : S28) = toP l[j] := rfl
    rw [e, h, take_next l hlt, List.map_append]
    rfl
theorem to_points {l : List S23} (hl : l.length ≤ 1048576) : Ev (fun k => laws_toPointS.f k l) (l.map toP) := by
  have h := to_points_loop l hl l.length 0 (by omega)
  refine Ev.congr (fun k => ?_) h
  unfold laws_toPointS.f
  rw [if_pos (by omega), if_pos (by simp; omega)]
  simp
theorem eq_points_loop (l : List S28) (hl : l.length ≤ 1048576) (d : Nat) : ∀ j : Nat, j + d = l.length → Ev (fun k => laws_eqPointS.l0 k l l j) true := by
  induction d with
  | zero =>
    intro j hj
    refine Ev.step (fun k => ?_) (Ev.now _)
    simp only [laws_eqPointS.l0]
    rw [if_neg (by omega)]
  | succ d ih =>
    intro j hj
    refine Ev.step (fun k => ?_) (ih (j + 1) (by omega))
    simp only [laws_eqPointS.l0, laws_eqPoint.f]
    rw [if_pos (by omega), if_pos (by omega), if_pos (by omega), w64 (n := (j : Int) + 1) (by omega) (by omega)]
    simp
theorem eq_points {l : List S28} (hl : l.length ≤ 1048576) : Ev (fun k => laws_eqPointS.f k l l) true := by
  refine Ev.congr (fun k => ?_) (eq_points_loop l hl l.length 0 (by omega))
  unfold laws_eqPointS.f
  rw [if_pos rfl]
  rfl

/-- A point of the map, as a word. -/
def okB (p : S28) : Bool := decide (OkP p.f0 p.f1)
/-- A row of the map. -/
def rowB (l : List S28) : Bool := decide (l.length ≤ 2000) && l.all okB
theorem all_drop {α : Type} (f : α → Bool) (l : List α) {j : Nat} (h : j < l.length) : (l.drop j).all f = (f l[j] && (l.drop (j + 1)).all f) := by
  rw [List.drop_eq_getElem_cons h, List.all_cons]
theorem rowB_len {l : List S28} (h : rowB l = true) : l.length ≤ 2000 := by
  unfold rowB at h
  simp at h
  exact h.1
theorem rowB_get {l : List S28} (h : rowB l = true) {j : Nat} (hj : j < l.length) : OkP l[j].f0 l[j].f1 := by
  unfold rowB okB at h
  simp at h
  exact h.2 _ (List.getElem_mem hj)

theorem spec_row_loop (l : List S28) (hl : l.length ≤ 1048576) (d : Nat) : ∀ j : Nat, j + d = l.length → Ev (fun k => spec_l1RowOk.l0 k l j) (decide (l.length ≤ 2000) && (l.drop j).all okB) := by
  induction d with
  | zero =>
    intro j hj
    rw [List.drop_of_length_le (by omega), List.all_nil, Bool.and_true]
    refine Ev.step (f := fun k => spec_l1RowOk.j1 k l j false) (fun k => ?_) (Ev.step (fun k => ?_) (Ev.now _))
    · simp only [spec_l1RowOk.l0]
      rw [if_neg (by omega)]
    · simp only [spec_l1RowOk.j1]
      rw [if_neg (by simp)]
      simp
      omega
  | succ d ih =>
    intro j hj
    have hlt : j < l.length := by omega
    by_cases h2 : l.length ≤ 2000
    · rw [decide_eq_true h2, Bool.true_and, all_drop _ _ hlt]
      have h1 : ∀ k, spec_l1RowOk.l0 (k + 1) l j = spec_l1RowOk.j1 k l j true := fun k => by
        simp only [spec_l1RowOk.l0]
        rw [if_pos (by omega), decide_eq_true (by omega)]
      refine Ev.step h1 ?_
      by_cases hp : OkP l[j].f0 l[j].f1
      · have hB : okB l[j] = true := decide_eq_true hp
        have h := ih (j + 1) (by omega)
        rw [decide_eq_true h2, Bool.true_and] at h
        rw [hB, Bool.true_and]
        refine Ev.step (fun k => ?_) h
        simp only [spec_l1RowOk.j1, spec_ok, Option.bind_some, if_true]
        rw [if_pos (by omega), if_pos (by omega), rdP hlt, if_pos (decide_eq_true hp), w64 (n := (j : Int) + 1) (by omega) (by omega)]
        rfl
      · have hB : okB l[j] = false := decide_eq_false hp
        rw [hB, Bool.false_and]
        refine Ev.step (fun k => ?_) (Ev.now _)
        simp only [spec_l1RowOk.j1, spec_ok, Option.bind_some, if_true]
        rw [if_pos (by omega), if_pos (by omega), rdP hlt, if_neg (by simp [hp])]
    · rw [decide_eq_false h2, Bool.false_and]
      refine Ev.step (f := fun k => spec_l1RowOk.j1 k l j false) (fun k => ?_) (Ev.step (fun k => ?_) (Ev.now _))
      · simp only [spec_l1RowOk.l0]
        rw [if_pos (by omega), decide_eq_false (by omega)]
      · simp only [spec_l1RowOk.j1]
        rw [if_neg (by simp), decide_eq_false (by omega)]
theorem spec_row {l : List S28} (hl : l.length ≤ 1048576) : Ev (fun k => spec_l1RowOk.f k l) (rowB l) := by
  have h := spec_row_loop l hl l.length 0 (by omega)
  rw [List.drop_zero] at h
  exact h

theorem impl_ok (x y : Int) : impl_PointOk.f x y = some (decide (OkP x y)) := by
  unfold impl_PointOk.f OkP
  grind

theorem impl_row_loop (l : List S28) (hl : l.length ≤ 2000) (d : Nat) : ∀ j : Nat, j + d = l.length → Ev (fun k => impl_rowOk.l0 k l (l.length : Int) j) ((l.drop j).all okB) := by
  induction d with
  | zero =>
    intro j hj
    rw [List.drop_of_length_le (by omega), List.all_nil]
    refine Ev.step (fun k => ?_) (Ev.now _)
    simp only [impl_rowOk.l0]
    rw [if_neg (by omega)]
  | succ d ih =>
    intro j hj
    have hlt : j < l.length := by omega
    rw [all_drop _ _ hlt]
    by_cases hp : OkP l[j].f0 l[j].f1
    · have hB : okB l[j] = true := decide_eq_true hp
      rw [hB, Bool.true_and]
      refine Ev.step (fun k => ?_) (ih (j + 1) (by omega))
      simp only [impl_rowOk.l0, impl_ok, Option.bind_some]
      rw [if_pos (by omega), if_pos (by omega), if_pos (by omega), rdP hlt, if_pos (decide_eq_true hp), w64 (n := (j : Int) + 1) (by omega) (by omega)]
      rfl
    · have hB : okB l[j] = false := decide_eq_false hp
      rw [hB, Bool.false_and]
      refine Ev.step (fun k => ?_) (Ev.now _)
      simp only [impl_rowOk.l0, impl_ok, Option.bind_some]
      rw [if_pos (by omega), if_pos (by omega), if_pos (by omega), rdP hlt, if_neg (by simp [hp])]
theorem impl_row (l : List S28) : Ev (fun k => impl_rowOk.f k l) (rowB l) := by
  unfold rowB
  by_cases h : l.length ≤ 2000
  · have h1 := impl_row_loop l h l.length 0 (by omega)
    rw [List.drop_zero] at h1
    rw [decide_eq_true h, Bool.true_and]
    refine Ev.congr (fun k => ?_) h1
    unfold impl_rowOk.f
    rw [if_neg (by omega)]
    rfl
  · rw [decide_eq_false h, Bool.false_and]
    refine Ev.congr (fun k => ?_) (Ev.now _)
    unfold impl_rowOk.f
    rw [if_pos (by omega)]

theorem spec_root_loop (n : Int) (hn0 : 0 ≤ n) (hn1 : n ≤ 9223372036854775807) (d : Nat) : ∀ (k : Nat) (lo hi : Int), 0 ≤ lo → lo ≤ hi → hi ≤ 3037000499 → lo * lo ≤ n → n < (hi + 1) * (hi + 1) → hi - lo ≤ d → d < k →
    ∃ r, spec_Root.l0 k n lo hi = some r ∧ 0 ≤ r ∧ r * r ≤ n ∧ n < (r + 1) * (r + 1) := by
  induction d with
  | zero =>
    intro k lo hi h0 h1 h2 h3 h4 hd hk
    obtain ⟨k, rfl⟩ : ∃ m, k = m + 1 := ⟨k - 1, by omega⟩
    obtain rfl : lo = hi := by omega
    exact ⟨lo, by simp only [spec_Root.l0]; rw [if_neg (by omega)], h0, h3, h4⟩
  | succ d ih =>
    intro k lo hi h0 h1 h2 h3 h4 hd hk
    obtain ⟨k, rfl⟩ : ∃ m, k = m + 1 := ⟨k - 1, by omega⟩
    by_cases hlt : lo < hi
    · obtain ⟨m, hm⟩ : ∃ m, m = (lo + hi + 1) / 2 := ⟨_, rfl⟩
      have hw1 : wrap64 (Int.tdiv (wrap64 ((wrap64 (lo + hi)) + 1)) 2) = m := by
        have e1 : wrap64 (lo + hi) = lo + hi := by unfold wrap64; omega
        have e2 : wrap64 (lo + hi + 1) = lo + hi + 1 := by unfold wrap64; omega
        rw [e1, e2, Int.tdiv_eq_ediv_of_nonneg (by omega)]
        unfold wrap64; omega
      have hmm : m * m ≤ 3037000499 * 3037000499 := sq_mono (by omega) (by omega)
      have hmm0 : 0 ≤ m * m := Int.mul_nonneg (by omega) (by omega)
      have hw2 : wrap64 (m * m) = m * m := by unfold wrap64; omega
      have hw3 : wrap64 (m - 1) = m - 1 := by unfold wrap64; omega
      simp only [spec_Root.l0]
      rw [if_pos hlt, hw1, hw2, hw3]
      by_cases hc : m * m ≤ n
      · rw [if_pos hc]
        exact ih k m hi (by omega) (by omega) h2 hc h4 (by omega) (by omega)
      · rw [if_neg hc]
        exact ih k lo (m - 1) h0 (by omega) (by omega) h3 (by rw [Int.sub_add_cancel]; omega) (by omega) (by omega)
    · obtain rfl : lo = hi := by omega
      exact ⟨lo, by simp only [spec_Root.l0]; rw [if_neg (by omega)], h0, h3, h4⟩

theorem spec_root (n : Int) (hn0 : 0 ≤ n) (hn1 : n ≤ 9223372036854775807) : ∃ r, (∀ k, 3037000500 ≤ k → spec_Root.f k n = some r) ∧ 0 ≤ r ∧ r * r ≤ n ∧ n < (r + 1) * (r + 1) := by
  obtain ⟨r, hr, h0, h1, h2⟩ := spec_root_loop n hn0 hn1 3037000499 3037000500 0 3037000499 (by omega) (by omega) (by omega) (by omega) (by omega) (by omega) (by omega)
  refine ⟨r, fun k hk => ?_, h0, h1, h2⟩
  unfold spec_Root.f
  rw [if_neg (by omega)]
  exact at_rounds (g := fun k => spec_Root.l0 k n 0 3037000499) (fun k => spec_Root.mono_l k _ _ _) hk hr

theorem spec_square {ax ay bx by_ : Int} (ha : OkP ax ay) (hb : OkP bx by_) : spec_l1Square.f ax ay bx by_ = some (sqr ax ay bx by_) := by
  have h := sqr_bd ha hb
  unfold OkP at ha hb
  have h1 := mul_bd (p := bx - ax) (q := bx - ax) (B := 20000000) (C := 20000000) (by omega) (by omega) (by omega) (by omega)
  have h2 := mul_bd (p := by_ - ay) (q := by_ - ay) (B := 20000000) (C := 20000000) (by omega) (by omega) (by omega) (by omega)
  have e : (bx - ax) * (bx - ax) + (by_ - ay) * (by_ - ay) = sqr ax ay bx by_ := by unfold sqr; grind
  unfold spec_l1Square.f
  rw [w64 (n := bx - ax) (by omega) (by omega), w64 (n := by_ - ay) (by omega) (by omega), w64 (n := (bx - ax) * (bx - ax)) (by omega) (by omega), w64 (n := (by_ - ay) * (by_ - ay)) (by omega) (by omega), w64 (by omega) (by omega), e]
theorem spec_l1dist {ax ay bx by_ : Int} (ha : OkP ax ay) (hb : OkP bx by_) : ∃ d, (∀ k, 3037000500 ≤ k → spec_l1Distance.f k ax ay bx by_ = some d) ∧ IsDist (sqr ax ay bx by_) d ∧ d ≤ 40000000 := by
  have h := sqr_bd ha hb
  obtain ⟨r, hr, r0, r1, r2⟩ := spec_root (4 * sqr ax ay bx by_) (by omega) (by omega)
  have hd := dist_of_four r0 r1 r2
  have hle := dist_le hd (B := 40000000) (by omega) (by omega)
  refine ⟨(r + 1) / 2, fun k hk => ?_, hd, hle⟩
  unfold spec_l1Distance.f
  rw [spec_square ha hb]
  simp only [Option.bind_some]
  rw [w64 (n := 4 * sqr ax ay bx by_) (by omega) (by omega), hr k hk]
  simp only [Option.bind_some]
  rw [w64 (n := r + 1) (by omega) (by omega), Int.tdiv_eq_ediv_of_nonneg (by omega), w64 (by omega) (by omega)]

theorem and_low (x : Int) (h0 : 0 ≤ x) (h1 : x < 4294967296) : Go.bits .and .u64 x 4294967295 = x := by
  have h := Go.bits_mask .u64 32 (by decide) (fun n a b => by rw [IntKind.wrap_u64]; omega) 32 (by decide) x h0 (by omega)
  have e : (2 ^ 32 - 1 : Int) = 4294967295 := by decide
  have e2 : (2 ^ 32 : Int) = 4294967296 := by decide
  rw [e, e2, Int.emod_eq_of_lt h0 h1] at h
  exact h

theorem mul64_small (m : Int) (h0 : 0 ≤ m) (h1 : m < 4294967296) : bits_Mul64.f m m = some (0, m * m) := by
  have hm : m * m ≤ 4294967295 * 4294967295 := sq_mono h0 (by omega)
  have hm0 : 0 ≤ m * m := Int.mul_nonneg h0 h0
  have hd : m / 4294967296 = 0 := by omega
  have hq : Go.bits .and .u64 (m * m / 4294967296) 4294967295 = m * m / 4294967296 := and_low _ (by omega) (by omega)
  unfold bits_Mul64.f
  rw [and_low m h0 h1, hd]
  simp only [Int.zero_mul, Int.mul_zero, Int.zero_add, Int.add_zero]
  have w0 : IntKind.u64.wrap 0 = 0 := wu64 (by omega) (by omega)
  have w1 : IntKind.u64.wrap (m * m) = m * m := wu64 hm0 (by omega)
  have w2 : IntKind.u64.wrap (m * m / 4294967296) = m * m / 4294967296 := wu64 (by omega) (by omega)
  simp only [w0, w1, w2, Int.zero_add, Int.add_zero, hq]
  have d1 : m * m / 4294967296 / 4294967296 = 0 := by omega
  simp only [d1, w0, Int.zero_add]

theorem impl_root_loop (n : Int) (hn0 : 0 ≤ n) (hn1 : n ≤ 9223372036854775807) (d : Nat) : ∀ (k : Nat) (lo hi : Int), 0 ≤ lo → lo < hi → hi ≤ 3037000500 → lo * lo ≤ n → n < hi * hi → hi - lo ≤ d + 1 → d < k →
    ∃ r, impl_Root.l0 k n lo hi = some r ∧ 0 ≤ r ∧ r * r ≤ n ∧ n < (r + 1) * (r + 1) := by
  have wn : IntKind.u64.wrap n = n := wu64 hn0 (by omega)
  induction d with
  | zero =>
    intro k lo hi h0 h1 h2 h3 h4 hd hk
    obtain ⟨k, rfl⟩ : ∃ m, k = m + 1 := ⟨k - 1, by omega⟩
    obtain rfl : hi = lo + 1 := by omega
    have w1 : IntKind.u64.wrap (lo + 1 - lo) = 1 := by rw [wu64 (by omega) (by omega)]; omega
    have w2 : wrap64 lo = lo := by unfold wrap64; omega
    exact ⟨lo, by simp only [impl_Root.l0]; rw [w1, if_neg (by omega), w2], h0, h3, h4⟩
  | succ d ih =>
    intro k lo hi h0 h1 h2 h3 h4 hd hk
    obtain ⟨k, rfl⟩ : ∃ m, k = m + 1 := ⟨k - 1, by omega⟩
    have w1 : IntKind.u64.wrap (hi - lo) = hi - lo := wu64 (by omega) (by omega)
    by_cases hlt : hi - lo > 1
    · obtain ⟨m, hm⟩ : ∃ m, m = (lo + hi) / 2 := ⟨_, rfl⟩
      have hw1 : IntKind.u64.wrap (Int.tdiv (IntKind.u64.wrap (lo + hi)) 2) = m := by
        rw [wu64 (n := lo + hi) (by omega) (by omega), Int.tdiv_eq_ediv_of_nonneg (by omega), wu64 (by omega) (by omega)]
        omega
      simp only [impl_Root.l0]
      rw [w1, if_pos hlt, hw1, mul64_small m (by omega) (by omega), wn]
      simp only [Option.bind_some, if_true]
      by_cases hc : m * m ≤ n
      · rw [if_pos hc]
        exact ih k m hi (by omega) (by omega) h2 hc h4 (by omega) (by omega)
      · rw [if_neg hc]
        exact ih k lo m h0 (by omega) (by omega) h3 (by omega) (by omega) (by omega)
    · obtain rfl : hi = lo + 1 := by omega
      have w2 : wrap64 lo = lo := by unfold wrap64; omega
      exact ⟨lo, by simp only [impl_Root.l0]; rw [w1, if_neg (by omega), w2], h0, h3, h4⟩

theorem impl_root (n : Int) (hn0 : 0 ≤ n) (hn1 : n ≤ 9223372036854775807) : ∃ r, (∀ k, 3037000500 ≤ k → impl_Root.f k n = some r) ∧ 0 ≤ r ∧ r * r ≤ n ∧ n < (r + 1) * (r + 1) := by
  obtain ⟨r, hr, h0, h1, h2⟩ := impl_root_loop n hn0 hn1 3037000499 3037000500 0 3037000500 (by omega) (by omega) (by omega) (by omega) (by omega) (by omega) (by omega)
  refine ⟨r, fun k hk => ?_, h0, h1, h2⟩
  unfold impl_Root.f
  rw [if_neg (by omega)]
  exact at_rounds (g := fun k => impl_Root.l0 k n 0 3037000500) (fun k => impl_Root.mono_l k _ _ _) hk hr

theorem impl_sq {ax ay bx by_ : Int} (ha : OkP ax ay) (hb : OkP bx by_) : impl_square.f ax ay bx by_ = some (sqr ax ay bx by_) := by
  have h := sqr_bd ha hb
  unfold OkP at ha hb
  have h1 := mul_bd (p := ax - bx) (q := ax - bx) (B := 20000000) (C := 20000000) (by omega) (by omega) (by omega) (by omega)
  have h2 := mul_bd (p := ay - by_) (q := ay - by_) (B := 20000000) (C := 20000000) (by omega) (by omega) (by omega) (by omega)
  have e : (ax - bx) * (ax - bx) + (ay - by_) * (ay - by_) = sqr ax ay bx by_ := rfl
  unfold impl_square.f
  rw [w64 (n := ax - bx) (by omega) (by omega), w64 (n := ay - by_) (by omega) (by omega), w64 (n := (ax - bx) * (ax - bx)) (by omega) (by omega), w64 (n := (ay - by_) * (ay - by_)) (by omega) (by omega), w64 (by omega) (by omega), e]
theorem impl_dist {ax ay bx by_ : Int} (ha : OkP ax ay) (hb : OkP bx by_) : ∃ d, (∀ k, 3037000510 ≤ k → impl_Distance.f k ax ay bx by_ = some d) ∧ IsDist (sqr ax ay bx by_) d ∧ d ≤ 40000000 := by
  have h := sqr_bd ha hb
  obtain ⟨r, hr, r0, r1, r2⟩ := impl_root (sqr ax ay bx by_) (by omega) (by omega)
  have hd := dist_of_root r0 r1 r2
  have hle := dist_le hd (B := 40000000) (by omega) (by omega)
  have rle : r ≤ 40000000 := by split at hle <;> omega
  have step : ∀ (k : Nat), impl_Distance.l0 (k + 2) (sqr ax ay bx by_) r = some (if 4 * sqr ax ay bx by_ < (2 * r + 1) * (2 * r + 1) then r else r + 1) := by
    intro k
    have b1 := mul_bd (p := 2 * r + 1) (q := 2 * r + 1) (B := 100000000) (C := 100000000) (by omega) (by omega) (by omega) (by omega)
    have b2 := mul_bd (p := 2 * (r + 1) + 1) (q := 2 * (r + 1) + 1) (B := 100000000) (C := 100000000) (by omega) (by omega) (by omega) (by omega)
    simp only [impl_Distance.l0]
    rw [w64 (n := 4 * sqr ax ay bx by_) (by omega) (by omega), w64 (n := 2 * r) (by omega) (by omega), w64 (n := 2 * r + 1) (by omega) (by omega), w64 (n := (2 * r + 1) * (2 * r + 1)) (by omega) (by omega), w64 (n := r + 1) (by omega) (by omega),
      w64 (n := 2 * (r + 1)) (by omega) (by omega), w64 (n := 2 * (r + 1) + 1) (by omega) (by omega), w64 (n := (2 * (r + 1) + 1) * (2 * (r + 1) + 1)) (by omega) (by omega)]
    by_cases hc : 4 * sqr ax ay bx by_ < (2 * r + 1) * (2 * r + 1)
    · rw [if_neg (by omega), if_pos hc]
    · rw [if_pos (by omega), if_neg hc]
      rw [if_neg hc] at hd
      rw [if_neg (by have := hd.2.1; omega)]
  refine ⟨_, fun k hk => ?_, hd, hle⟩
  obtain ⟨k, rfl⟩ : ∃ m, k = m + 3 := ⟨k - 3, by omega⟩
  simp [impl_Distance.f, impl_ok, ha, hb, impl_Distance.j0, impl_sq ha hb, hr (k + 2) (by omega), step k]
theorem impl_dist_not {ax ay bx by_ : Int} (h : ¬ (OkP ax ay ∧ OkP bx by_)) (k : Nat) : impl_Distance.f (k + 1) ax ay bx by_ = some (-1) := by
  by_cases ha : OkP ax ay
  · by_cases hb : OkP bx by_
    · exact absurd ⟨ha, hb⟩ h
    · simp [impl_Distance.f, impl_ok, ha, hb, impl_Distance.j0]
  · simp [impl_Distance.f, impl_ok, ha, impl_Distance.j0]

theorem ev_from {α : Type} {g : Nat → Option α} {r : α} {K : Nat} (h : ∀ k, K ≤ k → g k = some r) : Ev g r := ⟨K, h⟩
theorem both_lengths (l : List S28) (h : rowB l = true) (d : Nat) : ∀ (j : Nat) (t : Int), 1 ≤ j → j + d = max l.length 1 → 0 ≤ t → t ≤ 40000000 * (j : Int) →
    ∃ r, Ev (fun k => spec_l1Length.l0 k l t j) r ∧ Ev (fun k => impl_Length.l0 k l t j) r := by
  have h2 := rowB_len h
  induction d with
  | zero =>
    intro j t hj hd h0 h1
    refine ⟨t, Ev.step (fun k => ?_) (Ev.now _), Ev.step (fun k => ?_) (Ev.now _)⟩
    · simp only [spec_l1Length.l0]
      rw [if_neg (by omega)]
    · simp only [impl_Length.l0]
      rw [if_neg (by omega)]
  | succ d ih =>
    intro j t hj hd h0 h1
    obtain ⟨j, rfl⟩ : ∃ m, j = m + 1 := ⟨j - 1, by omega⟩
    have hlt : j + 1 < l.length := by omega
    have ha := rowB_get h (show j < l.length by omega)
    have hb := rowB_get h hlt
    obtain ⟨e, e1, e2, e3⟩ := spec_l1dist ha hb
    obtain ⟨f, f1, f2, f3⟩ := impl_dist ha hb
    obtain rfl := dist_one e2 f2
    have e0 := e2.1
    obtain ⟨r, hs, hi⟩ := ih (j + 1 + 1) (t + e) (by omega) (by omega) (by omega) (by omega)
    have w1 : wrap64 (((j + 1 : Nat) : Int) - 1) = (j : Int) := by rw [w64 (by omega) (by omega)]; omega
    have w2 : wrap64 (((j + 1 : Nat) : Int) + 1) = ((j + 1 + 1 : Nat) : Int) := by rw [w64 (by omega) (by omega)]; omega
    have hr1 : rd_T28 l (j : Int) = l[j] := rdP (by omega)
    have hr2 : rd_T28 l ((j + 1 : Nat) : Int) = l[j + 1] := rdP hlt
    refine ⟨r, ?_, ?_⟩
    · refine Ev.step (f := fun k => (spec_l1Distance.f k l[j].f0 l[j].f1 l[j + 1].f0 l[j + 1].f1).bind fun x => spec_l1Length.l0 k l (wrap64 (t + x)) ((j + 1 + 1 : Nat) : Int)) (fun k => ?_) (Ev.bind (ev_from e1) ?_)
      · simp only [spec_l1Length.l0]
        rw [w1, w2, if_pos (by omega), if_pos (by omega), if_pos (by omega), if_pos (by omega), hr1, hr2]
      · rw [w64 (n := t + e) (by omega) (by omega)]
        exact hs
    · refine Ev.step (f := fun k => (impl_Distance.f k l[j].f0 l[j].f1 l[j + 1].f0 l[j + 1].f1).bind fun x => impl_Length.l0 k l (wrap64 (t + x)) ((j + 1 + 1 : Nat) : Int)) (fun k => ?_) (Ev.bind (ev_from f1) ?_)
      · simp only [impl_Length.l0]
        rw [w1, w2, if_pos (by omega), if_pos (by omega), if_pos (by omega), if_pos (by omega), hr1, hr2]
      · rw [w64 (n := t + e) (by omega) (by omega)]
        exact hi
theorem both_length {l : List S28} (hl : l.length ≤ 1048576) : ∃ r, Ev (fun k => spec_Length.f k l) r ∧ Ev (fun k => impl_Length.f k l) r := by
  unfold spec_Length.f impl_Length.f
  by_cases h : rowB l = true
  · obtain ⟨r, hs, hi⟩ := both_lengths l h (l.length - 1) 1 0 (by omega) (by omega) (by omega) (by omega)
    refine ⟨r, Ev.bind (spec_row hl) ?_, Ev.bind (impl_row l) ?_⟩
    · simp only [h, if_true]
      exact Ev.bind (g := fun k => spec_l1Length.f k l) hs (Ev.now _)
    · simp only [h, if_true]
      exact hi
  · refine ⟨-1, Ev.bind (spec_row hl) ?_, Ev.bind (impl_row l) ?_⟩
    · simp only [h, if_false]
      exact Ev.now _
    · simp only [h, if_false]
      exact Ev.now _
theorem FnExactLength : PreFnExactLength.Pure := by
  intro l ⟨hl, _⟩
  refine Ev.rounds (g := fun k => laws_FnExactLength.f k l) ?_
  unfold laws_FnExactLength.f
  rw [sz_points hl]
  simp only [Option.bind_some]
  by_cases hbig : 1048576 < l.length
  · rw [if_pos hbig]
    exact Ev.now _
  · rw [if_neg hbig]
    simp only [if_neg (show ¬ (1048576 - (l.length : Int) < 0) by omega)]
    have hlen : (l.map toP).length ≤ 1048576 := by rw [List.length_map]; omega
    obtain ⟨r, hs, hi⟩ := both_length hlen
    refine Ev.bind (to_points (by omega)) (Ev.bind hs (Ev.bind (to_points (by omega)) (Ev.bind hi ?_)))
    simp only [if_true]
    refine Ev.bind (to_points (by omega)) (Ev.bind (eq_points hlen) ?_)
    simp only [if_true]
    exact Ev.now _

end Go.Proofs.Ytolejglfohagnaa.Pure
