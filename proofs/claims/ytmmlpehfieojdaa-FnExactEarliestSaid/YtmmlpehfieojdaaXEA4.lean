/- What the proof of FnExactEarliest stands on, part 4: plain lemmas and contracts. -/
import Derived.Test.YtmmlpehfieojdaaProg
import Derived.Test.YtmmlpehfieojdaaXEA3
namespace Go.Proofs.Ytmmlpehfieojdaa.Wd
open Go Go.RowKit Go.Proofs Go.Proofs.YtmmlpehfieojdaaW.AW
set_option linter.unusedVariables false
set_option linter.unusedSimpArgs false
set_option maxRecDepth 100000
theorem TY : (tyD Try.prog 3 = ⟨TK.int IntKind.i64, 1, [], [PV.int IntKind.i64 0], true, 0, 0, false, [], PV.int IntKind.i64 0, true, false, []⟩ ∧ tk Try.prog 3 = TK.int IntKind.i64 ∧ (tkU8 Try.prog 3 ↔ False)) ∧
    (tyD Try.prog 2 = ⟨TK.int IntKind.i64, 1, [], [PV.int IntKind.i64 0], true, 0, 0, false, [], PV.int IntKind.i64 0, true, false, []⟩ ∧ tk Try.prog 2 = TK.int IntKind.i64 ∧ (tkU8 Try.prog 2 ↔ False)) ∧
    (tyD Try.prog 4 = ⟨TK.bool, 1, [], [PV.bool false], true, 0, 0, false, [], PV.bool false, true, false, []⟩ ∧ tk Try.prog 4 = TK.bool ∧ (tkU8 Try.prog 4 ↔ False)) ∧
    (tyD Try.prog 9 = ⟨TK.string, 1, [], [PV.str ByteArray.empty], true, 0, 0, false, [], PV.str ByteArray.empty, true, false, []⟩ ∧ tk Try.prog 9 = TK.string ∧ (tkU8 Try.prog 9 ↔ False)) ∧
    (tyD Try.prog 192 = ⟨TK.struct, 3, [(0, 1, 2), (1, 1, 2), (2, 1, 2)], [PV.int IntKind.i64 0, PV.int IntKind.i64 0, PV.int IntKind.i64 0], true, 0, 0, false, [], PV.ag [PV.int IntKind.i64 0, PV.int IntKind.i64 0, PV.int IntKind.i64 0], true, true, [TK.int IntKind.i64, TK.int IntKind.i64, TK.int IntKind.i64]⟩ ∧ tk Try.prog 192 = TK.struct ∧ (tkU8 Try.prog 192 ↔ False)) ∧
    (tyD Try.prog 40 = ⟨TK.struct, 3, [(0, 1, 2), (1, 1, 2), (2, 1, 2)], [PV.int IntKind.i64 0, PV.int IntKind.i64 0, PV.int IntKind.i64 0], true, 0, 0, false, [], PV.ag [PV.int IntKind.i64 0, PV.int IntKind.i64 0, PV.int IntKind.i64 0], true, true, [TK.int IntKind.i64, TK.int IntKind.i64, TK.int IntKind.i64]⟩ ∧ tk Try.prog 40 = TK.struct ∧ (tkU8 Try.prog 40 ↔ False)) ∧
    (tyD Try.prog 166 = ⟨TK.slice 192, 1, [], [PV.nils], true, 3, 24, true, [PV.int IntKind.i64 0, PV.int IntKind.i64 0, PV.int IntKind.i64 0], PV.nils, true, false, []⟩ ∧ tk Try.prog 166 = TK.slice 192 ∧ ((∃ e', Try.prog.underlying 166 = some (.slice e')) ↔ True) ∧ (tkU8 Try.prog 166 ↔ False)) ∧
    (tyD Try.prog 35 = ⟨TK.slice 40, 1, [], [PV.nils], true, 3, 24, true, [PV.int IntKind.i64 0, PV.int IntKind.i64 0, PV.int IntKind.i64 0], PV.nils, true, false, []⟩ ∧ tk Try.prog 35 = TK.slice 40 ∧ ((∃ e', Try.prog.underlying 35 = some (.slice e')) ↔ True) ∧ (tkU8 Try.prog 35 ↔ False)) ∧
    (tyD Try.prog 168 = ⟨TK.struct, 3, [(0, 1, 9), (1, 1, 2), (2, 1, 166)], [PV.str ByteArray.empty, PV.int IntKind.i64 0, PV.nils], true, 0, 0, false, [], PV.ag [PV.str ByteArray.empty, PV.int IntKind.i64 0, PV.nils], true, false, [TK.string, TK.int IntKind.i64, TK.slice 192]⟩ ∧ tk Try.prog 168 = TK.struct ∧ (tkU8 Try.prog 168 ↔ False)) ∧
    (tyD Try.prog 37 = ⟨TK.struct, 3, [(0, 1, 9), (1, 1, 2), (2, 1, 35)], [PV.str ByteArray.empty, PV.int IntKind.i64 0, PV.nils], true, 0, 0, false, [], PV.ag [PV.str ByteArray.empty, PV.int IntKind.i64 0, PV.nils], true, false, [TK.string, TK.int IntKind.i64, TK.slice 40]⟩ ∧ tk Try.prog 37 = TK.struct ∧ (tkU8 Try.prog 37 ↔ False)) ∧
    (tyD Try.prog 94 = ⟨TK.slice 168, 1, [], [PV.nils], true, 3, 48, true, [PV.str ByteArray.empty, PV.int IntKind.i64 0, PV.nils], PV.nils, true, false, []⟩ ∧ tk Try.prog 94 = TK.slice 168 ∧ ((∃ e', Try.prog.underlying 94 = some (.slice e')) ↔ True) ∧ (tkU8 Try.prog 94 ↔ False)) ∧
    (tyD Try.prog 25 = ⟨TK.slice 37, 1, [], [PV.nils], true, 3, 48, true, [PV.str ByteArray.empty, PV.int IntKind.i64 0, PV.nils], PV.nils, true, false, []⟩ ∧ tk Try.prog 25 = TK.slice 37 ∧ ((∃ e', Try.prog.underlying 25 = some (.slice e')) ↔ True) ∧ (tkU8 Try.prog 25 ↔ False)) ∧
    (tyD Try.prog 172 = ⟨TK.struct, 3, [(0, 1, 2), (1, 1, 2), (2, 1, 2)], [PV.int IntKind.i64 0, PV.int IntKind.i64 0, PV.int IntKind.i64 0], true, 0, 0, false, [], PV.ag [PV.int IntKind.i64 0, PV.int IntKind.i64 0, PV.int IntKind.i64 0], true, true, [TK.int IntKind.i64, TK.int IntKind.i64, TK.int IntKind.i64]⟩ ∧ tk Try.prog 172 = TK.struct ∧ (tkU8 Try.prog 172 ↔ False)) ∧
    (tyD Try.prog 43 = ⟨TK.struct, 3, [(0, 1, 2), (1, 1, 2), (2, 1, 2)], [PV.int IntKind.i64 0, PV.int IntKind.i64 0, PV.int IntKind.i64 0], true, 0, 0, false, [], PV.ag [PV.int IntKind.i64 0, PV.int IntKind.i64 0, PV.int IntKind.i64 0], true, true, [TK.int IntKind.i64, TK.int IntKind.i64, TK.int IntKind.i64]⟩ ∧ tk Try.prog 43 = TK.struct ∧ (tkU8 Try.prog 43 ↔ False)) ∧
    (tyD Try.prog 95 = ⟨TK.slice 172, 1, [], [PV.nils], true, 3, 24, true, [PV.int IntKind.i64 0, PV.int IntKind.i64 0, PV.int IntKind.i64 0], PV.nils, true, false, []⟩ ∧ tk Try.prog 95 = TK.slice 172 ∧ ((∃ e', Try.prog.underlying 95 = some (.slice e')) ↔ True) ∧ (tkU8 Try.prog 95 ↔ False)) ∧
    (tyD Try.prog 26 = ⟨TK.slice 43, 1, [], [PV.nils], true, 3, 24, true, [PV.int IntKind.i64 0, PV.int IntKind.i64 0, PV.int IntKind.i64 0], PV.nils, true, false, []⟩ ∧ tk Try.prog 26 = TK.slice 43 ∧ ((∃ e', Try.prog.underlying 26 = some (.slice e')) ↔ True) ∧ (tkU8 Try.prog 26 ↔ False)) ∧
    (tyD Try.prog 97 = ⟨TK.struct, 3, [(0, 1, 24), (1, 1, 94), (2, 1, 95)], [PV.nils, PV.nils, PV.nils], true, 0, 0, false, [], PV.ag [PV.nils, PV.nils, PV.nils], true, false, [TK.slice 9, TK.slice 168, TK.slice 172]⟩ ∧ tk Try.prog 97 = TK.struct ∧ (tkU8 Try.prog 97 ↔ False)) ∧
    (tyD Try.prog 28 = ⟨TK.struct, 3, [(0, 1, 24), (1, 1, 25), (2, 1, 26)], [PV.nils, PV.nils, PV.nils], true, 0, 0, false, [], PV.ag [PV.nils, PV.nils, PV.nils], true, false, [TK.slice 9, TK.slice 37, TK.slice 43]⟩ ∧ tk Try.prog 28 = TK.struct ∧ (tkU8 Try.prog 28 ↔ False)) ∧
    (tyD Try.prog 24 = ⟨TK.slice 9, 1, [], [PV.nils], true, 1, 16, true, [PV.str ByteArray.empty], PV.nils, true, false, []⟩ ∧ tk Try.prog 24 = TK.slice 9 ∧ ((∃ e', Try.prog.underlying 24 = some (.slice e')) ↔ True) ∧ (tkU8 Try.prog 24 ↔ False)) ∧
    (tyD Try.prog 34 = ⟨TK.slice 2, 1, [], [PV.nils], true, 1, 8, true, [PV.int IntKind.i64 0], PV.nils, true, false, []⟩ ∧ tk Try.prog 34 = TK.slice 2 ∧ ((∃ e', Try.prog.underlying 34 = some (.slice e')) ↔ True) ∧ (tkU8 Try.prog 34 ↔ False)) ∧
    (tyD Try.prog 31 = ⟨TK.slice 34, 1, [], [PV.nils], true, 1, 24, true, [PV.nils], PV.nils, true, false, []⟩ ∧ tk Try.prog 31 = TK.slice 34 ∧ ((∃ e', Try.prog.underlying 31 = some (.slice e')) ↔ True) ∧ (tkU8 Try.prog 31 ↔ False)) ∧
    (tyD Try.prog 123 = ⟨TK.struct, 4, [(0, 1, 2), (1, 1, 2), (2, 1, 2), (3, 1, 2)], [PV.int IntKind.i64 0, PV.int IntKind.i64 0, PV.int IntKind.i64 0, PV.int IntKind.i64 0], true, 0, 0, false, [], PV.ag [PV.int IntKind.i64 0, PV.int IntKind.i64 0, PV.int IntKind.i64 0, PV.int IntKind.i64 0], true, true, [TK.int IntKind.i64, TK.int IntKind.i64, TK.int IntKind.i64, TK.int IntKind.i64]⟩ ∧ tk Try.prog 123 = TK.struct ∧ (tkU8 Try.prog 123 ↔ False)) ∧
    (tyD Try.prog 50 = ⟨TK.slice 123, 1, [], [PV.nils], true, 4, 32, true, [PV.int IntKind.i64 0, PV.int IntKind.i64 0, PV.int IntKind.i64 0, PV.int IntKind.i64 0], PV.nils, true, false, []⟩ ∧ tk Try.prog 50 = TK.slice 123 ∧ ((∃ e', Try.prog.underlying 50 = some (.slice e')) ↔ True) ∧ (tkU8 Try.prog 50 ↔ False)) ∧
    (tyD Try.prog 52 = ⟨TK.struct, 3, [(0, 1, 2), (1, 1, 2), (2, 1, 50)], [PV.int IntKind.i64 0, PV.int IntKind.i64 0, PV.nils], true, 0, 0, false, [], PV.ag [PV.int IntKind.i64 0, PV.int IntKind.i64 0, PV.nils], true, false, [TK.int IntKind.i64, TK.int IntKind.i64, TK.slice 123]⟩ ∧ tk Try.prog 52 = TK.struct ∧ (tkU8 Try.prog 52 ↔ False)) ∧
    (tyD Try.prog 48 = ⟨TK.slice 52, 1, [], [PV.nils], true, 3, 40, true, [PV.int IntKind.i64 0, PV.int IntKind.i64 0, PV.nils], PV.nils, true, false, []⟩ ∧ tk Try.prog 48 = TK.slice 52 ∧ ((∃ e', Try.prog.underlying 48 = some (.slice e')) ↔ True) ∧ (tkU8 Try.prog 48 ↔ False)) ∧
    (tyD Try.prog 89 = ⟨TK.int IntKind.u64, 1, [], [PV.int IntKind.u64 0], true, 0, 0, false, [], PV.int IntKind.u64 0, true, false, []⟩ ∧ tk Try.prog 89 = TK.int IntKind.u64 ∧ (tkU8 Try.prog 89 ↔ False)) ∧
    (tyD Try.prog 38 = ⟨TK.int IntKind.u64, 1, [], [PV.int IntKind.u64 0], true, 0, 0, false, [], PV.int IntKind.u64 0, true, false, []⟩ ∧ tk Try.prog 38 = TK.int IntKind.u64 ∧ (tkU8 Try.prog 38 ↔ False)) :=
  ⟨⟨by kernel_rfl, by kernel_rfl, ⟨fun h => absurd h (by decide +kernel), fun h => h.elim⟩⟩,
    ⟨by kernel_rfl, by kernel_rfl, ⟨fun h => absurd h (by decide +kernel), fun h => h.elim⟩⟩,
    ⟨by kernel_rfl, by kernel_rfl, ⟨fun h => absurd h (by decide +kernel), fun h => h.elim⟩⟩,
    ⟨by kernel_rfl, by kernel_rfl, ⟨fun h => absurd h (by decide +kernel), fun h => h.elim⟩⟩,
    ⟨by kernel_rfl, by kernel_rfl, ⟨fun h => absurd h (by decide +kernel), fun h => h.elim⟩⟩,
    ⟨by kernel_rfl, by kernel_rfl, ⟨fun h => absurd h (by decide +kernel), fun h => h.elim⟩⟩,
    ⟨by kernel_rfl, by kernel_rfl, ⟨fun _ => trivial, fun _ => ⟨192, by kernel_rfl⟩⟩, ⟨fun h => absurd h (by decide +kernel), fun h => h.elim⟩⟩,
    ⟨by kernel_rfl, by kernel_rfl, ⟨fun _ => trivial, fun _ => ⟨40, by kernel_rfl⟩⟩, ⟨fun h => absurd h (by decide +kernel), fun h => h.elim⟩⟩,
    ⟨by kernel_rfl, by kernel_rfl, ⟨fun h => absurd h (by decide +kernel), fun h => h.elim⟩⟩,
    ⟨by kernel_rfl, by kernel_rfl, ⟨fun h => absurd h (by decide +kernel), fun h => h.elim⟩⟩,
    ⟨by kernel_rfl, by kernel_rfl, ⟨fun _ => trivial, fun _ => ⟨168, by kernel_rfl⟩⟩, ⟨fun h => absurd h (by decide +kernel), fun h => h.elim⟩⟩,
    ⟨by kernel_rfl, by kernel_rfl, ⟨fun _ => trivial, fun _ => ⟨37, by kernel_rfl⟩⟩, ⟨fun h => absurd h (by decide +kernel), fun h => h.elim⟩⟩,
    ⟨by kernel_rfl, by kernel_rfl, ⟨fun h => absurd h (by decide +kernel), fun h => h.elim⟩⟩,
    ⟨by kernel_rfl, by kernel_rfl, ⟨fun h => absurd h (by decide +kernel), fun h => h.elim⟩⟩,
    ⟨by kernel_rfl, by kernel_rfl, ⟨fun _ => trivial, fun _ => ⟨172, by kernel_rfl⟩⟩, ⟨fun h => absurd h (by decide +kernel), fun h => h.elim⟩⟩,
    ⟨by kernel_rfl, by kernel_rfl, ⟨fun _ => trivial, fun _ => ⟨43, by kernel_rfl⟩⟩, ⟨fun h => absurd h (by decide +kernel), fun h => h.elim⟩⟩,
    ⟨by kernel_rfl, by kernel_rfl, ⟨fun h => absurd h (by decide +kernel), fun h => h.elim⟩⟩,
    ⟨by kernel_rfl, by kernel_rfl, ⟨fun h => absurd h (by decide +kernel), fun h => h.elim⟩⟩,
    ⟨by kernel_rfl, by kernel_rfl, ⟨fun _ => trivial, fun _ => ⟨9, by kernel_rfl⟩⟩, ⟨fun h => absurd h (by decide +kernel), fun h => h.elim⟩⟩,
    ⟨by kernel_rfl, by kernel_rfl, ⟨fun _ => trivial, fun _ => ⟨2, by kernel_rfl⟩⟩, ⟨fun h => absurd h (by decide +kernel), fun h => h.elim⟩⟩,
    ⟨by kernel_rfl, by kernel_rfl, ⟨fun _ => trivial, fun _ => ⟨34, by kernel_rfl⟩⟩, ⟨fun h => absurd h (by decide +kernel), fun h => h.elim⟩⟩,
    ⟨by kernel_rfl, by kernel_rfl, ⟨fun h => absurd h (by decide +kernel), fun h => h.elim⟩⟩,
    ⟨by kernel_rfl, by kernel_rfl, ⟨fun _ => trivial, fun _ => ⟨123, by kernel_rfl⟩⟩, ⟨fun h => absurd h (by decide +kernel), fun h => h.elim⟩⟩,
    ⟨by kernel_rfl, by kernel_rfl, ⟨fun h => absurd h (by decide +kernel), fun h => h.elim⟩⟩,
    ⟨by kernel_rfl, by kernel_rfl, ⟨fun _ => trivial, fun _ => ⟨52, by kernel_rfl⟩⟩, ⟨fun h => absurd h (by decide +kernel), fun h => h.elim⟩⟩,
    ⟨by kernel_rfl, by kernel_rfl, ⟨fun h => absurd h (by decide +kernel), fun h => h.elim⟩⟩,
    ⟨by kernel_rfl, by kernel_rfl, ⟨fun h => absurd h (by decide +kernel), fun h => h.elim⟩⟩⟩
theorem tS {p : Prop} (h : p := by simp [obsT, obT, okO, okP, okA, okC, okD, okI, reP, reA, reC, srcI, Nl_nil, Nl_cons, PV.nl, upd_at, ofL_n, ofL_c, VS, argsT, lendA, lendL, lendT, Cvl_nil, Cvl_cons, Cv_bool, Cv_int, Cv_str, Cv_nils, Cv_nilc, Cv_cl, Cv_ow, noFn, PV.noF, NR_iff, NRO, hb, ares, ares1, ldo, ld, nOw, PV.isOw, TY]) : p := h
theorem PF : Try.prog.follows .mixedOrders = true := by kernel_rfl
def pInt64 (x : Int) : List PV := [.int .i64 x]
theorem nl_Int64 (L i) : Nl (lpv pInt64 L i) ↔ True := iff_true_intro (Nl_lpv (fun x => by simp [pInt64, Nl_nil, Nl_cons, PV.nl]))
theorem cv_Int64 (L i) : Cvl (lpv pInt64 L i) (lpv pInt64 L i) ↔ True := iff_true_intro (Cvl_lpv (fun x => by simp [pInt64, pInt64, Cvl_nil, Cvl_cons, Cv_bool, Cv_int, Cv_str, Cv_ow]))
theorem nr_Int64 (L i) : (∀ p ∈ lpv pInt64 L i, NR p) ↔ True := iff_true_intro (NR_lpv (fun x => by simp [pInt64, NR_iff]))
def pString (x : ByteArray) : List PV := [.str x]
theorem nl_String (L i) : Nl (lpv pString L i) ↔ True := iff_true_intro (Nl_lpv (fun x => by simp [pString, Nl_nil, Nl_cons, PV.nl]))
theorem cv_String (L i) : Cvl (lpv pString L i) (lpv pString L i) ↔ True := iff_true_intro (Cvl_lpv (fun x => by simp [pString, pString, Cvl_nil, Cvl_cons, Cv_bool, Cv_int, Cv_str, Cv_ow]))
theorem nr_String (L i) : (∀ p ∈ lpv pString L i, NR p) ↔ True := iff_true_intro (NR_lpv (fun x => by simp [pString, NR_iff]))
structure Cl where
  stop : Int
  arr : Int
  dep : Int
def pCall (x : Cl) : List PV := [.int .i64 x.stop, .int .i64 x.arr, .int .i64 x.dep]
theorem nl_Call (L i) : Nl (lpv pCall L i) ↔ True := iff_true_intro (Nl_lpv (fun x => by simp [pCall, Nl_nil, Nl_cons, PV.nl]))
theorem cv_Call (L i) : Cvl (lpv pCall L i) (lpv pCall L i) ↔ True := iff_true_intro (Cvl_lpv (fun x => by simp [pCall, pCall, Cvl_nil, Cvl_cons, Cv_bool, Cv_int, Cv_str, Cv_ow]))
theorem nr_Call (L i) : (∀ p ∈ lpv pCall L i, NR p) ↔ True := iff_true_intro (NR_lpv (fun x => by simp [pCall, NR_iff]))
structure Tp where
  line : ByteArray
  days : Int
  calls : List Cl
def cTrip (x : Tp) : List PV := [.str x.line, .int .i64 x.days, .cl 3 x.calls.length (lpv pCall x.calls)]
def oTrip (x : Tp) : List PV := [.str x.line, .int .i64 x.days, .ow 3 x.calls.length (lpv pCall x.calls)]
theorem nl_Trip (L i) : Nl (lpv oTrip L i) ↔ True := iff_true_intro (Nl_lpv (fun x => by simp [oTrip, Nl_nil, Nl_cons, PV.nl]))
theorem cv_Trip (L i) : Cvl (lpv oTrip L i) (lpv cTrip L i) ↔ True := iff_true_intro (Cvl_lpv (fun x => by simp [oTrip, cTrip, Cvl_nil, Cvl_cons, Cv_bool, Cv_int, Cv_str, Cv_ow, cv_Call]))
theorem nr_Trip (L i) : (∀ p ∈ lpv oTrip L i, NR p) ↔ True := iff_true_intro (NR_lpv (fun x => by simp [oTrip, NR_iff, nr_Call]))
structure Wk_ where
  fr : Int
  to : Int
  time : Int
def pWalk (x : Wk_) : List PV := [.int .i64 x.fr, .int .i64 x.to, .int .i64 x.time]
theorem nl_Walk (L i) : Nl (lpv pWalk L i) ↔ True := iff_true_intro (Nl_lpv (fun x => by simp [pWalk, Nl_nil, Nl_cons, PV.nl]))
theorem cv_Walk (L i) : Cvl (lpv pWalk L i) (lpv pWalk L i) ↔ True := iff_true_intro (Cvl_lpv (fun x => by simp [pWalk, pWalk, Cvl_nil, Cvl_cons, Cv_bool, Cv_int, Cv_str, Cv_ow]))
theorem nr_Walk (L i) : (∀ p ∈ lpv pWalk L i, NR p) ↔ True := iff_true_intro (NR_lpv (fun x => by simp [pWalk, NR_iff]))
structure Ln where
  stops : List ByteArray
  trips : List Tp
  walks : List Wk_
def cLines (x : Ln) : List PV := [.cl 1 x.stops.length (lpv pString x.stops), .cl 3 x.trips.length (lpv cTrip x.trips), .cl 3 x.walks.length (lpv pWalk x.walks)]
def oLines (x : Ln) : List PV := [.ow 1 x.stops.length (lpv pString x.stops), .ow 3 x.trips.length (lpv oTrip x.trips), .ow 3 x.walks.length (lpv pWalk x.walks)]
theorem nl_Lines (L i) : Nl (lpv oLines L i) ↔ True := iff_true_intro (Nl_lpv (fun x => by simp [oLines, Nl_nil, Nl_cons, PV.nl]))
def cInt64S (x : (List Int)) : List PV := [.cl 1 x.length (lpv pInt64 x)]
def oInt64S (x : (List Int)) : List PV := [.ow 1 x.length (lpv pInt64 x)]
theorem nl_Int64S (L i) : Nl (lpv oInt64S L i) ↔ True := iff_true_intro (Nl_lpv (fun x => by simp [oInt64S, Nl_nil, Nl_cons, PV.nl]))
theorem cv_Int64S (L i) : Cvl (lpv oInt64S L i) (lpv cInt64S L i) ↔ True := iff_true_intro (Cvl_lpv (fun x => by simp [oInt64S, cInt64S, Cvl_nil, Cvl_cons, Cv_bool, Cv_int, Cv_str, Cv_ow, cv_Int64]))
theorem nr_Int64S (L i) : (∀ p ∈ lpv oInt64S L i, NR p) ↔ True := iff_true_intro (NR_lpv (fun x => by simp [oInt64S, NR_iff, nr_Int64]))
def bInt64S (x : (List Int)) : Prop := x.length ≤ 1048576
def bTrip (x : Tp) : Prop := x.calls.length ≤ 1048576
def bLines (x : Ln) : Prop := x.stops.length ≤ 1048576 ∧ x.trips.length ≤ 1048576 ∧ (∀ y ∈ x.trips, bTrip y) ∧ x.walks.length ≤ 1048576
theorem c_toCall (x : Cl) : AC Try.prog 163 [.ag (pCall x)] (ML []) (.ag (pCall x)) (ML []) := by
  refine AC.of Try.func163 rfl rfl (by simp [Try.ntmps163]) rfl (fun C hC hm => ?_)
  rw [Try.ntmps163] at hC
  have hn : C.m0.nx = _ := congrArg Mem.nx hm
  simp only [ML_nx, List.length_nil, List.length_cons, Nat.zero_add, Nat.reduceAdd] at hn
  simp only [hC, pCall, VS, VZ, TY, openC, foldC, foldN, PF, pick_or, pick_and, aop, aopD, rdN, wrN, idL, idA, apure, AS.ev, startA, strip, abin, aint, astr, alen, aslice, optI, aconv, aconvM, gdv, AS.put, ofVal, pcells, ld, ldo, nOw, PV.isOw, gtmp, within, astore, splice, afill, allCells, okIdx, asrc, aflat, aappend, hintOk, PV.clo, PV.clo1, ofL_n, ofL_c, nams, reO, reP, reA, reC, srcI, setG, obG, List.cons.injEq, aeq1, aeqs, onG, Int.reduceLE, Int.reduceNeg, Int.reduceLT, Nat.reduceEqDiff, ↓reduceIte, Nat.reduceLT, Nat.reduceLeDiff, Nat.reduceAdd, Nat.reduceMul, Nat.reduceSub, reduceCtorEq, Int.reduceEq]
  exact Ret_go [] (by simp [pCall, obsT, obT, okO, okP, okA, okC, okD, okI, reP, reA, reC, srcI, Nl_nil, Nl_cons, PV.nl, upd_at, ofL_n, ofL_c, VS, argsT, lendA, lendL, lendT, Cvl_nil, Cvl_cons, Cv_bool, Cv_int, Cv_str, Cv_nils, Cv_nilc, Cv_cl, Cv_ow, noFn, PV.noF, NR_iff, NRO, hb, ares, ares1, ldo, ld, nOw, PV.isOw, TY]) (by simp [upd_at, obsT, obT, okO, okP, okA, okC, okD, okI, reP, reA, reC, srcI, Nl_nil, Nl_cons, PV.nl, upd_at, ofL_n, ofL_c, VS, argsT, lendA, lendL, lendT, Cvl_nil, Cvl_cons, Cv_bool, Cv_int, Cv_str, Cv_nils, Cv_nilc, Cv_cl, Cv_ow, noFn, PV.noF, NR_iff, NRO, hb, ares, ares1, ldo, ld, nOw, PV.isOw, TY]) (by simp [upd_at, obsT, obT, okO, okP, okA, okC, okD, okI, reP, reA, reC, srcI, Nl_nil, Nl_cons, PV.nl, upd_at, ofL_n, ofL_c, VS, argsT, lendA, lendL, lendT, Cvl_nil, Cvl_cons, Cv_bool, Cv_int, Cv_str, Cv_nils, Cv_nilc, Cv_cl, Cv_ow, noFn, PV.noF, NR_iff, NRO, hb, ares, ares1, ldo, ld, nOw, PV.isOw, TY])
theorem c_toCallS (L : List Cl) (hL : L.length ≤ 1048576) : AC Try.prog 159 [.cl 3 L.length (lpv pCall L)] (ML []) (.sl [0] 3 L.length 0 L.length) (ML [.row 3 L.length (lpv pCall L)]) := by
  refine AC.of Try.func159 rfl rfl (by simp [Try.ntmps159]) rfl (fun C hC hm => ?_)
  rw [Try.ntmps159] at hC
  have hn : C.m0.nx = _ := congrArg Mem.nx hm
  simp only [ML_nx, List.length_nil, List.length_cons, Nat.zero_add, Nat.reduceAdd] at hn
  simp only [hC, VS, VZ, TY, openC, foldC, foldN, PF, pick_or, pick_and, aop, aopD, rdN, wrN, idL, idA, apure, AS.ev, startA, strip, abin, aint, astr, alen, aslice, optI, aconv, aconvM, gdv, AS.put, ofVal, pcells, ld, ldo, nOw, PV.isOw, gtmp, within, astore, splice, afill, allCells, okIdx, asrc, aflat, aappend, hintOk, PV.clo, PV.clo1, ofL_n, ofL_c, nams, reO, reP, reA, reC, srcI, setG, obG, List.cons.injEq, aeq1, aeqs, onG, Int.reduceLE, Int.reduceNeg, Int.reduceLT, Nat.reduceEqDiff, ↓reduceIte, Nat.reduceLT, Nat.reduceLeDiff, Nat.reduceAdd, Nat.reduceMul, Nat.reduceSub, reduceCtorEq, Int.reduceEq]
  refine ⟨by omega, ?_⟩
  refine AL.go (X := Nat) (fun i => ⟨ofL [(0, .cl 3 L.length (lpv pCall L)), (3, .sl [0] 3 L.length 0 L.length), (4, .int .i64 (i : Int))], ML [.row 3 L.length (upto i (lpv pCall L) (fun _ => [.int .i64 0, .int .i64 0, .int .i64 0]))]⟩) (fun i => L.length - i) (fun i => i ≤ L.length) 0 (by simp)
    (Told_go hn [[0]] tS (by simp [upto_0, obsT, obT, okO, okP, okA, okC, okD, okI, reP, reA, reC, srcI, Nl_nil, Nl_cons, PV.nl, upd_at, ofL_n, ofL_c, VS, argsT, lendA, lendL, lendT, Cvl_nil, Cvl_cons, Cv_bool, Cv_int, Cv_str, Cv_nils, Cv_nilc, Cv_cl, Cv_ow, noFn, PV.noF, NR_iff, NRO, hb, ares, ares1, ldo, ld, nOw, PV.isOw, TY]) (by simp [upto_0, obsT, obT, okO, okP, okA, okC, okD, okI, reP, reA, reC, srcI, Nl_nil, Nl_cons, PV.nl, upd_at, ofL_n, ofL_c, VS, argsT, lendA, lendL, lendT, Cvl_nil, Cvl_cons, Cv_bool, Cv_int, Cv_str, Cv_nils, Cv_nilc, Cv_cl, Cv_ow, noFn, PV.noF, NR_iff, NRO, hb, ares, ares1, ldo, ld, nOw, PV.isOw, TY])) (fun i hi => vc_ok _ _ _ ?_)
  simp only [hC, VS, VZ, TY, openC, foldC, foldN, PF, pick_or, pick_and, aop, aopD, rdN, wrN, idL, idA, apure, AS.ev, startA, strip, abin, aint, astr, alen, aslice, optI, aconv, aconvM, gdv, AS.put, ofVal, pcells, ld, ldo, nOw, PV.isOw, gtmp, within, astore, splice, afill, allCells, okIdx, asrc, aflat, aappend, hintOk, PV.clo, PV.clo1, ofL_n, ofL_c, nams, reO, reP, reA, reC, srcI, setG, obG, List.cons.injEq, aeq1, aeqs, onG, Int.reduceLE, Int.reduceNeg, Int.reduceLT, Nat.reduceEqDiff, ↓reduceIte, Nat.reduceLT, Nat.reduceLeDiff, Nat.reduceAdd, Nat.reduceMul, Nat.reduceSub, reduceCtorEq, Int.reduceEq]
  refine ⟨fun h => ?_, fun h => ?_⟩
  · have h : i < L.length := by simpa using h
    have e : lpv pCall L i = [.int .i64 L[i].stop, .int .i64 L[i].arr, .int .i64 L[i].dep] := lpv_at h
    refine ⟨by simpa using h, ?_⟩
    simp only [e, VS, VZ, TY, openC, foldC, foldN, PF, pick_or, pick_and, aop, aopD, rdN, wrN, idL, idA, apure, AS.ev, startA, strip, abin, aint, astr, alen, aslice, optI, aconv, aconvM, gdv, AS.put, ofVal, pcells, ld, ldo, nOw, PV.isOw, gtmp, within, astore, splice, afill, allCells, okIdx, asrc, aflat, aappend, hintOk, PV.clo, PV.clo1, ofL_n, ofL_c, nams, reO, reP, reA, reC, srcI, setG, obG, List.cons.injEq, aeq1, aeqs, onG, Int.reduceLE, Int.reduceNeg, Int.reduceLT, Nat.reduceEqDiff, ↓reduceIte, Nat.reduceLT, Nat.reduceLeDiff, Nat.reduceAdd, Nat.reduceMul, Nat.reduceSub, reduceCtorEq, Int.reduceEq]
    refine acall_p false (c_toCall L[i]) (by simp [pCall, obsT, obT, okO, okP, okA, okC, okD, okI, reP, reA, reC, srcI, Nl_nil, Nl_cons, PV.nl, upd_at, ofL_n, ofL_c, VS, argsT, lendA, lendL, lendT, Cvl_nil, Cvl_cons, Cv_bool, Cv_int, Cv_str, Cv_nils, Cv_nilc, Cv_cl, Cv_ow, noFn, PV.noF, NR_iff, NRO, hb, ares, ares1, ldo, ld, nOw, PV.isOw, TY]) (by simp [pCall, obsT, obT, okO, okP, okA, okC, okD, okI, reP, reA, reC, srcI, Nl_nil, Nl_cons, PV.nl, upd_at, ofL_n, ofL_c, VS, argsT, lendA, lendL, lendT, Cvl_nil, Cvl_cons, Cv_bool, Cv_int, Cv_str, Cv_nils, Cv_nilc, Cv_cl, Cv_ow, noFn, PV.noF, NR_iff, NRO, hb, ares, ares1, ldo, ld, nOw, PV.isOw, TY]) (.inl rfl) ?_
    simp only [hC, pCall, VS, VZ, TY, openC, foldC, foldN, PF, pick_or, pick_and, aop, aopD, rdN, wrN, idL, idA, apure, AS.ev, startA, strip, abin, aint, astr, alen, aslice, optI, aconv, aconvM, gdv, AS.put, ofVal, pcells, ld, ldo, nOw, PV.isOw, gtmp, within, astore, splice, afill, allCells, okIdx, asrc, aflat, aappend, hintOk, PV.clo, PV.clo1, ofL_n, ofL_c, nams, reO, reP, reA, reC, srcI, setG, obG, List.cons.injEq, aeq1, aeqs, onG, Int.reduceLE, Int.reduceNeg, Int.reduceLT, Nat.reduceEqDiff, ↓reduceIte, Nat.reduceLT, Nat.reduceLeDiff, Nat.reduceAdd, Nat.reduceMul, Nat.reduceSub, reduceCtorEq, Int.reduceEq]
    simp (disch := omega) only [wr64]
    refine ⟨by simpa using h, i + 1, by omega, by omega, Told_go hn [[0]] tS ?_ ?_⟩
    · simp only [obsT, obT, VS, VZ, TY, openC, foldC, foldN, PF, pick_or, pick_and, aop, aopD, rdN, wrN, idL, idA, apure, AS.ev, startA, strip, abin, aint, astr, alen, aslice, optI, aconv, aconvM, gdv, AS.put, ofVal, pcells, ld, ldo, nOw, PV.isOw, gtmp, within, astore, splice, afill, allCells, okIdx, asrc, aflat, aappend, hintOk, PV.clo, PV.clo1, ofL_n, ofL_c, nams, reO, reP, reA, reC, srcI, setG, obG, List.cons.injEq, aeq1, aeqs, onG, Int.reduceLE, Int.reduceNeg, Int.reduceLT, Nat.reduceEqDiff, ↓reduceIte, Nat.reduceLT, Nat.reduceLeDiff, Nat.reduceAdd, Nat.reduceMul, Nat.reduceSub, reduceCtorEq, Int.reduceEq]
      intro j hj
      by_cases q : j = i
      · subst q; simp [upto_eq, e, obsT, obT, okO, okP, okA, okC, okD, okI, reP, reA, reC, srcI, Nl_nil, Nl_cons, PV.nl, upd_at, ofL_n, ofL_c, VS, argsT, lendA, lendL, lendT, Cvl_nil, Cvl_cons, Cv_bool, Cv_int, Cv_str, Cv_nils, Cv_nilc, Cv_cl, Cv_ow, noFn, PV.noF, NR_iff, NRO, hb, ares, ares1, ldo, ld, nOw, PV.isOw, TY]
      · simp [upto_ne q, q, Nl_upto, nl_Call, obsT, obT, okO, okP, okA, okC, okD, okI, reP, reA, reC, srcI, Nl_nil, Nl_cons, PV.nl, upd_at, ofL_n, ofL_c, VS, argsT, lendA, lendL, lendT, Cvl_nil, Cvl_cons, Cv_bool, Cv_int, Cv_str, Cv_nils, Cv_nilc, Cv_cl, Cv_ow, noFn, PV.noF, NR_iff, NRO, hb, ares, ares1, ldo, ld, nOw, PV.isOw, TY]
    · simp [Nl_upto, nl_Call, obsT, obT, okO, okP, okA, okC, okD, okI, reP, reA, reC, srcI, Nl_nil, Nl_cons, PV.nl, upd_at, ofL_n, ofL_c, VS, argsT, lendA, lendL, lendT, Cvl_nil, Cvl_cons, Cv_bool, Cv_int, Cv_str, Cv_nils, Cv_nilc, Cv_cl, Cv_ow, noFn, PV.noF, NR_iff, NRO, hb, ares, ares1, ldo, ld, nOw, PV.isOw, TY]
  · have : i = L.length := by simp at h; omega
    subst this
    exact Ret_go [[0]] tS (by simp (config := {contextual := true}) [upto_lt, nl_Call, obsT, obT, okO, okP, okA, okC, okD, okI, reP, reA, reC, srcI, Nl_nil, Nl_cons, PV.nl, upd_at, ofL_n, ofL_c, VS, argsT, lendA, lendL, lendT, Cvl_nil, Cvl_cons, Cv_bool, Cv_int, Cv_str, Cv_nils, Cv_nilc, Cv_cl, Cv_ow, noFn, PV.noF, NR_iff, NRO, hb, ares, ares1, ldo, ld, nOw, PV.isOw, TY]) (by simp [nl_Call, obsT, obT, okO, okP, okA, okC, okD, okI, reP, reA, reC, srcI, Nl_nil, Nl_cons, PV.nl, upd_at, ofL_n, ofL_c, VS, argsT, lendA, lendL, lendT, Cvl_nil, Cvl_cons, Cv_bool, Cv_int, Cv_str, Cv_nils, Cv_nilc, Cv_cl, Cv_ow, noFn, PV.noF, NR_iff, NRO, hb, ares, ares1, ldo, ld, nOw, PV.isOw, TY])
theorem c_toTrip (x : Tp) (hx : bTrip x) : AC Try.prog 133 [.ag (cTrip x)] (ML []) (.ag [.str x.line, .int .i64 x.days, .sl [0] 3 x.calls.length 0 x.calls.length]) (ML [.row 3 x.calls.length (lpv pCall x.calls)]) := by
  refine AC.of Try.func133 rfl rfl (by simp [Try.ntmps133]) rfl (fun C hC hm => ?_)
  rw [Try.ntmps133] at hC
  have hn : C.m0.nx = _ := congrArg Mem.nx hm
  simp only [ML_nx, List.length_nil, List.length_cons, Nat.zero_add, Nat.reduceAdd] at hn
  simp only [bTrip] at hx
  simp only [hC, cTrip, VS, VZ, TY, openC, foldC, foldN, PF, pick_or, pick_and, aop, aopD, rdN, wrN, idL, idA, apure, AS.ev, startA, strip, abin, aint, astr, alen, aslice, optI, aconv, aconvM, gdv, AS.put, ofVal, pcells, ld, ldo, nOw, PV.isOw, gtmp, within, astore, splice, afill, allCells, okIdx, asrc, aflat, aappend, hintOk, PV.clo, PV.clo1, ofL_n, ofL_c, nams, reO, reP, reA, reC, srcI, setG, obG, List.cons.injEq, aeq1, aeqs, onG, Int.reduceLE, Int.reduceNeg, Int.reduceLT, Nat.reduceEqDiff, ↓reduceIte, Nat.reduceLT, Nat.reduceLeDiff, Nat.reduceAdd, Nat.reduceMul, Nat.reduceSub, reduceCtorEq, Int.reduceEq]
  refine acall_go false [] (c_toCallS x.calls (by simp_all)) tS tS (by simp) (by simp) tS (by simp [nl_Call, obsT, obT, okO, okP, okA, okC, okD, okI, reP, reA, reC, srcI, Nl_nil, Nl_cons, PV.nl, upd_at, ofL_n, ofL_c, VS, argsT, lendA, lendL, lendT, Cvl_nil, Cvl_cons, Cv_bool, Cv_int, Cv_str, Cv_nils, Cv_nilc, Cv_cl, Cv_ow, noFn, PV.noF, NR_iff, NRO, hb, ares, ares1, ldo, ld, nOw, PV.isOw, TY]) (.inl rfl) ?_
  simp only [hC, VS, VZ, TY, openC, foldC, foldN, PF, pick_or, pick_and, aop, aopD, rdN, wrN, idL, idA, apure, AS.ev, startA, strip, abin, aint, astr, alen, aslice, optI, aconv, aconvM, gdv, AS.put, ofVal, pcells, ld, ldo, nOw, PV.isOw, gtmp, within, astore, splice, afill, allCells, okIdx, asrc, aflat, aappend, hintOk, PV.clo, PV.clo1, ofL_n, ofL_c, nams, reO, reP, reA, reC, srcI, setG, obG, List.cons.injEq, aeq1, aeqs, onG, Int.reduceLE, Int.reduceNeg, Int.reduceLT, Nat.reduceEqDiff, ↓reduceIte, Nat.reduceLT, Nat.reduceLeDiff, Nat.reduceAdd, Nat.reduceMul, Nat.reduceSub, reduceCtorEq, Int.reduceEq]
  exact Ret_go [[3]] (by simp [cTrip, obsT, obT, okO, okP, okA, okC, okD, okI, reP, reA, reC, srcI, Nl_nil, Nl_cons, PV.nl, upd_at, ofL_n, ofL_c, VS, argsT, lendA, lendL, lendT, Cvl_nil, Cvl_cons, Cv_bool, Cv_int, Cv_str, Cv_nils, Cv_nilc, Cv_cl, Cv_ow, noFn, PV.noF, NR_iff, NRO, hb, ares, ares1, ldo, ld, nOw, PV.isOw, TY]) (by simp [nl_Call, nl_Trip, obsT, obT, okO, okP, okA, okC, okD, okI, reP, reA, reC, srcI, Nl_nil, Nl_cons, PV.nl, upd_at, ofL_n, ofL_c, VS, argsT, lendA, lendL, lendT, Cvl_nil, Cvl_cons, Cv_bool, Cv_int, Cv_str, Cv_nils, Cv_nilc, Cv_cl, Cv_ow, noFn, PV.noF, NR_iff, NRO, hb, ares, ares1, ldo, ld, nOw, PV.isOw, TY]) (by simp [nl_Call, nl_Trip, obsT, obT, okO, okP, okA, okC, okD, okI, reP, reA, reC, srcI, Nl_nil, Nl_cons, PV.nl, upd_at, ofL_n, ofL_c, VS, argsT, lendA, lendL, lendT, Cvl_nil, Cvl_cons, Cv_bool, Cv_int, Cv_str, Cv_nils, Cv_nilc, Cv_cl, Cv_ow, noFn, PV.noF, NR_iff, NRO, hb, ares, ares1, ldo, ld, nOw, PV.isOw, TY])
theorem c_toTripS (L : List Tp) (hL : L.length ≤ 1048576) (hE : ∀ x ∈ L, bTrip x) : AC Try.prog 104 [.cl 3 L.length (lpv cTrip L)] (ML []) (.sl [0] 3 L.length 0 L.length) (ML [.row 3 L.length (lpv oTrip L)]) := by
  refine AC.of Try.func104 rfl rfl (by simp [Try.ntmps104]) rfl (fun C hC hm => ?_)
  rw [Try.ntmps104] at hC
  have hn : C.m0.nx = _ := congrArg Mem.nx hm
  simp only [ML_nx, List.length_nil, List.length_cons, Nat.zero_add, Nat.reduceAdd] at hn
  simp only [hC, VS, VZ, TY, openC, foldC, foldN, PF, pick_or, pick_and, aop, aopD, rdN, wrN, idL, idA, apure, AS.ev, startA, strip, abin, aint, astr, alen, aslice, optI, aconv, aconvM, gdv, AS.put, ofVal, pcells, ld, ldo, nOw, PV.isOw, gtmp, within, astore, splice, afill, allCells, okIdx, asrc, aflat, aappend, hintOk, PV.clo, PV.clo1, ofL_n, ofL_c, nams, reO, reP, reA, reC, srcI, setG, obG, List.cons.injEq, aeq1, aeqs, onG, Int.reduceLE, Int.reduceNeg, Int.reduceLT, Nat.reduceEqDiff, ↓reduceIte, Nat.reduceLT, Nat.reduceLeDiff, Nat.reduceAdd, Nat.reduceMul, Nat.reduceSub, reduceCtorEq, Int.reduceEq]
  refine ⟨by omega, ?_⟩
  refine AL.go (X := Nat) (fun i => ⟨ofL [(0, .cl 3 L.length (lpv cTrip L)), (3, .sl [0] 3 L.length 0 L.length), (4, .int .i64 (i : Int))], ML [.row 3 L.length (upto i (lpv oTrip L) (fun _ => [.str ByteArray.empty, .int .i64 0, .nils]))]⟩) (fun i => L.length - i) (fun i => i ≤ L.length) 0 (by simp)
    (Told_go hn [[0]] tS (by simp [upto_0, obsT, obT, okO, okP, okA, okC, okD, okI, reP, reA, reC, srcI, Nl_nil, Nl_cons, PV.nl, upd_at, ofL_n, ofL_c, VS, argsT, lendA, lendL, lendT, Cvl_nil, Cvl_cons, Cv_bool, Cv_int, Cv_str, Cv_nils, Cv_nilc, Cv_cl, Cv_ow, noFn, PV.noF, NR_iff, NRO, hb, ares, ares1, ldo, ld, nOw, PV.isOw, TY]) (by simp [upto_0, obsT, obT, okO, okP, okA, okC, okD, okI, reP, reA, reC, srcI, Nl_nil, Nl_cons, PV.nl, upd_at, ofL_n, ofL_c, VS, argsT, lendA, lendL, lendT, Cvl_nil, Cvl_cons, Cv_bool, Cv_int, Cv_str, Cv_nils, Cv_nilc, Cv_cl, Cv_ow, noFn, PV.noF, NR_iff, NRO, hb, ares, ares1, ldo, ld, nOw, PV.isOw, TY])) (fun i hi => vc_ok _ _ _ ?_)
  simp only [hC, VS, VZ, TY, openC, foldC, foldN, PF, pick_or, pick_and, aop, aopD, rdN, wrN, idL, idA, apure, AS.ev, startA, strip, abin, aint, astr, alen, aslice, optI, aconv, aconvM, gdv, AS.put, ofVal, pcells, ld, ldo, nOw, PV.isOw, gtmp, within, astore, splice, afill, allCells, okIdx, asrc, aflat, aappend, hintOk, PV.clo, PV.clo1, ofL_n, ofL_c, nams, reO, reP, reA, reC, srcI, setG, obG, List.cons.injEq, aeq1, aeqs, onG, Int.reduceLE, Int.reduceNeg, Int.reduceLT, Nat.reduceEqDiff, ↓reduceIte, Nat.reduceLT, Nat.reduceLeDiff, Nat.reduceAdd, Nat.reduceMul, Nat.reduceSub, reduceCtorEq, Int.reduceEq]
  refine ⟨fun h => ?_, fun h => ?_⟩
  · have h : i < L.length := by simpa using h
    have e : lpv cTrip L i = [.str L[i].line, .int .i64 L[i].days, .cl 3 L[i].calls.length (lpv pCall L[i].calls)] := lpv_at h
    have eo : lpv oTrip L i = [.str L[i].line, .int .i64 L[i].days, .ow 3 L[i].calls.length (lpv pCall L[i].calls)] := lpv_at h
    refine ⟨by simpa using h, ?_⟩
    simp only [e, VS, VZ, TY, openC, foldC, foldN, PF, pick_or, pick_and, aop, aopD, rdN, wrN, idL, idA, apure, AS.ev, startA, strip, abin, aint, astr, alen, aslice, optI, aconv, aconvM, gdv, AS.put, ofVal, pcells, ld, ldo, nOw, PV.isOw, gtmp, within, astore, splice, afill, allCells, okIdx, asrc, aflat, aappend, hintOk, PV.clo, PV.clo1, ofL_n, ofL_c, nams, reO, reP, reA, reC, srcI, setG, obG, List.cons.injEq, aeq1, aeqs, onG, Int.reduceLE, Int.reduceNeg, Int.reduceLT, Nat.reduceEqDiff, ↓reduceIte, Nat.reduceLT, Nat.reduceLeDiff, Nat.reduceAdd, Nat.reduceMul, Nat.reduceSub, reduceCtorEq, Int.reduceEq]
    refine acall_go false [] (c_toTrip L[i] (hE _ (List.getElem_mem h))) (by simp [cTrip, obsT, obT, okO, okP, okA, okC, okD, okI, reP, reA, reC, srcI, Nl_nil, Nl_cons, PV.nl, upd_at, ofL_n, ofL_c, VS, argsT, lendA, lendL, lendT, Cvl_nil, Cvl_cons, Cv_bool, Cv_int, Cv_str, Cv_nils, Cv_nilc, Cv_cl, Cv_ow, noFn, PV.noF, NR_iff, NRO, hb, ares, ares1, ldo, ld, nOw, PV.isOw, TY]) tS (by simp) (by simp) tS (by simp [nl_Call, nl_Trip, obsT, obT, okO, okP, okA, okC, okD, okI, reP, reA, reC, srcI, Nl_nil, Nl_cons, PV.nl, upd_at, ofL_n, ofL_c, VS, argsT, lendA, lendL, lendT, Cvl_nil, Cvl_cons, Cv_bool, Cv_int, Cv_str, Cv_nils, Cv_nilc, Cv_cl, Cv_ow, noFn, PV.noF, NR_iff, NRO, hb, ares, ares1, ldo, ld, nOw, PV.isOw, TY]) (.inl rfl) ?_
    simp only [hC, VS, VZ, TY, openC, foldC, foldN, PF, pick_or, pick_and, aop, aopD, rdN, wrN, idL, idA, apure, AS.ev, startA, strip, abin, aint, astr, alen, aslice, optI, aconv, aconvM, gdv, AS.put, ofVal, pcells, ld, ldo, nOw, PV.isOw, gtmp, within, astore, splice, afill, allCells, okIdx, asrc, aflat, aappend, hintOk, PV.clo, PV.clo1, ofL_n, ofL_c, nams, reO, reP, reA, reC, srcI, setG, obG, List.cons.injEq, aeq1, aeqs, onG, Int.reduceLE, Int.reduceNeg, Int.reduceLT, Nat.reduceEqDiff, ↓reduceIte, Nat.reduceLT, Nat.reduceLeDiff, Nat.reduceAdd, Nat.reduceMul, Nat.reduceSub, reduceCtorEq, Int.reduceEq]
    simp (disch := omega) only [wr64]
    refine ⟨by simpa using h, i + 1, by omega, by omega, ?_⟩
    refine T_fold [0] i 2 [1] ?_
    simp only [VS, VZ, TY, openC, foldC, foldN, PF, pick_or, pick_and, aop, aopD, rdN, wrN, idL, idA, apure, AS.ev, startA, strip, abin, aint, astr, alen, aslice, optI, aconv, aconvM, gdv, AS.put, ofVal, pcells, ld, ldo, nOw, PV.isOw, gtmp, within, astore, splice, afill, allCells, okIdx, asrc, aflat, aappend, hintOk, PV.clo, PV.clo1, ofL_n, ofL_c, nams, reO, reP, reA, reC, srcI, setG, obG, List.cons.injEq, aeq1, aeqs, onG, Int.reduceLE, Int.reduceNeg, Int.reduceLT, Nat.reduceEqDiff, ↓reduceIte, Nat.reduceLT, Nat.reduceLeDiff, Nat.reduceAdd, Nat.reduceMul, Nat.reduceSub, reduceCtorEq, Int.reduceEq]
    refine ⟨h, by simp, by simp [nl_Call, nl_Trip], ?_⟩
    refine Told_go hn [[0]] tS ?_ ?_
    · simp only [obsT, obT, VS, VZ, TY, openC, foldC, foldN, PF, pick_or, pick_and, aop, aopD, rdN, wrN, idL, idA, apure, AS.ev, startA, strip, abin, aint, astr, alen, aslice, optI, aconv, aconvM, gdv, AS.put, ofVal, pcells, ld, ldo, nOw, PV.isOw, gtmp, within, astore, splice, afill, allCells, okIdx, asrc, aflat, aappend, hintOk, PV.clo, PV.clo1, ofL_n, ofL_c, nams, reO, reP, reA, reC, srcI, setG, obG, List.cons.injEq, aeq1, aeqs, onG, Int.reduceLE, Int.reduceNeg, Int.reduceLT, Nat.reduceEqDiff, ↓reduceIte, Nat.reduceLT, Nat.reduceLeDiff, Nat.reduceAdd, Nat.reduceMul, Nat.reduceSub, reduceCtorEq, Int.reduceEq]
      intro j hj
      by_cases q : j = i
      · subst q; simp [upto_eq, eo, obsT, obT, okO, okP, okA, okC, okD, okI, reP, reA, reC, srcI, Nl_nil, Nl_cons, PV.nl, upd_at, ofL_n, ofL_c, VS, argsT, lendA, lendL, lendT, Cvl_nil, Cvl_cons, Cv_bool, Cv_int, Cv_str, Cv_nils, Cv_nilc, Cv_cl, Cv_ow, noFn, PV.noF, NR_iff, NRO, hb, ares, ares1, ldo, ld, nOw, PV.isOw, TY]
      · simp [upto_ne q, q, Nl_upto, nl_Trip, obsT, obT, okO, okP, okA, okC, okD, okI, reP, reA, reC, srcI, Nl_nil, Nl_cons, PV.nl, upd_at, ofL_n, ofL_c, VS, argsT, lendA, lendL, lendT, Cvl_nil, Cvl_cons, Cv_bool, Cv_int, Cv_str, Cv_nils, Cv_nilc, Cv_cl, Cv_ow, noFn, PV.noF, NR_iff, NRO, hb, ares, ares1, ldo, ld, nOw, PV.isOw, TY]
    · simp [Nl_upto, nl_Trip, obsT, obT, okO, okP, okA, okC, okD, okI, reP, reA, reC, srcI, Nl_nil, Nl_cons, PV.nl, upd_at, ofL_n, ofL_c, VS, argsT, lendA, lendL, lendT, Cvl_nil, Cvl_cons, Cv_bool, Cv_int, Cv_str, Cv_nils, Cv_nilc, Cv_cl, Cv_ow, noFn, PV.noF, NR_iff, NRO, hb, ares, ares1, ldo, ld, nOw, PV.isOw, TY]
  · have : i = L.length := by simp at h; omega
    subst this
    exact Ret_go [[0]] tS (by simp (config := {contextual := true}) [upto_lt, nl_Trip, obsT, obT, okO, okP, okA, okC, okD, okI, reP, reA, reC, srcI, Nl_nil, Nl_cons, PV.nl, upd_at, ofL_n, ofL_c, VS, argsT, lendA, lendL, lendT, Cvl_nil, Cvl_cons, Cv_bool, Cv_int, Cv_str, Cv_nils, Cv_nilc, Cv_cl, Cv_ow, noFn, PV.noF, NR_iff, NRO, hb, ares, ares1, ldo, ld, nOw, PV.isOw, TY]) (by simp [nl_Trip, obsT, obT, okO, okP, okA, okC, okD, okI, reP, reA, reC, srcI, Nl_nil, Nl_cons, PV.nl, upd_at, ofL_n, ofL_c, VS, argsT, lendA, lendL, lendT, Cvl_nil, Cvl_cons, Cv_bool, Cv_int, Cv_str, Cv_nils, Cv_nilc, Cv_cl, Cv_ow, noFn, PV.noF, NR_iff, NRO, hb, ares, ares1, ldo, ld, nOw, PV.isOw, TY])
theorem c_toWalk (x : Wk_) : AC Try.prog 134 [.ag (pWalk x)] (ML []) (.ag (pWalk x)) (ML []) := by
  refine AC.of Try.func134 rfl rfl (by simp [Try.ntmps134]) rfl (fun C hC hm => ?_)
  rw [Try.ntmps134] at hC
  have hn : C.m0.nx = _ := congrArg Mem.nx hm
  simp only [ML_nx, List.length_nil, List.length_cons, Nat.zero_add, Nat.reduceAdd] at hn
  simp only [hC, pWalk, VS, VZ, TY, openC, foldC, foldN, PF, pick_or, pick_and, aop, aopD, rdN, wrN, idL, idA, apure, AS.ev, startA, strip, abin, aint, astr, alen, aslice, optI, aconv, aconvM, gdv, AS.put, ofVal, pcells, ld, ldo, nOw, PV.isOw, gtmp, within, astore, splice, afill, allCells, okIdx, asrc, aflat, aappend, hintOk, PV.clo, PV.clo1, ofL_n, ofL_c, nams, reO, reP, reA, reC, srcI, setG, obG, List.cons.injEq, aeq1, aeqs, onG, Int.reduceLE, Int.reduceNeg, Int.reduceLT, Nat.reduceEqDiff, ↓reduceIte, Nat.reduceLT, Nat.reduceLeDiff, Nat.reduceAdd, Nat.reduceMul, Nat.reduceSub, reduceCtorEq, Int.reduceEq]
  exact Ret_go [] (by simp [pWalk, obsT, obT, okO, okP, okA, okC, okD, okI, reP, reA, reC, srcI, Nl_nil, Nl_cons, PV.nl, upd_at, ofL_n, ofL_c, VS, argsT, lendA, lendL, lendT, Cvl_nil, Cvl_cons, Cv_bool, Cv_int, Cv_str, Cv_nils, Cv_nilc, Cv_cl, Cv_ow, noFn, PV.noF, NR_iff, NRO, hb, ares, ares1, ldo, ld, nOw, PV.isOw, TY]) (by simp [upd_at, obsT, obT, okO, okP, okA, okC, okD, okI, reP, reA, reC, srcI, Nl_nil, Nl_cons, PV.nl, upd_at, ofL_n, ofL_c, VS, argsT, lendA, lendL, lendT, Cvl_nil, Cvl_cons, Cv_bool, Cv_int, Cv_str, Cv_nils, Cv_nilc, Cv_cl, Cv_ow, noFn, PV.noF, NR_iff, NRO, hb, ares, ares1, ldo, ld, nOw, PV.isOw, TY]) (by simp [upd_at, obsT, obT, okO, okP, okA, okC, okD, okI, reP, reA, reC, srcI, Nl_nil, Nl_cons, PV.nl, upd_at, ofL_n, ofL_c, VS, argsT, lendA, lendL, lendT, Cvl_nil, Cvl_cons, Cv_bool, Cv_int, Cv_str, Cv_nils, Cv_nilc, Cv_cl, Cv_ow, noFn, PV.noF, NR_iff, NRO, hb, ares, ares1, ldo, ld, nOw, PV.isOw, TY])
theorem c_toWalkS (L : List Wk_) (hL : L.length ≤ 1048576) : AC Try.prog 105 [.cl 3 L.length (lpv pWalk L)] (ML []) (.sl [0] 3 L.length 0 L.length) (ML [.row 3 L.length (lpv pWalk L)]) := by
  refine AC.of Try.func105 rfl rfl (by simp [Try.ntmps105]) rfl (fun C hC hm => ?_)
  rw [Try.ntmps105] at hC
  have hn : C.m0.nx = _ := congrArg Mem.nx hm
  simp only [ML_nx, List.length_nil, List.length_cons, Nat.zero_add, Nat.reduceAdd] at hn
  simp only [hC, VS, VZ, TY, openC, foldC, foldN, PF, pick_or, pick_and, aop, aopD, rdN, wrN, idL, idA, apure, AS.ev, startA, strip, abin, aint, astr, alen, aslice, optI, aconv, aconvM, gdv, AS.put, ofVal, pcells, ld, ldo, nOw, PV.isOw, gtmp, within, astore, splice, afill, allCells, okIdx, asrc, aflat, aappend, hintOk, PV.clo, PV.clo1, ofL_n, ofL_c, nams, reO, reP, reA, reC, srcI, setG, obG, List.cons.injEq, aeq1, aeqs, onG, Int.reduceLE, Int.reduceNeg, Int.reduceLT, Nat.reduceEqDiff, ↓reduceIte, Nat.reduceLT, Nat.reduceLeDiff, Nat.reduceAdd, Nat.reduceMul, Nat.reduceSub, reduceCtorEq, Int.reduceEq]
  refine ⟨by omega, ?_⟩
  refine AL.go (X := Nat) (fun i => ⟨ofL [(0, .cl 3 L.length (lpv pWalk L)), (3, .sl [0] 3 L.length 0 L.length), (4, .int .i64 (i : Int))], ML [.row 3 L.length (upto i (lpv pWalk L) (fun _ => [.int .i64 0, .int .i64 0, .int .i64 0]))]⟩) (fun i => L.length - i) (fun i => i ≤ L.length) 0 (by simp)
    (Told_go hn [[0]] tS (by simp [upto_0, obsT, obT, okO, okP, okA, okC, okD, okI, reP, reA, reC, srcI, Nl_nil, Nl_cons, PV.nl, upd_at, ofL_n, ofL_c, VS, argsT, lendA, lendL, lendT, Cvl_nil, Cvl_cons, Cv_bool, Cv_int, Cv_str, Cv_nils, Cv_nilc, Cv_cl, Cv_ow, noFn, PV.noF, NR_iff, NRO, hb, ares, ares1, ldo, ld, nOw, PV.isOw, TY]) (by simp [upto_0, obsT, obT, okO, okP, okA, okC, okD, okI, reP, reA, reC, srcI, Nl_nil, Nl_cons, PV.nl, upd_at, ofL_n, ofL_c, VS, argsT, lendA, lendL, lendT, Cvl_nil, Cvl_cons, Cv_bool, Cv_int, Cv_str, Cv_nils, Cv_nilc, Cv_cl, Cv_ow, noFn, PV.noF, NR_iff, NRO, hb, ares, ares1, ldo, ld, nOw, PV.isOw, TY])) (fun i hi => vc_ok _ _ _ ?_)
  simp only [hC, VS, VZ, TY, openC, foldC, foldN, PF, pick_or, pick_and, aop, aopD, rdN, wrN, idL, idA, apure, AS.ev, startA, strip, abin, aint, astr, alen, aslice, optI, aconv, aconvM, gdv, AS.put, ofVal, pcells, ld, ldo, nOw, PV.isOw, gtmp, within, astore, splice, afill, allCells, okIdx, asrc, aflat, aappend, hintOk, PV.clo, PV.clo1, ofL_n, ofL_c, nams, reO, reP, reA, reC, srcI, setG, obG, List.cons.injEq, aeq1, aeqs, onG, Int.reduceLE, Int.reduceNeg, Int.reduceLT, Nat.reduceEqDiff, ↓reduceIte, Nat.reduceLT, Nat.reduceLeDiff, Nat.reduceAdd, Nat.reduceMul, Nat.reduceSub, reduceCtorEq, Int.reduceEq]
  refine ⟨fun h => ?_, fun h => ?_⟩
  · have h : i < L.length := by simpa using h
    have e : lpv pWalk L i = [.int .i64 L[i].fr, .int .i64 L[i].to, .int .i64 L[i].time] := lpv_at h
    refine ⟨by simpa using h, ?_⟩
    simp only [e, VS, VZ, TY, openC, foldC, foldN, PF, pick_or, pick_and, aop, aopD, rdN, wrN, idL, idA, apure, AS.ev, startA, strip, abin, aint, astr, alen, aslice, optI, aconv, aconvM, gdv, AS.put, ofVal, pcells, ld, ldo, nOw, PV.isOw, gtmp, within, astore, splice, afill, allCells, okIdx, asrc, aflat, aappend, hintOk, PV.clo, PV.clo1, ofL_n, ofL_c, nams, reO, reP, reA, reC, srcI, setG, obG, List.cons.injEq, aeq1, aeqs, onG, Int.reduceLE, Int.reduceNeg, Int.reduceLT, Nat.reduceEqDiff, ↓reduceIte, Nat.reduceLT, Nat.reduceLeDiff, Nat.reduceAdd, Nat.reduceMul, Nat.reduceSub, reduceCtorEq, Int.reduceEq]
    refine acall_p false (c_toWalk L[i]) (by simp [pWalk, obsT, obT, okO, okP, okA, okC, okD, okI, reP, reA, reC, srcI, Nl_nil, Nl_cons, PV.nl, upd_at, ofL_n, ofL_c, VS, argsT, lendA, lendL, lendT, Cvl_nil, Cvl_cons, Cv_bool, Cv_int, Cv_str, Cv_nils, Cv_nilc, Cv_cl, Cv_ow, noFn, PV.noF, NR_iff, NRO, hb, ares, ares1, ldo, ld, nOw, PV.isOw, TY]) (by simp [pWalk, obsT, obT, okO, okP, okA, okC, okD, okI, reP, reA, reC, srcI, Nl_nil, Nl_cons, PV.nl, upd_at, ofL_n, ofL_c, VS, argsT, lendA, lendL, lendT, Cvl_nil, Cvl_cons, Cv_bool, Cv_int, Cv_str, Cv_nils, Cv_nilc, Cv_cl, Cv_ow, noFn, PV.noF, NR_iff, NRO, hb, ares, ares1, ldo, ld, nOw, PV.isOw, TY]) (.inl rfl) ?_
    simp only [hC, pWalk, VS, VZ, TY, openC, foldC, foldN, PF, pick_or, pick_and, aop, aopD, rdN, wrN, idL, idA, apure, AS.ev, startA, strip, abin, aint, astr, alen, aslice, optI, aconv, aconvM, gdv, AS.put, ofVal, pcells, ld, ldo, nOw, PV.isOw, gtmp, within, astore, splice, afill, allCells, okIdx, asrc, aflat, aappend, hintOk, PV.clo, PV.clo1, ofL_n, ofL_c, nams, reO, reP, reA, reC, srcI, setG, obG, List.cons.injEq, aeq1, aeqs, onG, Int.reduceLE, Int.reduceNeg, Int.reduceLT, Nat.reduceEqDiff, ↓reduceIte, Nat.reduceLT, Nat.reduceLeDiff, Nat.reduceAdd, Nat.reduceMul, Nat.reduceSub, reduceCtorEq, Int.reduceEq]
    simp (disch := omega) only [wr64]
    refine ⟨by simpa using h, i + 1, by omega, by omega, Told_go hn [[0]] tS ?_ ?_⟩
    · simp only [obsT, obT, VS, VZ, TY, openC, foldC, foldN, PF, pick_or, pick_and, aop, aopD, rdN, wrN, idL, idA, apure, AS.ev, startA, strip, abin, aint, astr, alen, aslice, optI, aconv, aconvM, gdv, AS.put, ofVal, pcells, ld, ldo, nOw, PV.isOw, gtmp, within, astore, splice, afill, allCells, okIdx, asrc, aflat, aappend, hintOk, PV.clo, PV.clo1, ofL_n, ofL_c, nams, reO, reP, reA, reC, srcI, setG, obG, List.cons.injEq, aeq1, aeqs, onG, Int.reduceLE, Int.reduceNeg, Int.reduceLT, Nat.reduceEqDiff, ↓reduceIte, Nat.reduceLT, Nat.reduceLeDiff, Nat.reduceAdd, Nat.reduceMul, Nat.reduceSub, reduceCtorEq, Int.reduceEq]
      intro j hj
      by_cases q : j = i
      · subst q; simp [upto_eq, e, obsT, obT, okO, okP, okA, okC, okD, okI, reP, reA, reC, srcI, Nl_nil, Nl_cons, PV.nl, upd_at, ofL_n, ofL_c, VS, argsT, lendA, lendL, lendT, Cvl_nil, Cvl_cons, Cv_bool, Cv_int, Cv_str, Cv_nils, Cv_nilc, Cv_cl, Cv_ow, noFn, PV.noF, NR_iff, NRO, hb, ares, ares1, ldo, ld, nOw, PV.isOw, TY]
      · simp [upto_ne q, q, Nl_upto, nl_Walk, obsT, obT, okO, okP, okA, okC, okD, okI, reP, reA, reC, srcI, Nl_nil, Nl_cons, PV.nl, upd_at, ofL_n, ofL_c, VS, argsT, lendA, lendL, lendT, Cvl_nil, Cvl_cons, Cv_bool, Cv_int, Cv_str, Cv_nils, Cv_nilc, Cv_cl, Cv_ow, noFn, PV.noF, NR_iff, NRO, hb, ares, ares1, ldo, ld, nOw, PV.isOw, TY]
    · simp [Nl_upto, nl_Walk, obsT, obT, okO, okP, okA, okC, okD, okI, reP, reA, reC, srcI, Nl_nil, Nl_cons, PV.nl, upd_at, ofL_n, ofL_c, VS, argsT, lendA, lendL, lendT, Cvl_nil, Cvl_cons, Cv_bool, Cv_int, Cv_str, Cv_nils, Cv_nilc, Cv_cl, Cv_ow, noFn, PV.noF, NR_iff, NRO, hb, ares, ares1, ldo, ld, nOw, PV.isOw, TY]
  · have : i = L.length := by simp at h; omega
    subst this
    exact Ret_go [[0]] tS (by simp (config := {contextual := true}) [upto_lt, nl_Walk, obsT, obT, okO, okP, okA, okC, okD, okI, reP, reA, reC, srcI, Nl_nil, Nl_cons, PV.nl, upd_at, ofL_n, ofL_c, VS, argsT, lendA, lendL, lendT, Cvl_nil, Cvl_cons, Cv_bool, Cv_int, Cv_str, Cv_nils, Cv_nilc, Cv_cl, Cv_ow, noFn, PV.noF, NR_iff, NRO, hb, ares, ares1, ldo, ld, nOw, PV.isOw, TY]) (by simp [nl_Walk, obsT, obT, okO, okP, okA, okC, okD, okI, reP, reA, reC, srcI, Nl_nil, Nl_cons, PV.nl, upd_at, ofL_n, ofL_c, VS, argsT, lendA, lendL, lendT, Cvl_nil, Cvl_cons, Cv_bool, Cv_int, Cv_str, Cv_nils, Cv_nilc, Cv_cl, Cv_ow, noFn, PV.noF, NR_iff, NRO, hb, ares, ares1, ldo, ld, nOw, PV.isOw, TY])
theorem c_toStringS (L : List ByteArray) (hL : L.length ≤ 1048576) : AC Try.prog 103 [.cl 1 L.length (lpv pString L)] (ML []) (.sl [0] 1 L.length 0 L.length) (ML [.row 1 L.length (lpv pString L)]) := by
  refine AC.of Try.func103 rfl rfl (by simp [Try.ntmps103]) rfl (fun C hC hm => ?_)
  rw [Try.ntmps103] at hC
  have hn : C.m0.nx = _ := congrArg Mem.nx hm
  simp only [ML_nx, List.length_nil, List.length_cons, Nat.zero_add, Nat.reduceAdd] at hn
  simp only [hC, VS, VZ, TY, openC, foldC, foldN, PF, pick_or, pick_and, aop, aopD, rdN, wrN, idL, idA, apure, AS.ev, startA, strip, abin, aint, astr, alen, aslice, optI, aconv, aconvM, gdv, AS.put, ofVal, pcells, ld, ldo, nOw, PV.isOw, gtmp, within, astore, splice, afill, allCells, okIdx, asrc, aflat, aappend, hintOk, PV.clo, PV.clo1, ofL_n, ofL_c, nams, reO, reP, reA, reC, srcI, setG, obG, List.cons.injEq, aeq1, aeqs, onG, Int.reduceLE, Int.reduceNeg, Int.reduceLT, Nat.reduceEqDiff, ↓reduceIte, Nat.reduceLT, Nat.reduceLeDiff, Nat.reduceAdd, Nat.reduceMul, Nat.reduceSub, reduceCtorEq, Int.reduceEq]
  refine ⟨by omega, ?_⟩
  refine AL.go (X := Nat) (fun i => ⟨ofL [(0, .cl 1 L.length (lpv pString L)), (3, .sl [0] 1 L.length 0 L.length), (4, .int .i64 (i : Int))], ML [.row 1 L.length (upto i (lpv pString L) (fun _ => [.str ByteArray.empty]))]⟩) (fun i => L.length - i) (fun i => i ≤ L.length) 0 (by simp)
    (Told_go hn [[0]] tS (by simp [upto_0, obsT, obT, okO, okP, okA, okC, okD, okI, reP, reA, reC, srcI, Nl_nil, Nl_cons, PV.nl, upd_at, ofL_n, ofL_c, VS, argsT, lendA, lendL, lendT, Cvl_nil, Cvl_cons, Cv_bool, Cv_int, Cv_str, Cv_nils, Cv_nilc, Cv_cl, Cv_ow, noFn, PV.noF, NR_iff, NRO, hb, ares, ares1, ldo, ld, nOw, PV.isOw, TY]) (by simp [upto_0, obsT, obT, okO, okP, okA, okC, okD, okI, reP, reA, reC, srcI, Nl_nil, Nl_cons, PV.nl, upd_at, ofL_n, ofL_c, VS, argsT, lendA, lendL, lendT, Cvl_nil, Cvl_cons, Cv_bool, Cv_int, Cv_str, Cv_nils, Cv_nilc, Cv_cl, Cv_ow, noFn, PV.noF, NR_iff, NRO, hb, ares, ares1, ldo, ld, nOw, PV.isOw, TY])) (fun i hi => vc_ok _ _ _ ?_)
  simp only [hC, VS, VZ, TY, openC, foldC, foldN, PF, pick_or, pick_and, aop, aopD, rdN, wrN, idL, idA, apure, AS.ev, startA, strip, abin, aint, astr, alen, aslice, optI, aconv, aconvM, gdv, AS.put, ofVal, pcells, ld, ldo, nOw, PV.isOw, gtmp, within, astore, splice, afill, allCells, okIdx, asrc, aflat, aappend, hintOk, PV.clo, PV.clo1, ofL_n, ofL_c, nams, reO, reP, reA, reC, srcI, setG, obG, List.cons.injEq, aeq1, aeqs, onG, Int.reduceLE, Int.reduceNeg, Int.reduceLT, Nat.reduceEqDiff, ↓reduceIte, Nat.reduceLT, Nat.reduceLeDiff, Nat.reduceAdd, Nat.reduceMul, Nat.reduceSub, reduceCtorEq, Int.reduceEq]
  refine ⟨fun h => ?_, fun h => ?_⟩
  · have h : i < L.length := by simpa using h
    have e : lpv pString L i = [.str L[i]] := lpv_at h
    refine ⟨by simpa using h, ?_⟩
    simp only [e, VS, VZ, TY, openC, foldC, foldN, PF, pick_or, pick_and, aop, aopD, rdN, wrN, idL, idA, apure, AS.ev, startA, strip, abin, aint, astr, alen, aslice, optI, aconv, aconvM, gdv, AS.put, ofVal, pcells, ld, ldo, nOw, PV.isOw, gtmp, within, astore, splice, afill, allCells, okIdx, asrc, aflat, aappend, hintOk, PV.clo, PV.clo1, ofL_n, ofL_c, nams, reO, reP, reA, reC, srcI, setG, obG, List.cons.injEq, aeq1, aeqs, onG, Int.reduceLE, Int.reduceNeg, Int.reduceLT, Nat.reduceEqDiff, ↓reduceIte, Nat.reduceLT, Nat.reduceLeDiff, Nat.reduceAdd, Nat.reduceMul, Nat.reduceSub, reduceCtorEq, Int.reduceEq]
    simp (disch := omega) only [wr64]
    refine ⟨by simpa using h, i + 1, by omega, by omega, Told_go hn [[0]] tS ?_ ?_⟩
    · simp only [obsT, obT, VS, VZ, TY, openC, foldC, foldN, PF, pick_or, pick_and, aop, aopD, rdN, wrN, idL, idA, apure, AS.ev, startA, strip, abin, aint, astr, alen, aslice, optI, aconv, aconvM, gdv, AS.put, ofVal, pcells, ld, ldo, nOw, PV.isOw, gtmp, within, astore, splice, afill, allCells, okIdx, asrc, aflat, aappend, hintOk, PV.clo, PV.clo1, ofL_n, ofL_c, nams, reO, reP, reA, reC, srcI, setG, obG, List.cons.injEq, aeq1, aeqs, onG, Int.reduceLE, Int.reduceNeg, Int.reduceLT, Nat.reduceEqDiff, ↓reduceIte, Nat.reduceLT, Nat.reduceLeDiff, Nat.reduceAdd, Nat.reduceMul, Nat.reduceSub, reduceCtorEq, Int.reduceEq]
      intro j hj
      by_cases q : j = i
      · subst q; simp [upto_eq, e, obsT, obT, okO, okP, okA, okC, okD, okI, reP, reA, reC, srcI, Nl_nil, Nl_cons, PV.nl, upd_at, ofL_n, ofL_c, VS, argsT, lendA, lendL, lendT, Cvl_nil, Cvl_cons, Cv_bool, Cv_int, Cv_str, Cv_nils, Cv_nilc, Cv_cl, Cv_ow, noFn, PV.noF, NR_iff, NRO, hb, ares, ares1, ldo, ld, nOw, PV.isOw, TY]
      · simp [upto_ne q, q, Nl_upto, nl_String, obsT, obT, okO, okP, okA, okC, okD, okI, reP, reA, reC, srcI, Nl_nil, Nl_cons, PV.nl, upd_at, ofL_n, ofL_c, VS, argsT, lendA, lendL, lendT, Cvl_nil, Cvl_cons, Cv_bool, Cv_int, Cv_str, Cv_nils, Cv_nilc, Cv_cl, Cv_ow, noFn, PV.noF, NR_iff, NRO, hb, ares, ares1, ldo, ld, nOw, PV.isOw, TY]
    · simp [Nl_upto, nl_String, obsT, obT, okO, okP, okA, okC, okD, okI, reP, reA, reC, srcI, Nl_nil, Nl_cons, PV.nl, upd_at, ofL_n, ofL_c, VS, argsT, lendA, lendL, lendT, Cvl_nil, Cvl_cons, Cv_bool, Cv_int, Cv_str, Cv_nils, Cv_nilc, Cv_cl, Cv_ow, noFn, PV.noF, NR_iff, NRO, hb, ares, ares1, ldo, ld, nOw, PV.isOw, TY]
  · have : i = L.length := by simp at h; omega
    subst this
    exact Ret_go [[0]] tS (by simp (config := {contextual := true}) [upto_lt, nl_String, obsT, obT, okO, okP, okA, okC, okD, okI, reP, reA, reC, srcI, Nl_nil, Nl_cons, PV.nl, upd_at, ofL_n, ofL_c, VS, argsT, lendA, lendL, lendT, Cvl_nil, Cvl_cons, Cv_bool, Cv_int, Cv_str, Cv_nils, Cv_nilc, Cv_cl, Cv_ow, noFn, PV.noF, NR_iff, NRO, hb, ares, ares1, ldo, ld, nOw, PV.isOw, TY]) (by simp [nl_String, obsT, obT, okO, okP, okA, okC, okD, okI, reP, reA, reC, srcI, Nl_nil, Nl_cons, PV.nl, upd_at, ofL_n, ofL_c, VS, argsT, lendA, lendL, lendT, Cvl_nil, Cvl_cons, Cv_bool, Cv_int, Cv_str, Cv_nils, Cv_nilc, Cv_cl, Cv_ow, noFn, PV.noF, NR_iff, NRO, hb, ares, ares1, ldo, ld, nOw, PV.isOw, TY])
theorem c_toLines (x : Ln) (hx : bLines x) : AC Try.prog 53 [.ag (cLines x)] (ML []) (.ag [.sl [0] 1 x.stops.length 0 x.stops.length, .sl [1] 3 x.trips.length 0 x.trips.length, .sl [2] 3 x.walks.length 0 x.walks.length]) (ML [.row 1 x.stops.length (lpv pString x.stops), .row 3 x.trips.length (lpv oTrip x.trips), .row 3 x.walks.length (lpv pWalk x.walks)]) := by
  refine AC.of Try.func53 rfl rfl (by simp [Try.ntmps53]) rfl (fun C hC hm => ?_)
  rw [Try.ntmps53] at hC
  have hn : C.m0.nx = _ := congrArg Mem.nx hm
  simp only [ML_nx, List.length_nil, List.length_cons, Nat.zero_add, Nat.reduceAdd] at hn
  simp only [bLines] at hx
  simp only [hC, cLines, VS, VZ, TY, openC, foldC, foldN, PF, pick_or, pick_and, aop, aopD, rdN, wrN, idL, idA, apure, AS.ev, startA, strip, abin, aint, astr, alen, aslice, optI, aconv, aconvM, gdv, AS.put, ofVal, pcells, ld, ldo, nOw, PV.isOw, gtmp, within, astore, splice, afill, allCells, okIdx, asrc, aflat, aappend, hintOk, PV.clo, PV.clo1, ofL_n, ofL_c, nams, reO, reP, reA, reC, srcI, setG, obG, List.cons.injEq, aeq1, aeqs, onG, Int.reduceLE, Int.reduceNeg, Int.reduceLT, Nat.reduceEqDiff, ↓reduceIte, Nat.reduceLT, Nat.reduceLeDiff, Nat.reduceAdd, Nat.reduceMul, Nat.reduceSub, reduceCtorEq, Int.reduceEq]
  refine acall_go false [] (c_toStringS x.stops (by simp_all)) tS tS (by simp) (by simp) tS (by simp [nl_String, obsT, obT, okO, okP, okA, okC, okD, okI, reP, reA, reC, srcI, Nl_nil, Nl_cons, PV.nl, upd_at, ofL_n, ofL_c, VS, argsT, lendA, lendL, lendT, Cvl_nil, Cvl_cons, Cv_bool, Cv_int, Cv_str, Cv_nils, Cv_nilc, Cv_cl, Cv_ow, noFn, PV.noF, NR_iff, NRO, hb, ares, ares1, ldo, ld, nOw, PV.isOw, TY]) (.inl rfl) ?_
  simp only [hC, VS, VZ, TY, openC, foldC, foldN, PF, pick_or, pick_and, aop, aopD, rdN, wrN, idL, idA, apure, AS.ev, startA, strip, abin, aint, astr, alen, aslice, optI, aconv, aconvM, gdv, AS.put, ofVal, pcells, ld, ldo, nOw, PV.isOw, gtmp, within, astore, splice, afill, allCells, okIdx, asrc, aflat, aappend, hintOk, PV.clo, PV.clo1, ofL_n, ofL_c, nams, reO, reP, reA, reC, srcI, setG, obG, List.cons.injEq, aeq1, aeqs, onG, Int.reduceLE, Int.reduceNeg, Int.reduceLT, Nat.reduceEqDiff, ↓reduceIte, Nat.reduceLT, Nat.reduceLeDiff, Nat.reduceAdd, Nat.reduceMul, Nat.reduceSub, reduceCtorEq, Int.reduceEq]
  refine acall_go false [] (c_toTripS x.trips (by simp_all) (by simp_all)) tS tS (by simp) (by simp) tS (by simp [nl_Call, nl_Trip, obsT, obT, okO, okP, okA, okC, okD, okI, reP, reA, reC, srcI, Nl_nil, Nl_cons, PV.nl, upd_at, ofL_n, ofL_c, VS, argsT, lendA, lendL, lendT, Cvl_nil, Cvl_cons, Cv_bool, Cv_int, Cv_str, Cv_nils, Cv_nilc, Cv_cl, Cv_ow, noFn, PV.noF, NR_iff, NRO, hb, ares, ares1, ldo, ld, nOw, PV.isOw, TY]) (.inl rfl) ?_
  simp only [hC, VS, VZ, TY, openC, foldC, foldN, PF, pick_or, pick_and, aop, aopD, rdN, wrN, idL, idA, apure, AS.ev, startA, strip, abin, aint, astr, alen, aslice, optI, aconv, aconvM, gdv, AS.put, ofVal, pcells, ld, ldo, nOw, PV.isOw, gtmp, within, astore, splice, afill, allCells, okIdx, asrc, aflat, aappend, hintOk, PV.clo, PV.clo1, ofL_n, ofL_c, nams, reO, reP, reA, reC, srcI, setG, obG, List.cons.injEq, aeq1, aeqs, onG, Int.reduceLE, Int.reduceNeg, Int.reduceLT, Nat.reduceEqDiff, ↓reduceIte, Nat.reduceLT, Nat.reduceLeDiff, Nat.reduceAdd, Nat.reduceMul, Nat.reduceSub, reduceCtorEq, Int.reduceEq]
  refine acall_go false [] (c_toWalkS x.walks (by simp_all)) tS tS (by simp) (by simp) tS (by simp [nl_Walk, obsT, obT, okO, okP, okA, okC, okD, okI, reP, reA, reC, srcI, Nl_nil, Nl_cons, PV.nl, upd_at, ofL_n, ofL_c, VS, argsT, lendA, lendL, lendT, Cvl_nil, Cvl_cons, Cv_bool, Cv_int, Cv_str, Cv_nils, Cv_nilc, Cv_cl, Cv_ow, noFn, PV.noF, NR_iff, NRO, hb, ares, ares1, ldo, ld, nOw, PV.isOw, TY]) (.inl rfl) ?_
  simp only [hC, VS, VZ, TY, openC, foldC, foldN, PF, pick_or, pick_and, aop, aopD, rdN, wrN, idL, idA, apure, AS.ev, startA, strip, abin, aint, astr, alen, aslice, optI, aconv, aconvM, gdv, AS.put, ofVal, pcells, ld, ldo, nOw, PV.isOw, gtmp, within, astore, splice, afill, allCells, okIdx, asrc, aflat, aappend, hintOk, PV.clo, PV.clo1, ofL_n, ofL_c, nams, reO, reP, reA, reC, srcI, setG, obG, List.cons.injEq, aeq1, aeqs, onG, Int.reduceLE, Int.reduceNeg, Int.reduceLT, Nat.reduceEqDiff, ↓reduceIte, Nat.reduceLT, Nat.reduceLeDiff, Nat.reduceAdd, Nat.reduceMul, Nat.reduceSub, reduceCtorEq, Int.reduceEq]
  exact Ret_go [[3], [4], [5]] (by simp [cLines, obsT, obT, okO, okP, okA, okC, okD, okI, reP, reA, reC, srcI, Nl_nil, Nl_cons, PV.nl, upd_at, ofL_n, ofL_c, VS, argsT, lendA, lendL, lendT, Cvl_nil, Cvl_cons, Cv_bool, Cv_int, Cv_str, Cv_nils, Cv_nilc, Cv_cl, Cv_ow, noFn, PV.noF, NR_iff, NRO, hb, ares, ares1, ldo, ld, nOw, PV.isOw, TY]) (by simp [nl_String, nl_Call, nl_Trip, nl_Walk, nl_Lines, obsT, obT, okO, okP, okA, okC, okD, okI, reP, reA, reC, srcI, Nl_nil, Nl_cons, PV.nl, upd_at, ofL_n, ofL_c, VS, argsT, lendA, lendL, lendT, Cvl_nil, Cvl_cons, Cv_bool, Cv_int, Cv_str, Cv_nils, Cv_nilc, Cv_cl, Cv_ow, noFn, PV.noF, NR_iff, NRO, hb, ares, ares1, ldo, ld, nOw, PV.isOw, TY]) (by simp [nl_String, nl_Call, nl_Trip, nl_Walk, nl_Lines, obsT, obT, okO, okP, okA, okC, okD, okI, reP, reA, reC, srcI, Nl_nil, Nl_cons, PV.nl, upd_at, ofL_n, ofL_c, VS, argsT, lendA, lendL, lendT, Cvl_nil, Cvl_cons, Cv_bool, Cv_int, Cv_str, Cv_nils, Cv_nilc, Cv_cl, Cv_ow, noFn, PV.noF, NR_iff, NRO, hb, ares, ares1, ldo, ld, nOw, PV.isOw, TY])
end Go.Proofs.Ytmmlpehfieojdaa.Wd
namespace Go.Proofs.Ytmmlpehfieojdaa.Wd
open Go Go.RowKit Go.Proofs Go.Proofs.YtmmlpehfieojdaaW.AW
set_option linter.unusedVariables false
set_option linter.unusedSimpArgs false
set_option maxRecDepth 100000
def allI (f : Nat → Bool) : Nat → Nat → Bool
  | _, 0 => true
  | i, d + 1 => f i && allI f (i + 1) d
theorem allI_step {f : Nat → Bool} {i n : Nat} (h : i < n) : allI f i (n - i) = (f i && allI f (i + 1) (n - (i + 1))) := by
  rw [show n - i = (n - (i + 1)) + 1 by omega, allI]
theorem allI_iff {f : Nat → Bool} : ∀ (d i : Nat), allI f i d = true ↔ ∀ j, i ≤ j → j < i + d → f j = true
  | 0, i => ⟨fun _ j h1 h2 => by omega, fun _ => rfl⟩
  | d + 1, i => by
    rw [allI, Bool.and_eq_true, allI_iff d (i + 1)]
    constructor
    · rintro ⟨h1, h2⟩ j h3 h4
      by_cases e : j = i
      · subst e; exact h1
      · exact h2 j (by omega) (by omega)
    · intro h
      exact ⟨h i (by omega) (by omega), fun j h3 h4 => h j (by omega) (by omega)⟩
def vcB (c : Int) : Bool := decide (32 ≤ c) && decide (c ≤ 126)
def valB (s : ByteArray) : Bool := decide (1 ≤ s.size) && decide (s.size ≤ 100) && allI (fun i => vcB (bt s i)) 0 s.size
theorem cs_value (s : ByteArray) (hs : s.size ≤ 9223372036854775807) : AC Try.prog 131 [.str s] (ML []) (.bool (valB s)) (ML []) := by
  refine AC.of Try.func131 rfl rfl (by simp [Try.ntmps131]) rfl (fun C hC hm => ?_)
  rw [Try.ntmps131] at hC
  have hn : C.m0.nx = _ := congrArg Mem.nx hm
  simp only [ML_nx, List.length_nil, List.length_cons, Nat.zero_add, Nat.reduceAdd] at hn
  simp only [hC, VS, VZ, TY, openC, foldC, foldN, PF, pick_or, pick_and, aop, aopD, rdN, wrN, idL, idA, apure, AS.ev, startA, strip, abin, aint, astr, alen, aslice, optI, aconv, aconvM, gdv, AS.put, ofVal, pcells, ld, ldo, nOw, PV.isOw, gtmp, within, astore, splice, afill, allCells, okIdx, asrc, aflat, aappend, hintOk, PV.clo, PV.clo1, ofL_n, ofL_c, nams, reO, reP, reA, reC, srcI, setG, obG, List.cons.injEq, aeq1, aeqs, onG, Int.reduceLE, Int.reduceNeg, Int.reduceLT, Nat.reduceEqDiff, ↓reduceIte, Nat.reduceLT, Nat.reduceLeDiff, Nat.reduceAdd, Nat.reduceMul, Nat.reduceSub, reduceCtorEq, Int.reduceEq]
  refine AL.go (X := Nat) (fun i => ⟨ofL [(0, .str s), (3, .int .i64 (i : Int))], ML []⟩) (fun i => s.size - i) (fun i => i ≤ s.size ∧ allI (fun i => vcB (bt s i)) i (s.size - i) = allI (fun i => vcB (bt s i)) 0 s.size) 0 (by simp)
    (Told_go hn [] tS tS tS) (fun i hi => vc_ok _ _ _ ?_)
  obtain ⟨hi, ha⟩ := hi
  simp only [hC, VS, VZ, TY, openC, foldC, foldN, PF, pick_or, pick_and, aop, aopD, rdN, wrN, idL, idA, apure, AS.ev, startA, strip, abin, aint, astr, alen, aslice, optI, aconv, aconvM, gdv, AS.put, ofVal, pcells, ld, ldo, nOw, PV.isOw, gtmp, within, astore, splice, afill, allCells, okIdx, asrc, aflat, aappend, hintOk, PV.clo, PV.clo1, ofL_n, ofL_c, nams, reO, reP, reA, reC, srcI, setG, obG, List.cons.injEq, aeq1, aeqs, onG, Int.reduceLE, Int.reduceNeg, Int.reduceLT, Nat.reduceEqDiff, ↓reduceIte, Nat.reduceLT, Nat.reduceLeDiff, Nat.reduceAdd, Nat.reduceMul, Nat.reduceSub, reduceCtorEq, Int.reduceEq]
  refine ⟨fun h1 => ?_, fun h1 => ?_⟩
  · have h1 : i < s.size := by simpa using h1
    rw [allI_step h1] at ha
    refine ⟨by omega, fun _ => by omega, fun h2 => ?_, fun h2 => ?_⟩
    · have h2 : vcB (bt s i) = false := by simp [vcB] at h2 ⊢; omega
      rw [h2, Bool.false_and] at ha
      exact Ret_go [] (by simp [valB, ← ha, obsT, obT, okO, okP, okA, okC, okD, okI, reP, reA, reC, srcI, Nl_nil, Nl_cons, PV.nl, upd_at, ofL_n, ofL_c, VS, argsT, lendA, lendL, lendT, Cvl_nil, Cvl_cons, Cv_bool, Cv_int, Cv_str, Cv_nils, Cv_nilc, Cv_cl, Cv_ow, noFn, PV.noF, NR_iff, NRO, hb, ares, ares1, ldo, ld, nOw, PV.isOw, TY]) tS tS
    · have h2 : vcB (bt s i) = true := by simp [vcB] at h2 ⊢; omega
      rw [h2, Bool.true_and] at ha
      simp (disch := omega) only [wr64]
      exact ⟨i + 1, ⟨by omega, ha⟩, by omega, Told_go hn [] tS tS tS⟩
  · have : i = s.size := by simp at h1; omega
    subst this
    rw [Nat.sub_self, allI] at ha
    exact Ret_go [] (by simp [valB, ← ha, obsT, obT, okO, okP, okA, okC, okD, okI, reP, reA, reC, srcI, Nl_nil, Nl_cons, PV.nl, upd_at, ofL_n, ofL_c, VS, argsT, lendA, lendL, lendT, Cvl_nil, Cvl_cons, Cv_bool, Cv_int, Cv_str, Cv_nils, Cv_nilc, Cv_cl, Cv_ow, noFn, PV.noF, NR_iff, NRO, hb, ares, ares1, ldo, ld, nOw, PV.isOw, TY]; congr 1 <;> (rw [decide_eq_decide]; omega)) tS tS
theorem ci_name (s : ByteArray) (hs : s.size ≤ 9223372036854775807) : AC Try.prog 77 [.str s] (ML []) (.bool (valB s)) (ML []) := by
  refine AC.of Try.func77 rfl rfl (by simp [Try.ntmps77]) rfl (fun C hC hm => ?_)
  rw [Try.ntmps77] at hC
  have hn : C.m0.nx = _ := congrArg Mem.nx hm
  simp only [ML_nx, List.length_nil, List.length_cons, Nat.zero_add, Nat.reduceAdd] at hn
  simp only [hC, VS, VZ, TY, openC, foldC, foldN, PF, pick_or, pick_and, aop, aopD, rdN, wrN, idL, idA, apure, AS.ev, startA, strip, abin, aint, astr, alen, aslice, optI, aconv, aconvM, gdv, AS.put, ofVal, pcells, ld, ldo, nOw, PV.isOw, gtmp, within, astore, splice, afill, allCells, okIdx, asrc, aflat, aappend, hintOk, PV.clo, PV.clo1, ofL_n, ofL_c, nams, reO, reP, reA, reC, srcI, setG, obG, List.cons.injEq, aeq1, aeqs, onG, Int.reduceLE, Int.reduceNeg, Int.reduceLT, Nat.reduceEqDiff, ↓reduceIte, Nat.reduceLT, Nat.reduceLeDiff, Nat.reduceAdd, Nat.reduceMul, Nat.reduceSub, reduceCtorEq, Int.reduceEq]
  refine ⟨fun h => ?_, fun h => ?_⟩
  · have h : ¬ (1 ≤ s.size ∧ s.size ≤ 100) := by simp at h; omega
    exact Ret_go [] (by simp [valB, obsT, obT, okO, okP, okA, okC, okD, okI, reP, reA, reC, srcI, Nl_nil, Nl_cons, PV.nl, upd_at, ofL_n, ofL_c, VS, argsT, lendA, lendL, lendT, Cvl_nil, Cvl_cons, Cv_bool, Cv_int, Cv_str, Cv_nils, Cv_nilc, Cv_cl, Cv_ow, noFn, PV.noF, NR_iff, NRO, hb, ares, ares1, ldo, ld, nOw, PV.isOw, TY]; omega) tS tS
  have h0 : 1 ≤ s.size ∧ s.size ≤ 100 := by simp at h; omega
  refine AL.go (X := Nat) (fun i => ⟨ofL [(0, .str s), (3, .int .i64 (i : Int))], ML []⟩) (fun i => s.size - i) (fun i => i ≤ s.size ∧ allI (fun i => vcB (bt s i)) i (s.size - i) = allI (fun i => vcB (bt s i)) 0 s.size) 0 (by simp)
    (Told_go hn [] tS tS tS) (fun i hi => vc_ok _ _ _ ?_)
  obtain ⟨hi, ha⟩ := hi
  simp only [hC, VS, VZ, TY, openC, foldC, foldN, PF, pick_or, pick_and, aop, aopD, rdN, wrN, idL, idA, apure, AS.ev, startA, strip, abin, aint, astr, alen, aslice, optI, aconv, aconvM, gdv, AS.put, ofVal, pcells, ld, ldo, nOw, PV.isOw, gtmp, within, astore, splice, afill, allCells, okIdx, asrc, aflat, aappend, hintOk, PV.clo, PV.clo1, ofL_n, ofL_c, nams, reO, reP, reA, reC, srcI, setG, obG, List.cons.injEq, aeq1, aeqs, onG, Int.reduceLE, Int.reduceNeg, Int.reduceLT, Nat.reduceEqDiff, ↓reduceIte, Nat.reduceLT, Nat.reduceLeDiff, Nat.reduceAdd, Nat.reduceMul, Nat.reduceSub, reduceCtorEq, Int.reduceEq]
  refine ⟨fun h1 => ?_, fun h1 => ?_⟩
  · have h1 : i < s.size := by simpa using h1
    rw [allI_step h1] at ha
    refine ⟨by omega, fun _ => by omega, fun h2 => ?_, fun h2 => ?_⟩
    · have h2 : vcB (bt s i) = false := by simp [vcB] at h2 ⊢; omega
      rw [h2, Bool.false_and] at ha
      exact Ret_go [] (by simp [valB, ← ha, obsT, obT, okO, okP, okA, okC, okD, okI, reP, reA, reC, srcI, Nl_nil, Nl_cons, PV.nl, upd_at, ofL_n, ofL_c, VS, argsT, lendA, lendL, lendT, Cvl_nil, Cvl_cons, Cv_bool, Cv_int, Cv_str, Cv_nils, Cv_nilc, Cv_cl, Cv_ow, noFn, PV.noF, NR_iff, NRO, hb, ares, ares1, ldo, ld, nOw, PV.isOw, TY]) tS tS
    · have h2 : vcB (bt s i) = true := by simp [vcB] at h2 ⊢; omega
      rw [h2, Bool.true_and] at ha
      simp (disch := omega) only [wr64]
      exact ⟨i + 1, ⟨by omega, ha⟩, by omega, Told_go hn [] tS tS tS⟩
  · have : i = s.size := by simp at h1; omega
    subst this
    rw [Nat.sub_self, allI] at ha
    exact Ret_go [] (by simp [valB, h0, ← ha, obsT, obT, okO, okP, okA, okC, okD, okI, reP, reA, reC, srcI, Nl_nil, Nl_cons, PV.nl, upd_at, ofL_n, ofL_c, VS, argsT, lendA, lendL, lendT, Cvl_nil, Cvl_cons, Cv_bool, Cv_int, Cv_str, Cv_nils, Cv_nilc, Cv_cl, Cv_ow, noFn, PV.noF, NR_iff, NRO, hb, ares, ares1, ldo, ld, nOw, PV.isOw, TY]) tS tS
def stA (l : List ByteArray) (i : Nat) : ByteArray := l.getD i ByteArray.empty
theorem stA_at {l : List ByteArray} {i : Nat} (h : i < l.length) : stA l i = l[i] := by simp [stA, h]
theorem stA_pv {l : List ByteArray} {i : Nat} (h : i < l.length) : lpv pString l i = pString (stA l i) := by rw [stA_at h]; exact lpv_at h
def clA (l : List Cl) (i : Nat) : Cl := l.getD i ⟨0, 0, 0⟩
theorem clA_at {l : List Cl} {i : Nat} (h : i < l.length) : clA l i = l[i] := by simp [clA, h]
theorem clA_pv {l : List Cl} {i : Nat} (h : i < l.length) : lpv pCall l i = pCall (clA l i) := by rw [clA_at h]; exact lpv_at h
def tpA (l : List Tp) (i : Nat) : Tp := l.getD i ⟨ByteArray.empty, 0, []⟩
theorem tpA_at {l : List Tp} {i : Nat} (h : i < l.length) : tpA l i = l[i] := by simp [tpA, h]
theorem tpA_pv {l : List Tp} {i : Nat} (h : i < l.length) : lpv cTrip l i = cTrip (tpA l i) := by rw [tpA_at h]; exact lpv_at h
def wkA (l : List Wk_) (i : Nat) : Wk_ := l.getD i ⟨0, 0, 0⟩
theorem wkA_at {l : List Wk_} {i : Nat} (h : i < l.length) : wkA l i = l[i] := by simp [wkA, h]
theorem wkA_pv {l : List Wk_} {i : Nat} (h : i < l.length) : lpv pWalk l i = pWalk (wkA l i) := by rw [wkA_at h]; exact lpv_at h
def itA (l : List Int) (i : Nat) : Int := l.getD i 0
theorem itA_at {l : List Int} {i : Nat} (h : i < l.length) : itA l i = l[i] := by simp [itA, h]
theorem itA_pv {l : List Int} {i : Nat} (h : i < l.length) : lpv pInt64 l i = pInt64 (itA l i) := by rw [itA_at h]; exact lpv_at h
def lastD (l : List Cl) (i : Nat) : Int := if i = 0 then 0 else (clA l (i - 1)).dep
def callB (n : Nat) (l : List Cl) (i : Nat) : Bool := decide (0 ≤ (clA l i).stop ∧ (clA l i).stop < n ∧ lastD l i ≤ (clA l i).arr ∧ (clA l i).arr ≤ (clA l i).dep ∧ (clA l i).dep ≤ 1000000 ∧ (i = 0 ∨ (clA l (i - 1)).stop ≠ (clA l i).stop))
def tripB (n : Nat) (t : Tp) : Bool := (valB t.line && decide (1 ≤ t.days ∧ t.days ≤ 127 ∧ 2 ≤ t.calls.length ∧ t.calls.length ≤ 40)) && allI (callB n t.calls) 0 t.calls.length
def walkB (n : Nat) (w : Wk_) : Bool := decide (0 ≤ w.fr ∧ w.fr < n ∧ 0 ≤ w.to ∧ w.to < n ∧ w.fr ≠ w.to ∧ 0 ≤ w.time ∧ w.time ≤ 10000)
def sizeL (l : Ln) : Bool := decide (l.stops.length ≤ 200 ∧ l.trips.length ≤ 500 ∧ l.walks.length ≤ 300)
def linesB (l : Ln) : Bool := sizeL l && (allI (fun i => valB (stA l.stops i)) 0 l.stops.length && (allI (fun i => tripB l.stops.length (tpA l.trips i)) 0 l.trips.length && allI (fun i => walkB l.stops.length (wkA l.walks i)) 0 l.walks.length))
def sLines (l : Ln) : Prop := (∀ x ∈ l.stops, x.size ≤ 9223372036854775807) ∧ (∀ x ∈ l.trips, x.line.size ≤ 9223372036854775807) ∧ bLines l
theorem sL_stop {l : Ln} (h : sLines l) {i : Nat} (hi : i < l.stops.length) : (stA l.stops i).size ≤ 9223372036854775807 := by rw [stA_at hi]; exact h.1 _ (List.getElem_mem hi)
theorem sL_trip {l : Ln} (h : sLines l) {i : Nat} (hi : i < l.trips.length) : (tpA l.trips i).line.size ≤ 9223372036854775807 ∧ (tpA l.trips i).calls.length ≤ 1048576 := by rw [tpA_at hi]; exact ⟨h.2.1 _ (List.getElem_mem hi), h.2.2.2.2.1 _ (List.getElem_mem hi)⟩
theorem lastD_0 (l : List Cl) : lastD l 0 = 0 := rfl
theorem lastD_s (l : List Cl) (i : Nat) : lastD l (i + 1) = (clA l i).dep := by simp [lastD]
set_option maxHeartbeats 4000000 in
theorem cs_trip (l : Ln) (t : Tp) (hl : bLines l) (hs : t.line.size ≤ 9223372036854775807) (ht : t.calls.length ≤ 1048576) : AC Try.prog 132 [.ag (cLines l), .ag (cTrip t)] (ML []) (.bool (tripB l.stops.length t)) (ML []) := by
  obtain ⟨b1, b2, b3, b4⟩ := hl
  refine AC.of Try.func132 rfl rfl (by simp [Try.ntmps132]) rfl (fun C hC hm => ?_)
  rw [Try.ntmps132] at hC
  have hn : C.m0.nx = _ := congrArg Mem.nx hm
  simp only [ML_nx, List.length_nil, List.length_cons, Nat.zero_add, Nat.reduceAdd] at hn
  simp only [hC, cLines, cTrip, VS, VZ, TY, openC, foldC, foldN, PF, pick_or, pick_and, aop, aopD, rdN, wrN, idL, idA, apure, AS.ev, startA, strip, abin, aint, astr, alen, aslice, optI, aconv, aconvM, gdv, AS.put, ofVal, pcells, ld, ldo, nOw, PV.isOw, gtmp, within, astore, splice, afill, allCells, okIdx, asrc, aflat, aappend, hintOk, PV.clo, PV.clo1, ofL_n, ofL_c, nams, reO, reP, reA, reC, srcI, setG, obG, List.cons.injEq, aeq1, aeqs, onG, Int.reduceLE, Int.reduceNeg, Int.reduceLT, Nat.reduceEqDiff, ↓reduceIte, Nat.reduceLT, Nat.reduceLeDiff, Nat.reduceAdd, Nat.reduceMul, Nat.reduceSub, reduceCtorEq, Int.reduceEq]
  refine acall_p false (cs_value t.line hs) tS tS (.inl rfl) ?_
  simp only [hC, cLines, cTrip, VS, VZ, TY, openC, foldC, foldN, PF, pick_or, pick_and, aop, aopD, rdN, wrN, idL, idA, apure, AS.ev, startA, strip, abin, aint, astr, alen, aslice, optI, aconv, aconvM, gdv, AS.put, ofVal, pcells, ld, ldo, nOw, PV.isOw, gtmp, within, astore, splice, afill, allCells, okIdx, asrc, aflat, aappend, hintOk, PV.clo, PV.clo1, ofL_n, ofL_c, nams, reO, reP, reA, reC, srcI, setG, obG, List.cons.injEq, aeq1, aeqs, onG, Int.reduceLE, Int.reduceNeg, Int.reduceLT, Nat.reduceEqDiff, ↓reduceIte, Nat.reduceLT, Nat.reduceLeDiff, Nat.reduceAdd, Nat.reduceMul, Nat.reduceSub, reduceCtorEq, Int.reduceEq]
  cases hv : valB t.line with
  | false =>
    refine ⟨fun _ => ?_, fun h => absurd h (by simp)⟩
    exact Ret_go [] (by simp [tripB, hv, obsT, obT, okO, okP, okA, okC, okD, okI, reP, reA, reC, srcI, Nl_nil, Nl_cons, PV.nl, upd_at, ofL_n, ofL_c, VS, argsT, lendA, lendL, lendT, Cvl_nil, Cvl_cons, Cv_bool, Cv_int, Cv_str, Cv_nils, Cv_nilc, Cv_cl, Cv_ow, noFn, PV.noF, NR_iff, NRO, hb, ares, ares1, ldo, ld, nOw, PV.isOw, TY]) tS tS
  | true =>
  refine ⟨fun h => ?_, fun h => ?_⟩
  · have h : ¬ (1 ≤ t.days ∧ t.days ≤ 127 ∧ 2 ≤ t.calls.length ∧ t.calls.length ≤ 40) := by simp at h; omega
    exact Ret_go [] (by simp [tripB, h, obsT, obT, okO, okP, okA, okC, okD, okI, reP, reA, reC, srcI, Nl_nil, Nl_cons, PV.nl, upd_at, ofL_n, ofL_c, VS, argsT, lendA, lendL, lendT, Cvl_nil, Cvl_cons, Cv_bool, Cv_int, Cv_str, Cv_nils, Cv_nilc, Cv_cl, Cv_ow, noFn, PV.noF, NR_iff, NRO, hb, ares, ares1, ldo, ld, nOw, PV.isOw, TY]) tS tS
  have h : 1 ≤ t.days ∧ t.days ≤ 127 ∧ 2 ≤ t.calls.length ∧ t.calls.length ≤ 40 := by simp at h; omega
  have hT : tripB l.stops.length t = allI (callB l.stops.length t.calls) 0 t.calls.length := by simp [tripB, hv, h]
  rw [hT]
  refine AL.go (X := Nat) (fun i => ⟨ofL [(2, .bp [0] 0), (3, .bp [1] 0), (5, .int .i64 (lastD t.calls i)), (6, .int .i64 (i : Int))], ML [.box (cLines l), .box (cTrip t)]⟩) (fun i => t.calls.length - i) (fun i => i ≤ t.calls.length ∧ allI (callB l.stops.length t.calls) i (t.calls.length - i) = allI (callB l.stops.length t.calls) 0 t.calls.length) 0 (by simp)
    (Told_go hn [[0], [1]] (by simp [lastD_0, obsT, obT, okO, okP, okA, okC, okD, okI, reP, reA, reC, srcI, Nl_nil, Nl_cons, PV.nl, upd_at, ofL_n, ofL_c, VS, argsT, lendA, lendL, lendT, Cvl_nil, Cvl_cons, Cv_bool, Cv_int, Cv_str, Cv_nils, Cv_nilc, Cv_cl, Cv_ow, noFn, PV.noF, NR_iff, NRO, hb, ares, ares1, ldo, ld, nOw, PV.isOw, TY]) (by simp [cLines, cTrip, obsT, obT, okO, okP, okA, okC, okD, okI, reP, reA, reC, srcI, Nl_nil, Nl_cons, PV.nl, upd_at, ofL_n, ofL_c, VS, argsT, lendA, lendL, lendT, Cvl_nil, Cvl_cons, Cv_bool, Cv_int, Cv_str, Cv_nils, Cv_nilc, Cv_cl, Cv_ow, noFn, PV.noF, NR_iff, NRO, hb, ares, ares1, ldo, ld, nOw, PV.isOw, TY]) (by simp [cLines, cTrip, obsT, obT, okO, okP, okA, okC, okD, okI, reP, reA, reC, srcI, Nl_nil, Nl_cons, PV.nl, upd_at, ofL_n, ofL_c, VS, argsT, lendA, lendL, lendT, Cvl_nil, Cvl_cons, Cv_bool, Cv_int, Cv_str, Cv_nils, Cv_nilc, Cv_cl, Cv_ow, noFn, PV.noF, NR_iff, NRO, hb, ares, ares1, ldo, ld, nOw, PV.isOw, TY])) (fun i hi => vc_ok _ _ _ ?_)
  obtain ⟨hi, ha⟩ := hi
  simp only [hC, cLines, cTrip, VS, VZ, TY, openC, foldC, foldN, PF, pick_or, pick_and, aop, aopD, rdN, wrN, idL, idA, apure, AS.ev, startA, strip, abin, aint, astr, alen, aslice, optI, aconv, aconvM, gdv, AS.put, ofVal, pcells, ld, ldo, nOw, PV.isOw, gtmp, within, astore, splice, afill, allCells, okIdx, asrc, aflat, aappend, hintOk, PV.clo, PV.clo1, ofL_n, ofL_c, nams, reO, reP, reA, reC, srcI, setG, obG, List.cons.injEq, aeq1, aeqs, onG, Int.reduceLE, Int.reduceNeg, Int.reduceLT, Nat.reduceEqDiff, ↓reduceIte, Nat.reduceLT, Nat.reduceLeDiff, Nat.reduceAdd, Nat.reduceMul, Nat.reduceSub, reduceCtorEq, Int.reduceEq]
  refine ⟨fun h1 => ?_, fun h1 => ?_⟩
  · have h1 : i < t.calls.length := by simpa using h1
    have e := clA_pv h1
    have ep : lpv pCall t.calls (i - 1) = pCall (clA t.calls (i - 1)) := clA_pv (by omega)
    have e2 : ((i : Int) - 1).toNat = i - 1 := by omega
    rw [allI_step h1] at ha
    refine ⟨by omega, ?_⟩
    simp only [e, pCall, VS, VZ, TY, openC, foldC, foldN, PF, pick_or, pick_and, aop, aopD, rdN, wrN, idL, idA, apure, AS.ev, startA, strip, abin, aint, astr, alen, aslice, optI, aconv, aconvM, gdv, AS.put, ofVal, pcells, ld, ldo, nOw, PV.isOw, gtmp, within, astore, splice, afill, allCells, okIdx, asrc, aflat, aappend, hintOk, PV.clo, PV.clo1, ofL_n, ofL_c, nams, reO, reP, reA, reC, srcI, setG, obG, List.cons.injEq, aeq1, aeqs, onG, Int.reduceLE, Int.reduceNeg, Int.reduceLT, Nat.reduceEqDiff, ↓reduceIte, Nat.reduceLT, Nat.reduceLeDiff, Nat.reduceAdd, Nat.reduceMul, Nat.reduceSub, reduceCtorEq, Int.reduceEq]
    simp (disch := omega) only [wr64, e2]
    simp only [ep, pCall, VS, VZ, TY, openC, foldC, foldN, PF, pick_or, pick_and, aop, aopD, rdN, wrN, idL, idA, apure, AS.ev, startA, strip, abin, aint, astr, alen, aslice, optI, aconv, aconvM, gdv, AS.put, ofVal, pcells, ld, ldo, nOw, PV.isOw, gtmp, within, astore, splice, afill, allCells, okIdx, asrc, aflat, aappend, hintOk, PV.clo, PV.clo1, ofL_n, ofL_c, nams, reO, reP, reA, reC, srcI, setG, obG, List.cons.injEq, aeq1, aeqs, onG, Int.reduceLE, Int.reduceNeg, Int.reduceLT, Nat.reduceEqDiff, ↓reduceIte, Nat.reduceLT, Nat.reduceLeDiff, Nat.reduceAdd, Nat.reduceMul, Nat.reduceSub, reduceCtorEq, Int.reduceEq]
    refine ⟨by kernel_rfl, fun h2 => by simp at h2; omega, fun h2 => ?_, fun h2 => ?_⟩
    · have h2 : callB l.stops.length t.calls i = false := by simp [callB] at h2 ⊢; omega
      rw [h2, Bool.false_and] at ha
      rw [← ha]
      exact Ret_go [] (by simp only [VS, VZ, TY, openC, foldC, foldN, PF, pick_or, pick_and, aop, aopD, rdN, wrN, idL, idA, apure, AS.ev, startA, strip, abin, aint, astr, alen, aslice, optI, aconv, aconvM, gdv, AS.put, ofVal, pcells, ld, ldo, nOw, PV.isOw, gtmp, within, astore, splice, afill, allCells, okIdx, asrc, aflat, aappend, hintOk, PV.clo, PV.clo1, ofL_n, ofL_c, nams, reO, reP, reA, reC, srcI, setG, obG, List.cons.injEq, aeq1, aeqs, onG, Int.reduceLE, Int.reduceNeg, Int.reduceLT, Nat.reduceEqDiff, ↓reduceIte, Nat.reduceLT, Nat.reduceLeDiff, Nat.reduceAdd, Nat.reduceMul, Nat.reduceSub, reduceCtorEq, Int.reduceEq, obsT, obT, okO, okP, okA, okC, okD, okI, reP, reA, reC, srcI, Nl_nil, Nl_cons, PV.nl, upd_at, ofL_n, ofL_c, VS, argsT, lendA, lendL, lendT, Cvl_nil, Cvl_cons, Cv_bool, Cv_int, Cv_str, Cv_nils, Cv_nilc, Cv_cl, Cv_ow, noFn, PV.noF, NR_iff, NRO, hb, ares, ares1, ldo, ld, nOw, PV.isOw, TY]) tS tS
    · have h2 : callB l.stops.length t.calls i = true := by simp [callB] at h2 ⊢; omega
      rw [h2, Bool.true_and] at ha
      exact ⟨i + 1, ⟨by omega, ha⟩, by omega, Told_go hn [[0], [1]] (by simp [lastD_s, obsT, obT, okO, okP, okA, okC, okD, okI, reP, reA, reC, srcI, Nl_nil, Nl_cons, PV.nl, upd_at, ofL_n, ofL_c, VS, argsT, lendA, lendL, lendT, Cvl_nil, Cvl_cons, Cv_bool, Cv_int, Cv_str, Cv_nils, Cv_nilc, Cv_cl, Cv_ow, noFn, PV.noF, NR_iff, NRO, hb, ares, ares1, ldo, ld, nOw, PV.isOw, TY]) (by simp [cLines, cTrip, obsT, obT, okO, okP, okA, okC, okD, okI, reP, reA, reC, srcI, Nl_nil, Nl_cons, PV.nl, upd_at, ofL_n, ofL_c, VS, argsT, lendA, lendL, lendT, Cvl_nil, Cvl_cons, Cv_bool, Cv_int, Cv_str, Cv_nils, Cv_nilc, Cv_cl, Cv_ow, noFn, PV.noF, NR_iff, NRO, hb, ares, ares1, ldo, ld, nOw, PV.isOw, TY]) (by simp [cLines, cTrip, obsT, obT, okO, okP, okA, okC, okD, okI, reP, reA, reC, srcI, Nl_nil, Nl_cons, PV.nl, upd_at, ofL_n, ofL_c, VS, argsT, lendA, lendL, lendT, Cvl_nil, Cvl_cons, Cv_bool, Cv_int, Cv_str, Cv_nils, Cv_nilc, Cv_cl, Cv_ow, noFn, PV.noF, NR_iff, NRO, hb, ares, ares1, ldo, ld, nOw, PV.isOw, TY])⟩
  · have : i = t.calls.length := by simp at h1; omega
    subst this
    rw [Nat.sub_self, allI] at ha
    rw [← ha]
    exact Ret_go [] (by simp only [VS, VZ, TY, openC, foldC, foldN, PF, pick_or, pick_and, aop, aopD, rdN, wrN, idL, idA, apure, AS.ev, startA, strip, abin, aint, astr, alen, aslice, optI, aconv, aconvM, gdv, AS.put, ofVal, pcells, ld, ldo, nOw, PV.isOw, gtmp, within, astore, splice, afill, allCells, okIdx, asrc, aflat, aappend, hintOk, PV.clo, PV.clo1, ofL_n, ofL_c, nams, reO, reP, reA, reC, srcI, setG, obG, List.cons.injEq, aeq1, aeqs, onG, Int.reduceLE, Int.reduceNeg, Int.reduceLT, Nat.reduceEqDiff, ↓reduceIte, Nat.reduceLT, Nat.reduceLeDiff, Nat.reduceAdd, Nat.reduceMul, Nat.reduceSub, reduceCtorEq, Int.reduceEq, obsT, obT, okO, okP, okA, okC, okD, okI, reP, reA, reC, srcI, Nl_nil, Nl_cons, PV.nl, upd_at, ofL_n, ofL_c, VS, argsT, lendA, lendL, lendT, Cvl_nil, Cvl_cons, Cv_bool, Cv_int, Cv_str, Cv_nils, Cv_nilc, Cv_cl, Cv_ow, noFn, PV.noF, NR_iff, NRO, hb, ares, ares1, ldo, ld, nOw, PV.isOw, TY]) tS tS
end Go.Proofs.Ytmmlpehfieojdaa.Wd
namespace Go.Proofs.Ytmmlpehfieojdaa.Wd
open Go Go.RowKit Go.Proofs Go.Proofs.YtmmlpehfieojdaaW.AW
set_option linter.unusedVariables false
set_option linter.unusedSimpArgs false
set_option maxRecDepth 100000
theorem sizeL_no {l : Ln} (h : sizeL l = false) : linesB l = false := by unfold linesB; rw [h, Bool.false_and]
set_option maxHeartbeats 4000000 in
theorem cs_LinesOk (l : Ln) (hl : sLines l) : AC Try.prog 101 [.ag (cLines l)] (ML []) (.bool (linesB l)) (ML []) := by
  obtain ⟨b1, b2, b3, b4⟩ := hl.2.2
  refine AC.of Try.func101 rfl rfl (by simp [Try.ntmps101]) rfl (fun C hC hm => ?_)
  rw [Try.ntmps101] at hC
  have hn : C.m0.nx = _ := congrArg Mem.nx hm
  simp only [ML_nx, List.length_nil, List.length_cons, Nat.zero_add, Nat.reduceAdd] at hn
  simp only [hC, cLines, VS, VZ, TY, openC, foldC, foldN, PF, pick_or, pick_and, aop, aopD, rdN, wrN, idL, idA, apure, AS.ev, startA, strip, abin, aint, astr, alen, aslice, optI, aconv, aconvM, gdv, AS.put, ofVal, pcells, ld, ldo, nOw, PV.isOw, gtmp, within, astore, splice, afill, allCells, okIdx, asrc, aflat, aappend, hintOk, PV.clo, PV.clo1, ofL_n, ofL_c, nams, reO, reP, reA, reC, srcI, setG, obG, List.cons.injEq, aeq1, aeqs, onG, Int.reduceLE, Int.reduceNeg, Int.reduceLT, Nat.reduceEqDiff, ↓reduceIte, Nat.reduceLT, Nat.reduceLeDiff, Nat.reduceAdd, Nat.reduceMul, Nat.reduceSub, reduceCtorEq, Int.reduceEq]
  refine ⟨fun h => ?_, fun h => ?_⟩
  · have h : sizeL l = false := by simp [sizeL] at h ⊢; omega
    rw [sizeL_no h]
    exact Ret_go [] (by simp only [VS, VZ, TY, openC, foldC, foldN, PF, pick_or, pick_and, aop, aopD, rdN, wrN, idL, idA, apure, AS.ev, startA, strip, abin, aint, astr, alen, aslice, optI, aconv, aconvM, gdv, AS.put, ofVal, pcells, ld, ldo, nOw, PV.isOw, gtmp, within, astore, splice, afill, allCells, okIdx, asrc, aflat, aappend, hintOk, PV.clo, PV.clo1, ofL_n, ofL_c, nams, reO, reP, reA, reC, srcI, setG, obG, List.cons.injEq, aeq1, aeqs, onG, Int.reduceLE, Int.reduceNeg, Int.reduceLT, Nat.reduceEqDiff, ↓reduceIte, Nat.reduceLT, Nat.reduceLeDiff, Nat.reduceAdd, Nat.reduceMul, Nat.reduceSub, reduceCtorEq, Int.reduceEq, obsT, obT, okO, okP, okA, okC, okD, okI, reP, reA, reC, srcI, Nl_nil, Nl_cons, PV.nl, upd_at, ofL_n, ofL_c, VS, argsT, lendA, lendL, lendT, Cvl_nil, Cvl_cons, Cv_bool, Cv_int, Cv_str, Cv_nils, Cv_nilc, Cv_cl, Cv_ow, noFn, PV.noF, NR_iff, NRO, hb, ares, ares1, ldo, ld, nOw, PV.isOw, TY]) tS tS
  have h : sizeL l = true := by simp [sizeL] at h ⊢; omega
  have hL : linesB l = (allI (fun i => valB (stA l.stops i)) 0 l.stops.length && (allI (fun i => tripB l.stops.length (tpA l.trips i)) 0 l.trips.length && allI (fun i => walkB l.stops.length (wkA l.walks i)) 0 l.walks.length)) := by unfold linesB; rw [h, Bool.true_and]
  refine AL.go (X := Nat) (fun i => ⟨ofL [(1, .bp [0] 0), (3, .int .i64 (i : Int))], ML [.box (cLines l)]⟩) (fun i => l.stops.length - i) (fun i => i ≤ l.stops.length ∧ allI (fun i => valB (stA l.stops i)) i (l.stops.length - i) = allI (fun i => valB (stA l.stops i)) 0 l.stops.length) 0 (by simp)
    (Told_go hn [[0]] tS (by simp [cLines, obsT, obT, okO, okP, okA, okC, okD, okI, reP, reA, reC, srcI, Nl_nil, Nl_cons, PV.nl, upd_at, ofL_n, ofL_c, VS, argsT, lendA, lendL, lendT, Cvl_nil, Cvl_cons, Cv_bool, Cv_int, Cv_str, Cv_nils, Cv_nilc, Cv_cl, Cv_ow, noFn, PV.noF, NR_iff, NRO, hb, ares, ares1, ldo, ld, nOw, PV.isOw, TY]) (by simp [cLines, obsT, obT, okO, okP, okA, okC, okD, okI, reP, reA, reC, srcI, Nl_nil, Nl_cons, PV.nl, upd_at, ofL_n, ofL_c, VS, argsT, lendA, lendL, lendT, Cvl_nil, Cvl_cons, Cv_bool, Cv_int, Cv_str, Cv_nils, Cv_nilc, Cv_cl, Cv_ow, noFn, PV.noF, NR_iff, NRO, hb, ares, ares1, ldo, ld, nOw, PV.isOw, TY])) (fun i hi => vc_ok _ _ _ ?_)
  obtain ⟨hi, ha⟩ := hi
  simp only [hC, cLines, VS, VZ, TY, openC, foldC, foldN, PF, pick_or, pick_and, aop, aopD, rdN, wrN, idL, idA, apure, AS.ev, startA, strip, abin, aint, astr, alen, aslice, optI, aconv, aconvM, gdv, AS.put, ofVal, pcells, ld, ldo, nOw, PV.isOw, gtmp, within, astore, splice, afill, allCells, okIdx, asrc, aflat, aappend, hintOk, PV.clo, PV.clo1, ofL_n, ofL_c, nams, reO, reP, reA, reC, srcI, setG, obG, List.cons.injEq, aeq1, aeqs, onG, Int.reduceLE, Int.reduceNeg, Int.reduceLT, Nat.reduceEqDiff, ↓reduceIte, Nat.reduceLT, Nat.reduceLeDiff, Nat.reduceAdd, Nat.reduceMul, Nat.reduceSub, reduceCtorEq, Int.reduceEq]
  refine ⟨fun h1 => ?_, fun h1 => ?_⟩
  · have h1 : i < l.stops.length := by simpa using h1
    have e := stA_pv h1
    rw [allI_step h1] at ha
    refine ⟨by omega, ?_⟩
    simp only [e, pString, VS, VZ, TY, openC, foldC, foldN, PF, pick_or, pick_and, aop, aopD, rdN, wrN, idL, idA, apure, AS.ev, startA, strip, abin, aint, astr, alen, aslice, optI, aconv, aconvM, gdv, AS.put, ofVal, pcells, ld, ldo, nOw, PV.isOw, gtmp, within, astore, splice, afill, allCells, okIdx, asrc, aflat, aappend, hintOk, PV.clo, PV.clo1, ofL_n, ofL_c, nams, reO, reP, reA, reC, srcI, setG, obG, List.cons.injEq, aeq1, aeqs, onG, Int.reduceLE, Int.reduceNeg, Int.reduceLT, Nat.reduceEqDiff, ↓reduceIte, Nat.reduceLT, Nat.reduceLeDiff, Nat.reduceAdd, Nat.reduceMul, Nat.reduceSub, reduceCtorEq, Int.reduceEq]
    refine acall_p false (cs_value (stA l.stops i) (sL_stop hl h1)) tS tS (.inl rfl) ?_
    simp only [hC, VS, VZ, TY, openC, foldC, foldN, PF, pick_or, pick_and, aop, aopD, rdN, wrN, idL, idA, apure, AS.ev, startA, strip, abin, aint, astr, alen, aslice, optI, aconv, aconvM, gdv, AS.put, ofVal, pcells, ld, ldo, nOw, PV.isOw, gtmp, within, astore, splice, afill, allCells, okIdx, asrc, aflat, aappend, hintOk, PV.clo, PV.clo1, ofL_n, ofL_c, nams, reO, reP, reA, reC, srcI, setG, obG, List.cons.injEq, aeq1, aeqs, onG, Int.reduceLE, Int.reduceNeg, Int.reduceLT, Nat.reduceEqDiff, ↓reduceIte, Nat.reduceLT, Nat.reduceLeDiff, Nat.reduceAdd, Nat.reduceMul, Nat.reduceSub, reduceCtorEq, Int.reduceEq]
    refine ⟨fun h2 => ?_, fun h2 => ?_⟩
    · have h2 : valB (stA l.stops i) = false := by simpa using h2
      rw [h2, Bool.false_and] at ha
      rw [hL, ← ha, Bool.false_and]
      exact Ret_go [] (by simp only [VS, VZ, TY, openC, foldC, foldN, PF, pick_or, pick_and, aop, aopD, rdN, wrN, idL, idA, apure, AS.ev, startA, strip, abin, aint, astr, alen, aslice, optI, aconv, aconvM, gdv, AS.put, ofVal, pcells, ld, ldo, nOw, PV.isOw, gtmp, within, astore, splice, afill, allCells, okIdx, asrc, aflat, aappend, hintOk, PV.clo, PV.clo1, ofL_n, ofL_c, nams, reO, reP, reA, reC, srcI, setG, obG, List.cons.injEq, aeq1, aeqs, onG, Int.reduceLE, Int.reduceNeg, Int.reduceLT, Nat.reduceEqDiff, ↓reduceIte, Nat.reduceLT, Nat.reduceLeDiff, Nat.reduceAdd, Nat.reduceMul, Nat.reduceSub, reduceCtorEq, Int.reduceEq, obsT, obT, okO, okP, okA, okC, okD, okI, reP, reA, reC, srcI, Nl_nil, Nl_cons, PV.nl, upd_at, ofL_n, ofL_c, VS, argsT, lendA, lendL, lendT, Cvl_nil, Cvl_cons, Cv_bool, Cv_int, Cv_str, Cv_nils, Cv_nilc, Cv_cl, Cv_ow, noFn, PV.noF, NR_iff, NRO, hb, ares, ares1, ldo, ld, nOw, PV.isOw, TY]) tS tS
    · have h2 : valB (stA l.stops i) = true := by simpa using h2
      rw [h2, Bool.true_and] at ha
      simp (disch := omega) only [wr64]
      exact ⟨i + 1, ⟨by omega, ha⟩, by omega, Told_go hn [[0]] tS (by simp [cLines, obsT, obT, okO, okP, okA, okC, okD, okI, reP, reA, reC, srcI, Nl_nil, Nl_cons, PV.nl, upd_at, ofL_n, ofL_c, VS, argsT, lendA, lendL, lendT, Cvl_nil, Cvl_cons, Cv_bool, Cv_int, Cv_str, Cv_nils, Cv_nilc, Cv_cl, Cv_ow, noFn, PV.noF, NR_iff, NRO, hb, ares, ares1, ldo, ld, nOw, PV.isOw, TY]) (by simp [cLines, obsT, obT, okO, okP, okA, okC, okD, okI, reP, reA, reC, srcI, Nl_nil, Nl_cons, PV.nl, upd_at, ofL_n, ofL_c, VS, argsT, lendA, lendL, lendT, Cvl_nil, Cvl_cons, Cv_bool, Cv_int, Cv_str, Cv_nils, Cv_nilc, Cv_cl, Cv_ow, noFn, PV.noF, NR_iff, NRO, hb, ares, ares1, ldo, ld, nOw, PV.isOw, TY])⟩
  have : i = l.stops.length := by simp at h1; omega
  subst this
  rw [Nat.sub_self, allI] at ha
  rw [← ha, Bool.true_and] at hL
  clear ha h1 hi
  refine AL.go (X := Nat) (fun i => ⟨ofL [(1, .bp [0] 0), (4, .int .i64 (i : Int))], ML [.box (cLines l)]⟩) (fun i => l.trips.length - i) (fun i => i ≤ l.trips.length ∧ allI (fun i => tripB l.stops.length (tpA l.trips i)) i (l.trips.length - i) = allI (fun i => tripB l.stops.length (tpA l.trips i)) 0 l.trips.length) 0 (by simp)
    (Told_go hn [[0]] tS (by simp [cLines, obsT, obT, okO, okP, okA, okC, okD, okI, reP, reA, reC, srcI, Nl_nil, Nl_cons, PV.nl, upd_at, ofL_n, ofL_c, VS, argsT, lendA, lendL, lendT, Cvl_nil, Cvl_cons, Cv_bool, Cv_int, Cv_str, Cv_nils, Cv_nilc, Cv_cl, Cv_ow, noFn, PV.noF, NR_iff, NRO, hb, ares, ares1, ldo, ld, nOw, PV.isOw, TY]) (by simp [cLines, obsT, obT, okO, okP, okA, okC, okD, okI, reP, reA, reC, srcI, Nl_nil, Nl_cons, PV.nl, upd_at, ofL_n, ofL_c, VS, argsT, lendA, lendL, lendT, Cvl_nil, Cvl_cons, Cv_bool, Cv_int, Cv_str, Cv_nils, Cv_nilc, Cv_cl, Cv_ow, noFn, PV.noF, NR_iff, NRO, hb, ares, ares1, ldo, ld, nOw, PV.isOw, TY])) (fun i hi => vc_ok _ _ _ ?_)
  obtain ⟨hi, ha⟩ := hi
  simp only [hC, cLines, VS, VZ, TY, openC, foldC, foldN, PF, pick_or, pick_and, aop, aopD, rdN, wrN, idL, idA, apure, AS.ev, startA, strip, abin, aint, astr, alen, aslice, optI, aconv, aconvM, gdv, AS.put, ofVal, pcells, ld, ldo, nOw, PV.isOw, gtmp, within, astore, splice, afill, allCells, okIdx, asrc, aflat, aappend, hintOk, PV.clo, PV.clo1, ofL_n, ofL_c, nams, reO, reP, reA, reC, srcI, setG, obG, List.cons.injEq, aeq1, aeqs, onG, Int.reduceLE, Int.reduceNeg, Int.reduceLT, Nat.reduceEqDiff, ↓reduceIte, Nat.reduceLT, Nat.reduceLeDiff, Nat.reduceAdd, Nat.reduceMul, Nat.reduceSub, reduceCtorEq, Int.reduceEq]
  refine ⟨fun h1 => ?_, fun h1 => ?_⟩
  · have h1 : i < l.trips.length := by simpa using h1
    have e := tpA_pv h1
    have st := sL_trip hl h1
    rw [allI_step h1] at ha
    refine ⟨by kernel_rfl, by omega, ?_⟩
    simp only [e, cTrip, VS, VZ, TY, openC, foldC, foldN, PF, pick_or, pick_and, aop, aopD, rdN, wrN, idL, idA, apure, AS.ev, startA, strip, abin, aint, astr, alen, aslice, optI, aconv, aconvM, gdv, AS.put, ofVal, pcells, ld, ldo, nOw, PV.isOw, gtmp, within, astore, splice, afill, allCells, okIdx, asrc, aflat, aappend, hintOk, PV.clo, PV.clo1, ofL_n, ofL_c, nams, reO, reP, reA, reC, srcI, setG, obG, List.cons.injEq, aeq1, aeqs, onG, Int.reduceLE, Int.reduceNeg, Int.reduceLT, Nat.reduceEqDiff, ↓reduceIte, Nat.reduceLT, Nat.reduceLeDiff, Nat.reduceAdd, Nat.reduceMul, Nat.reduceSub, reduceCtorEq, Int.reduceEq]
    refine acall_p false (cs_trip l (tpA l.trips i) hl.2.2 st.1 st.2) (by simp [cLines, cTrip, cv_Trip, cv_Call, cv_Walk, cv_String, obsT, obT, okO, okP, okA, okC, okD, okI, reP, reA, reC, srcI, Nl_nil, Nl_cons, PV.nl, upd_at, ofL_n, ofL_c, VS, argsT, lendA, lendL, lendT, Cvl_nil, Cvl_cons, Cv_bool, Cv_int, Cv_str, Cv_nils, Cv_nilc, Cv_cl, Cv_ow, noFn, PV.noF, NR_iff, NRO, hb, ares, ares1, ldo, ld, nOw, PV.isOw, TY]) tS (.inl rfl) ?_
    simp only [hC, VS, VZ, TY, openC, foldC, foldN, PF, pick_or, pick_and, aop, aopD, rdN, wrN, idL, idA, apure, AS.ev, startA, strip, abin, aint, astr, alen, aslice, optI, aconv, aconvM, gdv, AS.put, ofVal, pcells, ld, ldo, nOw, PV.isOw, gtmp, within, astore, splice, afill, allCells, okIdx, asrc, aflat, aappend, hintOk, PV.clo, PV.clo1, ofL_n, ofL_c, nams, reO, reP, reA, reC, srcI, setG, obG, List.cons.injEq, aeq1, aeqs, onG, Int.reduceLE, Int.reduceNeg, Int.reduceLT, Nat.reduceEqDiff, ↓reduceIte, Nat.reduceLT, Nat.reduceLeDiff, Nat.reduceAdd, Nat.reduceMul, Nat.reduceSub, reduceCtorEq, Int.reduceEq]
    refine ⟨fun h2 => ?_, fun h2 => ?_⟩
    · have h2 : tripB l.stops.length (tpA l.trips i) = false := by simpa using h2
      rw [h2, Bool.false_and] at ha
      rw [hL, ← ha, Bool.false_and]
      exact Ret_go [] (by simp only [VS, VZ, TY, openC, foldC, foldN, PF, pick_or, pick_and, aop, aopD, rdN, wrN, idL, idA, apure, AS.ev, startA, strip, abin, aint, astr, alen, aslice, optI, aconv, aconvM, gdv, AS.put, ofVal, pcells, ld, ldo, nOw, PV.isOw, gtmp, within, astore, splice, afill, allCells, okIdx, asrc, aflat, aappend, hintOk, PV.clo, PV.clo1, ofL_n, ofL_c, nams, reO, reP, reA, reC, srcI, setG, obG, List.cons.injEq, aeq1, aeqs, onG, Int.reduceLE, Int.reduceNeg, Int.reduceLT, Nat.reduceEqDiff, ↓reduceIte, Nat.reduceLT, Nat.reduceLeDiff, Nat.reduceAdd, Nat.reduceMul, Nat.reduceSub, reduceCtorEq, Int.reduceEq, obsT, obT, okO, okP, okA, okC, okD, okI, reP, reA, reC, srcI, Nl_nil, Nl_cons, PV.nl, upd_at, ofL_n, ofL_c, VS, argsT, lendA, lendL, lendT, Cvl_nil, Cvl_cons, Cv_bool, Cv_int, Cv_str, Cv_nils, Cv_nilc, Cv_cl, Cv_ow, noFn, PV.noF, NR_iff, NRO, hb, ares, ares1, ldo, ld, nOw, PV.isOw, TY]) tS tS
    · have h2 : tripB l.stops.length (tpA l.trips i) = true := by simpa using h2
      rw [h2, Bool.true_and] at ha
      simp (disch := omega) only [wr64]
      exact ⟨i + 1, ⟨by omega, ha⟩, by omega, Told_go hn [[0]] tS (by simp [cLines, obsT, obT, okO, okP, okA, okC, okD, okI, reP, reA, reC, srcI, Nl_nil, Nl_cons, PV.nl, upd_at, ofL_n, ofL_c, VS, argsT, lendA, lendL, lendT, Cvl_nil, Cvl_cons, Cv_bool, Cv_int, Cv_str, Cv_nils, Cv_nilc, Cv_cl, Cv_ow, noFn, PV.noF, NR_iff, NRO, hb, ares, ares1, ldo, ld, nOw, PV.isOw, TY]) (by simp [cLines, obsT, obT, okO, okP, okA, okC, okD, okI, reP, reA, reC, srcI, Nl_nil, Nl_cons, PV.nl, upd_at, ofL_n, ofL_c, VS, argsT, lendA, lendL, lendT, Cvl_nil, Cvl_cons, Cv_bool, Cv_int, Cv_str, Cv_nils, Cv_nilc, Cv_cl, Cv_ow, noFn, PV.noF, NR_iff, NRO, hb, ares, ares1, ldo, ld, nOw, PV.isOw, TY])⟩
  have : i = l.trips.length := by simp at h1; omega
  subst this
  rw [Nat.sub_self, allI] at ha
  rw [← ha, Bool.true_and] at hL
  rw [hL]
  clear ha h1 hi
  refine AL.go (X := Nat) (fun i => ⟨ofL [(1, .bp [0] 0), (5, .int .i64 l.stops.length), (6, .int .i64 (i : Int))], ML [.box (cLines l)]⟩) (fun i => l.walks.length - i) (fun i => i ≤ l.walks.length ∧ allI (fun i => walkB l.stops.length (wkA l.walks i)) i (l.walks.length - i) = allI (fun i => walkB l.stops.length (wkA l.walks i)) 0 l.walks.length) 0 (by simp)
    (Told_go hn [[0]] (by simp [obsT, obT, okO, okP, okA, okC, okD, okI, reP, reA, reC, srcI, Nl_nil, Nl_cons, PV.nl, upd_at, ofL_n, ofL_c, VS, argsT, lendA, lendL, lendT, Cvl_nil, Cvl_cons, Cv_bool, Cv_int, Cv_str, Cv_nils, Cv_nilc, Cv_cl, Cv_ow, noFn, PV.noF, NR_iff, NRO, hb, ares, ares1, ldo, ld, nOw, PV.isOw, TY] <;> omega) (by simp [cLines, obsT, obT, okO, okP, okA, okC, okD, okI, reP, reA, reC, srcI, Nl_nil, Nl_cons, PV.nl, upd_at, ofL_n, ofL_c, VS, argsT, lendA, lendL, lendT, Cvl_nil, Cvl_cons, Cv_bool, Cv_int, Cv_str, Cv_nils, Cv_nilc, Cv_cl, Cv_ow, noFn, PV.noF, NR_iff, NRO, hb, ares, ares1, ldo, ld, nOw, PV.isOw, TY]) (by simp [cLines, obsT, obT, okO, okP, okA, okC, okD, okI, reP, reA, reC, srcI, Nl_nil, Nl_cons, PV.nl, upd_at, ofL_n, ofL_c, VS, argsT, lendA, lendL, lendT, Cvl_nil, Cvl_cons, Cv_bool, Cv_int, Cv_str, Cv_nils, Cv_nilc, Cv_cl, Cv_ow, noFn, PV.noF, NR_iff, NRO, hb, ares, ares1, ldo, ld, nOw, PV.isOw, TY])) (fun i hi => vc_ok _ _ _ ?_)
  obtain ⟨hi, ha⟩ := hi
  simp only [hC, cLines, VS, VZ, TY, openC, foldC, foldN, PF, pick_or, pick_and, aop, aopD, rdN, wrN, idL, idA, apure, AS.ev, startA, strip, abin, aint, astr, alen, aslice, optI, aconv, aconvM, gdv, AS.put, ofVal, pcells, ld, ldo, nOw, PV.isOw, gtmp, within, astore, splice, afill, allCells, okIdx, asrc, aflat, aappend, hintOk, PV.clo, PV.clo1, ofL_n, ofL_c, nams, reO, reP, reA, reC, srcI, setG, obG, List.cons.injEq, aeq1, aeqs, onG, Int.reduceLE, Int.reduceNeg, Int.reduceLT, Nat.reduceEqDiff, ↓reduceIte, Nat.reduceLT, Nat.reduceLeDiff, Nat.reduceAdd, Nat.reduceMul, Nat.reduceSub, reduceCtorEq, Int.reduceEq]
  refine ⟨fun h1 => ?_, fun h1 => ?_⟩
  · have h1 : i < l.walks.length := by simpa using h1
    have e := wkA_pv h1
    rw [allI_step h1] at ha
    refine ⟨by omega, ?_⟩
    simp only [e, pWalk, VS, VZ, TY, openC, foldC, foldN, PF, pick_or, pick_and, aop, aopD, rdN, wrN, idL, idA, apure, AS.ev, startA, strip, abin, aint, astr, alen, aslice, optI, aconv, aconvM, gdv, AS.put, ofVal, pcells, ld, ldo, nOw, PV.isOw, gtmp, within, astore, splice, afill, allCells, okIdx, asrc, aflat, aappend, hintOk, PV.clo, PV.clo1, ofL_n, ofL_c, nams, reO, reP, reA, reC, srcI, setG, obG, List.cons.injEq, aeq1, aeqs, onG, Int.reduceLE, Int.reduceNeg, Int.reduceLT, Nat.reduceEqDiff, ↓reduceIte, Nat.reduceLT, Nat.reduceLeDiff, Nat.reduceAdd, Nat.reduceMul, Nat.reduceSub, reduceCtorEq, Int.reduceEq]
    refine ⟨fun h2 => ?_, fun h2 => ?_⟩
    · have h2 : walkB l.stops.length (wkA l.walks i) = false := by simp [walkB] at h2 ⊢; omega
      rw [h2, Bool.false_and] at ha
      rw [← ha]
      exact Ret_go [] (by simp only [VS, VZ, TY, openC, foldC, foldN, PF, pick_or, pick_and, aop, aopD, rdN, wrN, idL, idA, apure, AS.ev, startA, strip, abin, aint, astr, alen, aslice, optI, aconv, aconvM, gdv, AS.put, ofVal, pcells, ld, ldo, nOw, PV.isOw, gtmp, within, astore, splice, afill, allCells, okIdx, asrc, aflat, aappend, hintOk, PV.clo, PV.clo1, ofL_n, ofL_c, nams, reO, reP, reA, reC, srcI, setG, obG, List.cons.injEq, aeq1, aeqs, onG, Int.reduceLE, Int.reduceNeg, Int.reduceLT, Nat.reduceEqDiff, ↓reduceIte, Nat.reduceLT, Nat.reduceLeDiff, Nat.reduceAdd, Nat.reduceMul, Nat.reduceSub, reduceCtorEq, Int.reduceEq, obsT, obT, okO, okP, okA, okC, okD, okI, reP, reA, reC, srcI, Nl_nil, Nl_cons, PV.nl, upd_at, ofL_n, ofL_c, VS, argsT, lendA, lendL, lendT, Cvl_nil, Cvl_cons, Cv_bool, Cv_int, Cv_str, Cv_nils, Cv_nilc, Cv_cl, Cv_ow, noFn, PV.noF, NR_iff, NRO, hb, ares, ares1, ldo, ld, nOw, PV.isOw, TY]) tS tS
    · have h2 : walkB l.stops.length (wkA l.walks i) = true := by simp [walkB] at h2 ⊢; omega
      rw [h2, Bool.true_and] at ha
      simp (disch := omega) only [wr64]
      exact ⟨i + 1, ⟨by omega, ha⟩, by omega, Told_go hn [[0]] tS (by simp [cLines, obsT, obT, okO, okP, okA, okC, okD, okI, reP, reA, reC, srcI, Nl_nil, Nl_cons, PV.nl, upd_at, ofL_n, ofL_c, VS, argsT, lendA, lendL, lendT, Cvl_nil, Cvl_cons, Cv_bool, Cv_int, Cv_str, Cv_nils, Cv_nilc, Cv_cl, Cv_ow, noFn, PV.noF, NR_iff, NRO, hb, ares, ares1, ldo, ld, nOw, PV.isOw, TY]) (by simp [cLines, obsT, obT, okO, okP, okA, okC, okD, okI, reP, reA, reC, srcI, Nl_nil, Nl_cons, PV.nl, upd_at, ofL_n, ofL_c, VS, argsT, lendA, lendL, lendT, Cvl_nil, Cvl_cons, Cv_bool, Cv_int, Cv_str, Cv_nils, Cv_nilc, Cv_cl, Cv_ow, noFn, PV.noF, NR_iff, NRO, hb, ares, ares1, ldo, ld, nOw, PV.isOw, TY])⟩
  have : i = l.walks.length := by simp at h1; omega
  subst this
  rw [Nat.sub_self, allI] at ha
  rw [← ha]
  exact Ret_go [] (by simp only [VS, VZ, TY, openC, foldC, foldN, PF, pick_or, pick_and, aop, aopD, rdN, wrN, idL, idA, apure, AS.ev, startA, strip, abin, aint, astr, alen, aslice, optI, aconv, aconvM, gdv, AS.put, ofVal, pcells, ld, ldo, nOw, PV.isOw, gtmp, within, astore, splice, afill, allCells, okIdx, asrc, aflat, aappend, hintOk, PV.clo, PV.clo1, ofL_n, ofL_c, nams, reO, reP, reA, reC, srcI, setG, obG, List.cons.injEq, aeq1, aeqs, onG, Int.reduceLE, Int.reduceNeg, Int.reduceLT, Nat.reduceEqDiff, ↓reduceIte, Nat.reduceLT, Nat.reduceLeDiff, Nat.reduceAdd, Nat.reduceMul, Nat.reduceSub, reduceCtorEq, Int.reduceEq, obsT, obT, okO, okP, okA, okC, okD, okI, reP, reA, reC, srcI, Nl_nil, Nl_cons, PV.nl, upd_at, ofL_n, ofL_c, VS, argsT, lendA, lendL, lendT, Cvl_nil, Cvl_cons, Cv_bool, Cv_int, Cv_str, Cv_nils, Cv_nilc, Cv_cl, Cv_ow, noFn, PV.noF, NR_iff, NRO, hb, ares, ares1, ldo, ld, nOw, PV.isOw, TY]) tS tS
set_option maxHeartbeats 8000000 in
theorem ci_LinesOk (l : Ln) (hl : sLines l) : AC Try.prog 17 [.ag (cLines l)] (ML []) (.bool (linesB l)) (ML []) := by
  obtain ⟨b1, b2, b3, b4⟩ := hl.2.2
  refine AC.of Try.func17 rfl rfl (by simp [Try.ntmps17]) rfl (fun C hC hm => ?_)
  rw [Try.ntmps17] at hC
  have hn : C.m0.nx = _ := congrArg Mem.nx hm
  simp only [ML_nx, List.length_nil, List.length_cons, Nat.zero_add, Nat.reduceAdd] at hn
  simp only [hC, cLines, VS, VZ, TY, openC, foldC, foldN, PF, pick_or, pick_and, aop, aopD, rdN, wrN, idL, idA, apure, AS.ev, startA, strip, abin, aint, astr, alen, aslice, optI, aconv, aconvM, gdv, AS.put, ofVal, pcells, ld, ldo, nOw, PV.isOw, gtmp, within, astore, splice, afill, allCells, okIdx, asrc, aflat, aappend, hintOk, PV.clo, PV.clo1, ofL_n, ofL_c, nams, reO, reP, reA, reC, srcI, setG, obG, List.cons.injEq, aeq1, aeqs, onG, Int.reduceLE, Int.reduceNeg, Int.reduceLT, Nat.reduceEqDiff, ↓reduceIte, Nat.reduceLT, Nat.reduceLeDiff, Nat.reduceAdd, Nat.reduceMul, Nat.reduceSub, reduceCtorEq, Int.reduceEq]
  refine ⟨fun h => ?_, fun h => ?_⟩
  · have h : sizeL l = false := by simp [sizeL] at h ⊢; omega
    rw [sizeL_no h]
    exact Ret_go [] (by simp only [VS, VZ, TY, openC, foldC, foldN, PF, pick_or, pick_and, aop, aopD, rdN, wrN, idL, idA, apure, AS.ev, startA, strip, abin, aint, astr, alen, aslice, optI, aconv, aconvM, gdv, AS.put, ofVal, pcells, ld, ldo, nOw, PV.isOw, gtmp, within, astore, splice, afill, allCells, okIdx, asrc, aflat, aappend, hintOk, PV.clo, PV.clo1, ofL_n, ofL_c, nams, reO, reP, reA, reC, srcI, setG, obG, List.cons.injEq, aeq1, aeqs, onG, Int.reduceLE, Int.reduceNeg, Int.reduceLT, Nat.reduceEqDiff, ↓reduceIte, Nat.reduceLT, Nat.reduceLeDiff, Nat.reduceAdd, Nat.reduceMul, Nat.reduceSub, reduceCtorEq, Int.reduceEq, obsT, obT, okO, okP, okA, okC, okD, okI, reP, reA, reC, srcI, Nl_nil, Nl_cons, PV.nl, upd_at, ofL_n, ofL_c, VS, argsT, lendA, lendL, lendT, Cvl_nil, Cvl_cons, Cv_bool, Cv_int, Cv_str, Cv_nils, Cv_nilc, Cv_cl, Cv_ow, noFn, PV.noF, NR_iff, NRO, hb, ares, ares1, ldo, ld, nOw, PV.isOw, TY]) tS tS
  have h : sizeL l = true := by simp [sizeL] at h ⊢; omega
  have hL : linesB l = (allI (fun i => valB (stA l.stops i)) 0 l.stops.length && (allI (fun i => tripB l.stops.length (tpA l.trips i)) 0 l.trips.length && allI (fun i => walkB l.stops.length (wkA l.walks i)) 0 l.walks.length)) := by unfold linesB; rw [h, Bool.true_and]
  refine AL.go (X := Nat) (fun i => ⟨ofL [(1, .bp [0] 0), (29, .cl 1 l.stops.length (lpv pString l.stops)), (30, .int .i64 l.stops.length), (31, .int .i64 (i : Int))], ML [.box (cLines l)]⟩) (fun i => l.stops.length - i) (fun i => i ≤ l.stops.length ∧ allI (fun i => valB (stA l.stops i)) i (l.stops.length - i) = allI (fun i => valB (stA l.stops i)) 0 l.stops.length) 0 (by simp)
    (Told_go hn [[0]] tS (by simp [cLines, obsT, obT, okO, okP, okA, okC, okD, okI, reP, reA, reC, srcI, Nl_nil, Nl_cons, PV.nl, upd_at, ofL_n, ofL_c, VS, argsT, lendA, lendL, lendT, Cvl_nil, Cvl_cons, Cv_bool, Cv_int, Cv_str, Cv_nils, Cv_nilc, Cv_cl, Cv_ow, noFn, PV.noF, NR_iff, NRO, hb, ares, ares1, ldo, ld, nOw, PV.isOw, TY]) (by simp [cLines, obsT, obT, okO, okP, okA, okC, okD, okI, reP, reA, reC, srcI, Nl_nil, Nl_cons, PV.nl, upd_at, ofL_n, ofL_c, VS, argsT, lendA, lendL, lendT, Cvl_nil, Cvl_cons, Cv_bool, Cv_int, Cv_str, Cv_nils, Cv_nilc, Cv_cl, Cv_ow, noFn, PV.noF, NR_iff, NRO, hb, ares, ares1, ldo, ld, nOw, PV.isOw, TY])) (fun i hi => vc_ok _ _ _ ?_)
  obtain ⟨hi, ha⟩ := hi
  simp only [hC, cLines, VS, VZ, TY, openC, foldC, foldN, PF, pick_or, pick_and, aop, aopD, rdN, wrN, idL, idA, apure, AS.ev, startA, strip, abin, aint, astr, alen, aslice, optI, aconv, aconvM, gdv, AS.put, ofVal, pcells, ld, ldo, nOw, PV.isOw, gtmp, within, astore, splice, afill, allCells, okIdx, asrc, aflat, aappend, hintOk, PV.clo, PV.clo1, ofL_n, ofL_c, nams, reO, reP, reA, reC, srcI, setG, obG, List.cons.injEq, aeq1, aeqs, onG, Int.reduceLE, Int.reduceNeg, Int.reduceLT, Nat.reduceEqDiff, ↓reduceIte, Nat.reduceLT, Nat.reduceLeDiff, Nat.reduceAdd, Nat.reduceMul, Nat.reduceSub, reduceCtorEq, Int.reduceEq]
  refine ⟨fun h1 => ?_, fun h1 => ?_⟩
  · have h1 : i < l.stops.length := by simpa using h1
    have e := stA_pv h1
    rw [allI_step h1] at ha
    refine ⟨by omega, ?_⟩
    simp only [e, pString, VS, VZ, TY, openC, foldC, foldN, PF, pick_or, pick_and, aop, aopD, rdN, wrN, idL, idA, apure, AS.ev, startA, strip, abin, aint, astr, alen, aslice, optI, aconv, aconvM, gdv, AS.put, ofVal, pcells, ld, ldo, nOw, PV.isOw, gtmp, within, astore, splice, afill, allCells, okIdx, asrc, aflat, aappend, hintOk, PV.clo, PV.clo1, ofL_n, ofL_c, nams, reO, reP, reA, reC, srcI, setG, obG, List.cons.injEq, aeq1, aeqs, onG, Int.reduceLE, Int.reduceNeg, Int.reduceLT, Nat.reduceEqDiff, ↓reduceIte, Nat.reduceLT, Nat.reduceLeDiff, Nat.reduceAdd, Nat.reduceMul, Nat.reduceSub, reduceCtorEq, Int.reduceEq]
    refine acall_p false (ci_name (stA l.stops i) (sL_stop hl h1)) tS tS (.inl rfl) ?_
    simp only [hC, VS, VZ, TY, openC, foldC, foldN, PF, pick_or, pick_and, aop, aopD, rdN, wrN, idL, idA, apure, AS.ev, startA, strip, abin, aint, astr, alen, aslice, optI, aconv, aconvM, gdv, AS.put, ofVal, pcells, ld, ldo, nOw, PV.isOw, gtmp, within, astore, splice, afill, allCells, okIdx, asrc, aflat, aappend, hintOk, PV.clo, PV.clo1, ofL_n, ofL_c, nams, reO, reP, reA, reC, srcI, setG, obG, List.cons.injEq, aeq1, aeqs, onG, Int.reduceLE, Int.reduceNeg, Int.reduceLT, Nat.reduceEqDiff, ↓reduceIte, Nat.reduceLT, Nat.reduceLeDiff, Nat.reduceAdd, Nat.reduceMul, Nat.reduceSub, reduceCtorEq, Int.reduceEq]
    refine ⟨fun h2 => ?_, fun h2 => ?_⟩
    · have h2 : valB (stA l.stops i) = false := by simpa using h2
      rw [h2, Bool.false_and] at ha
      rw [hL, ← ha, Bool.false_and]
      exact Ret_go [] (by simp only [VS, VZ, TY, openC, foldC, foldN, PF, pick_or, pick_and, aop, aopD, rdN, wrN, idL, idA, apure, AS.ev, startA, strip, abin, aint, astr, alen, aslice, optI, aconv, aconvM, gdv, AS.put, ofVal, pcells, ld, ldo, nOw, PV.isOw, gtmp, within, astore, splice, afill, allCells, okIdx, asrc, aflat, aappend, hintOk, PV.clo, PV.clo1, ofL_n, ofL_c, nams, reO, reP, reA, reC, srcI, setG, obG, List.cons.injEq, aeq1, aeqs, onG, Int.reduceLE, Int.reduceNeg, Int.reduceLT, Nat.reduceEqDiff, ↓reduceIte, Nat.reduceLT, Nat.reduceLeDiff, Nat.reduceAdd, Nat.reduceMul, Nat.reduceSub, reduceCtorEq, Int.reduceEq, obsT, obT, okO, okP, okA, okC, okD, okI, reP, reA, reC, srcI, Nl_nil, Nl_cons, PV.nl, upd_at, ofL_n, ofL_c, VS, argsT, lendA, lendL, lendT, Cvl_nil, Cvl_cons, Cv_bool, Cv_int, Cv_str, Cv_nils, Cv_nilc, Cv_cl, Cv_ow, noFn, PV.noF, NR_iff, NRO, hb, ares, ares1, ldo, ld, nOw, PV.isOw, TY]) tS tS
    · have h2 : valB (stA l.stops i) = true := by simpa using h2
      rw [h2, Bool.true_and] at ha
      simp (disch := omega) only [wr64]
      exact ⟨i + 1, ⟨by omega, ha⟩, by omega, Told_go hn [[0]] tS (by simp [cLines, obsT, obT, okO, okP, okA, okC, okD, okI, reP, reA, reC, srcI, Nl_nil, Nl_cons, PV.nl, upd_at, ofL_n, ofL_c, VS, argsT, lendA, lendL, lendT, Cvl_nil, Cvl_cons, Cv_bool, Cv_int, Cv_str, Cv_nils, Cv_nilc, Cv_cl, Cv_ow, noFn, PV.noF, NR_iff, NRO, hb, ares, ares1, ldo, ld, nOw, PV.isOw, TY]) (by simp [cLines, obsT, obT, okO, okP, okA, okC, okD, okI, reP, reA, reC, srcI, Nl_nil, Nl_cons, PV.nl, upd_at, ofL_n, ofL_c, VS, argsT, lendA, lendL, lendT, Cvl_nil, Cvl_cons, Cv_bool, Cv_int, Cv_str, Cv_nils, Cv_nilc, Cv_cl, Cv_ow, noFn, PV.noF, NR_iff, NRO, hb, ares, ares1, ldo, ld, nOw, PV.isOw, TY])⟩
  have : i = l.stops.length := by simp at h1; omega
  subst this
  rw [Nat.sub_self, allI] at ha
  rw [← ha, Bool.true_and] at hL
  clear ha h1 hi
  refine AL.go (X := Nat) (fun i => ⟨ofL [(1, .bp [0] 0), (5, .int .i64 l.stops.length), (43, .cl 3 l.trips.length (lpv cTrip l.trips)), (44, .int .i64 l.trips.length), (45, .int .i64 (i : Int))], ML [.box (cLines l)]⟩) (fun i => l.trips.length - i) (fun i => i ≤ l.trips.length ∧ allI (fun i => tripB l.stops.length (tpA l.trips i)) i (l.trips.length - i) = allI (fun i => tripB l.stops.length (tpA l.trips i)) 0 l.trips.length) 0 (by simp)
    (Told_go hn [[0]] (by simp [obsT, obT, okO, okP, okA, okC, okD, okI, reP, reA, reC, srcI, Nl_nil, Nl_cons, PV.nl, upd_at, ofL_n, ofL_c, VS, argsT, lendA, lendL, lendT, Cvl_nil, Cvl_cons, Cv_bool, Cv_int, Cv_str, Cv_nils, Cv_nilc, Cv_cl, Cv_ow, noFn, PV.noF, NR_iff, NRO, hb, ares, ares1, ldo, ld, nOw, PV.isOw, TY] <;> omega) (by simp [cLines, obsT, obT, okO, okP, okA, okC, okD, okI, reP, reA, reC, srcI, Nl_nil, Nl_cons, PV.nl, upd_at, ofL_n, ofL_c, VS, argsT, lendA, lendL, lendT, Cvl_nil, Cvl_cons, Cv_bool, Cv_int, Cv_str, Cv_nils, Cv_nilc, Cv_cl, Cv_ow, noFn, PV.noF, NR_iff, NRO, hb, ares, ares1, ldo, ld, nOw, PV.isOw, TY]) (by simp [cLines, obsT, obT, okO, okP, okA, okC, okD, okI, reP, reA, reC, srcI, Nl_nil, Nl_cons, PV.nl, upd_at, ofL_n, ofL_c, VS, argsT, lendA, lendL, lendT, Cvl_nil, Cvl_cons, Cv_bool, Cv_int, Cv_str, Cv_nils, Cv_nilc, Cv_cl, Cv_ow, noFn, PV.noF, NR_iff, NRO, hb, ares, ares1, ldo, ld, nOw, PV.isOw, TY])) (fun i hi => vc_ok _ _ _ ?_)
  obtain ⟨hi, ha⟩ := hi
  simp only [hC, cLines, VS, VZ, TY, openC, foldC, foldN, PF, pick_or, pick_and, aop, aopD, rdN, wrN, idL, idA, apure, AS.ev, startA, strip, abin, aint, astr, alen, aslice, optI, aconv, aconvM, gdv, AS.put, ofVal, pcells, ld, ldo, nOw, PV.isOw, gtmp, within, astore, splice, afill, allCells, okIdx, asrc, aflat, aappend, hintOk, PV.clo, PV.clo1, ofL_n, ofL_c, nams, reO, reP, reA, reC, srcI, setG, obG, List.cons.injEq, aeq1, aeqs, onG, Int.reduceLE, Int.reduceNeg, Int.reduceLT, Nat.reduceEqDiff, ↓reduceIte, Nat.reduceLT, Nat.reduceLeDiff, Nat.reduceAdd, Nat.reduceMul, Nat.reduceSub, reduceCtorEq, Int.reduceEq]
  refine ⟨fun h1 => ?_, fun h1 => ?_⟩
  · have h1 : i < l.trips.length := by simpa using h1
    have e := tpA_pv h1
    have st := sL_trip hl h1
    rw [allI_step h1] at ha
    generalize tpA l.trips i = t at *
    refine ⟨by omega, ?_⟩
    simp only [e, cTrip, VS, VZ, TY, openC, foldC, foldN, PF, pick_or, pick_and, aop, aopD, rdN, wrN, idL, idA, apure, AS.ev, startA, strip, abin, aint, astr, alen, aslice, optI, aconv, aconvM, gdv, AS.put, ofVal, pcells, ld, ldo, nOw, PV.isOw, gtmp, within, astore, splice, afill, allCells, okIdx, asrc, aflat, aappend, hintOk, PV.clo, PV.clo1, ofL_n, ofL_c, nams, reO, reP, reA, reC, srcI, setG, obG, List.cons.injEq, aeq1, aeqs, onG, Int.reduceLE, Int.reduceNeg, Int.reduceLT, Nat.reduceEqDiff, ↓reduceIte, Nat.reduceLT, Nat.reduceLeDiff, Nat.reduceAdd, Nat.reduceMul, Nat.reduceSub, reduceCtorEq, Int.reduceEq]
    refine acall_p false (ci_name t.line st.1) tS tS (.inl rfl) ?_
    simp only [hC, VS, VZ, TY, openC, foldC, foldN, PF, pick_or, pick_and, aop, aopD, rdN, wrN, idL, idA, apure, AS.ev, startA, strip, abin, aint, astr, alen, aslice, optI, aconv, aconvM, gdv, AS.put, ofVal, pcells, ld, ldo, nOw, PV.isOw, gtmp, within, astore, splice, afill, allCells, okIdx, asrc, aflat, aappend, hintOk, PV.clo, PV.clo1, ofL_n, ofL_c, nams, reO, reP, reA, reC, srcI, setG, obG, List.cons.injEq, aeq1, aeqs, onG, Int.reduceLE, Int.reduceNeg, Int.reduceLT, Nat.reduceEqDiff, ↓reduceIte, Nat.reduceLT, Nat.reduceLeDiff, Nat.reduceAdd, Nat.reduceMul, Nat.reduceSub, reduceCtorEq, Int.reduceEq]
    cases hv : valB t.line with
    | false =>
      have hT : tripB l.stops.length t = false := by simp [tripB, hv]
      rw [hT, Bool.false_and] at ha
      refine ⟨fun _ => ?_, fun h => absurd h (by simp)⟩
      rw [hL, ← ha, Bool.false_and]
      exact Ret_go [] (by simp only [VS, VZ, TY, openC, foldC, foldN, PF, pick_or, pick_and, aop, aopD, rdN, wrN, idL, idA, apure, AS.ev, startA, strip, abin, aint, astr, alen, aslice, optI, aconv, aconvM, gdv, AS.put, ofVal, pcells, ld, ldo, nOw, PV.isOw, gtmp, within, astore, splice, afill, allCells, okIdx, asrc, aflat, aappend, hintOk, PV.clo, PV.clo1, ofL_n, ofL_c, nams, reO, reP, reA, reC, srcI, setG, obG, List.cons.injEq, aeq1, aeqs, onG, Int.reduceLE, Int.reduceNeg, Int.reduceLT, Nat.reduceEqDiff, ↓reduceIte, Nat.reduceLT, Nat.reduceLeDiff, Nat.reduceAdd, Nat.reduceMul, Nat.reduceSub, reduceCtorEq, Int.reduceEq, obsT, obT, okO, okP, okA, okC, okD, okI, reP, reA, reC, srcI, Nl_nil, Nl_cons, PV.nl, upd_at, ofL_n, ofL_c, VS, argsT, lendA, lendL, lendT, Cvl_nil, Cvl_cons, Cv_bool, Cv_int, Cv_str, Cv_nils, Cv_nilc, Cv_cl, Cv_ow, noFn, PV.noF, NR_iff, NRO, hb, ares, ares1, ldo, ld, nOw, PV.isOw, TY]) tS tS
    | true =>
    refine ⟨fun h => ?_, fun h => ?_⟩
    · have h : ¬ (1 ≤ t.days ∧ t.days ≤ 127 ∧ 2 ≤ t.calls.length ∧ t.calls.length ≤ 40) := by simp at h; omega
      have hT : tripB l.stops.length t = false := by simp [tripB, h]
      rw [hT, Bool.false_and] at ha
      rw [hL, ← ha, Bool.false_and]
      exact Ret_go [] (by simp only [VS, VZ, TY, openC, foldC, foldN, PF, pick_or, pick_and, aop, aopD, rdN, wrN, idL, idA, apure, AS.ev, startA, strip, abin, aint, astr, alen, aslice, optI, aconv, aconvM, gdv, AS.put, ofVal, pcells, ld, ldo, nOw, PV.isOw, gtmp, within, astore, splice, afill, allCells, okIdx, asrc, aflat, aappend, hintOk, PV.clo, PV.clo1, ofL_n, ofL_c, nams, reO, reP, reA, reC, srcI, setG, obG, List.cons.injEq, aeq1, aeqs, onG, Int.reduceLE, Int.reduceNeg, Int.reduceLT, Nat.reduceEqDiff, ↓reduceIte, Nat.reduceLT, Nat.reduceLeDiff, Nat.reduceAdd, Nat.reduceMul, Nat.reduceSub, reduceCtorEq, Int.reduceEq, obsT, obT, okO, okP, okA, okC, okD, okI, reP, reA, reC, srcI, Nl_nil, Nl_cons, PV.nl, upd_at, ofL_n, ofL_c, VS, argsT, lendA, lendL, lendT, Cvl_nil, Cvl_cons, Cv_bool, Cv_int, Cv_str, Cv_nils, Cv_nilc, Cv_cl, Cv_ow, noFn, PV.noF, NR_iff, NRO, hb, ares, ares1, ldo, ld, nOw, PV.isOw, TY]) tS tS
    have h : 1 ≤ t.days ∧ t.days ≤ 127 ∧ 2 ≤ t.calls.length ∧ t.calls.length ≤ 40 := by simp at h; omega
    have hT : tripB l.stops.length t = allI (callB l.stops.length t.calls) 0 t.calls.length := by simp [tripB, hv, h]
    rw [hT] at ha
    refine AL.go (X := Nat) (fun j => ⟨ofL [(1, .bp [0] 0), (5, .int .i64 l.stops.length), (43, .cl 3 l.trips.length (lpv cTrip l.trips)), (44, .int .i64 l.trips.length), (45, .int .i64 (i : Int)), (7, .bp [1] 0), (76, .cl 3 t.calls.length (lpv pCall t.calls)), (77, .int .i64 t.calls.length), (78, .int .i64 (j : Int))], ML [.box (cLines l), .box (cTrip t)]⟩) (fun j => t.calls.length - j) (fun j => j ≤ t.calls.length ∧ allI (callB l.stops.length t.calls) j (t.calls.length - j) = allI (callB l.stops.length t.calls) 0 t.calls.length ∧ 0 ≤ lastD t.calls j) 0 (by simp [lastD_0])
      (Told_go hn [[0], [1]] (by simp [obsT, obT, okO, okP, okA, okC, okD, okI, reP, reA, reC, srcI, Nl_nil, Nl_cons, PV.nl, upd_at, ofL_n, ofL_c, VS, argsT, lendA, lendL, lendT, Cvl_nil, Cvl_cons, Cv_bool, Cv_int, Cv_str, Cv_nils, Cv_nilc, Cv_cl, Cv_ow, noFn, PV.noF, NR_iff, NRO, hb, ares, ares1, ldo, ld, nOw, PV.isOw, TY] <;> omega) (by simp [cLines, cTrip, obsT, obT, okO, okP, okA, okC, okD, okI, reP, reA, reC, srcI, Nl_nil, Nl_cons, PV.nl, upd_at, ofL_n, ofL_c, VS, argsT, lendA, lendL, lendT, Cvl_nil, Cvl_cons, Cv_bool, Cv_int, Cv_str, Cv_nils, Cv_nilc, Cv_cl, Cv_ow, noFn, PV.noF, NR_iff, NRO, hb, ares, ares1, ldo, ld, nOw, PV.isOw, TY]) (by simp [cLines, cTrip, obsT, obT, okO, okP, okA, okC, okD, okI, reP, reA, reC, srcI, Nl_nil, Nl_cons, PV.nl, upd_at, ofL_n, ofL_c, VS, argsT, lendA, lendL, lendT, Cvl_nil, Cvl_cons, Cv_bool, Cv_int, Cv_str, Cv_nils, Cv_nilc, Cv_cl, Cv_ow, noFn, PV.noF, NR_iff, NRO, hb, ares, ares1, ldo, ld, nOw, PV.isOw, TY])) (fun j hj => vc_ok _ _ _ ?_)
    obtain ⟨hj, hb, hz⟩ := hj
    simp only [hC, cLines, cTrip, VS, VZ, TY, openC, foldC, foldN, PF, pick_or, pick_and, aop, aopD, rdN, wrN, idL, idA, apure, AS.ev, startA, strip, abin, aint, astr, alen, aslice, optI, aconv, aconvM, gdv, AS.put, ofVal, pcells, ld, ldo, nOw, PV.isOw, gtmp, within, astore, splice, afill, allCells, okIdx, asrc, aflat, aappend, hintOk, PV.clo, PV.clo1, ofL_n, ofL_c, nams, reO, reP, reA, reC, srcI, setG, obG, List.cons.injEq, aeq1, aeqs, onG, Int.reduceLE, Int.reduceNeg, Int.reduceLT, Nat.reduceEqDiff, ↓reduceIte, Nat.reduceLT, Nat.reduceLeDiff, Nat.reduceAdd, Nat.reduceMul, Nat.reduceSub, reduceCtorEq, Int.reduceEq]
    refine ⟨fun h1 => ?_, fun h1 => ?_⟩
    · have h1 : j < t.calls.length := by simpa using h1
      have e := clA_pv h1
      have ep : lpv pCall t.calls (j - 1) = pCall (clA t.calls (j - 1)) := clA_pv (by omega)
      have e2 : ((j : Int) - 1).toNat = j - 1 := by omega
      have hld : j ≠ 0 → lastD t.calls j = (clA t.calls (j - 1)).dep := fun q => by simp [lastD, q]
      have hl0 : j = 0 → lastD t.calls j = 0 := fun q => by simp [lastD, q]
      have hw : IntKind.i64.wrap ((j : Int) - 1) = (j : Int) - 1 := wr64 (by omega) (by omega)
      have hw2 : IntKind.i64.wrap ((j : Int) + 1) = (j : Int) + 1 := wr64 (by omega) (by omega)
      rw [allI_step h1] at hb
      refine ⟨by omega, ?_⟩
      simp only [e, ep, e2, hw, hw2, pCall, VS, VZ, TY, openC, foldC, foldN, PF, pick_or, pick_and, aop, aopD, rdN, wrN, idL, idA, apure, AS.ev, startA, strip, abin, aint, astr, alen, aslice, optI, aconv, aconvM, gdv, AS.put, ofVal, pcells, ld, ldo, nOw, PV.isOw, gtmp, within, astore, splice, afill, allCells, okIdx, asrc, aflat, aappend, hintOk, PV.clo, PV.clo1, ofL_n, ofL_c, nams, reO, reP, reA, reC, srcI, setG, obG, List.cons.injEq, aeq1, aeqs, onG, Int.reduceLE, Int.reduceNeg, Int.reduceLT, Nat.reduceEqDiff, ↓reduceIte, Nat.reduceLT, Nat.reduceLeDiff, Nat.reduceAdd, Nat.reduceMul, Nat.reduceSub, reduceCtorEq, Int.reduceEq]
      refine ⟨fun h2 => ?_, fun h2 => ?_⟩
      · have h2 : callB l.stops.length t.calls j = false := by simp [callB] at h2 ⊢; omega
        rw [h2, Bool.false_and] at hb
        rw [← hb, Bool.false_and] at ha
        rw [hL, ← ha, Bool.false_and]
        exact Ret_go [] (by simp only [VS, VZ, TY, openC, foldC, foldN, PF, pick_or, pick_and, aop, aopD, rdN, wrN, idL, idA, apure, AS.ev, startA, strip, abin, aint, astr, alen, aslice, optI, aconv, aconvM, gdv, AS.put, ofVal, pcells, ld, ldo, nOw, PV.isOw, gtmp, within, astore, splice, afill, allCells, okIdx, asrc, aflat, aappend, hintOk, PV.clo, PV.clo1, ofL_n, ofL_c, nams, reO, reP, reA, reC, srcI, setG, obG, List.cons.injEq, aeq1, aeqs, onG, Int.reduceLE, Int.reduceNeg, Int.reduceLT, Nat.reduceEqDiff, ↓reduceIte, Nat.reduceLT, Nat.reduceLeDiff, Nat.reduceAdd, Nat.reduceMul, Nat.reduceSub, reduceCtorEq, Int.reduceEq, obsT, obT, okO, okP, okA, okC, okD, okI, reP, reA, reC, srcI, Nl_nil, Nl_cons, PV.nl, upd_at, ofL_n, ofL_c, VS, argsT, lendA, lendL, lendT, Cvl_nil, Cvl_cons, Cv_bool, Cv_int, Cv_str, Cv_nils, Cv_nilc, Cv_cl, Cv_ow, noFn, PV.noF, NR_iff, NRO, hb, ares, ares1, ldo, ld, nOw, PV.isOw, TY]) tS tS
      refine ⟨by kernel_rfl, fun h3 => by simp at h3; omega, fun h3 => by simp at h3; omega, fun h3 => ?_, fun h3 => ?_⟩
      · have h2 : callB l.stops.length t.calls j = false := by simp [callB] at h2 h3 ⊢; omega
        rw [h2, Bool.false_and] at hb
        rw [← hb, Bool.false_and] at ha
        rw [hL, ← ha, Bool.false_and]
        exact Ret_go [] (by simp only [VS, VZ, TY, openC, foldC, foldN, PF, pick_or, pick_and, aop, aopD, rdN, wrN, idL, idA, apure, AS.ev, startA, strip, abin, aint, astr, alen, aslice, optI, aconv, aconvM, gdv, AS.put, ofVal, pcells, ld, ldo, nOw, PV.isOw, gtmp, within, astore, splice, afill, allCells, okIdx, asrc, aflat, aappend, hintOk, PV.clo, PV.clo1, ofL_n, ofL_c, nams, reO, reP, reA, reC, srcI, setG, obG, List.cons.injEq, aeq1, aeqs, onG, Int.reduceLE, Int.reduceNeg, Int.reduceLT, Nat.reduceEqDiff, ↓reduceIte, Nat.reduceLT, Nat.reduceLeDiff, Nat.reduceAdd, Nat.reduceMul, Nat.reduceSub, reduceCtorEq, Int.reduceEq, obsT, obT, okO, okP, okA, okC, okD, okI, reP, reA, reC, srcI, Nl_nil, Nl_cons, PV.nl, upd_at, ofL_n, ofL_c, VS, argsT, lendA, lendL, lendT, Cvl_nil, Cvl_cons, Cv_bool, Cv_int, Cv_str, Cv_nils, Cv_nilc, Cv_cl, Cv_ow, noFn, PV.noF, NR_iff, NRO, hb, ares, ares1, ldo, ld, nOw, PV.isOw, TY]) tS tS
      · have h4 : callB l.stops.length t.calls j = true := by simp [callB] at h2 h3 ⊢; omega
        rw [h4, Bool.true_and] at hb
        exact ⟨j + 1, ⟨by omega, hb, by rw [lastD_s]; simp at h2; omega⟩, by omega, Told_go hn [[0], [1]] (by simp [obsT, obT, okO, okP, okA, okC, okD, okI, reP, reA, reC, srcI, Nl_nil, Nl_cons, PV.nl, upd_at, ofL_n, ofL_c, VS, argsT, lendA, lendL, lendT, Cvl_nil, Cvl_cons, Cv_bool, Cv_int, Cv_str, Cv_nils, Cv_nilc, Cv_cl, Cv_ow, noFn, PV.noF, NR_iff, NRO, hb, ares, ares1, ldo, ld, nOw, PV.isOw, TY] <;> omega) (by simp [cLines, cTrip, obsT, obT, okO, okP, okA, okC, okD, okI, reP, reA, reC, srcI, Nl_nil, Nl_cons, PV.nl, upd_at, ofL_n, ofL_c, VS, argsT, lendA, lendL, lendT, Cvl_nil, Cvl_cons, Cv_bool, Cv_int, Cv_str, Cv_nils, Cv_nilc, Cv_cl, Cv_ow, noFn, PV.noF, NR_iff, NRO, hb, ares, ares1, ldo, ld, nOw, PV.isOw, TY]) (by simp [cLines, cTrip, obsT, obT, okO, okP, okA, okC, okD, okI, reP, reA, reC, srcI, Nl_nil, Nl_cons, PV.nl, upd_at, ofL_n, ofL_c, VS, argsT, lendA, lendL, lendT, Cvl_nil, Cvl_cons, Cv_bool, Cv_int, Cv_str, Cv_nils, Cv_nilc, Cv_cl, Cv_ow, noFn, PV.noF, NR_iff, NRO, hb, ares, ares1, ldo, ld, nOw, PV.isOw, TY])⟩
    have : j = t.calls.length := by simp at h1; omega
    subst this
    rw [Nat.sub_self, allI] at hb
    rw [← hb, Bool.true_and] at ha
    simp (disch := omega) only [wr64]
    exact ⟨i + 1, ⟨by omega, ha⟩, by omega, Told_go hn [[0]] (by simp [obsT, obT, okO, okP, okA, okC, okD, okI, reP, reA, reC, srcI, Nl_nil, Nl_cons, PV.nl, upd_at, ofL_n, ofL_c, VS, argsT, lendA, lendL, lendT, Cvl_nil, Cvl_cons, Cv_bool, Cv_int, Cv_str, Cv_nils, Cv_nilc, Cv_cl, Cv_ow, noFn, PV.noF, NR_iff, NRO, hb, ares, ares1, ldo, ld, nOw, PV.isOw, TY] <;> omega) (by simp [cLines, obsT, obT, okO, okP, okA, okC, okD, okI, reP, reA, reC, srcI, Nl_nil, Nl_cons, PV.nl, upd_at, ofL_n, ofL_c, VS, argsT, lendA, lendL, lendT, Cvl_nil, Cvl_cons, Cv_bool, Cv_int, Cv_str, Cv_nils, Cv_nilc, Cv_cl, Cv_ow, noFn, PV.noF, NR_iff, NRO, hb, ares, ares1, ldo, ld, nOw, PV.isOw, TY]) (by simp [cLines, obsT, obT, okO, okP, okA, okC, okD, okI, reP, reA, reC, srcI, Nl_nil, Nl_cons, PV.nl, upd_at, ofL_n, ofL_c, VS, argsT, lendA, lendL, lendT, Cvl_nil, Cvl_cons, Cv_bool, Cv_int, Cv_str, Cv_nils, Cv_nilc, Cv_cl, Cv_ow, noFn, PV.noF, NR_iff, NRO, hb, ares, ares1, ldo, ld, nOw, PV.isOw, TY])⟩
  have : i = l.trips.length := by simp at h1; omega
  subst this
  rw [Nat.sub_self, allI] at ha
  rw [← ha, Bool.true_and] at hL
  rw [hL]
  clear ha h1 hi
  refine AL.go (X := Nat) (fun i => ⟨ofL [(1, .bp [0] 0), (5, .int .i64 l.stops.length), (138, .cl 3 l.walks.length (lpv pWalk l.walks)), (139, .int .i64 l.walks.length), (140, .int .i64 (i : Int))], ML [.box (cLines l)]⟩) (fun i => l.walks.length - i) (fun i => i ≤ l.walks.length ∧ allI (fun i => walkB l.stops.length (wkA l.walks i)) i (l.walks.length - i) = allI (fun i => walkB l.stops.length (wkA l.walks i)) 0 l.walks.length) 0 (by simp)
    (Told_go hn [[0]] (by simp [obsT, obT, okO, okP, okA, okC, okD, okI, reP, reA, reC, srcI, Nl_nil, Nl_cons, PV.nl, upd_at, ofL_n, ofL_c, VS, argsT, lendA, lendL, lendT, Cvl_nil, Cvl_cons, Cv_bool, Cv_int, Cv_str, Cv_nils, Cv_nilc, Cv_cl, Cv_ow, noFn, PV.noF, NR_iff, NRO, hb, ares, ares1, ldo, ld, nOw, PV.isOw, TY] <;> omega) (by simp [cLines, obsT, obT, okO, okP, okA, okC, okD, okI, reP, reA, reC, srcI, Nl_nil, Nl_cons, PV.nl, upd_at, ofL_n, ofL_c, VS, argsT, lendA, lendL, lendT, Cvl_nil, Cvl_cons, Cv_bool, Cv_int, Cv_str, Cv_nils, Cv_nilc, Cv_cl, Cv_ow, noFn, PV.noF, NR_iff, NRO, hb, ares, ares1, ldo, ld, nOw, PV.isOw, TY]) (by simp [cLines, obsT, obT, okO, okP, okA, okC, okD, okI, reP, reA, reC, srcI, Nl_nil, Nl_cons, PV.nl, upd_at, ofL_n, ofL_c, VS, argsT, lendA, lendL, lendT, Cvl_nil, Cvl_cons, Cv_bool, Cv_int, Cv_str, Cv_nils, Cv_nilc, Cv_cl, Cv_ow, noFn, PV.noF, NR_iff, NRO, hb, ares, ares1, ldo, ld, nOw, PV.isOw, TY])) (fun i hi => vc_ok _ _ _ ?_)
  obtain ⟨hi, ha⟩ := hi
  simp only [hC, cLines, VS, VZ, TY, openC, foldC, foldN, PF, pick_or, pick_and, aop, aopD, rdN, wrN, idL, idA, apure, AS.ev, startA, strip, abin, aint, astr, alen, aslice, optI, aconv, aconvM, gdv, AS.put, ofVal, pcells, ld, ldo, nOw, PV.isOw, gtmp, within, astore, splice, afill, allCells, okIdx, asrc, aflat, aappend, hintOk, PV.clo, PV.clo1, ofL_n, ofL_c, nams, reO, reP, reA, reC, srcI, setG, obG, List.cons.injEq, aeq1, aeqs, onG, Int.reduceLE, Int.reduceNeg, Int.reduceLT, Nat.reduceEqDiff, ↓reduceIte, Nat.reduceLT, Nat.reduceLeDiff, Nat.reduceAdd, Nat.reduceMul, Nat.reduceSub, reduceCtorEq, Int.reduceEq]
  refine ⟨fun h1 => ?_, fun h1 => ?_⟩
  · have h1 : i < l.walks.length := by simpa using h1
    have e := wkA_pv h1
    rw [allI_step h1] at ha
    refine ⟨by omega, ?_⟩
    simp only [e, pWalk, VS, VZ, TY, openC, foldC, foldN, PF, pick_or, pick_and, aop, aopD, rdN, wrN, idL, idA, apure, AS.ev, startA, strip, abin, aint, astr, alen, aslice, optI, aconv, aconvM, gdv, AS.put, ofVal, pcells, ld, ldo, nOw, PV.isOw, gtmp, within, astore, splice, afill, allCells, okIdx, asrc, aflat, aappend, hintOk, PV.clo, PV.clo1, ofL_n, ofL_c, nams, reO, reP, reA, reC, srcI, setG, obG, List.cons.injEq, aeq1, aeqs, onG, Int.reduceLE, Int.reduceNeg, Int.reduceLT, Nat.reduceEqDiff, ↓reduceIte, Nat.reduceLT, Nat.reduceLeDiff, Nat.reduceAdd, Nat.reduceMul, Nat.reduceSub, reduceCtorEq, Int.reduceEq]
    refine ⟨fun h2 => ?_, fun h2 => ?_⟩
    · have h2 : walkB l.stops.length (wkA l.walks i) = false := by simp [walkB] at h2 ⊢; omega
      rw [h2, Bool.false_and] at ha
      rw [← ha]
      exact Ret_go [] (by simp only [VS, VZ, TY, openC, foldC, foldN, PF, pick_or, pick_and, aop, aopD, rdN, wrN, idL, idA, apure, AS.ev, startA, strip, abin, aint, astr, alen, aslice, optI, aconv, aconvM, gdv, AS.put, ofVal, pcells, ld, ldo, nOw, PV.isOw, gtmp, within, astore, splice, afill, allCells, okIdx, asrc, aflat, aappend, hintOk, PV.clo, PV.clo1, ofL_n, ofL_c, nams, reO, reP, reA, reC, srcI, setG, obG, List.cons.injEq, aeq1, aeqs, onG, Int.reduceLE, Int.reduceNeg, Int.reduceLT, Nat.reduceEqDiff, ↓reduceIte, Nat.reduceLT, Nat.reduceLeDiff, Nat.reduceAdd, Nat.reduceMul, Nat.reduceSub, reduceCtorEq, Int.reduceEq, obsT, obT, okO, okP, okA, okC, okD, okI, reP, reA, reC, srcI, Nl_nil, Nl_cons, PV.nl, upd_at, ofL_n, ofL_c, VS, argsT, lendA, lendL, lendT, Cvl_nil, Cvl_cons, Cv_bool, Cv_int, Cv_str, Cv_nils, Cv_nilc, Cv_cl, Cv_ow, noFn, PV.noF, NR_iff, NRO, hb, ares, ares1, ldo, ld, nOw, PV.isOw, TY]) tS tS
    · have h2 : walkB l.stops.length (wkA l.walks i) = true := by simp [walkB] at h2 ⊢; omega
      rw [h2, Bool.true_and] at ha
      simp (disch := omega) only [wr64]
      exact ⟨i + 1, ⟨by omega, ha⟩, by omega, Told_go hn [[0]] (by simp [obsT, obT, okO, okP, okA, okC, okD, okI, reP, reA, reC, srcI, Nl_nil, Nl_cons, PV.nl, upd_at, ofL_n, ofL_c, VS, argsT, lendA, lendL, lendT, Cvl_nil, Cvl_cons, Cv_bool, Cv_int, Cv_str, Cv_nils, Cv_nilc, Cv_cl, Cv_ow, noFn, PV.noF, NR_iff, NRO, hb, ares, ares1, ldo, ld, nOw, PV.isOw, TY] <;> omega) (by simp [cLines, obsT, obT, okO, okP, okA, okC, okD, okI, reP, reA, reC, srcI, Nl_nil, Nl_cons, PV.nl, upd_at, ofL_n, ofL_c, VS, argsT, lendA, lendL, lendT, Cvl_nil, Cvl_cons, Cv_bool, Cv_int, Cv_str, Cv_nils, Cv_nilc, Cv_cl, Cv_ow, noFn, PV.noF, NR_iff, NRO, hb, ares, ares1, ldo, ld, nOw, PV.isOw, TY]) (by simp [cLines, obsT, obT, okO, okP, okA, okC, okD, okI, reP, reA, reC, srcI, Nl_nil, Nl_cons, PV.nl, upd_at, ofL_n, ofL_c, VS, argsT, lendA, lendL, lendT, Cvl_nil, Cvl_cons, Cv_bool, Cv_int, Cv_str, Cv_nils, Cv_nilc, Cv_cl, Cv_ow, noFn, PV.noF, NR_iff, NRO, hb, ares, ares1, ldo, ld, nOw, PV.isOw, TY])⟩
  have : i = l.walks.length := by simp at h1; omega
  subst this
  rw [Nat.sub_self, allI] at ha
  rw [← ha]
  exact Ret_go [] (by simp only [VS, VZ, TY, openC, foldC, foldN, PF, pick_or, pick_and, aop, aopD, rdN, wrN, idL, idA, apure, AS.ev, startA, strip, abin, aint, astr, alen, aslice, optI, aconv, aconvM, gdv, AS.put, ofVal, pcells, ld, ldo, nOw, PV.isOw, gtmp, within, astore, splice, afill, allCells, okIdx, asrc, aflat, aappend, hintOk, PV.clo, PV.clo1, ofL_n, ofL_c, nams, reO, reP, reA, reC, srcI, setG, obG, List.cons.injEq, aeq1, aeqs, onG, Int.reduceLE, Int.reduceNeg, Int.reduceLT, Nat.reduceEqDiff, ↓reduceIte, Nat.reduceLT, Nat.reduceLeDiff, Nat.reduceAdd, Nat.reduceMul, Nat.reduceSub, reduceCtorEq, Int.reduceEq, obsT, obT, okO, okP, okA, okC, okD, okI, reP, reA, reC, srcI, Nl_nil, Nl_cons, PV.nl, upd_at, ofL_n, ofL_c, VS, argsT, lendA, lendL, lendT, Cvl_nil, Cvl_cons, Cv_bool, Cv_int, Cv_str, Cv_nils, Cv_nilc, Cv_cl, Cv_ow, noFn, PV.noF, NR_iff, NRO, hb, ares, ares1, ldo, ld, nOw, PV.isOw, TY]) tS tS
end Go.Proofs.Ytmmlpehfieojdaa.Wd
