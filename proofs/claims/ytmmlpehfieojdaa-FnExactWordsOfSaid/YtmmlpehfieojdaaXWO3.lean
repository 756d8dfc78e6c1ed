/- What the proof of FnExactWordsOf stands on, part 3: plain lemmas and contracts. -/
import Derived.Test.YtmmlpehfieojdaaProg
import Derived.Test.YtmmlpehfieojdaaXWO2
namespace Go.Proofs.Ytmmlpehfieojdaa.Wd
open Go Go.RowKit Go.Proofs Go.Proofs.YtmmlpehfieojdaaW.AW
set_option linter.unusedVariables false
set_option linter.unusedSimpArgs false
set_option maxRecDepth 100000
theorem TY : (tyD Try.prog 3 = ⟨TK.int IntKind.i64, 1, [], [PV.int IntKind.i64 0], true, 0, 0, false, [], PV.int IntKind.i64 0, true, false, []⟩ ∧ tk Try.prog 3 = TK.int IntKind.i64 ∧ (tkU8 Try.prog 3 ↔ False)) ∧
    (tyD Try.prog 2 = ⟨TK.int IntKind.i64, 1, [], [PV.int IntKind.i64 0], true, 0, 0, false, [], PV.int IntKind.i64 0, true, false, []⟩ ∧ tk Try.prog 2 = TK.int IntKind.i64 ∧ (tkU8 Try.prog 2 ↔ False)) ∧
    (tyD Try.prog 4 = ⟨TK.bool, 1, [], [PV.bool false], true, 0, 0, false, [], PV.bool false, true, false, []⟩ ∧ tk Try.prog 4 = TK.bool ∧ (tkU8 Try.prog 4 ↔ False)) ∧
    (tyD Try.prog 9 = ⟨TK.string, 1, [], [PV.str ByteArray.empty], true, 0, 0, false, [], PV.str ByteArray.empty, true, false, []⟩ ∧ tk Try.prog 9 = TK.string ∧ (tkU8 Try.prog 9 ↔ False)) ∧
    (tyD Try.prog 192 = ⟨TK.struct, 3, [(0, 1, 2), (1, 1, 2), (2, 1, 2)], [PV.int IntKind.i64 0, PV.int IntKind.i64 0, PV.int IntKind.i64 0], true, 0, 0, false, [], PV.ag [PV.int IntKind.i64 0, PV.int IntKind.i64 0, PV.int IntKind.i64 0], true, true, [TK.int IntKind.i64, TK.int IntKind.i64, TK.int IntKind.i64]⟩ ∧ tk Try.prog 192 = TK.struct ∧ (tkU8 Try.prog 192 ↔ False)) ∧
    (tyD Try.prog 40 = ⟨TK.struct, 3, [(0, 1, 2), (1, 1, 2), (2, 1, 2)], [PV.int IntKind.i64 0, PV.int IntKind.i64 0, PV.int IntKind.i64 0], true, 0, 0, false, [], PV.ag [PV.int IntKind.i64 0, PV.int IntKind.i64 0, PV.int IntKind.i64 0], true, true, [TK.int IntKind.i64, TK.int IntKind.i64, TK.int IntKind.i64]⟩ ∧ tk Try.prog 40 = TK.struct ∧ (tkU8 Try.prog 40 ↔ False)) ∧
    (tyD Try.prog 166 = ⟨TK.slice 192, 1, [], [PV.nils], true, 3, 24, true, [PV.int IntKind.i64 0, PV.int IntKind.i64 0, PV.int IntKind.i64 0], PV.nils, true, false, []⟩ ∧ tk Try.prog 166 = TK.slice 192 ∧ ((∃ e', Try.prog.underlying 166 = some (.slice e')) ↔ True) ∧ (tkU8 Try.prog 166 ↔ False)) ∧
    (tyD Try.prog 35 = ⟨TK.slice 40, 1, [], [PV.nils], true, 3, 24, true, [PV.int IntKind.i64 0, PV.int IntKind.i64 0, PV.int IntKind.i64 0], PV.nils, true, false, []⟩ ∧ tk Try.prog 35 = TK.slice 40 ∧ ((∃ e', Try.prog.underlying 35 = some (.slice e')) ↔ True) ∧ (tkU8 Try.prog 35 ↔ False)) ∧
    (tyD Try.prog 168 = ⟨TK.struct, 3, [(0, 1, 9), (1, 1, 2), (2, 1, 166)], [PV.str ByteArray.empty, PV.int IntKind.i64 0, PV.nils], true, 0, 0, false, [], PV.ag [PV.str ByteArray.empty, PV.int IntKind.i64 0, PV.nils], true, false, [TK.string, TK.int IntKind.i64, TK.slice 192]⟩ ∧ tk Try.prog 168 = TK.struct ∧ (tkU8 Try.prog 168 ↔ False)) ∧
    (tyD Try.prog 37 = ⟨TK.struct, 3, [(0, 1, 9), (1, 1, 2), (2, 1, 35)], [PV.str ByteArray.empty, PV.int IntKind.i64 0, PV.nils], true, 0, 0, false, [], PV.ag [PV.str ByteArray.empty, PV.int IntKind.i64 0, PV.nils], true, false, [TK.string, TK.int IntKind.i64, TK.slice 40]⟩ ∧ tk Try.prog 37 = TK.struct ∧ (tkU8 Try.prog 37 ↔ False)) ∧
    (tyD Try.prog 94 = ⟨TK.slice 168, 1, [], [PV.nils], true, 3, 48, true, [PV.str ByteArray.empty, PV.int IntKind.i64 0, PV.nils], PV.nils, true, false, []⟩ ∧ tk Try.prog 94 = TK.slice 168 ∧ ((∃ e', Try.prog.underlying 94 = some (.slice e')) ↔ True) ∧ (tkU8 Try.prog 94 ↔ False)) ∧
    (tyD Try.prog 25 = ⟨TK.slice 37, 1, [], [PV.nils], true, 3, 48, true, [PV.str ByteArray.empty, PV.int IntKind.i64 0, PV.nils], PV.nils, true, false, []⟩ ∧ tk Try.prog 25 = TK.slice 37 ∧ ((∃ e', Try.prog.underlying 25 = some (.slice e')) ↔ True) ∧ (tkU8 Try.prog 25 ↔ False)) ∧
    (tyD Try.prog 172 = ⟨TK.struct, 3, [(0, 1, 2), (1, 1, 2), (2, 1, 2)], [PV.int IntKind.i64 0, PV.int IntKind.i64 0, PV.int IntKind.i64 0], true, 0, 0, false, [], PV.ag [PV.int IntKind.i64 0, PV.int IntKind.i64 0, PV.int IntKind.i64 0], true, true, [TK.int IntKind.i64, TK.int IntKind.i64, TK.int IntKind.i64]⟩ ∧ tk Try.prog 172 = TK.struct ∧ (tkU8 Try.prog 172 ↔ False)) ∧
    (tyD Try.prog 43 = ⟨TK.struct, 3, [(0, 1, 2), (1, 1, 2), (2, 1, 2)], [PV.int IntKind.i64 0, PV.int IntKind.i64 0, PV.int IntKind.i64 0], true, 0, 0, false, [], PV.ag [PV.int IntKind.i64 0, PV.int IntKind.i64 0, PV.int IntKind.i64 0], true, true, [TK.int IntKind.i64, TK.int IntKind.i64, TK.int IntKind.i64]⟩ ∧ tk Try.prog 43 = TK.struct ∧ (tkU8 Try.prog 43 ↔ False)) ∧
    (tyD Try.prog 95 = ⟨TK.slice 172, 1, [], [PV.nils], true, 3, 24, true, [PV.int IntKind.i64 0, PV.int IntKind.i64 0, PV.int IntKind.i64 0], PV.nils, true, false, []⟩ ∧ tk Try.prog 95 = TK.slice 172 ∧ ((∃ e', Try.prog.underlying 95 = some (.slice e')) ↔ True) ∧ (tkU8 Try.prog 95 ↔ False)) ∧
    (tyD Try.prog 26 = ⟨TK.slice 43, 1, [], [PV.nils], true, 3, 24, true, [PV.int IntKind.i64 0, PV.int IntKind.i64 0, PV.int IntKind.i64 0], PV.nils, true, false, []⟩ ∧ tk Try.prog 26 = TK.slice 43 ∧ ((∃ e', Try.prog.underlying 26 = some (.slice e')) ↔ True) ∧ (tkU8 Try.prog 26 ↔ False)) ∧
    (tyD Try.prog 97 = ⟨TK.struct, 3, [(0, 1, 24), (1, 1, 94), (2, 1, 95)], [PV.nils, PV.nils, PV.nils], true, 0, 0, false, [], PV.ag [PV.nils, PV.nils, PV.nils], true, false, [TK.slice 9, TK.slice 168, TK.slice 172]⟩ ∧ tk Try.prog 97 = TK.struct ∧ (tkU8 Try.prog 97 ↔ False)) ∧
    (tyD Try.prog 28 = ⟨TK.struct, 3, [(0, 1, 24), (1, 1, 25), (2, 1, 26)], [PV.nils, PV.nils, PV.nils], true, 0, 0, false, [], PV.ag [PV.nils, PV.nils, PV.nils], true, false, [TK.slice 9, TK.slice 37, TK.slice 43]⟩ ∧ tk Try.prog 28 = TK.struct ∧ (tkU8 Try.prog 28 ↔ False)) ∧
    (tyD Try.prog 24 = ⟨TK.slice 9, 1, [], [PV.nils], true, 1, 16, true, [PV.str ByteArray.empty], PV.nils, true, false, []⟩ ∧ tk Try.prog 24 = TK.slice 9 ∧ ((∃ e', Try.prog.underlying 24 = some (.slice e')) ↔ True) ∧ (tkU8 Try.prog 24 ↔ False)) ∧
    (tyD Try.prog 34 = ⟨TK.slice 2, 1, [], [PV.nils], true, 1, 8, true, [PV.int IntKind.i64 0], PV.nils, true, false, []⟩ ∧ tk Try.prog 34 = TK.slice 2 ∧ ((∃ e', Try.prog.underlying 34 = some (.slice e')) ↔ True) ∧ (tkU8 Try.prog 34 ↔ False)) ∧
    (tyD Try.prog 31 = ⟨TK.slice 34, 1, [], [PV.nils], true, 1, 24, true, [PV.nils], PV.nils, true, false, []⟩ ∧ tk Try.prog 31 = TK.slice 34 ∧ ((∃ e', Try.prog.underlying 31 = some (.slice e')) ↔ True) ∧ (tkU8 Try.prog 31 ↔ False)) ∧
    (tyD Try.prog 123 = ⟨TK.struct, 4, [(0, 1, 2), (1, 1, 2), (2, 1, 2), (3, 1, 2)], [PV.int IntKind.i64 0, PV.int IntKind.i64 0, PV.int IntKind.i64 0, PV.int IntKind.i64 0], true, 0, 0, false, [], PV.ag [PV.int IntKind.i64 0, PV.int IntKind.i64 0, PV.int IntKind.i64 0, PV.int IntKind.i64 0], true, true, [TK.int IntKind.i64, TK.int IntKind.i64, TK.int IntKind.i64, TK.int IntKind.i64]⟩ ∧ tk Try.prog 123 = TK.struct ∧ (tkU8 Try.prog 123 ↔ False)) ∧
    (tyD Try.prog 50 = ⟨TK.slice 123, 1, [], [PV.nils], true, 4, 32, true, [PV.int IntKind.i64 0, PV.int IntKind.i64 0, PV.int IntKind.i64 0, PV.int IntKind.i64 0], PV.nils, true, false, []⟩ ∧ tk Try.prog 50 = TK.slice 123 ∧ ((∃ e', Try.prog.underlying 50 = some (.slice e')) ↔ True) ∧ (tkU8 Try.prog 50 ↔ False)) ∧
    (tyD Try.prog 52 = ⟨TK.struct, 3, [(0, 1, 2), (1, 1, 2), (2, 1, 50)], [PV.int IntKind.i64 0, PV.int IntKind.i64 0, PV.nils], true, 0, 0, false, [], PV.ag [PV.int IntKind.i64 0, PV.int IntKind.i64 0, PV.nils], true, false, [TK.int IntKind.i64, TK.int IntKind.i64, TK.slice 123]⟩ ∧ tk Try.prog 52 = TK.struct ∧ (tkU8 Try.prog 52 ↔ False)) ∧
    (tyD Try.prog 48 = ⟨TK.slice 52, 1, [], [PV.nils], true, 3, 40, true, [PV.int IntKind.i64 0, PV.int IntKind.i64 0, PV.nils], PV.nils, true, false, []⟩ ∧ tk Try.prog 48 = TK.slice 52 ∧ ((∃ e', Try.prog.underlying 48 = some (.slice e')) ↔ True) ∧ (tkU8 Try.prog 48 ↔ False)) ∧
    (tyD Try.prog 89 = ⟨TK.int IntKind.u64, 1, [], [PV.int IntKind.u64 0], true, 0, 0, false, [], PV.int IntKind.u64 0, true, false, []⟩ ∧ tk Try.prog 89 = TK.int IntKind.u64 ∧ (tkU8 Try.prog 89 ↔ False)) ∧
    (tyD Try.prog 38 = ⟨TK.int IntKind.u64, 1, [], [PV.int IntKind.u64 0], true, 0, 0, false, [], PV.int IntKind.u64 0, true, false, []⟩ ∧ tk Try.prog 38 = TK.int IntKind.u64 ∧ (tkU8 Try.prog 38 ↔ False)) :=
  ⟨⟨by kernel_rfl, by kernel_rfl, ⟨fun h => absurd h (by decide +kernel), fun h => h.elim⟩⟩,
    ⟨by kernel_rfl, by kernel_rfl, ⟨fun h => absurd h (by decide +kernel), fun h => h.elim⟩⟩,
    ⟨by kernel_rfl, by kernel_rfl, ⟨fun h => absurd h (by decide +kernel), fun h => h.elim⟩⟩,
    ⟨by kernel_rfl, by kernel_rfl, ⟨fun h => absurd h (by decide +kernel), fun h => h.elim⟩⟩,
    ⟨by kernel_rfl, by kernel_rfl, ⟨fun h => absurd h (by decide +kernel), fun h => h.elim⟩⟩,
    ⟨by kernel_rfl, by kernel_rfl, ⟨fun h => absurd h (by decide +kernel), fun h => h.elim⟩⟩,
    ⟨by kernel_rfl, by kernel_rfl, ⟨fun _ => trivial, fun _ => ⟨192, by kernel_rfl⟩⟩, ⟨fun h => absurd h (by decide +kernel), fun h => h.elim⟩⟩,
    ⟨by kernel_rfl, by kernel_rfl, ⟨fun _ => trivial, fun _ => ⟨40, by kernel_rfl⟩⟩, ⟨fun h => absurd h (by decide +kernel), fun h => h.elim⟩⟩,
    ⟨by kernel_rfl, by kernel_rfl, ⟨fun h => absurd h (by decide +kernel), fun h => h.elim⟩⟩,
    ⟨by kernel_rfl, by kernel_rfl, ⟨fun h => absurd h (by decide +kernel), fun h => h.elim⟩⟩,
    ⟨by kernel_rfl, by kernel_rfl, ⟨fun _ => trivial, fun _ => ⟨168, by kernel_rfl⟩⟩, ⟨fun h => absurd h (by decide +kernel), fun h => h.elim⟩⟩,
    ⟨by kernel_rfl, by kernel_rfl, ⟨fun _ => trivial, fun _ => ⟨37, by kernel_rfl⟩⟩, ⟨fun h => absurd h (by decide +kernel), fun h => h.elim⟩⟩,
    ⟨by kernel_rfl, by kernel_rfl, ⟨fun h => absurd h (by decide +kernel), fun h => h.elim⟩⟩,
    ⟨by kernel_rfl, by kernel_rfl, ⟨fun h => absurd h (by decide +kernel), fun h => h.elim⟩⟩,
    ⟨by kernel_rfl, by kernel_rfl, ⟨fun _ => trivial, fun _ => ⟨172, by kernel_rfl⟩⟩, ⟨fun h => absurd h (by decide +kernel), fun h => h.elim⟩⟩,
    ⟨by kernel_rfl, by kernel_rfl, ⟨fun _ => trivial, fun _ => ⟨43, by kernel_rfl⟩⟩, ⟨fun h => absurd h (by decide +kernel), fun h => h.elim⟩⟩,
    ⟨by kernel_rfl, by kernel_rfl, ⟨fun h => absurd h (by decide +kernel), fun h => h.elim⟩⟩,
    ⟨by kernel_rfl, by kernel_rfl, ⟨fun h => absurd h (by decide +kernel), fun h => h.elim⟩⟩,
    ⟨by kernel_rfl, by kernel_rfl, ⟨fun _ => trivial, fun _ => ⟨9, by kernel_rfl⟩⟩, ⟨fun h => absurd h (by decide +kernel), fun h => h.elim⟩⟩,
    ⟨by kernel_rfl, by kernel_rfl, ⟨fun _ => trivial, fun _ => ⟨2, by kernel_rfl⟩⟩, ⟨fun h => absurd h (by decide +kernel), fun h => h.elim⟩⟩,
    ⟨by kernel_rfl, by kernel_rfl, ⟨fun _ => trivial, fun _ => ⟨34, by kernel_rfl⟩⟩, ⟨fun h => absurd h (by decide +kernel), fun h => h.elim⟩⟩,
    ⟨by kernel_rfl, by kernel_rfl, ⟨fun h => absurd h (by decide +kernel), fun h => h.elim⟩⟩,
    ⟨by kernel_rfl, by kernel_rfl, ⟨fun _ => trivial, fun _ => ⟨123, by kernel_rfl⟩⟩, ⟨fun h => absurd h (by decide +kernel), fun h => h.elim⟩⟩,
    ⟨by kernel_rfl, by kernel_rfl, ⟨fun h => absurd h (by decide +kernel), fun h => h.elim⟩⟩,
    ⟨by kernel_rfl, by kernel_rfl, ⟨fun _ => trivial, fun _ => ⟨52, by kernel_rfl⟩⟩, ⟨fun h => absurd h (by decide +kernel), fun h => h.elim⟩⟩,
    ⟨by kernel_rfl, by kernel_rfl, ⟨fun h => absurd h (by decide +kernel), fun h => h.elim⟩⟩,
    ⟨by kernel_rfl, by kernel_rfl, ⟨fun h => absurd h (by decide +kernel), fun h => h.elim⟩⟩⟩
theorem tS {p : Prop} (h : p := by simp [obsT, obT, okO, okP, okA, okC, okD, okI, reP, reA, reC, srcI, Nl_nil, Nl_cons, PV.nl, upd_at, ofL_n, ofL_c, VS, argsT, lendA, lendL, lendT, Cvl_nil, Cvl_cons, Cv_bool, Cv_int, Cv_str, Cv_nils, Cv_nilc, Cv_cl, Cv_ow, noFn, PV.noF, NR_iff, NRO, hb, ares, ares1, ldo, ld, nOw, PV.isOw, TY]) : p := h
theorem PF : Try.prog.follows .mixedOrders = true := by kernel_rfl
def pString (x : ByteArray) : List PV := [.str x]
theorem nl_String (L i) : Nl (lpv pString L i) ↔ True := iff_true_intro (Nl_lpv (fun x => by simp [pString, Nl_nil, Nl_cons, PV.nl]))
theorem cv_String (L i) : Cvl (lpv pString L i) (lpv pString L i) ↔ True := iff_true_intro (Cvl_lpv (fun x => by simp [pString, pString, Cvl_nil, Cvl_cons, Cv_bool, Cv_int, Cv_str, Cv_ow]))
theorem nr_String (L i) : (∀ p ∈ lpv pString L i, NR p) ↔ True := iff_true_intro (NR_lpv (fun x => by simp [pString, NR_iff]))
structure Cl where
  stop : Int
  arr : Int
  dep : Int
def pCall (x : Cl) : List PV := [.int .i64 x.stop, .int .i64 x.arr, .int .i64 x.dep]
theorem cv_Call (L i) : Cvl (lpv pCall L i) (lpv pCall L i) ↔ True := iff_true_intro (Cvl_lpv (fun x => by simp [pCall, pCall, Cvl_nil, Cvl_cons, Cv_bool, Cv_int, Cv_str, Cv_ow]))
theorem nr_Call (L i) : (∀ p ∈ lpv pCall L i, NR p) ↔ True := iff_true_intro (NR_lpv (fun x => by simp [pCall, NR_iff]))
structure Tp where
  line : ByteArray
  days : Int
  calls : List Cl
def cTrip (x : Tp) : List PV := [.str x.line, .int .i64 x.days, .cl 3 x.calls.length (lpv pCall x.calls)]
def oTrip (x : Tp) : List PV := [.str x.line, .int .i64 x.days, .ow 3 x.calls.length (lpv pCall x.calls)]
theorem nl_Trip (L i) : Nl (lpv oTrip L i) ↔ True := iff_true_intro (Nl_lpv (fun x => by simp [oTrip, Nl_nil, Nl_cons, PV.nl]))
theorem cv_Trip (L i) : Cvl (lpv oTrip L i) (lpv cTrip L i) ↔ True := iff_true_intro (Cvl_lpv (fun x => by simp [oTrip, cTrip, Cvl_nil, Cvl_cons, Cv_bool, Cv_int, Cv_str, Cv_ow, cv_Call]))
theorem nr_Trip (L i) : (∀ p ∈ lpv oTrip L i, NR p) ↔ True := iff_true_intro (NR_lpv (fun x => by simp [oTrip, NR_iff, nr_Call]))
structure Wk_ where
  fr : Int
  to : Int
  time : Int
def pWalk (x : Wk_) : List PV := [.int .i64 x.fr, .int .i64 x.to, .int .i64 x.time]
theorem nl_Walk (L i) : Nl (lpv pWalk L i) ↔ True := iff_true_intro (Nl_lpv (fun x => by simp [pWalk, Nl_nil, Nl_cons, PV.nl]))
theorem cv_Walk (L i) : Cvl (lpv pWalk L i) (lpv pWalk L i) ↔ True := iff_true_intro (Cvl_lpv (fun x => by simp [pWalk, pWalk, Cvl_nil, Cvl_cons, Cv_bool, Cv_int, Cv_str, Cv_ow]))
theorem nr_Walk (L i) : (∀ p ∈ lpv pWalk L i, NR p) ↔ True := iff_true_intro (NR_lpv (fun x => by simp [pWalk, NR_iff]))
structure Ln where
  stops : List ByteArray
  trips : List Tp
  walks : List Wk_
end Go.Proofs.Ytmmlpehfieojdaa.Wd
