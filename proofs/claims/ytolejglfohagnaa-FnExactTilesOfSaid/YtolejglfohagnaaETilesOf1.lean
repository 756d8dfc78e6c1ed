/- Facts of the program's types, for the words. -/
import Derived.Test.YtolejglfohagnaaWA25
import Derived.Test.YtolejglfohagnaaProg
namespace Go.Proofs.Ytolejglfohagnaa.Wd
open Go Go.RowKit Go.Proofs Go.Proofs.YtolejglfohagnaaW.AW
set_option maxRecDepth 100000

theorem TY : (tyD Try.prog 2 = ⟨TK.int IntKind.i64, 1, [], [PV.int IntKind.i64 0], true, 0, 0, false, []⟩ ∧ tk Try.prog 2 = TK.int IntKind.i64) ∧
    (tyD Try.prog 3 = ⟨TK.int IntKind.i64, 1, [], [PV.int IntKind.i64 0], true, 0, 0, false, []⟩ ∧ tk Try.prog 3 = TK.int IntKind.i64) ∧
    (tyD Try.prog 4 = ⟨TK.bool, 1, [], [PV.bool false], true, 0, 0, false, []⟩ ∧ tk Try.prog 4 = TK.bool) ∧
    (tyD Try.prog 23 = ⟨TK.struct, 2, [(0, 1, 2), (1, 1, 2)], [PV.int IntKind.i64 0, PV.int IntKind.i64 0], true, 0, 0, false, []⟩ ∧ tk Try.prog 23 = TK.struct) ∧
    (tyD Try.prog 25 = ⟨TK.struct, 4, [(0, 2, 23), (2, 2, 23)], [PV.int IntKind.i64 0, PV.int IntKind.i64 0, PV.int IntKind.i64 0, PV.int IntKind.i64 0], true, 0, 0, false, []⟩ ∧ tk Try.prog 25 = TK.struct) ∧
    (tyD Try.prog 26 = ⟨TK.slice 113, 1, [], [PV.nils], true, 3, 24, true, [PV.int IntKind.i64 0, PV.int IntKind.i64 0, PV.int IntKind.i64 0]⟩ ∧ tk Try.prog 26 = TK.slice 113 ∧ ((∃ e', Try.prog.underlying 26 = some (.slice e')) ↔ True)) ∧
    (tyD Try.prog 28 = ⟨TK.struct, 2, [(0, 1, 2), (1, 1, 2)], [PV.int IntKind.i64 0, PV.int IntKind.i64 0], true, 0, 0, false, []⟩ ∧ tk Try.prog 28 = TK.struct) ∧
    (tyD Try.prog 30 = ⟨TK.struct, 4, [(0, 2, 28), (2, 2, 28)], [PV.int IntKind.i64 0, PV.int IntKind.i64 0, PV.int IntKind.i64 0, PV.int IntKind.i64 0], true, 0, 0, false, []⟩ ∧ tk Try.prog 30 = TK.struct) ∧
    (tyD Try.prog 47 = ⟨TK.int IntKind.u64, 1, [], [PV.int IntKind.u64 0], true, 0, 0, false, []⟩ ∧ tk Try.prog 47 = TK.int IntKind.u64) ∧
    (tyD Try.prog 110 = ⟨TK.other, 1, [], [PV.und], false, 0, 0, false, []⟩ ∧ tk Try.prog 110 = TK.other) ∧
    (tyD Try.prog 113 = ⟨TK.struct, 3, [(0, 1, 2), (1, 1, 2), (2, 1, 2)], [PV.int IntKind.i64 0, PV.int IntKind.i64 0, PV.int IntKind.i64 0], true, 0, 0, false, []⟩ ∧ tk Try.prog 113 = TK.struct) :=
  ⟨⟨by kernel_rfl, by kernel_rfl⟩, ⟨by kernel_rfl, by kernel_rfl⟩, ⟨by kernel_rfl, by kernel_rfl⟩, ⟨by kernel_rfl, by kernel_rfl⟩, ⟨by kernel_rfl, by kernel_rfl⟩, ⟨by kernel_rfl, by kernel_rfl, ⟨fun _ => trivial, fun _ => ⟨113, by kernel_rfl⟩⟩⟩, ⟨by kernel_rfl, by kernel_rfl⟩, ⟨by kernel_rfl, by kernel_rfl⟩, ⟨by kernel_rfl, by kernel_rfl⟩, ⟨by kernel_rfl, by kernel_rfl⟩, ⟨by kernel_rfl, by kernel_rfl⟩⟩
theorem PF : Try.prog.follows .mixedOrders = true := by kernel_rfl
end Go.Proofs.Ytolejglfohagnaa.Wd
