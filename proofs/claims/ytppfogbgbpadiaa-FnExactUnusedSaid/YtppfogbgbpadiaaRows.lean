/-
  No cell of these rows narrows 'for every input' (looked for: loops, veiled, ifaces, maps, wideKeys, modest, calm, conditions, laid).
  DERIVED. THE GIVEN ROWS OF THIS SEAT. 11 by the template 'for every input the law returns true; each argument reads behind the call as it read before'; 0 by the template 'total and deterministic' (their statements: YtppfogbgbpadiaaTotals.lean).
  GIVEN WITH THE SEED: the statements are not yours to turn. If you find one false, say at which input.
  Laid BY PROGRAM, IN A SANDBOX (cutbox-rows.mjs): the forced cells as the released guide's own fill.sh prints them over the translation 40a24e9cadab6248… (all of the seat's roots in one cut). By AI agents, Wed Nov 11 2026. No macro, syntax, notation, axiom, sorry.
-/
import Derived.Test.YtppfogbgbpadiaaChecked
import GoSem.Claim
import GoSem.ClaimJoined
import GoSem.ClaimMapViews
import Derived.JoinedTies
import Derived.KernelRfl
namespace Go.Proofs.Ytppfogbgbpadiaa
/- THE CELL 'sum', in the pinned program and in every row, IS THE sha256 OF THE DUMP (.gsa) THAT YtppfogbgbpadiaaProg.lean LOADS. Nothing in Lean hashes anything: it is a label: what it is worth is what the hold of that sum in a sandbox is worth. -/
noncomputable def Try.pinned : Pinned := { name := "ytppfogbgbpadiaa", sum := "40a24e9cadab624842cea14d1f76426c7b9096933df532f126a67a041da2cd53", checked := Try.checked }
namespace Rows
def none {H : Type} : Left H := { results := [], args := [] }

/-- 'laws.FnExactMapOk': WHATEVER THE INPUT: true; the input reads as it did. -/
def fnExactMapOkSpec : ChangeSpec := { name := "fnExactMapOk", fn := fun _ => fun
  | [d] => { results := [.lit (.bool true)], args := [d] }
  | _ => none }
def fnExactMapOkRow : OpenClaim := { program := "ytppfogbgbpadiaa", sum := "40a24e9cadab624842cea14d1f76426c7b9096933df532f126a67a041da2cd53", func := "loop.example/g00024/laws.FnExactMapOk", spec := "fnExactMapOk", apart := false }
def FnExactMapOkSaid : Prop := fnExactMapOkRow.holds Try.pinned (OpenSpec.ofChange fnExactMapOkSpec)

/-- ITS FALSE NEIGHBOUR: 'it returns false'. Refute it at one input. -/
def fnExactMapOkWrong : ChangeSpec := { name := "fnExactMapOk", fn := fun _ => fun
  | [d] => { results := [.lit (.bool false)], args := [d] }
  | _ => none }
def FnExactMapOkWrongFalsely : Prop := fnExactMapOkRow.holds Try.pinned (OpenSpec.ofChange fnExactMapOkWrong)

/-- 'laws.FnExactUsersOf': WHATEVER THE INPUT: true; the input reads as it did. -/
def fnExactUsersOfSpec : ChangeSpec := { name := "fnExactUsersOf", fn := fun _ => fun
  | [d1, d2] => { results := [.lit (.bool true)], args := [d1, d2] }
  | _ => none }
def fnExactUsersOfRow : OpenClaim := { program := "ytppfogbgbpadiaa", sum := "40a24e9cadab624842cea14d1f76426c7b9096933df532f126a67a041da2cd53", func := "loop.example/g00024/laws.FnExactUsersOf", spec := "fnExactUsersOf", apart := false }
def FnExactUsersOfSaid : Prop := fnExactUsersOfRow.holds Try.pinned (OpenSpec.ofChange fnExactUsersOfSpec)

/-- ITS FALSE NEIGHBOUR: 'it returns false'. Refute it at one input. -/
def fnExactUsersOfWrong : ChangeSpec := { name := "fnExactUsersOf", fn := fun _ => fun
  | [d1, d2] => { results := [.lit (.bool false)], args := [d1, d2] }
  | _ => none }
def FnExactUsersOfWrongFalsely : Prop := fnExactUsersOfRow.holds Try.pinned (OpenSpec.ofChange fnExactUsersOfWrong)

/-- 'laws.FnExactWayRow': WHATEVER THE INPUT: true; the input reads as it did. -/
def fnExactWayRowSpec : ChangeSpec := { name := "fnExactWayRow", fn := fun _ => fun
  | [d1, d2] => { results := [.lit (.bool true)], args := [d1, d2] }
  | _ => none }
def fnExactWayRowRow : OpenClaim := { program := "ytppfogbgbpadiaa", sum := "40a24e9cadab624842cea14d1f76426c7b9096933df532f126a67a041da2cd53", func := "loop.example/g00024/laws.FnExactWayRow", spec := "fnExactWayRow", apart := false }
def FnExactWayRowSaid : Prop := fnExactWayRowRow.holds Try.pinned (OpenSpec.ofChange fnExactWayRowSpec)

/-- ITS FALSE NEIGHBOUR: 'it returns false'. Refute it at one input. -/
def fnExactWayRowWrong : ChangeSpec := { name := "fnExactWayRow", fn := fun _ => fun
  | [d1, d2] => { results := [.lit (.bool false)], args := [d1, d2] }
  | _ => none }
def FnExactWayRowWrongFalsely : Prop := fnExactWayRowRow.holds Try.pinned (OpenSpec.ofChange fnExactWayRowWrong)

/-- 'laws.FnExactCrop': WHATEVER THE INPUT: true; the input reads as it did. -/
def fnExactCropSpec : ChangeSpec := { name := "fnExactCrop", fn := fun _ => fun
  | [d1, d2] => { results := [.lit (.bool true)], args := [d1, d2] }
  | _ => none }
def fnExactCropRow : OpenClaim := { program := "ytppfogbgbpadiaa", sum := "40a24e9cadab624842cea14d1f76426c7b9096933df532f126a67a041da2cd53", func := "loop.example/g00024/laws.FnExactCrop", spec := "fnExactCrop", apart := false }
def FnExactCropSaid : Prop := fnExactCropRow.holds Try.pinned (OpenSpec.ofChange fnExactCropSpec)

/-- ITS FALSE NEIGHBOUR: 'it returns false'. Refute it at one input. -/
def fnExactCropWrong : ChangeSpec := { name := "fnExactCrop", fn := fun _ => fun
  | [d1, d2] => { results := [.lit (.bool false)], args := [d1, d2] }
  | _ => none }
def FnExactCropWrongFalsely : Prop := fnExactCropRow.holds Try.pinned (OpenSpec.ofChange fnExactCropWrong)

/-- 'laws.FnCrops': WHATEVER THE INPUT: true; the input reads as it did. -/
def fnCropsSpec : ChangeSpec := { name := "fnCrops", fn := fun _ => fun
  | [d] => { results := [.lit (.bool true)], args := [d] }
  | _ => none }
def fnCropsRow : OpenClaim := { program := "ytppfogbgbpadiaa", sum := "40a24e9cadab624842cea14d1f76426c7b9096933df532f126a67a041da2cd53", func := "loop.example/g00024/laws.FnCrops", spec := "fnCrops", inPlace := ["internal/reflectlite.ValueOf", "internal/reflectlite.Swapper", "(internal/reflectlite.Value).Len"], unfollowed := true, recurses := true, apart := false }
def FnCropsSaid : Prop := fnCropsRow.holds Try.pinned (OpenSpec.ofChange fnCropsSpec)

/-- ITS FALSE NEIGHBOUR: 'it returns false'. Refute it at one input. -/
def fnCropsWrong : ChangeSpec := { name := "fnCrops", fn := fun _ => fun
  | [d] => { results := [.lit (.bool false)], args := [d] }
  | _ => none }
def FnCropsWrongFalsely : Prop := fnCropsRow.holds Try.pinned (OpenSpec.ofChange fnCropsWrong)

/-- 'laws.FnExactUnused': WHATEVER THE INPUT: true; the input reads as it did. -/
def fnExactUnusedSpec : ChangeSpec := { name := "fnExactUnused", fn := fun _ => fun
  | [d] => { results := [.lit (.bool true)], args := [d] }
  | _ => none }
def fnExactUnusedRow : OpenClaim := { program := "ytppfogbgbpadiaa", sum := "40a24e9cadab624842cea14d1f76426c7b9096933df532f126a67a041da2cd53", func := "loop.example/g00024/laws.FnExactUnused", spec := "fnExactUnused", inPlace := ["internal/reflectlite.ValueOf", "internal/reflectlite.Swapper", "(internal/reflectlite.Value).Len"], unfollowed := true, recurses := true, apart := false }
def FnExactUnusedSaid : Prop := fnExactUnusedRow.holds Try.pinned (OpenSpec.ofChange fnExactUnusedSpec)

/-- ITS FALSE NEIGHBOUR: 'it returns false'. Refute it at one input. -/
def fnExactUnusedWrong : ChangeSpec := { name := "fnExactUnused", fn := fun _ => fun
  | [d] => { results := [.lit (.bool false)], args := [d] }
  | _ => none }
def FnExactUnusedWrongFalsely : Prop := fnExactUnusedRow.holds Try.pinned (OpenSpec.ofChange fnExactUnusedWrong)

/-- 'laws.FnExactDiff': WHATEVER THE INPUT: true; the input reads as it did. -/
def fnExactDiffSpec : ChangeSpec := { name := "fnExactDiff", fn := fun _ => fun
  | [d1, d2] => { results := [.lit (.bool true)], args := [d1, d2] }
  | _ => none }
def fnExactDiffRow : OpenClaim := { program := "ytppfogbgbpadiaa", sum := "40a24e9cadab624842cea14d1f76426c7b9096933df532f126a67a041da2cd53", func := "loop.example/g00024/laws.FnExactDiff", spec := "fnExactDiff", apart := false }
def FnExactDiffSaid : Prop := fnExactDiffRow.holds Try.pinned (OpenSpec.ofChange fnExactDiffSpec)

/-- ITS FALSE NEIGHBOUR: 'it returns false'. Refute it at one input. -/
def fnExactDiffWrong : ChangeSpec := { name := "fnExactDiff", fn := fun _ => fun
  | [d1, d2] => { results := [.lit (.bool false)], args := [d1, d2] }
  | _ => none }
def FnExactDiffWrongFalsely : Prop := fnExactDiffRow.holds Try.pinned (OpenSpec.ofChange fnExactDiffWrong)

/-- 'laws.FnExactChangeBytes': WHATEVER THE INPUT: true; the input reads as it did. -/
def fnExactChangeBytesSpec : ChangeSpec := { name := "fnExactChangeBytes", fn := fun _ => fun
  | [d] => { results := [.lit (.bool true)], args := [d] }
  | _ => none }
def fnExactChangeBytesRow : OpenClaim := { program := "ytppfogbgbpadiaa", sum := "40a24e9cadab624842cea14d1f76426c7b9096933df532f126a67a041da2cd53", func := "loop.example/g00024/laws.FnExactChangeBytes", spec := "fnExactChangeBytes", apart := false }
def FnExactChangeBytesSaid : Prop := fnExactChangeBytesRow.holds Try.pinned (OpenSpec.ofChange fnExactChangeBytesSpec)

/-- ITS FALSE NEIGHBOUR: 'it returns false'. Refute it at one input. -/
def fnExactChangeBytesWrong : ChangeSpec := { name := "fnExactChangeBytes", fn := fun _ => fun
  | [d] => { results := [.lit (.bool false)], args := [d] }
  | _ => none }
def FnExactChangeBytesWrongFalsely : Prop := fnExactChangeBytesRow.holds Try.pinned (OpenSpec.ofChange fnExactChangeBytesWrong)

/-- 'laws.FnExactReadChanges': WHATEVER THE INPUT: true; the input reads as it did. -/
def fnExactReadChangesSpec : ChangeSpec := { name := "fnExactReadChanges", fn := fun _ => fun
  | [d] => { results := [.lit (.bool true)], args := [d] }
  | _ => none }
def fnExactReadChangesRow : OpenClaim := { program := "ytppfogbgbpadiaa", sum := "40a24e9cadab624842cea14d1f76426c7b9096933df532f126a67a041da2cd53", func := "loop.example/g00024/laws.FnExactReadChanges", spec := "fnExactReadChanges", apart := false }
def FnExactReadChangesSaid : Prop := fnExactReadChangesRow.holds Try.pinned (OpenSpec.ofChange fnExactReadChangesSpec)

/-- ITS FALSE NEIGHBOUR: 'it returns false'. Refute it at one input. -/
def fnExactReadChangesWrong : ChangeSpec := { name := "fnExactReadChanges", fn := fun _ => fun
  | [d] => { results := [.lit (.bool false)], args := [d] }
  | _ => none }
def FnExactReadChangesWrongFalsely : Prop := fnExactReadChangesRow.holds Try.pinned (OpenSpec.ofChange fnExactReadChangesWrong)

/-- 'laws.FnExactAssemble': WHATEVER THE INPUT: true; the input reads as it did. -/
def fnExactAssembleSpec : ChangeSpec := { name := "fnExactAssemble", fn := fun _ => fun
  | [d1, d2] => { results := [.lit (.bool true)], args := [d1, d2] }
  | _ => none }
def fnExactAssembleRow : OpenClaim := { program := "ytppfogbgbpadiaa", sum := "40a24e9cadab624842cea14d1f76426c7b9096933df532f126a67a041da2cd53", func := "loop.example/g00024/laws.FnExactAssemble", spec := "fnExactAssemble", unfollowed := true, recurses := true, apart := false }
def FnExactAssembleSaid : Prop := fnExactAssembleRow.holds Try.pinned (OpenSpec.ofChange fnExactAssembleSpec)

/-- ITS FALSE NEIGHBOUR: 'it returns false'. Refute it at one input. -/
def fnExactAssembleWrong : ChangeSpec := { name := "fnExactAssemble", fn := fun _ => fun
  | [d1, d2] => { results := [.lit (.bool false)], args := [d1, d2] }
  | _ => none }
def FnExactAssembleWrongFalsely : Prop := fnExactAssembleRow.holds Try.pinned (OpenSpec.ofChange fnExactAssembleWrong)

/-- 'laws.FnRings': WHATEVER THE INPUT: true; the input reads as it did. -/
def fnRingsSpec : ChangeSpec := { name := "fnRings", fn := fun _ => fun
  | [d] => { results := [.lit (.bool true)], args := [d] }
  | _ => none }
def fnRingsRow : OpenClaim := { program := "ytppfogbgbpadiaa", sum := "40a24e9cadab624842cea14d1f76426c7b9096933df532f126a67a041da2cd53", func := "loop.example/g00024/laws.FnRings", spec := "fnRings", unfollowed := true, recurses := true, apart := false }
def FnRingsSaid : Prop := fnRingsRow.holds Try.pinned (OpenSpec.ofChange fnRingsSpec)

/-- ITS FALSE NEIGHBOUR: 'it returns false'. Refute it at one input. -/
def fnRingsWrong : ChangeSpec := { name := "fnRings", fn := fun _ => fun
  | [d] => { results := [.lit (.bool false)], args := [d] }
  | _ => none }
def FnRingsWrongFalsely : Prop := fnRingsRow.holds Try.pinned (OpenSpec.ofChange fnRingsWrong)

/- THE SECOND FORM. 'bulk': how many values and letters a reading holds, each counted each time it is reached (what is shared counts as often as it is met; a slice's spare places count too). A statement '..UptoSaid' is the law's where the arguments, and the package variables that the reading takes, are together of bulk at most 1048576: NARROWER than '..Said'. Prove '..Said' where nothing that the law and all that it calls make is longer than what came in: it says more and counts as full. Else prove '..UptoSaid'. A law counts once. -/
mutual
def uptoBulk {H : Type} : DataW H → Nat
  | .lit (.string bytes) => bytes.length + 1
  | .lit _ => 1
  | .nil => 1
  | .ptr d => uptoBulk d + 1
  | .slice elems spare => uptoBulkAll elems + uptoBulkAll spare + 1
  | .agg parts => uptoBulkAll parts + 1
  | .iface _ d => uptoBulk d + 1
  | .map entries => uptoBulkEntries entries + 1
  | .held _ => 1
def uptoBulkAll {H : Type} : List (DataW H) → Nat
  | [] => 0
  | d :: r => uptoBulk d + uptoBulkAll r
def uptoBulkEntries {H : Type} : List (Lit × DataW H) → Nat
  | [] => 0
  | x :: r => uptoBulkEntry x + uptoBulkEntries r
def uptoBulkEntry {H : Type} : Lit × DataW H → Nat
  | (.string bytes, d) => bytes.length + uptoBulk d + 1
  | (_, d) => uptoBulk d + 1
 end
def uptoSmall : (H : Type) → List (DataW H) → Bool := fun _ ds => decide (uptoBulkAll ds ≤ 1048576)
def OpenSpec.upto (s : _root_.Go.ChangeSpec) : _root_.Go.OpenSpec := { _root_.Go.OpenSpec.ofChange s with cond := some uptoSmall }

/-- 'laws.FnExactMapOk', WHERE WHAT IT READS IS OF BULK AT MOST 1048576: true; the input reads as it did. -/
def fnExactMapOkUptoRow : OpenClaim := { program := "ytppfogbgbpadiaa", sum := "40a24e9cadab624842cea14d1f76426c7b9096933df532f126a67a041da2cd53", func := "loop.example/g00024/laws.FnExactMapOk", spec := "fnExactMapOk", apart := false, narrowed := true }
def FnExactMapOkUptoSaid : Prop := fnExactMapOkUptoRow.holds Try.pinned (OpenSpec.upto fnExactMapOkSpec)

/-- 'laws.FnExactUsersOf', WHERE WHAT IT READS IS OF BULK AT MOST 1048576: true; the input reads as it did. -/
def fnExactUsersOfUptoRow : OpenClaim := { program := "ytppfogbgbpadiaa", sum := "40a24e9cadab624842cea14d1f76426c7b9096933df532f126a67a041da2cd53", func := "loop.example/g00024/laws.FnExactUsersOf", spec := "fnExactUsersOf", apart := false, narrowed := true }
def FnExactUsersOfUptoSaid : Prop := fnExactUsersOfUptoRow.holds Try.pinned (OpenSpec.upto fnExactUsersOfSpec)

/-- 'laws.FnExactWayRow', WHERE WHAT IT READS IS OF BULK AT MOST 1048576: true; the input reads as it did. -/
def fnExactWayRowUptoRow : OpenClaim := { program := "ytppfogbgbpadiaa", sum := "40a24e9cadab624842cea14d1f76426c7b9096933df532f126a67a041da2cd53", func := "loop.example/g00024/laws.FnExactWayRow", spec := "fnExactWayRow", apart := false, narrowed := true }
def FnExactWayRowUptoSaid : Prop := fnExactWayRowUptoRow.holds Try.pinned (OpenSpec.upto fnExactWayRowSpec)

/-- 'laws.FnExactCrop', WHERE WHAT IT READS IS OF BULK AT MOST 1048576: true; the input reads as it did. -/
def fnExactCropUptoRow : OpenClaim := { program := "ytppfogbgbpadiaa", sum := "40a24e9cadab624842cea14d1f76426c7b9096933df532f126a67a041da2cd53", func := "loop.example/g00024/laws.FnExactCrop", spec := "fnExactCrop", apart := false, narrowed := true }
def FnExactCropUptoSaid : Prop := fnExactCropUptoRow.holds Try.pinned (OpenSpec.upto fnExactCropSpec)

/-- 'laws.FnCrops', WHERE WHAT IT READS IS OF BULK AT MOST 1048576: true; the input reads as it did. -/
def fnCropsUptoRow : OpenClaim := { program := "ytppfogbgbpadiaa", sum := "40a24e9cadab624842cea14d1f76426c7b9096933df532f126a67a041da2cd53", func := "loop.example/g00024/laws.FnCrops", spec := "fnCrops", inPlace := ["internal/reflectlite.ValueOf", "internal/reflectlite.Swapper", "(internal/reflectlite.Value).Len"], unfollowed := true, recurses := true, apart := false, narrowed := true }
def FnCropsUptoSaid : Prop := fnCropsUptoRow.holds Try.pinned (OpenSpec.upto fnCropsSpec)

/-- 'laws.FnExactUnused', WHERE WHAT IT READS IS OF BULK AT MOST 1048576: true; the input reads as it did. -/
def fnExactUnusedUptoRow : OpenClaim := { program := "ytppfogbgbpadiaa", sum := "40a24e9cadab624842cea14d1f76426c7b9096933df532f126a67a041da2cd53", func := "loop.example/g00024/laws.FnExactUnused", spec := "fnExactUnused", inPlace := ["internal/reflectlite.ValueOf", "internal/reflectlite.Swapper", "(internal/reflectlite.Value).Len"], unfollowed := true, recurses := true, apart := false, narrowed := true }
def FnExactUnusedUptoSaid : Prop := fnExactUnusedUptoRow.holds Try.pinned (OpenSpec.upto fnExactUnusedSpec)

/-- 'laws.FnExactDiff', WHERE WHAT IT READS IS OF BULK AT MOST 1048576: true; the input reads as it did. -/
def fnExactDiffUptoRow : OpenClaim := { program := "ytppfogbgbpadiaa", sum := "40a24e9cadab624842cea14d1f76426c7b9096933df532f126a67a041da2cd53", func := "loop.example/g00024/laws.FnExactDiff", spec := "fnExactDiff", apart := false, narrowed := true }
def FnExactDiffUptoSaid : Prop := fnExactDiffUptoRow.holds Try.pinned (OpenSpec.upto fnExactDiffSpec)

/-- 'laws.FnExactChangeBytes', WHERE WHAT IT READS IS OF BULK AT MOST 1048576: true; the input reads as it did. -/
def fnExactChangeBytesUptoRow : OpenClaim := { program := "ytppfogbgbpadiaa", sum := "40a24e9cadab624842cea14d1f76426c7b9096933df532f126a67a041da2cd53", func := "loop.example/g00024/laws.FnExactChangeBytes", spec := "fnExactChangeBytes", apart := false, narrowed := true }
def FnExactChangeBytesUptoSaid : Prop := fnExactChangeBytesUptoRow.holds Try.pinned (OpenSpec.upto fnExactChangeBytesSpec)

/-- 'laws.FnExactReadChanges', WHERE WHAT IT READS IS OF BULK AT MOST 1048576: true; the input reads as it did. -/
def fnExactReadChangesUptoRow : OpenClaim := { program := "ytppfogbgbpadiaa", sum := "40a24e9cadab624842cea14d1f76426c7b9096933df532f126a67a041da2cd53", func := "loop.example/g00024/laws.FnExactReadChanges", spec := "fnExactReadChanges", apart := false, narrowed := true }
def FnExactReadChangesUptoSaid : Prop := fnExactReadChangesUptoRow.holds Try.pinned (OpenSpec.upto fnExactReadChangesSpec)

/-- 'laws.FnExactAssemble', WHERE WHAT IT READS IS OF BULK AT MOST 1048576: true; the input reads as it did. -/
def fnExactAssembleUptoRow : OpenClaim := { program := "ytppfogbgbpadiaa", sum := "40a24e9cadab624842cea14d1f76426c7b9096933df532f126a67a041da2cd53", func := "loop.example/g00024/laws.FnExactAssemble", spec := "fnExactAssemble", unfollowed := true, recurses := true, apart := false, narrowed := true }
def FnExactAssembleUptoSaid : Prop := fnExactAssembleUptoRow.holds Try.pinned (OpenSpec.upto fnExactAssembleSpec)

/-- 'laws.FnRings', WHERE WHAT IT READS IS OF BULK AT MOST 1048576: true; the input reads as it did. -/
def fnRingsUptoRow : OpenClaim := { program := "ytppfogbgbpadiaa", sum := "40a24e9cadab624842cea14d1f76426c7b9096933df532f126a67a041da2cd53", func := "loop.example/g00024/laws.FnRings", spec := "fnRings", unfollowed := true, recurses := true, apart := false, narrowed := true }
def FnRingsUptoSaid : Prop := fnRingsUptoRow.holds Try.pinned (OpenSpec.upto fnRingsSpec)

end Rows
end Go.Proofs.Ytppfogbgbpadiaa
