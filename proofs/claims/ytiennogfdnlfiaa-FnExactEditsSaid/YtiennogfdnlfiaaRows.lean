/-
  No cell of these rows narrows 'for every input' (looked for: loops, veiled, ifaces, maps, wideKeys, modest, calm, conditions, laid).
  DERIVED. THE GIVEN ROWS OF THIS SEAT. 12 by the template 'for every input the law returns true; each argument reads behind the call as it read before'; 0 by the template 'total and deterministic' (their statements: YtiennogfdnlfiaaTotals.lean).
  GIVEN WITH THE SEED: the statements are not yours to turn. If you find one false, say at which input.
  Laid BY PROGRAM, IN A SANDBOX (cutbox-rows.mjs): the forced cells as the released guide's own fill.sh prints them over the translation fc44ad67114061e6… (all of the seat's roots in one cut). By AI agents, Wed Nov 11 2026. No macro, syntax, notation, axiom, sorry.
-/
import Derived.Test.YtiennogfdnlfiaaChecked
import GoSem.Claim
import GoSem.ClaimJoined
import GoSem.ClaimMapViews
import Derived.JoinedTies
import Derived.KernelRfl
namespace Go.Proofs.Ytiennogfdnlfiaa
/- THE CELL 'sum', in the pinned program and in every row, IS THE sha256 OF THE DUMP (.gsa) THAT YtiennogfdnlfiaaProg.lean LOADS. Nothing in Lean hashes anything: it is a label: what it is worth is what the hold of that sum in a sandbox is worth. -/
noncomputable def Try.pinned : Pinned := { name := "ytiennogfdnlfiaa", sum := "fc44ad67114061e621dd8ef02ca4ed95721e0d1e55c97843be22fe992a9b5085", checked := Try.checked }
namespace Rows
def none {H : Type} : Left H := { results := [], args := [] }

/-- 'laws.FnExactConstants': WHATEVER THE INPUT: true; the input reads as it did. -/
def fnExactConstantsSpec : ChangeSpec := { name := "fnExactConstants", fn := fun _ => fun
  | [] => { results := [.lit (.bool true)], args := [] }
  | _ => none }
def fnExactConstantsRow : OpenClaim := { program := "ytiennogfdnlfiaa", sum := "fc44ad67114061e621dd8ef02ca4ed95721e0d1e55c97843be22fe992a9b5085", func := "loop.example/g00024/laws.FnExactConstants", spec := "fnExactConstants", apart := false }
def FnExactConstantsSaid : Prop := fnExactConstantsRow.holds Try.pinned (OpenSpec.ofChange fnExactConstantsSpec)

/-- ITS FALSE NEIGHBOUR: 'it returns false'. Refute it at one input. -/
def fnExactConstantsWrong : ChangeSpec := { name := "fnExactConstants", fn := fun _ => fun
  | [] => { results := [.lit (.bool false)], args := [] }
  | _ => none }
def FnExactConstantsWrongFalsely : Prop := fnExactConstantsRow.holds Try.pinned (OpenSpec.ofChange fnExactConstantsWrong)

/-- 'laws.FnExactPointOk': WHATEVER THE INPUT: true; the input reads as it did. -/
def fnExactPointOkSpec : ChangeSpec := { name := "fnExactPointOk", fn := fun _ => fun
  | [d] => { results := [.lit (.bool true)], args := [d] }
  | _ => none }
def fnExactPointOkRow : OpenClaim := { program := "ytiennogfdnlfiaa", sum := "fc44ad67114061e621dd8ef02ca4ed95721e0d1e55c97843be22fe992a9b5085", func := "loop.example/g00024/laws.FnExactPointOk", spec := "fnExactPointOk", apart := false }
def FnExactPointOkSaid : Prop := fnExactPointOkRow.holds Try.pinned (OpenSpec.ofChange fnExactPointOkSpec)

/-- ITS FALSE NEIGHBOUR: 'it returns false'. Refute it at one input. -/
def fnExactPointOkWrong : ChangeSpec := { name := "fnExactPointOk", fn := fun _ => fun
  | [d] => { results := [.lit (.bool false)], args := [d] }
  | _ => none }
def FnExactPointOkWrongFalsely : Prop := fnExactPointOkRow.holds Try.pinned (OpenSpec.ofChange fnExactPointOkWrong)

/-- 'laws.FnExactWishOk': WHATEVER THE INPUT: true; the input reads as it did. -/
def fnExactWishOkSpec : ChangeSpec := { name := "fnExactWishOk", fn := fun _ => fun
  | [d] => { results := [.lit (.bool true)], args := [d] }
  | _ => none }
def fnExactWishOkRow : OpenClaim := { program := "ytiennogfdnlfiaa", sum := "fc44ad67114061e621dd8ef02ca4ed95721e0d1e55c97843be22fe992a9b5085", func := "loop.example/g00024/laws.FnExactWishOk", spec := "fnExactWishOk", apart := false }
def FnExactWishOkSaid : Prop := fnExactWishOkRow.holds Try.pinned (OpenSpec.ofChange fnExactWishOkSpec)

/-- ITS FALSE NEIGHBOUR: 'it returns false'. Refute it at one input. -/
def fnExactWishOkWrong : ChangeSpec := { name := "fnExactWishOk", fn := fun _ => fun
  | [d] => { results := [.lit (.bool false)], args := [d] }
  | _ => none }
def FnExactWishOkWrongFalsely : Prop := fnExactWishOkRow.holds Try.pinned (OpenSpec.ofChange fnExactWishOkWrong)

/-- 'laws.FnExactTileOk': WHATEVER THE INPUT: true; the input reads as it did. -/
def fnExactTileOkSpec : ChangeSpec := { name := "fnExactTileOk", fn := fun _ => fun
  | [d] => { results := [.lit (.bool true)], args := [d] }
  | _ => none }
def fnExactTileOkRow : OpenClaim := { program := "ytiennogfdnlfiaa", sum := "fc44ad67114061e621dd8ef02ca4ed95721e0d1e55c97843be22fe992a9b5085", func := "loop.example/g00024/laws.FnExactTileOk", spec := "fnExactTileOk", apart := false }
def FnExactTileOkSaid : Prop := fnExactTileOkRow.holds Try.pinned (OpenSpec.ofChange fnExactTileOkSpec)

/-- ITS FALSE NEIGHBOUR: 'it returns false'. Refute it at one input. -/
def fnExactTileOkWrong : ChangeSpec := { name := "fnExactTileOk", fn := fun _ => fun
  | [d] => { results := [.lit (.bool false)], args := [d] }
  | _ => none }
def FnExactTileOkWrongFalsely : Prop := fnExactTileOkRow.holds Try.pinned (OpenSpec.ofChange fnExactTileOkWrong)

/-- 'laws.FnExactCodeOf': WHATEVER THE INPUT: true; the input reads as it did. -/
def fnExactCodeOfSpec : ChangeSpec := { name := "fnExactCodeOf", fn := fun _ => fun
  | [d] => { results := [.lit (.bool true)], args := [d] }
  | _ => none }
def fnExactCodeOfRow : OpenClaim := { program := "ytiennogfdnlfiaa", sum := "fc44ad67114061e621dd8ef02ca4ed95721e0d1e55c97843be22fe992a9b5085", func := "loop.example/g00024/laws.FnExactCodeOf", spec := "fnExactCodeOf", apart := false }
def FnExactCodeOfSaid : Prop := fnExactCodeOfRow.holds Try.pinned (OpenSpec.ofChange fnExactCodeOfSpec)

/-- ITS FALSE NEIGHBOUR: 'it returns false'. Refute it at one input. -/
def fnExactCodeOfWrong : ChangeSpec := { name := "fnExactCodeOf", fn := fun _ => fun
  | [d] => { results := [.lit (.bool false)], args := [d] }
  | _ => none }
def FnExactCodeOfWrongFalsely : Prop := fnExactCodeOfRow.holds Try.pinned (OpenSpec.ofChange fnExactCodeOfWrong)

/-- 'laws.FnExactRoot': WHATEVER THE INPUT: true; the input reads as it did. -/
def fnExactRootSpec : ChangeSpec := { name := "fnExactRoot", fn := fun _ => fun
  | [d] => { results := [.lit (.bool true)], args := [d] }
  | _ => none }
def fnExactRootRow : OpenClaim := { program := "ytiennogfdnlfiaa", sum := "fc44ad67114061e621dd8ef02ca4ed95721e0d1e55c97843be22fe992a9b5085", func := "loop.example/g00024/laws.FnExactRoot", spec := "fnExactRoot", apart := false }
def FnExactRootSaid : Prop := fnExactRootRow.holds Try.pinned (OpenSpec.ofChange fnExactRootSpec)

/-- ITS FALSE NEIGHBOUR: 'it returns false'. Refute it at one input. -/
def fnExactRootWrong : ChangeSpec := { name := "fnExactRoot", fn := fun _ => fun
  | [d] => { results := [.lit (.bool false)], args := [d] }
  | _ => none }
def FnExactRootWrongFalsely : Prop := fnExactRootRow.holds Try.pinned (OpenSpec.ofChange fnExactRootWrong)

/-- 'laws.FnExactTurn': WHATEVER THE INPUT: true; the input reads as it did. -/
def fnExactTurnSpec : ChangeSpec := { name := "fnExactTurn", fn := fun _ => fun
  | [d1, d2, d3] => { results := [.lit (.bool true)], args := [d1, d2, d3] }
  | _ => none }
def fnExactTurnRow : OpenClaim := { program := "ytiennogfdnlfiaa", sum := "fc44ad67114061e621dd8ef02ca4ed95721e0d1e55c97843be22fe992a9b5085", func := "loop.example/g00024/laws.FnExactTurn", spec := "fnExactTurn", apart := false }
def FnExactTurnSaid : Prop := fnExactTurnRow.holds Try.pinned (OpenSpec.ofChange fnExactTurnSpec)

/-- ITS FALSE NEIGHBOUR: 'it returns false'. Refute it at one input. -/
def fnExactTurnWrong : ChangeSpec := { name := "fnExactTurn", fn := fun _ => fun
  | [d1, d2, d3] => { results := [.lit (.bool false)], args := [d1, d2, d3] }
  | _ => none }
def FnExactTurnWrongFalsely : Prop := fnExactTurnRow.holds Try.pinned (OpenSpec.ofChange fnExactTurnWrong)

/-- 'laws.FnExactPointOf': WHATEVER THE INPUT: true; the input reads as it did. -/
def fnExactPointOfSpec : ChangeSpec := { name := "fnExactPointOf", fn := fun _ => fun
  | [d] => { results := [.lit (.bool true)], args := [d] }
  | _ => none }
def fnExactPointOfRow : OpenClaim := { program := "ytiennogfdnlfiaa", sum := "fc44ad67114061e621dd8ef02ca4ed95721e0d1e55c97843be22fe992a9b5085", func := "loop.example/g00024/laws.FnExactPointOf", spec := "fnExactPointOf", apart := false }
def FnExactPointOfSaid : Prop := fnExactPointOfRow.holds Try.pinned (OpenSpec.ofChange fnExactPointOfSpec)

/-- ITS FALSE NEIGHBOUR: 'it returns false'. Refute it at one input. -/
def fnExactPointOfWrong : ChangeSpec := { name := "fnExactPointOf", fn := fun _ => fun
  | [d] => { results := [.lit (.bool false)], args := [d] }
  | _ => none }
def FnExactPointOfWrongFalsely : Prop := fnExactPointOfRow.holds Try.pinned (OpenSpec.ofChange fnExactPointOfWrong)

/-- 'laws.FnExactTileBox': WHATEVER THE INPUT: true; the input reads as it did. -/
def fnExactTileBoxSpec : ChangeSpec := { name := "fnExactTileBox", fn := fun _ => fun
  | [d] => { results := [.lit (.bool true)], args := [d] }
  | _ => none }
def fnExactTileBoxRow : OpenClaim := { program := "ytiennogfdnlfiaa", sum := "fc44ad67114061e621dd8ef02ca4ed95721e0d1e55c97843be22fe992a9b5085", func := "loop.example/g00024/laws.FnExactTileBox", spec := "fnExactTileBox", apart := false }
def FnExactTileBoxSaid : Prop := fnExactTileBoxRow.holds Try.pinned (OpenSpec.ofChange fnExactTileBoxSpec)

/-- ITS FALSE NEIGHBOUR: 'it returns false'. Refute it at one input. -/
def fnExactTileBoxWrong : ChangeSpec := { name := "fnExactTileBox", fn := fun _ => fun
  | [d] => { results := [.lit (.bool false)], args := [d] }
  | _ => none }
def FnExactTileBoxWrongFalsely : Prop := fnExactTileBoxRow.holds Try.pinned (OpenSpec.ofChange fnExactTileBoxWrong)

/-- 'laws.FnExactEdits': WHATEVER THE INPUT: true; the input reads as it did. -/
def fnExactEditsSpec : ChangeSpec := { name := "fnExactEdits", fn := fun _ => fun
  | [d1, d2] => { results := [.lit (.bool true)], args := [d1, d2] }
  | _ => none }
def fnExactEditsRow : OpenClaim := { program := "ytiennogfdnlfiaa", sum := "fc44ad67114061e621dd8ef02ca4ed95721e0d1e55c97843be22fe992a9b5085", func := "loop.example/g00024/laws.FnExactEdits", spec := "fnExactEdits", apart := false }
def FnExactEditsSaid : Prop := fnExactEditsRow.holds Try.pinned (OpenSpec.ofChange fnExactEditsSpec)

/-- ITS FALSE NEIGHBOUR: 'it returns false'. Refute it at one input. -/
def fnExactEditsWrong : ChangeSpec := { name := "fnExactEdits", fn := fun _ => fun
  | [d1, d2] => { results := [.lit (.bool false)], args := [d1, d2] }
  | _ => none }
def FnExactEditsWrongFalsely : Prop := fnExactEditsRow.holds Try.pinned (OpenSpec.ofChange fnExactEditsWrong)

/-- 'laws.FnExactCross': WHATEVER THE INPUT: true; the input reads as it did. -/
def fnExactCrossSpec : ChangeSpec := { name := "fnExactCross", fn := fun _ => fun
  | [d1, d2, d3, d4] => { results := [.lit (.bool true)], args := [d1, d2, d3, d4] }
  | _ => none }
def fnExactCrossRow : OpenClaim := { program := "ytiennogfdnlfiaa", sum := "fc44ad67114061e621dd8ef02ca4ed95721e0d1e55c97843be22fe992a9b5085", func := "loop.example/g00024/laws.FnExactCross", spec := "fnExactCross", apart := false }
def FnExactCrossSaid : Prop := fnExactCrossRow.holds Try.pinned (OpenSpec.ofChange fnExactCrossSpec)

/-- ITS FALSE NEIGHBOUR: 'it returns false'. Refute it at one input. -/
def fnExactCrossWrong : ChangeSpec := { name := "fnExactCross", fn := fun _ => fun
  | [d1, d2, d3, d4] => { results := [.lit (.bool false)], args := [d1, d2, d3, d4] }
  | _ => none }
def FnExactCrossWrongFalsely : Prop := fnExactCrossRow.holds Try.pinned (OpenSpec.ofChange fnExactCrossWrong)

/-- 'laws.FnExactCellBox': WHATEVER THE INPUT: true; the input reads as it did. -/
def fnExactCellBoxSpec : ChangeSpec := { name := "fnExactCellBox", fn := fun _ => fun
  | [d] => { results := [.lit (.bool true)], args := [d] }
  | _ => none }
def fnExactCellBoxRow : OpenClaim := { program := "ytiennogfdnlfiaa", sum := "fc44ad67114061e621dd8ef02ca4ed95721e0d1e55c97843be22fe992a9b5085", func := "loop.example/g00024/laws.FnExactCellBox", spec := "fnExactCellBox", apart := false }
def FnExactCellBoxSaid : Prop := fnExactCellBoxRow.holds Try.pinned (OpenSpec.ofChange fnExactCellBoxSpec)

/-- ITS FALSE NEIGHBOUR: 'it returns false'. Refute it at one input. -/
def fnExactCellBoxWrong : ChangeSpec := { name := "fnExactCellBox", fn := fun _ => fun
  | [d] => { results := [.lit (.bool false)], args := [d] }
  | _ => none }
def FnExactCellBoxWrongFalsely : Prop := fnExactCellBoxRow.holds Try.pinned (OpenSpec.ofChange fnExactCellBoxWrong)

/- THE SECOND FORM. 'bulk': how many values and letters a reading holds, each counted each time it is reached (what is shared counts as often as it is met; a slice's spare places count too). A statement '..UptoSaid' is the law's where the arguments, and the package variables that the reading takes, are together of bulk at most 1048576: NARROWER than '..Said'. Prove '..Said' where nothing that the law and all that it calls make is longer than what came in: it says more and counts as full. Else prove '..UptoSaid'. A law counts once. -/
mutual
def uptoBulk {H : Type} : DataW H → Nat
  | .lit (.string bytes) => bytes.length + 1
  | .lit _ => 1
  | .nil => 1
  | .ptr d => uptoBulk d + 1
  | .slice elems spare => uptoBulkAll elems + uptoBulkAll spare + 1
  | .agg parts => uptoBulkAll parts + 1
  | .iface _ d => uptoBulk d + 1
  | .map entries => uptoBulkEntries entries + 1
  | .held _ => 1
def uptoBulkAll {H : Type} : List (DataW H) → Nat
  | [] => 0
  | d :: r => uptoBulk d + uptoBulkAll r
def uptoBulkEntries {H : Type} : List (Lit × DataW H) → Nat
  | [] => 0
  | x :: r => uptoBulkEntry x + uptoBulkEntries r
def uptoBulkEntry {H : Type} : Lit × DataW H → Nat
  | (.string bytes, d) => bytes.length + uptoBulk d + 1
  | (_, d) => uptoBulk d + 1
 end
def uptoSmall : (H : Type) → List (DataW H) → Bool := fun _ ds => decide (uptoBulkAll ds ≤ 1048576)
def OpenSpec.upto (s : _root_.Go.ChangeSpec) : _root_.Go.OpenSpec := { _root_.Go.OpenSpec.ofChange s with cond := some uptoSmall }

/-- 'laws.FnExactConstants', WHERE WHAT IT READS IS OF BULK AT MOST 1048576: true; the input reads as it did. -/
def fnExactConstantsUptoRow : OpenClaim := { program := "ytiennogfdnlfiaa", sum := "fc44ad67114061e621dd8ef02ca4ed95721e0d1e55c97843be22fe992a9b5085", func := "loop.example/g00024/laws.FnExactConstants", spec := "fnExactConstants", apart := false, narrowed := true }
def FnExactConstantsUptoSaid : Prop := fnExactConstantsUptoRow.holds Try.pinned (OpenSpec.upto fnExactConstantsSpec)

/-- 'laws.FnExactPointOk', WHERE WHAT IT READS IS OF BULK AT MOST 1048576: true; the input reads as it did. -/
def fnExactPointOkUptoRow : OpenClaim := { program := "ytiennogfdnlfiaa", sum := "fc44ad67114061e621dd8ef02ca4ed95721e0d1e55c97843be22fe992a9b5085", func := "loop.example/g00024/laws.FnExactPointOk", spec := "fnExactPointOk", apart := false, narrowed := true }
def FnExactPointOkUptoSaid : Prop := fnExactPointOkUptoRow.holds Try.pinned (OpenSpec.upto fnExactPointOkSpec)

/-- 'laws.FnExactWishOk', WHERE WHAT IT READS IS OF BULK AT MOST 1048576: true; the input reads as it did. -/
def fnExactWishOkUptoRow : OpenClaim := { program := "ytiennogfdnlfiaa", sum := "fc44ad67114061e621dd8ef02ca4ed95721e0d1e55c97843be22fe992a9b5085", func := "loop.example/g00024/laws.FnExactWishOk", spec := "fnExactWishOk", apart := false, narrowed := true }
def FnExactWishOkUptoSaid : Prop := fnExactWishOkUptoRow.holds Try.pinned (OpenSpec.upto fnExactWishOkSpec)

/-- 'laws.FnExactTileOk', WHERE WHAT IT READS IS OF BULK AT MOST 1048576: true; the input reads as it did. -/
def fnExactTileOkUptoRow : OpenClaim := { program := "ytiennogfdnlfiaa", sum := "fc44ad67114061e621dd8ef02ca4ed95721e0d1e55c97843be22fe992a9b5085", func := "loop.example/g00024/laws.FnExactTileOk", spec := "fnExactTileOk", apart := false, narrowed := true }
def FnExactTileOkUptoSaid : Prop := fnExactTileOkUptoRow.holds Try.pinned (OpenSpec.upto fnExactTileOkSpec)

/-- 'laws.FnExactCodeOf', WHERE WHAT IT READS IS OF BULK AT MOST 1048576: true; the input reads as it did. -/
def fnExactCodeOfUptoRow : OpenClaim := { program := "ytiennogfdnlfiaa", sum := "fc44ad67114061e621dd8ef02ca4ed95721e0d1e55c97843be22fe992a9b5085", func := "loop.example/g00024/laws.FnExactCodeOf", spec := "fnExactCodeOf", apart := false, narrowed := true }
def FnExactCodeOfUptoSaid : Prop := fnExactCodeOfUptoRow.holds Try.pinned (OpenSpec.upto fnExactCodeOfSpec)

/-- 'laws.FnExactRoot', WHERE WHAT IT READS IS OF BULK AT MOST 1048576: true; the input reads as it did. -/
def fnExactRootUptoRow : OpenClaim := { program := "ytiennogfdnlfiaa", sum := "fc44ad67114061e621dd8ef02ca4ed95721e0d1e55c97843be22fe992a9b5085", func := "loop.example/g00024/laws.FnExactRoot", spec := "fnExactRoot", apart := false, narrowed := true }
def FnExactRootUptoSaid : Prop := fnExactRootUptoRow.holds Try.pinned (OpenSpec.upto fnExactRootSpec)

/-- 'laws.FnExactTurn', WHERE WHAT IT READS IS OF BULK AT MOST 1048576: true; the input reads as it did. -/
def fnExactTurnUptoRow : OpenClaim := { program := "ytiennogfdnlfiaa", sum := "fc44ad67114061e621dd8ef02ca4ed95721e0d1e55c97843be22fe992a9b5085", func := "loop.example/g00024/laws.FnExactTurn", spec := "fnExactTurn", apart := false, narrowed := true }
def FnExactTurnUptoSaid : Prop := fnExactTurnUptoRow.holds Try.pinned (OpenSpec.upto fnExactTurnSpec)

/-- 'laws.FnExactPointOf', WHERE WHAT IT READS IS OF BULK AT MOST 1048576: true; the input reads as it did. -/
def fnExactPointOfUptoRow : OpenClaim := { program := "ytiennogfdnlfiaa", sum := "fc44ad67114061e621dd8ef02ca4ed95721e0d1e55c97843be22fe992a9b5085", func := "loop.example/g00024/laws.FnExactPointOf", spec := "fnExactPointOf", apart := false, narrowed := true }
def FnExactPointOfUptoSaid : Prop := fnExactPointOfUptoRow.holds Try.pinned (OpenSpec.upto fnExactPointOfSpec)

/-- 'laws.FnExactTileBox', WHERE WHAT IT READS IS OF BULK AT MOST 1048576: true; the input reads as it did. -/
def fnExactTileBoxUptoRow : OpenClaim := { program := "ytiennogfdnlfiaa", sum := "fc44ad67114061e621dd8ef02ca4ed95721e0d1e55c97843be22fe992a9b5085", func := "loop.example/g00024/laws.FnExactTileBox", spec := "fnExactTileBox", apart := false, narrowed := true }
def FnExactTileBoxUptoSaid : Prop := fnExactTileBoxUptoRow.holds Try.pinned (OpenSpec.upto fnExactTileBoxSpec)

/-- 'laws.FnExactEdits', WHERE WHAT IT READS IS OF BULK AT MOST 1048576: true; the input reads as it did. -/
def fnExactEditsUptoRow : OpenClaim := { program := "ytiennogfdnlfiaa", sum := "fc44ad67114061e621dd8ef02ca4ed95721e0d1e55c97843be22fe992a9b5085", func := "loop.example/g00024/laws.FnExactEdits", spec := "fnExactEdits", apart := false, narrowed := true }
def FnExactEditsUptoSaid : Prop := fnExactEditsUptoRow.holds Try.pinned (OpenSpec.upto fnExactEditsSpec)

/-- 'laws.FnExactCross', WHERE WHAT IT READS IS OF BULK AT MOST 1048576: true; the input reads as it did. -/
def fnExactCrossUptoRow : OpenClaim := { program := "ytiennogfdnlfiaa", sum := "fc44ad67114061e621dd8ef02ca4ed95721e0d1e55c97843be22fe992a9b5085", func := "loop.example/g00024/laws.FnExactCross", spec := "fnExactCross", apart := false, narrowed := true }
def FnExactCrossUptoSaid : Prop := fnExactCrossUptoRow.holds Try.pinned (OpenSpec.upto fnExactCrossSpec)

/-- 'laws.FnExactCellBox', WHERE WHAT IT READS IS OF BULK AT MOST 1048576: true; the input reads as it did. -/
def fnExactCellBoxUptoRow : OpenClaim := { program := "ytiennogfdnlfiaa", sum := "fc44ad67114061e621dd8ef02ca4ed95721e0d1e55c97843be22fe992a9b5085", func := "loop.example/g00024/laws.FnExactCellBox", spec := "fnExactCellBox", apart := false, narrowed := true }
def FnExactCellBoxUptoSaid : Prop := fnExactCellBoxUptoRow.holds Try.pinned (OpenSpec.upto fnExactCellBoxSpec)

end Rows
end Go.Proofs.Ytiennogfdnlfiaa
