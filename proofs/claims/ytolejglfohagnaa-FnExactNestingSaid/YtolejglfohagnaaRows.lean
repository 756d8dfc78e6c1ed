/-
  No cell of these rows narrows 'for every input' (looked for: loops, veiled, ifaces, maps, wideKeys, modest, calm, conditions, laid).
  DERIVED. THE GIVEN ROWS OF THIS SEAT. 11 by the template 'for every input the law returns true; each argument reads behind the call as it read before'; 0 by the template 'total and deterministic' (their statements: YtolejglfohagnaaTotals.lean).
  GIVEN WITH THE SEED: the statements are not yours to turn. If you find one false, say at which input.
  Laid BY PROGRAM, IN A SANDBOX (cutbox-rows.mjs): the forced cells as the released guide's own fill.sh prints them over the translation 598100c15941692a… (all of the seat's roots in one cut). By AI agents, Wed Nov 11 2026. No macro, syntax, notation, axiom, sorry.
-/
import Derived.Test.YtolejglfohagnaaChecked
import GoSem.Claim
import GoSem.ClaimJoined
import GoSem.ClaimMapViews
import Derived.JoinedTies
import Derived.KernelRfl
namespace Go.Proofs.Ytolejglfohagnaa
/- THE CELL 'sum', in the pinned program and in every row, IS THE sha256 OF THE DUMP (.gsa) THAT YtolejglfohagnaaProg.lean LOADS. Nothing in Lean hashes anything: it is a label: what it is worth is what the hold of that sum in a sandbox is worth. -/
noncomputable def Try.pinned : Pinned := { name := "ytolejglfohagnaa", sum := "598100c15941692a12948100c63015d4ff057875f17aaf42cdead0d99de5d680", checked := Try.checked }
namespace Rows
def none {H : Type} : Left H := { results := [], args := [] }

/-- 'laws.FnExactTilesOf': WHATEVER THE INPUT: true; the input reads as it did. -/
def fnExactTilesOfSpec : ChangeSpec := { name := "fnExactTilesOf", fn := fun _ => fun
  | [d1, d2] => { results := [.lit (.bool true)], args := [d1, d2] }
  | _ => none }
def fnExactTilesOfRow : OpenClaim := { program := "ytolejglfohagnaa", sum := "598100c15941692a12948100c63015d4ff057875f17aaf42cdead0d99de5d680", func := "loop.example/g00024/laws.FnExactTilesOf", spec := "fnExactTilesOf", unfollowed := true, recurses := true, apart := false }
def FnExactTilesOfSaid : Prop := fnExactTilesOfRow.holds Try.pinned (OpenSpec.ofChange fnExactTilesOfSpec)

/-- ITS FALSE NEIGHBOUR: 'it returns false'. Refute it at one input. -/
def fnExactTilesOfWrong : ChangeSpec := { name := "fnExactTilesOf", fn := fun _ => fun
  | [d1, d2] => { results := [.lit (.bool false)], args := [d1, d2] }
  | _ => none }
def FnExactTilesOfWrongFalsely : Prop := fnExactTilesOfRow.holds Try.pinned (OpenSpec.ofChange fnExactTilesOfWrong)

/-- 'laws.FnCodes': WHATEVER THE INPUT: true; the input reads as it did. -/
def fnCodesSpec : ChangeSpec := { name := "fnCodes", fn := fun _ => fun
  | [d] => { results := [.lit (.bool true)], args := [d] }
  | _ => none }
def fnCodesRow : OpenClaim := { program := "ytolejglfohagnaa", sum := "598100c15941692a12948100c63015d4ff057875f17aaf42cdead0d99de5d680", func := "loop.example/g00024/laws.FnCodes", spec := "fnCodes", apart := false }
def FnCodesSaid : Prop := fnCodesRow.holds Try.pinned (OpenSpec.ofChange fnCodesSpec)

/-- ITS FALSE NEIGHBOUR: 'it returns false'. Refute it at one input. -/
def fnCodesWrong : ChangeSpec := { name := "fnCodes", fn := fun _ => fun
  | [d] => { results := [.lit (.bool false)], args := [d] }
  | _ => none }
def FnCodesWrongFalsely : Prop := fnCodesRow.holds Try.pinned (OpenSpec.ofChange fnCodesWrong)

/-- 'laws.FnExactLength': WHATEVER THE INPUT: true; the input reads as it did. -/
def fnExactLengthSpec : ChangeSpec := { name := "fnExactLength", fn := fun _ => fun
  | [d] => { results := [.lit (.bool true)], args := [d] }
  | _ => none }
def fnExactLengthRow : OpenClaim := { program := "ytolejglfohagnaa", sum := "598100c15941692a12948100c63015d4ff057875f17aaf42cdead0d99de5d680", func := "loop.example/g00024/laws.FnExactLength", spec := "fnExactLength", apart := false }
def FnExactLengthSaid : Prop := fnExactLengthRow.holds Try.pinned (OpenSpec.ofChange fnExactLengthSpec)

/-- ITS FALSE NEIGHBOUR: 'it returns false'. Refute it at one input. -/
def fnExactLengthWrong : ChangeSpec := { name := "fnExactLength", fn := fun _ => fun
  | [d] => { results := [.lit (.bool false)], args := [d] }
  | _ => none }
def FnExactLengthWrongFalsely : Prop := fnExactLengthRow.holds Try.pinned (OpenSpec.ofChange fnExactLengthWrong)

/-- 'laws.FnExactCover': WHATEVER THE INPUT: true; the input reads as it did. -/
def fnExactCoverSpec : ChangeSpec := { name := "fnExactCover", fn := fun _ => fun
  | [d1, d2] => { results := [.lit (.bool true)], args := [d1, d2] }
  | _ => none }
def fnExactCoverRow : OpenClaim := { program := "ytolejglfohagnaa", sum := "598100c15941692a12948100c63015d4ff057875f17aaf42cdead0d99de5d680", func := "loop.example/g00024/laws.FnExactCover", spec := "fnExactCover", apart := false }
def FnExactCoverSaid : Prop := fnExactCoverRow.holds Try.pinned (OpenSpec.ofChange fnExactCoverSpec)

/-- ITS FALSE NEIGHBOUR: 'it returns false'. Refute it at one input. -/
def fnExactCoverWrong : ChangeSpec := { name := "fnExactCover", fn := fun _ => fun
  | [d1, d2] => { results := [.lit (.bool false)], args := [d1, d2] }
  | _ => none }
def FnExactCoverWrongFalsely : Prop := fnExactCoverRow.holds Try.pinned (OpenSpec.ofChange fnExactCoverWrong)

/-- 'laws.FnEvenOdd': WHATEVER THE INPUT: true; the input reads as it did. -/
def fnEvenOddSpec : ChangeSpec := { name := "fnEvenOdd", fn := fun _ => fun
  | [d] => { results := [.lit (.bool true)], args := [d] }
  | _ => none }
def fnEvenOddRow : OpenClaim := { program := "ytolejglfohagnaa", sum := "598100c15941692a12948100c63015d4ff057875f17aaf42cdead0d99de5d680", func := "loop.example/g00024/laws.FnEvenOdd", spec := "fnEvenOdd", apart := false }
def FnEvenOddSaid : Prop := fnEvenOddRow.holds Try.pinned (OpenSpec.ofChange fnEvenOddSpec)

/-- ITS FALSE NEIGHBOUR: 'it returns false'. Refute it at one input. -/
def fnEvenOddWrong : ChangeSpec := { name := "fnEvenOdd", fn := fun _ => fun
  | [d] => { results := [.lit (.bool false)], args := [d] }
  | _ => none }
def FnEvenOddWrongFalsely : Prop := fnEvenOddRow.holds Try.pinned (OpenSpec.ofChange fnEvenOddWrong)

/-- 'laws.FnExactInside': WHATEVER THE INPUT: true; the input reads as it did. -/
def fnExactInsideSpec : ChangeSpec := { name := "fnExactInside", fn := fun _ => fun
  | [d1, d2] => { results := [.lit (.bool true)], args := [d1, d2] }
  | _ => none }
def fnExactInsideRow : OpenClaim := { program := "ytolejglfohagnaa", sum := "598100c15941692a12948100c63015d4ff057875f17aaf42cdead0d99de5d680", func := "loop.example/g00024/laws.FnExactInside", spec := "fnExactInside", apart := false }
def FnExactInsideSaid : Prop := fnExactInsideRow.holds Try.pinned (OpenSpec.ofChange fnExactInsideSpec)

/-- ITS FALSE NEIGHBOUR: 'it returns false'. Refute it at one input. -/
def fnExactInsideWrong : ChangeSpec := { name := "fnExactInside", fn := fun _ => fun
  | [d1, d2] => { results := [.lit (.bool false)], args := [d1, d2] }
  | _ => none }
def FnExactInsideWrongFalsely : Prop := fnExactInsideRow.holds Try.pinned (OpenSpec.ofChange fnExactInsideWrong)

/-- 'laws.FnExactOrient': WHATEVER THE INPUT: true; the input reads as it did. -/
def fnExactOrientSpec : ChangeSpec := { name := "fnExactOrient", fn := fun _ => fun
  | [d] => { results := [.lit (.bool true)], args := [d] }
  | _ => none }
def fnExactOrientRow : OpenClaim := { program := "ytolejglfohagnaa", sum := "598100c15941692a12948100c63015d4ff057875f17aaf42cdead0d99de5d680", func := "loop.example/g00024/laws.FnExactOrient", spec := "fnExactOrient", apart := false }
def FnExactOrientSaid : Prop := fnExactOrientRow.holds Try.pinned (OpenSpec.ofChange fnExactOrientSpec)

/-- ITS FALSE NEIGHBOUR: 'it returns false'. Refute it at one input. -/
def fnExactOrientWrong : ChangeSpec := { name := "fnExactOrient", fn := fun _ => fun
  | [d] => { results := [.lit (.bool false)], args := [d] }
  | _ => none }
def FnExactOrientWrongFalsely : Prop := fnExactOrientRow.holds Try.pinned (OpenSpec.ofChange fnExactOrientWrong)

/-- 'laws.FnNests': WHATEVER THE INPUT: true; the input reads as it did. -/
def fnNestsSpec : ChangeSpec := { name := "fnNests", fn := fun _ => fun
  | [d] => { results := [.lit (.bool true)], args := [d] }
  | _ => none }
def fnNestsRow : OpenClaim := { program := "ytolejglfohagnaa", sum := "598100c15941692a12948100c63015d4ff057875f17aaf42cdead0d99de5d680", func := "loop.example/g00024/laws.FnNests", spec := "fnNests", apart := false }
def FnNestsSaid : Prop := fnNestsRow.holds Try.pinned (OpenSpec.ofChange fnNestsSpec)

/-- ITS FALSE NEIGHBOUR: 'it returns false'. Refute it at one input. -/
def fnNestsWrong : ChangeSpec := { name := "fnNests", fn := fun _ => fun
  | [d] => { results := [.lit (.bool false)], args := [d] }
  | _ => none }
def FnNestsWrongFalsely : Prop := fnNestsRow.holds Try.pinned (OpenSpec.ofChange fnNestsWrong)

/-- 'laws.FnEarliest': WHATEVER THE INPUT: true; the input reads as it did. -/
def fnEarliestSpec : ChangeSpec := { name := "fnEarliest", fn := fun _ => fun
  | [d] => { results := [.lit (.bool true)], args := [d] }
  | _ => none }
def fnEarliestRow : OpenClaim := { program := "ytolejglfohagnaa", sum := "598100c15941692a12948100c63015d4ff057875f17aaf42cdead0d99de5d680", func := "loop.example/g00024/laws.FnEarliest", spec := "fnEarliest", unfollowed := true, recurses := true, apart := false }
def FnEarliestSaid : Prop := fnEarliestRow.holds Try.pinned (OpenSpec.ofChange fnEarliestSpec)

/-- ITS FALSE NEIGHBOUR: 'it returns false'. Refute it at one input. -/
def fnEarliestWrong : ChangeSpec := { name := "fnEarliest", fn := fun _ => fun
  | [d] => { results := [.lit (.bool false)], args := [d] }
  | _ => none }
def FnEarliestWrongFalsely : Prop := fnEarliestRow.holds Try.pinned (OpenSpec.ofChange fnEarliestWrong)

/-- 'laws.FnExactNesting': WHATEVER THE INPUT: true; the input reads as it did. -/
def fnExactNestingSpec : ChangeSpec := { name := "fnExactNesting", fn := fun _ => fun
  | [d] => { results := [.lit (.bool true)], args := [d] }
  | _ => none }
def fnExactNestingRow : OpenClaim := { program := "ytolejglfohagnaa", sum := "598100c15941692a12948100c63015d4ff057875f17aaf42cdead0d99de5d680", func := "loop.example/g00024/laws.FnExactNesting", spec := "fnExactNesting", apart := false }
def FnExactNestingSaid : Prop := fnExactNestingRow.holds Try.pinned (OpenSpec.ofChange fnExactNestingSpec)

/-- ITS FALSE NEIGHBOUR: 'it returns false'. Refute it at one input. -/
def fnExactNestingWrong : ChangeSpec := { name := "fnExactNesting", fn := fun _ => fun
  | [d] => { results := [.lit (.bool false)], args := [d] }
  | _ => none }
def FnExactNestingWrongFalsely : Prop := fnExactNestingRow.holds Try.pinned (OpenSpec.ofChange fnExactNestingWrong)

/-- 'laws.FnExactLinesOk': WHATEVER THE INPUT: true; the input reads as it did. -/
def fnExactLinesOkSpec : ChangeSpec := { name := "fnExactLinesOk", fn := fun _ => fun
  | [d] => { results := [.lit (.bool true)], args := [d] }
  | _ => none }
def fnExactLinesOkRow : OpenClaim := { program := "ytolejglfohagnaa", sum := "598100c15941692a12948100c63015d4ff057875f17aaf42cdead0d99de5d680", func := "loop.example/g00024/laws.FnExactLinesOk", spec := "fnExactLinesOk", apart := false }
def FnExactLinesOkSaid : Prop := fnExactLinesOkRow.holds Try.pinned (OpenSpec.ofChange fnExactLinesOkSpec)

/-- ITS FALSE NEIGHBOUR: 'it returns false'. Refute it at one input. -/
def fnExactLinesOkWrong : ChangeSpec := { name := "fnExactLinesOk", fn := fun _ => fun
  | [d] => { results := [.lit (.bool false)], args := [d] }
  | _ => none }
def FnExactLinesOkWrongFalsely : Prop := fnExactLinesOkRow.holds Try.pinned (OpenSpec.ofChange fnExactLinesOkWrong)

/- THE SECOND FORM. 'bulk': how many values and letters a reading holds, each counted each time it is reached (what is shared counts as often as it is met; a slice's spare places count too). A statement '..UptoSaid' is the law's where the arguments, and the package variables that the reading takes, are together of bulk at most 1048576: NARROWER than '..Said'. Prove '..Said' where nothing that the law and all that it calls make is longer than what came in: it says more and counts as full. Else prove '..UptoSaid'. A law counts once. -/
mutual
def uptoBulk {H : Type} : DataW H → Nat
  | .lit (.string bytes) => bytes.length + 1
  | .lit _ => 1
  | .nil => 1
  | .ptr d => uptoBulk d + 1
  | .slice elems spare => uptoBulkAll elems + uptoBulkAll spare + 1
  | .agg parts => uptoBulkAll parts + 1
  | .iface _ d => uptoBulk d + 1
  | .map entries => uptoBulkEntries entries + 1
  | .held _ => 1
def uptoBulkAll {H : Type} : List (DataW H) → Nat
  | [] => 0
  | d :: r => uptoBulk d + uptoBulkAll r
def uptoBulkEntries {H : Type} : List (Lit × DataW H) → Nat
  | [] => 0
  | x :: r => uptoBulkEntry x + uptoBulkEntries r
def uptoBulkEntry {H : Type} : Lit × DataW H → Nat
  | (.string bytes, d) => bytes.length + uptoBulk d + 1
  | (_, d) => uptoBulk d + 1
 end
def uptoSmall : (H : Type) → List (DataW H) → Bool := fun _ ds => decide (uptoBulkAll ds ≤ 1048576)
def OpenSpec.upto (s : _root_.Go.ChangeSpec) : _root_.Go.OpenSpec := { _root_.Go.OpenSpec.ofChange s with cond := some uptoSmall }

/-- 'laws.FnExactTilesOf', WHERE WHAT IT READS IS OF BULK AT MOST 1048576: true; the input reads as it did. -/
def fnExactTilesOfUptoRow : OpenClaim := { program := "ytolejglfohagnaa", sum := "598100c15941692a12948100c63015d4ff057875f17aaf42cdead0d99de5d680", func := "loop.example/g00024/laws.FnExactTilesOf", spec := "fnExactTilesOf", unfollowed := true, recurses := true, apart := false, narrowed := true }
def FnExactTilesOfUptoSaid : Prop := fnExactTilesOfUptoRow.holds Try.pinned (OpenSpec.upto fnExactTilesOfSpec)

/-- 'laws.FnCodes', WHERE WHAT IT READS IS OF BULK AT MOST 1048576: true; the input reads as it did. -/
def fnCodesUptoRow : OpenClaim := { program := "ytolejglfohagnaa", sum := "598100c15941692a12948100c63015d4ff057875f17aaf42cdead0d99de5d680", func := "loop.example/g00024/laws.FnCodes", spec := "fnCodes", apart := false, narrowed := true }
def FnCodesUptoSaid : Prop := fnCodesUptoRow.holds Try.pinned (OpenSpec.upto fnCodesSpec)

/-- 'laws.FnExactLength', WHERE WHAT IT READS IS OF BULK AT MOST 1048576: true; the input reads as it did. -/
def fnExactLengthUptoRow : OpenClaim := { program := "ytolejglfohagnaa", sum := "598100c15941692a12948100c63015d4ff057875f17aaf42cdead0d99de5d680", func := "loop.example/g00024/laws.FnExactLength", spec := "fnExactLength", apart := false, narrowed := true }
def FnExactLengthUptoSaid : Prop := fnExactLengthUptoRow.holds Try.pinned (OpenSpec.upto fnExactLengthSpec)

/-- 'laws.FnExactCover', WHERE WHAT IT READS IS OF BULK AT MOST 1048576: true; the input reads as it did. -/
def fnExactCoverUptoRow : OpenClaim := { program := "ytolejglfohagnaa", sum := "598100c15941692a12948100c63015d4ff057875f17aaf42cdead0d99de5d680", func := "loop.example/g00024/laws.FnExactCover", spec := "fnExactCover", apart := false, narrowed := true }
def FnExactCoverUptoSaid : Prop := fnExactCoverUptoRow.holds Try.pinned (OpenSpec.upto fnExactCoverSpec)

/-- 'laws.FnEvenOdd', WHERE WHAT IT READS IS OF BULK AT MOST 1048576: true; the input reads as it did. -/
def fnEvenOddUptoRow : OpenClaim := { program := "ytolejglfohagnaa", sum := "598100c15941692a12948100c63015d4ff057875f17aaf42cdead0d99de5d680", func := "loop.example/g00024/laws.FnEvenOdd", spec := "fnEvenOdd", apart := false, narrowed := true }
def FnEvenOddUptoSaid : Prop := fnEvenOddUptoRow.holds Try.pinned (OpenSpec.upto fnEvenOddSpec)

/-- 'laws.FnExactInside', WHERE WHAT IT READS IS OF BULK AT MOST 1048576: true; the input reads as it did. -/
def fnExactInsideUptoRow : OpenClaim := { program := "ytolejglfohagnaa", sum := "598100c15941692a12948100c63015d4ff057875f17aaf42cdead0d99de5d680", func := "loop.example/g00024/laws.FnExactInside", spec := "fnExactInside", apart := false, narrowed := true }
def FnExactInsideUptoSaid : Prop := fnExactInsideUptoRow.holds Try.pinned (OpenSpec.upto fnExactInsideSpec)

/-- 'laws.FnExactOrient', WHERE WHAT IT READS IS OF BULK AT MOST 1048576: true; the input reads as it did. -/
def fnExactOrientUptoRow : OpenClaim := { program := "ytolejglfohagnaa", sum := "598100c15941692a12948100c63015d4ff057875f17aaf42cdead0d99de5d680", func := "loop.example/g00024/laws.FnExactOrient", spec := "fnExactOrient", apart := false, narrowed := true }
def FnExactOrientUptoSaid : Prop := fnExactOrientUptoRow.holds Try.pinned (OpenSpec.upto fnExactOrientSpec)

/-- 'laws.FnNests', WHERE WHAT IT READS IS OF BULK AT MOST 1048576: true; the input reads as it did. -/
def fnNestsUptoRow : OpenClaim := { program := "ytolejglfohagnaa", sum := "598100c15941692a12948100c63015d4ff057875f17aaf42cdead0d99de5d680", func := "loop.example/g00024/laws.FnNests", spec := "fnNests", apart := false, narrowed := true }
def FnNestsUptoSaid : Prop := fnNestsUptoRow.holds Try.pinned (OpenSpec.upto fnNestsSpec)

/-- 'laws.FnEarliest', WHERE WHAT IT READS IS OF BULK AT MOST 1048576: true; the input reads as it did. -/
def fnEarliestUptoRow : OpenClaim := { program := "ytolejglfohagnaa", sum := "598100c15941692a12948100c63015d4ff057875f17aaf42cdead0d99de5d680", func := "loop.example/g00024/laws.FnEarliest", spec := "fnEarliest", unfollowed := true, recurses := true, apart := false, narrowed := true }
def FnEarliestUptoSaid : Prop := fnEarliestUptoRow.holds Try.pinned (OpenSpec.upto fnEarliestSpec)

/-- 'laws.FnExactNesting', WHERE WHAT IT READS IS OF BULK AT MOST 1048576: true; the input reads as it did. -/
def fnExactNestingUptoRow : OpenClaim := { program := "ytolejglfohagnaa", sum := "598100c15941692a12948100c63015d4ff057875f17aaf42cdead0d99de5d680", func := "loop.example/g00024/laws.FnExactNesting", spec := "fnExactNesting", apart := false, narrowed := true }
def FnExactNestingUptoSaid : Prop := fnExactNestingUptoRow.holds Try.pinned (OpenSpec.upto fnExactNestingSpec)

/-- 'laws.FnExactLinesOk', WHERE WHAT IT READS IS OF BULK AT MOST 1048576: true; the input reads as it did. -/
def fnExactLinesOkUptoRow : OpenClaim := { program := "ytolejglfohagnaa", sum := "598100c15941692a12948100c63015d4ff057875f17aaf42cdead0d99de5d680", func := "loop.example/g00024/laws.FnExactLinesOk", spec := "fnExactLinesOk", apart := false, narrowed := true }
def FnExactLinesOkUptoSaid : Prop := fnExactLinesOkUptoRow.holds Try.pinned (OpenSpec.upto fnExactLinesOkSpec)

end Rows
end Go.Proofs.Ytolejglfohagnaa
