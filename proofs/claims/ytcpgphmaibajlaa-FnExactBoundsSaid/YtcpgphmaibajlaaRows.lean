/-
  No cell of these rows narrows 'for every input' (looked for: loops, veiled, ifaces, maps, wideKeys, modest, calm, conditions, laid).
  DERIVED. THE GIVEN ROWS OF THIS SEAT. 12 by the template 'for every input the law returns true; each argument reads behind the call as it read before'; 0 by the template 'total and deterministic' (their statements: YtcpgphmaibajlaaTotals.lean).
  GIVEN WITH THE SEED: the statements are not yours to turn. If you find one false, say at which input.
  Laid BY PROGRAM, IN A SANDBOX (cutbox-rows.mjs): the forced cells as the released guide's own fill.sh prints them over the translation 95758f7e466dca90… (all of the seat's roots in one cut). By AI agents, Wed Nov 11 2026. No macro, syntax, notation, axiom, sorry.
-/
import Derived.Test.YtcpgphmaibajlaaChecked
import GoSem.Claim
import GoSem.ClaimJoined
import GoSem.ClaimMapViews
import Derived.JoinedTies
import Derived.KernelRfl
namespace Go.Proofs.Ytcpgphmaibajlaa
/- THE CELL 'sum', in the pinned program and in every row, IS THE sha256 OF THE DUMP (.gsa) THAT YtcpgphmaibajlaaProg.lean LOADS. Nothing in Lean hashes anything: it is a label: what it is worth is what the hold of that sum in a sandbox is worth. -/
noncomputable def Try.pinned : Pinned := { name := "ytcpgphmaibajlaa", sum := "95758f7e466dca90b6317ce57eba801c4c08fbcf920c5a3843f85bb3e0a5f6a7", checked := Try.checked }
namespace Rows
def none {H : Type} : Left H := { results := [], args := [] }

/-- 'laws.FnExactHeading': WHATEVER THE INPUT: true; the input reads as it did. -/
def fnExactHeadingSpec : ChangeSpec := { name := "fnExactHeading", fn := fun _ => fun
  | [d1, d2] => { results := [.lit (.bool true)], args := [d1, d2] }
  | _ => none }
def fnExactHeadingRow : OpenClaim := { program := "ytcpgphmaibajlaa", sum := "95758f7e466dca90b6317ce57eba801c4c08fbcf920c5a3843f85bb3e0a5f6a7", func := "loop.example/g00024/laws.FnExactHeading", spec := "fnExactHeading", apart := false }
def FnExactHeadingSaid : Prop := fnExactHeadingRow.holds Try.pinned (OpenSpec.ofChange fnExactHeadingSpec)

/-- ITS FALSE NEIGHBOUR: 'it returns false'. Refute it at one input. -/
def fnExactHeadingWrong : ChangeSpec := { name := "fnExactHeading", fn := fun _ => fun
  | [d1, d2] => { results := [.lit (.bool false)], args := [d1, d2] }
  | _ => none }
def FnExactHeadingWrongFalsely : Prop := fnExactHeadingRow.holds Try.pinned (OpenSpec.ofChange fnExactHeadingWrong)

/-- 'laws.FnExactTagOf': WHATEVER THE INPUT: true; the input reads as it did. -/
def fnExactTagOfSpec : ChangeSpec := { name := "fnExactTagOf", fn := fun _ => fun
  | [d1, d2] => { results := [.lit (.bool true)], args := [d1, d2] }
  | _ => none }
def fnExactTagOfRow : OpenClaim := { program := "ytcpgphmaibajlaa", sum := "95758f7e466dca90b6317ce57eba801c4c08fbcf920c5a3843f85bb3e0a5f6a7", func := "loop.example/g00024/laws.FnExactTagOf", spec := "fnExactTagOf", apart := false }
def FnExactTagOfSaid : Prop := fnExactTagOfRow.holds Try.pinned (OpenSpec.ofChange fnExactTagOfSpec)

/-- ITS FALSE NEIGHBOUR: 'it returns false'. Refute it at one input. -/
def fnExactTagOfWrong : ChangeSpec := { name := "fnExactTagOf", fn := fun _ => fun
  | [d1, d2] => { results := [.lit (.bool false)], args := [d1, d2] }
  | _ => none }
def FnExactTagOfWrongFalsely : Prop := fnExactTagOfRow.holds Try.pinned (OpenSpec.ofChange fnExactTagOfWrong)

/-- 'laws.FnExactDistance': WHATEVER THE INPUT: true; the input reads as it did. -/
def fnExactDistanceSpec : ChangeSpec := { name := "fnExactDistance", fn := fun _ => fun
  | [d1, d2] => { results := [.lit (.bool true)], args := [d1, d2] }
  | _ => none }
def fnExactDistanceRow : OpenClaim := { program := "ytcpgphmaibajlaa", sum := "95758f7e466dca90b6317ce57eba801c4c08fbcf920c5a3843f85bb3e0a5f6a7", func := "loop.example/g00024/laws.FnExactDistance", spec := "fnExactDistance", apart := false }
def FnExactDistanceSaid : Prop := fnExactDistanceRow.holds Try.pinned (OpenSpec.ofChange fnExactDistanceSpec)

/-- ITS FALSE NEIGHBOUR: 'it returns false'. Refute it at one input. -/
def fnExactDistanceWrong : ChangeSpec := { name := "fnExactDistance", fn := fun _ => fun
  | [d1, d2] => { results := [.lit (.bool false)], args := [d1, d2] }
  | _ => none }
def FnExactDistanceWrongFalsely : Prop := fnExactDistanceRow.holds Try.pinned (OpenSpec.ofChange fnExactDistanceWrong)

/-- 'laws.FnEdits': WHATEVER THE INPUT: true; the input reads as it did. -/
def fnEditsSpec : ChangeSpec := { name := "fnEdits", fn := fun _ => fun
  | [d] => { results := [.lit (.bool true)], args := [d] }
  | _ => none }
def fnEditsRow : OpenClaim := { program := "ytcpgphmaibajlaa", sum := "95758f7e466dca90b6317ce57eba801c4c08fbcf920c5a3843f85bb3e0a5f6a7", func := "loop.example/g00024/laws.FnEdits", spec := "fnEdits", apart := false }
def FnEditsSaid : Prop := fnEditsRow.holds Try.pinned (OpenSpec.ofChange fnEditsSpec)

/-- ITS FALSE NEIGHBOUR: 'it returns false'. Refute it at one input. -/
def fnEditsWrong : ChangeSpec := { name := "fnEdits", fn := fun _ => fun
  | [d] => { results := [.lit (.bool false)], args := [d] }
  | _ => none }
def FnEditsWrongFalsely : Prop := fnEditsRow.holds Try.pinned (OpenSpec.ofChange fnEditsWrong)

/-- 'laws.FnExactAreaTwice': WHATEVER THE INPUT: true; the input reads as it did. -/
def fnExactAreaTwiceSpec : ChangeSpec := { name := "fnExactAreaTwice", fn := fun _ => fun
  | [d] => { results := [.lit (.bool true)], args := [d] }
  | _ => none }
def fnExactAreaTwiceRow : OpenClaim := { program := "ytcpgphmaibajlaa", sum := "95758f7e466dca90b6317ce57eba801c4c08fbcf920c5a3843f85bb3e0a5f6a7", func := "loop.example/g00024/laws.FnExactAreaTwice", spec := "fnExactAreaTwice", apart := false }
def FnExactAreaTwiceSaid : Prop := fnExactAreaTwiceRow.holds Try.pinned (OpenSpec.ofChange fnExactAreaTwiceSpec)

/-- ITS FALSE NEIGHBOUR: 'it returns false'. Refute it at one input. -/
def fnExactAreaTwiceWrong : ChangeSpec := { name := "fnExactAreaTwice", fn := fun _ => fun
  | [d] => { results := [.lit (.bool false)], args := [d] }
  | _ => none }
def FnExactAreaTwiceWrongFalsely : Prop := fnExactAreaTwiceRow.holds Try.pinned (OpenSpec.ofChange fnExactAreaTwiceWrong)

/-- 'laws.FnHeadings': WHATEVER THE INPUT: true; the input reads as it did. -/
def fnHeadingsSpec : ChangeSpec := { name := "fnHeadings", fn := fun _ => fun
  | [d] => { results := [.lit (.bool true)], args := [d] }
  | _ => none }
def fnHeadingsRow : OpenClaim := { program := "ytcpgphmaibajlaa", sum := "95758f7e466dca90b6317ce57eba801c4c08fbcf920c5a3843f85bb3e0a5f6a7", func := "loop.example/g00024/laws.FnHeadings", spec := "fnHeadings", apart := false }
def FnHeadingsSaid : Prop := fnHeadingsRow.holds Try.pinned (OpenSpec.ofChange fnHeadingsSpec)

/-- ITS FALSE NEIGHBOUR: 'it returns false'. Refute it at one input. -/
def fnHeadingsWrong : ChangeSpec := { name := "fnHeadings", fn := fun _ => fun
  | [d] => { results := [.lit (.bool false)], args := [d] }
  | _ => none }
def FnHeadingsWrongFalsely : Prop := fnHeadingsRow.holds Try.pinned (OpenSpec.ofChange fnHeadingsWrong)

/-- 'laws.FnTurns': WHATEVER THE INPUT: true; the input reads as it did. -/
def fnTurnsSpec : ChangeSpec := { name := "fnTurns", fn := fun _ => fun
  | [d] => { results := [.lit (.bool true)], args := [d] }
  | _ => none }
def fnTurnsRow : OpenClaim := { program := "ytcpgphmaibajlaa", sum := "95758f7e466dca90b6317ce57eba801c4c08fbcf920c5a3843f85bb3e0a5f6a7", func := "loop.example/g00024/laws.FnTurns", spec := "fnTurns", apart := false }
def FnTurnsSaid : Prop := fnTurnsRow.holds Try.pinned (OpenSpec.ofChange fnTurnsSpec)

/-- ITS FALSE NEIGHBOUR: 'it returns false'. Refute it at one input. -/
def fnTurnsWrong : ChangeSpec := { name := "fnTurns", fn := fun _ => fun
  | [d] => { results := [.lit (.bool false)], args := [d] }
  | _ => none }
def FnTurnsWrongFalsely : Prop := fnTurnsRow.holds Try.pinned (OpenSpec.ofChange fnTurnsWrong)

/-- 'laws.FnExactBounds': WHATEVER THE INPUT: true; the input reads as it did. -/
def fnExactBoundsSpec : ChangeSpec := { name := "fnExactBounds", fn := fun _ => fun
  | [d] => { results := [.lit (.bool true)], args := [d] }
  | _ => none }
def fnExactBoundsRow : OpenClaim := { program := "ytcpgphmaibajlaa", sum := "95758f7e466dca90b6317ce57eba801c4c08fbcf920c5a3843f85bb3e0a5f6a7", func := "loop.example/g00024/laws.FnExactBounds", spec := "fnExactBounds", apart := false }
def FnExactBoundsSaid : Prop := fnExactBoundsRow.holds Try.pinned (OpenSpec.ofChange fnExactBoundsSpec)

/-- ITS FALSE NEIGHBOUR: 'it returns false'. Refute it at one input. -/
def fnExactBoundsWrong : ChangeSpec := { name := "fnExactBounds", fn := fun _ => fun
  | [d] => { results := [.lit (.bool false)], args := [d] }
  | _ => none }
def FnExactBoundsWrongFalsely : Prop := fnExactBoundsRow.holds Try.pinned (OpenSpec.ofChange fnExactBoundsWrong)

/-- 'laws.FnExactTagsOk': WHATEVER THE INPUT: true; the input reads as it did. -/
def fnExactTagsOkSpec : ChangeSpec := { name := "fnExactTagsOk", fn := fun _ => fun
  | [d] => { results := [.lit (.bool true)], args := [d] }
  | _ => none }
def fnExactTagsOkRow : OpenClaim := { program := "ytcpgphmaibajlaa", sum := "95758f7e466dca90b6317ce57eba801c4c08fbcf920c5a3843f85bb3e0a5f6a7", func := "loop.example/g00024/laws.FnExactTagsOk", spec := "fnExactTagsOk", apart := false }
def FnExactTagsOkSaid : Prop := fnExactTagsOkRow.holds Try.pinned (OpenSpec.ofChange fnExactTagsOkSpec)

/-- ITS FALSE NEIGHBOUR: 'it returns false'. Refute it at one input. -/
def fnExactTagsOkWrong : ChangeSpec := { name := "fnExactTagsOk", fn := fun _ => fun
  | [d] => { results := [.lit (.bool false)], args := [d] }
  | _ => none }
def FnExactTagsOkWrongFalsely : Prop := fnExactTagsOkRow.holds Try.pinned (OpenSpec.ofChange fnExactTagsOkWrong)

/-- 'laws.FnExactWordsOf': WHATEVER THE INPUT: true; the input reads as it did. -/
def fnExactWordsOfSpec : ChangeSpec := { name := "fnExactWordsOf", fn := fun _ => fun
  | [d] => { results := [.lit (.bool true)], args := [d] }
  | _ => none }
def fnExactWordsOfRow : OpenClaim := { program := "ytcpgphmaibajlaa", sum := "95758f7e466dca90b6317ce57eba801c4c08fbcf920c5a3843f85bb3e0a5f6a7", func := "loop.example/g00024/laws.FnExactWordsOf", spec := "fnExactWordsOf", unfollowed := true, recurses := true, apart := false }
def FnExactWordsOfSaid : Prop := fnExactWordsOfRow.holds Try.pinned (OpenSpec.ofChange fnExactWordsOfSpec)

/-- ITS FALSE NEIGHBOUR: 'it returns false'. Refute it at one input. -/
def fnExactWordsOfWrong : ChangeSpec := { name := "fnExactWordsOf", fn := fun _ => fun
  | [d] => { results := [.lit (.bool false)], args := [d] }
  | _ => none }
def FnExactWordsOfWrongFalsely : Prop := fnExactWordsOfRow.holds Try.pinned (OpenSpec.ofChange fnExactWordsOfWrong)

/-- 'laws.FnRootBounds': WHATEVER THE INPUT: true; the input reads as it did. -/
def fnRootBoundsSpec : ChangeSpec := { name := "fnRootBounds", fn := fun _ => fun
  | [d] => { results := [.lit (.bool true)], args := [d] }
  | _ => none }
def fnRootBoundsRow : OpenClaim := { program := "ytcpgphmaibajlaa", sum := "95758f7e466dca90b6317ce57eba801c4c08fbcf920c5a3843f85bb3e0a5f6a7", func := "loop.example/g00024/laws.FnRootBounds", spec := "fnRootBounds", apart := false }
def FnRootBoundsSaid : Prop := fnRootBoundsRow.holds Try.pinned (OpenSpec.ofChange fnRootBoundsSpec)

/-- ITS FALSE NEIGHBOUR: 'it returns false'. Refute it at one input. -/
def fnRootBoundsWrong : ChangeSpec := { name := "fnRootBounds", fn := fun _ => fun
  | [d] => { results := [.lit (.bool false)], args := [d] }
  | _ => none }
def FnRootBoundsWrongFalsely : Prop := fnRootBoundsRow.holds Try.pinned (OpenSpec.ofChange fnRootBoundsWrong)

/-- 'laws.FnCover': WHATEVER THE INPUT: true; the input reads as it did. -/
def fnCoverSpec : ChangeSpec := { name := "fnCover", fn := fun _ => fun
  | [d] => { results := [.lit (.bool true)], args := [d] }
  | _ => none }
def fnCoverRow : OpenClaim := { program := "ytcpgphmaibajlaa", sum := "95758f7e466dca90b6317ce57eba801c4c08fbcf920c5a3843f85bb3e0a5f6a7", func := "loop.example/g00024/laws.FnCover", spec := "fnCover", apart := false }
def FnCoverSaid : Prop := fnCoverRow.holds Try.pinned (OpenSpec.ofChange fnCoverSpec)

/-- ITS FALSE NEIGHBOUR: 'it returns false'. Refute it at one input. -/
def fnCoverWrong : ChangeSpec := { name := "fnCover", fn := fun _ => fun
  | [d] => { results := [.lit (.bool false)], args := [d] }
  | _ => none }
def FnCoverWrongFalsely : Prop := fnCoverRow.holds Try.pinned (OpenSpec.ofChange fnCoverWrong)

/- THE SECOND FORM. 'bulk': how many values and letters a reading holds, each counted each time it is reached (what is shared counts as often as it is met; a slice's spare places count too). A statement '..UptoSaid' is the law's where the arguments, and the package variables that the reading takes, are together of bulk at most 1048576: NARROWER than '..Said'. Prove '..Said' where nothing that the law and all that it calls make is longer than what came in: it says more and counts as full. Else prove '..UptoSaid'. A law counts once. -/
mutual
def uptoBulk {H : Type} : DataW H → Nat
  | .lit (.string bytes) => bytes.length + 1
  | .lit _ => 1
  | .nil => 1
  | .ptr d => uptoBulk d + 1
  | .slice elems spare => uptoBulkAll elems + uptoBulkAll spare + 1
  | .agg parts => uptoBulkAll parts + 1
  | .iface _ d => uptoBulk d + 1
  | .map entries => uptoBulkEntries entries + 1
  | .held _ => 1
def uptoBulkAll {H : Type} : List (DataW H) → Nat
  | [] => 0
  | d :: r => uptoBulk d + uptoBulkAll r
def uptoBulkEntries {H : Type} : List (Lit × DataW H) → Nat
  | [] => 0
  | x :: r => uptoBulkEntry x + uptoBulkEntries r
def uptoBulkEntry {H : Type} : Lit × DataW H → Nat
  | (.string bytes, d) => bytes.length + uptoBulk d + 1
  | (_, d) => uptoBulk d + 1
 end
def uptoSmall : (H : Type) → List (DataW H) → Bool := fun _ ds => decide (uptoBulkAll ds ≤ 1048576)
def OpenSpec.upto (s : _root_.Go.ChangeSpec) : _root_.Go.OpenSpec := { _root_.Go.OpenSpec.ofChange s with cond := some uptoSmall }

/-- 'laws.FnExactHeading', WHERE WHAT IT READS IS OF BULK AT MOST 1048576: true; the input reads as it did. -/
def fnExactHeadingUptoRow : OpenClaim := { program := "ytcpgphmaibajlaa", sum := "95758f7e466dca90b6317ce57eba801c4c08fbcf920c5a3843f85bb3e0a5f6a7", func := "loop.example/g00024/laws.FnExactHeading", spec := "fnExactHeading", apart := false, narrowed := true }
def FnExactHeadingUptoSaid : Prop := fnExactHeadingUptoRow.holds Try.pinned (OpenSpec.upto fnExactHeadingSpec)

/-- 'laws.FnExactTagOf', WHERE WHAT IT READS IS OF BULK AT MOST 1048576: true; the input reads as it did. -/
def fnExactTagOfUptoRow : OpenClaim := { program := "ytcpgphmaibajlaa", sum := "95758f7e466dca90b6317ce57eba801c4c08fbcf920c5a3843f85bb3e0a5f6a7", func := "loop.example/g00024/laws.FnExactTagOf", spec := "fnExactTagOf", apart := false, narrowed := true }
def FnExactTagOfUptoSaid : Prop := fnExactTagOfUptoRow.holds Try.pinned (OpenSpec.upto fnExactTagOfSpec)

/-- 'laws.FnExactDistance', WHERE WHAT IT READS IS OF BULK AT MOST 1048576: true; the input reads as it did. -/
def fnExactDistanceUptoRow : OpenClaim := { program := "ytcpgphmaibajlaa", sum := "95758f7e466dca90b6317ce57eba801c4c08fbcf920c5a3843f85bb3e0a5f6a7", func := "loop.example/g00024/laws.FnExactDistance", spec := "fnExactDistance", apart := false, narrowed := true }
def FnExactDistanceUptoSaid : Prop := fnExactDistanceUptoRow.holds Try.pinned (OpenSpec.upto fnExactDistanceSpec)

/-- 'laws.FnEdits', WHERE WHAT IT READS IS OF BULK AT MOST 1048576: true; the input reads as it did. -/
def fnEditsUptoRow : OpenClaim := { program := "ytcpgphmaibajlaa", sum := "95758f7e466dca90b6317ce57eba801c4c08fbcf920c5a3843f85bb3e0a5f6a7", func := "loop.example/g00024/laws.FnEdits", spec := "fnEdits", apart := false, narrowed := true }
def FnEditsUptoSaid : Prop := fnEditsUptoRow.holds Try.pinned (OpenSpec.upto fnEditsSpec)

/-- 'laws.FnExactAreaTwice', WHERE WHAT IT READS IS OF BULK AT MOST 1048576: true; the input reads as it did. -/
def fnExactAreaTwiceUptoRow : OpenClaim := { program := "ytcpgphmaibajlaa", sum := "95758f7e466dca90b6317ce57eba801c4c08fbcf920c5a3843f85bb3e0a5f6a7", func := "loop.example/g00024/laws.FnExactAreaTwice", spec := "fnExactAreaTwice", apart := false, narrowed := true }
def FnExactAreaTwiceUptoSaid : Prop := fnExactAreaTwiceUptoRow.holds Try.pinned (OpenSpec.upto fnExactAreaTwiceSpec)

/-- 'laws.FnHeadings', WHERE WHAT IT READS IS OF BULK AT MOST 1048576: true; the input reads as it did. -/
def fnHeadingsUptoRow : OpenClaim := { program := "ytcpgphmaibajlaa", sum := "95758f7e466dca90b6317ce57eba801c4c08fbcf920c5a3843f85bb3e0a5f6a7", func := "loop.example/g00024/laws.FnHeadings", spec := "fnHeadings", apart := false, narrowed := true }
def FnHeadingsUptoSaid : Prop := fnHeadingsUptoRow.holds Try.pinned (OpenSpec.upto fnHeadingsSpec)

/-- 'laws.FnTurns', WHERE WHAT IT READS IS OF BULK AT MOST 1048576: true; the input reads as it did. -/
def fnTurnsUptoRow : OpenClaim := { program := "ytcpgphmaibajlaa", sum := "95758f7e466dca90b6317ce57eba801c4c08fbcf920c5a3843f85bb3e0a5f6a7", func := "loop.example/g00024/laws.FnTurns", spec := "fnTurns", apart := false, narrowed := true }
def FnTurnsUptoSaid : Prop := fnTurnsUptoRow.holds Try.pinned (OpenSpec.upto fnTurnsSpec)

/-- 'laws.FnExactBounds', WHERE WHAT IT READS IS OF BULK AT MOST 1048576: true; the input reads as it did. -/
def fnExactBoundsUptoRow : OpenClaim := { program := "ytcpgphmaibajlaa", sum := "95758f7e466dca90b6317ce57eba801c4c08fbcf920c5a3843f85bb3e0a5f6a7", func := "loop.example/g00024/laws.FnExactBounds", spec := "fnExactBounds", apart := false, narrowed := true }
def FnExactBoundsUptoSaid : Prop := fnExactBoundsUptoRow.holds Try.pinned (OpenSpec.upto fnExactBoundsSpec)

/-- 'laws.FnExactTagsOk', WHERE WHAT IT READS IS OF BULK AT MOST 1048576: true; the input reads as it did. -/
def fnExactTagsOkUptoRow : OpenClaim := { program := "ytcpgphmaibajlaa", sum := "95758f7e466dca90b6317ce57eba801c4c08fbcf920c5a3843f85bb3e0a5f6a7", func := "loop.example/g00024/laws.FnExactTagsOk", spec := "fnExactTagsOk", apart := false, narrowed := true }
def FnExactTagsOkUptoSaid : Prop := fnExactTagsOkUptoRow.holds Try.pinned (OpenSpec.upto fnExactTagsOkSpec)

/-- 'laws.FnExactWordsOf', WHERE WHAT IT READS IS OF BULK AT MOST 1048576: true; the input reads as it did. -/
def fnExactWordsOfUptoRow : OpenClaim := { program := "ytcpgphmaibajlaa", sum := "95758f7e466dca90b6317ce57eba801c4c08fbcf920c5a3843f85bb3e0a5f6a7", func := "loop.example/g00024/laws.FnExactWordsOf", spec := "fnExactWordsOf", unfollowed := true, recurses := true, apart := false, narrowed := true }
def FnExactWordsOfUptoSaid : Prop := fnExactWordsOfUptoRow.holds Try.pinned (OpenSpec.upto fnExactWordsOfSpec)

/-- 'laws.FnRootBounds', WHERE WHAT IT READS IS OF BULK AT MOST 1048576: true; the input reads as it did. -/
def fnRootBoundsUptoRow : OpenClaim := { program := "ytcpgphmaibajlaa", sum := "95758f7e466dca90b6317ce57eba801c4c08fbcf920c5a3843f85bb3e0a5f6a7", func := "loop.example/g00024/laws.FnRootBounds", spec := "fnRootBounds", apart := false, narrowed := true }
def FnRootBoundsUptoSaid : Prop := fnRootBoundsUptoRow.holds Try.pinned (OpenSpec.upto fnRootBoundsSpec)

/-- 'laws.FnCover', WHERE WHAT IT READS IS OF BULK AT MOST 1048576: true; the input reads as it did. -/
def fnCoverUptoRow : OpenClaim := { program := "ytcpgphmaibajlaa", sum := "95758f7e466dca90b6317ce57eba801c4c08fbcf920c5a3843f85bb3e0a5f6a7", func := "loop.example/g00024/laws.FnCover", spec := "fnCover", apart := false, narrowed := true }
def FnCoverUptoSaid : Prop := fnCoverUptoRow.holds Try.pinned (OpenSpec.upto fnCoverSpec)

end Rows
end Go.Proofs.Ytcpgphmaibajlaa
