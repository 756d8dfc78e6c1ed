/-
  No cell of these rows narrows 'for every input' (looked for: loops, veiled, ifaces, maps, wideKeys, modest, calm, conditions, laid).
  DERIVED. THE GIVEN ROWS OF THIS SEAT. 11 by the template 'for every input the law returns true; each argument reads behind the call as it read before'; 0 by the template 'total and deterministic' (their statements: YtmmlpehfieojdaaTotals.lean).
  GIVEN WITH THE SEED: the statements are not yours to turn. If you find one false, say at which input.
  Laid BY PROGRAM, IN A SANDBOX (cutbox-rows.mjs): the forced cells as the released guide's own fill.sh prints them over the translation 135cd374d3f9bee7… (all of the seat's roots in one cut). By AI agents, Wed Nov 11 2026. No macro, syntax, notation, axiom, sorry.
-/
import Derived.Test.YtmmlpehfieojdaaChecked
import GoSem.Claim
import GoSem.ClaimJoined
import GoSem.ClaimMapViews
import Derived.JoinedTies
import Derived.KernelRfl
namespace Go.Proofs.Ytmmlpehfieojdaa
/- THE CELL 'sum', in the pinned program and in every row, IS THE sha256 OF THE DUMP (.gsa) THAT YtmmlpehfieojdaaProg.lean LOADS. Nothing in Lean hashes anything: it is a label: what it is worth is what the hold of that sum in a sandbox is worth. -/
noncomputable def Try.pinned : Pinned := { name := "ytmmlpehfieojdaa", sum := "135cd374d3f9bee732bcd8b4f1c1eee81ea486f4c62898af8fb5033bfc599679", checked := Try.checked }
namespace Rows
def none {H : Type} : Left H := { results := [], args := [] }

/-- 'laws.FnEarliest': WHATEVER THE INPUT: true; the input reads as it did. -/
def fnEarliestSpec : ChangeSpec := { name := "fnEarliest", fn := fun _ => fun
  | [d] => { results := [.lit (.bool true)], args := [d] }
  | _ => none }
def fnEarliestRow : OpenClaim := { program := "ytmmlpehfieojdaa", sum := "135cd374d3f9bee732bcd8b4f1c1eee81ea486f4c62898af8fb5033bfc599679", func := "loop.example/g00024/laws.FnEarliest", spec := "fnEarliest", unfollowed := true, recurses := true, apart := false }
def FnEarliestSaid : Prop := fnEarliestRow.holds Try.pinned (OpenSpec.ofChange fnEarliestSpec)

/-- ITS FALSE NEIGHBOUR: 'it returns false'. Refute it at one input. -/
def fnEarliestWrong : ChangeSpec := { name := "fnEarliest", fn := fun _ => fun
  | [d] => { results := [.lit (.bool false)], args := [d] }
  | _ => none }
def FnEarliestWrongFalsely : Prop := fnEarliestRow.holds Try.pinned (OpenSpec.ofChange fnEarliestWrong)

/-- 'laws.FnJourneys': WHATEVER THE INPUT: true; the input reads as it did. -/
def fnJourneysSpec : ChangeSpec := { name := "fnJourneys", fn := fun _ => fun
  | [d] => { results := [.lit (.bool true)], args := [d] }
  | _ => none }
def fnJourneysRow : OpenClaim := { program := "ytmmlpehfieojdaa", sum := "135cd374d3f9bee732bcd8b4f1c1eee81ea486f4c62898af8fb5033bfc599679", func := "loop.example/g00024/laws.FnJourneys", spec := "fnJourneys", unfollowed := true, recurses := true, apart := false }
def FnJourneysSaid : Prop := fnJourneysRow.holds Try.pinned (OpenSpec.ofChange fnJourneysSpec)

/-- ITS FALSE NEIGHBOUR: 'it returns false'. Refute it at one input. -/
def fnJourneysWrong : ChangeSpec := { name := "fnJourneys", fn := fun _ => fun
  | [d] => { results := [.lit (.bool false)], args := [d] }
  | _ => none }
def FnJourneysWrongFalsely : Prop := fnJourneysRow.holds Try.pinned (OpenSpec.ofChange fnJourneysWrong)

/-- 'laws.FnExactNearest': WHATEVER THE INPUT: true; the input reads as it did. -/
def fnExactNearestSpec : ChangeSpec := { name := "fnExactNearest", fn := fun _ => fun
  | [d1, d2, d3] => { results := [.lit (.bool true)], args := [d1, d2, d3] }
  | _ => none }
def fnExactNearestRow : OpenClaim := { program := "ytmmlpehfieojdaa", sum := "135cd374d3f9bee732bcd8b4f1c1eee81ea486f4c62898af8fb5033bfc599679", func := "loop.example/g00024/laws.FnExactNearest", spec := "fnExactNearest", inPlace := ["internal/reflectlite.ValueOf", "internal/reflectlite.Swapper", "(internal/reflectlite.Value).Len"], unfollowed := true, recurses := true, apart := false }
def FnExactNearestSaid : Prop := fnExactNearestRow.holds Try.pinned (OpenSpec.ofChange fnExactNearestSpec)

/-- ITS FALSE NEIGHBOUR: 'it returns false'. Refute it at one input. -/
def fnExactNearestWrong : ChangeSpec := { name := "fnExactNearest", fn := fun _ => fun
  | [d1, d2, d3] => { results := [.lit (.bool false)], args := [d1, d2, d3] }
  | _ => none }
def FnExactNearestWrongFalsely : Prop := fnExactNearestRow.holds Try.pinned (OpenSpec.ofChange fnExactNearestWrong)

/-- 'laws.FnExactSortSpace': WHATEVER THE INPUT: true; the input reads as it did. -/
def fnExactSortSpaceSpec : ChangeSpec := { name := "fnExactSortSpace", fn := fun _ => fun
  | [d] => { results := [.lit (.bool true)], args := [d] }
  | _ => none }
def fnExactSortSpaceRow : OpenClaim := { program := "ytmmlpehfieojdaa", sum := "135cd374d3f9bee732bcd8b4f1c1eee81ea486f4c62898af8fb5033bfc599679", func := "loop.example/g00024/laws.FnExactSortSpace", spec := "fnExactSortSpace", inPlace := ["internal/reflectlite.ValueOf", "internal/reflectlite.Swapper", "(internal/reflectlite.Value).Len"], unfollowed := true, recurses := true, apart := false }
def FnExactSortSpaceSaid : Prop := fnExactSortSpaceRow.holds Try.pinned (OpenSpec.ofChange fnExactSortSpaceSpec)

/-- ITS FALSE NEIGHBOUR: 'it returns false'. Refute it at one input. -/
def fnExactSortSpaceWrong : ChangeSpec := { name := "fnExactSortSpace", fn := fun _ => fun
  | [d] => { results := [.lit (.bool false)], args := [d] }
  | _ => none }
def FnExactSortSpaceWrongFalsely : Prop := fnExactSortSpaceRow.holds Try.pinned (OpenSpec.ofChange fnExactSortSpaceWrong)

/-- 'laws.FnExactInBox': WHATEVER THE INPUT: true; the input reads as it did. -/
def fnExactInBoxSpec : ChangeSpec := { name := "fnExactInBox", fn := fun _ => fun
  | [d1, d2] => { results := [.lit (.bool true)], args := [d1, d2] }
  | _ => none }
def fnExactInBoxRow : OpenClaim := { program := "ytmmlpehfieojdaa", sum := "135cd374d3f9bee732bcd8b4f1c1eee81ea486f4c62898af8fb5033bfc599679", func := "loop.example/g00024/laws.FnExactInBox", spec := "fnExactInBox", inPlace := ["internal/reflectlite.ValueOf", "internal/reflectlite.Swapper", "(internal/reflectlite.Value).Len"], unfollowed := true, recurses := true, apart := false }
def FnExactInBoxSaid : Prop := fnExactInBoxRow.holds Try.pinned (OpenSpec.ofChange fnExactInBoxSpec)

/-- ITS FALSE NEIGHBOUR: 'it returns false'. Refute it at one input. -/
def fnExactInBoxWrong : ChangeSpec := { name := "fnExactInBox", fn := fun _ => fun
  | [d1, d2] => { results := [.lit (.bool false)], args := [d1, d2] }
  | _ => none }
def FnExactInBoxWrongFalsely : Prop := fnExactInBoxRow.holds Try.pinned (OpenSpec.ofChange fnExactInBoxWrong)

/-- 'laws.FnProfile': WHATEVER THE INPUT: true; the input reads as it did. -/
def fnProfileSpec : ChangeSpec := { name := "fnProfile", fn := fun _ => fun
  | [d] => { results := [.lit (.bool true)], args := [d] }
  | _ => none }
def fnProfileRow : OpenClaim := { program := "ytmmlpehfieojdaa", sum := "135cd374d3f9bee732bcd8b4f1c1eee81ea486f4c62898af8fb5033bfc599679", func := "loop.example/g00024/laws.FnProfile", spec := "fnProfile", unfollowed := true, recurses := true, apart := false }
def FnProfileSaid : Prop := fnProfileRow.holds Try.pinned (OpenSpec.ofChange fnProfileSpec)

/-- ITS FALSE NEIGHBOUR: 'it returns false'. Refute it at one input. -/
def fnProfileWrong : ChangeSpec := { name := "fnProfile", fn := fun _ => fun
  | [d] => { results := [.lit (.bool false)], args := [d] }
  | _ => none }
def FnProfileWrongFalsely : Prop := fnProfileRow.holds Try.pinned (OpenSpec.ofChange fnProfileWrong)

/-- 'laws.FnInBox': WHATEVER THE INPUT: true; the input reads as it did. -/
def fnInBoxSpec : ChangeSpec := { name := "fnInBox", fn := fun _ => fun
  | [d] => { results := [.lit (.bool true)], args := [d] }
  | _ => none }
def fnInBoxRow : OpenClaim := { program := "ytmmlpehfieojdaa", sum := "135cd374d3f9bee732bcd8b4f1c1eee81ea486f4c62898af8fb5033bfc599679", func := "loop.example/g00024/laws.FnInBox", spec := "fnInBox", inPlace := ["internal/reflectlite.ValueOf", "internal/reflectlite.Swapper", "(internal/reflectlite.Value).Len"], unfollowed := true, recurses := true, apart := false }
def FnInBoxSaid : Prop := fnInBoxRow.holds Try.pinned (OpenSpec.ofChange fnInBoxSpec)

/-- ITS FALSE NEIGHBOUR: 'it returns false'. Refute it at one input. -/
def fnInBoxWrong : ChangeSpec := { name := "fnInBox", fn := fun _ => fun
  | [d] => { results := [.lit (.bool false)], args := [d] }
  | _ => none }
def FnInBoxWrongFalsely : Prop := fnInBoxRow.holds Try.pinned (OpenSpec.ofChange fnInBoxWrong)

/-- 'laws.FnExactLate': WHATEVER THE INPUT: true; the input reads as it did. -/
def fnExactLateSpec : ChangeSpec := { name := "fnExactLate", fn := fun _ => fun
  | [d1, d2, d3, d4] => { results := [.lit (.bool true)], args := [d1, d2, d3, d4] }
  | _ => none }
def fnExactLateRow : OpenClaim := { program := "ytmmlpehfieojdaa", sum := "135cd374d3f9bee732bcd8b4f1c1eee81ea486f4c62898af8fb5033bfc599679", func := "loop.example/g00024/laws.FnExactLate", spec := "fnExactLate", apart := false }
def FnExactLateSaid : Prop := fnExactLateRow.holds Try.pinned (OpenSpec.ofChange fnExactLateSpec)

/-- ITS FALSE NEIGHBOUR: 'it returns false'. Refute it at one input. -/
def fnExactLateWrong : ChangeSpec := { name := "fnExactLate", fn := fun _ => fun
  | [d1, d2, d3, d4] => { results := [.lit (.bool false)], args := [d1, d2, d3, d4] }
  | _ => none }
def FnExactLateWrongFalsely : Prop := fnExactLateRow.holds Try.pinned (OpenSpec.ofChange fnExactLateWrong)

/-- 'laws.FnExactEarliest': WHATEVER THE INPUT: true; the input reads as it did. -/
def fnExactEarliestSpec : ChangeSpec := { name := "fnExactEarliest", fn := fun _ => fun
  | [d1, d2, d3, d4] => { results := [.lit (.bool true)], args := [d1, d2, d3, d4] }
  | _ => none }
def fnExactEarliestRow : OpenClaim := { program := "ytmmlpehfieojdaa", sum := "135cd374d3f9bee732bcd8b4f1c1eee81ea486f4c62898af8fb5033bfc599679", func := "loop.example/g00024/laws.FnExactEarliest", spec := "fnExactEarliest", unfollowed := true, recurses := true, apart := false }
def FnExactEarliestSaid : Prop := fnExactEarliestRow.holds Try.pinned (OpenSpec.ofChange fnExactEarliestSpec)

/-- ITS FALSE NEIGHBOUR: 'it returns false'. Refute it at one input. -/
def fnExactEarliestWrong : ChangeSpec := { name := "fnExactEarliest", fn := fun _ => fun
  | [d1, d2, d3, d4] => { results := [.lit (.bool false)], args := [d1, d2, d3, d4] }
  | _ => none }
def FnExactEarliestWrongFalsely : Prop := fnExactEarliestRow.holds Try.pinned (OpenSpec.ofChange fnExactEarliestWrong)

/-- 'laws.FnExactJourneys': WHATEVER THE INPUT: true; the input reads as it did. -/
def fnExactJourneysSpec : ChangeSpec := { name := "fnExactJourneys", fn := fun _ => fun
  | [d1, d2, d3, d4, d5] => { results := [.lit (.bool true)], args := [d1, d2, d3, d4, d5] }
  | _ => none }
def fnExactJourneysRow : OpenClaim := { program := "ytmmlpehfieojdaa", sum := "135cd374d3f9bee732bcd8b4f1c1eee81ea486f4c62898af8fb5033bfc599679", func := "loop.example/g00024/laws.FnExactJourneys", spec := "fnExactJourneys", unfollowed := true, recurses := true, apart := false }
def FnExactJourneysSaid : Prop := fnExactJourneysRow.holds Try.pinned (OpenSpec.ofChange fnExactJourneysSpec)

/-- ITS FALSE NEIGHBOUR: 'it returns false'. Refute it at one input. -/
def fnExactJourneysWrong : ChangeSpec := { name := "fnExactJourneys", fn := fun _ => fun
  | [d1, d2, d3, d4, d5] => { results := [.lit (.bool false)], args := [d1, d2, d3, d4, d5] }
  | _ => none }
def FnExactJourneysWrongFalsely : Prop := fnExactJourneysRow.holds Try.pinned (OpenSpec.ofChange fnExactJourneysWrong)

/-- 'laws.FnExactWordsOf': WHATEVER THE INPUT: true; the input reads as it did. -/
def fnExactWordsOfSpec : ChangeSpec := { name := "fnExactWordsOf", fn := fun _ => fun
  | [d] => { results := [.lit (.bool true)], args := [d] }
  | _ => none }
def fnExactWordsOfRow : OpenClaim := { program := "ytmmlpehfieojdaa", sum := "135cd374d3f9bee732bcd8b4f1c1eee81ea486f4c62898af8fb5033bfc599679", func := "loop.example/g00024/laws.FnExactWordsOf", spec := "fnExactWordsOf", unfollowed := true, recurses := true, apart := false }
def FnExactWordsOfSaid : Prop := fnExactWordsOfRow.holds Try.pinned (OpenSpec.ofChange fnExactWordsOfSpec)

/-- ITS FALSE NEIGHBOUR: 'it returns false'. Refute it at one input. -/
def fnExactWordsOfWrong : ChangeSpec := { name := "fnExactWordsOf", fn := fun _ => fun
  | [d] => { results := [.lit (.bool false)], args := [d] }
  | _ => none }
def FnExactWordsOfWrongFalsely : Prop := fnExactWordsOfRow.holds Try.pinned (OpenSpec.ofChange fnExactWordsOfWrong)

/- THE SECOND FORM. 'bulk': how many values and letters a reading holds, each counted each time it is reached (what is shared counts as often as it is met; a slice's spare places count too). A statement '..UptoSaid' is the law's where the arguments, and the package variables that the reading takes, are together of bulk at most 1048576: NARROWER than '..Said'. Prove '..Said' where nothing that the law and all that it calls make is longer than what came in: it says more and counts as full. Else prove '..UptoSaid'. A law counts once. -/
mutual
def uptoBulk {H : Type} : DataW H → Nat
  | .lit (.string bytes) => bytes.length + 1
  | .lit _ => 1
  | .nil => 1
  | .ptr d => uptoBulk d + 1
  | .slice elems spare => uptoBulkAll elems + uptoBulkAll spare + 1
  | .agg parts => uptoBulkAll parts + 1
  | .iface _ d => uptoBulk d + 1
  | .map entries => uptoBulkEntries entries + 1
  | .held _ => 1
def uptoBulkAll {H : Type} : List (DataW H) → Nat
  | [] => 0
  | d :: r => uptoBulk d + uptoBulkAll r
def uptoBulkEntries {H : Type} : List (Lit × DataW H) → Nat
  | [] => 0
  | x :: r => uptoBulkEntry x + uptoBulkEntries r
def uptoBulkEntry {H : Type} : Lit × DataW H → Nat
  | (.string bytes, d) => bytes.length + uptoBulk d + 1
  | (_, d) => uptoBulk d + 1
 end
def uptoSmall : (H : Type) → List (DataW H) → Bool := fun _ ds => decide (uptoBulkAll ds ≤ 1048576)
def OpenSpec.upto (s : _root_.Go.ChangeSpec) : _root_.Go.OpenSpec := { _root_.Go.OpenSpec.ofChange s with cond := some uptoSmall }

/-- 'laws.FnEarliest', WHERE WHAT IT READS IS OF BULK AT MOST 1048576: true; the input reads as it did. -/
def fnEarliestUptoRow : OpenClaim := { program := "ytmmlpehfieojdaa", sum := "135cd374d3f9bee732bcd8b4f1c1eee81ea486f4c62898af8fb5033bfc599679", func := "loop.example/g00024/laws.FnEarliest", spec := "fnEarliest", unfollowed := true, recurses := true, apart := false, narrowed := true }
def FnEarliestUptoSaid : Prop := fnEarliestUptoRow.holds Try.pinned (OpenSpec.upto fnEarliestSpec)

/-- 'laws.FnJourneys', WHERE WHAT IT READS IS OF BULK AT MOST 1048576: true; the input reads as it did. -/
def fnJourneysUptoRow : OpenClaim := { program := "ytmmlpehfieojdaa", sum := "135cd374d3f9bee732bcd8b4f1c1eee81ea486f4c62898af8fb5033bfc599679", func := "loop.example/g00024/laws.FnJourneys", spec := "fnJourneys", unfollowed := true, recurses := true, apart := false, narrowed := true }
def FnJourneysUptoSaid : Prop := fnJourneysUptoRow.holds Try.pinned (OpenSpec.upto fnJourneysSpec)

/-- 'laws.FnExactNearest', WHERE WHAT IT READS IS OF BULK AT MOST 1048576: true; the input reads as it did. -/
def fnExactNearestUptoRow : OpenClaim := { program := "ytmmlpehfieojdaa", sum := "135cd374d3f9bee732bcd8b4f1c1eee81ea486f4c62898af8fb5033bfc599679", func := "loop.example/g00024/laws.FnExactNearest", spec := "fnExactNearest", inPlace := ["internal/reflectlite.ValueOf", "internal/reflectlite.Swapper", "(internal/reflectlite.Value).Len"], unfollowed := true, recurses := true, apart := false, narrowed := true }
def FnExactNearestUptoSaid : Prop := fnExactNearestUptoRow.holds Try.pinned (OpenSpec.upto fnExactNearestSpec)

/-- 'laws.FnExactSortSpace', WHERE WHAT IT READS IS OF BULK AT MOST 1048576: true; the input reads as it did. -/
def fnExactSortSpaceUptoRow : OpenClaim := { program := "ytmmlpehfieojdaa", sum := "135cd374d3f9bee732bcd8b4f1c1eee81ea486f4c62898af8fb5033bfc599679", func := "loop.example/g00024/laws.FnExactSortSpace", spec := "fnExactSortSpace", inPlace := ["internal/reflectlite.ValueOf", "internal/reflectlite.Swapper", "(internal/reflectlite.Value).Len"], unfollowed := true, recurses := true, apart := false, narrowed := true }
def FnExactSortSpaceUptoSaid : Prop := fnExactSortSpaceUptoRow.holds Try.pinned (OpenSpec.upto fnExactSortSpaceSpec)

/-- 'laws.FnExactInBox', WHERE WHAT IT READS IS OF BULK AT MOST 1048576: true; the input reads as it did. -/
def fnExactInBoxUptoRow : OpenClaim := { program := "ytmmlpehfieojdaa", sum := "135cd374d3f9bee732bcd8b4f1c1eee81ea486f4c62898af8fb5033bfc599679", func := "loop.example/g00024/laws.FnExactInBox", spec := "fnExactInBox", inPlace := ["internal/reflectlite.ValueOf", "internal/reflectlite.Swapper", "(internal/reflectlite.Value).Len"], unfollowed := true, recurses := true, apart := false, narrowed := true }
def FnExactInBoxUptoSaid : Prop := fnExactInBoxUptoRow.holds Try.pinned (OpenSpec.upto fnExactInBoxSpec)

/-- 'laws.FnProfile', WHERE WHAT IT READS IS OF BULK AT MOST 1048576: true; the input reads as it did. -/
def fnProfileUptoRow : OpenClaim := { program := "ytmmlpehfieojdaa", sum := "135cd374d3f9bee732bcd8b4f1c1eee81ea486f4c62898af8fb5033bfc599679", func := "loop.example/g00024/laws.FnProfile", spec := "fnProfile", unfollowed := true, recurses := true, apart := false, narrowed := true }
def FnProfileUptoSaid : Prop := fnProfileUptoRow.holds Try.pinned (OpenSpec.upto fnProfileSpec)

/-- 'laws.FnInBox', WHERE WHAT IT READS IS OF BULK AT MOST 1048576: true; the input reads as it did. -/
def fnInBoxUptoRow : OpenClaim := { program := "ytmmlpehfieojdaa", sum := "135cd374d3f9bee732bcd8b4f1c1eee81ea486f4c62898af8fb5033bfc599679", func := "loop.example/g00024/laws.FnInBox", spec := "fnInBox", inPlace := ["internal/reflectlite.ValueOf", "internal/reflectlite.Swapper", "(internal/reflectlite.Value).Len"], unfollowed := true, recurses := true, apart := false, narrowed := true }
def FnInBoxUptoSaid : Prop := fnInBoxUptoRow.holds Try.pinned (OpenSpec.upto fnInBoxSpec)

/-- 'laws.FnExactLate', WHERE WHAT IT READS IS OF BULK AT MOST 1048576: true; the input reads as it did. -/
def fnExactLateUptoRow : OpenClaim := { program := "ytmmlpehfieojdaa", sum := "135cd374d3f9bee732bcd8b4f1c1eee81ea486f4c62898af8fb5033bfc599679", func := "loop.example/g00024/laws.FnExactLate", spec := "fnExactLate", apart := false, narrowed := true }
def FnExactLateUptoSaid : Prop := fnExactLateUptoRow.holds Try.pinned (OpenSpec.upto fnExactLateSpec)

/-- 'laws.FnExactEarliest', WHERE WHAT IT READS IS OF BULK AT MOST 1048576: true; the input reads as it did. -/
def fnExactEarliestUptoRow : OpenClaim := { program := "ytmmlpehfieojdaa", sum := "135cd374d3f9bee732bcd8b4f1c1eee81ea486f4c62898af8fb5033bfc599679", func := "loop.example/g00024/laws.FnExactEarliest", spec := "fnExactEarliest", unfollowed := true, recurses := true, apart := false, narrowed := true }
def FnExactEarliestUptoSaid : Prop := fnExactEarliestUptoRow.holds Try.pinned (OpenSpec.upto fnExactEarliestSpec)

/-- 'laws.FnExactJourneys', WHERE WHAT IT READS IS OF BULK AT MOST 1048576: true; the input reads as it did. -/
def fnExactJourneysUptoRow : OpenClaim := { program := "ytmmlpehfieojdaa", sum := "135cd374d3f9bee732bcd8b4f1c1eee81ea486f4c62898af8fb5033bfc599679", func := "loop.example/g00024/laws.FnExactJourneys", spec := "fnExactJourneys", unfollowed := true, recurses := true, apart := false, narrowed := true }
def FnExactJourneysUptoSaid : Prop := fnExactJourneysUptoRow.holds Try.pinned (OpenSpec.upto fnExactJourneysSpec)

/-- 'laws.FnExactWordsOf', WHERE WHAT IT READS IS OF BULK AT MOST 1048576: true; the input reads as it did. -/
def fnExactWordsOfUptoRow : OpenClaim := { program := "ytmmlpehfieojdaa", sum := "135cd374d3f9bee732bcd8b4f1c1eee81ea486f4c62898af8fb5033bfc599679", func := "loop.example/g00024/laws.FnExactWordsOf", spec := "fnExactWordsOf", unfollowed := true, recurses := true, apart := false, narrowed := true }
def FnExactWordsOfUptoSaid : Prop := fnExactWordsOfUptoRow.holds Try.pinned (OpenSpec.upto fnExactWordsOfSpec)

end Rows
end Go.Proofs.Ytmmlpehfieojdaa
