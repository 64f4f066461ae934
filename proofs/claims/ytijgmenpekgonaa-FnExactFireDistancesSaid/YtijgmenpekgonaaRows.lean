/-
  No cell of these rows narrows 'for every input' (looked for: loops, veiled, ifaces, maps, wideKeys, modest, calm, conditions, laid).
  DERIVED. THE GIVEN ROWS OF THIS SEAT. 11 by the template 'for every input the law returns true; each argument reads behind the call as it read before'; 0 by the template 'total and deterministic' (their statements: YtijgmenpekgonaaTotals.lean).
  GIVEN WITH THE SEED: the statements are not yours to turn. If you find one false, say at which input.
  Laid BY PROGRAM, IN A SANDBOX (cutbox-rows.mjs): the forced cells as the released guide's own fill.sh prints them over the translation 67b4d9d7162203eb… (all of the seat's roots in one cut). By AI agents, Wed Nov 11 2026. No macro, syntax, notation, axiom, sorry.
-/
import Derived.Test.YtijgmenpekgonaaChecked
import GoSem.Claim
import GoSem.ClaimJoined
import GoSem.ClaimMapViews
import Derived.JoinedTies
import Derived.KernelRfl
namespace Go.Proofs.Ytijgmenpekgonaa
/- THE CELL 'sum', in the pinned program and in every row, IS THE sha256 OF THE DUMP (.gsa) THAT YtijgmenpekgonaaProg.lean LOADS. Nothing in Lean hashes anything: it is a label: what it is worth is what the hold of that sum in a sandbox is worth. -/
noncomputable def Try.pinned : Pinned := { name := "ytijgmenpekgonaa", sum := "67b4d9d7162203eb69e2e4efa5ac3dc07f574b0bd8bccbf8a09e360d0a6c4dfe", checked := Try.checked }
namespace Rows
def none {H : Type} : Left H := { results := [], args := [] }

/-- 'laws.FnExactNewConsole': WHATEVER THE INPUT: true; the input reads as it did. -/
def fnExactNewConsoleSpec : ChangeSpec := { name := "fnExactNewConsole", fn := fun _ => fun
  | [] => { results := [.lit (.bool true)], args := [] }
  | _ => none }
def fnExactNewConsoleRow : OpenClaim := { program := "ytijgmenpekgonaa", sum := "67b4d9d7162203eb69e2e4efa5ac3dc07f574b0bd8bccbf8a09e360d0a6c4dfe", func := "loop.example/g03200/laws.FnExactNewConsole", spec := "fnExactNewConsole", unfollowed := true, recurses := true, plainKeys := false, apart := false }
def FnExactNewConsoleSaid : Prop := fnExactNewConsoleRow.holds Try.pinned (OpenSpec.ofChange fnExactNewConsoleSpec)

/-- ITS FALSE NEIGHBOUR: 'it returns false'. Refute it at one input. -/
def fnExactNewConsoleWrong : ChangeSpec := { name := "fnExactNewConsole", fn := fun _ => fun
  | [] => { results := [.lit (.bool false)], args := [] }
  | _ => none }
def FnExactNewConsoleWrongFalsely : Prop := fnExactNewConsoleRow.holds Try.pinned (OpenSpec.ofChange fnExactNewConsoleWrong)

/-- 'laws.FnExactFireOk': WHATEVER THE INPUT: true; the input reads as it did. -/
def fnExactFireOkSpec : ChangeSpec := { name := "fnExactFireOk", fn := fun _ => fun
  | [d1, d2, d3] => { results := [.lit (.bool true)], args := [d1, d2, d3] }
  | _ => none }
def fnExactFireOkRow : OpenClaim := { program := "ytijgmenpekgonaa", sum := "67b4d9d7162203eb69e2e4efa5ac3dc07f574b0bd8bccbf8a09e360d0a6c4dfe", func := "loop.example/g03200/laws.FnExactFireOk", spec := "fnExactFireOk", unfollowed := true, recurses := true, plainKeys := false, apart := false }
def FnExactFireOkSaid : Prop := fnExactFireOkRow.holds Try.pinned (OpenSpec.ofChange fnExactFireOkSpec)

/-- ITS FALSE NEIGHBOUR: 'it returns false'. Refute it at one input. -/
def fnExactFireOkWrong : ChangeSpec := { name := "fnExactFireOk", fn := fun _ => fun
  | [d1, d2, d3] => { results := [.lit (.bool false)], args := [d1, d2, d3] }
  | _ => none }
def FnExactFireOkWrongFalsely : Prop := fnExactFireOkRow.holds Try.pinned (OpenSpec.ofChange fnExactFireOkWrong)

/-- 'laws.FnExactBurnedAfter': WHATEVER THE INPUT: true; the input reads as it did. -/
def fnExactBurnedAfterSpec : ChangeSpec := { name := "fnExactBurnedAfter", fn := fun _ => fun
  | [d1, d2, d3] => { results := [.lit (.bool true)], args := [d1, d2, d3] }
  | _ => none }
def fnExactBurnedAfterRow : OpenClaim := { program := "ytijgmenpekgonaa", sum := "67b4d9d7162203eb69e2e4efa5ac3dc07f574b0bd8bccbf8a09e360d0a6c4dfe", func := "loop.example/g03200/laws.FnExactBurnedAfter", spec := "fnExactBurnedAfter", unfollowed := true, recurses := true, plainKeys := false, apart := false }
def FnExactBurnedAfterSaid : Prop := fnExactBurnedAfterRow.holds Try.pinned (OpenSpec.ofChange fnExactBurnedAfterSpec)

/-- ITS FALSE NEIGHBOUR: 'it returns false'. Refute it at one input. -/
def fnExactBurnedAfterWrong : ChangeSpec := { name := "fnExactBurnedAfter", fn := fun _ => fun
  | [d1, d2, d3] => { results := [.lit (.bool false)], args := [d1, d2, d3] }
  | _ => none }
def FnExactBurnedAfterWrongFalsely : Prop := fnExactBurnedAfterRow.holds Try.pinned (OpenSpec.ofChange fnExactBurnedAfterWrong)

/-- 'laws.FnExactRoundsOf': WHATEVER THE INPUT: true; the input reads as it did. -/
def fnExactRoundsOfSpec : ChangeSpec := { name := "fnExactRoundsOf", fn := fun _ => fun
  | [d1, d2, d3] => { results := [.lit (.bool true)], args := [d1, d2, d3] }
  | _ => none }
def fnExactRoundsOfRow : OpenClaim := { program := "ytijgmenpekgonaa", sum := "67b4d9d7162203eb69e2e4efa5ac3dc07f574b0bd8bccbf8a09e360d0a6c4dfe", func := "loop.example/g03200/laws.FnExactRoundsOf", spec := "fnExactRoundsOf", unfollowed := true, recurses := true, plainKeys := false, apart := false }
def FnExactRoundsOfSaid : Prop := fnExactRoundsOfRow.holds Try.pinned (OpenSpec.ofChange fnExactRoundsOfSpec)

/-- ITS FALSE NEIGHBOUR: 'it returns false'. Refute it at one input. -/
def fnExactRoundsOfWrong : ChangeSpec := { name := "fnExactRoundsOf", fn := fun _ => fun
  | [d1, d2, d3] => { results := [.lit (.bool false)], args := [d1, d2, d3] }
  | _ => none }
def FnExactRoundsOfWrongFalsely : Prop := fnExactRoundsOfRow.holds Try.pinned (OpenSpec.ofChange fnExactRoundsOfWrong)

/-- 'laws.FnTrees': WHATEVER THE INPUT: true; the input reads as it did. -/
def fnTreesSpec : ChangeSpec := { name := "fnTrees", fn := fun _ => fun
  | [d] => { results := [.lit (.bool true)], args := [d] }
  | _ => none }
def fnTreesRow : OpenClaim := { program := "ytijgmenpekgonaa", sum := "67b4d9d7162203eb69e2e4efa5ac3dc07f574b0bd8bccbf8a09e360d0a6c4dfe", func := "loop.example/g03200/laws.FnTrees", spec := "fnTrees", unfollowed := true, recurses := true, plainKeys := false, apart := false }
def FnTreesSaid : Prop := fnTreesRow.holds Try.pinned (OpenSpec.ofChange fnTreesSpec)

/-- ITS FALSE NEIGHBOUR: 'it returns false'. Refute it at one input. -/
def fnTreesWrong : ChangeSpec := { name := "fnTrees", fn := fun _ => fun
  | [d] => { results := [.lit (.bool false)], args := [d] }
  | _ => none }
def FnTreesWrongFalsely : Prop := fnTreesRow.holds Try.pinned (OpenSpec.ofChange fnTreesWrong)

/-- 'laws.FnExactIsDecomposition': WHATEVER THE INPUT: true; the input reads as it did. -/
def fnExactIsDecompositionSpec : ChangeSpec := { name := "fnExactIsDecomposition", fn := fun _ => fun
  | [d1, d2] => { results := [.lit (.bool true)], args := [d1, d2] }
  | _ => none }
def fnExactIsDecompositionRow : OpenClaim := { program := "ytijgmenpekgonaa", sum := "67b4d9d7162203eb69e2e4efa5ac3dc07f574b0bd8bccbf8a09e360d0a6c4dfe", func := "loop.example/g03200/laws.FnExactIsDecomposition", spec := "fnExactIsDecomposition", plainKeys := false, apart := false }
def FnExactIsDecompositionSaid : Prop := fnExactIsDecompositionRow.holds Try.pinned (OpenSpec.ofChange fnExactIsDecompositionSpec)

/-- ITS FALSE NEIGHBOUR: 'it returns false'. Refute it at one input. -/
def fnExactIsDecompositionWrong : ChangeSpec := { name := "fnExactIsDecomposition", fn := fun _ => fun
  | [d1, d2] => { results := [.lit (.bool false)], args := [d1, d2] }
  | _ => none }
def FnExactIsDecompositionWrongFalsely : Prop := fnExactIsDecompositionRow.holds Try.pinned (OpenSpec.ofChange fnExactIsDecompositionWrong)

/-- 'laws.FnExactEliminationBags': WHATEVER THE INPUT: true; the input reads as it did. -/
def fnExactEliminationBagsSpec : ChangeSpec := { name := "fnExactEliminationBags", fn := fun _ => fun
  | [d1, d2] => { results := [.lit (.bool true)], args := [d1, d2] }
  | _ => none }
def fnExactEliminationBagsRow : OpenClaim := { program := "ytijgmenpekgonaa", sum := "67b4d9d7162203eb69e2e4efa5ac3dc07f574b0bd8bccbf8a09e360d0a6c4dfe", func := "loop.example/g03200/laws.FnExactEliminationBags", spec := "fnExactEliminationBags", unfollowed := true, recurses := true, plainKeys := false, apart := false }
def FnExactEliminationBagsSaid : Prop := fnExactEliminationBagsRow.holds Try.pinned (OpenSpec.ofChange fnExactEliminationBagsSpec)

/-- ITS FALSE NEIGHBOUR: 'it returns false'. Refute it at one input. -/
def fnExactEliminationBagsWrong : ChangeSpec := { name := "fnExactEliminationBags", fn := fun _ => fun
  | [d1, d2] => { results := [.lit (.bool false)], args := [d1, d2] }
  | _ => none }
def FnExactEliminationBagsWrongFalsely : Prop := fnExactEliminationBagsRow.holds Try.pinned (OpenSpec.ofChange fnExactEliminationBagsWrong)

/-- 'laws.FnExactTreeWidth': WHATEVER THE INPUT: true; the input reads as it did. -/
def fnExactTreeWidthSpec : ChangeSpec := { name := "fnExactTreeWidth", fn := fun _ => fun
  | [d] => { results := [.lit (.bool true)], args := [d] }
  | _ => none }
def fnExactTreeWidthRow : OpenClaim := { program := "ytijgmenpekgonaa", sum := "67b4d9d7162203eb69e2e4efa5ac3dc07f574b0bd8bccbf8a09e360d0a6c4dfe", func := "loop.example/g03200/laws.FnExactTreeWidth", spec := "fnExactTreeWidth", unfollowed := true, recurses := true, plainKeys := false, apart := false }
def FnExactTreeWidthSaid : Prop := fnExactTreeWidthRow.holds Try.pinned (OpenSpec.ofChange fnExactTreeWidthSpec)

/-- ITS FALSE NEIGHBOUR: 'it returns false'. Refute it at one input. -/
def fnExactTreeWidthWrong : ChangeSpec := { name := "fnExactTreeWidth", fn := fun _ => fun
  | [d] => { results := [.lit (.bool false)], args := [d] }
  | _ => none }
def FnExactTreeWidthWrongFalsely : Prop := fnExactTreeWidthRow.holds Try.pinned (OpenSpec.ofChange fnExactTreeWidthWrong)

/-- 'laws.FnExactMostSaved': WHATEVER THE INPUT: true; the input reads as it did. -/
def fnExactMostSavedSpec : ChangeSpec := { name := "fnExactMostSaved", fn := fun _ => fun
  | [d1, d2] => { results := [.lit (.bool true)], args := [d1, d2] }
  | _ => none }
def fnExactMostSavedRow : OpenClaim := { program := "ytijgmenpekgonaa", sum := "67b4d9d7162203eb69e2e4efa5ac3dc07f574b0bd8bccbf8a09e360d0a6c4dfe", func := "loop.example/g03200/laws.FnExactMostSaved", spec := "fnExactMostSaved", unfollowed := true, recurses := true, plainKeys := false, apart := false }
def FnExactMostSavedSaid : Prop := fnExactMostSavedRow.holds Try.pinned (OpenSpec.ofChange fnExactMostSavedSpec)

/-- ITS FALSE NEIGHBOUR: 'it returns false'. Refute it at one input. -/
def fnExactMostSavedWrong : ChangeSpec := { name := "fnExactMostSaved", fn := fun _ => fun
  | [d1, d2] => { results := [.lit (.bool false)], args := [d1, d2] }
  | _ => none }
def FnExactMostSavedWrongFalsely : Prop := fnExactMostSavedRow.holds Try.pinned (OpenSpec.ofChange fnExactMostSavedWrong)

/-- 'laws.FnAnswers': WHATEVER THE INPUT: true; the input reads as it did. -/
def fnAnswersSpec : ChangeSpec := { name := "fnAnswers", fn := fun _ => fun
  | [d] => { results := [.lit (.bool true)], args := [d] }
  | _ => none }
def fnAnswersRow : OpenClaim := { program := "ytijgmenpekgonaa", sum := "67b4d9d7162203eb69e2e4efa5ac3dc07f574b0bd8bccbf8a09e360d0a6c4dfe", func := "loop.example/g03200/laws.FnAnswers", spec := "fnAnswers", unfollowed := true, recurses := true, plainKeys := false, apart := false }
def FnAnswersSaid : Prop := fnAnswersRow.holds Try.pinned (OpenSpec.ofChange fnAnswersSpec)

/-- ITS FALSE NEIGHBOUR: 'it returns false'. Refute it at one input. -/
def fnAnswersWrong : ChangeSpec := { name := "fnAnswers", fn := fun _ => fun
  | [d] => { results := [.lit (.bool false)], args := [d] }
  | _ => none }
def FnAnswersWrongFalsely : Prop := fnAnswersRow.holds Try.pinned (OpenSpec.ofChange fnAnswersWrong)

/-- 'laws.FnExactFireDistances': WHATEVER THE INPUT: true; the input reads as it did. -/
def fnExactFireDistancesSpec : ChangeSpec := { name := "fnExactFireDistances", fn := fun _ => fun
  | [d1, d2] => { results := [.lit (.bool true)], args := [d1, d2] }
  | _ => none }
def fnExactFireDistancesRow : OpenClaim := { program := "ytijgmenpekgonaa", sum := "67b4d9d7162203eb69e2e4efa5ac3dc07f574b0bd8bccbf8a09e360d0a6c4dfe", func := "loop.example/g03200/laws.FnExactFireDistances", spec := "fnExactFireDistances", unfollowed := true, recurses := true, plainKeys := false, apart := false }
def FnExactFireDistancesSaid : Prop := fnExactFireDistancesRow.holds Try.pinned (OpenSpec.ofChange fnExactFireDistancesSpec)

/-- ITS FALSE NEIGHBOUR: 'it returns false'. Refute it at one input. -/
def fnExactFireDistancesWrong : ChangeSpec := { name := "fnExactFireDistances", fn := fun _ => fun
  | [d1, d2] => { results := [.lit (.bool false)], args := [d1, d2] }
  | _ => none }
def FnExactFireDistancesWrongFalsely : Prop := fnExactFireDistancesRow.holds Try.pinned (OpenSpec.ofChange fnExactFireDistancesWrong)

/- THE SECOND FORM. 'bulk': how many values and letters a reading holds, each counted each time it is reached (what is shared counts as often as it is met; a slice's spare places count too). A statement '..UptoSaid' is the law's where the arguments, and the package variables that the reading takes, are together of bulk at most 1048576: NARROWER than '..Said'. Prove '..Said' where nothing that the law and all that it calls make is longer than what came in: it says more and counts as full. Else prove '..UptoSaid'. A law counts once. -/
mutual
def uptoBulk {H : Type} : DataW H → Nat
  | .lit (.string bytes) => bytes.length + 1
  | .lit _ => 1
  | .nil => 1
  | .ptr d => uptoBulk d + 1
  | .slice elems spare => uptoBulkAll elems + uptoBulkAll spare + 1
  | .agg parts => uptoBulkAll parts + 1
  | .iface _ d => uptoBulk d + 1
  | .map entries => uptoBulkEntries entries + 1
  | .held _ => 1
def uptoBulkAll {H : Type} : List (DataW H) → Nat
  | [] => 0
  | d :: r => uptoBulk d + uptoBulkAll r
def uptoBulkEntries {H : Type} : List (Lit × DataW H) → Nat
  | [] => 0
  | x :: r => uptoBulkEntry x + uptoBulkEntries r
def uptoBulkEntry {H : Type} : Lit × DataW H → Nat
  | (.string bytes, d) => bytes.length + uptoBulk d + 1
  | (_, d) => uptoBulk d + 1
 end
def uptoSmall : (H : Type) → List (DataW H) → Bool := fun _ ds => decide (uptoBulkAll ds ≤ 1048576)
def OpenSpec.upto (s : _root_.Go.ChangeSpec) : _root_.Go.OpenSpec := { _root_.Go.OpenSpec.ofChange s with cond := some uptoSmall }

/-- 'laws.FnExactNewConsole', WHERE WHAT IT READS IS OF BULK AT MOST 1048576: true; the input reads as it did. -/
def fnExactNewConsoleUptoRow : OpenClaim := { program := "ytijgmenpekgonaa", sum := "67b4d9d7162203eb69e2e4efa5ac3dc07f574b0bd8bccbf8a09e360d0a6c4dfe", func := "loop.example/g03200/laws.FnExactNewConsole", spec := "fnExactNewConsole", unfollowed := true, recurses := true, plainKeys := false, apart := false, narrowed := true }
def FnExactNewConsoleUptoSaid : Prop := fnExactNewConsoleUptoRow.holds Try.pinned (OpenSpec.upto fnExactNewConsoleSpec)

/-- 'laws.FnExactFireOk', WHERE WHAT IT READS IS OF BULK AT MOST 1048576: true; the input reads as it did. -/
def fnExactFireOkUptoRow : OpenClaim := { program := "ytijgmenpekgonaa", sum := "67b4d9d7162203eb69e2e4efa5ac3dc07f574b0bd8bccbf8a09e360d0a6c4dfe", func := "loop.example/g03200/laws.FnExactFireOk", spec := "fnExactFireOk", unfollowed := true, recurses := true, plainKeys := false, apart := false, narrowed := true }
def FnExactFireOkUptoSaid : Prop := fnExactFireOkUptoRow.holds Try.pinned (OpenSpec.upto fnExactFireOkSpec)

/-- 'laws.FnExactBurnedAfter', WHERE WHAT IT READS IS OF BULK AT MOST 1048576: true; the input reads as it did. -/
def fnExactBurnedAfterUptoRow : OpenClaim := { program := "ytijgmenpekgonaa", sum := "67b4d9d7162203eb69e2e4efa5ac3dc07f574b0bd8bccbf8a09e360d0a6c4dfe", func := "loop.example/g03200/laws.FnExactBurnedAfter", spec := "fnExactBurnedAfter", unfollowed := true, recurses := true, plainKeys := false, apart := false, narrowed := true }
def FnExactBurnedAfterUptoSaid : Prop := fnExactBurnedAfterUptoRow.holds Try.pinned (OpenSpec.upto fnExactBurnedAfterSpec)

/-- 'laws.FnExactRoundsOf', WHERE WHAT IT READS IS OF BULK AT MOST 1048576: true; the input reads as it did. -/
def fnExactRoundsOfUptoRow : OpenClaim := { program := "ytijgmenpekgonaa", sum := "67b4d9d7162203eb69e2e4efa5ac3dc07f574b0bd8bccbf8a09e360d0a6c4dfe", func := "loop.example/g03200/laws.FnExactRoundsOf", spec := "fnExactRoundsOf", unfollowed := true, recurses := true, plainKeys := false, apart := false, narrowed := true }
def FnExactRoundsOfUptoSaid : Prop := fnExactRoundsOfUptoRow.holds Try.pinned (OpenSpec.upto fnExactRoundsOfSpec)

/-- 'laws.FnTrees', WHERE WHAT IT READS IS OF BULK AT MOST 1048576: true; the input reads as it did. -/
def fnTreesUptoRow : OpenClaim := { program := "ytijgmenpekgonaa", sum := "67b4d9d7162203eb69e2e4efa5ac3dc07f574b0bd8bccbf8a09e360d0a6c4dfe", func := "loop.example/g03200/laws.FnTrees", spec := "fnTrees", unfollowed := true, recurses := true, plainKeys := false, apart := false, narrowed := true }
def FnTreesUptoSaid : Prop := fnTreesUptoRow.holds Try.pinned (OpenSpec.upto fnTreesSpec)

/-- 'laws.FnExactIsDecomposition', WHERE WHAT IT READS IS OF BULK AT MOST 1048576: true; the input reads as it did. -/
def fnExactIsDecompositionUptoRow : OpenClaim := { program := "ytijgmenpekgonaa", sum := "67b4d9d7162203eb69e2e4efa5ac3dc07f574b0bd8bccbf8a09e360d0a6c4dfe", func := "loop.example/g03200/laws.FnExactIsDecomposition", spec := "fnExactIsDecomposition", plainKeys := false, apart := false, narrowed := true }
def FnExactIsDecompositionUptoSaid : Prop := fnExactIsDecompositionUptoRow.holds Try.pinned (OpenSpec.upto fnExactIsDecompositionSpec)

/-- 'laws.FnExactEliminationBags', WHERE WHAT IT READS IS OF BULK AT MOST 1048576: true; the input reads as it did. -/
def fnExactEliminationBagsUptoRow : OpenClaim := { program := "ytijgmenpekgonaa", sum := "67b4d9d7162203eb69e2e4efa5ac3dc07f574b0bd8bccbf8a09e360d0a6c4dfe", func := "loop.example/g03200/laws.FnExactEliminationBags", spec := "fnExactEliminationBags", unfollowed := true, recurses := true, plainKeys := false, apart := false, narrowed := true }
def FnExactEliminationBagsUptoSaid : Prop := fnExactEliminationBagsUptoRow.holds Try.pinned (OpenSpec.upto fnExactEliminationBagsSpec)

/-- 'laws.FnExactTreeWidth', WHERE WHAT IT READS IS OF BULK AT MOST 1048576: true; the input reads as it did. -/
def fnExactTreeWidthUptoRow : OpenClaim := { program := "ytijgmenpekgonaa", sum := "67b4d9d7162203eb69e2e4efa5ac3dc07f574b0bd8bccbf8a09e360d0a6c4dfe", func := "loop.example/g03200/laws.FnExactTreeWidth", spec := "fnExactTreeWidth", unfollowed := true, recurses := true, plainKeys := false, apart := false, narrowed := true }
def FnExactTreeWidthUptoSaid : Prop := fnExactTreeWidthUptoRow.holds Try.pinned (OpenSpec.upto fnExactTreeWidthSpec)

/-- 'laws.FnExactMostSaved', WHERE WHAT IT READS IS OF BULK AT MOST 1048576: true; the input reads as it did. -/
def fnExactMostSavedUptoRow : OpenClaim := { program := "ytijgmenpekgonaa", sum := "67b4d9d7162203eb69e2e4efa5ac3dc07f574b0bd8bccbf8a09e360d0a6c4dfe", func := "loop.example/g03200/laws.FnExactMostSaved", spec := "fnExactMostSaved", unfollowed := true, recurses := true, plainKeys := false, apart := false, narrowed := true }
def FnExactMostSavedUptoSaid : Prop := fnExactMostSavedUptoRow.holds Try.pinned (OpenSpec.upto fnExactMostSavedSpec)

/-- 'laws.FnAnswers', WHERE WHAT IT READS IS OF BULK AT MOST 1048576: true; the input reads as it did. -/
def fnAnswersUptoRow : OpenClaim := { program := "ytijgmenpekgonaa", sum := "67b4d9d7162203eb69e2e4efa5ac3dc07f574b0bd8bccbf8a09e360d0a6c4dfe", func := "loop.example/g03200/laws.FnAnswers", spec := "fnAnswers", unfollowed := true, recurses := true, plainKeys := false, apart := false, narrowed := true }
def FnAnswersUptoSaid : Prop := fnAnswersUptoRow.holds Try.pinned (OpenSpec.upto fnAnswersSpec)

/-- 'laws.FnExactFireDistances', WHERE WHAT IT READS IS OF BULK AT MOST 1048576: true; the input reads as it did. -/
def fnExactFireDistancesUptoRow : OpenClaim := { program := "ytijgmenpekgonaa", sum := "67b4d9d7162203eb69e2e4efa5ac3dc07f574b0bd8bccbf8a09e360d0a6c4dfe", func := "loop.example/g03200/laws.FnExactFireDistances", spec := "fnExactFireDistances", unfollowed := true, recurses := true, plainKeys := false, apart := false, narrowed := true }
def FnExactFireDistancesUptoSaid : Prop := fnExactFireDistancesUptoRow.holds Try.pinned (OpenSpec.upto fnExactFireDistancesSpec)

end Rows
end Go.Proofs.Ytijgmenpekgonaa
