/-
  No cell of these rows narrows 'for every input' (looked for: loops, veiled, ifaces, maps, wideKeys, modest, calm, conditions, laid).
  DERIVED. THE GIVEN ROWS OF THIS SEAT. 6 by the template 'for every input the law returns true; each argument reads behind the call as it read before'; 0 by the template 'total and deterministic' (their statements: YtakgeblhdckccaaTotals.lean).
  GIVEN WITH THE SEED: the statements are not yours to turn. If you find one false, say at which input.
  Laid BY PROGRAM, IN A SANDBOX (cutbox-rows.mjs): the forced cells as the released guide's own fill.sh prints them over the translation 9da21c122074ca89… (all of the seat's roots in one cut). By AI agents, Wed Nov 11 2026. No macro, syntax, notation, axiom, sorry.
-/
import Derived.Test.YtakgeblhdckccaaChecked
import GoSem.Claim
import GoSem.ClaimJoined
import GoSem.ClaimMapViews
import Derived.JoinedTies
import Derived.KernelRfl
namespace Go.Proofs.Ytakgeblhdckccaa
/- THE CELL 'sum', in the pinned program and in every row, IS THE sha256 OF THE DUMP (.gsa) THAT YtakgeblhdckccaaProg.lean LOADS. Nothing in Lean hashes anything: it is a label: what it is worth is what the hold of that sum in a sandbox is worth. -/
noncomputable def Try.pinned : Pinned := { name := "ytakgeblhdckccaa", sum := "9da21c122074ca896d00327ae606946c641e131ed7c36e432a5e02b4e9915e0a", checked := Try.checked }
namespace Rows
def none {H : Type} : Left H := { results := [], args := [] }

/-- 'laws.FnExactSavedBy': WHATEVER THE INPUT: true; the input reads as it did. -/
def fnExactSavedBySpec : ChangeSpec := { name := "fnExactSavedBy", fn := fun _ => fun
  | [d1, d2, d3] => { results := [.lit (.bool true)], args := [d1, d2, d3] }
  | _ => none }
def fnExactSavedByRow : OpenClaim := { program := "ytakgeblhdckccaa", sum := "9da21c122074ca896d00327ae606946c641e131ed7c36e432a5e02b4e9915e0a", func := "loop.example/g03200/laws.FnExactSavedBy", spec := "fnExactSavedBy", unfollowed := true, recurses := true, plainKeys := false, apart := false }
def FnExactSavedBySaid : Prop := fnExactSavedByRow.holds Try.pinned (OpenSpec.ofChange fnExactSavedBySpec)

/-- ITS FALSE NEIGHBOUR: 'it returns false'. Refute it at one input. -/
def fnExactSavedByWrong : ChangeSpec := { name := "fnExactSavedBy", fn := fun _ => fun
  | [d1, d2, d3] => { results := [.lit (.bool false)], args := [d1, d2, d3] }
  | _ => none }
def FnExactSavedByWrongFalsely : Prop := fnExactSavedByRow.holds Try.pinned (OpenSpec.ofChange fnExactSavedByWrong)

/-- 'laws.FnExactWidthFor': WHATEVER THE INPUT: true; the input reads as it did. -/
def fnExactWidthForSpec : ChangeSpec := { name := "fnExactWidthFor", fn := fun _ => fun
  | [d1, d2] => { results := [.lit (.bool true)], args := [d1, d2] }
  | _ => none }
def fnExactWidthForRow : OpenClaim := { program := "ytakgeblhdckccaa", sum := "9da21c122074ca896d00327ae606946c641e131ed7c36e432a5e02b4e9915e0a", func := "loop.example/g03200/laws.FnExactWidthFor", spec := "fnExactWidthFor", unfollowed := true, recurses := true, plainKeys := false, apart := false }
def FnExactWidthForSaid : Prop := fnExactWidthForRow.holds Try.pinned (OpenSpec.ofChange fnExactWidthForSpec)

/-- ITS FALSE NEIGHBOUR: 'it returns false'. Refute it at one input. -/
def fnExactWidthForWrong : ChangeSpec := { name := "fnExactWidthFor", fn := fun _ => fun
  | [d1, d2] => { results := [.lit (.bool false)], args := [d1, d2] }
  | _ => none }
def FnExactWidthForWrongFalsely : Prop := fnExactWidthForRow.holds Try.pinned (OpenSpec.ofChange fnExactWidthForWrong)

/-- 'laws.FnExactBestElimination': WHATEVER THE INPUT: true; the input reads as it did. -/
def fnExactBestEliminationSpec : ChangeSpec := { name := "fnExactBestElimination", fn := fun _ => fun
  | [d] => { results := [.lit (.bool true)], args := [d] }
  | _ => none }
def fnExactBestEliminationRow : OpenClaim := { program := "ytakgeblhdckccaa", sum := "9da21c122074ca896d00327ae606946c641e131ed7c36e432a5e02b4e9915e0a", func := "loop.example/g03200/laws.FnExactBestElimination", spec := "fnExactBestElimination", unfollowed := true, recurses := true, plainKeys := false, apart := false }
def FnExactBestEliminationSaid : Prop := fnExactBestEliminationRow.holds Try.pinned (OpenSpec.ofChange fnExactBestEliminationSpec)

/-- ITS FALSE NEIGHBOUR: 'it returns false'. Refute it at one input. -/
def fnExactBestEliminationWrong : ChangeSpec := { name := "fnExactBestElimination", fn := fun _ => fun
  | [d] => { results := [.lit (.bool false)], args := [d] }
  | _ => none }
def FnExactBestEliminationWrongFalsely : Prop := fnExactBestEliminationRow.holds Try.pinned (OpenSpec.ofChange fnExactBestEliminationWrong)

/-- 'laws.FnExactDecompositionFor': WHATEVER THE INPUT: true; the input reads as it did. -/
def fnExactDecompositionForSpec : ChangeSpec := { name := "fnExactDecompositionFor", fn := fun _ => fun
  | [d1, d2] => { results := [.lit (.bool true)], args := [d1, d2] }
  | _ => none }
def fnExactDecompositionForRow : OpenClaim := { program := "ytakgeblhdckccaa", sum := "9da21c122074ca896d00327ae606946c641e131ed7c36e432a5e02b4e9915e0a", func := "loop.example/g03200/laws.FnExactDecompositionFor", spec := "fnExactDecompositionFor", unfollowed := true, recurses := true, plainKeys := false, apart := false }
def FnExactDecompositionForSaid : Prop := fnExactDecompositionForRow.holds Try.pinned (OpenSpec.ofChange fnExactDecompositionForSpec)

/-- ITS FALSE NEIGHBOUR: 'it returns false'. Refute it at one input. -/
def fnExactDecompositionForWrong : ChangeSpec := { name := "fnExactDecompositionFor", fn := fun _ => fun
  | [d1, d2] => { results := [.lit (.bool false)], args := [d1, d2] }
  | _ => none }
def FnExactDecompositionForWrongFalsely : Prop := fnExactDecompositionForRow.holds Try.pinned (OpenSpec.ofChange fnExactDecompositionForWrong)

/-- 'laws.FnLayouts': WHATEVER THE INPUT: true; the input reads as it did. -/
def fnLayoutsSpec : ChangeSpec := { name := "fnLayouts", fn := fun _ => fun
  | [d] => { results := [.lit (.bool true)], args := [d] }
  | _ => none }
def fnLayoutsRow : OpenClaim := { program := "ytakgeblhdckccaa", sum := "9da21c122074ca896d00327ae606946c641e131ed7c36e432a5e02b4e9915e0a", func := "loop.example/g03200/laws.FnLayouts", spec := "fnLayouts", unfollowed := true, recurses := true, plainKeys := false, apart := false }
def FnLayoutsSaid : Prop := fnLayoutsRow.holds Try.pinned (OpenSpec.ofChange fnLayoutsSpec)

/-- ITS FALSE NEIGHBOUR: 'it returns false'. Refute it at one input. -/
def fnLayoutsWrong : ChangeSpec := { name := "fnLayouts", fn := fun _ => fun
  | [d] => { results := [.lit (.bool false)], args := [d] }
  | _ => none }
def FnLayoutsWrongFalsely : Prop := fnLayoutsRow.holds Try.pinned (OpenSpec.ofChange fnLayoutsWrong)

/-- 'laws.FnExactBestPlan': WHATEVER THE INPUT: true; the input reads as it did. -/
def fnExactBestPlanSpec : ChangeSpec := { name := "fnExactBestPlan", fn := fun _ => fun
  | [d1, d2] => { results := [.lit (.bool true)], args := [d1, d2] }
  | _ => none }
def fnExactBestPlanRow : OpenClaim := { program := "ytakgeblhdckccaa", sum := "9da21c122074ca896d00327ae606946c641e131ed7c36e432a5e02b4e9915e0a", func := "loop.example/g03200/laws.FnExactBestPlan", spec := "fnExactBestPlan", unfollowed := true, recurses := true, plainKeys := false, apart := false }
def FnExactBestPlanSaid : Prop := fnExactBestPlanRow.holds Try.pinned (OpenSpec.ofChange fnExactBestPlanSpec)

/-- ITS FALSE NEIGHBOUR: 'it returns false'. Refute it at one input. -/
def fnExactBestPlanWrong : ChangeSpec := { name := "fnExactBestPlan", fn := fun _ => fun
  | [d1, d2] => { results := [.lit (.bool false)], args := [d1, d2] }
  | _ => none }
def FnExactBestPlanWrongFalsely : Prop := fnExactBestPlanRow.holds Try.pinned (OpenSpec.ofChange fnExactBestPlanWrong)

/- THE SECOND FORM. 'bulk': how many values and letters a reading holds, each counted each time it is reached (what is shared counts as often as it is met; a slice's spare places count too). A statement '..UptoSaid' is the law's where the arguments, and the package variables that the reading takes, are together of bulk at most 1048576: NARROWER than '..Said'. Prove '..Said' where nothing that the law and all that it calls make is longer than what came in: it says more and counts as full. Else prove '..UptoSaid'. A law counts once. -/
mutual
def uptoBulk {H : Type} : DataW H → Nat
  | .lit (.string bytes) => bytes.length + 1
  | .lit _ => 1
  | .nil => 1
  | .ptr d => uptoBulk d + 1
  | .slice elems spare => uptoBulkAll elems + uptoBulkAll spare + 1
  | .agg parts => uptoBulkAll parts + 1
  | .iface _ d => uptoBulk d + 1
  | .map entries => uptoBulkEntries entries + 1
  | .held _ => 1
def uptoBulkAll {H : Type} : List (DataW H) → Nat
  | [] => 0
  | d :: r => uptoBulk d + uptoBulkAll r
def uptoBulkEntries {H : Type} : List (Lit × DataW H) → Nat
  | [] => 0
  | x :: r => uptoBulkEntry x + uptoBulkEntries r
def uptoBulkEntry {H : Type} : Lit × DataW H → Nat
  | (.string bytes, d) => bytes.length + uptoBulk d + 1
  | (_, d) => uptoBulk d + 1
 end
def uptoSmall : (H : Type) → List (DataW H) → Bool := fun _ ds => decide (uptoBulkAll ds ≤ 1048576)
def OpenSpec.upto (s : _root_.Go.ChangeSpec) : _root_.Go.OpenSpec := { _root_.Go.OpenSpec.ofChange s with cond := some uptoSmall }

/-- 'laws.FnExactSavedBy', WHERE WHAT IT READS IS OF BULK AT MOST 1048576: true; the input reads as it did. -/
def fnExactSavedByUptoRow : OpenClaim := { program := "ytakgeblhdckccaa", sum := "9da21c122074ca896d00327ae606946c641e131ed7c36e432a5e02b4e9915e0a", func := "loop.example/g03200/laws.FnExactSavedBy", spec := "fnExactSavedBy", unfollowed := true, recurses := true, plainKeys := false, apart := false, narrowed := true }
def FnExactSavedByUptoSaid : Prop := fnExactSavedByUptoRow.holds Try.pinned (OpenSpec.upto fnExactSavedBySpec)

/-- 'laws.FnExactWidthFor', WHERE WHAT IT READS IS OF BULK AT MOST 1048576: true; the input reads as it did. -/
def fnExactWidthForUptoRow : OpenClaim := { program := "ytakgeblhdckccaa", sum := "9da21c122074ca896d00327ae606946c641e131ed7c36e432a5e02b4e9915e0a", func := "loop.example/g03200/laws.FnExactWidthFor", spec := "fnExactWidthFor", unfollowed := true, recurses := true, plainKeys := false, apart := false, narrowed := true }
def FnExactWidthForUptoSaid : Prop := fnExactWidthForUptoRow.holds Try.pinned (OpenSpec.upto fnExactWidthForSpec)

/-- 'laws.FnExactBestElimination', WHERE WHAT IT READS IS OF BULK AT MOST 1048576: true; the input reads as it did. -/
def fnExactBestEliminationUptoRow : OpenClaim := { program := "ytakgeblhdckccaa", sum := "9da21c122074ca896d00327ae606946c641e131ed7c36e432a5e02b4e9915e0a", func := "loop.example/g03200/laws.FnExactBestElimination", spec := "fnExactBestElimination", unfollowed := true, recurses := true, plainKeys := false, apart := false, narrowed := true }
def FnExactBestEliminationUptoSaid : Prop := fnExactBestEliminationUptoRow.holds Try.pinned (OpenSpec.upto fnExactBestEliminationSpec)

/-- 'laws.FnExactDecompositionFor', WHERE WHAT IT READS IS OF BULK AT MOST 1048576: true; the input reads as it did. -/
def fnExactDecompositionForUptoRow : OpenClaim := { program := "ytakgeblhdckccaa", sum := "9da21c122074ca896d00327ae606946c641e131ed7c36e432a5e02b4e9915e0a", func := "loop.example/g03200/laws.FnExactDecompositionFor", spec := "fnExactDecompositionFor", unfollowed := true, recurses := true, plainKeys := false, apart := false, narrowed := true }
def FnExactDecompositionForUptoSaid : Prop := fnExactDecompositionForUptoRow.holds Try.pinned (OpenSpec.upto fnExactDecompositionForSpec)

/-- 'laws.FnLayouts', WHERE WHAT IT READS IS OF BULK AT MOST 1048576: true; the input reads as it did. -/
def fnLayoutsUptoRow : OpenClaim := { program := "ytakgeblhdckccaa", sum := "9da21c122074ca896d00327ae606946c641e131ed7c36e432a5e02b4e9915e0a", func := "loop.example/g03200/laws.FnLayouts", spec := "fnLayouts", unfollowed := true, recurses := true, plainKeys := false, apart := false, narrowed := true }
def FnLayoutsUptoSaid : Prop := fnLayoutsUptoRow.holds Try.pinned (OpenSpec.upto fnLayoutsSpec)

/-- 'laws.FnExactBestPlan', WHERE WHAT IT READS IS OF BULK AT MOST 1048576: true; the input reads as it did. -/
def fnExactBestPlanUptoRow : OpenClaim := { program := "ytakgeblhdckccaa", sum := "9da21c122074ca896d00327ae606946c641e131ed7c36e432a5e02b4e9915e0a", func := "loop.example/g03200/laws.FnExactBestPlan", spec := "fnExactBestPlan", unfollowed := true, recurses := true, plainKeys := false, apart := false, narrowed := true }
def FnExactBestPlanUptoSaid : Prop := fnExactBestPlanUptoRow.holds Try.pinned (OpenSpec.upto fnExactBestPlanSpec)

end Rows
end Go.Proofs.Ytakgeblhdckccaa
