/-
  No cell of these rows narrows 'for every input' (looked for: loops, veiled, ifaces, maps, wideKeys, modest, calm, conditions, laid).
  DERIVED. THE GIVEN ROWS OF THIS SEAT. 7 by the template 'for every input the law returns true; each argument reads behind the call as it read before'; 0 by the template 'total and deterministic' (their statements: YtlfjmklhifjalaaTotals.lean).
  GIVEN WITH THE SEED: the statements are not yours to turn. If you find one false, say at which input.
  Laid BY PROGRAM, IN A SANDBOX (cutbox-rows.mjs): the forced cells as the released guide's own fill.sh prints them over the translation 9f73491a5a33010b… (all of the seat's roots in one cut). By AI agents, Wed Nov 11 2026. No macro, syntax, notation, axiom, sorry.
-/
import Derived.Test.YtlfjmklhifjalaaChecked
import GoSem.Claim
import GoSem.ClaimJoined
import GoSem.ClaimMapViews
import Derived.JoinedTies
import Derived.KernelRfl
namespace Go.Proofs.Ytlfjmklhifjalaa
/- THE CELL 'sum', in the pinned program and in every row, IS THE sha256 OF THE DUMP (.gsa) THAT YtlfjmklhifjalaaProg.lean LOADS. Nothing in Lean hashes anything: it is a label: what it is worth is what the hold of that sum in a sandbox is worth. -/
noncomputable def Try.pinned : Pinned := { name := "ytlfjmklhifjalaa", sum := "9f73491a5a33010b0495a92b01a8c8f9a5159d0e1ea1a059657e288962b375ac", checked := Try.checked }
namespace Rows
def none {H : Type} : Left H := { results := [], args := [] }

/-- 'laws.FnWidths': WHATEVER THE INPUT: true; the input reads as it did. -/
def fnWidthsSpec : ChangeSpec := { name := "fnWidths", fn := fun _ => fun
  | [d] => { results := [.lit (.bool true)], args := [d] }
  | _ => none }
def fnWidthsRow : OpenClaim := { program := "ytlfjmklhifjalaa", sum := "9f73491a5a33010b0495a92b01a8c8f9a5159d0e1ea1a059657e288962b375ac", func := "loop.example/g03200/laws.FnWidths", spec := "fnWidths", unfollowed := true, recurses := true, apart := false }
def FnWidthsSaid : Prop := fnWidthsRow.holds Try.pinned (OpenSpec.ofChange fnWidthsSpec)

/-- ITS FALSE NEIGHBOUR: 'it returns false'. Refute it at one input. -/
def fnWidthsWrong : ChangeSpec := { name := "fnWidths", fn := fun _ => fun
  | [d] => { results := [.lit (.bool false)], args := [d] }
  | _ => none }
def FnWidthsWrongFalsely : Prop := fnWidthsRow.holds Try.pinned (OpenSpec.ofChange fnWidthsWrong)

/-- 'laws.FnExactHoldsOut': WHATEVER THE INPUT: true; the input reads as it did. -/
def fnExactHoldsOutSpec : ChangeSpec := { name := "fnExactHoldsOut", fn := fun _ => fun
  | [d1, d2, d3] => { results := [.lit (.bool true)], args := [d1, d2, d3] }
  | _ => none }
def fnExactHoldsOutRow : OpenClaim := { program := "ytlfjmklhifjalaa", sum := "9f73491a5a33010b0495a92b01a8c8f9a5159d0e1ea1a059657e288962b375ac", func := "loop.example/g03200/laws.FnExactHoldsOut", spec := "fnExactHoldsOut", unfollowed := true, recurses := true, apart := false }
def FnExactHoldsOutSaid : Prop := fnExactHoldsOutRow.holds Try.pinned (OpenSpec.ofChange fnExactHoldsOutSpec)

/-- ITS FALSE NEIGHBOUR: 'it returns false'. Refute it at one input. -/
def fnExactHoldsOutWrong : ChangeSpec := { name := "fnExactHoldsOut", fn := fun _ => fun
  | [d1, d2, d3] => { results := [.lit (.bool false)], args := [d1, d2, d3] }
  | _ => none }
def FnExactHoldsOutWrongFalsely : Prop := fnExactHoldsOutRow.holds Try.pinned (OpenSpec.ofChange fnExactHoldsOutWrong)

/-- 'laws.FnExactAnswersTo': WHATEVER THE INPUT: true; the input reads as it did. -/
def fnExactAnswersToSpec : ChangeSpec := { name := "fnExactAnswersTo", fn := fun _ => fun
  | [d1, d2, d3] => { results := [.lit (.bool true)], args := [d1, d2, d3] }
  | _ => none }
def fnExactAnswersToRow : OpenClaim := { program := "ytlfjmklhifjalaa", sum := "9f73491a5a33010b0495a92b01a8c8f9a5159d0e1ea1a059657e288962b375ac", func := "loop.example/g03200/laws.FnExactAnswersTo", spec := "fnExactAnswersTo", unfollowed := true, recurses := true, apart := false }
def FnExactAnswersToSaid : Prop := fnExactAnswersToRow.holds Try.pinned (OpenSpec.ofChange fnExactAnswersToSpec)

/-- ITS FALSE NEIGHBOUR: 'it returns false'. Refute it at one input. -/
def fnExactAnswersToWrong : ChangeSpec := { name := "fnExactAnswersTo", fn := fun _ => fun
  | [d1, d2, d3] => { results := [.lit (.bool false)], args := [d1, d2, d3] }
  | _ => none }
def FnExactAnswersToWrongFalsely : Prop := fnExactAnswersToRow.holds Try.pinned (OpenSpec.ofChange fnExactAnswersToWrong)

/-- 'laws.FnExactIsSafe': WHATEVER THE INPUT: true; the input reads as it did. -/
def fnExactIsSafeSpec : ChangeSpec := { name := "fnExactIsSafe", fn := fun _ => fun
  | [d1, d2] => { results := [.lit (.bool true)], args := [d1, d2] }
  | _ => none }
def fnExactIsSafeRow : OpenClaim := { program := "ytlfjmklhifjalaa", sum := "9f73491a5a33010b0495a92b01a8c8f9a5159d0e1ea1a059657e288962b375ac", func := "loop.example/g03200/laws.FnExactIsSafe", spec := "fnExactIsSafe", unfollowed := true, recurses := true, apart := false }
def FnExactIsSafeSaid : Prop := fnExactIsSafeRow.holds Try.pinned (OpenSpec.ofChange fnExactIsSafeSpec)

/-- ITS FALSE NEIGHBOUR: 'it returns false'. Refute it at one input. -/
def fnExactIsSafeWrong : ChangeSpec := { name := "fnExactIsSafe", fn := fun _ => fun
  | [d1, d2] => { results := [.lit (.bool false)], args := [d1, d2] }
  | _ => none }
def FnExactIsSafeWrongFalsely : Prop := fnExactIsSafeRow.holds Try.pinned (OpenSpec.ofChange fnExactIsSafeWrong)

/-- 'laws.FnExactFewestGuards': WHATEVER THE INPUT: true; the input reads as it did. -/
def fnExactFewestGuardsSpec : ChangeSpec := { name := "fnExactFewestGuards", fn := fun _ => fun
  | [d] => { results := [.lit (.bool true)], args := [d] }
  | _ => none }
def fnExactFewestGuardsRow : OpenClaim := { program := "ytlfjmklhifjalaa", sum := "9f73491a5a33010b0495a92b01a8c8f9a5159d0e1ea1a059657e288962b375ac", func := "loop.example/g03200/laws.FnExactFewestGuards", spec := "fnExactFewestGuards", unfollowed := true, recurses := true, apart := false }
def FnExactFewestGuardsSaid : Prop := fnExactFewestGuardsRow.holds Try.pinned (OpenSpec.ofChange fnExactFewestGuardsSpec)

/-- ITS FALSE NEIGHBOUR: 'it returns false'. Refute it at one input. -/
def fnExactFewestGuardsWrong : ChangeSpec := { name := "fnExactFewestGuards", fn := fun _ => fun
  | [d] => { results := [.lit (.bool false)], args := [d] }
  | _ => none }
def FnExactFewestGuardsWrongFalsely : Prop := fnExactFewestGuardsRow.holds Try.pinned (OpenSpec.ofChange fnExactFewestGuardsWrong)

/-- 'laws.FnExactSafeSets': WHATEVER THE INPUT: true; the input reads as it did. -/
def fnExactSafeSetsSpec : ChangeSpec := { name := "fnExactSafeSets", fn := fun _ => fun
  | [d1, d2] => { results := [.lit (.bool true)], args := [d1, d2] }
  | _ => none }
def fnExactSafeSetsRow : OpenClaim := { program := "ytlfjmklhifjalaa", sum := "9f73491a5a33010b0495a92b01a8c8f9a5159d0e1ea1a059657e288962b375ac", func := "loop.example/g03200/laws.FnExactSafeSets", spec := "fnExactSafeSets", unfollowed := true, recurses := true, apart := false }
def FnExactSafeSetsSaid : Prop := fnExactSafeSetsRow.holds Try.pinned (OpenSpec.ofChange fnExactSafeSetsSpec)

/-- ITS FALSE NEIGHBOUR: 'it returns false'. Refute it at one input. -/
def fnExactSafeSetsWrong : ChangeSpec := { name := "fnExactSafeSets", fn := fun _ => fun
  | [d1, d2] => { results := [.lit (.bool false)], args := [d1, d2] }
  | _ => none }
def FnExactSafeSetsWrongFalsely : Prop := fnExactSafeSetsRow.holds Try.pinned (OpenSpec.ofChange fnExactSafeSetsWrong)

/-- 'laws.FnExactBestAnswer': WHATEVER THE INPUT: true; the input reads as it did. -/
def fnExactBestAnswerSpec : ChangeSpec := { name := "fnExactBestAnswer", fn := fun _ => fun
  | [d1, d2, d3] => { results := [.lit (.bool true)], args := [d1, d2, d3] }
  | _ => none }
def fnExactBestAnswerRow : OpenClaim := { program := "ytlfjmklhifjalaa", sum := "9f73491a5a33010b0495a92b01a8c8f9a5159d0e1ea1a059657e288962b375ac", func := "loop.example/g03200/laws.FnExactBestAnswer", spec := "fnExactBestAnswer", unfollowed := true, recurses := true, apart := false }
def FnExactBestAnswerSaid : Prop := fnExactBestAnswerRow.holds Try.pinned (OpenSpec.ofChange fnExactBestAnswerSpec)

/-- ITS FALSE NEIGHBOUR: 'it returns false'. Refute it at one input. -/
def fnExactBestAnswerWrong : ChangeSpec := { name := "fnExactBestAnswer", fn := fun _ => fun
  | [d1, d2, d3] => { results := [.lit (.bool false)], args := [d1, d2, d3] }
  | _ => none }
def FnExactBestAnswerWrongFalsely : Prop := fnExactBestAnswerRow.holds Try.pinned (OpenSpec.ofChange fnExactBestAnswerWrong)

/- THE SECOND FORM. 'bulk': how many values and letters a reading holds, each counted each time it is reached (what is shared counts as often as it is met; a slice's spare places count too). A statement '..UptoSaid' is the law's where the arguments, and the package variables that the reading takes, are together of bulk at most 1048576: NARROWER than '..Said'. Prove '..Said' where nothing that the law and all that it calls make is longer than what came in: it says more and counts as full. Else prove '..UptoSaid'. A law counts once. -/
mutual
def uptoBulk {H : Type} : DataW H → Nat
  | .lit (.string bytes) => bytes.length + 1
  | .lit _ => 1
  | .nil => 1
  | .ptr d => uptoBulk d + 1
  | .slice elems spare => uptoBulkAll elems + uptoBulkAll spare + 1
  | .agg parts => uptoBulkAll parts + 1
  | .iface _ d => uptoBulk d + 1
  | .map entries => uptoBulkEntries entries + 1
  | .held _ => 1
def uptoBulkAll {H : Type} : List (DataW H) → Nat
  | [] => 0
  | d :: r => uptoBulk d + uptoBulkAll r
def uptoBulkEntries {H : Type} : List (Lit × DataW H) → Nat
  | [] => 0
  | x :: r => uptoBulkEntry x + uptoBulkEntries r
def uptoBulkEntry {H : Type} : Lit × DataW H → Nat
  | (.string bytes, d) => bytes.length + uptoBulk d + 1
  | (_, d) => uptoBulk d + 1
 end
def uptoSmall : (H : Type) → List (DataW H) → Bool := fun _ ds => decide (uptoBulkAll ds ≤ 1048576)
def OpenSpec.upto (s : _root_.Go.ChangeSpec) : _root_.Go.OpenSpec := { _root_.Go.OpenSpec.ofChange s with cond := some uptoSmall }

/-- 'laws.FnWidths', WHERE WHAT IT READS IS OF BULK AT MOST 1048576: true; the input reads as it did. -/
def fnWidthsUptoRow : OpenClaim := { program := "ytlfjmklhifjalaa", sum := "9f73491a5a33010b0495a92b01a8c8f9a5159d0e1ea1a059657e288962b375ac", func := "loop.example/g03200/laws.FnWidths", spec := "fnWidths", unfollowed := true, recurses := true, apart := false, narrowed := true }
def FnWidthsUptoSaid : Prop := fnWidthsUptoRow.holds Try.pinned (OpenSpec.upto fnWidthsSpec)

/-- 'laws.FnExactHoldsOut', WHERE WHAT IT READS IS OF BULK AT MOST 1048576: true; the input reads as it did. -/
def fnExactHoldsOutUptoRow : OpenClaim := { program := "ytlfjmklhifjalaa", sum := "9f73491a5a33010b0495a92b01a8c8f9a5159d0e1ea1a059657e288962b375ac", func := "loop.example/g03200/laws.FnExactHoldsOut", spec := "fnExactHoldsOut", unfollowed := true, recurses := true, apart := false, narrowed := true }
def FnExactHoldsOutUptoSaid : Prop := fnExactHoldsOutUptoRow.holds Try.pinned (OpenSpec.upto fnExactHoldsOutSpec)

/-- 'laws.FnExactAnswersTo', WHERE WHAT IT READS IS OF BULK AT MOST 1048576: true; the input reads as it did. -/
def fnExactAnswersToUptoRow : OpenClaim := { program := "ytlfjmklhifjalaa", sum := "9f73491a5a33010b0495a92b01a8c8f9a5159d0e1ea1a059657e288962b375ac", func := "loop.example/g03200/laws.FnExactAnswersTo", spec := "fnExactAnswersTo", unfollowed := true, recurses := true, apart := false, narrowed := true }
def FnExactAnswersToUptoSaid : Prop := fnExactAnswersToUptoRow.holds Try.pinned (OpenSpec.upto fnExactAnswersToSpec)

/-- 'laws.FnExactIsSafe', WHERE WHAT IT READS IS OF BULK AT MOST 1048576: true; the input reads as it did. -/
def fnExactIsSafeUptoRow : OpenClaim := { program := "ytlfjmklhifjalaa", sum := "9f73491a5a33010b0495a92b01a8c8f9a5159d0e1ea1a059657e288962b375ac", func := "loop.example/g03200/laws.FnExactIsSafe", spec := "fnExactIsSafe", unfollowed := true, recurses := true, apart := false, narrowed := true }
def FnExactIsSafeUptoSaid : Prop := fnExactIsSafeUptoRow.holds Try.pinned (OpenSpec.upto fnExactIsSafeSpec)

/-- 'laws.FnExactFewestGuards', WHERE WHAT IT READS IS OF BULK AT MOST 1048576: true; the input reads as it did. -/
def fnExactFewestGuardsUptoRow : OpenClaim := { program := "ytlfjmklhifjalaa", sum := "9f73491a5a33010b0495a92b01a8c8f9a5159d0e1ea1a059657e288962b375ac", func := "loop.example/g03200/laws.FnExactFewestGuards", spec := "fnExactFewestGuards", unfollowed := true, recurses := true, apart := false, narrowed := true }
def FnExactFewestGuardsUptoSaid : Prop := fnExactFewestGuardsUptoRow.holds Try.pinned (OpenSpec.upto fnExactFewestGuardsSpec)

/-- 'laws.FnExactSafeSets', WHERE WHAT IT READS IS OF BULK AT MOST 1048576: true; the input reads as it did. -/
def fnExactSafeSetsUptoRow : OpenClaim := { program := "ytlfjmklhifjalaa", sum := "9f73491a5a33010b0495a92b01a8c8f9a5159d0e1ea1a059657e288962b375ac", func := "loop.example/g03200/laws.FnExactSafeSets", spec := "fnExactSafeSets", unfollowed := true, recurses := true, apart := false, narrowed := true }
def FnExactSafeSetsUptoSaid : Prop := fnExactSafeSetsUptoRow.holds Try.pinned (OpenSpec.upto fnExactSafeSetsSpec)

/-- 'laws.FnExactBestAnswer', WHERE WHAT IT READS IS OF BULK AT MOST 1048576: true; the input reads as it did. -/
def fnExactBestAnswerUptoRow : OpenClaim := { program := "ytlfjmklhifjalaa", sum := "9f73491a5a33010b0495a92b01a8c8f9a5159d0e1ea1a059657e288962b375ac", func := "loop.example/g03200/laws.FnExactBestAnswer", spec := "fnExactBestAnswer", unfollowed := true, recurses := true, apart := false, narrowed := true }
def FnExactBestAnswerUptoSaid : Prop := fnExactBestAnswerUptoRow.holds Try.pinned (OpenSpec.upto fnExactBestAnswerSpec)

end Rows
end Go.Proofs.Ytlfjmklhifjalaa
