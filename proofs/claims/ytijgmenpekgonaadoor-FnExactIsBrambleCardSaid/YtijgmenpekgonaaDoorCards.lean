/-
  DERIVED. GIVEN WITH THE SEED: THE CARDS: each row of YtijgmenpekgonaaDoorRows.lean that lists a variable, with what it lists TIED to the program's text (the seventh form; the later family's looks); each row that meets fmt, with fmt's text TOLD by the authors' own Lean function (tested against real Go, not proved from fmt's source: count such statements apart). THE CARD IS WHAT COUNTS. Prove the row's statement (the work); the ties are given (YtijgmenpekgonaaDoorTie.lean); close each card by the builder's one call (the guide's Derived/Test/ToyasCard.lean, 'card_holds'). Laid BY PROGRAM, IN A SANDBOX (cutbox-door.mjs). By AI agents, Wed Nov 11 2026. No macro, syntax, notation, axiom, sorry.
-/
import Derived.Test.YtijgmenpekgonaaDoorRows
import GoSem.ClaimSeven
namespace Go.Proofs.YtijgmenpekgonaaDoor
namespace Rows

/-- THE TIED CARD OF 'laws.FnExactIsBramble'. -/
def fnExactIsBrambleCard : Claim7 := { stood := { row := fnExactIsBrambleRow, standIns := [], harness := (true, "f95f175bc385aaf6b6f58a36e858ffadf61419675d161357919c37fb1e7df9f6"), looks := false }, kinds := [], alts := [], laidByText := true, laidKinds := [.data, .data], laidTests := true, laidLooks := .later }
def FnExactIsBrambleCardSaid : Prop := Claim7.holds Tryd.pinned (.plain (OpenSpec.ofChange fnExactIsBrambleSpec)) fnExactIsBrambleCard

/-- THE SECOND FORM's CARD OF 'laws.FnExactIsBramble'. -/
def fnExactIsBrambleUptoCard : Claim7 := { stood := { row := fnExactIsBrambleUptoRow, standIns := [], harness := (true, "f95f175bc385aaf6b6f58a36e858ffadf61419675d161357919c37fb1e7df9f6"), looks := false }, kinds := [], alts := [], laidByText := true, laidKinds := [.data, .data], laidTests := true, laidLooks := .later }
def FnExactIsBrambleUptoCardSaid : Prop := Claim7.holds Tryd.pinned (.plain (OpenSpec.upto fnExactIsBrambleSpec)) fnExactIsBrambleUptoCard
end Rows
end Go.Proofs.YtijgmenpekgonaaDoor
