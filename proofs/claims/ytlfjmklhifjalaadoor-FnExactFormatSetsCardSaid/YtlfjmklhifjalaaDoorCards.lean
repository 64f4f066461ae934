/-
  DERIVED. GIVEN WITH THE SEED: THE CARDS: each row of YtlfjmklhifjalaaDoorRows.lean that lists a variable, with what it lists TIED to the program's text (the seventh form; the later family's looks); each row that meets fmt, with fmt's text TOLD by the authors' own Lean function (tested against real Go, not proved from fmt's source: count such statements apart). THE CARD IS WHAT COUNTS. Prove the row's statement (the work); the ties are given (YtlfjmklhifjalaaDoorTie.lean); close each card by the builder's one call (the guide's Derived/Test/ToyasCard.lean, 'card_holds'). Laid BY PROGRAM, IN A SANDBOX (cutbox-door.mjs). By AI agents, Wed Nov 11 2026. No macro, syntax, notation, axiom, sorry.
-/
import Derived.Test.YtlfjmklhifjalaaDoorRows
import GoSem.ClaimSeven
namespace Go.Proofs.YtlfjmklhifjalaaDoor
namespace Rows

/-- THE TIED CARD OF 'laws.FnFires'. -/
def fnFiresCard : Claim7 := { stood := { row := fnFiresRow, standIns := [], harness := (true, "309cc7e78da1ae234adb7b46ce8c8f3697aa7b5d715b11eb58a6cac1a0a61352"), looks := true }, kinds := [], alts := [], laidByText := true, laidKinds := [.data, .data], laidTests := true, laidLooks := .later }
def FnFiresCardSaid : Prop := Claim7.holds Tryd.pinned (.plain (OpenSpec.ofChange fnFiresSpec)) fnFiresCard

/-- THE TIED CARD OF 'laws.FnExactFormatSets'. -/
def fnExactFormatSetsCard : Claim7 := { stood := { row := fnExactFormatSetsRow, standIns := [], harness := (true, "309cc7e78da1ae234adb7b46ce8c8f3697aa7b5d715b11eb58a6cac1a0a61352"), looks := true }, kinds := [], alts := [], laidByText := true, laidKinds := [.data, .data, .data], laidTests := true, laidLooks := .later }
def FnExactFormatSetsCardSaid : Prop := Claim7.holds Tryd.pinned (.plain (OpenSpec.ofChange fnExactFormatSetsSpec)) fnExactFormatSetsCard

/-- THE TIED CARD OF 'laws.FnExactHuntLine'. -/
def fnExactHuntLineCard : Claim7 := { stood := { row := fnExactHuntLineRow, standIns := [], harness := (true, "309cc7e78da1ae234adb7b46ce8c8f3697aa7b5d715b11eb58a6cac1a0a61352"), looks := true }, kinds := [], alts := [], laidByText := true, laidKinds := [.data, .data, .data], laidTests := true, laidLooks := .later }
def FnExactHuntLineCardSaid : Prop := Claim7.holds Tryd.pinned (.plain (OpenSpec.ofChange fnExactHuntLineSpec)) fnExactHuntLineCard

/-- THE TIED CARD OF 'laws.FnExactWidthLine'. -/
def fnExactWidthLineCard : Claim7 := { stood := { row := fnExactWidthLineRow, standIns := [], harness := (true, "309cc7e78da1ae234adb7b46ce8c8f3697aa7b5d715b11eb58a6cac1a0a61352"), looks := true }, kinds := [], alts := [], laidByText := true, laidKinds := [.data, .data, .data], laidTests := true, laidLooks := .later }
def FnExactWidthLineCardSaid : Prop := Claim7.holds Tryd.pinned (.plain (OpenSpec.ofChange fnExactWidthLineSpec)) fnExactWidthLineCard

/-- THE TIED CARD OF 'laws.FnExactFireLine'. -/
def fnExactFireLineCard : Claim7 := { stood := { row := fnExactFireLineRow, standIns := [], harness := (true, "309cc7e78da1ae234adb7b46ce8c8f3697aa7b5d715b11eb58a6cac1a0a61352"), looks := true }, kinds := [], alts := [], laidByText := true, laidKinds := [.data, .data, .data], laidTests := true, laidLooks := .later }
def FnExactFireLineCardSaid : Prop := Claim7.holds Tryd.pinned (.plain (OpenSpec.ofChange fnExactFireLineSpec)) fnExactFireLineCard

/-- THE SECOND FORM's CARD OF 'laws.FnFires'. -/
def fnFiresUptoCard : Claim7 := { stood := { row := fnFiresUptoRow, standIns := [], harness := (true, "309cc7e78da1ae234adb7b46ce8c8f3697aa7b5d715b11eb58a6cac1a0a61352"), looks := true }, kinds := [], alts := [], laidByText := true, laidKinds := [.data, .data], laidTests := true, laidLooks := .later }
def FnFiresUptoCardSaid : Prop := Claim7.holds Tryd.pinned (.plain (OpenSpec.upto fnFiresSpec)) fnFiresUptoCard

/-- THE SECOND FORM's CARD OF 'laws.FnExactFormatSets'. -/
def fnExactFormatSetsUptoCard : Claim7 := { stood := { row := fnExactFormatSetsUptoRow, standIns := [], harness := (true, "309cc7e78da1ae234adb7b46ce8c8f3697aa7b5d715b11eb58a6cac1a0a61352"), looks := true }, kinds := [], alts := [], laidByText := true, laidKinds := [.data, .data, .data], laidTests := true, laidLooks := .later }
def FnExactFormatSetsUptoCardSaid : Prop := Claim7.holds Tryd.pinned (.plain (OpenSpec.upto fnExactFormatSetsSpec)) fnExactFormatSetsUptoCard

/-- THE SECOND FORM's CARD OF 'laws.FnExactHuntLine'. -/
def fnExactHuntLineUptoCard : Claim7 := { stood := { row := fnExactHuntLineUptoRow, standIns := [], harness := (true, "309cc7e78da1ae234adb7b46ce8c8f3697aa7b5d715b11eb58a6cac1a0a61352"), looks := true }, kinds := [], alts := [], laidByText := true, laidKinds := [.data, .data, .data], laidTests := true, laidLooks := .later }
def FnExactHuntLineUptoCardSaid : Prop := Claim7.holds Tryd.pinned (.plain (OpenSpec.upto fnExactHuntLineSpec)) fnExactHuntLineUptoCard

/-- THE SECOND FORM's CARD OF 'laws.FnExactWidthLine'. -/
def fnExactWidthLineUptoCard : Claim7 := { stood := { row := fnExactWidthLineUptoRow, standIns := [], harness := (true, "309cc7e78da1ae234adb7b46ce8c8f3697aa7b5d715b11eb58a6cac1a0a61352"), looks := true }, kinds := [], alts := [], laidByText := true, laidKinds := [.data, .data, .data], laidTests := true, laidLooks := .later }
def FnExactWidthLineUptoCardSaid : Prop := Claim7.holds Tryd.pinned (.plain (OpenSpec.upto fnExactWidthLineSpec)) fnExactWidthLineUptoCard

/-- THE SECOND FORM's CARD OF 'laws.FnExactFireLine'. -/
def fnExactFireLineUptoCard : Claim7 := { stood := { row := fnExactFireLineUptoRow, standIns := [], harness := (true, "309cc7e78da1ae234adb7b46ce8c8f3697aa7b5d715b11eb58a6cac1a0a61352"), looks := true }, kinds := [], alts := [], laidByText := true, laidKinds := [.data, .data, .data], laidTests := true, laidLooks := .later }
def FnExactFireLineUptoCardSaid : Prop := Claim7.holds Tryd.pinned (.plain (OpenSpec.upto fnExactFireLineSpec)) fnExactFireLineUptoCard
end Rows
end Go.Proofs.YtlfjmklhifjalaaDoor
