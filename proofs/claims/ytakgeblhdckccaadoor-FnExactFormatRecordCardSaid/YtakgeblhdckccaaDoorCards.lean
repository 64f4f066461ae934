/-
  DERIVED. GIVEN WITH THE SEED: THE CARDS: each row of YtakgeblhdckccaaDoorRows.lean that lists a variable, with what it lists TIED to the program's text (the seventh form; the later family's looks); each row that meets fmt, with fmt's text TOLD by the authors' own Lean function (tested against real Go, not proved from fmt's source: count such statements apart). THE CARD IS WHAT COUNTS. Prove the row's statement (the work); the ties are given (YtakgeblhdckccaaDoorTie.lean); close each card by the builder's one call (the guide's Derived/Test/ToyasCard.lean, 'card_holds'). Laid BY PROGRAM, IN A SANDBOX (cutbox-door.mjs). By AI agents, Wed Nov 11 2026. No macro, syntax, notation, axiom, sorry.
-/
import Derived.Test.YtakgeblhdckccaaDoorRows
import GoSem.ClaimSeven
namespace Go.Proofs.YtakgeblhdckccaaDoor
namespace Rows

/-- THE TIED CARD OF 'laws.FnDistances'. -/
def fnDistancesCard : Claim7 := { stood := { row := fnDistancesRow, standIns := [], harness := (true, "aeb88ce76052a429badfa16d32e3c9b6fc10e8ae7d509109954bee0d1c9b176b"), looks := false }, kinds := [], alts := [], laidByText := true, laidKinds := [.data, .data], laidTests := true, laidLooks := .later }
def FnDistancesCardSaid : Prop := Claim7.holds Tryd.pinned (.plain (OpenSpec.ofChange fnDistancesSpec)) fnDistancesCard

/-- THE TIED CARD OF 'laws.FnGuards'. -/
def fnGuardsCard : Claim7 := { stood := { row := fnGuardsRow, standIns := [], harness := (true, "aeb88ce76052a429badfa16d32e3c9b6fc10e8ae7d509109954bee0d1c9b176b"), looks := false }, kinds := [], alts := [], laidByText := true, laidKinds := [.data, .data], laidTests := true, laidLooks := .later }
def FnGuardsCardSaid : Prop := Claim7.holds Tryd.pinned (.plain (OpenSpec.ofChange fnGuardsSpec)) fnGuardsCard

/-- THE TIED CARD OF 'laws.FnExactBrambleOrder'. -/
def fnExactBrambleOrderCard : Claim7 := { stood := { row := fnExactBrambleOrderRow, standIns := [], harness := (true, "aeb88ce76052a429badfa16d32e3c9b6fc10e8ae7d509109954bee0d1c9b176b"), looks := false }, kinds := [], alts := [], laidByText := true, laidKinds := [.data, .data], laidTests := true, laidLooks := .later }
def FnExactBrambleOrderCardSaid : Prop := Claim7.holds Tryd.pinned (.plain (OpenSpec.ofChange fnExactBrambleOrderSpec)) fnExactBrambleOrderCard

/-- THE TIED CARD OF 'laws.FnExactFormatList'. -/
def fnExactFormatListCard : Claim7 := { stood := { row := fnExactFormatListRow, standIns := [], harness := (true, "aeb88ce76052a429badfa16d32e3c9b6fc10e8ae7d509109954bee0d1c9b176b"), looks := false }, kinds := [], alts := [], laidByText := true, laidKinds := [.data, .data, .data], laidTests := true, laidLooks := .later }
def FnExactFormatListCardSaid : Prop := Claim7.holds Tryd.pinned (.plain (OpenSpec.ofChange fnExactFormatListSpec)) fnExactFormatListCard

/-- THE TIED CARD OF 'laws.FnBrambles'. -/
def fnBramblesCard : Claim7 := { stood := { row := fnBramblesRow, standIns := [], harness := (true, "aeb88ce76052a429badfa16d32e3c9b6fc10e8ae7d509109954bee0d1c9b176b"), looks := false }, kinds := [], alts := [], laidByText := true, laidKinds := [.data, .data], laidTests := true, laidLooks := .later }
def FnBramblesCardSaid : Prop := Claim7.holds Tryd.pinned (.plain (OpenSpec.ofChange fnBramblesSpec)) fnBramblesCard

/-- THE TIED CARD OF 'laws.FnExactFormatRecord'. -/
def fnExactFormatRecordCard : Claim7 := { stood := { row := fnExactFormatRecordRow, standIns := [], harness := (true, "aeb88ce76052a429badfa16d32e3c9b6fc10e8ae7d509109954bee0d1c9b176b"), looks := false }, kinds := [], alts := [], laidByText := true, laidKinds := [.data, .data, .data], laidTests := true, laidLooks := .later }
def FnExactFormatRecordCardSaid : Prop := Claim7.holds Tryd.pinned (.plain (OpenSpec.ofChange fnExactFormatRecordSpec)) fnExactFormatRecordCard

/-- THE SECOND FORM's CARD OF 'laws.FnDistances'. -/
def fnDistancesUptoCard : Claim7 := { stood := { row := fnDistancesUptoRow, standIns := [], harness := (true, "aeb88ce76052a429badfa16d32e3c9b6fc10e8ae7d509109954bee0d1c9b176b"), looks := false }, kinds := [], alts := [], laidByText := true, laidKinds := [.data, .data], laidTests := true, laidLooks := .later }
def FnDistancesUptoCardSaid : Prop := Claim7.holds Tryd.pinned (.plain (OpenSpec.upto fnDistancesSpec)) fnDistancesUptoCard

/-- THE SECOND FORM's CARD OF 'laws.FnGuards'. -/
def fnGuardsUptoCard : Claim7 := { stood := { row := fnGuardsUptoRow, standIns := [], harness := (true, "aeb88ce76052a429badfa16d32e3c9b6fc10e8ae7d509109954bee0d1c9b176b"), looks := false }, kinds := [], alts := [], laidByText := true, laidKinds := [.data, .data], laidTests := true, laidLooks := .later }
def FnGuardsUptoCardSaid : Prop := Claim7.holds Tryd.pinned (.plain (OpenSpec.upto fnGuardsSpec)) fnGuardsUptoCard

/-- THE SECOND FORM's CARD OF 'laws.FnExactBrambleOrder'. -/
def fnExactBrambleOrderUptoCard : Claim7 := { stood := { row := fnExactBrambleOrderUptoRow, standIns := [], harness := (true, "aeb88ce76052a429badfa16d32e3c9b6fc10e8ae7d509109954bee0d1c9b176b"), looks := false }, kinds := [], alts := [], laidByText := true, laidKinds := [.data, .data], laidTests := true, laidLooks := .later }
def FnExactBrambleOrderUptoCardSaid : Prop := Claim7.holds Tryd.pinned (.plain (OpenSpec.upto fnExactBrambleOrderSpec)) fnExactBrambleOrderUptoCard

/-- THE SECOND FORM's CARD OF 'laws.FnExactFormatList'. -/
def fnExactFormatListUptoCard : Claim7 := { stood := { row := fnExactFormatListUptoRow, standIns := [], harness := (true, "aeb88ce76052a429badfa16d32e3c9b6fc10e8ae7d509109954bee0d1c9b176b"), looks := false }, kinds := [], alts := [], laidByText := true, laidKinds := [.data, .data, .data], laidTests := true, laidLooks := .later }
def FnExactFormatListUptoCardSaid : Prop := Claim7.holds Tryd.pinned (.plain (OpenSpec.upto fnExactFormatListSpec)) fnExactFormatListUptoCard

/-- THE SECOND FORM's CARD OF 'laws.FnBrambles'. -/
def fnBramblesUptoCard : Claim7 := { stood := { row := fnBramblesUptoRow, standIns := [], harness := (true, "aeb88ce76052a429badfa16d32e3c9b6fc10e8ae7d509109954bee0d1c9b176b"), looks := false }, kinds := [], alts := [], laidByText := true, laidKinds := [.data, .data], laidTests := true, laidLooks := .later }
def FnBramblesUptoCardSaid : Prop := Claim7.holds Tryd.pinned (.plain (OpenSpec.upto fnBramblesSpec)) fnBramblesUptoCard

/-- THE SECOND FORM's CARD OF 'laws.FnExactFormatRecord'. -/
def fnExactFormatRecordUptoCard : Claim7 := { stood := { row := fnExactFormatRecordUptoRow, standIns := [], harness := (true, "aeb88ce76052a429badfa16d32e3c9b6fc10e8ae7d509109954bee0d1c9b176b"), looks := false }, kinds := [], alts := [], laidByText := true, laidKinds := [.data, .data, .data], laidTests := true, laidLooks := .later }
def FnExactFormatRecordUptoCardSaid : Prop := Claim7.holds Tryd.pinned (.plain (OpenSpec.upto fnExactFormatRecordSpec)) fnExactFormatRecordUptoCard
end Rows
end Go.Proofs.YtakgeblhdckccaaDoor
