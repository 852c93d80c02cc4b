/-
  DERIVED. GIVEN WITH THE SEED: THE CARDS: each row of YthonbclgdbigpaaDoorRows.lean that lists a variable, with what it lists TIED to the program's text (the seventh form; the later family's looks); each row that meets fmt, with fmt's text TOLD by the authors' own Lean function (tested against real Go, not proved from fmt's source: count such statements apart). THE CARD IS WHAT COUNTS. Prove the row's statement (the work); the ties are given (YthonbclgdbigpaaDoorTie.lean); close each card by the builder's one call (the guide's Derived/Test/ToyasCard.lean, 'card_holds'). Laid BY PROGRAM, IN A SANDBOX (cutbox-door.mjs). By AI agents, Wed Nov 11 2026. No macro, syntax, notation, axiom, sorry.
-/
import Derived.Test.YthonbclgdbigpaaDoorRows
import GoSem.ClaimSeven
namespace Go.Proofs.YthonbclgdbigpaaDoor
namespace Rows

/-- THE TIED CARD OF 'laws.FnExactHoldShow'. -/
def fnExactHoldShowCard : Claim7 := { stood := { row := fnExactHoldShowRow, standIns := [], harness := (true, "500f8fe1d5c0eeb8b9b7ddefa152c9cb3a4e20d206bdc577bf0f05276115ea27"), looks := false }, kinds := [], alts := [], laidByText := true, laidKinds := [.data, .data, .data], laidTests := true, laidLooks := .later }
def FnExactHoldShowCardSaid : Prop := Claim7.holds Tryd.pinned (.plain (OpenSpec.ofChange fnExactHoldShowSpec)) fnExactHoldShowCard

/-- THE TIED CARD OF 'laws.FnExactEventText'. -/
def fnExactEventTextCard : Claim7 := { stood := { row := fnExactEventTextRow, standIns := [], harness := (true, "500f8fe1d5c0eeb8b9b7ddefa152c9cb3a4e20d206bdc577bf0f05276115ea27"), looks := false }, kinds := [], alts := [], laidByText := true, laidKinds := [.data, .data, .data], laidTests := true, laidLooks := .later }
def FnExactEventTextCardSaid : Prop := Claim7.holds Tryd.pinned (.plain (OpenSpec.ofChange fnExactEventTextSpec)) fnExactEventTextCard

/-- THE TIED CARD OF 'laws.FnExactEventsText'. -/
def fnExactEventsTextCard : Claim7 := { stood := { row := fnExactEventsTextRow, standIns := [], harness := (true, "500f8fe1d5c0eeb8b9b7ddefa152c9cb3a4e20d206bdc577bf0f05276115ea27"), looks := false }, kinds := [], alts := [], laidByText := true, laidKinds := [.data, .data, .data], laidTests := true, laidLooks := .later }
def FnExactEventsTextCardSaid : Prop := Claim7.holds Tryd.pinned (.plain (OpenSpec.ofChange fnExactEventsTextSpec)) fnExactEventsTextCard

/-- THE TIED CARD OF 'laws.FnExactReqText'. -/
def fnExactReqTextCard : Claim7 := { stood := { row := fnExactReqTextRow, standIns := [], harness := (true, "500f8fe1d5c0eeb8b9b7ddefa152c9cb3a4e20d206bdc577bf0f05276115ea27"), looks := false }, kinds := [], alts := [], laidByText := true, laidKinds := [.data, .data, .data], laidTests := true, laidLooks := .later }
def FnExactReqTextCardSaid : Prop := Claim7.holds Tryd.pinned (.plain (OpenSpec.ofChange fnExactReqTextSpec)) fnExactReqTextCard

/-- THE SECOND FORM's CARD OF 'laws.FnExactHoldShow'. -/
def fnExactHoldShowUptoCard : Claim7 := { stood := { row := fnExactHoldShowUptoRow, standIns := [], harness := (true, "500f8fe1d5c0eeb8b9b7ddefa152c9cb3a4e20d206bdc577bf0f05276115ea27"), looks := false }, kinds := [], alts := [], laidByText := true, laidKinds := [.data, .data, .data], laidTests := true, laidLooks := .later }
def FnExactHoldShowUptoCardSaid : Prop := Claim7.holds Tryd.pinned (.plain (OpenSpec.upto fnExactHoldShowSpec)) fnExactHoldShowUptoCard

/-- THE SECOND FORM's CARD OF 'laws.FnExactEventText'. -/
def fnExactEventTextUptoCard : Claim7 := { stood := { row := fnExactEventTextUptoRow, standIns := [], harness := (true, "500f8fe1d5c0eeb8b9b7ddefa152c9cb3a4e20d206bdc577bf0f05276115ea27"), looks := false }, kinds := [], alts := [], laidByText := true, laidKinds := [.data, .data, .data], laidTests := true, laidLooks := .later }
def FnExactEventTextUptoCardSaid : Prop := Claim7.holds Tryd.pinned (.plain (OpenSpec.upto fnExactEventTextSpec)) fnExactEventTextUptoCard

/-- THE SECOND FORM's CARD OF 'laws.FnExactEventsText'. -/
def fnExactEventsTextUptoCard : Claim7 := { stood := { row := fnExactEventsTextUptoRow, standIns := [], harness := (true, "500f8fe1d5c0eeb8b9b7ddefa152c9cb3a4e20d206bdc577bf0f05276115ea27"), looks := false }, kinds := [], alts := [], laidByText := true, laidKinds := [.data, .data, .data], laidTests := true, laidLooks := .later }
def FnExactEventsTextUptoCardSaid : Prop := Claim7.holds Tryd.pinned (.plain (OpenSpec.upto fnExactEventsTextSpec)) fnExactEventsTextUptoCard

/-- THE SECOND FORM's CARD OF 'laws.FnExactReqText'. -/
def fnExactReqTextUptoCard : Claim7 := { stood := { row := fnExactReqTextUptoRow, standIns := [], harness := (true, "500f8fe1d5c0eeb8b9b7ddefa152c9cb3a4e20d206bdc577bf0f05276115ea27"), looks := false }, kinds := [], alts := [], laidByText := true, laidKinds := [.data, .data, .data], laidTests := true, laidLooks := .later }
def FnExactReqTextUptoCardSaid : Prop := Claim7.holds Tryd.pinned (.plain (OpenSpec.upto fnExactReqTextSpec)) fnExactReqTextUptoCard
end Rows
end Go.Proofs.YthonbclgdbigpaaDoor
