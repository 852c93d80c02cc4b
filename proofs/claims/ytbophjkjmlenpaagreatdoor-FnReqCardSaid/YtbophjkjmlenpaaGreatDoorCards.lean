/-
  DERIVED. GIVEN WITH THE SEED: THE CARDS: each row of YtbophjkjmlenpaaGreatDoorRows.lean that lists a variable, with what it lists TIED to the program's text (the seventh form; the later family's looks); each row that meets fmt, with fmt's text TOLD by the authors' own Lean function (tested against real Go, not proved from fmt's source: count such statements apart). THE CARD IS WHAT COUNTS. Prove the row's statement (the work); the ties are given (YtbophjkjmlenpaaGreatDoorTie.lean); close each card by the builder's one call (the guide's Derived/Test/ToyasCard.lean, 'card_holds'). Laid BY PROGRAM, IN A SANDBOX (cutbox-door.mjs). By AI agents, Wed Nov 11 2026. No macro, syntax, notation, axiom, sorry.
-/
import Derived.Test.YtbophjkjmlenpaaGreatDoorRows
import GoSem.ClaimSeven
namespace Go.Proofs.YtbophjkjmlenpaaGreatDoor
namespace Rows

/-- THE TIED CARD OF 'laws.FnExactTextReq'. -/
def fnExactTextReqCard : Claim7 := { stood := { row := fnExactTextReqRow, standIns := [], harness := (true, "ffb40bc848eb1252dac59121bcb7f3dd6b114f5f4a92a791cda7429203d82889"), looks := true }, kinds := [], alts := [], laidByText := true, laidKinds := [.data, .data, .data, .data, .sentinel, .sentinel, .pinned], laidTests := true, laidLooks := .later }
def FnExactTextReqCardSaid : Prop := Claim7.holds Tryz.pinned (.plain (OpenSpec.ofChange fnExactTextReqSpec)) fnExactTextReqCard

/-- THE TIED CARD OF 'laws.FnExactTextSetup'. -/
def fnExactTextSetupCard : Claim7 := { stood := { row := fnExactTextSetupRow, standIns := [], harness := (true, "ffb40bc848eb1252dac59121bcb7f3dd6b114f5f4a92a791cda7429203d82889"), looks := true }, kinds := [], alts := [], laidByText := true, laidKinds := [.data, .data, .data, .data, .sentinel, .sentinel, .pinned], laidTests := true, laidLooks := .later }
def FnExactTextSetupCardSaid : Prop := Claim7.holds Tryz.pinned (.plain (OpenSpec.ofChange fnExactTextSetupSpec)) fnExactTextSetupCard

/-- THE TIED CARD OF 'laws.FnExactMoved'. -/
def fnExactMovedCard : Claim7 := { stood := { row := fnExactMovedRow, standIns := [], harness := (true, "ffb40bc848eb1252dac59121bcb7f3dd6b114f5f4a92a791cda7429203d82889"), looks := true }, kinds := [], alts := [], laidByText := true, laidKinds := [.data, .data, .data, .data, .sentinel, .sentinel, .pinned], laidTests := true, laidLooks := .later }
def FnExactMovedCardSaid : Prop := Claim7.holds Tryz.pinned (.plain (OpenSpec.ofChange fnExactMovedSpec)) fnExactMovedCard

/-- THE TIED CARD OF 'laws.FnExactFresh'. -/
def fnExactFreshCard : Claim7 := { stood := { row := fnExactFreshRow, standIns := [], harness := (true, "ffb40bc848eb1252dac59121bcb7f3dd6b114f5f4a92a791cda7429203d82889"), looks := true }, kinds := [], alts := [], laidByText := true, laidKinds := [.data, .data, .data, .data, .sentinel, .sentinel, .pinned], laidTests := true, laidLooks := .later }
def FnExactFreshCardSaid : Prop := Claim7.holds Tryz.pinned (.plain (OpenSpec.ofChange fnExactFreshSpec)) fnExactFreshCard

/-- THE TIED CARD OF 'laws.FnEvents'. -/
def fnEventsCard : Claim7 := { stood := { row := fnEventsRow, standIns := [], harness := (true, "ffb40bc848eb1252dac59121bcb7f3dd6b114f5f4a92a791cda7429203d82889"), looks := true }, kinds := [], alts := [], laidByText := true, laidKinds := [.data, .data, .data, .data, .sentinel, .sentinel, .pinned], laidTests := true, laidLooks := .later }
def FnEventsCardSaid : Prop := Claim7.holds Tryz.pinned (.plain (OpenSpec.ofChange fnEventsSpec)) fnEventsCard

/-- THE TIED CARD OF 'laws.FnReq'. -/
def fnReqCard : Claim7 := { stood := { row := fnReqRow, standIns := [], harness := (true, "ffb40bc848eb1252dac59121bcb7f3dd6b114f5f4a92a791cda7429203d82889"), looks := true }, kinds := [], alts := [], laidByText := true, laidKinds := [.data, .data, .data, .data, .sentinel, .sentinel, .pinned], laidTests := true, laidLooks := .later }
def FnReqCardSaid : Prop := Claim7.holds Tryz.pinned (.plain (OpenSpec.ofChange fnReqSpec)) fnReqCard

/-- THE SECOND FORM's CARD OF 'laws.FnExactTextReq'. -/
def fnExactTextReqUptoCard : Claim7 := { stood := { row := fnExactTextReqUptoRow, standIns := [], harness := (true, "ffb40bc848eb1252dac59121bcb7f3dd6b114f5f4a92a791cda7429203d82889"), looks := true }, kinds := [], alts := [], laidByText := true, laidKinds := [.data, .data, .data, .data, .sentinel, .sentinel, .pinned], laidTests := true, laidLooks := .later }
def FnExactTextReqUptoCardSaid : Prop := Claim7.holds Tryz.pinned (.plain (OpenSpec.upto fnExactTextReqSpec)) fnExactTextReqUptoCard

/-- THE SECOND FORM's CARD OF 'laws.FnExactTextSetup'. -/
def fnExactTextSetupUptoCard : Claim7 := { stood := { row := fnExactTextSetupUptoRow, standIns := [], harness := (true, "ffb40bc848eb1252dac59121bcb7f3dd6b114f5f4a92a791cda7429203d82889"), looks := true }, kinds := [], alts := [], laidByText := true, laidKinds := [.data, .data, .data, .data, .sentinel, .sentinel, .pinned], laidTests := true, laidLooks := .later }
def FnExactTextSetupUptoCardSaid : Prop := Claim7.holds Tryz.pinned (.plain (OpenSpec.upto fnExactTextSetupSpec)) fnExactTextSetupUptoCard

/-- THE SECOND FORM's CARD OF 'laws.FnExactMoved'. -/
def fnExactMovedUptoCard : Claim7 := { stood := { row := fnExactMovedUptoRow, standIns := [], harness := (true, "ffb40bc848eb1252dac59121bcb7f3dd6b114f5f4a92a791cda7429203d82889"), looks := true }, kinds := [], alts := [], laidByText := true, laidKinds := [.data, .data, .data, .data, .sentinel, .sentinel, .pinned], laidTests := true, laidLooks := .later }
def FnExactMovedUptoCardSaid : Prop := Claim7.holds Tryz.pinned (.plain (OpenSpec.upto fnExactMovedSpec)) fnExactMovedUptoCard

/-- THE SECOND FORM's CARD OF 'laws.FnExactFresh'. -/
def fnExactFreshUptoCard : Claim7 := { stood := { row := fnExactFreshUptoRow, standIns := [], harness := (true, "ffb40bc848eb1252dac59121bcb7f3dd6b114f5f4a92a791cda7429203d82889"), looks := true }, kinds := [], alts := [], laidByText := true, laidKinds := [.data, .data, .data, .data, .sentinel, .sentinel, .pinned], laidTests := true, laidLooks := .later }
def FnExactFreshUptoCardSaid : Prop := Claim7.holds Tryz.pinned (.plain (OpenSpec.upto fnExactFreshSpec)) fnExactFreshUptoCard

/-- THE SECOND FORM's CARD OF 'laws.FnEvents'. -/
def fnEventsUptoCard : Claim7 := { stood := { row := fnEventsUptoRow, standIns := [], harness := (true, "ffb40bc848eb1252dac59121bcb7f3dd6b114f5f4a92a791cda7429203d82889"), looks := true }, kinds := [], alts := [], laidByText := true, laidKinds := [.data, .data, .data, .data, .sentinel, .sentinel, .pinned], laidTests := true, laidLooks := .later }
def FnEventsUptoCardSaid : Prop := Claim7.holds Tryz.pinned (.plain (OpenSpec.upto fnEventsSpec)) fnEventsUptoCard

/-- THE SECOND FORM's CARD OF 'laws.FnReq'. -/
def fnReqUptoCard : Claim7 := { stood := { row := fnReqUptoRow, standIns := [], harness := (true, "ffb40bc848eb1252dac59121bcb7f3dd6b114f5f4a92a791cda7429203d82889"), looks := true }, kinds := [], alts := [], laidByText := true, laidKinds := [.data, .data, .data, .data, .sentinel, .sentinel, .pinned], laidTests := true, laidLooks := .later }
def FnReqUptoCardSaid : Prop := Claim7.holds Tryz.pinned (.plain (OpenSpec.upto fnReqSpec)) fnReqUptoCard
end Rows
end Go.Proofs.YtbophjkjmlenpaaGreatDoor
