/-
  DERIVED. GIVEN WITH THE SEED: THE CARDS: each row of YtjnnbcdakaabbaaDoorRows.lean that lists a variable, with what it lists TIED to the program's text (the seventh form; the later family's looks); each row that meets fmt, with fmt's text TOLD by the authors' own Lean function (tested against real Go, not proved from fmt's source: count such statements apart). THE CARD IS WHAT COUNTS. Prove the row's statement (the work); the ties are given (YtjnnbcdakaabbaaDoorTie.lean); close each card by the builder's one call (the guide's Derived/Test/ToyasCard.lean, 'card_holds'). Laid BY PROGRAM, IN A SANDBOX (cutbox-door.mjs). By AI agents, Wed Nov 11 2026. No macro, syntax, notation, axiom, sorry.
-/
import Derived.Test.YtjnnbcdakaabbaaDoorRows
import GoSem.ClaimSeven
namespace Go.Proofs.YtjnnbcdakaabbaaDoor
namespace Rows

/-- THE TIED CARD OF 'laws.FnExactReqText'. -/
def fnExactReqTextCard : Claim7 := { stood := { row := fnExactReqTextRow, standIns := [], harness := (true, "231c1e2ac4e43edd1a6f7308c370941d61dea234115844caa9a5bca56c783744"), looks := true }, kinds := [], alts := [], laidByText := true, laidKinds := [.data, .data, .data], laidTests := true, laidLooks := .later }
def FnExactReqTextCardSaid : Prop := Claim7.holds Tryd.pinned (.plain (OpenSpec.ofChange fnExactReqTextSpec)) fnExactReqTextCard

/-- THE TIED CARD OF 'laws.FnExactMsgShow'. -/
def fnExactMsgShowCard : Claim7 := { stood := { row := fnExactMsgShowRow, standIns := [], harness := (true, "231c1e2ac4e43edd1a6f7308c370941d61dea234115844caa9a5bca56c783744"), looks := true }, kinds := [], alts := [], laidByText := true, laidKinds := [.data, .data, .data, .data, .pinned], laidTests := true, laidLooks := .later }
def FnExactMsgShowCardSaid : Prop := Claim7.holds Tryd.pinned (.plain (OpenSpec.ofChange fnExactMsgShowSpec)) fnExactMsgShowCard

/-- THE TIED CARD OF 'laws.FnExactTextEvent'. -/
def fnExactTextEventCard : Claim7 := { stood := { row := fnExactTextEventRow, standIns := [], harness := (true, "231c1e2ac4e43edd1a6f7308c370941d61dea234115844caa9a5bca56c783744"), looks := true }, kinds := [], alts := [], laidByText := true, laidKinds := [.data, .data, .data, .sentinel, .sentinel], laidTests := true, laidLooks := .later }
def FnExactTextEventCardSaid : Prop := Claim7.holds Tryd.pinned (.plain (OpenSpec.ofChange fnExactTextEventSpec)) fnExactTextEventCard

/-- THE TIED CARD OF 'laws.FnExactReadEvents'. -/
def fnExactReadEventsCard : Claim7 := { stood := { row := fnExactReadEventsRow, standIns := [], harness := (true, "231c1e2ac4e43edd1a6f7308c370941d61dea234115844caa9a5bca56c783744"), looks := true }, kinds := [], alts := [], laidByText := true, laidKinds := [.data, .data, .data, .data, .sentinel, .sentinel, .pinned], laidTests := true, laidLooks := .later }
def FnExactReadEventsCardSaid : Prop := Claim7.holds Tryd.pinned (.plain (OpenSpec.ofChange fnExactReadEventsSpec)) fnExactReadEventsCard

/-- THE TIED CARD OF 'laws.FnExactTaskShow'. -/
def fnExactTaskShowCard : Claim7 := { stood := { row := fnExactTaskShowRow, standIns := [], harness := (true, "231c1e2ac4e43edd1a6f7308c370941d61dea234115844caa9a5bca56c783744"), looks := true }, kinds := [], alts := [], laidByText := true, laidKinds := [.data, .data, .data, .sentinel, .sentinel], laidTests := true, laidLooks := .later }
def FnExactTaskShowCardSaid : Prop := Claim7.holds Tryd.pinned (.plain (OpenSpec.ofChange fnExactTaskShowSpec)) fnExactTaskShowCard

/-- THE SECOND FORM's CARD OF 'laws.FnExactReqText'. -/
def fnExactReqTextUptoCard : Claim7 := { stood := { row := fnExactReqTextUptoRow, standIns := [], harness := (true, "231c1e2ac4e43edd1a6f7308c370941d61dea234115844caa9a5bca56c783744"), looks := true }, kinds := [], alts := [], laidByText := true, laidKinds := [.data, .data, .data], laidTests := true, laidLooks := .later }
def FnExactReqTextUptoCardSaid : Prop := Claim7.holds Tryd.pinned (.plain (OpenSpec.upto fnExactReqTextSpec)) fnExactReqTextUptoCard

/-- THE SECOND FORM's CARD OF 'laws.FnExactMsgShow'. -/
def fnExactMsgShowUptoCard : Claim7 := { stood := { row := fnExactMsgShowUptoRow, standIns := [], harness := (true, "231c1e2ac4e43edd1a6f7308c370941d61dea234115844caa9a5bca56c783744"), looks := true }, kinds := [], alts := [], laidByText := true, laidKinds := [.data, .data, .data, .data, .pinned], laidTests := true, laidLooks := .later }
def FnExactMsgShowUptoCardSaid : Prop := Claim7.holds Tryd.pinned (.plain (OpenSpec.upto fnExactMsgShowSpec)) fnExactMsgShowUptoCard

/-- THE SECOND FORM's CARD OF 'laws.FnExactTextEvent'. -/
def fnExactTextEventUptoCard : Claim7 := { stood := { row := fnExactTextEventUptoRow, standIns := [], harness := (true, "231c1e2ac4e43edd1a6f7308c370941d61dea234115844caa9a5bca56c783744"), looks := true }, kinds := [], alts := [], laidByText := true, laidKinds := [.data, .data, .data, .sentinel, .sentinel], laidTests := true, laidLooks := .later }
def FnExactTextEventUptoCardSaid : Prop := Claim7.holds Tryd.pinned (.plain (OpenSpec.upto fnExactTextEventSpec)) fnExactTextEventUptoCard

/-- THE SECOND FORM's CARD OF 'laws.FnExactReadEvents'. -/
def fnExactReadEventsUptoCard : Claim7 := { stood := { row := fnExactReadEventsUptoRow, standIns := [], harness := (true, "231c1e2ac4e43edd1a6f7308c370941d61dea234115844caa9a5bca56c783744"), looks := true }, kinds := [], alts := [], laidByText := true, laidKinds := [.data, .data, .data, .data, .sentinel, .sentinel, .pinned], laidTests := true, laidLooks := .later }
def FnExactReadEventsUptoCardSaid : Prop := Claim7.holds Tryd.pinned (.plain (OpenSpec.upto fnExactReadEventsSpec)) fnExactReadEventsUptoCard

/-- THE SECOND FORM's CARD OF 'laws.FnExactTaskShow'. -/
def fnExactTaskShowUptoCard : Claim7 := { stood := { row := fnExactTaskShowUptoRow, standIns := [], harness := (true, "231c1e2ac4e43edd1a6f7308c370941d61dea234115844caa9a5bca56c783744"), looks := true }, kinds := [], alts := [], laidByText := true, laidKinds := [.data, .data, .data, .sentinel, .sentinel], laidTests := true, laidLooks := .later }
def FnExactTaskShowUptoCardSaid : Prop := Claim7.holds Tryd.pinned (.plain (OpenSpec.upto fnExactTaskShowSpec)) fnExactTaskShowUptoCard
end Rows
end Go.Proofs.YtjnnbcdakaabbaaDoor
