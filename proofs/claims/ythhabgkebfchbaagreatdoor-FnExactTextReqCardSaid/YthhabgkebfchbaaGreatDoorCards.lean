/-
  DERIVED. GIVEN WITH THE SEED: THE CARDS: each row of YthhabgkebfchbaaGreatDoorRows.lean that lists a variable, with what it lists TIED to the program's text (the seventh form; the later family's looks); each row that meets fmt, with fmt's text TOLD by the authors' own Lean function (tested against real Go, not proved from fmt's source: count such statements apart). THE CARD IS WHAT COUNTS. Prove the row's statement (the work); the ties are given (YthhabgkebfchbaaGreatDoorTie.lean); close each card by the builder's one call (the guide's Derived/Test/ToyasCard.lean, 'card_holds'). Laid BY PROGRAM, IN A SANDBOX (cutbox-door.mjs). By AI agents, Wed Nov 11 2026. No macro, syntax, notation, axiom, sorry.
-/
import Derived.Test.YthhabgkebfchbaaGreatDoorRows
import GoSem.ClaimSeven
namespace Go.Proofs.YthhabgkebfchbaaGreatDoor
namespace Rows

/-- THE TIED CARD OF 'laws.FnExactTextReq'. -/
def fnExactTextReqCard : Claim7 := { stood := { row := fnExactTextReqRow, standIns := [], harness := (true, "31f32c1517d6a443c6f5cd8064ab5e62d412fd743222b3a41686362992836b62"), looks := true }, kinds := [], alts := [], laidByText := true, laidKinds := [.data, .data, .data, .data, .sentinel, .sentinel, .pinned], laidTests := true, laidLooks := .later }
def FnExactTextReqCardSaid : Prop := Claim7.holds Tryz.pinned (.plain (OpenSpec.ofChange fnExactTextReqSpec)) fnExactTextReqCard

/-- THE SECOND FORM's CARD OF 'laws.FnExactTextReq'. -/
def fnExactTextReqUptoCard : Claim7 := { stood := { row := fnExactTextReqUptoRow, standIns := [], harness := (true, "31f32c1517d6a443c6f5cd8064ab5e62d412fd743222b3a41686362992836b62"), looks := true }, kinds := [], alts := [], laidByText := true, laidKinds := [.data, .data, .data, .data, .sentinel, .sentinel, .pinned], laidTests := true, laidLooks := .later }
def FnExactTextReqUptoCardSaid : Prop := Claim7.holds Tryz.pinned (.plain (OpenSpec.upto fnExactTextReqSpec)) fnExactTextReqUptoCard
end Rows
end Go.Proofs.YthhabgkebfchbaaGreatDoor
