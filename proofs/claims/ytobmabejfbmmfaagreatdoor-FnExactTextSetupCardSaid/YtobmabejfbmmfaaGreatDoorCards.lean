/-
  DERIVED. GIVEN WITH THE SEED: THE CARDS: each row of YtobmabejfbmmfaaGreatDoorRows.lean that lists a variable, with what it lists TIED to the program's text (the seventh form; the later family's looks); each row that meets fmt, with fmt's text TOLD by the authors' own Lean function (tested against real Go, not proved from fmt's source: count such statements apart). THE CARD IS WHAT COUNTS. Prove the row's statement (the work); the ties are given (YtobmabejfbmmfaaGreatDoorTie.lean); close each card by the builder's one call (the guide's Derived/Test/ToyasCard.lean, 'card_holds'). Laid BY PROGRAM, IN A SANDBOX (cutbox-door.mjs). By AI agents, Wed Nov 11 2026. No macro, syntax, notation, axiom, sorry.
-/
import Derived.Test.YtobmabejfbmmfaaGreatDoorRows
import GoSem.ClaimSeven
namespace Go.Proofs.YtobmabejfbmmfaaGreatDoor
namespace Rows

/-- THE TIED CARD OF 'laws.FnExactTextSetup'. -/
def fnExactTextSetupCard : Claim7 := { stood := { row := fnExactTextSetupRow, standIns := [], harness := (true, "eb064bc330ce3d8a07afca1931ee85dc440e8961dec7881b9ce6417c9d9f2dfd"), looks := true }, kinds := [], alts := [], laidByText := true, laidKinds := [.data, .data, .data, .data, .sentinel, .sentinel, .pinned], laidTests := true, laidLooks := .later }
def FnExactTextSetupCardSaid : Prop := Claim7.holds Tryz.pinned (.plain (OpenSpec.ofChange fnExactTextSetupSpec)) fnExactTextSetupCard

/-- THE SECOND FORM's CARD OF 'laws.FnExactTextSetup'. -/
def fnExactTextSetupUptoCard : Claim7 := { stood := { row := fnExactTextSetupUptoRow, standIns := [], harness := (true, "eb064bc330ce3d8a07afca1931ee85dc440e8961dec7881b9ce6417c9d9f2dfd"), looks := true }, kinds := [], alts := [], laidByText := true, laidKinds := [.data, .data, .data, .data, .sentinel, .sentinel, .pinned], laidTests := true, laidLooks := .later }
def FnExactTextSetupUptoCardSaid : Prop := Claim7.holds Tryz.pinned (.plain (OpenSpec.upto fnExactTextSetupSpec)) fnExactTextSetupUptoCard
end Rows
end Go.Proofs.YtobmabejfbmmfaaGreatDoor
