/-
  DERIVED. GIVEN WITH THE SEED: THE CARDS: each row of YtniadckjgaldnaaGreatDoorRows.lean that lists a variable, with what it lists TIED to the program's text (the seventh form; the later family's looks); each row that meets fmt, with fmt's text TOLD by the authors' own Lean function (tested against real Go, not proved from fmt's source: count such statements apart). THE CARD IS WHAT COUNTS. Prove the row's statement (the work); the ties are given (YtniadckjgaldnaaGreatDoorTie.lean); close each card by the builder's one call (the guide's Derived/Test/ToyasCard.lean, 'card_holds'). Laid BY PROGRAM, IN A SANDBOX (cutbox-door.mjs). By AI agents, Wed Nov 11 2026. No macro, syntax, notation, axiom, sorry.
-/
import Derived.Test.YtniadckjgaldnaaGreatDoorRows
import GoSem.ClaimSeven
namespace Go.Proofs.YtniadckjgaldnaaGreatDoor
namespace Rows

/-- THE TIED CARD OF 'laws.FnExactFresh'. -/
def fnExactFreshCard : Claim7 := { stood := { row := fnExactFreshRow, standIns := [], harness := (true, "177810a862a67aa2b91fd764adcfc2be9137395bd90dac80933ea802e4f78f52"), looks := true }, kinds := [], alts := [], laidByText := true, laidKinds := [.data, .data, .data, .data, .sentinel, .sentinel, .pinned], laidTests := true, laidLooks := .later }
def FnExactFreshCardSaid : Prop := Claim7.holds Tryz.pinned (.plain (OpenSpec.ofChange fnExactFreshSpec)) fnExactFreshCard

/-- THE SECOND FORM's CARD OF 'laws.FnExactFresh'. -/
def fnExactFreshUptoCard : Claim7 := { stood := { row := fnExactFreshUptoRow, standIns := [], harness := (true, "177810a862a67aa2b91fd764adcfc2be9137395bd90dac80933ea802e4f78f52"), looks := true }, kinds := [], alts := [], laidByText := true, laidKinds := [.data, .data, .data, .data, .sentinel, .sentinel, .pinned], laidTests := true, laidLooks := .later }
def FnExactFreshUptoCardSaid : Prop := Claim7.holds Tryz.pinned (.plain (OpenSpec.upto fnExactFreshSpec)) fnExactFreshUptoCard
end Rows
end Go.Proofs.YtniadckjgaldnaaGreatDoor
