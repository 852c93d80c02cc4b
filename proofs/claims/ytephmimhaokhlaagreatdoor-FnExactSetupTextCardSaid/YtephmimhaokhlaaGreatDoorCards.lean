/-
  DERIVED. GIVEN WITH THE SEED: THE CARDS: each row of YtephmimhaokhlaaGreatDoorRows.lean that lists a variable, with what it lists TIED to the program's text (the seventh form; the later family's looks); each row that meets fmt, with fmt's text TOLD by the authors' own Lean function (tested against real Go, not proved from fmt's source: count such statements apart). THE CARD IS WHAT COUNTS. Prove the row's statement (the work); the ties are given (YtephmimhaokhlaaGreatDoorTie.lean); close each card by the builder's one call (the guide's Derived/Test/ToyasCard.lean, 'card_holds'). Laid BY PROGRAM, IN A SANDBOX (cutbox-door.mjs). By AI agents, Wed Nov 11 2026. No macro, syntax, notation, axiom, sorry.
-/
import Derived.Test.YtephmimhaokhlaaGreatDoorRows
import GoSem.ClaimSeven
namespace Go.Proofs.YtephmimhaokhlaaGreatDoor
namespace Rows

/-- THE TIED CARD OF 'laws.FnExactSetupText'. -/
def fnExactSetupTextCard : Claim7 := { stood := { row := fnExactSetupTextRow, standIns := [], harness := (true, "14cd27075e8c19a22eb0119ae904a70e6d667db20cff773d83729e7d443de977"), looks := false }, kinds := [], alts := [], laidByText := true, laidKinds := [.data, .data, .data], laidTests := true, laidLooks := .later }
def FnExactSetupTextCardSaid : Prop := Claim7.holds Tryz.pinned (.plain (OpenSpec.ofChange fnExactSetupTextSpec)) fnExactSetupTextCard

/-- THE SECOND FORM's CARD OF 'laws.FnExactSetupText'. -/
def fnExactSetupTextUptoCard : Claim7 := { stood := { row := fnExactSetupTextUptoRow, standIns := [], harness := (true, "14cd27075e8c19a22eb0119ae904a70e6d667db20cff773d83729e7d443de977"), looks := false }, kinds := [], alts := [], laidByText := true, laidKinds := [.data, .data, .data], laidTests := true, laidLooks := .later }
def FnExactSetupTextUptoCardSaid : Prop := Claim7.holds Tryz.pinned (.plain (OpenSpec.upto fnExactSetupTextSpec)) fnExactSetupTextUptoCard
end Rows
end Go.Proofs.YtephmimhaokhlaaGreatDoor
