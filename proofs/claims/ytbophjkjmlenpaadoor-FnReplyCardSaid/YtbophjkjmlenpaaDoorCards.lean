/-
  DERIVED. GIVEN WITH THE SEED: THE CARDS: each row of YtbophjkjmlenpaaDoorRows.lean that lists a variable, with what it lists TIED to the program's text (the seventh form; the later family's looks); each row that meets fmt, with fmt's text TOLD by the authors' own Lean function (tested against real Go, not proved from fmt's source: count such statements apart). THE CARD IS WHAT COUNTS. Prove the row's statement (the work); the ties are given (YtbophjkjmlenpaaDoorTie.lean); close each card by the builder's one call (the guide's Derived/Test/ToyasCard.lean, 'card_holds'). Laid BY PROGRAM, IN A SANDBOX (cutbox-door.mjs). By AI agents, Wed Nov 11 2026. No macro, syntax, notation, axiom, sorry.
-/
import Derived.Test.YtbophjkjmlenpaaDoorRows
import GoSem.ClaimSeven
namespace Go.Proofs.YtbophjkjmlenpaaDoor
namespace Rows

/-- THE TIED CARD OF 'laws.FnReply'. -/
def fnReplyCard : Claim7 := { stood := { row := fnReplyRow, standIns := [], harness := (true, "3c1056116e8dec4b32ef21a387ab208e444c4fcb9d6edee4c299d7a093c8d02b"), looks := true }, kinds := [], alts := [], laidByText := true, laidKinds := [.data, .data, .data, .sentinel, .sentinel], laidTests := true, laidLooks := .later }
def FnReplyCardSaid : Prop := Claim7.holds Tryd.pinned (.plain (OpenSpec.ofChange fnReplySpec)) fnReplyCard

/-- THE SECOND FORM's CARD OF 'laws.FnReply'. -/
def fnReplyUptoCard : Claim7 := { stood := { row := fnReplyUptoRow, standIns := [], harness := (true, "3c1056116e8dec4b32ef21a387ab208e444c4fcb9d6edee4c299d7a093c8d02b"), looks := true }, kinds := [], alts := [], laidByText := true, laidKinds := [.data, .data, .data, .sentinel, .sentinel], laidTests := true, laidLooks := .later }
def FnReplyUptoCardSaid : Prop := Claim7.holds Tryd.pinned (.plain (OpenSpec.upto fnReplySpec)) fnReplyUptoCard
end Rows
end Go.Proofs.YtbophjkjmlenpaaDoor
