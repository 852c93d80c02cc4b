/-
  DERIVED. GIVEN WITH THE SEED: THE CARDS: each row of YtaaiikopnadkeaaDoorRows.lean that lists a variable, with what it lists TIED to the program's text (the seventh form; the later family's looks); each row that meets fmt, with fmt's text TOLD by the authors' own Lean function (tested against real Go, not proved from fmt's source: count such statements apart). THE CARD IS WHAT COUNTS. Prove the row's statement (the work); the ties are given (YtaaiikopnadkeaaDoorTie.lean); close each card by the builder's one call (the guide's Derived/Test/ToyasCard.lean, 'card_holds'). Laid BY PROGRAM, IN A SANDBOX (cutbox-door.mjs). By AI agents, Wed Nov 11 2026. No macro, syntax, notation, axiom, sorry.
-/
import Derived.Test.YtaaiikopnadkeaaDoorRows
import GoSem.ClaimSeven
namespace Go.Proofs.YtaaiikopnadkeaaDoor
namespace Rows

/-- THE TIED CARD OF 'laws.FnExactLocksShow'. -/
def fnExactLocksShowCard : Claim7 := { stood := { row := fnExactLocksShowRow, standIns := [], harness := (true, "d213d477f8f4789e48e6ed1fbfaa91fd0062af58cf5ab43302c9b2f0ef9cba3a"), looks := true }, kinds := [], alts := [], laidByText := true, laidKinds := [.data, .data, .data], laidTests := true, laidLooks := .later }
def FnExactLocksShowCardSaid : Prop := Claim7.holds Tryd.pinned (.plain (OpenSpec.ofChange fnExactLocksShowSpec)) fnExactLocksShowCard

/-- THE TIED CARD OF 'laws.FnExactAcctShow'. -/
def fnExactAcctShowCard : Claim7 := { stood := { row := fnExactAcctShowRow, standIns := [], harness := (true, "d213d477f8f4789e48e6ed1fbfaa91fd0062af58cf5ab43302c9b2f0ef9cba3a"), looks := true }, kinds := [], alts := [], laidByText := true, laidKinds := [.data, .data, .data], laidTests := true, laidLooks := .later }
def FnExactAcctShowCardSaid : Prop := Claim7.holds Tryd.pinned (.plain (OpenSpec.ofChange fnExactAcctShowSpec)) fnExactAcctShowCard

/-- THE TIED CARD OF 'laws.FnExactTextEvent'. -/
def fnExactTextEventCard : Claim7 := { stood := { row := fnExactTextEventRow, standIns := [], harness := (true, "d213d477f8f4789e48e6ed1fbfaa91fd0062af58cf5ab43302c9b2f0ef9cba3a"), looks := true }, kinds := [], alts := [], laidByText := true, laidKinds := [.data, .data, .data, .sentinel, .sentinel], laidTests := true, laidLooks := .later }
def FnExactTextEventCardSaid : Prop := Claim7.holds Tryd.pinned (.plain (OpenSpec.ofChange fnExactTextEventSpec)) fnExactTextEventCard

/-- THE SECOND FORM's CARD OF 'laws.FnExactLocksShow'. -/
def fnExactLocksShowUptoCard : Claim7 := { stood := { row := fnExactLocksShowUptoRow, standIns := [], harness := (true, "d213d477f8f4789e48e6ed1fbfaa91fd0062af58cf5ab43302c9b2f0ef9cba3a"), looks := true }, kinds := [], alts := [], laidByText := true, laidKinds := [.data, .data, .data], laidTests := true, laidLooks := .later }
def FnExactLocksShowUptoCardSaid : Prop := Claim7.holds Tryd.pinned (.plain (OpenSpec.upto fnExactLocksShowSpec)) fnExactLocksShowUptoCard

/-- THE SECOND FORM's CARD OF 'laws.FnExactAcctShow'. -/
def fnExactAcctShowUptoCard : Claim7 := { stood := { row := fnExactAcctShowUptoRow, standIns := [], harness := (true, "d213d477f8f4789e48e6ed1fbfaa91fd0062af58cf5ab43302c9b2f0ef9cba3a"), looks := true }, kinds := [], alts := [], laidByText := true, laidKinds := [.data, .data, .data], laidTests := true, laidLooks := .later }
def FnExactAcctShowUptoCardSaid : Prop := Claim7.holds Tryd.pinned (.plain (OpenSpec.upto fnExactAcctShowSpec)) fnExactAcctShowUptoCard

/-- THE SECOND FORM's CARD OF 'laws.FnExactTextEvent'. -/
def fnExactTextEventUptoCard : Claim7 := { stood := { row := fnExactTextEventUptoRow, standIns := [], harness := (true, "d213d477f8f4789e48e6ed1fbfaa91fd0062af58cf5ab43302c9b2f0ef9cba3a"), looks := true }, kinds := [], alts := [], laidByText := true, laidKinds := [.data, .data, .data, .sentinel, .sentinel], laidTests := true, laidLooks := .later }
def FnExactTextEventUptoCardSaid : Prop := Claim7.holds Tryd.pinned (.plain (OpenSpec.upto fnExactTextEventSpec)) fnExactTextEventUptoCard
end Rows
end Go.Proofs.YtaaiikopnadkeaaDoor
