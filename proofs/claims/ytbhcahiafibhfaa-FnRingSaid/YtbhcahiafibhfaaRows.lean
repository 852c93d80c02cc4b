/-
  No cell of these rows narrows 'for every input' (looked for: loops, veiled, ifaces, maps, wideKeys, modest, calm, conditions, laid).
  DERIVED. THE GIVEN ROWS OF THIS SEAT. 8 by the template 'for every input the law returns true; each argument reads behind the call as it read before'; 0 by the template 'total and deterministic' (their statements: YtbhcahiafibhfaaTotals.lean).
  GIVEN WITH THE SEED: the statements are not yours to turn. If you find one false, say at which input.
  Laid BY PROGRAM, IN A SANDBOX (cutbox-rows.mjs): the forced cells as the released guide's own fill.sh prints them over the translation 2c83d29930ddd37a… (all of the seat's roots in one cut). By AI agents, Wed Nov 11 2026. No macro, syntax, notation, axiom, sorry.
-/
import Derived.Test.YtbhcahiafibhfaaChecked
import GoSem.Claim
import GoSem.ClaimJoined
import GoSem.ClaimMapViews
import Derived.JoinedTies
import Derived.KernelRfl
namespace Go.Proofs.Ytbhcahiafibhfaa
/- THE CELL 'sum', in the pinned program and in every row, IS THE sha256 OF THE DUMP (.gsa) THAT YtbhcahiafibhfaaProg.lean LOADS. Nothing in Lean hashes anything: it is a label: what it is worth is what the hold of that sum in a sandbox is worth. -/
noncomputable def Try.pinned : Pinned := { name := "ytbhcahiafibhfaa", sum := "2c83d29930ddd37a607e2edf41b6e41b7b0fcf3f40342c8af53e180cd195f7e1", checked := Try.checked }
namespace Rows
def none {H : Type} : Left H := { results := [], args := [] }

/-- 'laws.FnExactTimes': WHATEVER THE INPUT: true; the input reads as it did. -/
def fnExactTimesSpec : ChangeSpec := { name := "fnExactTimes", fn := fun _ => fun
  | [d] => { results := [.lit (.bool true)], args := [d] }
  | _ => none }
def fnExactTimesRow : OpenClaim := { program := "ytbhcahiafibhfaa", sum := "2c83d29930ddd37a607e2edf41b6e41b7b0fcf3f40342c8af53e180cd195f7e1", func := "loop.example/g00735/laws.FnExactTimes", spec := "fnExactTimes", unfollowed := true, recurses := true, apart := false }
def FnExactTimesSaid : Prop := fnExactTimesRow.holds Try.pinned (OpenSpec.ofChange fnExactTimesSpec)

/-- ITS FALSE NEIGHBOUR: 'it returns false'. Refute it at one input. -/
def fnExactTimesWrong : ChangeSpec := { name := "fnExactTimes", fn := fun _ => fun
  | [d] => { results := [.lit (.bool false)], args := [d] }
  | _ => none }
def FnExactTimesWrongFalsely : Prop := fnExactTimesRow.holds Try.pinned (OpenSpec.ofChange fnExactTimesWrong)

/-- 'laws.FnExactMeets': WHATEVER THE INPUT: true; the input reads as it did. -/
def fnExactMeetsSpec : ChangeSpec := { name := "fnExactMeets", fn := fun _ => fun
  | [d1, d2] => { results := [.lit (.bool true)], args := [d1, d2] }
  | _ => none }
def fnExactMeetsRow : OpenClaim := { program := "ytbhcahiafibhfaa", sum := "2c83d29930ddd37a607e2edf41b6e41b7b0fcf3f40342c8af53e180cd195f7e1", func := "loop.example/g00735/laws.FnExactMeets", spec := "fnExactMeets", unfollowed := true, recurses := true, apart := false }
def FnExactMeetsSaid : Prop := fnExactMeetsRow.holds Try.pinned (OpenSpec.ofChange fnExactMeetsSpec)

/-- ITS FALSE NEIGHBOUR: 'it returns false'. Refute it at one input. -/
def fnExactMeetsWrong : ChangeSpec := { name := "fnExactMeets", fn := fun _ => fun
  | [d1, d2] => { results := [.lit (.bool false)], args := [d1, d2] }
  | _ => none }
def FnExactMeetsWrongFalsely : Prop := fnExactMeetsRow.holds Try.pinned (OpenSpec.ofChange fnExactMeetsWrong)

/-- 'laws.FnExactRingRoll': WHATEVER THE INPUT: true; the input reads as it did. -/
def fnExactRingRollSpec : ChangeSpec := { name := "fnExactRingRoll", fn := fun _ => fun
  | [d1, d2] => { results := [.lit (.bool true)], args := [d1, d2] }
  | _ => none }
def fnExactRingRollRow : OpenClaim := { program := "ytbhcahiafibhfaa", sum := "2c83d29930ddd37a607e2edf41b6e41b7b0fcf3f40342c8af53e180cd195f7e1", func := "loop.example/g00735/laws.FnExactRingRoll", spec := "fnExactRingRoll", apart := false }
def FnExactRingRollSaid : Prop := fnExactRingRollRow.holds Try.pinned (OpenSpec.ofChange fnExactRingRollSpec)

/-- ITS FALSE NEIGHBOUR: 'it returns false'. Refute it at one input. -/
def fnExactRingRollWrong : ChangeSpec := { name := "fnExactRingRoll", fn := fun _ => fun
  | [d1, d2] => { results := [.lit (.bool false)], args := [d1, d2] }
  | _ => none }
def FnExactRingRollWrongFalsely : Prop := fnExactRingRollRow.holds Try.pinned (OpenSpec.ofChange fnExactRingRollWrong)

/-- 'laws.FnExactRingCount': WHATEVER THE INPUT: true; the input reads as it did. -/
def fnExactRingCountSpec : ChangeSpec := { name := "fnExactRingCount", fn := fun _ => fun
  | [d1, d2] => { results := [.lit (.bool true)], args := [d1, d2] }
  | _ => none }
def fnExactRingCountRow : OpenClaim := { program := "ytbhcahiafibhfaa", sum := "2c83d29930ddd37a607e2edf41b6e41b7b0fcf3f40342c8af53e180cd195f7e1", func := "loop.example/g00735/laws.FnExactRingCount", spec := "fnExactRingCount", apart := false }
def FnExactRingCountSaid : Prop := fnExactRingCountRow.holds Try.pinned (OpenSpec.ofChange fnExactRingCountSpec)

/-- ITS FALSE NEIGHBOUR: 'it returns false'. Refute it at one input. -/
def fnExactRingCountWrong : ChangeSpec := { name := "fnExactRingCount", fn := fun _ => fun
  | [d1, d2] => { results := [.lit (.bool false)], args := [d1, d2] }
  | _ => none }
def FnExactRingCountWrongFalsely : Prop := fnExactRingCountRow.holds Try.pinned (OpenSpec.ofChange fnExactRingCountWrong)

/-- 'laws.FnExactRingSum': WHATEVER THE INPUT: true; the input reads as it did. -/
def fnExactRingSumSpec : ChangeSpec := { name := "fnExactRingSum", fn := fun _ => fun
  | [d1, d2] => { results := [.lit (.bool true)], args := [d1, d2] }
  | _ => none }
def fnExactRingSumRow : OpenClaim := { program := "ytbhcahiafibhfaa", sum := "2c83d29930ddd37a607e2edf41b6e41b7b0fcf3f40342c8af53e180cd195f7e1", func := "loop.example/g00735/laws.FnExactRingSum", spec := "fnExactRingSum", apart := false }
def FnExactRingSumSaid : Prop := fnExactRingSumRow.holds Try.pinned (OpenSpec.ofChange fnExactRingSumSpec)

/-- ITS FALSE NEIGHBOUR: 'it returns false'. Refute it at one input. -/
def fnExactRingSumWrong : ChangeSpec := { name := "fnExactRingSum", fn := fun _ => fun
  | [d1, d2] => { results := [.lit (.bool false)], args := [d1, d2] }
  | _ => none }
def FnExactRingSumWrongFalsely : Prop := fnExactRingSumRow.holds Try.pinned (OpenSpec.ofChange fnExactRingSumWrong)

/-- 'laws.FnRing': WHATEVER THE INPUT: true; the input reads as it did. -/
def fnRingSpec : ChangeSpec := { name := "fnRing", fn := fun _ => fun
  | [d] => { results := [.lit (.bool true)], args := [d] }
  | _ => none }
def fnRingRow : OpenClaim := { program := "ytbhcahiafibhfaa", sum := "2c83d29930ddd37a607e2edf41b6e41b7b0fcf3f40342c8af53e180cd195f7e1", func := "loop.example/g00735/laws.FnRing", spec := "fnRing", apart := false }
def FnRingSaid : Prop := fnRingRow.holds Try.pinned (OpenSpec.ofChange fnRingSpec)

/-- ITS FALSE NEIGHBOUR: 'it returns false'. Refute it at one input. -/
def fnRingWrong : ChangeSpec := { name := "fnRing", fn := fun _ => fun
  | [d] => { results := [.lit (.bool false)], args := [d] }
  | _ => none }
def FnRingWrongFalsely : Prop := fnRingRow.holds Try.pinned (OpenSpec.ofChange fnRingWrong)

/-- 'laws.FnExactRingAdd': WHATEVER THE INPUT: true; the input reads as it did. -/
def fnExactRingAddSpec : ChangeSpec := { name := "fnExactRingAdd", fn := fun _ => fun
  | [d1, d2, d3] => { results := [.lit (.bool true)], args := [d1, d2, d3] }
  | _ => none }
def fnExactRingAddRow : OpenClaim := { program := "ytbhcahiafibhfaa", sum := "2c83d29930ddd37a607e2edf41b6e41b7b0fcf3f40342c8af53e180cd195f7e1", func := "loop.example/g00735/laws.FnExactRingAdd", spec := "fnExactRingAdd", apart := false }
def FnExactRingAddSaid : Prop := fnExactRingAddRow.holds Try.pinned (OpenSpec.ofChange fnExactRingAddSpec)

/-- ITS FALSE NEIGHBOUR: 'it returns false'. Refute it at one input. -/
def fnExactRingAddWrong : ChangeSpec := { name := "fnExactRingAdd", fn := fun _ => fun
  | [d1, d2, d3] => { results := [.lit (.bool false)], args := [d1, d2, d3] }
  | _ => none }
def FnExactRingAddWrongFalsely : Prop := fnExactRingAddRow.holds Try.pinned (OpenSpec.ofChange fnExactRingAddWrong)

/-- 'laws.FnExactKept': WHATEVER THE INPUT: true; the input reads as it did. -/
def fnExactKeptSpec : ChangeSpec := { name := "fnExactKept", fn := fun _ => fun
  | [d1, d2] => { results := [.lit (.bool true)], args := [d1, d2] }
  | _ => none }
def fnExactKeptRow : OpenClaim := { program := "ytbhcahiafibhfaa", sum := "2c83d29930ddd37a607e2edf41b6e41b7b0fcf3f40342c8af53e180cd195f7e1", func := "loop.example/g00735/laws.FnExactKept", spec := "fnExactKept", unfollowed := true, recurses := true, apart := false }
def FnExactKeptSaid : Prop := fnExactKeptRow.holds Try.pinned (OpenSpec.ofChange fnExactKeptSpec)

/-- ITS FALSE NEIGHBOUR: 'it returns false'. Refute it at one input. -/
def fnExactKeptWrong : ChangeSpec := { name := "fnExactKept", fn := fun _ => fun
  | [d1, d2] => { results := [.lit (.bool false)], args := [d1, d2] }
  | _ => none }
def FnExactKeptWrongFalsely : Prop := fnExactKeptRow.holds Try.pinned (OpenSpec.ofChange fnExactKeptWrong)

/- THE SECOND FORM. 'bulk': how many values and letters a reading holds, each counted each time it is reached (what is shared counts as often as it is met; a slice's spare places count too). A statement '..UptoSaid' is the law's where the arguments, and the package variables that the reading takes, are together of bulk at most 1048576: NARROWER than '..Said'. Prove '..Said' where nothing that the law and all that it calls make is longer than what came in: it says more and counts as full. Else prove '..UptoSaid'. A law counts once. -/
mutual
def uptoBulk {H : Type} : DataW H → Nat
  | .lit (.string bytes) => bytes.length + 1
  | .lit _ => 1
  | .nil => 1
  | .ptr d => uptoBulk d + 1
  | .slice elems spare => uptoBulkAll elems + uptoBulkAll spare + 1
  | .agg parts => uptoBulkAll parts + 1
  | .iface _ d => uptoBulk d + 1
  | .map entries => uptoBulkEntries entries + 1
  | .held _ => 1
def uptoBulkAll {H : Type} : List (DataW H) → Nat
  | [] => 0
  | d :: r => uptoBulk d + uptoBulkAll r
def uptoBulkEntries {H : Type} : List (Lit × DataW H) → Nat
  | [] => 0
  | x :: r => uptoBulkEntry x + uptoBulkEntries r
def uptoBulkEntry {H : Type} : Lit × DataW H → Nat
  | (.string bytes, d) => bytes.length + uptoBulk d + 1
  | (_, d) => uptoBulk d + 1
 end
def uptoSmall : (H : Type) → List (DataW H) → Bool := fun _ ds => decide (uptoBulkAll ds ≤ 1048576)
def OpenSpec.upto (s : _root_.Go.ChangeSpec) : _root_.Go.OpenSpec := { _root_.Go.OpenSpec.ofChange s with cond := some uptoSmall }

/-- 'laws.FnExactTimes', WHERE WHAT IT READS IS OF BULK AT MOST 1048576: true; the input reads as it did. -/
def fnExactTimesUptoRow : OpenClaim := { program := "ytbhcahiafibhfaa", sum := "2c83d29930ddd37a607e2edf41b6e41b7b0fcf3f40342c8af53e180cd195f7e1", func := "loop.example/g00735/laws.FnExactTimes", spec := "fnExactTimes", unfollowed := true, recurses := true, apart := false, narrowed := true }
def FnExactTimesUptoSaid : Prop := fnExactTimesUptoRow.holds Try.pinned (OpenSpec.upto fnExactTimesSpec)

/-- 'laws.FnExactMeets', WHERE WHAT IT READS IS OF BULK AT MOST 1048576: true; the input reads as it did. -/
def fnExactMeetsUptoRow : OpenClaim := { program := "ytbhcahiafibhfaa", sum := "2c83d29930ddd37a607e2edf41b6e41b7b0fcf3f40342c8af53e180cd195f7e1", func := "loop.example/g00735/laws.FnExactMeets", spec := "fnExactMeets", unfollowed := true, recurses := true, apart := false, narrowed := true }
def FnExactMeetsUptoSaid : Prop := fnExactMeetsUptoRow.holds Try.pinned (OpenSpec.upto fnExactMeetsSpec)

/-- 'laws.FnExactRingRoll', WHERE WHAT IT READS IS OF BULK AT MOST 1048576: true; the input reads as it did. -/
def fnExactRingRollUptoRow : OpenClaim := { program := "ytbhcahiafibhfaa", sum := "2c83d29930ddd37a607e2edf41b6e41b7b0fcf3f40342c8af53e180cd195f7e1", func := "loop.example/g00735/laws.FnExactRingRoll", spec := "fnExactRingRoll", apart := false, narrowed := true }
def FnExactRingRollUptoSaid : Prop := fnExactRingRollUptoRow.holds Try.pinned (OpenSpec.upto fnExactRingRollSpec)

/-- 'laws.FnExactRingCount', WHERE WHAT IT READS IS OF BULK AT MOST 1048576: true; the input reads as it did. -/
def fnExactRingCountUptoRow : OpenClaim := { program := "ytbhcahiafibhfaa", sum := "2c83d29930ddd37a607e2edf41b6e41b7b0fcf3f40342c8af53e180cd195f7e1", func := "loop.example/g00735/laws.FnExactRingCount", spec := "fnExactRingCount", apart := false, narrowed := true }
def FnExactRingCountUptoSaid : Prop := fnExactRingCountUptoRow.holds Try.pinned (OpenSpec.upto fnExactRingCountSpec)

/-- 'laws.FnExactRingSum', WHERE WHAT IT READS IS OF BULK AT MOST 1048576: true; the input reads as it did. -/
def fnExactRingSumUptoRow : OpenClaim := { program := "ytbhcahiafibhfaa", sum := "2c83d29930ddd37a607e2edf41b6e41b7b0fcf3f40342c8af53e180cd195f7e1", func := "loop.example/g00735/laws.FnExactRingSum", spec := "fnExactRingSum", apart := false, narrowed := true }
def FnExactRingSumUptoSaid : Prop := fnExactRingSumUptoRow.holds Try.pinned (OpenSpec.upto fnExactRingSumSpec)

/-- 'laws.FnRing', WHERE WHAT IT READS IS OF BULK AT MOST 1048576: true; the input reads as it did. -/
def fnRingUptoRow : OpenClaim := { program := "ytbhcahiafibhfaa", sum := "2c83d29930ddd37a607e2edf41b6e41b7b0fcf3f40342c8af53e180cd195f7e1", func := "loop.example/g00735/laws.FnRing", spec := "fnRing", apart := false, narrowed := true }
def FnRingUptoSaid : Prop := fnRingUptoRow.holds Try.pinned (OpenSpec.upto fnRingSpec)

/-- 'laws.FnExactRingAdd', WHERE WHAT IT READS IS OF BULK AT MOST 1048576: true; the input reads as it did. -/
def fnExactRingAddUptoRow : OpenClaim := { program := "ytbhcahiafibhfaa", sum := "2c83d29930ddd37a607e2edf41b6e41b7b0fcf3f40342c8af53e180cd195f7e1", func := "loop.example/g00735/laws.FnExactRingAdd", spec := "fnExactRingAdd", apart := false, narrowed := true }
def FnExactRingAddUptoSaid : Prop := fnExactRingAddUptoRow.holds Try.pinned (OpenSpec.upto fnExactRingAddSpec)

/-- 'laws.FnExactKept', WHERE WHAT IT READS IS OF BULK AT MOST 1048576: true; the input reads as it did. -/
def fnExactKeptUptoRow : OpenClaim := { program := "ytbhcahiafibhfaa", sum := "2c83d29930ddd37a607e2edf41b6e41b7b0fcf3f40342c8af53e180cd195f7e1", func := "loop.example/g00735/laws.FnExactKept", spec := "fnExactKept", unfollowed := true, recurses := true, apart := false, narrowed := true }
def FnExactKeptUptoSaid : Prop := fnExactKeptUptoRow.holds Try.pinned (OpenSpec.upto fnExactKeptSpec)

end Rows
end Go.Proofs.Ytbhcahiafibhfaa
