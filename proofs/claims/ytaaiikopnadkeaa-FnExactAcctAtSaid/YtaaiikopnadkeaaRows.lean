/-
  No cell of these rows narrows 'for every input' (looked for: loops, veiled, ifaces, maps, wideKeys, modest, calm, conditions, laid).
  DERIVED. THE GIVEN ROWS OF THIS SEAT. 6 by the template 'for every input the law returns true; each argument reads behind the call as it read before'; 0 by the template 'total and deterministic' (their statements: YtaaiikopnadkeaaTotals.lean).
  GIVEN WITH THE SEED: the statements are not yours to turn. If you find one false, say at which input.
  Laid BY PROGRAM, IN A SANDBOX (cutbox-rows.mjs): the forced cells as the released guide's own fill.sh prints them over the translation fe438ab80a3dc398… (all of the seat's roots in one cut). By AI agents, Wed Nov 11 2026. No macro, syntax, notation, axiom, sorry.
-/
import Derived.Test.YtaaiikopnadkeaaChecked
import GoSem.Claim
import GoSem.ClaimJoined
import GoSem.ClaimMapViews
import Derived.JoinedTies
import Derived.KernelRfl
namespace Go.Proofs.Ytaaiikopnadkeaa
/- THE CELL 'sum', in the pinned program and in every row, IS THE sha256 OF THE DUMP (.gsa) THAT YtaaiikopnadkeaaProg.lean LOADS. Nothing in Lean hashes anything: it is a label: what it is worth is what the hold of that sum in a sandbox is worth. -/
noncomputable def Try.pinned : Pinned := { name := "ytaaiikopnadkeaa", sum := "fe438ab80a3dc398070d6790dca0b55e75ffb9e9912f56a127c2dfe751644094", checked := Try.checked }
namespace Rows
def none {H : Type} : Left H := { results := [], args := [] }

/-- 'laws.FnLock': WHATEVER THE INPUT: true; the input reads as it did. -/
def fnLockSpec : ChangeSpec := { name := "fnLock", fn := fun _ => fun
  | [d] => { results := [.lit (.bool true)], args := [d] }
  | _ => none }
def fnLockRow : OpenClaim := { program := "ytaaiikopnadkeaa", sum := "fe438ab80a3dc398070d6790dca0b55e75ffb9e9912f56a127c2dfe751644094", func := "loop.example/g00735/laws.FnLock", spec := "fnLock", unfollowed := true, recurses := true, apart := false }
def FnLockSaid : Prop := fnLockRow.holds Try.pinned (OpenSpec.ofChange fnLockSpec)

/-- ITS FALSE NEIGHBOUR: 'it returns false'. Refute it at one input. -/
def fnLockWrong : ChangeSpec := { name := "fnLock", fn := fun _ => fun
  | [d] => { results := [.lit (.bool false)], args := [d] }
  | _ => none }
def FnLockWrongFalsely : Prop := fnLockRow.holds Try.pinned (OpenSpec.ofChange fnLockWrong)

/-- 'laws.FnExactAcctSwept': WHATEVER THE INPUT: true; the input reads as it did. -/
def fnExactAcctSweptSpec : ChangeSpec := { name := "fnExactAcctSwept", fn := fun _ => fun
  | [d1, d2] => { results := [.lit (.bool true)], args := [d1, d2] }
  | _ => none }
def fnExactAcctSweptRow : OpenClaim := { program := "ytaaiikopnadkeaa", sum := "fe438ab80a3dc398070d6790dca0b55e75ffb9e9912f56a127c2dfe751644094", func := "loop.example/g00735/laws.FnExactAcctSwept", spec := "fnExactAcctSwept", unfollowed := true, recurses := true, apart := false }
def FnExactAcctSweptSaid : Prop := fnExactAcctSweptRow.holds Try.pinned (OpenSpec.ofChange fnExactAcctSweptSpec)

/-- ITS FALSE NEIGHBOUR: 'it returns false'. Refute it at one input. -/
def fnExactAcctSweptWrong : ChangeSpec := { name := "fnExactAcctSwept", fn := fun _ => fun
  | [d1, d2] => { results := [.lit (.bool false)], args := [d1, d2] }
  | _ => none }
def FnExactAcctSweptWrongFalsely : Prop := fnExactAcctSweptRow.holds Try.pinned (OpenSpec.ofChange fnExactAcctSweptWrong)

/-- 'laws.FnExactSweep': WHATEVER THE INPUT: true; the input reads as it did. -/
def fnExactSweepSpec : ChangeSpec := { name := "fnExactSweep", fn := fun _ => fun
  | [d1, d2] => { results := [.lit (.bool true)], args := [d1, d2] }
  | _ => none }
def fnExactSweepRow : OpenClaim := { program := "ytaaiikopnadkeaa", sum := "fe438ab80a3dc398070d6790dca0b55e75ffb9e9912f56a127c2dfe751644094", func := "loop.example/g00735/laws.FnExactSweep", spec := "fnExactSweep", unfollowed := true, recurses := true, apart := false }
def FnExactSweepSaid : Prop := fnExactSweepRow.holds Try.pinned (OpenSpec.ofChange fnExactSweepSpec)

/-- ITS FALSE NEIGHBOUR: 'it returns false'. Refute it at one input. -/
def fnExactSweepWrong : ChangeSpec := { name := "fnExactSweep", fn := fun _ => fun
  | [d1, d2] => { results := [.lit (.bool false)], args := [d1, d2] }
  | _ => none }
def FnExactSweepWrongFalsely : Prop := fnExactSweepRow.holds Try.pinned (OpenSpec.ofChange fnExactSweepWrong)

/-- 'laws.FnExactGather': WHATEVER THE INPUT: true; the input reads as it did. -/
def fnExactGatherSpec : ChangeSpec := { name := "fnExactGather", fn := fun _ => fun
  | [d] => { results := [.lit (.bool true)], args := [d] }
  | _ => none }
def fnExactGatherRow : OpenClaim := { program := "ytaaiikopnadkeaa", sum := "fe438ab80a3dc398070d6790dca0b55e75ffb9e9912f56a127c2dfe751644094", func := "loop.example/g00735/laws.FnExactGather", spec := "fnExactGather", unfollowed := true, recurses := true, apart := false }
def FnExactGatherSaid : Prop := fnExactGatherRow.holds Try.pinned (OpenSpec.ofChange fnExactGatherSpec)

/-- ITS FALSE NEIGHBOUR: 'it returns false'. Refute it at one input. -/
def fnExactGatherWrong : ChangeSpec := { name := "fnExactGather", fn := fun _ => fun
  | [d] => { results := [.lit (.bool false)], args := [d] }
  | _ => none }
def FnExactGatherWrongFalsely : Prop := fnExactGatherRow.holds Try.pinned (OpenSpec.ofChange fnExactGatherWrong)

/-- 'laws.FnExactAcctAt': WHATEVER THE INPUT: true; the input reads as it did. -/
def fnExactAcctAtSpec : ChangeSpec := { name := "fnExactAcctAt", fn := fun _ => fun
  | [d1, d2] => { results := [.lit (.bool true)], args := [d1, d2] }
  | _ => none }
def fnExactAcctAtRow : OpenClaim := { program := "ytaaiikopnadkeaa", sum := "fe438ab80a3dc398070d6790dca0b55e75ffb9e9912f56a127c2dfe751644094", func := "loop.example/g00735/laws.FnExactAcctAt", spec := "fnExactAcctAt", unfollowed := true, recurses := true, apart := false }
def FnExactAcctAtSaid : Prop := fnExactAcctAtRow.holds Try.pinned (OpenSpec.ofChange fnExactAcctAtSpec)

/-- ITS FALSE NEIGHBOUR: 'it returns false'. Refute it at one input. -/
def fnExactAcctAtWrong : ChangeSpec := { name := "fnExactAcctAt", fn := fun _ => fun
  | [d1, d2] => { results := [.lit (.bool false)], args := [d1, d2] }
  | _ => none }
def FnExactAcctAtWrongFalsely : Prop := fnExactAcctAtRow.holds Try.pinned (OpenSpec.ofChange fnExactAcctAtWrong)

/-- 'laws.FnExactPart': WHATEVER THE INPUT: true; the input reads as it did. -/
def fnExactPartSpec : ChangeSpec := { name := "fnExactPart", fn := fun _ => fun
  | [d1, d2] => { results := [.lit (.bool true)], args := [d1, d2] }
  | _ => none }
def fnExactPartRow : OpenClaim := { program := "ytaaiikopnadkeaa", sum := "fe438ab80a3dc398070d6790dca0b55e75ffb9e9912f56a127c2dfe751644094", func := "loop.example/g00735/laws.FnExactPart", spec := "fnExactPart", unfollowed := true, recurses := true, apart := false }
def FnExactPartSaid : Prop := fnExactPartRow.holds Try.pinned (OpenSpec.ofChange fnExactPartSpec)

/-- ITS FALSE NEIGHBOUR: 'it returns false'. Refute it at one input. -/
def fnExactPartWrong : ChangeSpec := { name := "fnExactPart", fn := fun _ => fun
  | [d1, d2] => { results := [.lit (.bool false)], args := [d1, d2] }
  | _ => none }
def FnExactPartWrongFalsely : Prop := fnExactPartRow.holds Try.pinned (OpenSpec.ofChange fnExactPartWrong)

/- THE SECOND FORM. 'bulk': how many values and letters a reading holds, each counted each time it is reached (what is shared counts as often as it is met; a slice's spare places count too). A statement '..UptoSaid' is the law's where the arguments, and the package variables that the reading takes, are together of bulk at most 1048576: NARROWER than '..Said'. Prove '..Said' where nothing that the law and all that it calls make is longer than what came in: it says more and counts as full. Else prove '..UptoSaid'. A law counts once. -/
mutual
def uptoBulk {H : Type} : DataW H → Nat
  | .lit (.string bytes) => bytes.length + 1
  | .lit _ => 1
  | .nil => 1
  | .ptr d => uptoBulk d + 1
  | .slice elems spare => uptoBulkAll elems + uptoBulkAll spare + 1
  | .agg parts => uptoBulkAll parts + 1
  | .iface _ d => uptoBulk d + 1
  | .map entries => uptoBulkEntries entries + 1
  | .held _ => 1
def uptoBulkAll {H : Type} : List (DataW H) → Nat
  | [] => 0
  | d :: r => uptoBulk d + uptoBulkAll r
def uptoBulkEntries {H : Type} : List (Lit × DataW H) → Nat
  | [] => 0
  | x :: r => uptoBulkEntry x + uptoBulkEntries r
def uptoBulkEntry {H : Type} : Lit × DataW H → Nat
  | (.string bytes, d) => bytes.length + uptoBulk d + 1
  | (_, d) => uptoBulk d + 1
 end
def uptoSmall : (H : Type) → List (DataW H) → Bool := fun _ ds => decide (uptoBulkAll ds ≤ 1048576)
def OpenSpec.upto (s : _root_.Go.ChangeSpec) : _root_.Go.OpenSpec := { _root_.Go.OpenSpec.ofChange s with cond := some uptoSmall }

/-- 'laws.FnLock', WHERE WHAT IT READS IS OF BULK AT MOST 1048576: true; the input reads as it did. -/
def fnLockUptoRow : OpenClaim := { program := "ytaaiikopnadkeaa", sum := "fe438ab80a3dc398070d6790dca0b55e75ffb9e9912f56a127c2dfe751644094", func := "loop.example/g00735/laws.FnLock", spec := "fnLock", unfollowed := true, recurses := true, apart := false, narrowed := true }
def FnLockUptoSaid : Prop := fnLockUptoRow.holds Try.pinned (OpenSpec.upto fnLockSpec)

/-- 'laws.FnExactAcctSwept', WHERE WHAT IT READS IS OF BULK AT MOST 1048576: true; the input reads as it did. -/
def fnExactAcctSweptUptoRow : OpenClaim := { program := "ytaaiikopnadkeaa", sum := "fe438ab80a3dc398070d6790dca0b55e75ffb9e9912f56a127c2dfe751644094", func := "loop.example/g00735/laws.FnExactAcctSwept", spec := "fnExactAcctSwept", unfollowed := true, recurses := true, apart := false, narrowed := true }
def FnExactAcctSweptUptoSaid : Prop := fnExactAcctSweptUptoRow.holds Try.pinned (OpenSpec.upto fnExactAcctSweptSpec)

/-- 'laws.FnExactSweep', WHERE WHAT IT READS IS OF BULK AT MOST 1048576: true; the input reads as it did. -/
def fnExactSweepUptoRow : OpenClaim := { program := "ytaaiikopnadkeaa", sum := "fe438ab80a3dc398070d6790dca0b55e75ffb9e9912f56a127c2dfe751644094", func := "loop.example/g00735/laws.FnExactSweep", spec := "fnExactSweep", unfollowed := true, recurses := true, apart := false, narrowed := true }
def FnExactSweepUptoSaid : Prop := fnExactSweepUptoRow.holds Try.pinned (OpenSpec.upto fnExactSweepSpec)

/-- 'laws.FnExactGather', WHERE WHAT IT READS IS OF BULK AT MOST 1048576: true; the input reads as it did. -/
def fnExactGatherUptoRow : OpenClaim := { program := "ytaaiikopnadkeaa", sum := "fe438ab80a3dc398070d6790dca0b55e75ffb9e9912f56a127c2dfe751644094", func := "loop.example/g00735/laws.FnExactGather", spec := "fnExactGather", unfollowed := true, recurses := true, apart := false, narrowed := true }
def FnExactGatherUptoSaid : Prop := fnExactGatherUptoRow.holds Try.pinned (OpenSpec.upto fnExactGatherSpec)

/-- 'laws.FnExactAcctAt', WHERE WHAT IT READS IS OF BULK AT MOST 1048576: true; the input reads as it did. -/
def fnExactAcctAtUptoRow : OpenClaim := { program := "ytaaiikopnadkeaa", sum := "fe438ab80a3dc398070d6790dca0b55e75ffb9e9912f56a127c2dfe751644094", func := "loop.example/g00735/laws.FnExactAcctAt", spec := "fnExactAcctAt", unfollowed := true, recurses := true, apart := false, narrowed := true }
def FnExactAcctAtUptoSaid : Prop := fnExactAcctAtUptoRow.holds Try.pinned (OpenSpec.upto fnExactAcctAtSpec)

/-- 'laws.FnExactPart', WHERE WHAT IT READS IS OF BULK AT MOST 1048576: true; the input reads as it did. -/
def fnExactPartUptoRow : OpenClaim := { program := "ytaaiikopnadkeaa", sum := "fe438ab80a3dc398070d6790dca0b55e75ffb9e9912f56a127c2dfe751644094", func := "loop.example/g00735/laws.FnExactPart", spec := "fnExactPart", unfollowed := true, recurses := true, apart := false, narrowed := true }
def FnExactPartUptoSaid : Prop := fnExactPartUptoRow.holds Try.pinned (OpenSpec.upto fnExactPartSpec)

end Rows
end Go.Proofs.Ytaaiikopnadkeaa
