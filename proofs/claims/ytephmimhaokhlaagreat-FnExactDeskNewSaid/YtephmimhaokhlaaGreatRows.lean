/-
  No cell of these rows narrows 'for every input' (looked for: loops, veiled, ifaces, maps, wideKeys, modest, calm, conditions, laid).
  DERIVED. THE GIVEN ROWS OF THIS SEAT. 6 by the template 'for every input the law returns true; each argument reads behind the call as it read before'; 0 by the template 'total and deterministic' (their statements: YtephmimhaokhlaaGreatTotals.lean).
  GIVEN WITH THE SEED: the statements are not yours to turn. If you find one false, say at which input.
  Laid BY PROGRAM, IN A SANDBOX (cutbox-rows.mjs): the forced cells as the released guide's own fill.sh prints them over the translation 08af456be9559a0a… (all of the seat's roots in one cut). By AI agents, Wed Nov 11 2026. No macro, syntax, notation, axiom, sorry.
-/
import Derived.Test.YtephmimhaokhlaaGreatChecked
import GoSem.Claim
import GoSem.ClaimJoined
import GoSem.ClaimMapViews
import Derived.JoinedTies
import Derived.KernelRfl
namespace Go.Proofs.YtephmimhaokhlaaGreat
/- THE CELL 'sum', in the pinned program and in every row, IS THE sha256 OF THE DUMP (.gsa) THAT YtephmimhaokhlaaGreatProg.lean LOADS. Nothing in Lean hashes anything: it is a label: what it is worth is what the hold of that sum in a sandbox is worth. -/
noncomputable def Tryz.pinned : Pinned := { name := "ytephmimhaokhlaagreat", sum := "08af456be9559a0a715693f8f680cd2cd7a0586027d0af3bdcea0c361c01e39f", checked := Tryz.checked }
namespace Rows
def none {H : Type} : Left H := { results := [], args := [] }

/-- 'laws.FnExactSweepAll': WHATEVER THE INPUT: true; the input reads as it did. -/
def fnExactSweepAllSpec : ChangeSpec := { name := "fnExactSweepAll", fn := fun _ => fun
  | [d1, d2] => { results := [.lit (.bool true)], args := [d1, d2] }
  | _ => none }
def fnExactSweepAllRow : OpenClaim := { program := "ytephmimhaokhlaagreat", sum := "08af456be9559a0a715693f8f680cd2cd7a0586027d0af3bdcea0c361c01e39f", func := "loop.example/g00735/laws.FnExactSweepAll", spec := "fnExactSweepAll", unfollowed := true, recurses := true, apart := false }
def FnExactSweepAllSaid : Prop := fnExactSweepAllRow.holds Tryz.pinned (OpenSpec.ofChange fnExactSweepAllSpec)

/-- ITS FALSE NEIGHBOUR: 'it returns false'. Refute it at one input. -/
def fnExactSweepAllWrong : ChangeSpec := { name := "fnExactSweepAll", fn := fun _ => fun
  | [d1, d2] => { results := [.lit (.bool false)], args := [d1, d2] }
  | _ => none }
def FnExactSweepAllWrongFalsely : Prop := fnExactSweepAllRow.holds Tryz.pinned (OpenSpec.ofChange fnExactSweepAllWrong)

/-- 'laws.FnExactBookPut': WHATEVER THE INPUT: true; the input reads as it did. -/
def fnExactBookPutSpec : ChangeSpec := { name := "fnExactBookPut", fn := fun _ => fun
  | [d1, d2] => { results := [.lit (.bool true)], args := [d1, d2] }
  | _ => none }
def fnExactBookPutRow : OpenClaim := { program := "ytephmimhaokhlaagreat", sum := "08af456be9559a0a715693f8f680cd2cd7a0586027d0af3bdcea0c361c01e39f", func := "loop.example/g00735/laws.FnExactBookPut", spec := "fnExactBookPut", unfollowed := true, recurses := true, apart := false }
def FnExactBookPutSaid : Prop := fnExactBookPutRow.holds Tryz.pinned (OpenSpec.ofChange fnExactBookPutSpec)

/-- ITS FALSE NEIGHBOUR: 'it returns false'. Refute it at one input. -/
def fnExactBookPutWrong : ChangeSpec := { name := "fnExactBookPut", fn := fun _ => fun
  | [d1, d2] => { results := [.lit (.bool false)], args := [d1, d2] }
  | _ => none }
def FnExactBookPutWrongFalsely : Prop := fnExactBookPutRow.holds Tryz.pinned (OpenSpec.ofChange fnExactBookPutWrong)

/-- 'laws.FnExactStripesOk': WHATEVER THE INPUT: true; the input reads as it did. -/
def fnExactStripesOkSpec : ChangeSpec := { name := "fnExactStripesOk", fn := fun _ => fun
  | [d] => { results := [.lit (.bool true)], args := [d] }
  | _ => none }
def fnExactStripesOkRow : OpenClaim := { program := "ytephmimhaokhlaagreat", sum := "08af456be9559a0a715693f8f680cd2cd7a0586027d0af3bdcea0c361c01e39f", func := "loop.example/g00735/laws.FnExactStripesOk", spec := "fnExactStripesOk", unfollowed := true, recurses := true, apart := false }
def FnExactStripesOkSaid : Prop := fnExactStripesOkRow.holds Tryz.pinned (OpenSpec.ofChange fnExactStripesOkSpec)

/-- ITS FALSE NEIGHBOUR: 'it returns false'. Refute it at one input. -/
def fnExactStripesOkWrong : ChangeSpec := { name := "fnExactStripesOk", fn := fun _ => fun
  | [d] => { results := [.lit (.bool false)], args := [d] }
  | _ => none }
def FnExactStripesOkWrongFalsely : Prop := fnExactStripesOkRow.holds Tryz.pinned (OpenSpec.ofChange fnExactStripesOkWrong)

/-- 'laws.FnExactSpread': WHATEVER THE INPUT: true; the input reads as it did. -/
def fnExactSpreadSpec : ChangeSpec := { name := "fnExactSpread", fn := fun _ => fun
  | [d1, d2] => { results := [.lit (.bool true)], args := [d1, d2] }
  | _ => none }
def fnExactSpreadRow : OpenClaim := { program := "ytephmimhaokhlaagreat", sum := "08af456be9559a0a715693f8f680cd2cd7a0586027d0af3bdcea0c361c01e39f", func := "loop.example/g00735/laws.FnExactSpread", spec := "fnExactSpread", unfollowed := true, recurses := true, apart := false }
def FnExactSpreadSaid : Prop := fnExactSpreadRow.holds Tryz.pinned (OpenSpec.ofChange fnExactSpreadSpec)

/-- ITS FALSE NEIGHBOUR: 'it returns false'. Refute it at one input. -/
def fnExactSpreadWrong : ChangeSpec := { name := "fnExactSpread", fn := fun _ => fun
  | [d1, d2] => { results := [.lit (.bool false)], args := [d1, d2] }
  | _ => none }
def FnExactSpreadWrongFalsely : Prop := fnExactSpreadRow.holds Tryz.pinned (OpenSpec.ofChange fnExactSpreadWrong)

/-- 'laws.FnExactBookTime': WHATEVER THE INPUT: true; the input reads as it did. -/
def fnExactBookTimeSpec : ChangeSpec := { name := "fnExactBookTime", fn := fun _ => fun
  | [d1, d2] => { results := [.lit (.bool true)], args := [d1, d2] }
  | _ => none }
def fnExactBookTimeRow : OpenClaim := { program := "ytephmimhaokhlaagreat", sum := "08af456be9559a0a715693f8f680cd2cd7a0586027d0af3bdcea0c361c01e39f", func := "loop.example/g00735/laws.FnExactBookTime", spec := "fnExactBookTime", unfollowed := true, recurses := true, apart := false }
def FnExactBookTimeSaid : Prop := fnExactBookTimeRow.holds Tryz.pinned (OpenSpec.ofChange fnExactBookTimeSpec)

/-- ITS FALSE NEIGHBOUR: 'it returns false'. Refute it at one input. -/
def fnExactBookTimeWrong : ChangeSpec := { name := "fnExactBookTime", fn := fun _ => fun
  | [d1, d2] => { results := [.lit (.bool false)], args := [d1, d2] }
  | _ => none }
def FnExactBookTimeWrongFalsely : Prop := fnExactBookTimeRow.holds Tryz.pinned (OpenSpec.ofChange fnExactBookTimeWrong)

/-- 'laws.FnExactDeskNew': WHATEVER THE INPUT: true; the input reads as it did. -/
def fnExactDeskNewSpec : ChangeSpec := { name := "fnExactDeskNew", fn := fun _ => fun
  | [d] => { results := [.lit (.bool true)], args := [d] }
  | _ => none }
def fnExactDeskNewRow : OpenClaim := { program := "ytephmimhaokhlaagreat", sum := "08af456be9559a0a715693f8f680cd2cd7a0586027d0af3bdcea0c361c01e39f", func := "loop.example/g00735/laws.FnExactDeskNew", spec := "fnExactDeskNew", unfollowed := true, recurses := true, apart := false }
def FnExactDeskNewSaid : Prop := fnExactDeskNewRow.holds Tryz.pinned (OpenSpec.ofChange fnExactDeskNewSpec)

/-- ITS FALSE NEIGHBOUR: 'it returns false'. Refute it at one input. -/
def fnExactDeskNewWrong : ChangeSpec := { name := "fnExactDeskNew", fn := fun _ => fun
  | [d] => { results := [.lit (.bool false)], args := [d] }
  | _ => none }
def FnExactDeskNewWrongFalsely : Prop := fnExactDeskNewRow.holds Tryz.pinned (OpenSpec.ofChange fnExactDeskNewWrong)

/- THE SECOND FORM. 'bulk': how many values and letters a reading holds, each counted each time it is reached (what is shared counts as often as it is met; a slice's spare places count too). A statement '..UptoSaid' is the law's where the arguments, and the package variables that the reading takes, are together of bulk at most 1048576: NARROWER than '..Said'. Prove '..Said' where nothing that the law and all that it calls make is longer than what came in: it says more and counts as full. Else prove '..UptoSaid'. A law counts once. -/
mutual
def uptoBulk {H : Type} : DataW H → Nat
  | .lit (.string bytes) => bytes.length + 1
  | .lit _ => 1
  | .nil => 1
  | .ptr d => uptoBulk d + 1
  | .slice elems spare => uptoBulkAll elems + uptoBulkAll spare + 1
  | .agg parts => uptoBulkAll parts + 1
  | .iface _ d => uptoBulk d + 1
  | .map entries => uptoBulkEntries entries + 1
  | .held _ => 1
def uptoBulkAll {H : Type} : List (DataW H) → Nat
  | [] => 0
  | d :: r => uptoBulk d + uptoBulkAll r
def uptoBulkEntries {H : Type} : List (Lit × DataW H) → Nat
  | [] => 0
  | x :: r => uptoBulkEntry x + uptoBulkEntries r
def uptoBulkEntry {H : Type} : Lit × DataW H → Nat
  | (.string bytes, d) => bytes.length + uptoBulk d + 1
  | (_, d) => uptoBulk d + 1
 end
def uptoSmall : (H : Type) → List (DataW H) → Bool := fun _ ds => decide (uptoBulkAll ds ≤ 1048576)
def OpenSpec.upto (s : _root_.Go.ChangeSpec) : _root_.Go.OpenSpec := { _root_.Go.OpenSpec.ofChange s with cond := some uptoSmall }

/-- 'laws.FnExactSweepAll', WHERE WHAT IT READS IS OF BULK AT MOST 1048576: true; the input reads as it did. -/
def fnExactSweepAllUptoRow : OpenClaim := { program := "ytephmimhaokhlaagreat", sum := "08af456be9559a0a715693f8f680cd2cd7a0586027d0af3bdcea0c361c01e39f", func := "loop.example/g00735/laws.FnExactSweepAll", spec := "fnExactSweepAll", unfollowed := true, recurses := true, apart := false, narrowed := true }
def FnExactSweepAllUptoSaid : Prop := fnExactSweepAllUptoRow.holds Tryz.pinned (OpenSpec.upto fnExactSweepAllSpec)

/-- 'laws.FnExactBookPut', WHERE WHAT IT READS IS OF BULK AT MOST 1048576: true; the input reads as it did. -/
def fnExactBookPutUptoRow : OpenClaim := { program := "ytephmimhaokhlaagreat", sum := "08af456be9559a0a715693f8f680cd2cd7a0586027d0af3bdcea0c361c01e39f", func := "loop.example/g00735/laws.FnExactBookPut", spec := "fnExactBookPut", unfollowed := true, recurses := true, apart := false, narrowed := true }
def FnExactBookPutUptoSaid : Prop := fnExactBookPutUptoRow.holds Tryz.pinned (OpenSpec.upto fnExactBookPutSpec)

/-- 'laws.FnExactStripesOk', WHERE WHAT IT READS IS OF BULK AT MOST 1048576: true; the input reads as it did. -/
def fnExactStripesOkUptoRow : OpenClaim := { program := "ytephmimhaokhlaagreat", sum := "08af456be9559a0a715693f8f680cd2cd7a0586027d0af3bdcea0c361c01e39f", func := "loop.example/g00735/laws.FnExactStripesOk", spec := "fnExactStripesOk", unfollowed := true, recurses := true, apart := false, narrowed := true }
def FnExactStripesOkUptoSaid : Prop := fnExactStripesOkUptoRow.holds Tryz.pinned (OpenSpec.upto fnExactStripesOkSpec)

/-- 'laws.FnExactSpread', WHERE WHAT IT READS IS OF BULK AT MOST 1048576: true; the input reads as it did. -/
def fnExactSpreadUptoRow : OpenClaim := { program := "ytephmimhaokhlaagreat", sum := "08af456be9559a0a715693f8f680cd2cd7a0586027d0af3bdcea0c361c01e39f", func := "loop.example/g00735/laws.FnExactSpread", spec := "fnExactSpread", unfollowed := true, recurses := true, apart := false, narrowed := true }
def FnExactSpreadUptoSaid : Prop := fnExactSpreadUptoRow.holds Tryz.pinned (OpenSpec.upto fnExactSpreadSpec)

/-- 'laws.FnExactBookTime', WHERE WHAT IT READS IS OF BULK AT MOST 1048576: true; the input reads as it did. -/
def fnExactBookTimeUptoRow : OpenClaim := { program := "ytephmimhaokhlaagreat", sum := "08af456be9559a0a715693f8f680cd2cd7a0586027d0af3bdcea0c361c01e39f", func := "loop.example/g00735/laws.FnExactBookTime", spec := "fnExactBookTime", unfollowed := true, recurses := true, apart := false, narrowed := true }
def FnExactBookTimeUptoSaid : Prop := fnExactBookTimeUptoRow.holds Tryz.pinned (OpenSpec.upto fnExactBookTimeSpec)

/-- 'laws.FnExactDeskNew', WHERE WHAT IT READS IS OF BULK AT MOST 1048576: true; the input reads as it did. -/
def fnExactDeskNewUptoRow : OpenClaim := { program := "ytephmimhaokhlaagreat", sum := "08af456be9559a0a715693f8f680cd2cd7a0586027d0af3bdcea0c361c01e39f", func := "loop.example/g00735/laws.FnExactDeskNew", spec := "fnExactDeskNew", unfollowed := true, recurses := true, apart := false, narrowed := true }
def FnExactDeskNewUptoSaid : Prop := fnExactDeskNewUptoRow.holds Tryz.pinned (OpenSpec.upto fnExactDeskNewSpec)

end Rows
end Go.Proofs.YtephmimhaokhlaaGreat
