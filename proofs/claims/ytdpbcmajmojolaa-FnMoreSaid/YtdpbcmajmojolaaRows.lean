/-
  No cell of these rows narrows 'for every input' (looked for: loops, veiled, ifaces, maps, wideKeys, modest, calm, conditions, laid).
  DERIVED. THE GIVEN ROWS OF THIS SEAT. 10 by the template 'for every input the law returns true; each argument reads behind the call as it read before'; 0 by the template 'total and deterministic' (their statements: YtdpbcmajmojolaaTotals.lean).
  GIVEN WITH THE SEED: the statements are not yours to turn. If you find one false, say at which input.
  Laid BY PROGRAM, IN A SANDBOX (cutbox-rows.mjs): the forced cells as the released guide's own fill.sh prints them over the translation 54813958c0dccf0a… (all of the seat's roots in one cut). By AI agents, Wed Nov 11 2026. No macro, syntax, notation, axiom, sorry.
-/
import Derived.Test.YtdpbcmajmojolaaChecked
import GoSem.Claim
import GoSem.ClaimJoined
import GoSem.ClaimMapViews
import Derived.JoinedTies
import Derived.KernelRfl
namespace Go.Proofs.Ytdpbcmajmojolaa
/- THE CELL 'sum', in the pinned program and in every row, IS THE sha256 OF THE DUMP (.gsa) THAT YtdpbcmajmojolaaProg.lean LOADS. Nothing in Lean hashes anything: it is a label: what it is worth is what the hold of that sum in a sandbox is worth. -/
noncomputable def Try.pinned : Pinned := { name := "ytdpbcmajmojolaa", sum := "54813958c0dccf0af1f916e2e560d035e33f0100df44d2871a4a02550bf9090e", checked := Try.checked }
namespace Rows
def none {H : Type} : Left H := { results := [], args := [] }

/-- 'laws.FnExactCrossings': WHATEVER THE INPUT: true; the input reads as it did. -/
def fnExactCrossingsSpec : ChangeSpec := { name := "fnExactCrossings", fn := fun _ => fun
  | [d] => { results := [.lit (.bool true)], args := [d] }
  | _ => none }
def fnExactCrossingsRow : OpenClaim := { program := "ytdpbcmajmojolaa", sum := "54813958c0dccf0af1f916e2e560d035e33f0100df44d2871a4a02550bf9090e", func := "loop.example/g00735/laws.FnExactCrossings", spec := "fnExactCrossings", unfollowed := true, recurses := true, apart := false }
def FnExactCrossingsSaid : Prop := fnExactCrossingsRow.holds Try.pinned (OpenSpec.ofChange fnExactCrossingsSpec)

/-- ITS FALSE NEIGHBOUR: 'it returns false'. Refute it at one input. -/
def fnExactCrossingsWrong : ChangeSpec := { name := "fnExactCrossings", fn := fun _ => fun
  | [d] => { results := [.lit (.bool false)], args := [d] }
  | _ => none }
def FnExactCrossingsWrongFalsely : Prop := fnExactCrossingsRow.holds Try.pinned (OpenSpec.ofChange fnExactCrossingsWrong)

/-- 'laws.FnExactNoSlots': WHATEVER THE INPUT: true; the input reads as it did. -/
def fnExactNoSlotsSpec : ChangeSpec := { name := "fnExactNoSlots", fn := fun _ => fun
  | [d] => { results := [.lit (.bool true)], args := [d] }
  | _ => none }
def fnExactNoSlotsRow : OpenClaim := { program := "ytdpbcmajmojolaa", sum := "54813958c0dccf0af1f916e2e560d035e33f0100df44d2871a4a02550bf9090e", func := "loop.example/g00735/laws.FnExactNoSlots", spec := "fnExactNoSlots", unfollowed := true, recurses := true, apart := false }
def FnExactNoSlotsSaid : Prop := fnExactNoSlotsRow.holds Try.pinned (OpenSpec.ofChange fnExactNoSlotsSpec)

/-- ITS FALSE NEIGHBOUR: 'it returns false'. Refute it at one input. -/
def fnExactNoSlotsWrong : ChangeSpec := { name := "fnExactNoSlots", fn := fun _ => fun
  | [d] => { results := [.lit (.bool false)], args := [d] }
  | _ => none }
def FnExactNoSlotsWrongFalsely : Prop := fnExactNoSlotsRow.holds Try.pinned (OpenSpec.ofChange fnExactNoSlotsWrong)

/-- 'laws.FnCapture': WHATEVER THE INPUT: true; the input reads as it did. -/
def fnCaptureSpec : ChangeSpec := { name := "fnCapture", fn := fun _ => fun
  | [d] => { results := [.lit (.bool true)], args := [d] }
  | _ => none }
def fnCaptureRow : OpenClaim := { program := "ytdpbcmajmojolaa", sum := "54813958c0dccf0af1f916e2e560d035e33f0100df44d2871a4a02550bf9090e", func := "loop.example/g00735/laws.FnCapture", spec := "fnCapture", unfollowed := true, recurses := true, apart := false }
def FnCaptureSaid : Prop := fnCaptureRow.holds Try.pinned (OpenSpec.ofChange fnCaptureSpec)

/-- ITS FALSE NEIGHBOUR: 'it returns false'. Refute it at one input. -/
def fnCaptureWrong : ChangeSpec := { name := "fnCapture", fn := fun _ => fun
  | [d] => { results := [.lit (.bool false)], args := [d] }
  | _ => none }
def FnCaptureWrongFalsely : Prop := fnCaptureRow.holds Try.pinned (OpenSpec.ofChange fnCaptureWrong)

/-- 'laws.FnExactLoads': WHATEVER THE INPUT: true; the input reads as it did. -/
def fnExactLoadsSpec : ChangeSpec := { name := "fnExactLoads", fn := fun _ => fun
  | [d] => { results := [.lit (.bool true)], args := [d] }
  | _ => none }
def fnExactLoadsRow : OpenClaim := { program := "ytdpbcmajmojolaa", sum := "54813958c0dccf0af1f916e2e560d035e33f0100df44d2871a4a02550bf9090e", func := "loop.example/g00735/laws.FnExactLoads", spec := "fnExactLoads", apart := false }
def FnExactLoadsSaid : Prop := fnExactLoadsRow.holds Try.pinned (OpenSpec.ofChange fnExactLoadsSpec)

/-- ITS FALSE NEIGHBOUR: 'it returns false'. Refute it at one input. -/
def fnExactLoadsWrong : ChangeSpec := { name := "fnExactLoads", fn := fun _ => fun
  | [d] => { results := [.lit (.bool false)], args := [d] }
  | _ => none }
def FnExactLoadsWrongFalsely : Prop := fnExactLoadsRow.holds Try.pinned (OpenSpec.ofChange fnExactLoadsWrong)

/-- 'laws.FnMore': WHATEVER THE INPUT: true; the input reads as it did. -/
def fnMoreSpec : ChangeSpec := { name := "fnMore", fn := fun _ => fun
  | [d] => { results := [.lit (.bool true)], args := [d] }
  | _ => none }
def fnMoreRow : OpenClaim := { program := "ytdpbcmajmojolaa", sum := "54813958c0dccf0af1f916e2e560d035e33f0100df44d2871a4a02550bf9090e", func := "loop.example/g00735/laws.FnMore", spec := "fnMore", unfollowed := true, recurses := true, apart := false }
def FnMoreSaid : Prop := fnMoreRow.holds Try.pinned (OpenSpec.ofChange fnMoreSpec)

/-- ITS FALSE NEIGHBOUR: 'it returns false'. Refute it at one input. -/
def fnMoreWrong : ChangeSpec := { name := "fnMore", fn := fun _ => fun
  | [d] => { results := [.lit (.bool false)], args := [d] }
  | _ => none }
def FnMoreWrongFalsely : Prop := fnMoreRow.holds Try.pinned (OpenSpec.ofChange fnMoreWrong)

/-- 'laws.FnExactGiveLock': WHATEVER THE INPUT: true; the input reads as it did. -/
def fnExactGiveLockSpec : ChangeSpec := { name := "fnExactGiveLock", fn := fun _ => fun
  | [d1, d2, d3] => { results := [.lit (.bool true)], args := [d1, d2, d3] }
  | _ => none }
def fnExactGiveLockRow : OpenClaim := { program := "ytdpbcmajmojolaa", sum := "54813958c0dccf0af1f916e2e560d035e33f0100df44d2871a4a02550bf9090e", func := "loop.example/g00735/laws.FnExactGiveLock", spec := "fnExactGiveLock", unfollowed := true, recurses := true, apart := false }
def FnExactGiveLockSaid : Prop := fnExactGiveLockRow.holds Try.pinned (OpenSpec.ofChange fnExactGiveLockSpec)

/-- ITS FALSE NEIGHBOUR: 'it returns false'. Refute it at one input. -/
def fnExactGiveLockWrong : ChangeSpec := { name := "fnExactGiveLock", fn := fun _ => fun
  | [d1, d2, d3] => { results := [.lit (.bool false)], args := [d1, d2, d3] }
  | _ => none }
def FnExactGiveLockWrongFalsely : Prop := fnExactGiveLockRow.holds Try.pinned (OpenSpec.ofChange fnExactGiveLockWrong)

/-- 'laws.FnExactTakeLock': WHATEVER THE INPUT: true; the input reads as it did. -/
def fnExactTakeLockSpec : ChangeSpec := { name := "fnExactTakeLock", fn := fun _ => fun
  | [d1, d2, d3] => { results := [.lit (.bool true)], args := [d1, d2, d3] }
  | _ => none }
def fnExactTakeLockRow : OpenClaim := { program := "ytdpbcmajmojolaa", sum := "54813958c0dccf0af1f916e2e560d035e33f0100df44d2871a4a02550bf9090e", func := "loop.example/g00735/laws.FnExactTakeLock", spec := "fnExactTakeLock", unfollowed := true, recurses := true, apart := false }
def FnExactTakeLockSaid : Prop := fnExactTakeLockRow.holds Try.pinned (OpenSpec.ofChange fnExactTakeLockSpec)

/-- ITS FALSE NEIGHBOUR: 'it returns false'. Refute it at one input. -/
def fnExactTakeLockWrong : ChangeSpec := { name := "fnExactTakeLock", fn := fun _ => fun
  | [d1, d2, d3] => { results := [.lit (.bool false)], args := [d1, d2, d3] }
  | _ => none }
def FnExactTakeLockWrongFalsely : Prop := fnExactTakeLockRow.holds Try.pinned (OpenSpec.ofChange fnExactTakeLockWrong)

/-- 'laws.FnMove': WHATEVER THE INPUT: true; the input reads as it did. -/
def fnMoveSpec : ChangeSpec := { name := "fnMove", fn := fun _ => fun
  | [d] => { results := [.lit (.bool true)], args := [d] }
  | _ => none }
def fnMoveRow : OpenClaim := { program := "ytdpbcmajmojolaa", sum := "54813958c0dccf0af1f916e2e560d035e33f0100df44d2871a4a02550bf9090e", func := "loop.example/g00735/laws.FnMove", spec := "fnMove", inPlace := ["slices.overlaps[loop.example/g00735/impl.Hold]"], unfollowed := true, recurses := true, apart := false }
def FnMoveSaid : Prop := fnMoveRow.holds Try.pinned (OpenSpec.ofChange fnMoveSpec)

/-- ITS FALSE NEIGHBOUR: 'it returns false'. Refute it at one input. -/
def fnMoveWrong : ChangeSpec := { name := "fnMove", fn := fun _ => fun
  | [d] => { results := [.lit (.bool false)], args := [d] }
  | _ => none }
def FnMoveWrongFalsely : Prop := fnMoveRow.holds Try.pinned (OpenSpec.ofChange fnMoveWrong)

/-- 'laws.FnExactLay': WHATEVER THE INPUT: true; the input reads as it did. -/
def fnExactLaySpec : ChangeSpec := { name := "fnExactLay", fn := fun _ => fun
  | [d1, d2] => { results := [.lit (.bool true)], args := [d1, d2] }
  | _ => none }
def fnExactLayRow : OpenClaim := { program := "ytdpbcmajmojolaa", sum := "54813958c0dccf0af1f916e2e560d035e33f0100df44d2871a4a02550bf9090e", func := "loop.example/g00735/laws.FnExactLay", spec := "fnExactLay", unfollowed := true, recurses := true, apart := false }
def FnExactLaySaid : Prop := fnExactLayRow.holds Try.pinned (OpenSpec.ofChange fnExactLaySpec)

/-- ITS FALSE NEIGHBOUR: 'it returns false'. Refute it at one input. -/
def fnExactLayWrong : ChangeSpec := { name := "fnExactLay", fn := fun _ => fun
  | [d1, d2] => { results := [.lit (.bool false)], args := [d1, d2] }
  | _ => none }
def FnExactLayWrongFalsely : Prop := fnExactLayRow.holds Try.pinned (OpenSpec.ofChange fnExactLayWrong)

/-- 'laws.FnAuth': WHATEVER THE INPUT: true; the input reads as it did. -/
def fnAuthSpec : ChangeSpec := { name := "fnAuth", fn := fun _ => fun
  | [d] => { results := [.lit (.bool true)], args := [d] }
  | _ => none }
def fnAuthRow : OpenClaim := { program := "ytdpbcmajmojolaa", sum := "54813958c0dccf0af1f916e2e560d035e33f0100df44d2871a4a02550bf9090e", func := "loop.example/g00735/laws.FnAuth", spec := "fnAuth", inPlace := ["slices.overlaps[loop.example/g00735/impl.Hold]"], unfollowed := true, recurses := true, apart := false }
def FnAuthSaid : Prop := fnAuthRow.holds Try.pinned (OpenSpec.ofChange fnAuthSpec)

/-- ITS FALSE NEIGHBOUR: 'it returns false'. Refute it at one input. -/
def fnAuthWrong : ChangeSpec := { name := "fnAuth", fn := fun _ => fun
  | [d] => { results := [.lit (.bool false)], args := [d] }
  | _ => none }
def FnAuthWrongFalsely : Prop := fnAuthRow.holds Try.pinned (OpenSpec.ofChange fnAuthWrong)

/- THE SECOND FORM. 'bulk': how many values and letters a reading holds, each counted each time it is reached (what is shared counts as often as it is met; a slice's spare places count too). A statement '..UptoSaid' is the law's where the arguments, and the package variables that the reading takes, are together of bulk at most 1048576: NARROWER than '..Said'. Prove '..Said' where nothing that the law and all that it calls make is longer than what came in: it says more and counts as full. Else prove '..UptoSaid'. A law counts once. -/
mutual
def uptoBulk {H : Type} : DataW H → Nat
  | .lit (.string bytes) => bytes.length + 1
  | .lit _ => 1
  | .nil => 1
  | .ptr d => uptoBulk d + 1
  | .slice elems spare => uptoBulkAll elems + uptoBulkAll spare + 1
  | .agg parts => uptoBulkAll parts + 1
  | .iface _ d => uptoBulk d + 1
  | .map entries => uptoBulkEntries entries + 1
  | .held _ => 1
def uptoBulkAll {H : Type} : List (DataW H) → Nat
  | [] => 0
  | d :: r => uptoBulk d + uptoBulkAll r
def uptoBulkEntries {H : Type} : List (Lit × DataW H) → Nat
  | [] => 0
  | x :: r => uptoBulkEntry x + uptoBulkEntries r
def uptoBulkEntry {H : Type} : Lit × DataW H → Nat
  | (.string bytes, d) => bytes.length + uptoBulk d + 1
  | (_, d) => uptoBulk d + 1
 end
def uptoSmall : (H : Type) → List (DataW H) → Bool := fun _ ds => decide (uptoBulkAll ds ≤ 1048576)
def OpenSpec.upto (s : _root_.Go.ChangeSpec) : _root_.Go.OpenSpec := { _root_.Go.OpenSpec.ofChange s with cond := some uptoSmall }

/-- 'laws.FnExactCrossings', WHERE WHAT IT READS IS OF BULK AT MOST 1048576: true; the input reads as it did. -/
def fnExactCrossingsUptoRow : OpenClaim := { program := "ytdpbcmajmojolaa", sum := "54813958c0dccf0af1f916e2e560d035e33f0100df44d2871a4a02550bf9090e", func := "loop.example/g00735/laws.FnExactCrossings", spec := "fnExactCrossings", unfollowed := true, recurses := true, apart := false, narrowed := true }
def FnExactCrossingsUptoSaid : Prop := fnExactCrossingsUptoRow.holds Try.pinned (OpenSpec.upto fnExactCrossingsSpec)

/-- 'laws.FnExactNoSlots', WHERE WHAT IT READS IS OF BULK AT MOST 1048576: true; the input reads as it did. -/
def fnExactNoSlotsUptoRow : OpenClaim := { program := "ytdpbcmajmojolaa", sum := "54813958c0dccf0af1f916e2e560d035e33f0100df44d2871a4a02550bf9090e", func := "loop.example/g00735/laws.FnExactNoSlots", spec := "fnExactNoSlots", unfollowed := true, recurses := true, apart := false, narrowed := true }
def FnExactNoSlotsUptoSaid : Prop := fnExactNoSlotsUptoRow.holds Try.pinned (OpenSpec.upto fnExactNoSlotsSpec)

/-- 'laws.FnCapture', WHERE WHAT IT READS IS OF BULK AT MOST 1048576: true; the input reads as it did. -/
def fnCaptureUptoRow : OpenClaim := { program := "ytdpbcmajmojolaa", sum := "54813958c0dccf0af1f916e2e560d035e33f0100df44d2871a4a02550bf9090e", func := "loop.example/g00735/laws.FnCapture", spec := "fnCapture", unfollowed := true, recurses := true, apart := false, narrowed := true }
def FnCaptureUptoSaid : Prop := fnCaptureUptoRow.holds Try.pinned (OpenSpec.upto fnCaptureSpec)

/-- 'laws.FnExactLoads', WHERE WHAT IT READS IS OF BULK AT MOST 1048576: true; the input reads as it did. -/
def fnExactLoadsUptoRow : OpenClaim := { program := "ytdpbcmajmojolaa", sum := "54813958c0dccf0af1f916e2e560d035e33f0100df44d2871a4a02550bf9090e", func := "loop.example/g00735/laws.FnExactLoads", spec := "fnExactLoads", apart := false, narrowed := true }
def FnExactLoadsUptoSaid : Prop := fnExactLoadsUptoRow.holds Try.pinned (OpenSpec.upto fnExactLoadsSpec)

/-- 'laws.FnMore', WHERE WHAT IT READS IS OF BULK AT MOST 1048576: true; the input reads as it did. -/
def fnMoreUptoRow : OpenClaim := { program := "ytdpbcmajmojolaa", sum := "54813958c0dccf0af1f916e2e560d035e33f0100df44d2871a4a02550bf9090e", func := "loop.example/g00735/laws.FnMore", spec := "fnMore", unfollowed := true, recurses := true, apart := false, narrowed := true }
def FnMoreUptoSaid : Prop := fnMoreUptoRow.holds Try.pinned (OpenSpec.upto fnMoreSpec)

/-- 'laws.FnExactGiveLock', WHERE WHAT IT READS IS OF BULK AT MOST 1048576: true; the input reads as it did. -/
def fnExactGiveLockUptoRow : OpenClaim := { program := "ytdpbcmajmojolaa", sum := "54813958c0dccf0af1f916e2e560d035e33f0100df44d2871a4a02550bf9090e", func := "loop.example/g00735/laws.FnExactGiveLock", spec := "fnExactGiveLock", unfollowed := true, recurses := true, apart := false, narrowed := true }
def FnExactGiveLockUptoSaid : Prop := fnExactGiveLockUptoRow.holds Try.pinned (OpenSpec.upto fnExactGiveLockSpec)

/-- 'laws.FnExactTakeLock', WHERE WHAT IT READS IS OF BULK AT MOST 1048576: true; the input reads as it did. -/
def fnExactTakeLockUptoRow : OpenClaim := { program := "ytdpbcmajmojolaa", sum := "54813958c0dccf0af1f916e2e560d035e33f0100df44d2871a4a02550bf9090e", func := "loop.example/g00735/laws.FnExactTakeLock", spec := "fnExactTakeLock", unfollowed := true, recurses := true, apart := false, narrowed := true }
def FnExactTakeLockUptoSaid : Prop := fnExactTakeLockUptoRow.holds Try.pinned (OpenSpec.upto fnExactTakeLockSpec)

/-- 'laws.FnMove', WHERE WHAT IT READS IS OF BULK AT MOST 1048576: true; the input reads as it did. -/
def fnMoveUptoRow : OpenClaim := { program := "ytdpbcmajmojolaa", sum := "54813958c0dccf0af1f916e2e560d035e33f0100df44d2871a4a02550bf9090e", func := "loop.example/g00735/laws.FnMove", spec := "fnMove", inPlace := ["slices.overlaps[loop.example/g00735/impl.Hold]"], unfollowed := true, recurses := true, apart := false, narrowed := true }
def FnMoveUptoSaid : Prop := fnMoveUptoRow.holds Try.pinned (OpenSpec.upto fnMoveSpec)

/-- 'laws.FnExactLay', WHERE WHAT IT READS IS OF BULK AT MOST 1048576: true; the input reads as it did. -/
def fnExactLayUptoRow : OpenClaim := { program := "ytdpbcmajmojolaa", sum := "54813958c0dccf0af1f916e2e560d035e33f0100df44d2871a4a02550bf9090e", func := "loop.example/g00735/laws.FnExactLay", spec := "fnExactLay", unfollowed := true, recurses := true, apart := false, narrowed := true }
def FnExactLayUptoSaid : Prop := fnExactLayUptoRow.holds Try.pinned (OpenSpec.upto fnExactLaySpec)

/-- 'laws.FnAuth', WHERE WHAT IT READS IS OF BULK AT MOST 1048576: true; the input reads as it did. -/
def fnAuthUptoRow : OpenClaim := { program := "ytdpbcmajmojolaa", sum := "54813958c0dccf0af1f916e2e560d035e33f0100df44d2871a4a02550bf9090e", func := "loop.example/g00735/laws.FnAuth", spec := "fnAuth", inPlace := ["slices.overlaps[loop.example/g00735/impl.Hold]"], unfollowed := true, recurses := true, apart := false, narrowed := true }
def FnAuthUptoSaid : Prop := fnAuthUptoRow.holds Try.pinned (OpenSpec.upto fnAuthSpec)

end Rows
end Go.Proofs.Ytdpbcmajmojolaa
