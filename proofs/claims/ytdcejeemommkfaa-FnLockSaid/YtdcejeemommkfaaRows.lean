/-
  No cell of these rows narrows 'for every input' (looked for: loops, veiled, ifaces, maps, wideKeys, modest, calm, conditions, laid).
  DERIVED. THE GIVEN ROWS OF THIS SEAT. 6 by the template 'for every input the law returns true; each argument reads behind the call as it read before'; 0 by the template 'total and deterministic' (their statements: YtdcejeemommkfaaTotals.lean).
  GIVEN WITH THE SEED: the statements are not yours to turn. If you find one false, say at which input.
  Laid BY PROGRAM, IN A SANDBOX (cutbox-rows.mjs): the forced cells as the released guide's own fill.sh prints them over the translation b6e5f611f3292f5a… (all of the seat's roots in one cut). By AI agents, Wed Nov 11 2026. No macro, syntax, notation, axiom, sorry.
-/
import Derived.Test.YtdcejeemommkfaaChecked
import GoSem.Claim
import GoSem.ClaimJoined
import GoSem.ClaimMapViews
import Derived.JoinedTies
import Derived.KernelRfl
namespace Go.Proofs.Ytdcejeemommkfaa
/- THE CELL 'sum', in the pinned program and in every row, IS THE sha256 OF THE DUMP (.gsa) THAT YtdcejeemommkfaaProg.lean LOADS. Nothing in Lean hashes anything: it is a label: what it is worth is what the hold of that sum in a sandbox is worth. -/
noncomputable def Try.pinned : Pinned := { name := "ytdcejeemommkfaa", sum := "b6e5f611f3292f5a157bf05aec3d22c1e140523869fccf65dd0e505156e5fe7a", checked := Try.checked }
namespace Rows
def none {H : Type} : Left H := { results := [], args := [] }

/-- 'laws.FnMove': WHATEVER THE INPUT: true; the input reads as it did. -/
def fnMoveSpec : ChangeSpec := { name := "fnMove", fn := fun _ => fun
  | [d] => { results := [.lit (.bool true)], args := [d] }
  | _ => none }
def fnMoveRow : OpenClaim := { program := "ytdcejeemommkfaa", sum := "b6e5f611f3292f5a157bf05aec3d22c1e140523869fccf65dd0e505156e5fe7a", func := "loop.example/g00735/laws.FnMove", spec := "fnMove", inPlace := ["slices.overlaps[loop.example/g00735/impl.Hold]"], unfollowed := true, recurses := true, apart := false }
def FnMoveSaid : Prop := fnMoveRow.holds Try.pinned (OpenSpec.ofChange fnMoveSpec)

/-- ITS FALSE NEIGHBOUR: 'it returns false'. Refute it at one input. -/
def fnMoveWrong : ChangeSpec := { name := "fnMove", fn := fun _ => fun
  | [d] => { results := [.lit (.bool false)], args := [d] }
  | _ => none }
def FnMoveWrongFalsely : Prop := fnMoveRow.holds Try.pinned (OpenSpec.ofChange fnMoveWrong)

/-- 'laws.FnAuth': WHATEVER THE INPUT: true; the input reads as it did. -/
def fnAuthSpec : ChangeSpec := { name := "fnAuth", fn := fun _ => fun
  | [d] => { results := [.lit (.bool true)], args := [d] }
  | _ => none }
def fnAuthRow : OpenClaim := { program := "ytdcejeemommkfaa", sum := "b6e5f611f3292f5a157bf05aec3d22c1e140523869fccf65dd0e505156e5fe7a", func := "loop.example/g00735/laws.FnAuth", spec := "fnAuth", inPlace := ["slices.overlaps[loop.example/g00735/impl.Hold]"], unfollowed := true, recurses := true, apart := false }
def FnAuthSaid : Prop := fnAuthRow.holds Try.pinned (OpenSpec.ofChange fnAuthSpec)

/-- ITS FALSE NEIGHBOUR: 'it returns false'. Refute it at one input. -/
def fnAuthWrong : ChangeSpec := { name := "fnAuth", fn := fun _ => fun
  | [d] => { results := [.lit (.bool false)], args := [d] }
  | _ => none }
def FnAuthWrongFalsely : Prop := fnAuthRow.holds Try.pinned (OpenSpec.ofChange fnAuthWrong)

/-- 'laws.FnLock': WHATEVER THE INPUT: true; the input reads as it did. -/
def fnLockSpec : ChangeSpec := { name := "fnLock", fn := fun _ => fun
  | [d] => { results := [.lit (.bool true)], args := [d] }
  | _ => none }
def fnLockRow : OpenClaim := { program := "ytdcejeemommkfaa", sum := "b6e5f611f3292f5a157bf05aec3d22c1e140523869fccf65dd0e505156e5fe7a", func := "loop.example/g00735/laws.FnLock", spec := "fnLock", unfollowed := true, recurses := true, apart := false }
def FnLockSaid : Prop := fnLockRow.holds Try.pinned (OpenSpec.ofChange fnLockSpec)

/-- ITS FALSE NEIGHBOUR: 'it returns false'. Refute it at one input. -/
def fnLockWrong : ChangeSpec := { name := "fnLock", fn := fun _ => fun
  | [d] => { results := [.lit (.bool false)], args := [d] }
  | _ => none }
def FnLockWrongFalsely : Prop := fnLockRow.holds Try.pinned (OpenSpec.ofChange fnLockWrong)

/-- 'laws.FnExactGather': WHATEVER THE INPUT: true; the input reads as it did. -/
def fnExactGatherSpec : ChangeSpec := { name := "fnExactGather", fn := fun _ => fun
  | [d] => { results := [.lit (.bool true)], args := [d] }
  | _ => none }
def fnExactGatherRow : OpenClaim := { program := "ytdcejeemommkfaa", sum := "b6e5f611f3292f5a157bf05aec3d22c1e140523869fccf65dd0e505156e5fe7a", func := "loop.example/g00735/laws.FnExactGather", spec := "fnExactGather", unfollowed := true, recurses := true, apart := false }
def FnExactGatherSaid : Prop := fnExactGatherRow.holds Try.pinned (OpenSpec.ofChange fnExactGatherSpec)

/-- ITS FALSE NEIGHBOUR: 'it returns false'. Refute it at one input. -/
def fnExactGatherWrong : ChangeSpec := { name := "fnExactGather", fn := fun _ => fun
  | [d] => { results := [.lit (.bool false)], args := [d] }
  | _ => none }
def FnExactGatherWrongFalsely : Prop := fnExactGatherRow.holds Try.pinned (OpenSpec.ofChange fnExactGatherWrong)

/-- 'laws.FnExactPart': WHATEVER THE INPUT: true; the input reads as it did. -/
def fnExactPartSpec : ChangeSpec := { name := "fnExactPart", fn := fun _ => fun
  | [d1, d2] => { results := [.lit (.bool true)], args := [d1, d2] }
  | _ => none }
def fnExactPartRow : OpenClaim := { program := "ytdcejeemommkfaa", sum := "b6e5f611f3292f5a157bf05aec3d22c1e140523869fccf65dd0e505156e5fe7a", func := "loop.example/g00735/laws.FnExactPart", spec := "fnExactPart", unfollowed := true, recurses := true, apart := false }
def FnExactPartSaid : Prop := fnExactPartRow.holds Try.pinned (OpenSpec.ofChange fnExactPartSpec)

/-- ITS FALSE NEIGHBOUR: 'it returns false'. Refute it at one input. -/
def fnExactPartWrong : ChangeSpec := { name := "fnExactPart", fn := fun _ => fun
  | [d1, d2] => { results := [.lit (.bool false)], args := [d1, d2] }
  | _ => none }
def FnExactPartWrongFalsely : Prop := fnExactPartRow.holds Try.pinned (OpenSpec.ofChange fnExactPartWrong)

/-- 'laws.FnExactDonesOf': WHATEVER THE INPUT: true; the input reads as it did. -/
def fnExactDonesOfSpec : ChangeSpec := { name := "fnExactDonesOf", fn := fun _ => fun
  | [d] => { results := [.lit (.bool true)], args := [d] }
  | _ => none }
def fnExactDonesOfRow : OpenClaim := { program := "ytdcejeemommkfaa", sum := "b6e5f611f3292f5a157bf05aec3d22c1e140523869fccf65dd0e505156e5fe7a", func := "loop.example/g00735/laws.FnExactDonesOf", spec := "fnExactDonesOf", unfollowed := true, recurses := true, apart := false }
def FnExactDonesOfSaid : Prop := fnExactDonesOfRow.holds Try.pinned (OpenSpec.ofChange fnExactDonesOfSpec)

/-- ITS FALSE NEIGHBOUR: 'it returns false'. Refute it at one input. -/
def fnExactDonesOfWrong : ChangeSpec := { name := "fnExactDonesOf", fn := fun _ => fun
  | [d] => { results := [.lit (.bool false)], args := [d] }
  | _ => none }
def FnExactDonesOfWrongFalsely : Prop := fnExactDonesOfRow.holds Try.pinned (OpenSpec.ofChange fnExactDonesOfWrong)

/- THE SECOND FORM. 'bulk': how many values and letters a reading holds, each counted each time it is reached (what is shared counts as often as it is met; a slice's spare places count too). A statement '..UptoSaid' is the law's where the arguments, and the package variables that the reading takes, are together of bulk at most 1048576: NARROWER than '..Said'. Prove '..Said' where nothing that the law and all that it calls make is longer than what came in: it says more and counts as full. Else prove '..UptoSaid'. A law counts once. -/
mutual
def uptoBulk {H : Type} : DataW H → Nat
  | .lit (.string bytes) => bytes.length + 1
  | .lit _ => 1
  | .nil => 1
  | .ptr d => uptoBulk d + 1
  | .slice elems spare => uptoBulkAll elems + uptoBulkAll spare + 1
  | .agg parts => uptoBulkAll parts + 1
  | .iface _ d => uptoBulk d + 1
  | .map entries => uptoBulkEntries entries + 1
  | .held _ => 1
def uptoBulkAll {H : Type} : List (DataW H) → Nat
  | [] => 0
  | d :: r => uptoBulk d + uptoBulkAll r
def uptoBulkEntries {H : Type} : List (Lit × DataW H) → Nat
  | [] => 0
  | x :: r => uptoBulkEntry x + uptoBulkEntries r
def uptoBulkEntry {H : Type} : Lit × DataW H → Nat
  | (.string bytes, d) => bytes.length + uptoBulk d + 1
  | (_, d) => uptoBulk d + 1
 end
def uptoSmall : (H : Type) → List (DataW H) → Bool := fun _ ds => decide (uptoBulkAll ds ≤ 1048576)
def OpenSpec.upto (s : _root_.Go.ChangeSpec) : _root_.Go.OpenSpec := { _root_.Go.OpenSpec.ofChange s with cond := some uptoSmall }

/-- 'laws.FnMove', WHERE WHAT IT READS IS OF BULK AT MOST 1048576: true; the input reads as it did. -/
def fnMoveUptoRow : OpenClaim := { program := "ytdcejeemommkfaa", sum := "b6e5f611f3292f5a157bf05aec3d22c1e140523869fccf65dd0e505156e5fe7a", func := "loop.example/g00735/laws.FnMove", spec := "fnMove", inPlace := ["slices.overlaps[loop.example/g00735/impl.Hold]"], unfollowed := true, recurses := true, apart := false, narrowed := true }
def FnMoveUptoSaid : Prop := fnMoveUptoRow.holds Try.pinned (OpenSpec.upto fnMoveSpec)

/-- 'laws.FnAuth', WHERE WHAT IT READS IS OF BULK AT MOST 1048576: true; the input reads as it did. -/
def fnAuthUptoRow : OpenClaim := { program := "ytdcejeemommkfaa", sum := "b6e5f611f3292f5a157bf05aec3d22c1e140523869fccf65dd0e505156e5fe7a", func := "loop.example/g00735/laws.FnAuth", spec := "fnAuth", inPlace := ["slices.overlaps[loop.example/g00735/impl.Hold]"], unfollowed := true, recurses := true, apart := false, narrowed := true }
def FnAuthUptoSaid : Prop := fnAuthUptoRow.holds Try.pinned (OpenSpec.upto fnAuthSpec)

/-- 'laws.FnLock', WHERE WHAT IT READS IS OF BULK AT MOST 1048576: true; the input reads as it did. -/
def fnLockUptoRow : OpenClaim := { program := "ytdcejeemommkfaa", sum := "b6e5f611f3292f5a157bf05aec3d22c1e140523869fccf65dd0e505156e5fe7a", func := "loop.example/g00735/laws.FnLock", spec := "fnLock", unfollowed := true, recurses := true, apart := false, narrowed := true }
def FnLockUptoSaid : Prop := fnLockUptoRow.holds Try.pinned (OpenSpec.upto fnLockSpec)

/-- 'laws.FnExactGather', WHERE WHAT IT READS IS OF BULK AT MOST 1048576: true; the input reads as it did. -/
def fnExactGatherUptoRow : OpenClaim := { program := "ytdcejeemommkfaa", sum := "b6e5f611f3292f5a157bf05aec3d22c1e140523869fccf65dd0e505156e5fe7a", func := "loop.example/g00735/laws.FnExactGather", spec := "fnExactGather", unfollowed := true, recurses := true, apart := false, narrowed := true }
def FnExactGatherUptoSaid : Prop := fnExactGatherUptoRow.holds Try.pinned (OpenSpec.upto fnExactGatherSpec)

/-- 'laws.FnExactPart', WHERE WHAT IT READS IS OF BULK AT MOST 1048576: true; the input reads as it did. -/
def fnExactPartUptoRow : OpenClaim := { program := "ytdcejeemommkfaa", sum := "b6e5f611f3292f5a157bf05aec3d22c1e140523869fccf65dd0e505156e5fe7a", func := "loop.example/g00735/laws.FnExactPart", spec := "fnExactPart", unfollowed := true, recurses := true, apart := false, narrowed := true }
def FnExactPartUptoSaid : Prop := fnExactPartUptoRow.holds Try.pinned (OpenSpec.upto fnExactPartSpec)

/-- 'laws.FnExactDonesOf', WHERE WHAT IT READS IS OF BULK AT MOST 1048576: true; the input reads as it did. -/
def fnExactDonesOfUptoRow : OpenClaim := { program := "ytdcejeemommkfaa", sum := "b6e5f611f3292f5a157bf05aec3d22c1e140523869fccf65dd0e505156e5fe7a", func := "loop.example/g00735/laws.FnExactDonesOf", spec := "fnExactDonesOf", unfollowed := true, recurses := true, apart := false, narrowed := true }
def FnExactDonesOfUptoSaid : Prop := fnExactDonesOfUptoRow.holds Try.pinned (OpenSpec.upto fnExactDonesOfSpec)

end Rows
end Go.Proofs.Ytdcejeemommkfaa
