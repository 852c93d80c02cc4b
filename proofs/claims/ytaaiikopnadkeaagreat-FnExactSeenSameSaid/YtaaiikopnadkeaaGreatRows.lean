/-
  No cell of these rows narrows 'for every input' (looked for: loops, veiled, ifaces, maps, wideKeys, modest, calm, conditions, laid).
  DERIVED. THE GIVEN ROWS OF THIS SEAT. 3 by the template 'for every input the law returns true; each argument reads behind the call as it read before'; 0 by the template 'total and deterministic' (their statements: YtaaiikopnadkeaaGreatTotals.lean).
  GIVEN WITH THE SEED: the statements are not yours to turn. If you find one false, say at which input.
  Laid BY PROGRAM, IN A SANDBOX (cutbox-rows.mjs): the forced cells as the released guide's own fill.sh prints them over the translation 75156b51044a83bb… (all of the seat's roots in one cut). By AI agents, Wed Nov 11 2026. No macro, syntax, notation, axiom, sorry.
-/
import Derived.Test.YtaaiikopnadkeaaGreatChecked
import GoSem.Claim
import GoSem.ClaimJoined
import GoSem.ClaimMapViews
import Derived.JoinedTies
import Derived.KernelRfl
namespace Go.Proofs.YtaaiikopnadkeaaGreat
/- THE CELL 'sum', in the pinned program and in every row, IS THE sha256 OF THE DUMP (.gsa) THAT YtaaiikopnadkeaaGreatProg.lean LOADS. Nothing in Lean hashes anything: it is a label: what it is worth is what the hold of that sum in a sandbox is worth. -/
noncomputable def Tryz.pinned : Pinned := { name := "ytaaiikopnadkeaagreat", sum := "75156b51044a83bb1cf77a6566dbe6ca1adaab1407d0af8fc10b9da26d46607b", checked := Tryz.checked }
namespace Rows
def none {H : Type} : Left H := { results := [], args := [] }

/-- 'laws.FnExactFree': WHATEVER THE INPUT: true; the input reads as it did. -/
def fnExactFreeSpec : ChangeSpec := { name := "fnExactFree", fn := fun _ => fun
  | [d1, d2, d3] => { results := [.lit (.bool true)], args := [d1, d2, d3] }
  | _ => none }
def fnExactFreeRow : OpenClaim := { program := "ytaaiikopnadkeaagreat", sum := "75156b51044a83bb1cf77a6566dbe6ca1adaab1407d0af8fc10b9da26d46607b", func := "loop.example/g00735/laws.FnExactFree", spec := "fnExactFree", unfollowed := true, recurses := true, apart := false }
def FnExactFreeSaid : Prop := fnExactFreeRow.holds Tryz.pinned (OpenSpec.ofChange fnExactFreeSpec)

/-- ITS FALSE NEIGHBOUR: 'it returns false'. Refute it at one input. -/
def fnExactFreeWrong : ChangeSpec := { name := "fnExactFree", fn := fun _ => fun
  | [d1, d2, d3] => { results := [.lit (.bool false)], args := [d1, d2, d3] }
  | _ => none }
def FnExactFreeWrongFalsely : Prop := fnExactFreeRow.holds Tryz.pinned (OpenSpec.ofChange fnExactFreeWrong)

/-- 'laws.FnExactCapture': WHATEVER THE INPUT: true; the input reads as it did. -/
def fnExactCaptureSpec : ChangeSpec := { name := "fnExactCapture", fn := fun _ => fun
  | [d1, d2, d3, d4, d5] => { results := [.lit (.bool true)], args := [d1, d2, d3, d4, d5] }
  | _ => none }
def fnExactCaptureRow : OpenClaim := { program := "ytaaiikopnadkeaagreat", sum := "75156b51044a83bb1cf77a6566dbe6ca1adaab1407d0af8fc10b9da26d46607b", func := "loop.example/g00735/laws.FnExactCapture", spec := "fnExactCapture", unfollowed := true, recurses := true, apart := false }
def FnExactCaptureSaid : Prop := fnExactCaptureRow.holds Tryz.pinned (OpenSpec.ofChange fnExactCaptureSpec)

/-- ITS FALSE NEIGHBOUR: 'it returns false'. Refute it at one input. -/
def fnExactCaptureWrong : ChangeSpec := { name := "fnExactCapture", fn := fun _ => fun
  | [d1, d2, d3, d4, d5] => { results := [.lit (.bool false)], args := [d1, d2, d3, d4, d5] }
  | _ => none }
def FnExactCaptureWrongFalsely : Prop := fnExactCaptureRow.holds Tryz.pinned (OpenSpec.ofChange fnExactCaptureWrong)

/-- 'laws.FnExactSeenSame': WHATEVER THE INPUT: true; the input reads as it did. -/
def fnExactSeenSameSpec : ChangeSpec := { name := "fnExactSeenSame", fn := fun _ => fun
  | [d1, d2, d3] => { results := [.lit (.bool true)], args := [d1, d2, d3] }
  | _ => none }
def fnExactSeenSameRow : OpenClaim := { program := "ytaaiikopnadkeaagreat", sum := "75156b51044a83bb1cf77a6566dbe6ca1adaab1407d0af8fc10b9da26d46607b", func := "loop.example/g00735/laws.FnExactSeenSame", spec := "fnExactSeenSame", unfollowed := true, recurses := true, apart := false }
def FnExactSeenSameSaid : Prop := fnExactSeenSameRow.holds Tryz.pinned (OpenSpec.ofChange fnExactSeenSameSpec)

/-- ITS FALSE NEIGHBOUR: 'it returns false'. Refute it at one input. -/
def fnExactSeenSameWrong : ChangeSpec := { name := "fnExactSeenSame", fn := fun _ => fun
  | [d1, d2, d3] => { results := [.lit (.bool false)], args := [d1, d2, d3] }
  | _ => none }
def FnExactSeenSameWrongFalsely : Prop := fnExactSeenSameRow.holds Tryz.pinned (OpenSpec.ofChange fnExactSeenSameWrong)

/- THE SECOND FORM. 'bulk': how many values and letters a reading holds, each counted each time it is reached (what is shared counts as often as it is met; a slice's spare places count too). A statement '..UptoSaid' is the law's where the arguments, and the package variables that the reading takes, are together of bulk at most 1048576: NARROWER than '..Said'. Prove '..Said' where nothing that the law and all that it calls make is longer than what came in: it says more and counts as full. Else prove '..UptoSaid'. A law counts once. -/
mutual
def uptoBulk {H : Type} : DataW H → Nat
  | .lit (.string bytes) => bytes.length + 1
  | .lit _ => 1
  | .nil => 1
  | .ptr d => uptoBulk d + 1
  | .slice elems spare => uptoBulkAll elems + uptoBulkAll spare + 1
  | .agg parts => uptoBulkAll parts + 1
  | .iface _ d => uptoBulk d + 1
  | .map entries => uptoBulkEntries entries + 1
  | .held _ => 1
def uptoBulkAll {H : Type} : List (DataW H) → Nat
  | [] => 0
  | d :: r => uptoBulk d + uptoBulkAll r
def uptoBulkEntries {H : Type} : List (Lit × DataW H) → Nat
  | [] => 0
  | x :: r => uptoBulkEntry x + uptoBulkEntries r
def uptoBulkEntry {H : Type} : Lit × DataW H → Nat
  | (.string bytes, d) => bytes.length + uptoBulk d + 1
  | (_, d) => uptoBulk d + 1
 end
def uptoSmall : (H : Type) → List (DataW H) → Bool := fun _ ds => decide (uptoBulkAll ds ≤ 1048576)
def OpenSpec.upto (s : _root_.Go.ChangeSpec) : _root_.Go.OpenSpec := { _root_.Go.OpenSpec.ofChange s with cond := some uptoSmall }

/-- 'laws.FnExactFree', WHERE WHAT IT READS IS OF BULK AT MOST 1048576: true; the input reads as it did. -/
def fnExactFreeUptoRow : OpenClaim := { program := "ytaaiikopnadkeaagreat", sum := "75156b51044a83bb1cf77a6566dbe6ca1adaab1407d0af8fc10b9da26d46607b", func := "loop.example/g00735/laws.FnExactFree", spec := "fnExactFree", unfollowed := true, recurses := true, apart := false, narrowed := true }
def FnExactFreeUptoSaid : Prop := fnExactFreeUptoRow.holds Tryz.pinned (OpenSpec.upto fnExactFreeSpec)

/-- 'laws.FnExactCapture', WHERE WHAT IT READS IS OF BULK AT MOST 1048576: true; the input reads as it did. -/
def fnExactCaptureUptoRow : OpenClaim := { program := "ytaaiikopnadkeaagreat", sum := "75156b51044a83bb1cf77a6566dbe6ca1adaab1407d0af8fc10b9da26d46607b", func := "loop.example/g00735/laws.FnExactCapture", spec := "fnExactCapture", unfollowed := true, recurses := true, apart := false, narrowed := true }
def FnExactCaptureUptoSaid : Prop := fnExactCaptureUptoRow.holds Tryz.pinned (OpenSpec.upto fnExactCaptureSpec)

/-- 'laws.FnExactSeenSame', WHERE WHAT IT READS IS OF BULK AT MOST 1048576: true; the input reads as it did. -/
def fnExactSeenSameUptoRow : OpenClaim := { program := "ytaaiikopnadkeaagreat", sum := "75156b51044a83bb1cf77a6566dbe6ca1adaab1407d0af8fc10b9da26d46607b", func := "loop.example/g00735/laws.FnExactSeenSame", spec := "fnExactSeenSame", unfollowed := true, recurses := true, apart := false, narrowed := true }
def FnExactSeenSameUptoSaid : Prop := fnExactSeenSameUptoRow.holds Tryz.pinned (OpenSpec.upto fnExactSeenSameSpec)

end Rows
end Go.Proofs.YtaaiikopnadkeaaGreat
