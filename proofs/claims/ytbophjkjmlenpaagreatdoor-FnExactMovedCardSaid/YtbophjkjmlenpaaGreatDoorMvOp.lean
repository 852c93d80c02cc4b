/- How the law's parameters are read in. Conditions: the program's types, one row for each. -/
import Derived.Test.YtbophjkjmlenpaaGreatDoorMvG2
import Derived.Test.YtbophjkjmlenpaaGreatDoorM19
namespace Go.Proofs.YtbophjkjmlenpaaGreatDoorM
set_option linter.unusedVariables false
set_option linter.unusedSimpArgs false
open Go.RowKit
set_option maxRecDepth 100000
theorem op3 : OpensV Tryz.prog 3 E3 (Wi .i64) := opensV_int Tryz.underlying3 (by kernel_rfl)
theorem op5 : OpensV Tryz.prog 5 E5 (Wi .u8) := opensV_int Tryz.underlying5 (by kernel_rfl)
def W39 (x : List Int) : Prop := Wl 1 (Wi .u8) x
theorem op39 : OpensV Tryz.prog 39 E39 W39 := opensV_slice (b := 1) (sz := 1) Tryz.underlying39 (by kernel_rfl) (by kernel_rfl) (by kernel_rfl) (by kernel_rfl) (by decide) op5
def W41 (x : Done) : Prop := Wi .i64 x.At ∧ W39 x.Data ∧ W39 x.Reply
theorem op41 : OpensV Tryz.prog 41 E41 W41 := opensV_struct (fun x : Done => (x.At, x.Data, x.Reply)) (fun y => ⟨⟨y.1, y.2.1, y.2.2⟩, rfl⟩) (fun _ => rfl) Tryz.underlying41 (by kernel_rfl) (opensFsV_cons (k := 1) (o' := 1) rfl (by kernel_rfl) op3 rfl (opensFsV_cons (k := 1) (o' := 2) rfl (by kernel_rfl) op39 rfl (opensFsV_one (n := 1) rfl (by kernel_rfl) op39)))

end Go.Proofs.YtbophjkjmlenpaaGreatDoorM
