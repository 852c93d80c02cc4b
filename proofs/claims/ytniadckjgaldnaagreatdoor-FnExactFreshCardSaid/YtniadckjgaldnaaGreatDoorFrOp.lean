/- How the law's parameters are read in. Conditions: the program's types, one row for each. -/
import Derived.Test.YtniadckjgaldnaaGreatDoorFrG3
import Derived.Test.YtniadckjgaldnaaGreatDoorM19
namespace Go.Proofs.YtniadckjgaldnaaGreatDoorM
set_option linter.unusedVariables false
set_option linter.unusedSimpArgs false
open Go.RowKit
set_option maxRecDepth 100000
theorem op3 : OpensV Tryz.prog 3 E3 (Wi .i64) := opensV_int Tryz.underlying3 (by kernel_rfl)
theorem op5 : OpensV Tryz.prog 5 E5 (Wi .u8) := opensV_int Tryz.underlying5 (by kernel_rfl)
def W31 (x : List Int) : Prop := Wl 1 (Wi .u8) x
theorem op31 : OpensV Tryz.prog 31 E31 W31 := opensV_slice (b := 1) (sz := 1) Tryz.underlying31 (by kernel_rfl) (by kernel_rfl) (by kernel_rfl) (by kernel_rfl) (by decide) op5
def W33 (x : Done) : Prop := Wi .i64 x.At ∧ W31 x.Data ∧ W31 x.Reply
theorem op33 : OpensV Tryz.prog 33 E33 W33 := opensV_struct (fun x : Done => (x.At, x.Data, x.Reply)) (fun y => ⟨⟨y.1, y.2.1, y.2.2⟩, rfl⟩) (fun _ => rfl) Tryz.underlying33 (by kernel_rfl) (opensFsV_cons (k := 1) (o' := 1) rfl (by kernel_rfl) op3 rfl (opensFsV_cons (k := 1) (o' := 2) rfl (by kernel_rfl) op31 rfl (opensFsV_one (n := 1) rfl (by kernel_rfl) op31)))
def W22 (x : List Done) : Prop := Wl 56 (W33) x
theorem op22 : OpensV Tryz.prog 22 E22 W22 := opensV_slice (b := 56) (sz := 3) Tryz.underlying22 (by kernel_rfl) (by kernel_rfl) (by kernel_rfl) (by kernel_rfl) (by decide) op33

end Go.Proofs.YtniadckjgaldnaaGreatDoorM
