/- How the law's parameters are read in. Conditions: the program's types, one row for each. -/
import Derived.Test.YtjnnbcdakaabbaaDoorTkG1
import Derived.Test.YtjnnbcdakaabbaaDoorM19
namespace Go.Proofs.YtjnnbcdakaabbaaDoorM
set_option linter.unusedVariables false
set_option linter.unusedSimpArgs false
open Go.RowKit
set_option maxRecDepth 100000
theorem op5 : OpensV Tryd.prog 5 E5 (Wi .u8) := opensV_int Tryd.underlying5 (by kernel_rfl)
def W40 (x : List Int) : Prop := Wl 1 (Wi .u8) x
theorem op40 : OpensV Tryd.prog 40 E40 W40 := opensV_slice (b := 1) (sz := 1) Tryd.underlying40 (by kernel_rfl) (by kernel_rfl) (by kernel_rfl) (by kernel_rfl) (by decide) op5
theorem op3 : OpensV Tryd.prog 3 E3 (Wi .i64) := opensV_int Tryd.underlying3 (by kernel_rfl)
def W53 (x : List Int) : Prop := Wl 8 (Wi .i64) x
theorem op53 : OpensV Tryd.prog 53 E53 W53 := opensV_slice (b := 8) (sz := 1) Tryd.underlying53 (by kernel_rfl) (by kernel_rfl) (by kernel_rfl) (by kernel_rfl) (by decide) op3
def W55 (x : Task) : Prop := W40 x.Data ∧ Wi .i64 x.Pc ∧ W53 x.Set ∧ Wi .i64 x.Held ∧ Wi .i64 x.Inv ∧ Wi .i64 x.Lin ∧ Wi .i64 x.Res ∧ Wi .i64 x.At ∧ W40 x.Reply
theorem op55 : OpensV Tryd.prog 55 E55 W55 := opensV_struct (fun x : Task => (x.Data, x.Pc, x.Set, x.Held, x.Inv, x.Lin, x.Res, x.At, x.Reply)) (fun y => ⟨⟨y.1, y.2.1, y.2.2.1, y.2.2.2.1, y.2.2.2.2.1, y.2.2.2.2.2.1, y.2.2.2.2.2.2.1, y.2.2.2.2.2.2.2.1, y.2.2.2.2.2.2.2.2⟩, rfl⟩) (fun _ => rfl) Tryd.underlying55 (by kernel_rfl) (opensFsV_cons (k := 1) (o' := 1) rfl (by kernel_rfl) op40 rfl (opensFsV_cons (k := 1) (o' := 2) rfl (by kernel_rfl) op3 rfl (opensFsV_cons (k := 1) (o' := 3) rfl (by kernel_rfl) op53 rfl (opensFsV_cons (k := 1) (o' := 4) rfl (by kernel_rfl) op3 rfl (opensFsV_cons (k := 1) (o' := 5) rfl (by kernel_rfl) op3 rfl (opensFsV_cons (k := 1) (o' := 6) rfl (by kernel_rfl) op3 rfl (opensFsV_cons (k := 1) (o' := 7) rfl (by kernel_rfl) op3 rfl (opensFsV_cons (k := 1) (o' := 8) rfl (by kernel_rfl) op3 rfl (opensFsV_one (n := 1) rfl (by kernel_rfl) op40)))))))))

end Go.Proofs.YtjnnbcdakaabbaaDoorM
