/- How the law's parameters are read in. Conditions: the program's types, one row for each. -/
import Derived.Test.YthonbclgdbigpaaDoorEvG0
import Derived.Test.YthonbclgdbigpaaDoorM19
namespace Go.Proofs.YthonbclgdbigpaaDoorM
set_option linter.unusedVariables false
set_option linter.unusedSimpArgs false
open Go.RowKit
set_option maxRecDepth 100000
theorem op3 : OpensV Tryd.prog 3 E3 (Wi .i64) := opensV_int Tryd.underlying3 (by kernel_rfl)
theorem op5 : OpensV Tryd.prog 5 E5 (Wi .u8) := opensV_int Tryd.underlying5 (by kernel_rfl)
def W29 (x : List Int) : Prop := Wl 1 (Wi .u8) x
theorem op29 : OpensV Tryd.prog 29 E29 W29 := opensV_slice (b := 1) (sz := 1) Tryd.underlying29 (by kernel_rfl) (by kernel_rfl) (by kernel_rfl) (by kernel_rfl) (by decide) op5
def W31 (x : Event) : Prop := Wi .i64 x.Kind ∧ Wi .i64 x.K ∧ W29 x.Data
theorem op31 : OpensV Tryd.prog 31 E31 W31 := opensV_struct (fun x : Event => (x.Kind, x.K, x.Data)) (fun y => ⟨⟨y.1, y.2.1, y.2.2⟩, rfl⟩) (fun _ => rfl) Tryd.underlying31 (by kernel_rfl) (opensFsV_cons (k := 1) (o' := 1) rfl (by kernel_rfl) op3 rfl (opensFsV_cons (k := 1) (o' := 2) rfl (by kernel_rfl) op3 rfl (opensFsV_one (n := 1) rfl (by kernel_rfl) op29)))
def W38 (x : List Event) : Prop := Wl 40 (W31) x
theorem op38 : OpensV Tryd.prog 38 E38 W38 := opensV_slice (b := 40) (sz := 3) Tryd.underlying38 (by kernel_rfl) (by kernel_rfl) (by kernel_rfl) (by kernel_rfl) (by decide) op31

end Go.Proofs.YthonbclgdbigpaaDoorM
