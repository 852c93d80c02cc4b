/- How the law's parameters are read in. Conditions: the program's types, one row for each. -/
import Derived.Test.YtdahdpnkppknfaaGreatDoorEvG4
import Derived.Test.YtdahdpnkppknfaaGreatDoorM19
namespace Go.Proofs.YtdahdpnkppknfaaGreatDoorM
set_option linter.unusedVariables false
set_option linter.unusedSimpArgs false
open Go.RowKit
set_option maxRecDepth 100000
theorem op5 : OpensV Tryz.prog 5 E5 (Wi .u8) := opensV_int Tryz.underlying5 (by kernel_rfl)
def W22 (x : List Int) : Prop := Wl 1 (Wi .u8) x
theorem op22 : OpensV Tryz.prog 22 E22 W22 := opensV_slice (b := 1) (sz := 1) Tryz.underlying22 (by kernel_rfl) (by kernel_rfl) (by kernel_rfl) (by kernel_rfl) (by decide) op5

end Go.Proofs.YtdahdpnkppknfaaGreatDoorM
