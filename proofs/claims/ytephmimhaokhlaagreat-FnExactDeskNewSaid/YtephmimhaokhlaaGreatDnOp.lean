/- How the law's parameters are read in. Conditions: the program's types, one row for each. -/
import Derived.Test.YtephmimhaokhlaaGreatDnG2
import Derived.Test.YtephmimhaokhlaaGreatM19
namespace Go.Proofs.YtephmimhaokhlaaGreatM
set_option linter.unusedVariables false
set_option linter.unusedSimpArgs false
open Go.RowKit
set_option maxRecDepth 100000
theorem op3 : OpensV Tryz.prog 3 E3 (Wi .i64) := opensV_int Tryz.underlying3 (by kernel_rfl)

end Go.Proofs.YtephmimhaokhlaaGreatM
