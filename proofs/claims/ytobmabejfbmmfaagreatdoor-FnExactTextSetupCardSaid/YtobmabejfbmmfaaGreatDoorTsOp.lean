/- How the law's parameters are read in. Conditions: the program's types, one row for each. -/
import Derived.Test.YtobmabejfbmmfaaGreatDoorTsG2
import Derived.Test.YtobmabejfbmmfaaGreatDoorM19
namespace Go.Proofs.YtobmabejfbmmfaaGreatDoorM
set_option linter.unusedVariables false
set_option linter.unusedSimpArgs false
open Go.RowKit
set_option maxRecDepth 100000
theorem op9 : OpensV Tryz.prog 9 E9 (Ws) := opensV_string Tryz.underlying9 (by kernel_rfl)

end Go.Proofs.YtobmabejfbmmfaaGreatDoorM
