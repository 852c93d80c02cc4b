/- How the law's parameters are read in. Conditions: the program's types, one row for each. -/
import Derived.Test.YtjnnbcdakaabbaaDoorReG0
import Derived.Test.YtjnnbcdakaabbaaDoorM19
namespace Go.Proofs.YtjnnbcdakaabbaaDoorM
set_option linter.unusedVariables false
set_option linter.unusedSimpArgs false
open Go.RowKit
set_option maxRecDepth 100000
theorem op9 : OpensV Tryd.prog 9 E9 (Ws) := opensV_string Tryd.underlying9 (by kernel_rfl)

end Go.Proofs.YtjnnbcdakaabbaaDoorM
