/- What the laws' own helpers tell: sizes, copies, comparisons. No condition beside lengths. -/
import Derived.Test.YtbhcahiafibhfaaRNxb
import Derived.Test.YtbhcahiafibhfaaPureLib
namespace Go.Proofs.Ytbhcahiafibhfaa.RN
open Go.RowKit Go.Proofs.YtbhcahiafibhfaaW.PrintWords Go.Proofs.YtbhcahiafibhfaaW.PrintLast
end Go.Proofs.Ytbhcahiafibhfaa.RN
