import Derived.Test.YtbhcahiafibhfaaRNx0
import Derived.Test.YtbhcahiafibhfaaOpens
import Derived.KernelRfl
namespace Go.Proofs.Ytbhcahiafibhfaa.RN
open Go.RowKit Go.Proofs.YtbhcahiafibhfaaW.PrintWords Go.Proofs.YtbhcahiafibhfaaW.PrintLast Go.Proofs.YtbhcahiafibhfaaW.Opens
end Go.Proofs.Ytbhcahiafibhfaa.RN
