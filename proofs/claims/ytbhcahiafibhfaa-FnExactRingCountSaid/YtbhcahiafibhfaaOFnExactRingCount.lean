import Derived.Test.YtbhcahiafibhfaaRCx7
import Derived.Test.YtbhcahiafibhfaaRCxb
namespace Go.Proofs.Ytbhcahiafibhfaa.RC
open Go.RowKit
def laws_FnExactRingCount.Pure : Prop := ∀ (x0 : S39) (x1 : Int), B39 x0 → (Lit.int .i64 x1).wf = true → ∃ k, laws_FnExactRingCount.f k x0.f0 x0.f1 x0.f2 x0.f3 x1 = some true
end Go.Proofs.Ytbhcahiafibhfaa.RC
