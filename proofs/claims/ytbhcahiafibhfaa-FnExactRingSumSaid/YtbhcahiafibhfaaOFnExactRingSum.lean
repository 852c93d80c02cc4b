import Derived.Test.YtbhcahiafibhfaaRSx7
import Derived.Test.YtbhcahiafibhfaaRSxb
namespace Go.Proofs.Ytbhcahiafibhfaa.RS
open Go.RowKit
def laws_FnExactRingSum.Pure : Prop := ∀ (x0 : S39) (x1 : Int), B39 x0 → (Lit.int .i64 x1).wf = true → ∃ k, laws_FnExactRingSum.f k x0.f0 x0.f1 x0.f2 x0.f3 x1 = some true
end Go.Proofs.Ytbhcahiafibhfaa.RS
