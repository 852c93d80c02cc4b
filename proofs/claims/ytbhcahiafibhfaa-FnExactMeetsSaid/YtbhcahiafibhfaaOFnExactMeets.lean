import Derived.Test.YtbhcahiafibhfaaVx3
import Derived.Test.YtbhcahiafibhfaaVxb
namespace Go.Proofs.Ytbhcahiafibhfaa.V
open Go.RowKit
def laws_FnExactMeets.Pure : Prop := ∀ (x0 : S32) (x1 : S32), B32 x0 → B32 x1 → ∃ k, laws_FnExactMeets.f k x0.f0 x0.f1 x0.f2 x0.f3 x0.f4 x0.f5 x0.f6 x0.f7 x0.f8 x1.f0 x1.f1 x1.f2 x1.f3 x1.f4 x1.f5 x1.f6 x1.f7 x1.f8 = some true
end Go.Proofs.Ytbhcahiafibhfaa.V
