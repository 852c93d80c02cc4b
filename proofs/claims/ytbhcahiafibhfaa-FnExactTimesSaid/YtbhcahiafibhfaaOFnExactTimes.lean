import Derived.Test.YtbhcahiafibhfaaQx3
import Derived.Test.YtbhcahiafibhfaaQxb
namespace Go.Proofs.Ytbhcahiafibhfaa.Q
open Go.RowKit
def laws_FnExactTimes.Pure : Prop := ∀ (x0 : List (S68)), (x0.length * 56 ≤ 140737488351232 ∧ ∀ z165 ∈ x0, B68 z165) → ∃ k, laws_FnExactTimes.f k x0 = some true
end Go.Proofs.Ytbhcahiafibhfaa.Q
