import Derived.Test.YtbhcahiafibhfaaRNx6
import Derived.Test.YtbhcahiafibhfaaRNxb
namespace Go.Proofs.Ytbhcahiafibhfaa.RN
open Go.RowKit
def laws_FnRing.Pure : Prop := ∀ (x0 : List Int), (x0.length * 1 ≤ 140737488351232 ∧ ∀ z305 ∈ x0, (Lit.int .u8 z305).wf = true) → ∃ k, laws_FnRing.f k x0 = some true
end Go.Proofs.Ytbhcahiafibhfaa.RN
