import Derived.Test.YtbhcahiafibhfaaRAx8
import Derived.Test.YtbhcahiafibhfaaRAxb
namespace Go.Proofs.Ytbhcahiafibhfaa.RA
open Go.RowKit
def laws_FnExactRingAdd.Pure : Prop := ∀ (x0 : S39) (x1 : Int) (x2 : Int), B39 x0 → (Lit.int .i64 x1).wf = true → (Lit.int .i64 x2).wf = true → ∃ k, laws_FnExactRingAdd.f k x0.f0 x0.f1 x0.f2 x0.f3 x1 x2 = some true
end Go.Proofs.Ytbhcahiafibhfaa.RA
