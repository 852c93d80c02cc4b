import Derived.Test.YtdpbcmajmojolaaCx9
import Derived.Test.YtdpbcmajmojolaaCxb
namespace Go.Proofs.Ytdpbcmajmojolaa.C
open Go.RowKit
def laws_FnExactCrossings.Pure : Prop := ∀ (x0 : S25), B25 x0 → ∃ k, laws_FnExactCrossings.f k x0.f0 x0.f1 x0.f2 x0.f3 = some true
end Go.Proofs.Ytdpbcmajmojolaa.C
