/- The law's closed facts, told alone: the kernel runs out of memory when they stand among others. No condition. -/
import Derived.Test.YtbophjkjmlenpaaGreatDoorRows
import Derived.JoinedOf
import Derived.MakeChecks
import Derived.Test.YtbophjkjmlenpaaGreatDoorM19
namespace Go.Proofs.YtbophjkjmlenpaaGreatDoor.fnReq
open Go.RowKit
theorem closedFacts : joinedFacts Tryz.pinned.checked.prog 8 Tryz.f8 Rows.fnReqSpec Rows.fnReqRow = true := by kernel_rfl
end Go.Proofs.YtbophjkjmlenpaaGreatDoor.fnReq
