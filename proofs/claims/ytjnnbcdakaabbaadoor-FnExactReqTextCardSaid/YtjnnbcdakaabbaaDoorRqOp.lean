/- How the law's parameters are read in. Conditions: the program's types, one row for each. -/
import Derived.Test.YtjnnbcdakaabbaaDoorRqG0
import Derived.Test.YtjnnbcdakaabbaaDoorM19
namespace Go.Proofs.YtjnnbcdakaabbaaDoorM
set_option linter.unusedVariables false
set_option linter.unusedSimpArgs false
open Go.RowKit
set_option maxRecDepth 100000
theorem op3 : OpensV Tryd.prog 3 E3 (Wi .i64) := opensV_int Tryd.underlying3 (by kernel_rfl)
theorem op9 : OpensV Tryd.prog 9 E9 (Ws) := opensV_string Tryd.underlying9 (by kernel_rfl)
def W23 (x : Req) : Prop := Wi .i64 x.Op ∧ Ws x.Acct ∧ Ws x.Other ∧ Ws x.Hold ∧ Ws x.Trace ∧ Ws x.Mti ∧ Wi .i64 x.Amount ∧ Wi .i64 x.Ttl
theorem op23 : OpensV Tryd.prog 23 E23 W23 := opensV_struct (fun x : Req => (x.Op, x.Acct, x.Other, x.Hold, x.Trace, x.Mti, x.Amount, x.Ttl)) (fun y => ⟨⟨y.1, y.2.1, y.2.2.1, y.2.2.2.1, y.2.2.2.2.1, y.2.2.2.2.2.1, y.2.2.2.2.2.2.1, y.2.2.2.2.2.2.2⟩, rfl⟩) (fun _ => rfl) Tryd.underlying23 (by kernel_rfl) (opensFsV_cons (k := 1) (o' := 1) rfl (by kernel_rfl) op3 rfl (opensFsV_cons (k := 1) (o' := 2) rfl (by kernel_rfl) op9 rfl (opensFsV_cons (k := 1) (o' := 3) rfl (by kernel_rfl) op9 rfl (opensFsV_cons (k := 1) (o' := 4) rfl (by kernel_rfl) op9 rfl (opensFsV_cons (k := 1) (o' := 5) rfl (by kernel_rfl) op9 rfl (opensFsV_cons (k := 1) (o' := 6) rfl (by kernel_rfl) op9 rfl (opensFsV_cons (k := 1) (o' := 7) rfl (by kernel_rfl) op3 rfl (opensFsV_one (n := 1) rfl (by kernel_rfl) op3))))))))

end Go.Proofs.YtjnnbcdakaabbaaDoorM
