/- How the law's parameters are read in. Conditions: the program's types, one row for each. -/
import Derived.Test.YtaaiikopnadkeaaGa2
import Derived.Test.YtaaiikopnadkeaaM19
namespace Go.Proofs.YtaaiikopnadkeaaM
set_option linter.unusedVariables false
set_option linter.unusedSimpArgs false
open Go.RowKit
set_option maxRecDepth 100000
theorem op9 : OpensV Try.prog 9 E9 (Ws) := opensV_string Try.underlying9 (by kernel_rfl)
theorem op3 : OpensV Try.prog 3 E3 (Wi .i64) := opensV_int Try.underlying3 (by kernel_rfl)
def W132 (x : Hold) : Prop := Ws x.Id ∧ Wi .i64 x.Amount ∧ Wi .i64 x.Due
theorem op132 : OpensV Try.prog 132 E132 W132 := opensV_struct (fun x : Hold => (x.Id, x.Amount, x.Due)) (fun y => ⟨⟨y.1, y.2.1, y.2.2⟩, rfl⟩) (fun _ => rfl) Try.underlying132 (by kernel_rfl) (opensFsV_cons (k := 1) (o' := 1) rfl (by kernel_rfl) op9 rfl (opensFsV_cons (k := 1) (o' := 2) rfl (by kernel_rfl) op3 rfl (opensFsV_one (n := 1) rfl (by kernel_rfl) op3)))
def W37 (x : List Hold) : Prop := Wl 32 (W132) x
theorem op37 : OpensV Try.prog 37 E37 W37 := opensV_slice (b := 32) (sz := 3) Try.underlying37 (by kernel_rfl) (by kernel_rfl) (by kernel_rfl) (by kernel_rfl) (by decide) op132
def W38 (x : List Int) : Prop := Wl 8 (Wi .i64) x
theorem op38 : OpensV Try.prog 38 E38 W38 := opensV_slice (b := 8) (sz := 1) Try.underlying38 (by kernel_rfl) (by kernel_rfl) (by kernel_rfl) (by kernel_rfl) (by decide) op3
def W40 (x : Ring) : Prop := Wi .i64 x.Span ∧ Wi .i64 x.Head ∧ W38 x.Counts ∧ W38 x.Sums
theorem op40 : OpensV Try.prog 40 E40 W40 := opensV_struct (fun x : Ring => (x.Span, x.Head, x.Counts, x.Sums)) (fun y => ⟨⟨y.1, y.2.1, y.2.2.1, y.2.2.2⟩, rfl⟩) (fun _ => rfl) Try.underlying40 (by kernel_rfl) (opensFsV_cons (k := 1) (o' := 1) rfl (by kernel_rfl) op3 rfl (opensFsV_cons (k := 1) (o' := 2) rfl (by kernel_rfl) op3 rfl (opensFsV_cons (k := 1) (o' := 3) rfl (by kernel_rfl) op38 rfl (opensFsV_one (n := 1) rfl (by kernel_rfl) op38))))
theorem op5 : OpensV Try.prog 5 E5 (Wi .u8) := opensV_int Try.underlying5 (by kernel_rfl)
def W22 (x : List Int) : Prop := Wl 1 (Wi .u8) x
theorem op22 : OpensV Try.prog 22 E22 W22 := opensV_slice (b := 1) (sz := 1) Try.underlying22 (by kernel_rfl) (by kernel_rfl) (by kernel_rfl) (by kernel_rfl) (by decide) op5
def W135 (x : Slot) : Prop := Ws x.Trace ∧ Ws x.Mti ∧ W22 x.Reply
theorem op135 : OpensV Try.prog 135 E135 W135 := opensV_struct (fun x : Slot => (x.Trace, x.Mti, x.Reply)) (fun y => ⟨⟨y.1, y.2.1, y.2.2⟩, rfl⟩) (fun _ => rfl) Try.underlying135 (by kernel_rfl) (opensFsV_cons (k := 1) (o' := 1) rfl (by kernel_rfl) op9 rfl (opensFsV_cons (k := 1) (o' := 2) rfl (by kernel_rfl) op9 rfl (opensFsV_one (n := 1) rfl (by kernel_rfl) op22)))
def W41 (x : List Slot) : Prop := Wl 56 (W135) x
theorem op41 : OpensV Try.prog 41 E41 W41 := opensV_slice (b := 56) (sz := 3) Try.underlying41 (by kernel_rfl) (by kernel_rfl) (by kernel_rfl) (by kernel_rfl) (by decide) op135
def W43 (x : Acct) : Prop := Ws x.Id ∧ Wi .i64 x.Limit ∧ Wi .i64 x.Posted ∧ Wi .i64 x.Most ∧ Wi .i64 x.MostSum ∧ W37 x.Holds ∧ W40 x.Ring ∧ W41 x.Slots
theorem op43 : OpensV Try.prog 43 E43 W43 := opensV_struct (fun x : Acct => (x.Id, x.Limit, x.Posted, x.Most, x.MostSum, x.Holds, x.Ring, x.Slots)) (fun y => ⟨⟨y.1, y.2.1, y.2.2.1, y.2.2.2.1, y.2.2.2.2.1, y.2.2.2.2.2.1, y.2.2.2.2.2.2.1, y.2.2.2.2.2.2.2⟩, rfl⟩) (fun _ => rfl) Try.underlying43 (by kernel_rfl) (opensFsV_cons (k := 1) (o' := 1) rfl (by kernel_rfl) op9 rfl (opensFsV_cons (k := 1) (o' := 2) rfl (by kernel_rfl) op3 rfl (opensFsV_cons (k := 1) (o' := 3) rfl (by kernel_rfl) op3 rfl (opensFsV_cons (k := 1) (o' := 4) rfl (by kernel_rfl) op3 rfl (opensFsV_cons (k := 1) (o' := 5) rfl (by kernel_rfl) op3 rfl (opensFsV_cons (k := 1) (o' := 6) rfl (by kernel_rfl) op37 rfl (opensFsV_cons (k := 4) (o' := 10) rfl (by kernel_rfl) op40 rfl (opensFsV_one (n := 1) rfl (by kernel_rfl) op41))))))))

end Go.Proofs.YtaaiikopnadkeaaM
