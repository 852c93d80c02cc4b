/- How the law's parameters are read in. Conditions: the program's types, one row for each. -/
import Derived.Test.YtaaiikopnadkeaaDoorAsG1
import Derived.Test.YtaaiikopnadkeaaDoorM19
namespace Go.Proofs.YtaaiikopnadkeaaDoorM
set_option linter.unusedVariables false
set_option linter.unusedSimpArgs false
open Go.RowKit
set_option maxRecDepth 100000
theorem op9 : OpensV Tryd.prog 9 E9 (Ws) := opensV_string Tryd.underlying9 (by kernel_rfl)
theorem op3 : OpensV Tryd.prog 3 E3 (Wi .i64) := opensV_int Tryd.underlying3 (by kernel_rfl)
def W120 (x : Hold) : Prop := Ws x.Id ∧ Wi .i64 x.Amount ∧ Wi .i64 x.Due
theorem op120 : OpensV Tryd.prog 120 E120 W120 := opensV_struct (fun x : Hold => (x.Id, x.Amount, x.Due)) (fun y => ⟨⟨y.1, y.2.1, y.2.2⟩, rfl⟩) (fun _ => rfl) Tryd.underlying120 (by kernel_rfl) (opensFsV_cons (k := 1) (o' := 1) rfl (by kernel_rfl) op9 rfl (opensFsV_cons (k := 1) (o' := 2) rfl (by kernel_rfl) op3 rfl (opensFsV_one (n := 1) rfl (by kernel_rfl) op3)))
def W35 (x : List Hold) : Prop := Wl 32 (W120) x
theorem op35 : OpensV Tryd.prog 35 E35 W35 := opensV_slice (b := 32) (sz := 3) Tryd.underlying35 (by kernel_rfl) (by kernel_rfl) (by kernel_rfl) (by kernel_rfl) (by decide) op120
def W36 (x : List Int) : Prop := Wl 8 (Wi .i64) x
theorem op36 : OpensV Tryd.prog 36 E36 W36 := opensV_slice (b := 8) (sz := 1) Tryd.underlying36 (by kernel_rfl) (by kernel_rfl) (by kernel_rfl) (by kernel_rfl) (by decide) op3
def W38 (x : Ring) : Prop := Wi .i64 x.Span ∧ Wi .i64 x.Head ∧ W36 x.Counts ∧ W36 x.Sums
theorem op38 : OpensV Tryd.prog 38 E38 W38 := opensV_struct (fun x : Ring => (x.Span, x.Head, x.Counts, x.Sums)) (fun y => ⟨⟨y.1, y.2.1, y.2.2.1, y.2.2.2⟩, rfl⟩) (fun _ => rfl) Tryd.underlying38 (by kernel_rfl) (opensFsV_cons (k := 1) (o' := 1) rfl (by kernel_rfl) op3 rfl (opensFsV_cons (k := 1) (o' := 2) rfl (by kernel_rfl) op3 rfl (opensFsV_cons (k := 1) (o' := 3) rfl (by kernel_rfl) op36 rfl (opensFsV_one (n := 1) rfl (by kernel_rfl) op36))))
theorem op5 : OpensV Tryd.prog 5 E5 (Wi .u8) := opensV_int Tryd.underlying5 (by kernel_rfl)
def W52 (x : List Int) : Prop := Wl 1 (Wi .u8) x
theorem op52 : OpensV Tryd.prog 52 E52 W52 := opensV_slice (b := 1) (sz := 1) Tryd.underlying52 (by kernel_rfl) (by kernel_rfl) (by kernel_rfl) (by kernel_rfl) (by decide) op5
def W124 (x : Slot) : Prop := Ws x.Trace ∧ Ws x.Mti ∧ W52 x.Reply
theorem op124 : OpensV Tryd.prog 124 E124 W124 := opensV_struct (fun x : Slot => (x.Trace, x.Mti, x.Reply)) (fun y => ⟨⟨y.1, y.2.1, y.2.2⟩, rfl⟩) (fun _ => rfl) Tryd.underlying124 (by kernel_rfl) (opensFsV_cons (k := 1) (o' := 1) rfl (by kernel_rfl) op9 rfl (opensFsV_cons (k := 1) (o' := 2) rfl (by kernel_rfl) op9 rfl (opensFsV_one (n := 1) rfl (by kernel_rfl) op52)))
def W39 (x : List Slot) : Prop := Wl 56 (W124) x
theorem op39 : OpensV Tryd.prog 39 E39 W39 := opensV_slice (b := 56) (sz := 3) Tryd.underlying39 (by kernel_rfl) (by kernel_rfl) (by kernel_rfl) (by kernel_rfl) (by decide) op124
def W41 (x : Acct) : Prop := Ws x.Id ∧ Wi .i64 x.Limit ∧ Wi .i64 x.Posted ∧ Wi .i64 x.Most ∧ Wi .i64 x.MostSum ∧ W35 x.Holds ∧ W38 x.Ring ∧ W39 x.Slots
theorem op41 : OpensV Tryd.prog 41 E41 W41 := opensV_struct (fun x : Acct => (x.Id, x.Limit, x.Posted, x.Most, x.MostSum, x.Holds, x.Ring, x.Slots)) (fun y => ⟨⟨y.1, y.2.1, y.2.2.1, y.2.2.2.1, y.2.2.2.2.1, y.2.2.2.2.2.1, y.2.2.2.2.2.2.1, y.2.2.2.2.2.2.2⟩, rfl⟩) (fun _ => rfl) Tryd.underlying41 (by kernel_rfl) (opensFsV_cons (k := 1) (o' := 1) rfl (by kernel_rfl) op9 rfl (opensFsV_cons (k := 1) (o' := 2) rfl (by kernel_rfl) op3 rfl (opensFsV_cons (k := 1) (o' := 3) rfl (by kernel_rfl) op3 rfl (opensFsV_cons (k := 1) (o' := 4) rfl (by kernel_rfl) op3 rfl (opensFsV_cons (k := 1) (o' := 5) rfl (by kernel_rfl) op3 rfl (opensFsV_cons (k := 1) (o' := 6) rfl (by kernel_rfl) op35 rfl (opensFsV_cons (k := 4) (o' := 10) rfl (by kernel_rfl) op38 rfl (opensFsV_one (n := 1) rfl (by kernel_rfl) op39))))))))

end Go.Proofs.YtaaiikopnadkeaaDoorM
