/- How the law's parameters are read in. Conditions: the program's types, one row for each. -/
import Derived.Test.YtephmimhaokhlaaGreatSdG2
import Derived.Test.YtephmimhaokhlaaGreatM19
namespace Go.Proofs.YtephmimhaokhlaaGreatM
set_option linter.unusedVariables false
set_option linter.unusedSimpArgs false
open Go.RowKit
set_option maxRecDepth 100000
theorem op9 : OpensV Tryz.prog 9 E9 (Ws) := opensV_string Tryz.underlying9 (by kernel_rfl)
theorem op3 : OpensV Tryz.prog 3 E3 (Wi .i64) := opensV_int Tryz.underlying3 (by kernel_rfl)
def W116 (x : Hold) : Prop := Ws x.Id ∧ Wi .i64 x.Amount ∧ Wi .i64 x.Due
theorem op116 : OpensV Tryz.prog 116 E116 W116 := opensV_struct (fun x : Hold => (x.Id, x.Amount, x.Due)) (fun y => ⟨⟨y.1, y.2.1, y.2.2⟩, rfl⟩) (fun _ => rfl) Tryz.underlying116 (by kernel_rfl) (opensFsV_cons (k := 1) (o' := 1) rfl (by kernel_rfl) op9 rfl (opensFsV_cons (k := 1) (o' := 2) rfl (by kernel_rfl) op3 rfl (opensFsV_one (n := 1) rfl (by kernel_rfl) op3)))
def W34 (x : List Hold) : Prop := Wl 32 (W116) x
theorem op34 : OpensV Tryz.prog 34 E34 W34 := opensV_slice (b := 32) (sz := 3) Tryz.underlying34 (by kernel_rfl) (by kernel_rfl) (by kernel_rfl) (by kernel_rfl) (by decide) op116
def W35 (x : List Int) : Prop := Wl 8 (Wi .i64) x
theorem op35 : OpensV Tryz.prog 35 E35 W35 := opensV_slice (b := 8) (sz := 1) Tryz.underlying35 (by kernel_rfl) (by kernel_rfl) (by kernel_rfl) (by kernel_rfl) (by decide) op3
def W37 (x : Ring) : Prop := Wi .i64 x.Span ∧ Wi .i64 x.Head ∧ W35 x.Counts ∧ W35 x.Sums
theorem op37 : OpensV Tryz.prog 37 E37 W37 := opensV_struct (fun x : Ring => (x.Span, x.Head, x.Counts, x.Sums)) (fun y => ⟨⟨y.1, y.2.1, y.2.2.1, y.2.2.2⟩, rfl⟩) (fun _ => rfl) Tryz.underlying37 (by kernel_rfl) (opensFsV_cons (k := 1) (o' := 1) rfl (by kernel_rfl) op3 rfl (opensFsV_cons (k := 1) (o' := 2) rfl (by kernel_rfl) op3 rfl (opensFsV_cons (k := 1) (o' := 3) rfl (by kernel_rfl) op35 rfl (opensFsV_one (n := 1) rfl (by kernel_rfl) op35))))
theorem op5 : OpensV Tryz.prog 5 E5 (Wi .u8) := opensV_int Tryz.underlying5 (by kernel_rfl)
def W118 (x : List Int) : Prop := Wl 1 (Wi .u8) x
theorem op118 : OpensV Tryz.prog 118 E118 W118 := opensV_slice (b := 1) (sz := 1) Tryz.underlying118 (by kernel_rfl) (by kernel_rfl) (by kernel_rfl) (by kernel_rfl) (by decide) op5
def W120 (x : Slot) : Prop := Ws x.Trace ∧ Ws x.Mti ∧ W118 x.Reply
theorem op120 : OpensV Tryz.prog 120 E120 W120 := opensV_struct (fun x : Slot => (x.Trace, x.Mti, x.Reply)) (fun y => ⟨⟨y.1, y.2.1, y.2.2⟩, rfl⟩) (fun _ => rfl) Tryz.underlying120 (by kernel_rfl) (opensFsV_cons (k := 1) (o' := 1) rfl (by kernel_rfl) op9 rfl (opensFsV_cons (k := 1) (o' := 2) rfl (by kernel_rfl) op9 rfl (opensFsV_one (n := 1) rfl (by kernel_rfl) op118)))
def W38 (x : List Slot) : Prop := Wl 56 (W120) x
theorem op38 : OpensV Tryz.prog 38 E38 W38 := opensV_slice (b := 56) (sz := 3) Tryz.underlying38 (by kernel_rfl) (by kernel_rfl) (by kernel_rfl) (by kernel_rfl) (by decide) op120
def W40 (x : Acct) : Prop := Ws x.Id ∧ Wi .i64 x.Limit ∧ Wi .i64 x.Posted ∧ Wi .i64 x.Most ∧ Wi .i64 x.MostSum ∧ W34 x.Holds ∧ W37 x.Ring ∧ W38 x.Slots
theorem op40 : OpensV Tryz.prog 40 E40 W40 := opensV_struct (fun x : Acct => (x.Id, x.Limit, x.Posted, x.Most, x.MostSum, x.Holds, x.Ring, x.Slots)) (fun y => ⟨⟨y.1, y.2.1, y.2.2.1, y.2.2.2.1, y.2.2.2.2.1, y.2.2.2.2.2.1, y.2.2.2.2.2.2.1, y.2.2.2.2.2.2.2⟩, rfl⟩) (fun _ => rfl) Tryz.underlying40 (by kernel_rfl) (opensFsV_cons (k := 1) (o' := 1) rfl (by kernel_rfl) op9 rfl (opensFsV_cons (k := 1) (o' := 2) rfl (by kernel_rfl) op3 rfl (opensFsV_cons (k := 1) (o' := 3) rfl (by kernel_rfl) op3 rfl (opensFsV_cons (k := 1) (o' := 4) rfl (by kernel_rfl) op3 rfl (opensFsV_cons (k := 1) (o' := 5) rfl (by kernel_rfl) op3 rfl (opensFsV_cons (k := 1) (o' := 6) rfl (by kernel_rfl) op34 rfl (opensFsV_cons (k := 4) (o' := 10) rfl (by kernel_rfl) op37 rfl (opensFsV_one (n := 1) rfl (by kernel_rfl) op38))))))))
def W22 (x : List Acct) : Prop := Wl 160 (W40) x
theorem op22 : OpensV Tryz.prog 22 E22 W22 := opensV_slice (b := 160) (sz := 11) Tryz.underlying22 (by kernel_rfl) (by kernel_rfl) (by kernel_rfl) (by kernel_rfl) (by decide) op40
def W24 (x : Book) : Prop := W22 x.Accts
theorem op24 : OpensV Tryz.prog 24 E24 W24 := opensV_struct (fun x : Book => (x.Accts)) (fun y => ⟨⟨y⟩, rfl⟩) (fun _ => rfl) Tryz.underlying24 (by kernel_rfl) (opensFsV_one (n := 1) rfl (by kernel_rfl) op22)

end Go.Proofs.YtephmimhaokhlaaGreatM
