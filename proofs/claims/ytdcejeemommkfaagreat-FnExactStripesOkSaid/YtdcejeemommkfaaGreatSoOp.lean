/- How the law's parameters are read in. Conditions: the program's types, one row for each. -/
import Derived.Test.YtdcejeemommkfaaGreatSoG3
import Derived.Test.YtdcejeemommkfaaGreatM19
namespace Go.Proofs.YtdcejeemommkfaaGreatM
set_option linter.unusedVariables false
set_option linter.unusedSimpArgs false
open Go.RowKit
set_option maxRecDepth 100000
theorem op3 : OpensV Tryz.prog 3 E3 (Wi .i64) := opensV_int Tryz.underlying3 (by kernel_rfl)
theorem op9 : OpensV Tryz.prog 9 E9 (Ws) := opensV_string Tryz.underlying9 (by kernel_rfl)
def W107 (x : Hold) : Prop := Ws x.Id ∧ Wi .i64 x.Amount ∧ Wi .i64 x.Due
theorem op107 : OpensV Tryz.prog 107 E107 W107 := opensV_struct (fun x : Hold => (x.Id, x.Amount, x.Due)) (fun y => ⟨⟨y.1, y.2.1, y.2.2⟩, rfl⟩) (fun _ => rfl) Tryz.underlying107 (by kernel_rfl) (opensFsV_cons (k := 1) (o' := 1) rfl (by kernel_rfl) op9 rfl (opensFsV_cons (k := 1) (o' := 2) rfl (by kernel_rfl) op3 rfl (opensFsV_one (n := 1) rfl (by kernel_rfl) op3)))
def W61 (x : List Hold) : Prop := Wl 32 (W107) x
theorem op61 : OpensV Tryz.prog 61 E61 W61 := opensV_slice (b := 32) (sz := 3) Tryz.underlying61 (by kernel_rfl) (by kernel_rfl) (by kernel_rfl) (by kernel_rfl) (by decide) op107
def W38 (x : List Int) : Prop := Wl 8 (Wi .i64) x
theorem op38 : OpensV Tryz.prog 38 E38 W38 := opensV_slice (b := 8) (sz := 1) Tryz.underlying38 (by kernel_rfl) (by kernel_rfl) (by kernel_rfl) (by kernel_rfl) (by decide) op3
def W62 (x : Ring) : Prop := Wi .i64 x.Span ∧ Wi .i64 x.Head ∧ W38 x.Counts ∧ W38 x.Sums
theorem op62 : OpensV Tryz.prog 62 E62 W62 := opensV_struct (fun x : Ring => (x.Span, x.Head, x.Counts, x.Sums)) (fun y => ⟨⟨y.1, y.2.1, y.2.2.1, y.2.2.2⟩, rfl⟩) (fun _ => rfl) Tryz.underlying62 (by kernel_rfl) (opensFsV_cons (k := 1) (o' := 1) rfl (by kernel_rfl) op3 rfl (opensFsV_cons (k := 1) (o' := 2) rfl (by kernel_rfl) op3 rfl (opensFsV_cons (k := 1) (o' := 3) rfl (by kernel_rfl) op38 rfl (opensFsV_one (n := 1) rfl (by kernel_rfl) op38))))
theorem op5 : OpensV Tryz.prog 5 E5 (Wi .u8) := opensV_int Tryz.underlying5 (by kernel_rfl)
def W87 (x : List Int) : Prop := Wl 1 (Wi .u8) x
theorem op87 : OpensV Tryz.prog 87 E87 W87 := opensV_slice (b := 1) (sz := 1) Tryz.underlying87 (by kernel_rfl) (by kernel_rfl) (by kernel_rfl) (by kernel_rfl) (by decide) op5
def W110 (x : Slot) : Prop := Ws x.Trace ∧ Ws x.Mti ∧ W87 x.Reply
theorem op110 : OpensV Tryz.prog 110 E110 W110 := opensV_struct (fun x : Slot => (x.Trace, x.Mti, x.Reply)) (fun y => ⟨⟨y.1, y.2.1, y.2.2⟩, rfl⟩) (fun _ => rfl) Tryz.underlying110 (by kernel_rfl) (opensFsV_cons (k := 1) (o' := 1) rfl (by kernel_rfl) op9 rfl (opensFsV_cons (k := 1) (o' := 2) rfl (by kernel_rfl) op9 rfl (opensFsV_one (n := 1) rfl (by kernel_rfl) op87)))
def W63 (x : List Slot) : Prop := Wl 56 (W110) x
theorem op63 : OpensV Tryz.prog 63 E63 W63 := opensV_slice (b := 56) (sz := 3) Tryz.underlying63 (by kernel_rfl) (by kernel_rfl) (by kernel_rfl) (by kernel_rfl) (by decide) op110
def W65 (x : Acct) : Prop := Ws x.Id ∧ Wi .i64 x.Limit ∧ Wi .i64 x.Posted ∧ Wi .i64 x.Most ∧ Wi .i64 x.MostSum ∧ W61 x.Holds ∧ W62 x.Ring ∧ W63 x.Slots
theorem op65 : OpensV Tryz.prog 65 E65 W65 := opensV_struct (fun x : Acct => (x.Id, x.Limit, x.Posted, x.Most, x.MostSum, x.Holds, x.Ring, x.Slots)) (fun y => ⟨⟨y.1, y.2.1, y.2.2.1, y.2.2.2.1, y.2.2.2.2.1, y.2.2.2.2.2.1, y.2.2.2.2.2.2.1, y.2.2.2.2.2.2.2⟩, rfl⟩) (fun _ => rfl) Tryz.underlying65 (by kernel_rfl) (opensFsV_cons (k := 1) (o' := 1) rfl (by kernel_rfl) op9 rfl (opensFsV_cons (k := 1) (o' := 2) rfl (by kernel_rfl) op3 rfl (opensFsV_cons (k := 1) (o' := 3) rfl (by kernel_rfl) op3 rfl (opensFsV_cons (k := 1) (o' := 4) rfl (by kernel_rfl) op3 rfl (opensFsV_cons (k := 1) (o' := 5) rfl (by kernel_rfl) op3 rfl (opensFsV_cons (k := 1) (o' := 6) rfl (by kernel_rfl) op61 rfl (opensFsV_cons (k := 4) (o' := 10) rfl (by kernel_rfl) op62 rfl (opensFsV_one (n := 1) rfl (by kernel_rfl) op63))))))))
def W30 (x : List Acct) : Prop := Wl 160 (W65) x
theorem op30 : OpensV Tryz.prog 30 E30 W30 := opensV_slice (b := 160) (sz := 11) Tryz.underlying30 (by kernel_rfl) (by kernel_rfl) (by kernel_rfl) (by kernel_rfl) (by decide) op65
def W32 (x : Stripe) : Prop := Wi .i64 x.Owner ∧ W30 x.Accts
theorem op32 : OpensV Tryz.prog 32 E32 W32 := opensV_struct (fun x : Stripe => (x.Owner, x.Accts)) (fun y => ⟨⟨y.1, y.2⟩, rfl⟩) (fun _ => rfl) Tryz.underlying32 (by kernel_rfl) (opensFsV_cons (k := 1) (o' := 1) rfl (by kernel_rfl) op3 rfl (opensFsV_one (n := 1) rfl (by kernel_rfl) op30))
def W22 (x : List Stripe) : Prop := Wl 32 (W32) x
theorem op22 : OpensV Tryz.prog 22 E22 W22 := opensV_slice (b := 32) (sz := 2) Tryz.underlying22 (by kernel_rfl) (by kernel_rfl) (by kernel_rfl) (by kernel_rfl) (by decide) op32

end Go.Proofs.YtdcejeemommkfaaGreatM
