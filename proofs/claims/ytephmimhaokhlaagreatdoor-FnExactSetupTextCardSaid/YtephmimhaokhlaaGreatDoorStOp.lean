/- How the law's parameters are read in. Conditions: the program's types, one row for each. -/
import Derived.Test.YtephmimhaokhlaaGreatDoorStG1
import Derived.Test.YtephmimhaokhlaaGreatDoorM19
namespace Go.Proofs.YtephmimhaokhlaaGreatDoorM
set_option linter.unusedVariables false
set_option linter.unusedSimpArgs false
open Go.RowKit
set_option maxRecDepth 100000
theorem op9 : OpensV Tryz.prog 9 E9 (Ws) := opensV_string Tryz.underlying9 (by kernel_rfl)
theorem op3 : OpensV Tryz.prog 3 E3 (Wi .i64) := opensV_int Tryz.underlying3 (by kernel_rfl)
def W55 (x : Hold) : Prop := Ws x.Id ∧ Wi .i64 x.Amount ∧ Wi .i64 x.Due
theorem op55 : OpensV Tryz.prog 55 E55 W55 := opensV_struct (fun x : Hold => (x.Id, x.Amount, x.Due)) (fun y => ⟨⟨y.1, y.2.1, y.2.2⟩, rfl⟩) (fun _ => rfl) Tryz.underlying55 (by kernel_rfl) (opensFsV_cons (k := 1) (o' := 1) rfl (by kernel_rfl) op9 rfl (opensFsV_cons (k := 1) (o' := 2) rfl (by kernel_rfl) op3 rfl (opensFsV_one (n := 1) rfl (by kernel_rfl) op3)))
def W22 (x : List Hold) : Prop := Wl 32 (W55) x
theorem op22 : OpensV Tryz.prog 22 E22 W22 := opensV_slice (b := 32) (sz := 3) Tryz.underlying22 (by kernel_rfl) (by kernel_rfl) (by kernel_rfl) (by kernel_rfl) (by decide) op55
def W23 (x : List Int) : Prop := Wl 8 (Wi .i64) x
theorem op23 : OpensV Tryz.prog 23 E23 W23 := opensV_slice (b := 8) (sz := 1) Tryz.underlying23 (by kernel_rfl) (by kernel_rfl) (by kernel_rfl) (by kernel_rfl) (by decide) op3
def W25 (x : Ring) : Prop := Wi .i64 x.Span ∧ Wi .i64 x.Head ∧ W23 x.Counts ∧ W23 x.Sums
theorem op25 : OpensV Tryz.prog 25 E25 W25 := opensV_struct (fun x : Ring => (x.Span, x.Head, x.Counts, x.Sums)) (fun y => ⟨⟨y.1, y.2.1, y.2.2.1, y.2.2.2⟩, rfl⟩) (fun _ => rfl) Tryz.underlying25 (by kernel_rfl) (opensFsV_cons (k := 1) (o' := 1) rfl (by kernel_rfl) op3 rfl (opensFsV_cons (k := 1) (o' := 2) rfl (by kernel_rfl) op3 rfl (opensFsV_cons (k := 1) (o' := 3) rfl (by kernel_rfl) op23 rfl (opensFsV_one (n := 1) rfl (by kernel_rfl) op23))))
theorem op5 : OpensV Tryz.prog 5 E5 (Wi .u8) := opensV_int Tryz.underlying5 (by kernel_rfl)
def W58 (x : List Int) : Prop := Wl 1 (Wi .u8) x
theorem op58 : OpensV Tryz.prog 58 E58 W58 := opensV_slice (b := 1) (sz := 1) Tryz.underlying58 (by kernel_rfl) (by kernel_rfl) (by kernel_rfl) (by kernel_rfl) (by decide) op5
def W60 (x : Slot) : Prop := Ws x.Trace ∧ Ws x.Mti ∧ W58 x.Reply
theorem op60 : OpensV Tryz.prog 60 E60 W60 := opensV_struct (fun x : Slot => (x.Trace, x.Mti, x.Reply)) (fun y => ⟨⟨y.1, y.2.1, y.2.2⟩, rfl⟩) (fun _ => rfl) Tryz.underlying60 (by kernel_rfl) (opensFsV_cons (k := 1) (o' := 1) rfl (by kernel_rfl) op9 rfl (opensFsV_cons (k := 1) (o' := 2) rfl (by kernel_rfl) op9 rfl (opensFsV_one (n := 1) rfl (by kernel_rfl) op58)))
def W26 (x : List Slot) : Prop := Wl 56 (W60) x
theorem op26 : OpensV Tryz.prog 26 E26 W26 := opensV_slice (b := 56) (sz := 3) Tryz.underlying26 (by kernel_rfl) (by kernel_rfl) (by kernel_rfl) (by kernel_rfl) (by decide) op60
def W28 (x : Acct) : Prop := Ws x.Id ∧ Wi .i64 x.Limit ∧ Wi .i64 x.Posted ∧ Wi .i64 x.Most ∧ Wi .i64 x.MostSum ∧ W22 x.Holds ∧ W25 x.Ring ∧ W26 x.Slots
theorem op28 : OpensV Tryz.prog 28 E28 W28 := opensV_struct (fun x : Acct => (x.Id, x.Limit, x.Posted, x.Most, x.MostSum, x.Holds, x.Ring, x.Slots)) (fun y => ⟨⟨y.1, y.2.1, y.2.2.1, y.2.2.2.1, y.2.2.2.2.1, y.2.2.2.2.2.1, y.2.2.2.2.2.2.1, y.2.2.2.2.2.2.2⟩, rfl⟩) (fun _ => rfl) Tryz.underlying28 (by kernel_rfl) (opensFsV_cons (k := 1) (o' := 1) rfl (by kernel_rfl) op9 rfl (opensFsV_cons (k := 1) (o' := 2) rfl (by kernel_rfl) op3 rfl (opensFsV_cons (k := 1) (o' := 3) rfl (by kernel_rfl) op3 rfl (opensFsV_cons (k := 1) (o' := 4) rfl (by kernel_rfl) op3 rfl (opensFsV_cons (k := 1) (o' := 5) rfl (by kernel_rfl) op3 rfl (opensFsV_cons (k := 1) (o' := 6) rfl (by kernel_rfl) op22 rfl (opensFsV_cons (k := 4) (o' := 10) rfl (by kernel_rfl) op25 rfl (opensFsV_one (n := 1) rfl (by kernel_rfl) op26))))))))

end Go.Proofs.YtephmimhaokhlaaGreatDoorM
