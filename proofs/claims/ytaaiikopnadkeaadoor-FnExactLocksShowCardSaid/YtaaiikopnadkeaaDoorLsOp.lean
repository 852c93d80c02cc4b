/- How the law's parameters are read in. Conditions: the program's types, one row for each. -/
import Derived.Test.YtaaiikopnadkeaaDoorLsG0
import Derived.Test.YtaaiikopnadkeaaDoorM19
namespace Go.Proofs.YtaaiikopnadkeaaDoorM
set_option linter.unusedVariables false
set_option linter.unusedSimpArgs false
open Go.RowKit
set_option maxRecDepth 100000
theorem op3 : OpensV Tryd.prog 3 E3 (Wi .i64) := opensV_int Tryd.underlying3 (by kernel_rfl)
theorem op9 : OpensV Tryd.prog 9 E9 (Ws) := opensV_string Tryd.underlying9 (by kernel_rfl)
def W120 (x : Hold) : Prop := Ws x.Id ∧ Wi .i64 x.Amount ∧ Wi .i64 x.Due
theorem op120 : OpensV Tryd.prog 120 E120 W120 := opensV_struct (fun x : Hold => (x.Id, x.Amount, x.Due)) (fun y => ⟨⟨y.1, y.2.1, y.2.2⟩, rfl⟩) (fun _ => rfl) Tryd.underlying120 (by kernel_rfl) (opensFsV_cons (k := 1) (o' := 1) rfl (by kernel_rfl) op9 rfl (opensFsV_cons (k := 1) (o' := 2) rfl (by kernel_rfl) op3 rfl (opensFsV_one (n := 1) rfl (by kernel_rfl) op3)))
def W35 (x : List Hold) : Prop := Wl 32 (W120) x
theorem op35 : OpensV Tryd.prog 35 E35 W35 := opensV_slice (b := 32) (sz := 3) Tryd.underlying35 (by kernel_rfl) (by kernel_rfl) (by kernel_rfl) (by kernel_rfl) (by decide) op120
def W36 (x : List Int) : Prop := Wl 8 (Wi .i64) x
theorem op36 : OpensV Tryd.prog 36 E36 W36 := opensV_slice (b := 8) (sz := 1) Tryd.underlying36 (by kernel_rfl) (by kernel_rfl) (by kernel_rfl) (by kernel_rfl) (by decide) op3
def W38 (x : Ring) : Prop := Wi .i64 x.Span ∧ Wi .i64 x.Head ∧ W36 x.Counts ∧ W36 x.Sums
theorem op38 : OpensV Tryd.prog 38 E38 W38 := opensV_struct (fun x : Ring => (x.Span, x.Head, x.Counts, x.Sums)) (fun y => ⟨⟨y.1, y.2.1, y.2.2.1, y.2.2.2⟩, rfl⟩) (fun _ => rfl) Tryd.underlying38 (by kernel_rfl) (opensFsV_cons (k := 1) (o' := 1) rfl (by kernel_rfl) op3 rfl (opensFsV_cons (k := 1) (o' := 2) rfl (by kernel_rfl) op3 rfl (opensFsV_cons (k := 1) (o' := 3) rfl (by kernel_rfl) op36 rfl (opensFsV_one (n := 1) rfl (by kernel_rfl) op36))))
theorem op5 : OpensV Tryd.prog 5 E5 (Wi .u8) := opensV_int Tryd.underlying5 (by kernel_rfl)
def W52 (x : List Int) : Prop := Wl 1 (Wi .u8) x
theorem op52 : OpensV Tryd.prog 52 E52 W52 := opensV_slice (b := 1) (sz := 1) Tryd.underlying52 (by kernel_rfl) (by kernel_rfl) (by kernel_rfl) (by kernel_rfl) (by decide) op5
def W124 (x : Slot) : Prop := Ws x.Trace ∧ Ws x.Mti ∧ W52 x.Reply
theorem op124 : OpensV Tryd.prog 124 E124 W124 := opensV_struct (fun x : Slot => (x.Trace, x.Mti, x.Reply)) (fun y => ⟨⟨y.1, y.2.1, y.2.2⟩, rfl⟩) (fun _ => rfl) Tryd.underlying124 (by kernel_rfl) (opensFsV_cons (k := 1) (o' := 1) rfl (by kernel_rfl) op9 rfl (opensFsV_cons (k := 1) (o' := 2) rfl (by kernel_rfl) op9 rfl (opensFsV_one (n := 1) rfl (by kernel_rfl) op52)))
def W39 (x : List Slot) : Prop := Wl 56 (W124) x
theorem op39 : OpensV Tryd.prog 39 E39 W39 := opensV_slice (b := 56) (sz := 3) Tryd.underlying39 (by kernel_rfl) (by kernel_rfl) (by kernel_rfl) (by kernel_rfl) (by decide) op124
def W41 (x : Acct) : Prop := Ws x.Id ∧ Wi .i64 x.Limit ∧ Wi .i64 x.Posted ∧ Wi .i64 x.Most ∧ Wi .i64 x.MostSum ∧ W35 x.Holds ∧ W38 x.Ring ∧ W39 x.Slots
theorem op41 : OpensV Tryd.prog 41 E41 W41 := opensV_struct (fun x : Acct => (x.Id, x.Limit, x.Posted, x.Most, x.MostSum, x.Holds, x.Ring, x.Slots)) (fun y => ⟨⟨y.1, y.2.1, y.2.2.1, y.2.2.2.1, y.2.2.2.2.1, y.2.2.2.2.2.1, y.2.2.2.2.2.2.1, y.2.2.2.2.2.2.2⟩, rfl⟩) (fun _ => rfl) Tryd.underlying41 (by kernel_rfl) (opensFsV_cons (k := 1) (o' := 1) rfl (by kernel_rfl) op9 rfl (opensFsV_cons (k := 1) (o' := 2) rfl (by kernel_rfl) op3 rfl (opensFsV_cons (k := 1) (o' := 3) rfl (by kernel_rfl) op3 rfl (opensFsV_cons (k := 1) (o' := 4) rfl (by kernel_rfl) op3 rfl (opensFsV_cons (k := 1) (o' := 5) rfl (by kernel_rfl) op3 rfl (opensFsV_cons (k := 1) (o' := 6) rfl (by kernel_rfl) op35 rfl (opensFsV_cons (k := 4) (o' := 10) rfl (by kernel_rfl) op38 rfl (opensFsV_one (n := 1) rfl (by kernel_rfl) op39))))))))
def W99 (x : List Acct) : Prop := Wl 160 (W41) x
theorem op99 : OpensV Tryd.prog 99 E99 W99 := opensV_slice (b := 160) (sz := 11) Tryd.underlying99 (by kernel_rfl) (by kernel_rfl) (by kernel_rfl) (by kernel_rfl) (by decide) op41
def W101 (x : Stripe) : Prop := Wi .i64 x.Owner ∧ W99 x.Accts
theorem op101 : OpensV Tryd.prog 101 E101 W101 := opensV_struct (fun x : Stripe => (x.Owner, x.Accts)) (fun y => ⟨⟨y.1, y.2⟩, rfl⟩) (fun _ => rfl) Tryd.underlying101 (by kernel_rfl) (opensFsV_cons (k := 1) (o' := 1) rfl (by kernel_rfl) op3 rfl (opensFsV_one (n := 1) rfl (by kernel_rfl) op99))
def W22 (x : List Stripe) : Prop := Wl 32 (W101) x
theorem op22 : OpensV Tryd.prog 22 E22 W22 := opensV_slice (b := 32) (sz := 2) Tryd.underlying22 (by kernel_rfl) (by kernel_rfl) (by kernel_rfl) (by kernel_rfl) (by decide) op101
def W104 (x : Task) : Prop := W52 x.Data ∧ Wi .i64 x.Pc ∧ W36 x.Set ∧ Wi .i64 x.Held ∧ Wi .i64 x.Inv ∧ Wi .i64 x.Lin ∧ Wi .i64 x.Res ∧ Wi .i64 x.At ∧ W52 x.Reply
theorem op104 : OpensV Tryd.prog 104 E104 W104 := opensV_struct (fun x : Task => (x.Data, x.Pc, x.Set, x.Held, x.Inv, x.Lin, x.Res, x.At, x.Reply)) (fun y => ⟨⟨y.1, y.2.1, y.2.2.1, y.2.2.2.1, y.2.2.2.2.1, y.2.2.2.2.2.1, y.2.2.2.2.2.2.1, y.2.2.2.2.2.2.2.1, y.2.2.2.2.2.2.2.2⟩, rfl⟩) (fun _ => rfl) Tryd.underlying104 (by kernel_rfl) (opensFsV_cons (k := 1) (o' := 1) rfl (by kernel_rfl) op52 rfl (opensFsV_cons (k := 1) (o' := 2) rfl (by kernel_rfl) op3 rfl (opensFsV_cons (k := 1) (o' := 3) rfl (by kernel_rfl) op36 rfl (opensFsV_cons (k := 1) (o' := 4) rfl (by kernel_rfl) op3 rfl (opensFsV_cons (k := 1) (o' := 5) rfl (by kernel_rfl) op3 rfl (opensFsV_cons (k := 1) (o' := 6) rfl (by kernel_rfl) op3 rfl (opensFsV_cons (k := 1) (o' := 7) rfl (by kernel_rfl) op3 rfl (opensFsV_cons (k := 1) (o' := 8) rfl (by kernel_rfl) op3 rfl (opensFsV_one (n := 1) rfl (by kernel_rfl) op52)))))))))
def W23 (x : List Task) : Prop := Wl 120 (W104) x
theorem op23 : OpensV Tryd.prog 23 E23 W23 := opensV_slice (b := 120) (sz := 9) Tryd.underlying23 (by kernel_rfl) (by kernel_rfl) (by kernel_rfl) (by kernel_rfl) (by decide) op104
def W25 (x : World) : Prop := W22 x.Stripes ∧ Wi .i64 x.Now ∧ Wi .i64 x.Step ∧ W23 x.Tasks
theorem op25 : OpensV Tryd.prog 25 E25 W25 := opensV_struct (fun x : World => (x.Stripes, x.Now, x.Step, x.Tasks)) (fun y => ⟨⟨y.1, y.2.1, y.2.2.1, y.2.2.2⟩, rfl⟩) (fun _ => rfl) Tryd.underlying25 (by kernel_rfl) (opensFsV_cons (k := 1) (o' := 1) rfl (by kernel_rfl) op22 rfl (opensFsV_cons (k := 1) (o' := 2) rfl (by kernel_rfl) op3 rfl (opensFsV_cons (k := 1) (o' := 3) rfl (by kernel_rfl) op3 rfl (opensFsV_one (n := 1) rfl (by kernel_rfl) op23))))

end Go.Proofs.YtaaiikopnadkeaaDoorM
