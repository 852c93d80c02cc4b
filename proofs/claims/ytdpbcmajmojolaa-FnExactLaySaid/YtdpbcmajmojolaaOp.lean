/- How the laws' parameters are read in. Conditions: the program's types, one row for each. -/
import Derived.Test.YtdpbcmajmojolaaGa2
import Derived.Test.YtdpbcmajmojolaaM19
namespace Go.Proofs.YtdpbcmajmojolaaM
set_option linter.unusedVariables false
set_option linter.unusedSimpArgs false
open Go.RowKit
set_option maxRecDepth 100000
theorem op3 : OpensV Try.prog 3 E3 (Wi .i64) := opensV_int Try.underlying3 (by kernel_rfl)
theorem op9 : OpensV Try.prog 9 E9 (Ws) := opensV_string Try.underlying9 (by kernel_rfl)
def W214 (x : Hold) : Prop := Ws x.Id ∧ Wi .i64 x.Amount ∧ Wi .i64 x.Due
theorem op214 : OpensV Try.prog 214 E214 W214 := opensV_struct (fun x : Hold => (x.Id, x.Amount, x.Due)) (fun y => ⟨⟨y.1, y.2.1, y.2.2⟩, rfl⟩) (fun _ => rfl) Try.underlying214 (by kernel_rfl) (opensFsV_cons (k := 1) (o' := 1) rfl (by kernel_rfl) op9 rfl (opensFsV_cons (k := 1) (o' := 2) rfl (by kernel_rfl) op3 rfl (opensFsV_one (n := 1) rfl (by kernel_rfl) op3)))
def W150 (x : List Hold) : Prop := Wl 32 (W214) x
theorem op150 : OpensV Try.prog 150 E150 W150 := opensV_slice (b := 32) (sz := 3) Try.underlying150 (by kernel_rfl) (by kernel_rfl) (by kernel_rfl) (by kernel_rfl) (by decide) op214
def W49 (x : List Int) : Prop := Wl 8 (Wi .i64) x
theorem op49 : OpensV Try.prog 49 E49 W49 := opensV_slice (b := 8) (sz := 1) Try.underlying49 (by kernel_rfl) (by kernel_rfl) (by kernel_rfl) (by kernel_rfl) (by decide) op3
def W151 (x : Ring) : Prop := Wi .i64 x.Span ∧ Wi .i64 x.Head ∧ W49 x.Counts ∧ W49 x.Sums
theorem op151 : OpensV Try.prog 151 E151 W151 := opensV_struct (fun x : Ring => (x.Span, x.Head, x.Counts, x.Sums)) (fun y => ⟨⟨y.1, y.2.1, y.2.2.1, y.2.2.2⟩, rfl⟩) (fun _ => rfl) Try.underlying151 (by kernel_rfl) (opensFsV_cons (k := 1) (o' := 1) rfl (by kernel_rfl) op3 rfl (opensFsV_cons (k := 1) (o' := 2) rfl (by kernel_rfl) op3 rfl (opensFsV_cons (k := 1) (o' := 3) rfl (by kernel_rfl) op49 rfl (opensFsV_one (n := 1) rfl (by kernel_rfl) op49))))
theorem op5 : OpensV Try.prog 5 E5 (Wi .u8) := opensV_int Try.underlying5 (by kernel_rfl)
def W47 (x : List Int) : Prop := Wl 1 (Wi .u8) x
theorem op47 : OpensV Try.prog 47 E47 W47 := opensV_slice (b := 1) (sz := 1) Try.underlying47 (by kernel_rfl) (by kernel_rfl) (by kernel_rfl) (by kernel_rfl) (by decide) op5
def W216 (x : Slot) : Prop := Ws x.Trace ∧ Ws x.Mti ∧ W47 x.Reply
theorem op216 : OpensV Try.prog 216 E216 W216 := opensV_struct (fun x : Slot => (x.Trace, x.Mti, x.Reply)) (fun y => ⟨⟨y.1, y.2.1, y.2.2⟩, rfl⟩) (fun _ => rfl) Try.underlying216 (by kernel_rfl) (opensFsV_cons (k := 1) (o' := 1) rfl (by kernel_rfl) op9 rfl (opensFsV_cons (k := 1) (o' := 2) rfl (by kernel_rfl) op9 rfl (opensFsV_one (n := 1) rfl (by kernel_rfl) op47)))
def W152 (x : List Slot) : Prop := Wl 56 (W216) x
theorem op152 : OpensV Try.prog 152 E152 W152 := opensV_slice (b := 56) (sz := 3) Try.underlying152 (by kernel_rfl) (by kernel_rfl) (by kernel_rfl) (by kernel_rfl) (by decide) op216
def W154 (x : Acct) : Prop := Ws x.Id ∧ Wi .i64 x.Limit ∧ Wi .i64 x.Posted ∧ Wi .i64 x.Most ∧ Wi .i64 x.MostSum ∧ W150 x.Holds ∧ W151 x.Ring ∧ W152 x.Slots
theorem op154 : OpensV Try.prog 154 E154 W154 := opensV_struct (fun x : Acct => (x.Id, x.Limit, x.Posted, x.Most, x.MostSum, x.Holds, x.Ring, x.Slots)) (fun y => ⟨⟨y.1, y.2.1, y.2.2.1, y.2.2.2.1, y.2.2.2.2.1, y.2.2.2.2.2.1, y.2.2.2.2.2.2.1, y.2.2.2.2.2.2.2⟩, rfl⟩) (fun _ => rfl) Try.underlying154 (by kernel_rfl) (opensFsV_cons (k := 1) (o' := 1) rfl (by kernel_rfl) op9 rfl (opensFsV_cons (k := 1) (o' := 2) rfl (by kernel_rfl) op3 rfl (opensFsV_cons (k := 1) (o' := 3) rfl (by kernel_rfl) op3 rfl (opensFsV_cons (k := 1) (o' := 4) rfl (by kernel_rfl) op3 rfl (opensFsV_cons (k := 1) (o' := 5) rfl (by kernel_rfl) op3 rfl (opensFsV_cons (k := 1) (o' := 6) rfl (by kernel_rfl) op150 rfl (opensFsV_cons (k := 4) (o' := 10) rfl (by kernel_rfl) op151 rfl (opensFsV_one (n := 1) rfl (by kernel_rfl) op152))))))))
def W35 (x : List Acct) : Prop := Wl 160 (W154) x
theorem op35 : OpensV Try.prog 35 E35 W35 := opensV_slice (b := 160) (sz := 11) Try.underlying35 (by kernel_rfl) (by kernel_rfl) (by kernel_rfl) (by kernel_rfl) (by decide) op154
def W132 (x : Stripe) : Prop := Wi .i64 x.Owner ∧ W35 x.Accts
theorem op132 : OpensV Try.prog 132 E132 W132 := opensV_struct (fun x : Stripe => (x.Owner, x.Accts)) (fun y => ⟨⟨y.1, y.2⟩, rfl⟩) (fun _ => rfl) Try.underlying132 (by kernel_rfl) (opensFsV_cons (k := 1) (o' := 1) rfl (by kernel_rfl) op3 rfl (opensFsV_one (n := 1) rfl (by kernel_rfl) op35))
def W22 (x : List Stripe) : Prop := Wl 32 (W132) x
theorem op22 : OpensV Try.prog 22 E22 W22 := opensV_slice (b := 32) (sz := 2) Try.underlying22 (by kernel_rfl) (by kernel_rfl) (by kernel_rfl) (by kernel_rfl) (by decide) op132
def W145 (x : Task) : Prop := W47 x.Data ∧ Wi .i64 x.Pc ∧ W49 x.Set ∧ Wi .i64 x.Held ∧ Wi .i64 x.Inv ∧ Wi .i64 x.Lin ∧ Wi .i64 x.Res ∧ Wi .i64 x.At ∧ W47 x.Reply
theorem op145 : OpensV Try.prog 145 E145 W145 := opensV_struct (fun x : Task => (x.Data, x.Pc, x.Set, x.Held, x.Inv, x.Lin, x.Res, x.At, x.Reply)) (fun y => ⟨⟨y.1, y.2.1, y.2.2.1, y.2.2.2.1, y.2.2.2.2.1, y.2.2.2.2.2.1, y.2.2.2.2.2.2.1, y.2.2.2.2.2.2.2.1, y.2.2.2.2.2.2.2.2⟩, rfl⟩) (fun _ => rfl) Try.underlying145 (by kernel_rfl) (opensFsV_cons (k := 1) (o' := 1) rfl (by kernel_rfl) op47 rfl (opensFsV_cons (k := 1) (o' := 2) rfl (by kernel_rfl) op3 rfl (opensFsV_cons (k := 1) (o' := 3) rfl (by kernel_rfl) op49 rfl (opensFsV_cons (k := 1) (o' := 4) rfl (by kernel_rfl) op3 rfl (opensFsV_cons (k := 1) (o' := 5) rfl (by kernel_rfl) op3 rfl (opensFsV_cons (k := 1) (o' := 6) rfl (by kernel_rfl) op3 rfl (opensFsV_cons (k := 1) (o' := 7) rfl (by kernel_rfl) op3 rfl (opensFsV_cons (k := 1) (o' := 8) rfl (by kernel_rfl) op3 rfl (opensFsV_one (n := 1) rfl (by kernel_rfl) op47)))))))))
def W23 (x : List Task) : Prop := Wl 120 (W145) x
theorem op23 : OpensV Try.prog 23 E23 W23 := opensV_slice (b := 120) (sz := 9) Try.underlying23 (by kernel_rfl) (by kernel_rfl) (by kernel_rfl) (by kernel_rfl) (by decide) op145
def W25 (x : World) : Prop := W22 x.Stripes ∧ Wi .i64 x.Now ∧ Wi .i64 x.Step ∧ W23 x.Tasks
theorem op25 : OpensV Try.prog 25 E25 W25 := opensV_struct (fun x : World => (x.Stripes, x.Now, x.Step, x.Tasks)) (fun y => ⟨⟨y.1, y.2.1, y.2.2.1, y.2.2.2⟩, rfl⟩) (fun _ => rfl) Try.underlying25 (by kernel_rfl) (opensFsV_cons (k := 1) (o' := 1) rfl (by kernel_rfl) op22 rfl (opensFsV_cons (k := 1) (o' := 2) rfl (by kernel_rfl) op3 rfl (opensFsV_cons (k := 1) (o' := 3) rfl (by kernel_rfl) op3 rfl (opensFsV_one (n := 1) rfl (by kernel_rfl) op23))))
def W37 (x : Book) : Prop := W35 x.Accts
theorem op37 : OpensV Try.prog 37 E37 W37 := opensV_struct (fun x : Book => (x.Accts)) (fun y => ⟨⟨y⟩, rfl⟩) (fun _ => rfl) Try.underlying37 (by kernel_rfl) (opensFsV_one (n := 1) rfl (by kernel_rfl) op35)

end Go.Proofs.YtdpbcmajmojolaaM
