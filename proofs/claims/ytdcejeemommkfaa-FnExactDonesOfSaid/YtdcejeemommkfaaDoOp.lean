/- How the law's parameters are read in. Conditions: the program's types, one row for each. -/
import Derived.Test.YtdcejeemommkfaaDoG2
import Derived.Test.YtdcejeemommkfaaM19
namespace Go.Proofs.YtdcejeemommkfaaM
set_option linter.unusedVariables false
set_option linter.unusedSimpArgs false
open Go.RowKit
set_option maxRecDepth 100000
theorem op3 : OpensV Try.prog 3 E3 (Wi .i64) := opensV_int Try.underlying3 (by kernel_rfl)
theorem op9 : OpensV Try.prog 9 E9 (Ws) := opensV_string Try.underlying9 (by kernel_rfl)
def W226 (x : Hold) : Prop := Ws x.Id ∧ Wi .i64 x.Amount ∧ Wi .i64 x.Due
theorem op226 : OpensV Try.prog 226 E226 W226 := opensV_struct (fun x : Hold => (x.Id, x.Amount, x.Due)) (fun y => ⟨⟨y.1, y.2.1, y.2.2⟩, rfl⟩) (fun _ => rfl) Try.underlying226 (by kernel_rfl) (opensFsV_cons (k := 1) (o' := 1) rfl (by kernel_rfl) op9 rfl (opensFsV_cons (k := 1) (o' := 2) rfl (by kernel_rfl) op3 rfl (opensFsV_one (n := 1) rfl (by kernel_rfl) op3)))
def W207 (x : List Hold) : Prop := Wl 32 (W226) x
theorem op207 : OpensV Try.prog 207 E207 W207 := opensV_slice (b := 32) (sz := 3) Try.underlying207 (by kernel_rfl) (by kernel_rfl) (by kernel_rfl) (by kernel_rfl) (by decide) op226
def W24 (x : List Int) : Prop := Wl 8 (Wi .i64) x
theorem op24 : OpensV Try.prog 24 E24 W24 := opensV_slice (b := 8) (sz := 1) Try.underlying24 (by kernel_rfl) (by kernel_rfl) (by kernel_rfl) (by kernel_rfl) (by decide) op3
def W208 (x : Ring) : Prop := Wi .i64 x.Span ∧ Wi .i64 x.Head ∧ W24 x.Counts ∧ W24 x.Sums
theorem op208 : OpensV Try.prog 208 E208 W208 := opensV_struct (fun x : Ring => (x.Span, x.Head, x.Counts, x.Sums)) (fun y => ⟨⟨y.1, y.2.1, y.2.2.1, y.2.2.2⟩, rfl⟩) (fun _ => rfl) Try.underlying208 (by kernel_rfl) (opensFsV_cons (k := 1) (o' := 1) rfl (by kernel_rfl) op3 rfl (opensFsV_cons (k := 1) (o' := 2) rfl (by kernel_rfl) op3 rfl (opensFsV_cons (k := 1) (o' := 3) rfl (by kernel_rfl) op24 rfl (opensFsV_one (n := 1) rfl (by kernel_rfl) op24))))
theorem op5 : OpensV Try.prog 5 E5 (Wi .u8) := opensV_int Try.underlying5 (by kernel_rfl)
def W22 (x : List Int) : Prop := Wl 1 (Wi .u8) x
theorem op22 : OpensV Try.prog 22 E22 W22 := opensV_slice (b := 1) (sz := 1) Try.underlying22 (by kernel_rfl) (by kernel_rfl) (by kernel_rfl) (by kernel_rfl) (by decide) op5
def W228 (x : Slot) : Prop := Ws x.Trace ∧ Ws x.Mti ∧ W22 x.Reply
theorem op228 : OpensV Try.prog 228 E228 W228 := opensV_struct (fun x : Slot => (x.Trace, x.Mti, x.Reply)) (fun y => ⟨⟨y.1, y.2.1, y.2.2⟩, rfl⟩) (fun _ => rfl) Try.underlying228 (by kernel_rfl) (opensFsV_cons (k := 1) (o' := 1) rfl (by kernel_rfl) op9 rfl (opensFsV_cons (k := 1) (o' := 2) rfl (by kernel_rfl) op9 rfl (opensFsV_one (n := 1) rfl (by kernel_rfl) op22)))
def W209 (x : List Slot) : Prop := Wl 56 (W228) x
theorem op209 : OpensV Try.prog 209 E209 W209 := opensV_slice (b := 56) (sz := 3) Try.underlying209 (by kernel_rfl) (by kernel_rfl) (by kernel_rfl) (by kernel_rfl) (by decide) op228
def W211 (x : Acct) : Prop := Ws x.Id ∧ Wi .i64 x.Limit ∧ Wi .i64 x.Posted ∧ Wi .i64 x.Most ∧ Wi .i64 x.MostSum ∧ W207 x.Holds ∧ W208 x.Ring ∧ W209 x.Slots
theorem op211 : OpensV Try.prog 211 E211 W211 := opensV_struct (fun x : Acct => (x.Id, x.Limit, x.Posted, x.Most, x.MostSum, x.Holds, x.Ring, x.Slots)) (fun y => ⟨⟨y.1, y.2.1, y.2.2.1, y.2.2.2.1, y.2.2.2.2.1, y.2.2.2.2.2.1, y.2.2.2.2.2.2.1, y.2.2.2.2.2.2.2⟩, rfl⟩) (fun _ => rfl) Try.underlying211 (by kernel_rfl) (opensFsV_cons (k := 1) (o' := 1) rfl (by kernel_rfl) op9 rfl (opensFsV_cons (k := 1) (o' := 2) rfl (by kernel_rfl) op3 rfl (opensFsV_cons (k := 1) (o' := 3) rfl (by kernel_rfl) op3 rfl (opensFsV_cons (k := 1) (o' := 4) rfl (by kernel_rfl) op3 rfl (opensFsV_cons (k := 1) (o' := 5) rfl (by kernel_rfl) op3 rfl (opensFsV_cons (k := 1) (o' := 6) rfl (by kernel_rfl) op207 rfl (opensFsV_cons (k := 4) (o' := 10) rfl (by kernel_rfl) op208 rfl (opensFsV_one (n := 1) rfl (by kernel_rfl) op209))))))))
def W126 (x : List Acct) : Prop := Wl 160 (W211) x
theorem op126 : OpensV Try.prog 126 E126 W126 := opensV_slice (b := 160) (sz := 11) Try.underlying126 (by kernel_rfl) (by kernel_rfl) (by kernel_rfl) (by kernel_rfl) (by decide) op211
def W128 (x : Stripe) : Prop := Wi .i64 x.Owner ∧ W126 x.Accts
theorem op128 : OpensV Try.prog 128 E128 W128 := opensV_struct (fun x : Stripe => (x.Owner, x.Accts)) (fun y => ⟨⟨y.1, y.2⟩, rfl⟩) (fun _ => rfl) Try.underlying128 (by kernel_rfl) (opensFsV_cons (k := 1) (o' := 1) rfl (by kernel_rfl) op3 rfl (opensFsV_one (n := 1) rfl (by kernel_rfl) op126))
def W61 (x : List Stripe) : Prop := Wl 32 (W128) x
theorem op61 : OpensV Try.prog 61 E61 W61 := opensV_slice (b := 32) (sz := 2) Try.underlying61 (by kernel_rfl) (by kernel_rfl) (by kernel_rfl) (by kernel_rfl) (by decide) op128
def W181 (x : Task) : Prop := W22 x.Data ∧ Wi .i64 x.Pc ∧ W24 x.Set ∧ Wi .i64 x.Held ∧ Wi .i64 x.Inv ∧ Wi .i64 x.Lin ∧ Wi .i64 x.Res ∧ Wi .i64 x.At ∧ W22 x.Reply
theorem op181 : OpensV Try.prog 181 E181 W181 := opensV_struct (fun x : Task => (x.Data, x.Pc, x.Set, x.Held, x.Inv, x.Lin, x.Res, x.At, x.Reply)) (fun y => ⟨⟨y.1, y.2.1, y.2.2.1, y.2.2.2.1, y.2.2.2.2.1, y.2.2.2.2.2.1, y.2.2.2.2.2.2.1, y.2.2.2.2.2.2.2.1, y.2.2.2.2.2.2.2.2⟩, rfl⟩) (fun _ => rfl) Try.underlying181 (by kernel_rfl) (opensFsV_cons (k := 1) (o' := 1) rfl (by kernel_rfl) op22 rfl (opensFsV_cons (k := 1) (o' := 2) rfl (by kernel_rfl) op3 rfl (opensFsV_cons (k := 1) (o' := 3) rfl (by kernel_rfl) op24 rfl (opensFsV_cons (k := 1) (o' := 4) rfl (by kernel_rfl) op3 rfl (opensFsV_cons (k := 1) (o' := 5) rfl (by kernel_rfl) op3 rfl (opensFsV_cons (k := 1) (o' := 6) rfl (by kernel_rfl) op3 rfl (opensFsV_cons (k := 1) (o' := 7) rfl (by kernel_rfl) op3 rfl (opensFsV_cons (k := 1) (o' := 8) rfl (by kernel_rfl) op3 rfl (opensFsV_one (n := 1) rfl (by kernel_rfl) op22)))))))))
def W73 (x : List Task) : Prop := Wl 120 (W181) x
theorem op73 : OpensV Try.prog 73 E73 W73 := opensV_slice (b := 120) (sz := 9) Try.underlying73 (by kernel_rfl) (by kernel_rfl) (by kernel_rfl) (by kernel_rfl) (by decide) op181
def W75 (x : World) : Prop := W61 x.Stripes ∧ Wi .i64 x.Now ∧ Wi .i64 x.Step ∧ W73 x.Tasks
theorem op75 : OpensV Try.prog 75 E75 W75 := opensV_struct (fun x : World => (x.Stripes, x.Now, x.Step, x.Tasks)) (fun y => ⟨⟨y.1, y.2.1, y.2.2.1, y.2.2.2⟩, rfl⟩) (fun _ => rfl) Try.underlying75 (by kernel_rfl) (opensFsV_cons (k := 1) (o' := 1) rfl (by kernel_rfl) op61 rfl (opensFsV_cons (k := 1) (o' := 2) rfl (by kernel_rfl) op3 rfl (opensFsV_cons (k := 1) (o' := 3) rfl (by kernel_rfl) op3 rfl (opensFsV_one (n := 1) rfl (by kernel_rfl) op73))))

end Go.Proofs.YtdcejeemommkfaaM
