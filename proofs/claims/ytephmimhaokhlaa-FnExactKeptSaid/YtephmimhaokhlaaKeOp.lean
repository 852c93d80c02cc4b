/- How the law's parameters are read in. Conditions: the program's types, one row for each. -/
import Derived.Test.YtephmimhaokhlaaKeG0
import Derived.Test.YtephmimhaokhlaaM19
namespace Go.Proofs.YtephmimhaokhlaaM
set_option linter.unusedVariables false
set_option linter.unusedSimpArgs false
open Go.RowKit
set_option maxRecDepth 100000
theorem op9 : OpensV Try.prog 9 E9 (Ws) := opensV_string Try.underlying9 (by kernel_rfl)
theorem op3 : OpensV Try.prog 3 E3 (Wi .i64) := opensV_int Try.underlying3 (by kernel_rfl)
def W123 (x : Hold) : Prop := Ws x.Id ∧ Wi .i64 x.Amount ∧ Wi .i64 x.Due
theorem op123 : OpensV Try.prog 123 E123 W123 := opensV_struct (fun x : Hold => (x.Id, x.Amount, x.Due)) (fun y => ⟨⟨y.1, y.2.1, y.2.2⟩, rfl⟩) (fun _ => rfl) Try.underlying123 (by kernel_rfl) (opensFsV_cons (k := 1) (o' := 1) rfl (by kernel_rfl) op9 rfl (opensFsV_cons (k := 1) (o' := 2) rfl (by kernel_rfl) op3 rfl (opensFsV_one (n := 1) rfl (by kernel_rfl) op3)))
def W79 (x : List Hold) : Prop := Wl 32 (W123) x
theorem op79 : OpensV Try.prog 79 E79 W79 := opensV_slice (b := 32) (sz := 3) Try.underlying79 (by kernel_rfl) (by kernel_rfl) (by kernel_rfl) (by kernel_rfl) (by decide) op123
def W51 (x : List Int) : Prop := Wl 8 (Wi .i64) x
theorem op51 : OpensV Try.prog 51 E51 W51 := opensV_slice (b := 8) (sz := 1) Try.underlying51 (by kernel_rfl) (by kernel_rfl) (by kernel_rfl) (by kernel_rfl) (by decide) op3
def W80 (x : Ring) : Prop := Wi .i64 x.Span ∧ Wi .i64 x.Head ∧ W51 x.Counts ∧ W51 x.Sums
theorem op80 : OpensV Try.prog 80 E80 W80 := opensV_struct (fun x : Ring => (x.Span, x.Head, x.Counts, x.Sums)) (fun y => ⟨⟨y.1, y.2.1, y.2.2.1, y.2.2.2⟩, rfl⟩) (fun _ => rfl) Try.underlying80 (by kernel_rfl) (opensFsV_cons (k := 1) (o' := 1) rfl (by kernel_rfl) op3 rfl (opensFsV_cons (k := 1) (o' := 2) rfl (by kernel_rfl) op3 rfl (opensFsV_cons (k := 1) (o' := 3) rfl (by kernel_rfl) op51 rfl (opensFsV_one (n := 1) rfl (by kernel_rfl) op51))))
theorem op5 : OpensV Try.prog 5 E5 (Wi .u8) := opensV_int Try.underlying5 (by kernel_rfl)
def W63 (x : List Int) : Prop := Wl 1 (Wi .u8) x
theorem op63 : OpensV Try.prog 63 E63 W63 := opensV_slice (b := 1) (sz := 1) Try.underlying63 (by kernel_rfl) (by kernel_rfl) (by kernel_rfl) (by kernel_rfl) (by decide) op5
def W125 (x : Slot) : Prop := Ws x.Trace ∧ Ws x.Mti ∧ W63 x.Reply
theorem op125 : OpensV Try.prog 125 E125 W125 := opensV_struct (fun x : Slot => (x.Trace, x.Mti, x.Reply)) (fun y => ⟨⟨y.1, y.2.1, y.2.2⟩, rfl⟩) (fun _ => rfl) Try.underlying125 (by kernel_rfl) (opensFsV_cons (k := 1) (o' := 1) rfl (by kernel_rfl) op9 rfl (opensFsV_cons (k := 1) (o' := 2) rfl (by kernel_rfl) op9 rfl (opensFsV_one (n := 1) rfl (by kernel_rfl) op63)))
def W81 (x : List Slot) : Prop := Wl 56 (W125) x
theorem op81 : OpensV Try.prog 81 E81 W81 := opensV_slice (b := 56) (sz := 3) Try.underlying81 (by kernel_rfl) (by kernel_rfl) (by kernel_rfl) (by kernel_rfl) (by decide) op125
def W83 (x : Acct) : Prop := Ws x.Id ∧ Wi .i64 x.Limit ∧ Wi .i64 x.Posted ∧ Wi .i64 x.Most ∧ Wi .i64 x.MostSum ∧ W79 x.Holds ∧ W80 x.Ring ∧ W81 x.Slots
theorem op83 : OpensV Try.prog 83 E83 W83 := opensV_struct (fun x : Acct => (x.Id, x.Limit, x.Posted, x.Most, x.MostSum, x.Holds, x.Ring, x.Slots)) (fun y => ⟨⟨y.1, y.2.1, y.2.2.1, y.2.2.2.1, y.2.2.2.2.1, y.2.2.2.2.2.1, y.2.2.2.2.2.2.1, y.2.2.2.2.2.2.2⟩, rfl⟩) (fun _ => rfl) Try.underlying83 (by kernel_rfl) (opensFsV_cons (k := 1) (o' := 1) rfl (by kernel_rfl) op9 rfl (opensFsV_cons (k := 1) (o' := 2) rfl (by kernel_rfl) op3 rfl (opensFsV_cons (k := 1) (o' := 3) rfl (by kernel_rfl) op3 rfl (opensFsV_cons (k := 1) (o' := 4) rfl (by kernel_rfl) op3 rfl (opensFsV_cons (k := 1) (o' := 5) rfl (by kernel_rfl) op3 rfl (opensFsV_cons (k := 1) (o' := 6) rfl (by kernel_rfl) op79 rfl (opensFsV_cons (k := 4) (o' := 10) rfl (by kernel_rfl) op80 rfl (opensFsV_one (n := 1) rfl (by kernel_rfl) op81))))))))
def W22 (x : List Acct) : Prop := Wl 160 (W83) x
theorem op22 : OpensV Try.prog 22 E22 W22 := opensV_slice (b := 160) (sz := 11) Try.underlying22 (by kernel_rfl) (by kernel_rfl) (by kernel_rfl) (by kernel_rfl) (by decide) op83
def W24 (x : Book) : Prop := W22 x.Accts
theorem op24 : OpensV Try.prog 24 E24 W24 := opensV_struct (fun x : Book => (x.Accts)) (fun y => ⟨⟨y⟩, rfl⟩) (fun _ => rfl) Try.underlying24 (by kernel_rfl) (opensFsV_one (n := 1) rfl (by kernel_rfl) op22)

end Go.Proofs.YtephmimhaokhlaaM
