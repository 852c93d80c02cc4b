/- How the law's parameters are read in. Conditions: the program's types, one row for each. -/
import Derived.Test.YtjnnbcdakaabbaaDoorMsG0
import Derived.Test.YtjnnbcdakaabbaaDoorM19
namespace Go.Proofs.YtjnnbcdakaabbaaDoorM
set_option linter.unusedVariables false
set_option linter.unusedSimpArgs false
open Go.RowKit
set_option maxRecDepth 100000
theorem op9 : OpensV Tryd.prog 9 E9 (Ws) := opensV_string Tryd.underlying9 (by kernel_rfl)
theorem op3 : OpensV Tryd.prog 3 E3 (Wi .i64) := opensV_int Tryd.underlying3 (by kernel_rfl)
def W106 (x : Field) : Prop := Wi .i64 x.No ∧ Ws x.Text
theorem op106 : OpensV Tryd.prog 106 E106 W106 := opensV_struct (fun x : Field => (x.No, x.Text)) (fun y => ⟨⟨y.1, y.2⟩, rfl⟩) (fun _ => rfl) Tryd.underlying106 (by kernel_rfl) (opensFsV_cons (k := 1) (o' := 1) rfl (by kernel_rfl) op3 rfl (opensFsV_one (n := 1) rfl (by kernel_rfl) op9))
def W29 (x : List Field) : Prop := Wl 24 (W106) x
theorem op29 : OpensV Tryd.prog 29 E29 W29 := opensV_slice (b := 24) (sz := 2) Tryd.underlying29 (by kernel_rfl) (by kernel_rfl) (by kernel_rfl) (by kernel_rfl) (by decide) op106
def W31 (x : Msg) : Prop := Ws x.Mti ∧ W29 x.List
theorem op31 : OpensV Tryd.prog 31 E31 W31 := opensV_struct (fun x : Msg => (x.Mti, x.List)) (fun y => ⟨⟨y.1, y.2⟩, rfl⟩) (fun _ => rfl) Tryd.underlying31 (by kernel_rfl) (opensFsV_cons (k := 1) (o' := 1) rfl (by kernel_rfl) op9 rfl (opensFsV_one (n := 1) rfl (by kernel_rfl) op29))

end Go.Proofs.YtjnnbcdakaabbaaDoorM
