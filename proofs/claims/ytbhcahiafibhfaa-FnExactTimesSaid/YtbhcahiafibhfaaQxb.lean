import Derived.Test.YtbhcahiafibhfaaQx0
import Derived.Test.YtbhcahiafibhfaaOpens
import Derived.KernelRfl
namespace Go.Proofs.Ytbhcahiafibhfaa.Q
open Go.RowKit Go.Proofs.YtbhcahiafibhfaaW.PrintWords Go.Proofs.YtbhcahiafibhfaaW.PrintLast Go.Proofs.YtbhcahiafibhfaaW.Opens
def B68 (x : S68) : Prop := (Lit.int .i64 x.f0).wf = true ∧ (x.f1.length * 1 ≤ 140737488351232 ∧ ∀ z163 ∈ x.f1, (Lit.int .u8 z163).wf = true) ∧ (x.f2.length * 1 ≤ 140737488351232 ∧ ∀ z164 ∈ x.f2, (Lit.int .u8 z164).wf = true)
theorem opens68 : Opens Try.prog 68 k68 B68 := opens_struct (fun x : S68 => (x.f0, x.f1, x.f2)) (fun y => ⟨⟨y.1, y.2.1, y.2.2⟩, rfl⟩) Try.underlying68 (by kernel_rfl) (opensFs_cons rfl (opens_int Try.underlying3 (by kernel_rfl)) rfl (opensFs_cons rfl (opens_slice (b := 1) Try.underlying29 (by kernel_rfl) (by kernel_rfl) (opens_int Try.underlying5 (by kernel_rfl))) rfl (opensFs_one rfl (opens_slice (b := 1) Try.underlying29 (by kernel_rfl) (by kernel_rfl) (opens_int Try.underlying5 (by kernel_rfl))))))
end Go.Proofs.Ytbhcahiafibhfaa.Q
