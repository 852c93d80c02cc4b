import Derived.Test.YtbhcahiafibhfaaRAx0
import Derived.Test.YtbhcahiafibhfaaOpens
import Derived.KernelRfl
namespace Go.Proofs.Ytbhcahiafibhfaa.RA
open Go.RowKit Go.Proofs.YtbhcahiafibhfaaW.PrintWords Go.Proofs.YtbhcahiafibhfaaW.PrintLast Go.Proofs.YtbhcahiafibhfaaW.Opens
def B39 (x : S39) : Prop := (Lit.int .i64 x.f0).wf = true ∧ (Lit.int .i64 x.f1).wf = true ∧ (x.f2.length * 8 ≤ 140737488351232 ∧ ∀ z352 ∈ x.f2, (Lit.int .i64 z352).wf = true) ∧ (x.f3.length * 8 ≤ 140737488351232 ∧ ∀ z353 ∈ x.f3, (Lit.int .i64 z353).wf = true)
theorem opens39 : Opens Try.prog 39 k39 B39 := opens_struct (fun x : S39 => (x.f0, x.f1, x.f2, x.f3)) (fun y => ⟨⟨y.1, y.2.1, y.2.2.1, y.2.2.2⟩, rfl⟩) Try.underlying39 (by kernel_rfl) (opensFs_cons rfl (opens_int Try.underlying3 (by kernel_rfl)) rfl (opensFs_cons rfl (opens_int Try.underlying3 (by kernel_rfl)) rfl (opensFs_cons rfl (opens_slice (b := 8) Try.underlying30 (by kernel_rfl) (by kernel_rfl) (opens_int Try.underlying3 (by kernel_rfl))) rfl (opensFs_one rfl (opens_slice (b := 8) Try.underlying30 (by kernel_rfl) (by kernel_rfl) (opens_int Try.underlying3 (by kernel_rfl)))))))
end Go.Proofs.Ytbhcahiafibhfaa.RA
