/- Laws of the plain functions. No condition. -/
import Derived.Test.YtdpbcmajmojolaaPL1
namespace Go.Proofs.YtdpbcmajmojolaaM
set_option linter.unusedVariables false
set_option linter.unusedSimpArgs false
set_option maxRecDepth 100000

namespace Pure
theorem FnExactLay (o : List Stripe) (o_ : Book) (h0 : W22 o) (h1 : W37 o_) : laws_FnExactLay o o_ = some true := by
  unfold laws_FnExactLay
  obtain ⟨r1, er1, gr1⟩ := szStripeS_val o 1048576 h0 (by omega) (by omega)
  rw [er1, Option.bind_some]
  by_cases cr1 : r1 < 0
  · simp only [cr1, decide_true, decide_false, Bool.false_eq_true, if_true, if_false]
  have gr1 := gr1 (by omega)
  simp only [cr1, decide_true, decide_false, Bool.false_eq_true, if_true, if_false]
  obtain ⟨r2, er2, gr2⟩ := szBook_val o_ r1 h1 (by omega) (by omega)
  rw [er2, Option.bind_some]
  by_cases cr2 : r2 < 0
  · simp only [cr2, decide_true, decide_false, Bool.false_eq_true, if_true, if_false]
  have gr2 := gr2 (by omega)
  simp only [cr2, decide_true, decide_false, Bool.false_eq_true, if_true, if_false]
  obtain ⟨y, f1, f2, f3⟩ := Lay_val o o_ (by omega) (by omega)
  have z0 := f3
  obtain ⟨k1, l1, m1, u1, b1, q1, d1⟩ := markStripeS_val o 1 (by omega) (by omega) (by omega)
  obtain ⟨k2, l2_0, m2, u2, b2, q2_0, d2⟩ := markBook_val o_ k1 (by omega) (by omega) (by omega)
  obtain ⟨k3, l3, m3, u3, b3, q3, d3⟩ := markStripeS_val y 1 (by omega) (by omega) (by omega)
  simp only [f1, f2, eqStripeS_rfl _ z0, toStripeS_val o (by omega), eqStripeS_rfl o (by omega), toBook_val o_ (by omega), eqBook_rfl o_ (by omega), m1, show ¬ k1 < 0 by omega, m2, show ¬ k2 < 0 by omega, m3, show ¬ k3 < 0 by omega, d3, Option.bind_some, decide_true, decide_false, Bool.false_eq_true, if_true, if_false, bne_rfl, beq_rfl, beq_self_eq_true]
end Pure
end Go.Proofs.YtdpbcmajmojolaaM
