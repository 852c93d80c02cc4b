/- Laws of the plain functions. No condition. -/
import Derived.Test.YtdpbcmajmojolaaPK1
namespace Go.Proofs.YtdpbcmajmojolaaM
set_option linter.unusedVariables false
set_option linter.unusedSimpArgs false
set_option maxRecDepth 100000

namespace Pure
theorem FnExactGiveLock (o : List Stripe) (o_ : Int) (a2 : Int) (h0 : W22 o) (h1 : Wi .i64 o_) (h2 : Wi .i64 a2) : laws_FnExactGiveLock o o_ a2 = some true := by
  unfold laws_FnExactGiveLock
  obtain ⟨r1, er1, gr1⟩ := szStripeS_val o 1048576 h0 (by omega) (by omega)
  rw [er1, Option.bind_some]
  by_cases cr1 : r1 < 0
  · simp only [cr1, decide_true, decide_false, Bool.false_eq_true, if_true, if_false]
  have gr1 := gr1 (by omega)
  simp only [cr1, decide_true, decide_false, Bool.false_eq_true, if_true, if_false]
  obtain ⟨y, f1, f2, f3⟩ := GiveLock_val o o_ a2 (by omega) h1 h2
  have z0 := f3
  obtain ⟨k1, l1, m1, u1, b1, q1, d1⟩ := markStripeS_val o 1 (by omega) (by omega) (by omega)
  obtain ⟨k2, l2, m2, u2, b2, q2, d2⟩ := markStripeS_val y.1 1 (by omega) (by omega) (by omega)
  simp only [f1, f2, eqStripeS_rfl _ z0, toStripeS_val o (by omega), eqStripeS_rfl o (by omega), m1, show ¬ k1 < 0 by omega, m2, show ¬ k2 < 0 by omega, d2, Option.bind_some, decide_true, decide_false, Bool.false_eq_true, if_true, if_false, bne_rfl, beq_rfl, beq_self_eq_true]
end Pure
end Go.Proofs.YtdpbcmajmojolaaM
