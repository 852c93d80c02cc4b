/- Laws of the plain functions. No condition. -/
import Derived.Test.YtdpbcmajmojolaaPK1
namespace Go.Proofs.YtdpbcmajmojolaaM
set_option linter.unusedVariables false
set_option linter.unusedSimpArgs false
set_option maxRecDepth 100000

namespace Pure
theorem FnExactLoads (o : World) (h0 : W25 o) : laws_FnExactLoads o = some true := by
  unfold laws_FnExactLoads
  obtain ⟨r1, er1, gr1⟩ := szWorld_val o 1048576 h0 (by omega) (by omega)
  rw [er1, Option.bind_some]
  by_cases cr1 : r1 < 0
  · simp only [cr1, decide_true, decide_false, Bool.false_eq_true, if_true, if_false]
  have gr1 := gr1 (by omega)
  simp only [cr1, decide_true, decide_false, Bool.false_eq_true, if_true, if_false]
  obtain ⟨y, f1, f2, f3⟩ := Loads_val o (by omega)
  have z0 := f3
  obtain ⟨k1, l1_0, l1_1, m1, u1, b1, q1_0, q1_1⟩ := markWorld_val o 1 (by omega) (by omega) (by omega)
  obtain ⟨k2, l2, m2, u2, b2, q2, d2⟩ := markIntS_val y 1 (by omega) (by omega) (by omega)
  simp only [f1, f2, eqIntS_rfl _ z0, toWorld_val o (by omega), eqWorld_rfl o (by omega), m1, show ¬ k1 < 0 by omega, m2, show ¬ k2 < 0 by omega, d2, Option.bind_some, decide_true, decide_false, Bool.false_eq_true, if_true, if_false, bne_rfl, beq_rfl, beq_self_eq_true]
end Pure
end Go.Proofs.YtdpbcmajmojolaaM
