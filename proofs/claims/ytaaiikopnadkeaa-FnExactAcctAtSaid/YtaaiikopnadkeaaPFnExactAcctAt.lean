/- Laws of the plain functions. No condition. -/
import Derived.Test.YtaaiikopnadkeaaPR
import Derived.Laws.StructEq
namespace Go.Proofs.YtaaiikopnadkeaaM
set_option linter.unusedVariables false
set_option linter.unusedSimpArgs false
set_option maxRecDepth 100000
namespace Pure
theorem wAcct_of (o : Acct) (h : W43 o) : wAcct o := by
  unfold W43 W37 W132 W40 W38 W41 W135 W22 Wl at h
  obtain ⟨h1, _, _, _, _, ⟨h2, h3⟩, ⟨_, _, ⟨h4, _⟩, ⟨h5, _⟩⟩, ⟨h6, h7⟩⟩ := h
  refine ⟨h1, ⟨by omega, fun x hx => (h3 x hx).1⟩, ⟨by omega, by omega⟩, by omega, fun s hs => ?_⟩
  obtain ⟨g1, g2, g3, _⟩ := h7 s hs
  exact ⟨g1, g2, by omega⟩
theorem FnExactAcctAt (o : Acct) (now : Int) (h : W43 o) (_ : Wi .i64 now) : laws_FnExactAcctAt o now = some true := by
  obtain ⟨r, e1, e2, e3⟩ := szAcct_val o 1048576 (by omega) (by omega) (wAcct_of o h)
  unfold laws_FnExactAcctAt
  rw [e1, Option.bind_some]
  by_cases hr : r < 0
  · simp [hr]
  · have hz := e3 (by omega)
    obtain ⟨y, f1, f2, f3⟩ := AcctAt_val o now hz
    obtain ⟨k, hs, c, s, sl, m1, m2, m3⟩ := markAcct_val o hz
    obtain ⟨k', hs', c', s', sl', m1', m2', m3'⟩ := markAcct_val y f3
    have n1 : ¬ k < 0 := by omega
    have n2 : ¬ k' < 0 := by omega
    simp only [hr, decide_false, Bool.false_eq_true, if_false, toAcct_val o hz, Option.bind_some, f1, f2, eqAcct_rfl _ f3, eqAcct_rfl _ hz, if_true, bne_rfl, m1, m1', n1, n2, m3']
end Pure
end Go.Proofs.YtaaiikopnadkeaaM
