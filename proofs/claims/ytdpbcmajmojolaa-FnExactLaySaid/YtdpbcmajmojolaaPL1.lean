/- Laws of the plain functions. No condition. -/
import Derived.Test.YtdpbcmajmojolaaPL
import Derived.Laws.StructEq
namespace Go.Proofs.YtdpbcmajmojolaaM
set_option linter.unusedVariables false
set_option linter.unusedSimpArgs false
set_option maxRecDepth 100000
theorem Lay_l0_tot (l : List Stripe) (b : Book) (hl : l.length ≤ 4000000) : ∀ (t : List Acct) (v : List Stripe), v.length = l.length → wtL wtStripe v + wtL wtAcct t ≤ 4000000 →
    ∃ y, spec_Lay_l0 l b t v = some y ∧ impl_Lay_l0 l b t v = some y ∧ wtL wtStripe y ≤ 4000000
  | [], v, _, h => ⟨v, rfl, rfl, by omega⟩
  | x :: t, v, hv, h => by
    simp only [wtL] at h
    have hx := wtAcct_eq x
    obtain ⟨k, e1, e2, h0, h1⟩ := StripeNo_tot x.Id (l.length : Int) (by omega)
    unfold spec_Lay_l0 impl_Lay_l0
    rw [e1, e2, Option.bind_some, Option.bind_some]
    by_cases hk : (v.length : Int) ≤ k
    · obtain ⟨y, f1, f2, f3⟩ := Lay_l0_tot l b hl t v hv (by omega)
      exact ⟨y, by simp only [hk, decide_true, if_true]; exact f1, by simp only [hk, decide_true, if_true]; exact f2, f3⟩
    · obtain ⟨s, hs⟩ : ∃ s, v[k.toNat]? = some s := ⟨v[k.toNat]'(by omega), List.getElem?_eq_getElem _⟩
      have hm := wtL_mem wtStripe v s (List.mem_of_getElem? hs)
      have hq := wtStripe_eq s
      have hsl := wtL_len wtAcct s.Accts
      obtain ⟨b1, b2⟩ := BookAt_val (Book.mk s.Accts) x.Id (show s.Accts.length ≤ 274877906944 by omega)
      simp only at b1 b2
      simp only [hk, h0, decide_true, decide_false, Bool.false_eq_true, if_true, if_false, hs, Option.bind_some, b1, b2]
      by_cases hb : 0 ≤ bookAt s.Accts x.Id
      · obtain ⟨_, a, ha⟩ := bookAt_lt hb
        have g1 := wtL_set_get wtAcct x ha
        have g2 := wtL_set_get wtStripe (Stripe.mk s.Owner (s.Accts.set (bookAt s.Accts x.Id).toNat x)) hs
        have g3 := wtStripe_eq (Stripe.mk s.Owner (s.Accts.set (bookAt s.Accts x.Id).toNat x))
        simp only at g3
        simp only [hb, decide_true, if_true, l09Copy_val x (by omega), Acct_copied_val x (by omega), Option.bind_some, ha]
        exact Lay_l0_tot l b hl t _ (by simpa using hv) (by omega)
      · simp only [hb, decide_false, Bool.false_eq_true, if_false, set_self hs]
        exact Lay_l0_tot l b hl t v hv (by omega)
theorem Lay_val (l : List Stripe) (b : Book) (h : wtL wtStripe l ≤ 1048576) (hb : wtBook b ≤ 1048576) : ∃ y, spec_Lay l b = some y ∧ impl_Lay l b = some y ∧ wtL wtStripe y ≤ 4000000 := by
  rw [wtBook_eq] at hb
  have hl := wtL_len wtStripe l
  have hbl := wtL_len wtAcct b.Accts
  obtain ⟨y, e1, e2, e3⟩ := Lay_l0_tot l b (by omega) b.Accts l rfl (by omega)
  unfold spec_Lay impl_Lay
  rw [l13Copy_val l (by omega), copyStripes_val l (by omega), Option.bind_some, Option.bind_some, capOk_of (show b.Accts.length ≤ 274877906944 by omega), e1, e2]
  exact ⟨y, rfl, rfl, e3⟩
end Go.Proofs.YtdpbcmajmojolaaM
