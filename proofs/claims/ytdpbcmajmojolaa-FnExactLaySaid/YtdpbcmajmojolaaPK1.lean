/- Laws of the plain functions. No condition. -/
import Derived.Test.YtdpbcmajmojolaaPK
import Derived.Laws.StructEq
namespace Go.Proofs.YtdpbcmajmojolaaM
set_option linter.unusedVariables false
set_option linter.unusedSimpArgs false
set_option maxRecDepth 100000
/-! copies of books and stripes -/
theorem Book_each_copied_l0_val (b : Book) : ∀ t v : List Acct, v.length + t.length ≤ 274877906944 → okAs t → impl_Book_each_impl_Acct_copied_l0 b t v = some (v ++ t)
  | [], v, _, _ => by simp [impl_Book_each_impl_Acct_copied_l0]
  | x :: t, v, hl, hs => by
    unfold impl_Book_each_impl_Acct_copied_l0
    rw [Acct_copied_val x (hs x (by simp)), Option.bind_some, capOk_of (show v.length + 1 ≤ 274877906944 by simp at hl; omega), Book_each_copied_l0_val b t (v ++ [x]) (by simp at hl ⊢; omega) (okAs_tail hs)]
    simp
theorem Book_copied_val (b : Book) (h : wtL wtAcct b.Accts ≤ 4000000) : impl_Book_copied b = some b := by
  have hl := wtL_len wtAcct b.Accts
  unfold impl_Book_copied impl_Book_each_impl_Acct_copied
  rw [capOk_of (by omega), Book_each_copied_l0_val b _ _ (by simp; omega) (okAs_of h)]
  rfl
theorem l13Copy_l0_val (l : List Stripe) : ∀ t v : List Stripe, v.length + t.length ≤ 274877906944 → (∀ s ∈ t, wtL wtAcct s.Accts ≤ 4000000) → spec_l13Copy_l0 l t v = some (v ++ t)
  | [], v, _, _ => by simp [spec_l13Copy_l0]
  | x :: t, v, hl, hs => by
    unfold spec_l13Copy_l0
    rw [l12Copy_val (Book.mk x.Accts) (hs x (by simp)), Option.bind_some, capOk_of (show v.length + 1 ≤ 274877906944 by simp at hl; omega), l13Copy_l0_val l t (v ++ [x]) (by simp at hl ⊢; omega) (fun s hs' => hs s (by simp [hs']))]
    simp
theorem wtStripe_accts (s : Stripe) (h : wtStripe s ≤ 4000000) : wtL wtAcct s.Accts ≤ 4000000 := by rw [wtStripe_eq] at h; omega
theorem l13Copy_val (l : List Stripe) (h : wtL wtStripe l ≤ 4000000) : spec_l13Copy l = some l := by
  have hl := wtL_len wtStripe l
  unfold spec_l13Copy
  rw [capOk_of (by omega), l13Copy_l0_val l _ _ (by simp; omega) (fun s hs => wtStripe_accts s (by have := wtL_mem wtStripe l s hs; omega))]
  rfl
theorem copyStripes_l0_val (l : List Stripe) : ∀ t v : List Stripe, v.length + t.length ≤ 274877906944 → (∀ s ∈ t, wtL wtAcct s.Accts ≤ 4000000) → impl_copyStripes_l0 l t v = some (v ++ t)
  | [], v, _, _ => by simp [impl_copyStripes_l0]
  | x :: t, v, hl, hs => by
    unfold impl_copyStripes_l0
    rw [Book_copied_val (Book.mk x.Accts) (hs x (by simp)), Option.bind_some, capOk_of (show v.length + 1 ≤ 274877906944 by simp at hl; omega), copyStripes_l0_val l t (v ++ [x]) (by simp at hl ⊢; omega) (fun s hs' => hs s (by simp [hs']))]
    simp
theorem copyStripes_val (l : List Stripe) (h : wtL wtStripe l ≤ 4000000) : impl_copyStripes l = some l := by
  have hl := wtL_len wtStripe l
  unfold impl_copyStripes
  rw [capOk_of (by omega), copyStripes_l0_val l _ _ (by simp; omega) (fun s hs => wtStripe_accts s (by have := wtL_mem wtStripe l s hs; omega))]
  rfl
theorem l01In_val (n lo hi : Int) : spec_l01In n lo hi = some (decide (lo ≤ n) && decide (n ≤ hi)) := by
  unfold spec_l01In
  by_cases h : lo ≤ n <;> simp [h]
theorem within_val (n lo hi : Int) : impl_within n lo hi = some (decide (lo ≤ n) && decide (n ≤ hi)) := l01In_val n lo hi
theorem wt_owner {l : List Stripe} {i : Nat} {x : Stripe} (h : l[i]? = some x) (o : Int) : wtL wtStripe (l.set i (Stripe.mk o x.Accts)) = wtL wtStripe l := by
  induction l generalizing i with
  | nil => simp at h
  | cons y t ih =>
    cases i with
    | zero =>
      simp only [List.getElem?_cons_zero, Option.some.injEq] at h
      subst h
      simp only [List.set_cons_zero, wtL, wtStripe_eq]
    | succ i =>
      simp only [List.getElem?_cons_succ] at h
      simp only [List.set_cons_succ, wtL, ih h]
theorem GiveLock_val (l : List Stripe) (k task : Int) (h : wtL wtStripe l ≤ 1048576) (hk : Wi .i64 k) (ht : Wi .i64 task) : ∃ y, spec_GiveLock l k task = some y ∧ impl_GiveLock l k task = some y ∧ wtL wtStripe y.1 ≤ 4000000 := by
  have hl := wtL_len wtStripe l
  have hi : i64 ((l.length : Int) - 1) = (l.length : Int) - 1 := i64_of (by omega) (by omega)
  unfold spec_GiveLock impl_GiveLock impl_owned
  simp only [l01In_val, within_val, hi, Option.bind_some, l13Copy_val l (by omega), copyStripes_val l (by omega)]
  by_cases h0 : 0 ≤ k
  · by_cases h1 : k ≤ (l.length : Int) - 1
    · obtain ⟨x, hx⟩ : ∃ x, l[k.toNat]? = some x := ⟨l[k.toNat]'(by omega), List.getElem?_eq_getElem _⟩
      simp only [h0, h1, decide_true, Bool.and_self, if_true, hx, Option.bind_some]
      split
      · exact ⟨_, rfl, rfl, by simp [wtL]⟩
      · split
        · exact ⟨_, rfl, rfl, by simp [wtL]⟩
        · exact ⟨_, rfl, rfl, by rw [wt_owner hx]; omega⟩
    · simp only [h0, h1, decide_true, decide_false, Bool.and_false, Bool.false_eq_true, if_false]
      exact ⟨_, rfl, rfl, by simp [wtL]⟩
  · simp only [h0, decide_false, Bool.false_and, Bool.false_eq_true, if_false]
    exact ⟨_, rfl, rfl, by simp [wtL]⟩
theorem TakeLock_val (l : List Stripe) (k task : Int) (h : wtL wtStripe l ≤ 1048576) (hk : Wi .i64 k) (ht : Wi .i64 task) : ∃ y, spec_TakeLock l k task = some y ∧ impl_TakeLock l k task = some y ∧ wtL wtStripe y.1 ≤ 4000000 := by
  have hl := wtL_len wtStripe l
  have hi : i64 ((l.length : Int) - 1) = (l.length : Int) - 1 := i64_of (by omega) (by omega)
  unfold spec_TakeLock impl_TakeLock impl_owned
  simp only [l01In_val, within_val, hi, Option.bind_some, l13Copy_val l (by omega), copyStripes_val l (by omega)]
  by_cases h0 : 0 ≤ k
  · by_cases h1 : k ≤ (l.length : Int) - 1
    · obtain ⟨x, hx⟩ : ∃ x, l[k.toNat]? = some x := ⟨l[k.toNat]'(by omega), List.getElem?_eq_getElem _⟩
      simp only [h0, h1, decide_true, Bool.and_self, if_true, hx, Option.bind_some]
      cases hb : (decide (0 ≤ task) && decide (task ≤ 11)) <;> cases ho : (x.Owner != -1) <;> simp only [Bool.false_eq_true, if_false, if_true]
      · exact ⟨_, rfl, rfl, by simp [wtL]⟩
      · exact ⟨_, rfl, rfl, by simp [wtL]⟩
      · exact ⟨_, rfl, rfl, by rw [wt_owner hx]; omega⟩
      · exact ⟨_, rfl, rfl, by simp [wtL]⟩
    · simp only [h0, h1, decide_true, decide_false, Bool.and_false, Bool.false_eq_true, if_false]
      exact ⟨_, rfl, rfl, by simp [wtL]⟩
  · simp only [h0, decide_false, Bool.false_and, Bool.false_eq_true, if_false]
    exact ⟨_, rfl, rfl, by simp [wtL]⟩
theorem Loads_l0_eq (w : World) : ∀ (t : List Stripe) (v : List Int), v.length + t.length ≤ 4000000 → ∃ y, spec_Loads_l0 w t v = some y ∧ impl_Loads_l0 w t v = some y ∧ y.length = v.length + t.length
  | [], v, h => ⟨v, rfl, rfl, by simp⟩
  | x :: t, v, h => by
    simp only [List.length_cons] at h
    obtain ⟨y, e1, e2, e3⟩ := Loads_l0_eq w t (v ++ [(x.Accts.length : Int)]) (by simp; omega)
    unfold spec_Loads_l0 impl_Loads_l0
    rw [capOk_of (show v.length + 1 ≤ 274877906944 by omega)]
    exact ⟨y, e1, e2, by simp at e3 ⊢; omega⟩
theorem Loads_val (w : World) (h : wtWorld w ≤ 1048576) : ∃ y, spec_Loads w = some y ∧ impl_Loads w = some y ∧ y.length ≤ 4000000 := by
  rw [wtWorld_eq] at h
  have hl := wtL_len wtStripe w.Stripes
  obtain ⟨y, e1, e2, e3⟩ := Loads_l0_eq w w.Stripes [] (by simp; omega)
  unfold spec_Loads impl_Loads
  rw [capOk_of (by omega), e1, e2]
  exact ⟨y, rfl, rfl, by simp at e3; omega⟩
def noSlots (a : Acct) : Acct := Acct.mk a.Id a.Limit a.Posted a.Most a.MostSum a.Holds a.Ring []
theorem wt_noSlots (a : Acct) : wtAcct (noSlots a) ≤ wtAcct a := by rw [wtAcct_eq, wtAcct_eq]; simp [noSlots, wtL]
theorem spec_NoSlots_l0_val (r : Book) : ∀ t p v : List Acct, r.Accts = p ++ t → v = p.map noSlots ++ t → spec_NoSlots_l0 r t p v = some (r.Accts.map noSlots)
  | [], p, v, e, hv => by simp [spec_NoSlots_l0, hv, e]
  | x :: t, p, v, e, hv => by
    unfold spec_NoSlots_l0
    have hg : v[((p.length : Int)).toNat]? = some x := by rw [hv]; simp
    rw [hg, Option.bind_some, spec_NoSlots_l0_val r t (p ++ [x]) _ (by rw [e]; simp) (by rw [hv]; simp [noSlots])]
theorem impl_each_NoSlots_l0_val (b : Book) : ∀ t v : List Acct, v.length + t.length ≤ 274877906944 → okAs t → impl_Book_each_impl_NoSlots_1_l0 b t v = some (v ++ t.map noSlots)
  | [], v, _, _ => by simp [impl_Book_each_impl_NoSlots_1_l0]
  | x :: t, v, hl, hs => by
    unfold impl_Book_each_impl_NoSlots_1_l0 impl_NoSlots_1
    rw [Acct_copied_val x (hs x (by simp)), Option.bind_some, Option.bind_some, capOk_of (show v.length + 1 ≤ 274877906944 by simp at hl; omega), impl_each_NoSlots_l0_val b t _ (by simp at hl ⊢; omega) (okAs_tail hs)]
    simp [noSlots]
theorem NoSlots_val (b : Book) (h : wtBook b ≤ 1048576) : ∃ y, spec_NoSlots b = some y ∧ impl_NoSlots b = some y ∧ wtBook y ≤ 4000000 := by
  rw [wtBook_eq] at h
  have hl := wtL_len wtAcct b.Accts
  unfold spec_NoSlots impl_NoSlots impl_Book_each_impl_NoSlots_1
  rw [l12Copy_val b (by omega), Option.bind_some, capOk_of (show b.Accts.length ≤ 274877906944 by omega), spec_NoSlots_l0_val b b.Accts [] b.Accts rfl rfl, impl_each_NoSlots_l0_val b _ _ (by simp; omega) (okAs_of (by omega))]
  refine ⟨Book.mk (b.Accts.map noSlots), rfl, rfl, ?_⟩
  rw [wtBook_eq]
  have := wtL_map_le wtAcct wtAcct noSlots b.Accts (fun x _ => wt_noSlots x)
  show wtL wtAcct (b.Accts.map noSlots) ≤ 4000000
  omega
end Go.Proofs.YtdpbcmajmojolaaM
