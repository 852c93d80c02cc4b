/- Laws of the plain functions. No condition. -/
import Derived.Test.YtaaiikopnadkeaaPH
import Derived.Laws.StructEq
namespace Go.Proofs.YtaaiikopnadkeaaM
set_option linter.unusedVariables false
set_option linter.unusedSimpArgs false
set_option maxRecDepth 100000
/-! rings rolled on -/
/-- The list, later by so many places. -/
def sh (l : List Int) (d : Nat) (i : Nat) : Int := if d ≤ i then l.getD (i - d) 0 else 0
theorem shifted_l0_val (l : List Int) (d : Nat) (hd : d ≤ 2000000000) (hl : l.length ≤ 1048576) : ∀ (t p v : List Int), l = p ++ t → v.length = l.length → (∀ i, i < p.length → v[i]? = some (sh l d i)) → (∀ i, p.length ≤ i → i < l.length → v[i]? = some 0) →
    ∃ v', impl_shifted_l0 l (d : Int) t p v = some v' ∧ v'.length = l.length ∧ ∀ i, i < l.length → v'[i]? = some (sh l d i)
  | [], p, v, e, hv, h1, h2 => ⟨v, rfl, hv, fun i hi => h1 i (by rw [e] at hi; simpa using hi)⟩
  | x :: t, p, v, e, hv, h1, h2 => by
    have hpl : p.length < l.length := by rw [e]; simp
    unfold impl_shifted_l0
    have hg : v[p.length]? = some 0 := h2 p.length (Nat.le_refl _) hpl
    by_cases hc : d ≤ p.length
    · have hc' : (d : Int) ≤ (p.length : Int) := by omega
      have hi : i64 ((p.length : Int) - (d : Int)) = ((p.length - d : Nat) : Int) := by rw [i64_of (by omega) (by omega)]; omega
      have hx : l[p.length - d]? = some (l.getD (p.length - d) 0) := by
        rw [List.getElem?_eq_getElem (by omega), List.getD_eq_getElem?_getD, List.getElem?_eq_getElem (by omega)]; rfl
      simp only [hc', decide_true, if_true, hi, Int.natCast_nonneg, Int.toNat_natCast, hx, hg, Option.bind_some]
      refine shifted_l0_val l d hd hl t (p ++ [x]) _ (by rw [e]; simp) (by simp [hv]) (fun i hi => ?_) (fun i hi hil => ?_)
      · simp only [List.length_append, List.length_cons, List.length_nil] at hi
        by_cases hip : i = p.length
        · subst hip
          rw [List.getElem?_set_self (by omega)]
          simp [sh, hc]
        · rw [List.getElem?_set_ne (by omega)]
          exact h1 i (by omega)
      · simp only [List.length_append, List.length_cons, List.length_nil] at hi
        rw [List.getElem?_set_ne (by omega)]
        exact h2 i (by omega) hil
    · have hc' : ¬ (d : Int) ≤ (p.length : Int) := by omega
      simp only [hc', decide_false, Bool.false_eq_true, if_false]
      refine shifted_l0_val l d hd hl t (p ++ [x]) v (by rw [e]; simp) hv (fun i hi => ?_) (fun i hi hil => ?_)
      · simp only [List.length_append, List.length_cons, List.length_nil] at hi
        by_cases hip : i = p.length
        · subst hip
          rw [hg]
          simp [sh, hc]
        · exact h1 i (by omega)
      · simp only [List.length_append, List.length_cons, List.length_nil] at hi
        exact h2 i (by omega) hil
theorem shifted_val (l : List Int) (d : Nat) (hd : d ≤ 2000000000) (hl : l.length ≤ 1048576) : ∃ v, impl_shifted l (d : Int) = some v ∧ v.length = l.length ∧ ∀ i, i < l.length → v[i]? = some (sh l d i) := by
  obtain ⟨v, e1, e2, e3⟩ := shifted_l0_val l d hd hl l [] (List.replicate l.length 0) rfl (by simp) (fun i hi => by simp at hi) (fun i _ hi => by simp [hi])
  refine ⟨v, ?_, e2, e3⟩
  unfold impl_shifted
  simp only [Int.natCast_nonneg, decide_true, if_true, Int.toNat_natCast, capOk_of (show l.length ≤ 274877906944 by omega), e1, Option.bind_some]
theorem spec_RingRoll_l0_val (o r1 : Ring) (now : Int) (d : Nat) (hd : d ≤ 2000000000) (hD : i64 (i64 (Int.tdiv now o.Span) - o.Head) = (d : Int)) (hl : o.Counts.length ≤ 1048576) (hs : o.Sums.length = o.Counts.length) : ∀ (t p v w : List Int), o.Counts = p ++ t → v.length = o.Counts.length → w.length = o.Counts.length →
    (∀ i, i < p.length → v[i]? = some (sh o.Counts d i)) → (∀ i, i < p.length → w[i]? = some (sh o.Sums d i)) →
    ∃ v' w', spec_RingRoll_l0 o now r1 t p v w = some (v', w') ∧ v'.length = o.Counts.length ∧ w'.length = o.Counts.length ∧ (∀ i, i < o.Counts.length → v'[i]? = some (sh o.Counts d i)) ∧ ∀ i, i < o.Counts.length → w'[i]? = some (sh o.Sums d i)
  | [], p, v, w, e, hv, hw, h1, h2 => ⟨v, w, rfl, hv, hw, fun i hi => h1 i (by rw [e] at hi; simpa using hi), fun i hi => h2 i (by rw [e] at hi; simpa using hi)⟩
  | x :: t, p, v, w, e, hv, hw, h1, h2 => by
    have hpl : p.length < o.Counts.length := by rw [e]; simp
    have hgv : v[p.length]? = some v[p.length] := List.getElem?_eq_getElem (by omega)
    have hgw : w[p.length]? = some w[p.length] := List.getElem?_eq_getElem (by omega)
    unfold spec_RingRoll_l0
    rw [hD]
    by_cases hc : d ≤ p.length
    · have hc' : (d : Int) ≤ (p.length : Int) := by omega
      have hi : i64 ((p.length : Int) - (d : Int)) = ((p.length - d : Nat) : Int) := by rw [i64_of (by omega) (by omega)]; omega
      have hx : o.Counts[p.length - d]? = some (o.Counts.getD (p.length - d) 0) := by
        rw [List.getElem?_eq_getElem (by omega), List.getD_eq_getElem?_getD, List.getElem?_eq_getElem (by omega)]; rfl
      have hy : o.Sums[p.length - d]? = some (o.Sums.getD (p.length - d) 0) := by
        rw [List.getElem?_eq_getElem (by omega), List.getD_eq_getElem?_getD, List.getElem?_eq_getElem (by omega)]; rfl
      have hsv : (v.set p.length 0)[p.length]? = some 0 := List.getElem?_set_self (by omega)
      have hsw : (w.set p.length 0)[p.length]? = some 0 := List.getElem?_set_self (by omega)
      simp only [hc', decide_true, if_true, hi, Int.natCast_nonneg, Int.toNat_natCast, hx, hy, hgv, hgw, hsv, hsw, Option.bind_some, List.set_set]
      refine spec_RingRoll_l0_val o r1 now d hd hD hl hs t (p ++ [x]) _ _ (by rw [e]; simp) (by simp [hv]) (by simp [hw]) (fun i hi => ?_) (fun i hi => ?_)
      all_goals
        simp only [List.length_append, List.length_cons, List.length_nil] at hi
        by_cases hip : i = p.length
        · subst hip
          rw [List.getElem?_set_self (by omega)]
          simp [sh, hc]
        · rw [List.getElem?_set_ne (by omega)]
          first | exact h1 i (by omega) | exact h2 i (by omega)
    · have hc' : ¬ (d : Int) ≤ (p.length : Int) := by omega
      simp only [hc', decide_false, Bool.false_eq_true, if_false, Int.toNat_natCast, hgv, hgw, Option.bind_some]
      refine spec_RingRoll_l0_val o r1 now d hd hD hl hs t (p ++ [x]) _ _ (by rw [e]; simp) (by simp [hv]) (by simp [hw]) (fun i hi => ?_) (fun i hi => ?_)
      all_goals
        simp only [List.length_append, List.length_cons, List.length_nil] at hi
        by_cases hip : i = p.length
        · subst hip
          rw [List.getElem?_set_self (by omega)]
          simp [sh, hc]
        · rw [List.getElem?_set_ne (by omega)]
          first | exact h1 i (by omega) | exact h2 i (by omega)
theorem RingRoll_val (r : Ring) (now : Int) (h : szRing r) : ∃ y, spec_RingRoll r now = some y ∧ impl_RingRoll r now = some y ∧ szRing y := by
  have hh := h
  obtain ⟨h1, h2⟩ := h
  obtain ⟨b, e1, e2, e3⟩ := RingOk_tot r (by omega) (by omega)
  have hcp : spec_l06Copy r = some r := by
    unfold spec_l06Copy
    rw [capOk_of (show 0 + r.Counts.length ≤ 274877906944 by omega), capOk_of (show 0 + r.Sums.length ≤ 274877906944 by omega)]
    rfl
  unfold spec_RingRoll impl_RingRoll
  simp only [hcp, Ring_copied_val r hh, e1, e2, l06Time_val, isTime_val, Option.bind_some]
  cases b with
  | false => exact ⟨r, rfl, rfl, hh⟩
  | true =>
    obtain ⟨q1, q2, q3, q4, q5, q6, _⟩ := e3 rfl
    simp only [if_true]
    by_cases ht : time now = true
    · have ht' := ht
      have qh := q6
      unfold time at ht' qh
      simp only [Bool.and_eq_true, decide_eq_true_eq] at ht' qh
      have hsp : r.Span ≠ 0 := by omega
      have hq : Int.tdiv now r.Span = now / r.Span := Int.tdiv_eq_ediv_of_nonneg ht'.1
      have hq0 : 0 ≤ now / r.Span := Int.ediv_nonneg ht'.1 (by omega)
      have hq1 : now / r.Span ≤ now := Int.ediv_le_self _ ht'.1
      have hqi : i64 (now / r.Span) = now / r.Span := i64_of (by omega) (by omega)
      by_cases hle : now / r.Span ≤ r.Head
      · exact ⟨r, by simp only [ht, hsp, hq, hqi, hle, ne_eq, not_false_eq_true, decide_true, if_true], by simp only [ht, hsp, hq, hqi, hle, ne_eq, not_false_eq_true, decide_true, if_true], hh⟩
      · have hdi : i64 (now / r.Span - r.Head) = (((now / r.Span - r.Head).toNat : Nat) : Int) := by rw [i64_of (by omega) (by omega)]; omega
        generalize hdd : (now / r.Span - r.Head).toNat = d at hdi
        have hd : d ≤ 2000000000 := by omega
        obtain ⟨c1, g1, g2, g3⟩ := shifted_val r.Counts d hd h1
        obtain ⟨s1, g4, g5, g6⟩ := shifted_val r.Sums d hd h2
        obtain ⟨c2, s2, k1, k2, k3, k4, k5⟩ := spec_RingRoll_l0_val r r now d hd (by rw [hq, hqi]; exact hdi) h1 q1 r.Counts [] r.Counts r.Sums rfl rfl q1 (fun i hi => by simp at hi) (fun i hi => by simp at hi)
        have hc : c1 = c2 := by
          apply List.ext_getElem?
          intro i
          by_cases hi : i < r.Counts.length
          · rw [g3 i hi, k4 i hi]
          · rw [List.getElem?_eq_none (by omega), List.getElem?_eq_none (by omega)]
        have hs : s1 = s2 := by
          apply List.ext_getElem?
          intro i
          by_cases hi : i < r.Counts.length
          · rw [g6 i (by omega), k5 i hi]
          · rw [List.getElem?_eq_none (by omega), List.getElem?_eq_none (by omega)]
        subst hc hs
        refine ⟨Ring.mk r.Span (now / r.Span) c1 s1, ?_, ?_, by show c1.length ≤ 1048576; omega, by show s1.length ≤ 1048576; omega⟩
        · simp only [ht, hsp, hq, hqi, hle, ne_eq, not_false_eq_true, decide_true, decide_false, Bool.false_eq_true, if_true, if_false, capOk_of (show r.Counts.length ≤ 274877906944 by omega), k1, Option.bind_some]
        · simp only [ht, hsp, hq, hqi, hle, ne_eq, not_false_eq_true, decide_true, decide_false, Bool.false_eq_true, if_true, if_false, hdi, g1, g4, Option.bind_some]
    · have ht' : time now = false := by simpa using ht
      simp only [ht', Bool.false_eq_true, if_false]
      exact ⟨r, rfl, rfl, hh⟩
theorem AcctAt_val (a : Acct) (now : Int) (h : szAcct a) : ∃ y, spec_AcctAt a now = some y ∧ impl_AcctAt a now = some y ∧ szAcct y := by
  obtain ⟨b, e1, e2, e3⟩ := AcctOk_tot a h
  obtain ⟨y, f1, f2, f3⟩ := AcctSwept_val a now h
  obtain ⟨z, g1, g2, g3⟩ := RingRoll_val a.Ring now h.2.2.1
  unfold spec_AcctAt impl_AcctAt
  rw [e1, e2, f1, f2, g1, g2, l06Time_val, isTime_val]
  cases b with
  | false => exact ⟨y, rfl, rfl, f3⟩
  | true =>
    cases time now with
    | false => exact ⟨y, rfl, rfl, f3⟩
    | true => exact ⟨_, rfl, rfl, f3.1, f3.2.1, g3, f3.2.2.2⟩
end Go.Proofs.YtaaiikopnadkeaaM
