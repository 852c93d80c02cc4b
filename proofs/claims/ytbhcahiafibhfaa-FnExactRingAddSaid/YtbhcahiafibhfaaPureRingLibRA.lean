/- Rings: what the program's and the reference's ring functions tell, as closed words. Conditions: the lists' lengths are small. -/
import Derived.Test.YtbhcahiafibhfaaRAxp
import Derived.Test.YtbhcahiafibhfaaOFnExactRingAdd
namespace Go.Proofs.Ytbhcahiafibhfaa.Pure
open Go.RowKit Go.Proofs.Ytbhcahiafibhfaa.RA Go.Proofs.YtbhcahiafibhfaaW.PrintWords Go.Proofs.YtbhcahiafibhfaaW.PrintLast

-- sizes
theorem sz_ints (l : List Int) (a : Int) (h : l.length * 8 ≤ 140737488351232) (h0 : 0 ≤ a) (h1 : a ≤ 1048576) : laws_szIntS.f l a = some (if a - (l.length : Int) < 0 then -1 else a - (l.length : Int)) := by
  unfold laws_szIntS.f
  rw [wr_id _ (by omega) (by omega)]
  split <;> rfl
theorem sz_ring (s h : Int) (c d : List Int) (hc : c.length * 8 ≤ 140737488351232) (hd : d.length * 8 ≤ 140737488351232) : ∃ t, laws_szRing.f s h c d 1048576 = some t ∧ (¬ t < 0 → c.length ≤ 1048576 ∧ d.length ≤ 1048576) := by
  unfold laws_szRing.f
  rw [sz_ints c _ hc (by omega) (by omega)]
  by_cases h1 : (1048576 : Int) - (c.length : Int) < 0
  · rw [if_pos h1]
    exact ⟨-1, rfl, fun h => absurd (by decide) h⟩
  · rw [if_neg h1, Option.bind_some, if_neg h1, sz_ints d _ hd (by omega) (by omega)]
    by_cases h2 : (1048576 : Int) - (c.length : Int) - (d.length : Int) < 0
    · rw [if_pos h2]
      exact ⟨-1, rfl, fun h => absurd (by decide) h⟩
    · rw [if_neg h2, Option.bind_some, if_neg h2]
      exact ⟨_, rfl, fun _ => by omega⟩
theorem to_ring (s h : Int) (c d : List Int) (hc : c.length ≤ 1048576) (hd : d.length ≤ 1048576) : Ev (fun k => laws_toRing.f k s h c d) (s, h, c, d) := by
  unfold laws_toRing.f
  exact Ev.bind (toIntS c ⟨by omega, fun _ _ => trivial⟩ (by omega)) (Ev.bind (toIntS d ⟨by omega, fun _ _ => trivial⟩ (by omega)) (Ev.val rfl))
theorem eq_ring (s h : Int) (c d : List Int) (hc : c.length ≤ 1048576) (hd : d.length ≤ 1048576) : Ev (fun k => laws_eqRing.f k s h c d s h c d) true := by
  unfold laws_eqRing.f
  exact Ev.pos rfl (Ev.pos rfl (Ev.bind (eqIntS c ⟨by omega, fun _ _ => trivial⟩) (Ev.pos rfl (Ev.bind (eqIntS d ⟨by omega, fun _ _ => trivial⟩) (Ev.pos rfl (Ev.now _))))))

-- money, time, valid rings
theorem spec_money (a : Int) : spec_l01Money.f a = some (moneyB a) := by
  unfold spec_l01Money.f moneyB
  by_cases h : (0 : Int) ≤ a
  · simp [h]
  · simp [h]
theorem spec_in (a b c : Int) : spec_l01In.f a b c = some (decide (b ≤ a ∧ a ≤ c)) := by
  unfold spec_l01In.f
  by_cases h : b ≤ a
  · simp [h]
  · simp [h]
theorem spec_time (a : Int) : spec_l06Time.f a = some (decide (0 ≤ a ∧ a ≤ 1000000000)) := by
  unfold spec_l06Time.f
  rw [spec_in]
  rfl
theorem ok_iff (s h : Int) (c d : List Int) : ringOkB s h c d = true ↔ (c ++ d).all moneyB = true ∧ (1 ≤ s ∧ s ≤ 1000) ∧ (1 ≤ (c.length : Int) ∧ (c.length : Int) ≤ 8) ∧ (d.length : Int) = c.length ∧ 0 ≤ h ∧ h ≤ 1000000000 := by
  unfold ringOkB ringTailB
  simp only [Bool.and_eq_true, decide_eq_true_eq]
theorem ok_false {s h : Int} {c d : List Int} (n : ¬ ((c ++ d).all moneyB = true ∧ (1 ≤ s ∧ s ≤ 1000) ∧ (1 ≤ (c.length : Int) ∧ (c.length : Int) ≤ 8) ∧ (d.length : Int) = c.length ∧ 0 ≤ h ∧ h ≤ 1000000000)) : ringOkB s h c d = false := by
  cases e : ringOkB s h c d with
  | false => rfl
  | true => exact absurd ((ok_iff s h c d).1 e) n
theorem spec_ok (s h : Int) (c d : List Int) : Ev (fun k => spec_RingOk.f k s h c d) (ringOkB s h c d) := by
  have bad : Ev (fun k => spec_RingOk.j0 k true s h c d) false := Ev.step (f := fun _ => some false) (fun k => rfl) (Ev.now _)
  have loop : c.length ≤ 8 → d.length = c.length → ∀ (e i : Nat), i + e = c.length → (∀ j (hj : j < c.length) (hj' : j < d.length), j < i → moneyB c[j] = true ∧ moneyB d[j] = true) → Ev (fun k => spec_RingOk.l0 k (c.length : Int) (i : Int) s h c d) ((c ++ d).all moneyB) := by
    intro h8 hcd e
    induction e with
    | zero =>
      intro i hi hp
      refine Ev.step (fun k => rfl) (Ev.neg (by omega) (Ev.val ?_))
      symm
      rw [List.all_eq_true]
      intro x hx
      rw [List.mem_append] at hx
      rcases hx with hx | hx
      · obtain ⟨j, hj, rfl⟩ := List.mem_iff_getElem.1 hx
        exact (hp j hj (by omega) (by omega)).1
      · obtain ⟨j, hj, rfl⟩ := List.mem_iff_getElem.1 hx
        exact (hp j (by omega) hj (by omega)).2
    | succ e ih =>
      intro i hi hp
      have hi' : i < c.length := by omega
      have hj' : i < d.length := by omega
      refine Ev.step (fun k => rfl) (Ev.pos (by omega) (Ev.pos (by omega) (Ev.pos (by omega) ?_)))
      rw [rd_at c i hi', rd_at d i hj', wr1 i (by omega)]
      refine Ev.bind (Ev.is (spec_money _)) ?_
      by_cases m1 : moneyB c[i] = true
      · refine Ev.pos m1 (Ev.pos (by omega) (Ev.bind (Ev.is (spec_money _)) ?_))
        by_cases m2 : moneyB d[i] = true
        · refine Ev.pos m2 (ih (i + 1) (by omega) (fun j hj hk hlt => ?_))
          by_cases z : j = i
          · subst z; exact ⟨m1, m2⟩
          · exact hp j hj hk (by omega)
        · refine Ev.neg m2 (Ev.val ?_)
          symm
          rw [List.all_eq_false]
          exact ⟨d[i], List.mem_append.2 (Or.inr (List.getElem_mem hj')), m2⟩
      · refine Ev.neg m1 (Ev.val ?_)
        symm
        rw [List.all_eq_false]
        exact ⟨c[i], List.mem_append.2 (Or.inl (List.getElem_mem hi')), m1⟩
  unfold spec_RingOk.f
  refine Ev.bind (Ev.is (spec_in _ _ _)) ?_
  by_cases h1 : 1 ≤ s ∧ s ≤ 1000
  · refine Ev.pos (by simpa using h1) (Ev.bind (Ev.is (spec_in _ _ _)) ?_)
    by_cases h2 : 1 ≤ (c.length : Int) ∧ (c.length : Int) ≤ 8
    · refine Ev.pos (by rw [decide_eq_true_eq]; exact h2) ?_
      by_cases h3 : (d.length : Int) = c.length
      · refine Ev.pos h3 (Ev.bind (Ev.is (spec_time _)) ?_)
        by_cases h4 : 0 ≤ h ∧ h ≤ 1000000000
        · have e : ringOkB s h c d = (c ++ d).all moneyB := by
            cases q : (c ++ d).all moneyB with
            | true => exact (ok_iff s h c d).2 ⟨q, h1, h2, h3, h4⟩
            | false => exact ok_false (fun z => by rw [q] at z; exact absurd z.1 Bool.false_ne_true)
          rw [e, decide_eq_true h4]
          exact Ev.step (f := fun k => spec_RingOk.l0 k (c.length : Int) 0 s h c d) (fun k => rfl) (loop (by omega) (by omega) c.length 0 (by omega) (fun j _ _ hlt => absurd hlt (Nat.not_lt_zero _)))
        · rw [ok_false (fun z => h4 z.2.2.2.2), decide_eq_false h4]
          exact bad
      · rw [ok_false (fun z => h3 z.2.2.2.1)]
        exact Ev.neg h3 bad
    · rw [ok_false (fun z => h2 z.2.2.1)]
      exact Ev.neg (by rw [decide_eq_true_eq]; exact h2) bad
  · rw [ok_false (fun z => h1 z.2.1)]
    exact Ev.neg (by simpa using h1) bad
theorem impl_ok (s h : Int) (c d : List Int) (hc : c.length ≤ 1048576) (hd : d.length ≤ 1048576) : impl_RingOk.f s h c d = some (ringOkB s h c d) := by
  unfold impl_RingOk.f
  exact if_pos (by omega)

-- shifting
def sv (l : List Int) (k j : Nat) : Int := if k ≤ j then l.getD (j - k) 0 else 0
def shiftB (l : List Int) (k : Nat) : List Int := (List.range l.length).map (sv l k)
theorem shift_len (l : List Int) (k : Nat) : (shiftB l k).length = l.length := by simp [shiftB]
theorem shift_get (l : List Int) (k j : Nat) (h : j < (shiftB l k).length) : (shiftB l k)[j] = sv l k j := by simp [shiftB]
theorem sv_at (l : List Int) (k i : Nat) (h : k ≤ i) (hi : i - k < l.length) : sv l k i = l[i - k] := by
  unfold sv
  rw [if_pos h, List.getD_eq_getElem?_getD, List.getElem?_eq_getElem hi]
  rfl
theorem impl_shift (l : List Int) (k : Nat) (hl : l.length ≤ 1048576) (hk : k ≤ 1000000000) : Ev (fun n => impl_shifted.f n l (k : Int)) (shiftB l k) := by
  have loop : ∀ (e i : Nat) (o : List Int), i + e = l.length → o.length = l.length → (∀ j (hj : j < o.length), o[j] = if j < i then sv l k j else 0) → Ev (fun n => impl_shifted.l0 n l (k : Int) o (l.length : Int) (i : Int)) (shiftB l k) := by
    intro e
    induction e with
    | zero =>
      intro i o hi ho hp
      refine Ev.step (fun k => rfl) (Ev.neg (by omega) (Ev.val ?_))
      exact List.ext_getElem (by rw [shift_len, ho]) (fun j h1 h2 => by rw [hp j h1, if_pos (by omega), shift_get])
    | succ e ih =>
      intro i o hi ho hp
      have hi' : i < l.length := by omega
      refine Ev.step (fun k => rfl) (Ev.pos (by omega) ?_)
      rw [wr1 i (by omega)]
      by_cases hki : k ≤ i
      · have hw : wrap64 ((i : Int) - (k : Int)) = ((i - k : Nat) : Int) := by rw [wr_id _ (by omega) (by omega)]; omega
        refine Ev.pos (by omega) ?_
        rw [hw, rd_at l (i - k) (by omega), Int.toNat_natCast]
        refine Ev.pos (by omega) (Ev.pos (by omega) (Ev.pos (by omega) (Ev.pos (by omega) (ih (i + 1) _ (by omega) (by simpa using ho) (fun j hj => ?_)))))
        have hj' : j < o.length := by simpa using hj
        rw [List.getElem_set]
        by_cases e : i = j
        · subst e
          rw [if_pos rfl, if_pos (by omega), sv_at l k i hki (by omega)]
        · rw [if_neg e, hp j hj']
          by_cases z : j < i
          · rw [if_pos z, if_pos (by omega)]
          · rw [if_neg z, if_neg (by omega)]
      · refine Ev.neg (by omega) (ih (i + 1) o (by omega) ho (fun j hj => ?_))
        rw [hp j hj]
        by_cases z : j < i
        · rw [if_pos z, if_pos (by omega)]
        · rw [if_neg z]
          by_cases e : i = j
          · subst e
            rw [if_pos (by omega)]
            unfold sv
            rw [if_neg hki]
          · rw [if_neg (by omega)]
  unfold impl_shifted.f
  exact Ev.pos (by omega) (Ev.pos (by omega) (loop l.length 0 _ (by omega) (by simp) (fun j hj => by simp)))
theorem spec_shift (s h t q : Int) (c d : List Int) (k : Nat) (hl : c.length ≤ 1048576) (hd : d.length = c.length) (hk : k ≤ 1000000000) (hs : ¬ s = 0) (hq : wrap64 (Int.tdiv t s) = q) : Ev (fun n => spec_RingRoll.l0 n t (k : Int) (c.length : Int) 0 s h c d s h c d) (s, q, shiftB c k, shiftB d k) := by
  have loop : ∀ (e i : Nat) (o p : List Int), i + e = c.length → o.length = c.length → p.length = c.length → (∀ j (hj : j < o.length), j < i → o[j] = sv c k j) → (∀ j (hj : j < p.length), j < i → p[j] = sv d k j) → Ev (fun n => spec_RingRoll.l0 n t (k : Int) (c.length : Int) (i : Int) s h c d s h o p) (s, q, shiftB c k, shiftB d k) := by
    intro e
    induction e with
    | zero =>
      intro i o p hi ho hp h1 h2
      refine Ev.step (fun k => rfl) (Ev.neg (by omega) (Ev.neg hs (Ev.val ?_)))
      rw [hq, show o = shiftB c k from List.ext_getElem (by rw [shift_len, ho]) (fun j a b => by rw [h1 j a (by omega), shift_get]), show p = shiftB d k from List.ext_getElem (by rw [shift_len, hp, hd]) (fun j a b => by rw [h2 j a (by omega), shift_get])]
    | succ e ih =>
      intro i o p hi ho hp h1 h2
      refine Ev.step (fun k => rfl) (Ev.pos (by omega) (Ev.pos (by omega) (Ev.pos (by omega) (Ev.bind (Ev.is rfl) (Ev.pos (by omega) (Ev.bind (Ev.is rfl) ?_))))))
      rw [wr1 i (by omega)]
      by_cases hki : k ≤ i
      · have hw : wrap64 ((i : Int) - (k : Int)) = ((i - k : Nat) : Int) := by rw [wr_id _ (by omega) (by omega)]; omega
        refine Ev.pos (by omega) ?_
        rw [hw, rd_at c (i - k) (by omega), rd_at d (i - k) (by omega), Int.toNat_natCast]
        refine Ev.pos (by omega) (Ev.pos (by omega) (Ev.pos (by omega) (ih (i + 1) _ _ (by omega) (by simpa using ho) (by simpa using hp) (fun j hj hlt => ?_) (fun j hj hlt => ?_))))
        · rw [List.getElem_set]
          by_cases e : i = j
          · subst e
            rw [if_pos rfl, sv_at c k i hki (by omega)]
          · rw [if_neg e, List.getElem_set, if_neg e, h1 j (by simpa using hj) (by omega)]
        · rw [List.getElem_set]
          by_cases e : i = j
          · subst e
            rw [if_pos rfl, sv_at d k i hki (by omega)]
          · rw [if_neg e, List.getElem_set, if_neg e, h2 j (by simpa using hj) (by omega)]
      · rw [Int.toNat_natCast]
        refine Ev.neg (by omega) (ih (i + 1) _ _ (by omega) (by simpa using ho) (by simpa using hp) (fun j hj hlt => ?_) (fun j hj hlt => ?_))
        · rw [List.getElem_set]
          by_cases e : i = j
          · subst e
            rw [if_pos rfl]
            unfold sv
            rw [if_neg hki]
          · rw [if_neg e, h1 j (by simpa using hj) (by omega)]
        · rw [List.getElem_set]
          by_cases e : i = j
          · subst e
            rw [if_pos rfl]
            unfold sv
            rw [if_neg hki]
          · rw [if_neg e, h2 j (by simpa using hj) (by omega)]
  exact loop c.length 0 c d (by omega) rfl hd (fun j _ hlt => absurd hlt (Nat.not_lt_zero _)) (fun j _ hlt => absurd hlt (Nat.not_lt_zero _))

-- rolling
def rollB (s h : Int) (c d : List Int) (t : Int) : Int × Int × List Int × List Int :=
  if ringOkB s h c d = true ∧ (0 ≤ t ∧ t ≤ 1000000000) ∧ h < t / s then (s, t / s, shiftB c (t / s - h).toNat, shiftB d (t / s - h).toNat) else (s, h, c, d)
theorem roll_len (s h : Int) (c d : List Int) (t : Int) : (rollB s h c d t).2.2.1.length = c.length ∧ (rollB s h c d t).2.2.2.length = d.length := by
  unfold rollB
  split
  · exact ⟨shift_len _ _, shift_len _ _⟩
  · exact ⟨rfl, rfl⟩
theorem spec_copy (s h : Int) (c d : List Int) (hc : c.length ≤ 1048576) (hd : d.length ≤ 1048576) : spec_l06Copy.f s h c d = some (s, h, c, d) := by
  unfold spec_l06Copy.f
  simp only [Option.bind_some, List.length_nil, Nat.zero_add, List.nil_append]
  rw [if_pos (by omega), if_pos (by omega)]
theorem impl_copy (s h : Int) (c d : List Int) (hc : c.length ≤ 1048576) (hd : d.length ≤ 1048576) : impl_Ring_copied.f s h c d = some (s, h, c, d) := by
  unfold impl_Ring_copied.f slices_Clone_int_int.f
  rw [if_pos (by omega), if_pos (by omega)]
  rfl
theorem quot (t s : Int) (h0 : 0 ≤ t) (h1 : t ≤ 1000000000) (h2 : 1 ≤ s) : wrap64 (Int.tdiv t s) = t / s ∧ 0 ≤ t / s ∧ t / s ≤ 1000000000 := by
  have h3 : 0 ≤ t / s := Int.ediv_nonneg h0 (by omega)
  have h4 : t / s ≤ t := Int.ediv_le_self s h0
  rw [Int.tdiv_eq_ediv_of_nonneg h0]
  exact ⟨wr_id _ (by omega) (by omega), h3, by omega⟩
theorem spec_roll (s h : Int) (c d : List Int) (t : Int) (hc : c.length ≤ 1048576) (hd : d.length ≤ 1048576) : Ev (fun k => spec_RingRoll.f k s h c d t) (rollB s h c d t) := by
  have bad : Ev (fun k => spec_RingRoll.j0 k t true s h c d s h c d) (s, h, c, d) := Ev.step (f := fun _ => some (s, h, c, d)) (fun k => rfl) (Ev.now _)
  unfold spec_RingRoll.f
  refine Ev.bind (Ev.is (spec_copy s h c d hc hd)) (Ev.bind (spec_ok s h c d) ?_)
  by_cases ok : ringOkB s h c d = true
  · refine Ev.pos ok (Ev.bind (Ev.is (spec_time _)) ?_)
    obtain ⟨_, k1, k2, k3, k4⟩ := (ok_iff s h c d).1 ok
    by_cases tm : 0 ≤ t ∧ t ≤ 1000000000
    · obtain ⟨q1, q2, q3⟩ := quot t s tm.1 tm.2 k1.1
      refine Ev.pos (by simpa using tm) (Ev.neg (by omega) ?_)
      by_cases hq : t / s ≤ h
      · unfold rollB
        rw [q1, decide_eq_true hq, if_neg (fun z => by omega)]
        exact bad
      · unfold rollB
        rw [q1, decide_eq_false hq, if_pos ⟨ok, tm, by omega⟩]
        refine Ev.step (fun k => rfl) (Ev.neg (by omega) ?_)
        have hw : wrap64 (wrap64 (Int.tdiv t s) - h) = (((t / s - h).toNat : Nat) : Int) := by rw [q1, wr_id _ (by omega) (by omega)]; omega
        rw [hw]
        exact spec_shift s h t (t / s) c d _ hc (by omega) (by omega) (by omega) q1
    · unfold rollB
      rw [if_neg (fun z => tm z.2.1)]
      exact Ev.neg (by simpa using tm) bad
  · unfold rollB
    rw [if_neg (fun z => ok z.1)]
    exact Ev.neg ok bad
theorem impl_roll (s h : Int) (c d : List Int) (t : Int) (hc : c.length ≤ 1048576) (hd : d.length ≤ 1048576) : Ev (fun k => impl_RingRoll.f k s h c d t) (rollB s h c d t) := by
  have bad : Ev (fun k => impl_RingRoll.j0 k t true s h c d s h c d) (s, h, c, d) := Ev.step (f := fun _ => some (s, h, c, d)) (fun k => rfl) (Ev.now _)
  unfold impl_RingRoll.f
  refine Ev.bind (Ev.is (impl_copy s h c d hc hd)) (Ev.bind (Ev.is (impl_ok s h c d hc hd)) ?_)
  by_cases ok : ringOkB s h c d = true
  · refine Ev.pos ok (Ev.bind (Ev.is (hisTime _)) ?_)
    obtain ⟨_, k1, k2, k3, k4⟩ := (ok_iff s h c d).1 ok
    by_cases tm : 0 ≤ t ∧ t ≤ 1000000000
    · obtain ⟨q1, q2, q3⟩ := quot t s tm.1 tm.2 k1.1
      refine Ev.pos (by simpa using tm) (Ev.neg (by omega) ?_)
      by_cases hq : t / s ≤ h
      · unfold rollB
        rw [q1, decide_eq_true hq, if_neg (fun z => by omega)]
        exact bad
      · unfold rollB
        rw [q1, decide_eq_false hq, if_pos ⟨ok, tm, by omega⟩]
        refine Ev.step (fun k => rfl) (Ev.neg (by omega) ?_)
        have hw : wrap64 (wrap64 (Int.tdiv t s) - h) = (((t / s - h).toNat : Nat) : Int) := by rw [q1, wr_id _ (by omega) (by omega)]; omega
        rw [hw, q1]
        exact Ev.bind (impl_shift c _ hc (by omega)) (Ev.bind (impl_shift d _ hd (by omega)) (Ev.now _))
    · unfold rollB
      rw [if_neg (fun z => tm z.2.1)]
      exact Ev.neg (by simpa using tm) bad
  · unfold rollB
    rw [if_neg (fun z => ok z.1)]
    exact Ev.neg ok bad
end Go.Proofs.Ytbhcahiafibhfaa.Pure
