/- FnExactRingSum: the program's RingSum and the reference's tell the same of every ring and time. Conditions: none beside the statement's own. -/
import Derived.Test.YtbhcahiafibhfaaPureRingLibRS
import Derived.Test.YtbhcahiafibhfaaOFnExactRingSum
namespace Go.Proofs.Ytbhcahiafibhfaa.Pure
open Go.RowKit Go.Proofs.Ytbhcahiafibhfaa.RS Go.Proofs.YtbhcahiafibhfaaW.PrintWords Go.Proofs.YtbhcahiafibhfaaW.PrintLast

-- the sum that stops at the top
def satB (a b : Int) : Int := min (max 0 (min a 4611686018427387904) + max 0 (min b 4611686018427387904)) 4611686018427387904
theorem impl_sat (a b : Int) : impl_AddSat.f a b = some (satB a b) := by
  unfold impl_AddSat.f satB mx mn
  repeat' split
  all_goals (first | (congr 1; omega) | (rw [wr_id _ (by omega) (by omega)]; congr 1; omega) | omega)
theorem spec_clamp (a b c : Int) (h : b ≤ c) : spec_l01Clamp.f a b c = some (max b (min a c)) := by
  unfold spec_l01Clamp.f
  repeat' split
  all_goals (congr 1; omega)
theorem spec_sat (a b : Int) : spec_AddSat.f a b = some (satB a b) := by
  unfold spec_AddSat.f
  rw [spec_clamp _ _ _ (by decide), spec_clamp _ _ _ (by decide)]
  unfold satB
  have ha : 0 ≤ max 0 (min a 4611686018427387904) ∧ max 0 (min a 4611686018427387904) ≤ 4611686018427387904 := by omega
  have hb : 0 ≤ max 0 (min b 4611686018427387904) ∧ max 0 (min b 4611686018427387904) ≤ 4611686018427387904 := by omega
  generalize max 0 (min a 4611686018427387904) = x at ha ⊢
  generalize max 0 (min b 4611686018427387904) = y at hb ⊢
  rw [Option.bind_some, Option.bind_some]
  unfold spec_AddMoney.f
  rw [spec_money, spec_money, Option.bind_some, Option.bind_some, show moneyB x = true from decide_eq_true ha, show moneyB y = true from decide_eq_true hb, if_pos rfl, if_pos rfl, wr_id _ (by omega) (by omega)]
  by_cases h : x > 4611686018427387904 - y
  · rw [if_pos h, Option.bind_some, if_neg (by decide)]
    congr 1
    omega
  · rw [if_neg h, Option.bind_some, if_pos rfl, wr_id _ (by omega) (by omega)]
    congr 1
    show x + y = _
    omega

theorem impl_tot (l : List Int) (hl : l.length ≤ 1048576) : Ev (fun k => impl_total.f k l) (l.foldl satB 0) := by
  have loop : ∀ (e i : Nat) (a : Int), i + e = l.length → Ev (fun k => impl_total.l0 k a l (l.length : Int) (i : Int)) ((l.drop i).foldl satB a) := by
    intro e
    induction e with
    | zero =>
      intro i a hi
      refine Ev.step (fun k => rfl) (Ev.neg (by omega) (Ev.val ?_))
      rw [List.drop_of_length_le (by omega)]
      rfl
    | succ e ih =>
      intro i a hi
      have hi' : i < l.length := by omega
      refine Ev.step (fun k => rfl) (Ev.pos (by omega) (Ev.pos (by omega) (Ev.pos (by omega) ?_)))
      rw [rd_at l i hi', wr1 i (by omega), List.drop_eq_getElem_cons hi']
      exact Ev.bind (Ev.is (impl_sat _ _)) (ih (i + 1) _ (by omega))
  exact loop l.length 0 0 (by omega)
theorem spec_tot (s h : Int) (c d : List Int) (hc : c.length ≤ 1048576) (hd : d.length = c.length) : Ev (fun k => spec_l06Total.l0 k true 0 (c.length : Int) 0 s h c d) ((s, h, c, d).2.2.2.foldl satB 0) := by
  have loop : ∀ (e i : Nat) (a : Int), i + e = c.length → Ev (fun k => spec_l06Total.l0 k true a (c.length : Int) (i : Int) s h c d) (((s, h, c, d).2.2.2.drop i).foldl satB a) := by
    intro e
    induction e with
    | zero =>
      intro i a hi
      refine Ev.step (fun k => rfl) (Ev.neg (by omega) (Ev.val ?_))
      rw [List.drop_of_length_le (by show (d).length ≤ i; omega)]
      rfl
    | succ e ih =>
      intro i a hi
      have hi' : i < (d).length := by omega
      refine Ev.step (fun k => rfl) (Ev.pos (by omega) (Ev.pos rfl (Ev.pos (by omega) (Ev.pos (by omega) ?_))))
      show Ev _ (((d).drop i).foldl satB a)
      rw [rd_at (d) i hi', wr1 i (by omega), List.drop_eq_getElem_cons hi']
      exact Ev.bind (Ev.is (spec_sat _ _)) (ih (i + 1) _ (by omega))
  exact loop c.length 0 0 (by omega)
def totB (s h : Int) (c d : List Int) (t : Int) : Int := if ringOkB s h c d = true ∧ 0 ≤ t ∧ t ≤ 1000000000 then (rollB s h c d t).2.2.2.foldl satB 0 else 0
theorem spec_sum (s h : Int) (c d : List Int) (t : Int) (hc : c.length ≤ 1048576) (hd : d.length ≤ 1048576) : Ev (fun k => spec_l06Total.f k s h c d t true) (totB s h c d t) := by
  have bad : Ev (fun k => spec_l06Total.j0 k t true true s h c d) 0 := Ev.step (f := fun _ => some 0) (fun k => rfl) (Ev.now _)
  unfold spec_l06Total.f totB
  refine Ev.bind (spec_ok s h c d) ?_
  by_cases ok : ringOkB s h c d = true
  · refine Ev.pos ok (Ev.bind (Ev.is (spec_time _)) ?_)
    obtain ⟨_, k1, k2, k3, k4⟩ := (ok_iff s h c d).1 ok
    by_cases tm : 0 ≤ t ∧ t ≤ 1000000000
    · rw [if_pos ⟨ok, tm⟩, decide_eq_true tm]
      obtain ⟨lc, ld⟩ := roll_len s h c d t
      refine Ev.step (fun k => rfl) (Ev.bind (spec_roll s h c d t hc hd) ?_)
      generalize rollB s h c d t = r at lc ld
      obtain ⟨s', h', c', d'⟩ := r
      exact spec_tot s' h' c' d' (by show c'.length ≤ _; simp only at lc; omega) (by simp only at lc ld; omega)
    · rw [if_neg (fun z => tm z.2), decide_eq_false tm]
      exact bad
  · rw [if_neg (fun z => ok z.1)]
    exact Ev.neg ok bad
theorem impl_sum (s h : Int) (c d : List Int) (t : Int) (hc : c.length ≤ 1048576) (hd : d.length ≤ 1048576) : Ev (fun k => impl_RingSum.f k s h c d t) (totB s h c d t) := by
  have bad : Ev (fun k => impl_RingSum.j0 k t true s h c d) 0 := Ev.step (f := fun _ => some 0) (fun k => rfl) (Ev.now _)
  unfold impl_RingSum.f totB
  refine Ev.bind (Ev.is (impl_ok s h c d hc hd)) ?_
  by_cases ok : ringOkB s h c d = true
  · refine Ev.pos ok (Ev.bind (Ev.is (hisTime _)) ?_)
    by_cases tm : 0 ≤ t ∧ t ≤ 1000000000
    · rw [if_pos ⟨ok, tm⟩, decide_eq_true tm]
      obtain ⟨lc, ld⟩ := roll_len s h c d t
      exact Ev.step (fun k => rfl) (Ev.bind (impl_roll s h c d t hc hd) (Ev.bind (impl_tot _ (by omega)) (Ev.now _)))
    · rw [if_neg (fun z => tm z.2), decide_eq_false tm]
      exact bad
  · rw [if_neg (fun z => ok z.1)]
    exact Ev.neg ok bad

theorem FnExactRingSum : laws_FnExactRingSum.Pure := by
  intro ⟨s, h, c, d⟩ t hx ht
  obtain ⟨z, hz, hzl⟩ := sz_ring s h c d (by have := hx.2.2.1.1; exact this) (by have := hx.2.2.2.1; exact this)
  refine Ev.rounds (r := true) ?_
  unfold laws_FnExactRingSum.f
  refine Ev.bind (Ev.is hz) (Ev.ite (fun _ => Ev.now _) fun hz0 => ?_)
  obtain ⟨hc, hd⟩ := hzl hz0
  have hto := to_ring s h c d hc hd
  refine Ev.bind hto (Ev.bind (a := totB s h c d t) ?_ (Ev.bind hto (Ev.bind (impl_sum s h c d t hc hd) (Ev.pos rfl ?_))))
  · unfold spec_RingSum.f
    exact Ev.bind (spec_sum s h c d t hc hd) (Ev.now _)
  · exact Ev.bind hto (Ev.bind (eq_ring s h c d hc hd) (Ev.pos rfl (Ev.now _)))
end Go.Proofs.Ytbhcahiafibhfaa.Pure
