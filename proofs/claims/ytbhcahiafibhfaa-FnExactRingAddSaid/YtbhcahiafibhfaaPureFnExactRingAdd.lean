/- FnExactRingAdd: the program's RingAdd and the reference's make the same ring, and what they make is fresh. Conditions: none beside the statement's own. -/
import Derived.Test.YtbhcahiafibhfaaPureRingLibRA
import Derived.Test.YtbhcahiafibhfaaOFnExactRingAdd
namespace Go.Proofs.Ytbhcahiafibhfaa.Pure
open Go.RowKit Go.Proofs.Ytbhcahiafibhfaa.RA Go.Proofs.YtbhcahiafibhfaaW.PrintWords Go.Proofs.YtbhcahiafibhfaaW.PrintLast

-- the sum that stops at the top
def satB (a b : Int) : Int := min (max 0 (min a 4611686018427387904) + max 0 (min b 4611686018427387904)) 4611686018427387904
theorem impl_sat (a b : Int) : impl_AddSat.f a b = some (satB a b) := by
  unfold impl_AddSat.f satB mx mn
  repeat' split
  all_goals (first | (congr 1; omega) | (rw [wr_id _ (by omega) (by omega)]; congr 1; omega) | omega)
theorem spec_clamp (a b c : Int) (h : b ≤ c) : spec_l01Clamp.f a b c = some (max b (min a c)) := by
  unfold spec_l01Clamp.f
  repeat' split
  all_goals (congr 1; omega)
theorem spec_sat (a b : Int) : spec_AddSat.f a b = some (satB a b) := by
  unfold spec_AddSat.f
  rw [spec_clamp _ _ _ (by decide), spec_clamp _ _ _ (by decide)]
  unfold satB
  have ha : 0 ≤ max 0 (min a 4611686018427387904) ∧ max 0 (min a 4611686018427387904) ≤ 4611686018427387904 := by omega
  have hb : 0 ≤ max 0 (min b 4611686018427387904) ∧ max 0 (min b 4611686018427387904) ≤ 4611686018427387904 := by omega
  generalize max 0 (min a 4611686018427387904) = x at ha ⊢
  generalize max 0 (min b 4611686018427387904) = y at hb ⊢
  rw [Option.bind_some, Option.bind_some]
  unfold spec_AddMoney.f
  rw [spec_money, spec_money, Option.bind_some, Option.bind_some, show moneyB x = true from decide_eq_true ha, show moneyB y = true from decide_eq_true hb, if_pos rfl, if_pos rfl, wr_id _ (by omega) (by omega)]
  by_cases h : x > 4611686018427387904 - y
  · rw [if_pos h, Option.bind_some, if_neg (by decide)]
    congr 1
    omega
  · rw [if_neg h, Option.bind_some, if_pos rfl, wr_id _ (by omega) (by omega)]
    congr 1
    show x + y = _
    omega

def marks (a : Int) (n : Nat) : List Int := (List.range n).map (fun j : Nat => a + (j : Int))
theorem marks_len (a : Int) (n : Nat) : (marks a n).length = n := by simp [marks]
theorem marks_get (a : Int) (n j : Nat) (h : j < (marks a n).length) : (marks a n)[j] = a + (j : Int) := by simp [marks]
theorem mark_ints (l : List Int) (a : Int) (hl : l.length ≤ 1048576) (h0 : 0 ≤ a) (h1 : a ≤ 1000000000) : Ev (fun k => laws_markIntS.f k l a) (a + (l.length : Int), marks a l.length) := by
  have loop : ∀ (e i : Nat) (o : List Int), i + e = l.length → o.length = l.length → (∀ j (hj : j < o.length), j < i → o[j] = a + (j : Int)) → Ev (fun k => laws_markIntS.l0 k o (a + (i : Int)) (i : Int)) (a + (l.length : Int), marks a l.length) := by
    intro e
    induction e with
    | zero =>
      intro i o hi ho hp
      refine Ev.step (fun k => rfl) (Ev.neg (by omega) (Ev.val ?_))
      rw [show o = marks a l.length from List.ext_getElem (by rw [marks_len, ho]) (fun j x y => by rw [hp j x (by omega), marks_get]), show i = l.length by omega]
    | succ e ih =>
      intro i o hi ho hp
      refine Ev.step (fun k => rfl) (Ev.pos (by omega) (Ev.pos (by omega) ?_))
      have hw : wrap64 (a + (i : Int) + 1) = a + ((i + 1 : Nat) : Int) := by rw [wr_id _ (by omega) (by omega)]; omega
      rw [wr1 i (by omega), hw, Int.toNat_natCast]
      refine ih (i + 1) _ (by omega) (by simpa using ho) (fun j hj hlt => ?_)
      rw [List.getElem_set]
      by_cases e : i = j
      · subst e
        rw [if_pos rfl]
      · rw [if_neg e, hp j (by simpa using hj) (by omega)]
  unfold laws_markIntS.f
  have := loop l.length 0 l (by omega) rfl (fun j _ hlt => absurd hlt (Nat.not_lt_zero _))
  simpa using this
theorem held_ints (n : Nat) (a : Int) (hl : n ≤ 1048576) (h0 : 0 ≤ a) (h1 : a ≤ 1000000000) : Ev (fun k => laws_heldIntS.f k (marks a n) a) (a + (n : Int)) := by
  have loop : ∀ (e i : Nat), i + e = n → Ev (fun k => laws_heldIntS.l0 k (marks a n) (a + (i : Int)) (i : Int)) (a + (n : Int)) := by
    intro e
    induction e with
    | zero =>
      intro i hi
      refine Ev.step (fun k => rfl) (Ev.neg (by rw [marks_len]; omega) (Ev.val ?_))
      rw [show i = n by omega]
    | succ e ih =>
      intro i hi
      have hi' : i < (marks a n).length := by rw [marks_len]; omega
      refine Ev.step (fun k => rfl) (Ev.pos (by omega) (Ev.pos (by omega) ?_))
      have hw : wrap64 (a + (i : Int) + 1) = a + ((i + 1 : Nat) : Int) := by rw [wr_id _ (by omega) (by omega)]; omega
      rw [wr1 i (by omega), hw, rd_at _ i hi', marks_get]
      exact Ev.pos rfl (ih (i + 1) (by omega))
  unfold laws_heldIntS.f
  have := loop n 0 (by omega)
  simpa using this
theorem mark_ring (s h : Int) (c d : List Int) (hc : c.length ≤ 1048576) (hd : d.length ≤ 1048576) : Ev (fun k => laws_markRing.f k s h c d 1) (1 + (c.length : Int) + (d.length : Int), marks 1 c.length, marks (1 + (c.length : Int)) d.length) := by
  unfold laws_markRing.f
  exact Ev.bind (mark_ints c 1 hc (by omega) (by omega)) (Ev.bind (mark_ints d _ hd (by omega) (by omega)) (Ev.now _))
theorem held_ring (s h : Int) (m n : Nat) (hm : m ≤ 1048576) (hn : n ≤ 1048576) : Ev (fun k => laws_heldRing.f k s h (marks 1 m) (marks (1 + (m : Int)) n) 1) (1 + (m : Int) + (n : Int)) := by
  unfold laws_heldRing.f
  exact Ev.bind (held_ints m 1 hm (by omega) (by omega)) (Ev.neg (by omega) (Ev.bind (held_ints n _ hn (by omega) (by omega)) (Ev.neg (by omega) (Ev.now _))))

def addB (s h : Int) (c d : List Int) (t m : Int) : Int × Int × List Int × List Int :=
  if ringOkB s h c d = true ∧ (0 ≤ t ∧ t ≤ 1000000000) ∧ moneyB m = true then ((rollB s h c d t).1, (rollB s h c d t).2.1, (rollB s h c d t).2.2.1.set 0 (satB (rd (rollB s h c d t).2.2.1 0) 1), (rollB s h c d t).2.2.2.set 0 (satB (rd (rollB s h c d t).2.2.2 0) m)) else (s, h, c, d)
theorem add_len (s h : Int) (c d : List Int) (t m : Int) : (addB s h c d t m).2.2.1.length = c.length ∧ (addB s h c d t m).2.2.2.length = d.length := by
  obtain ⟨a, b⟩ := roll_len s h c d t
  unfold addB
  split
  · exact ⟨by simpa using a, by simpa using b⟩
  · exact ⟨rfl, rfl⟩
theorem spec_add (s h : Int) (c d : List Int) (t m : Int) (hc : c.length ≤ 1048576) (hd : d.length ≤ 1048576) : Ev (fun k => spec_RingAdd.f k s h c d t m) (addB s h c d t m) := by
  have bad : Ev (fun k => spec_RingAdd.j0 k t m true s h c d) (s, h, c, d) := Ev.step (f := fun _ => (spec_l06Copy.f s h c d).bind fun b => some (b.1, b.2.1, b.2.2.1, b.2.2.2)) (fun k => rfl) (Ev.bind (Ev.is (spec_copy s h c d hc hd)) (Ev.now _))
  unfold spec_RingAdd.f addB
  refine Ev.bind (spec_ok s h c d) ?_
  by_cases ok : ringOkB s h c d = true
  · refine Ev.pos ok (Ev.bind (Ev.is (spec_time _)) ?_)
    obtain ⟨_, k1, k2, k3, k4⟩ := (ok_iff s h c d).1 ok
    by_cases tm : 0 ≤ t ∧ t ≤ 1000000000
    · refine Ev.pos (by simpa using tm) (Ev.bind (Ev.is (spec_money _)) ?_)
      by_cases mo : moneyB m = true
      · rw [if_pos ⟨ok, tm, mo⟩, mo]
        obtain ⟨lc, ld⟩ := roll_len s h c d t
        refine Ev.step (fun k => rfl) (Ev.bind (spec_roll s h c d t hc hd) ?_)
        exact Ev.pos (by omega) (Ev.bind (Ev.is (spec_sat _ _)) (Ev.pos (by omega) (Ev.bind (Ev.is (spec_sat _ _)) (Ev.now _))))
      · rw [if_neg (fun z => mo z.2.2), Bool.eq_false_iff.mpr mo]
        exact bad
    · rw [if_neg (fun z => tm z.2.1)]
      exact Ev.neg (by simpa using tm) bad
  · rw [if_neg (fun z => ok z.1)]
    exact Ev.neg ok bad
theorem impl_add (s h : Int) (c d : List Int) (t m : Int) (hc : c.length ≤ 1048576) (hd : d.length ≤ 1048576) : Ev (fun k => impl_RingAdd.f k s h c d t m) (addB s h c d t m) := by
  have bad : Ev (fun k => impl_RingAdd.j0 k t m true s h c d) (s, h, c, d) := Ev.step (f := fun _ => (impl_Ring_copied.f s h c d).bind fun b => some (b.1, b.2.1, b.2.2.1, b.2.2.2)) (fun k => rfl) (Ev.bind (Ev.is (impl_copy s h c d hc hd)) (Ev.now _))
  unfold impl_RingAdd.f addB
  refine Ev.bind (Ev.is (impl_ok s h c d hc hd)) ?_
  by_cases ok : ringOkB s h c d = true
  · refine Ev.pos ok (Ev.bind (Ev.is (hisTime _)) ?_)
    obtain ⟨_, k1, k2, k3, k4⟩ := (ok_iff s h c d).1 ok
    by_cases tm : 0 ≤ t ∧ t ≤ 1000000000
    · refine Ev.pos (by simpa using tm) (Ev.bind (Ev.is (hisMoney _)) ?_)
      by_cases mo : moneyB m = true
      · rw [if_pos ⟨ok, tm, mo⟩, mo]
        obtain ⟨lc, ld⟩ := roll_len s h c d t
        refine Ev.step (fun k => rfl) (Ev.bind (impl_roll s h c d t hc hd) ?_)
        exact Ev.pos (by omega) (Ev.bind (Ev.is (impl_sat _ _)) (Ev.pos (by omega) (Ev.bind (Ev.is (impl_sat _ _)) (Ev.now _))))
      · rw [if_neg (fun z => mo z.2.2), Bool.eq_false_iff.mpr mo]
        exact bad
    · rw [if_neg (fun z => tm z.2.1)]
      exact Ev.neg (by simpa using tm) bad
  · rw [if_neg (fun z => ok z.1)]
    exact Ev.neg ok bad

theorem FnExactRingAdd : laws_FnExactRingAdd.Pure := by
  intro ⟨s, h, c, d⟩ t m hx ht hm
  obtain ⟨z, hz, hzl⟩ := sz_ring s h c d (by have := hx.2.2.1.1; exact this) (by have := hx.2.2.2.1; exact this)
  refine Ev.rounds (r := true) ?_
  unfold laws_FnExactRingAdd.f
  refine Ev.bind (Ev.is hz) (Ev.ite (fun _ => Ev.now _) fun hz0 => ?_)
  obtain ⟨hc, hd⟩ := hzl hz0
  have hto := to_ring s h c d hc hd
  obtain ⟨lc, ld⟩ := add_len s h c d t m
  have hc' : (addB s h c d t m).2.2.1.length ≤ 1048576 := by omega
  have hd' : (addB s h c d t m).2.2.2.length ≤ 1048576 := by omega
  refine Ev.bind hto (Ev.bind (spec_add s h c d t m hc hd) (Ev.bind hto (Ev.bind (impl_add s h c d t m hc hd) ?_)))
  have hadd := impl_add s h c d t m hc hd
  generalize addB s h c d t m = r at hc' hd' hadd
  obtain ⟨s', h', c', d'⟩ := r
  refine Ev.bind (eq_ring s' h' c' d' hc' hd') (Ev.pos rfl (Ev.bind hto (Ev.bind (eq_ring s h c d hc hd) (Ev.pos rfl (Ev.bind (mark_ring s h c d hc hd) (Ev.neg (by show ¬ (1 + (c.length : Int) + (d.length : Int)) < 0; omega) (Ev.bind (eq_ring s' h' c' d' hc' hd') ?_)))))))
  refine Ev.step (fun k => rfl) (Ev.bind (mark_ring s' h' c' d' hc' hd') (Ev.bind (held_ring s' h' _ _ hc' hd') (Ev.neg (by omega) (Ev.pos rfl (Ev.bind hto (Ev.bind hadd ?_))))))
  exact Ev.bind (eq_ring s' h' c' d' hc' hd') (Ev.pos rfl (Ev.bind (held_ring s' h' _ _ hc' hd') (Ev.neg (by omega) (Ev.pos rfl (Ev.now _)))))
end Go.Proofs.Ytbhcahiafibhfaa.Pure
