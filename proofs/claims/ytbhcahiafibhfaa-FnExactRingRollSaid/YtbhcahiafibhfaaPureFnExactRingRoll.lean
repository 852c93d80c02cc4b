/- FnExactRingRoll: the program's RingRoll and the reference's make the same ring of every ring and time, and what they make is fresh. Conditions: none beside the statement's own. -/
import Derived.Test.YtbhcahiafibhfaaPureRingLibRR
import Derived.Test.YtbhcahiafibhfaaOFnExactRingRoll
namespace Go.Proofs.Ytbhcahiafibhfaa.Pure
open Go.RowKit Go.Proofs.Ytbhcahiafibhfaa.RR Go.Proofs.YtbhcahiafibhfaaW.PrintWords Go.Proofs.YtbhcahiafibhfaaW.PrintLast

def marks (a : Int) (n : Nat) : List Int := (List.range n).map (fun j : Nat => a + (j : Int))
theorem marks_len (a : Int) (n : Nat) : (marks a n).length = n := by simp [marks]
theorem marks_get (a : Int) (n j : Nat) (h : j < (marks a n).length) : (marks a n)[j] = a + (j : Int) := by simp [marks]
theorem mark_ints (l : List Int) (a : Int) (hl : l.length ≤ 1048576) (h0 : 0 ≤ a) (h1 : a ≤ 1000000000) : Ev (fun k => laws_markIntS.f k l a) (a + (l.length : Int), marks a l.length) := by
  have loop : ∀ (e i : Nat) (o : List Int), i + e = l.length → o.length = l.length → (∀ j (hj : j < o.length), j < i → o[j] = a + (j : Int)) → Ev (fun k => laws_markIntS.l0 k o (a + (i : Int)) (i : Int)) (a + (l.length : Int), marks a l.length) := by
    intro e
    induction e with
    | zero =>
      intro i o hi ho hp
      refine Ev.step (fun k => rfl) (Ev.neg (by omega) (Ev.val ?_))
      rw [show o = marks a l.length from List.ext_getElem (by rw [marks_len, ho]) (fun j x y => by rw [hp j x (by omega), marks_get]), show i = l.length by omega]
    | succ e ih =>
      intro i o hi ho hp
      refine Ev.step (fun k => rfl) (Ev.pos (by omega) (Ev.pos (by omega) ?_))
      have hw : wrap64 (a + (i : Int) + 1) = a + ((i + 1 : Nat) : Int) := by rw [wr_id _ (by omega) (by omega)]; omega
      rw [wr1 i (by omega), hw, Int.toNat_natCast]
      refine ih (i + 1) _ (by omega) (by simpa using ho) (fun j hj hlt => ?_)
      rw [List.getElem_set]
      by_cases e : i = j
      · subst e
        rw [if_pos rfl]
      · rw [if_neg e, hp j (by simpa using hj) (by omega)]
  unfold laws_markIntS.f
  have := loop l.length 0 l (by omega) rfl (fun j _ hlt => absurd hlt (Nat.not_lt_zero _))
  simpa using this
theorem held_ints (n : Nat) (a : Int) (hl : n ≤ 1048576) (h0 : 0 ≤ a) (h1 : a ≤ 1000000000) : Ev (fun k => laws_heldIntS.f k (marks a n) a) (a + (n : Int)) := by
  have loop : ∀ (e i : Nat), i + e = n → Ev (fun k => laws_heldIntS.l0 k (marks a n) (a + (i : Int)) (i : Int)) (a + (n : Int)) := by
    intro e
    induction e with
    | zero =>
      intro i hi
      refine Ev.step (fun k => rfl) (Ev.neg (by rw [marks_len]; omega) (Ev.val ?_))
      rw [show i = n by omega]
    | succ e ih =>
      intro i hi
      have hi' : i < (marks a n).length := by rw [marks_len]; omega
      refine Ev.step (fun k => rfl) (Ev.pos (by omega) (Ev.pos (by omega) ?_))
      have hw : wrap64 (a + (i : Int) + 1) = a + ((i + 1 : Nat) : Int) := by rw [wr_id _ (by omega) (by omega)]; omega
      rw [wr1 i (by omega), hw, rd_at _ i hi', marks_get]
      exact Ev.pos rfl (ih (i + 1) (by omega))
  unfold laws_heldIntS.f
  have := loop n 0 (by omega)
  simpa using this
theorem mark_ring (s h : Int) (c d : List Int) (hc : c.length ≤ 1048576) (hd : d.length ≤ 1048576) : Ev (fun k => laws_markRing.f k s h c d 1) (1 + (c.length : Int) + (d.length : Int), marks 1 c.length, marks (1 + (c.length : Int)) d.length) := by
  unfold laws_markRing.f
  exact Ev.bind (mark_ints c 1 hc (by omega) (by omega)) (Ev.bind (mark_ints d _ hd (by omega) (by omega)) (Ev.now _))
theorem held_ring (s h : Int) (m n : Nat) (hm : m ≤ 1048576) (hn : n ≤ 1048576) : Ev (fun k => laws_heldRing.f k s h (marks 1 m) (marks (1 + (m : Int)) n) 1) (1 + (m : Int) + (n : Int)) := by
  unfold laws_heldRing.f
  exact Ev.bind (held_ints m 1 hm (by omega) (by omega)) (Ev.neg (by omega) (Ev.bind (held_ints n _ hn (by omega) (by omega)) (Ev.neg (by omega) (Ev.now _))))

theorem FnExactRingRoll : laws_FnExactRingRoll.Pure := by
  intro ⟨s, h, c, d⟩ t hx ht
  obtain ⟨z, hz, hzl⟩ := sz_ring s h c d (by have := hx.2.2.1.1; exact this) (by have := hx.2.2.2.1; exact this)
  refine Ev.rounds (r := true) ?_
  unfold laws_FnExactRingRoll.f
  refine Ev.bind (Ev.is hz) (Ev.ite (fun _ => Ev.now _) fun hz0 => ?_)
  obtain ⟨hc, hd⟩ := hzl hz0
  have hto := to_ring s h c d hc hd
  obtain ⟨lc, ld⟩ := roll_len s h c d t
  have hc' : (rollB s h c d t).2.2.1.length ≤ 1048576 := by omega
  have hd' : (rollB s h c d t).2.2.2.length ≤ 1048576 := by omega
  refine Ev.bind hto (Ev.bind (spec_roll s h c d t hc hd) (Ev.bind hto (Ev.bind (impl_roll s h c d t hc hd) ?_)))
  have hroll := impl_roll s h c d t hc hd
  generalize rollB s h c d t = r at hc' hd' hroll
  obtain ⟨s', h', c', d'⟩ := r
  refine Ev.bind (eq_ring s' h' c' d' hc' hd') (Ev.pos rfl (Ev.bind hto (Ev.bind (eq_ring s h c d hc hd) (Ev.pos rfl (Ev.bind (mark_ring s h c d hc hd) (Ev.neg (by show ¬ (1 + (c.length : Int) + (d.length : Int)) < 0; omega) (Ev.bind (eq_ring s' h' c' d' hc' hd') ?_)))))))
  refine Ev.step (fun k => rfl) (Ev.bind (mark_ring s' h' c' d' hc' hd') (Ev.bind (held_ring s' h' _ _ hc' hd') (Ev.neg (by omega) (Ev.pos rfl (Ev.bind hto (Ev.bind hroll ?_))))))
  exact Ev.bind (eq_ring s' h' c' d' hc' hd') (Ev.pos rfl (Ev.bind (held_ring s' h' _ _ hc' hd') (Ev.neg (by omega) (Ev.pos rfl (Ev.now _)))))
end Go.Proofs.Ytbhcahiafibhfaa.Pure
