/- FnExactMeets: the program's Meets and the reference's tell the same of every two tasks. Conditions: none beside the statement's own. -/
import Derived.Test.YtbhcahiafibhfaaOFnExactMeets
import Derived.Test.YtbhcahiafibhfaaVxp
namespace Go.Proofs.Ytbhcahiafibhfaa.Pure
open Go.RowKit Go.Proofs.Ytbhcahiafibhfaa.V Go.Proofs.YtbhcahiafibhfaaW.PrintWords Go.Proofs.YtbhcahiafibhfaaW.PrintLast

theorem spec_has (t : List Int) (a : Int) (ht : t.length ≤ 140737488351232) : Ev (fun k => spec_l13Has.f k t a) (t.contains a) := by
  have loop : ∀ (d i : Nat), i + d = t.length → (∀ j (hj : j < t.length), j < i → ¬ t[j] = a) → Ev (fun k => spec_l13Has.l0 k a t (t.length : Int) (i : Int)) (t.contains a) := by
    intro d
    induction d with
    | zero =>
      intro i hi hp
      refine Ev.step (fun k => rfl) (Ev.neg (by omega) (Ev.val ?_))
      symm
      rw [Bool.eq_false_iff]
      intro hc
      rw [List.contains_iff_mem] at hc
      obtain ⟨j, hj, e⟩ := List.mem_iff_getElem.1 hc
      exact hp j hj (by omega) e
    | succ d ih =>
      intro i hi hp
      have hi' : i < t.length := by omega
      refine Ev.step (fun k => rfl) (Ev.pos (by omega) (Ev.pos (by omega) (Ev.pos (by omega) ?_)))
      rw [rd_at t i hi', wr1 i (by omega)]
      by_cases e : t[i] = a
      · refine Ev.pos e (Ev.val ?_)
        symm
        rw [List.contains_iff_mem, ← e]
        exact List.getElem_mem hi'
      · refine Ev.neg e (ih (i + 1) (by omega) (fun j hj h => ?_))
        by_cases z : j = i
        · subst z; exact e
        · exact hp j hj (by omega)
  unfold spec_l13Has.f
  exact loop t.length 0 (by omega) (fun j hj h => absurd h (Nat.not_lt_zero _))
theorem spec_meets (a b : S35) (ha : a.f2.length ≤ 140737488351232) (hb : b.f2.length ≤ 140737488351232) : Ev (fun k => spec_Meets.f k a.f0 a.f1 a.f2 a.f3 a.f4 a.f5 a.f6 a.f7 a.f8 b.f0 b.f1 b.f2 b.f3 b.f4 b.f5 b.f6 b.f7 b.f8) (meetsB a.f2 b.f2) := by
  have loop : ∀ (d i : Nat), i + d = a.f2.length → (∀ j (hj : j < a.f2.length), j < i → b.f2.contains a.f2[j] = false) → Ev (fun k => spec_Meets.l0 k a.f2 (a.f2.length : Int) (i : Int) b.f0 b.f1 b.f2 b.f3 b.f4 b.f5 b.f6 b.f7 b.f8) (meetsB a.f2 b.f2) := by
    intro d
    induction d with
    | zero =>
      intro i hi hp
      refine Ev.step (fun k => rfl) (Ev.neg (by omega) (Ev.val ?_))
      symm
      unfold meetsB
      rw [List.any_eq_false]
      intro x hx
      obtain ⟨j, hj, rfl⟩ := List.mem_iff_getElem.1 hx
      rw [hp j hj (by omega)]
      exact Bool.false_ne_true
    | succ d ih =>
      intro i hi hp
      have hi' : i < a.f2.length := by omega
      refine Ev.step (fun k => rfl) (Ev.pos (by omega) (Ev.pos (by omega) (Ev.pos (by omega) ?_)))
      rw [rd_at a.f2 i hi', wr1 i (by omega)]
      refine Ev.bind (spec_has _ _ hb) ?_
      by_cases e : b.f2.contains a.f2[i] = true
      · refine Ev.pos e (Ev.val ?_)
        symm
        unfold meetsB
        rw [List.any_eq_true]
        exact ⟨_, List.getElem_mem hi', e⟩
      · refine Ev.neg e (ih (i + 1) (by omega) (fun j hj h => ?_))
        by_cases z : j = i
        · subst z; simpa using e
        · exact hp j hj (by omega)
  unfold spec_Meets.f
  exact loop a.f2.length 0 (by omega) (fun j hj h => absurd h (Nat.not_lt_zero _))

theorem FnExactMeets : laws_FnExactMeets.Pure := by
  intro x y hx hy
  have hX := z_of_b32 _ hx
  have hY := z_of_b32 _ hy
  have hX' := z_cv32 _ hX
  have hY' := z_cv32 _ hY
  obtain ⟨t, ht⟩ := szTask x 1048576 hX
  have hxt := toTask x hX
  have hyt := toTask y hY
  refine Ev.rounds (r := true) ?_
  unfold laws_FnExactMeets.f
  refine Ev.bind ht (Ev.ite (fun _ => Ev.now _) fun _ => ?_)
  obtain ⟨u, hu⟩ := szTask y t hY
  refine Ev.bind hu (Ev.ite (fun _ => Ev.now _) fun _ => ?_)
  refine Ev.bind hxt (Ev.bind hyt (Ev.bind (spec_meets (cv32 x) (cv32 y) (by have := hX'.2.2.1.1; omega) (by have := hY'.2.2.1.1; omega)) ?_))
  refine Ev.bind hxt (Ev.bind hyt (Ev.bind (Ev.is rfl) (Ev.neg (by simp) ?_)))
  refine Ev.bind hxt (Ev.bind (eqTask _ hX') (Ev.pos rfl ?_))
  exact Ev.bind hyt (Ev.bind (eqTask _ hY') (Ev.pos rfl (Ev.now _)))
end Go.Proofs.Ytbhcahiafibhfaa.Pure
