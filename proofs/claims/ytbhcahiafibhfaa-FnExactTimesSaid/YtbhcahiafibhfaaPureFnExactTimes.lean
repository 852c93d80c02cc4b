/- FnExactTimes: the program's Times and the reference's tell the same of every list of messages. Conditions: none beside the statement's own. -/
import Derived.Test.YtbhcahiafibhfaaOFnExactTimes
import Derived.Test.YtbhcahiafibhfaaQxp
namespace Go.Proofs.Ytbhcahiafibhfaa.Pure
open Go.RowKit Go.Proofs.Ytbhcahiafibhfaa.Q Go.Proofs.YtbhcahiafibhfaaW.PrintWords Go.Proofs.YtbhcahiafibhfaaW.PrintLast

theorem spec_time (a : Int) : spec_l06Time.f a = some (decide (0 ≤ a ∧ a ≤ 1000000000)) := by
  unfold spec_l06Time.f spec_l01In.f
  by_cases h : (0 : Int) ≤ a
  · simp [h]
  · simp [h]
theorem spec_times (l : List S69) (hl : l.length ≤ 140737488351232) : Ev (fun k => spec_Times.f k l) (timesB l) := by
  have loop : ∀ (d i : Nat), i + d = l.length → (∀ j (hj : j < l.length), j < i → (0 ≤ l[j].f0 ∧ l[j].f0 ≤ 1000000000) ∧ (0 < j → (l[j - 1]'(by omega)).f0 ≤ l[j].f0)) → Ev (fun k => spec_Times.l0 k l l (l.length : Int) (i : Int)) (timesB l) := by
    intro d
    induction d with
    | zero =>
      intro i hi hp
      refine Ev.step (fun k => rfl) (Ev.neg (by omega) (Ev.val ?_))
      symm
      unfold timesB
      rw [Bool.and_eq_true, List.all_eq_true, decide_eq_true_iff]
      refine ⟨fun d hd => ?_, fun j hj h0 => (hp j hj (by omega)).2 h0⟩
      obtain ⟨j, hj, rfl⟩ := List.mem_iff_getElem.1 hd
      simpa using (hp j hj (by omega)).1
    | succ d ih =>
      intro i hi hp
      have hi' : i < l.length := by omega
      refine Ev.step (fun k => rfl) (Ev.pos (by omega) (Ev.pos (by omega) (Ev.pos (by omega) ?_)))
      rw [rdt69 l i hi', wr1 i (by omega)]
      refine Ev.bind (Ev.is (spec_time _)) ?_
      by_cases h1 : 0 ≤ l[i].f0 ∧ l[i].f0 ≤ 1000000000
      · refine Ev.pos (by simpa using h1) ?_
        by_cases h0 : 0 < i
        · refine Ev.pos (by omega) ?_
          have hw : wrap64 ((i : Int) - 1) = ((i - 1 : Nat) : Int) := by rw [wr_id _ (by omega) (by omega)]; omega
          rw [hw, rdt69 l (i - 1) (by omega)]
          refine Ev.pos (by omega) (Ev.pos (by omega) ?_)
          by_cases h2 : (l[i - 1]'(by omega)).f0 > l[i].f0
          · refine Ev.pos h2 (Ev.val ?_)
            symm
            unfold timesB
            rw [Bool.and_eq_false_iff]
            right
            rw [decide_eq_false_iff_not]
            intro h
            have := h i hi' h0
            omega
          · refine Ev.neg h2 (ih (i + 1) (by omega) (fun j hj h => ?_))
            by_cases e : j = i
            · subst e
              exact ⟨h1, fun _ => by omega⟩
            · exact hp j hj (by omega)
        · refine Ev.neg (by omega) (ih (i + 1) (by omega) (fun j hj h => ?_))
          by_cases e : j = i
          · subst e
            exact ⟨h1, fun z => absurd z h0⟩
          · exact hp j hj (by omega)
      · refine Ev.neg (by simpa using h1) (Ev.val ?_)
        symm
        unfold timesB
        rw [Bool.and_eq_false_iff]
        left
        rw [List.all_eq_false]
        exact ⟨l[i], List.getElem_mem hi', by simpa using h1⟩
  unfold spec_Times.f
  exact loop l.length 0 (by omega) (fun j hj h => absurd h (Nat.not_lt_zero _))

theorem FnExactTimes : laws_FnExactTimes.Pure := by
  intro x hB
  have hZ : x.length ≤ 140737488351232 ∧ ∀ y ∈ x, Z68 y := ⟨by have := hB.1; omega, fun y hy => z_of_b68 y (hB.2 y hy)⟩
  have hZ' : (x.map (fun z => cv68 z)).length ≤ 140737488351232 ∧ ∀ y ∈ x.map (fun z => cv68 z), Z69 y := ⟨by simpa using hZ.1, fun y hy => by
    obtain ⟨u, hu, rfl⟩ := List.mem_map.1 hy
    exact z_cv68 _ (hZ.2 u hu)⟩
  obtain ⟨t, ht⟩ := szDoneS x 1048576 hZ
  have hto := toDoneS x hZ (by have := hB.1; omega)
  refine Ev.rounds (r := true) ?_
  unfold laws_FnExactTimes.f
  refine Ev.bind ht (Ev.ite (fun _ => Ev.now _) fun _ => ?_)
  refine Ev.bind hto (Ev.bind (spec_times _ hZ'.1) (Ev.bind hto (Ev.bind (Ev.is rfl) (Ev.neg (by simp) ?_))))
  exact Ev.bind hto (Ev.bind (eqDoneS _ hZ') (Ev.pos rfl (Ev.now _)))
end Go.Proofs.Ytbhcahiafibhfaa.Pure
