/- FnExactCrossings: the program's Crossings and the reference's tell the same of every world. Conditions: none beside the statement's own. -/
import Derived.Test.YtdpbcmajmojolaaOFnExactCrossings
import Derived.Test.YtdpbcmajmojolaaCxp
namespace Go.Proofs.Ytdpbcmajmojolaa.Pure
open Go.RowKit Go.Proofs.Ytdpbcmajmojolaa.C Go.Proofs.YtdpbcmajmojolaaW.PrintWords Go.Proofs.YtdpbcmajmojolaaW.PrintLast

theorem spec_has (t : List Int) (a : Int) (ht : t.length ≤ 140737488351232) : Ev (fun k => spec_l13Has.f k t a) (t.contains a) := by
  have loop : ∀ (d i : Nat), i + d = t.length → (∀ j (hj : j < t.length), j < i → ¬ t[j] = a) → Ev (fun k => spec_l13Has.l0 k a t (t.length : Int) (i : Int)) (t.contains a) := by
    intro d
    induction d with
    | zero =>
      intro i hi hp
      refine Ev.step (fun k => rfl) (Ev.neg (by omega) (Ev.val ?_))
      symm
      rw [Bool.eq_false_iff]
      intro hc
      rw [List.contains_iff_mem] at hc
      obtain ⟨j, hj, e⟩ := List.mem_iff_getElem.1 hc
      exact hp j hj (by omega) e
    | succ d ih =>
      intro i hi hp
      have hi' : i < t.length := by omega
      refine Ev.step (fun k => rfl) (Ev.pos (by omega) (Ev.pos (by omega) (Ev.pos (by omega) ?_)))
      rw [rd_at t i hi', wr1 i (by omega)]
      by_cases e : t[i] = a
      · refine Ev.pos e (Ev.val ?_)
        symm
        rw [List.contains_iff_mem, ← e]
        exact List.getElem_mem hi'
      · refine Ev.neg e (ih (i + 1) (by omega) (fun j hj h => ?_))
        by_cases z : j = i
        · subst z; exact e
        · exact hp j hj (by omega)
  unfold spec_l13Has.f
  exact loop t.length 0 (by omega) (fun j hj h => absurd h (Nat.not_lt_zero _))
theorem spec_meets (a b : S92) (ha : a.f2.length ≤ 140737488351232) (hb : b.f2.length ≤ 140737488351232) : Ev (fun k => spec_Meets.f k a.f0 a.f1 a.f2 a.f3 a.f4 a.f5 a.f6 a.f7 a.f8 b.f0 b.f1 b.f2 b.f3 b.f4 b.f5 b.f6 b.f7 b.f8) (meetsB a.f2 b.f2) := by
  have loop : ∀ (d i : Nat), i + d = a.f2.length → (∀ j (hj : j < a.f2.length), j < i → b.f2.contains a.f2[j] = false) → Ev (fun k => spec_Meets.l0 k a.f2 (a.f2.length : Int) (i : Int) b.f0 b.f1 b.f2 b.f3 b.f4 b.f5 b.f6 b.f7 b.f8) (meetsB a.f2 b.f2) := by
    intro d
    induction d with
    | zero =>
      intro i hi hp
      refine Ev.step (fun k => rfl) (Ev.neg (by omega) (Ev.val ?_))
      symm
      unfold meetsB
      rw [List.any_eq_false]
      intro x hx
      obtain ⟨j, hj, rfl⟩ := List.mem_iff_getElem.1 hx
      rw [hp j hj (by omega)]
      exact Bool.false_ne_true
    | succ d ih =>
      intro i hi hp
      have hi' : i < a.f2.length := by omega
      refine Ev.step (fun k => rfl) (Ev.pos (by omega) (Ev.pos (by omega) (Ev.pos (by omega) ?_)))
      rw [rd_at a.f2 i hi', wr1 i (by omega)]
      refine Ev.bind (spec_has _ _ hb) ?_
      by_cases e : b.f2.contains a.f2[i] = true
      · refine Ev.pos e (Ev.val ?_)
        symm
        unfold meetsB
        rw [List.any_eq_true]
        exact ⟨_, List.getElem_mem hi', e⟩
      · refine Ev.neg e (ih (i + 1) (by omega) (fun j hj h => ?_))
        by_cases z : j = i
        · subst z; simpa using e
        · exact hp j hj (by omega)
  unfold spec_Meets.f
  exact loop a.f2.length 0 (by omega) (fun j hj h => absurd h (Nat.not_lt_zero _))

def inR (a : Int) : Prop := -9223372036854775808 ≤ a ∧ a ≤ 9223372036854775807
theorem wr_inR (a : Int) : inR (wrap64 a) := by
  unfold inR wrap64
  omega
def one (t u : S92) (a : Int) : Int := if meetsB t.f2 u.f2 = true then wrap64 (a + 1) else a
theorem one_inR (t u : S92) (a : Int) (h : inR a) : inR (one t u a) := by
  unfold one
  split
  · exact wr_inR _
  · exact h
def row (t : S92) (ys : List S92) (a : Int) : Int := ys.foldl (fun a u => one t u a) a
theorem row_inR (t : S92) : ∀ (ys : List S92) (a : Int), inR a → inR (row t ys a)
  | [], _, h => h
  | u :: ys, a, h => row_inR t ys (one t u a) (one_inR t u a h)
def all (xs : List S92) : Nat → Nat → Int → Int
  | 0, _, a => a
  | d + 1, i, a => all xs d (i + 1) (row (xs.getD i z92) (xs.take i) a)
theorem bit_one (t u : S92) (a : Int) (h : inR a) : wrap64 (a + if meetsB t.f2 u.f2 = true then 1 else 0) = one t u a := by
  unfold one
  obtain ⟨h0, h1⟩ := h
  split
  · rfl
  · rw [Int.add_zero, wr_id a h0 h1]
theorem spec_bit (b : Bool) : spec_l01Bit.f b = some (if b = true then 1 else 0) := by
  unfold spec_l01Bit.f
  split <;> rfl
theorem spec_row (t : S92) (ht : t.f2.length ≤ 140737488351232) (a0 : List S124) (a1 a2 : Int) (xs : List S92) (i : Nat) (hi : i < 9223372036854775807) (r : Int) (ys : List S92) (hl : ys.length < 9223372036854775807) (hy : ∀ u ∈ ys, u.f2.length ≤ 140737488351232) : ∀ (d j : Nat) (a : Int), j + d = ys.length → inR a → Ev (fun k => spec_Crossings.l0 k (row t (ys.drop j) a) xs (xs.length : Int) ((i + 1 : Nat) : Int) a0 a1 a2 xs) r → Ev (fun k => spec_Crossings.l1 k a xs (xs.length : Int) (i : Int) ys (ys.length : Int) (j : Int) a0 a1 a2 xs t.f0 t.f1 t.f2 t.f3 t.f4 t.f5 t.f6 t.f7 t.f8) r := by
  intro d
  induction d with
  | zero =>
    intro j a hj ha hr
    refine Ev.step (fun k => rfl) (Ev.neg (by omega) ?_)
    rw [List.drop_of_length_le (by omega)] at hr
    rw [wr1 i hi]
    exact hr
  | succ d ih =>
    intro j a hj ha hr
    have hj' : j < ys.length := by omega
    refine Ev.step (fun k => rfl) (Ev.pos (by omega) (Ev.pos (by omega) (Ev.pos (by omega) ?_)))
    rw [rdt92 ys j hj', wr1 j (by omega)]
    refine Ev.bind (spec_meets t ys[j] ht (hy _ (List.getElem_mem hj'))) (Ev.bind (Ev.is (spec_bit _)) ?_)
    rw [bit_one t ys[j] a ha]
    refine ih (j + 1) _ (by omega) (one_inR _ _ _ ha) ?_
    rw [List.drop_eq_getElem_cons hj'] at hr
    exact hr
theorem impl_row (t : S92) (a0 : List S124) (a1 a2 : Int) (xs : List S92) (i : Nat) (hi : i < 9223372036854775807) (r : Int) (ys : List S92) (hl : ys.length < 9223372036854775807) : ∀ (d j : Nat) (a : Int), j + d = ys.length → Ev (fun k => impl_Crossings.l0 k (row t (ys.drop j) a) xs (xs.length : Int) ((i + 1 : Nat) : Int) a0 a1 a2 xs) r → Ev (fun k => impl_Crossings.l1 k a xs (xs.length : Int) (i : Int) ys (ys.length : Int) (j : Int) a0 a1 a2 xs t.f0 t.f1 t.f2 t.f3 t.f4 t.f5 t.f6 t.f7 t.f8) r := by
  intro d
  induction d with
  | zero =>
    intro j a hj hr
    refine Ev.step (fun k => rfl) (Ev.neg (by omega) ?_)
    rw [List.drop_of_length_le (by omega)] at hr
    rw [wr1 i hi]
    exact hr
  | succ d ih =>
    intro j a hj hr
    have hj' : j < ys.length := by omega
    refine Ev.step (fun k => rfl) (Ev.pos (by omega) (Ev.pos (by omega) (Ev.pos (by omega) ?_)))
    rw [rdt92 ys j hj', wr1 j (by omega)]
    rw [List.drop_eq_getElem_cons hj'] at hr
    have hr' : Ev (fun k => impl_Crossings.l0 k (row t (ys.drop (j + 1)) (one t ys[j] a)) xs (xs.length : Int) ((i + 1 : Nat) : Int) a0 a1 a2 xs) r := hr
    refine Ev.bind (Ev.is rfl) ?_
    by_cases m : meetsB t.f2 ys[j].f2 = true
    · refine Ev.pos m (ih (j + 1) _ (by omega) ?_)
      unfold one at hr'
      rw [if_pos m] at hr'
      exact hr'
    · refine Ev.neg m (ih (j + 1) _ (by omega) ?_)
      unfold one at hr'
      rw [if_neg m] at hr'
      exact hr'
theorem getD_z (xs : List S92) (i : Nat) (h : i < xs.length) : xs.getD i z92 = xs[i] := by
  rw [List.getD_eq_getElem?_getD, List.getElem?_eq_getElem h]
  rfl
theorem spec_cross (a0 : List S124) (a1 a2 : Int) (xs : List S92) (hl : xs.length < 9223372036854775807) (hx : ∀ u ∈ xs, u.f2.length ≤ 140737488351232) : Ev (fun k => spec_Crossings.f k a0 a1 a2 xs) (all xs xs.length 0 0) := by
  have loop : ∀ (d i : Nat) (a : Int), i + d = xs.length → inR a → Ev (fun k => spec_Crossings.l0 k a xs (xs.length : Int) (i : Int) a0 a1 a2 xs) (all xs d i a) := by
    intro d
    induction d with
    | zero => intro i a hi ha; exact Ev.step (fun k => rfl) (Ev.neg (by omega) (Ev.now _))
    | succ d ih =>
      intro i a hi ha
      have hi' : i < xs.length := by omega
      refine Ev.step (fun k => rfl) (Ev.pos (by omega) (Ev.pos (by omega) (Ev.pos (by omega) (Ev.pos (by omega) (Ev.bind (Ev.is rfl) ?_)))))
      rw [rdt92 xs i hi', Int.toNat_natCast]
      unfold all
      rw [getD_z xs i hi']
      exact spec_row xs[i] (hx _ (List.getElem_mem hi')) a0 a1 a2 xs i (by omega) _ (xs.take i) (by rw [List.length_take]; omega) (fun u hu => hx u (List.mem_of_mem_take hu)) (xs.take i).length 0 a (by omega) ha (ih (i + 1) _ (by omega) (row_inR _ _ _ ha))
  exact loop xs.length 0 0 (by omega) ⟨by omega, by omega⟩
theorem impl_cross (a0 : List S124) (a1 a2 : Int) (xs : List S92) (hl : xs.length < 9223372036854775807) : Ev (fun k => impl_Crossings.f k a0 a1 a2 xs) (all xs xs.length 0 0) := by
  have loop : ∀ (d i : Nat) (a : Int), i + d = xs.length → Ev (fun k => impl_Crossings.l0 k a xs (xs.length : Int) (i : Int) a0 a1 a2 xs) (all xs d i a) := by
    intro d
    induction d with
    | zero => intro i a hi; exact Ev.step (fun k => rfl) (Ev.neg (by omega) (Ev.now _))
    | succ d ih =>
      intro i a hi
      have hi' : i < xs.length := by omega
      refine Ev.step (fun k => rfl) (Ev.pos (by omega) (Ev.pos (by omega) (Ev.pos (by omega) (Ev.pos (by omega) (Ev.bind (Ev.is rfl) ?_)))))
      rw [rdt92 xs i hi', Int.toNat_natCast]
      unfold all
      rw [getD_z xs i hi']
      exact impl_row xs[i] a0 a1 a2 xs i (by omega) _ (xs.take i) (by rw [List.length_take]; omega) (xs.take i).length 0 a (by omega) (ih (i + 1) _ (by omega))
  exact loop xs.length 0 0 (by omega)

theorem FnExactCrossings : laws_FnExactCrossings.Pure := by
  intro x hB
  have hZ := z_of_b25 _ hB
  have hZ' := z_cv25 _ hZ
  obtain ⟨t, ht⟩ := szWorld x 1048576 hZ
  have hto := toWorld x hZ
  refine Ev.rounds (r := true) ?_
  unfold laws_FnExactCrossings.f
  refine Ev.bind ht (Ev.ite (fun _ => Ev.now _) fun _ => ?_)
  have hlen : (cv25 x).f3.length < 9223372036854775807 := by have := hZ'.2.2.2.1; omega
  have hel : ∀ u ∈ (cv25 x).f3, u.f2.length ≤ 140737488351232 := fun u hu => by have := (hZ'.2.2.2.2 u hu).2.2.1.1; omega
  refine Ev.bind hto (Ev.bind (spec_cross _ _ _ (cv25 x).f3 hlen hel) (Ev.bind hto (Ev.bind (impl_cross _ _ _ (cv25 x).f3 hlen) (Ev.pos rfl ?_))))
  exact Ev.bind hto (Ev.bind (eqWorld _ hZ') (Ev.pos rfl (Ev.now _)))
end Go.Proofs.Ytdpbcmajmojolaa.Pure
