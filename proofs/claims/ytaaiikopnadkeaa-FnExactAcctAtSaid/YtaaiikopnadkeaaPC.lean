/- Laws of the plain functions. No condition. -/
import Derived.Test.YtaaiikopnadkeaaPB
import Derived.Laws.StructEq
namespace Go.Proofs.YtaaiikopnadkeaaM
set_option linter.unusedVariables false
set_option linter.unusedSimpArgs false
set_option maxRecDepth 100000
/-! bounds, holds -/
theorem bytesLess_flip : ∀ a b : List UInt8, Op.bytesLess b a = !(Op.bytesLess a b || a == b)
  | [], [] => rfl
  | [], _ :: _ => rfl
  | _ :: _, [] => rfl
  | a :: x, b :: y => by
    have ih := bytesLess_flip x y
    unfold Op.bytesLess
    rw [ih]
    by_cases h1 : a < b
    · have h2 : ¬ b < a := by have := UInt8.lt_iff_toNat_lt.1 h1; intro h; have := UInt8.lt_iff_toNat_lt.1 h; omega
      have h3 : ¬ b = a := by intro e; subst e; exact h2 h1
      simp [h1, h2, h3]
    · by_cases h2 : b < a
      · have h3 : ¬ a = b := by intro e; subst e; exact h1 h2
        have h4 : ¬ b = a := fun e => h3 e.symm
        simp [h1, h2, h3]
      · have h3 : a = b := by
          apply UInt8.toNat_inj.1
          have := mt UInt8.lt_iff_toNat_lt.2 h1
          have := mt UInt8.lt_iff_toNat_lt.2 h2
          omega
        subst h3
        simp [h1]
theorem less_flip (a b : ByteArray) : Op.bytesLess b.toList a.toList = !(Op.bytesLess a.toList b.toList || (a == b)) := by
  rw [beq_toListBytes]; exact bytesLess_flip _ _
theorem l01In_val (n lo hi : Int) : spec_l01In n lo hi = some (decide (lo ≤ n) && decide (n ≤ hi)) := by
  unfold spec_l01In
  by_cases h : lo ≤ n <;> simp [h]
theorem within_val (n lo hi : Int) : impl_within n lo hi = some (decide (lo ≤ n) && decide (n ≤ hi)) := l01In_val n lo hi
def time (n : Int) : Bool := decide (0 ≤ n) && decide (n ≤ 1000000000)
def money (n : Int) : Bool := decide (0 ≤ n) && decide (n ≤ 4611686018427387904)
theorem l06Time_val (n : Int) : spec_l06Time n = some (time n) := by unfold spec_l06Time; rw [l01In_val]; rfl
theorem isTime_val (n : Int) : impl_isTime n = some (time n) := by unfold impl_isTime; rw [within_val]; rfl
theorem l01Money_val (n : Int) : spec_l01Money n = some (money n) := by
  unfold spec_l01Money money
  by_cases h : 0 ≤ n <;> simp [h]
theorem isMoney_val (n : Int) : impl_isMoney n = some (money n) := by unfold impl_isMoney; rw [within_val]; rfl
theorem HoldIdOk_tot (s : ByteArray) (hs : s.size ≤ 4000000) : ∃ y, spec_HoldIdOk s = some y ∧ impl_HoldIdOk s = some y ∧ (y = true → s.size ≤ 6) := by
  obtain ⟨y, e⟩ := HoldIdOk_l0_tot s hs FUEL 0 (by omega) (by omega) (by unfold FUEL; omega)
  unfold spec_HoldIdOk impl_HoldIdOk
  rw [HoldIdOk_l0_eq, e]
  cases y with
  | ret u => exact ⟨false, rfl, rfl, fun h => by cases h⟩
  | out u =>
    refine ⟨decide ((1 : Int) ≤ s.size) && decide ((s.size : Int) ≤ 6), ?_, ?_, fun h => ?_⟩
    · simp only [Option.bind_some, Lo.elim, l01In_val]
    · simp only [Option.bind_some, Lo.elim, within_val]
    · simp only [Bool.and_eq_true, decide_eq_true_eq] at h; omega
theorem HoldOk_tot (h : Hold) (hs : h.Id.size ≤ 4000000) : ∃ y, spec_HoldOk h = some y ∧ impl_HoldOk h = some y ∧ (y = true → h.Id.size ≤ 6 ∧ 1 ≤ h.Amount ∧ h.Amount ≤ 9007199254740992 ∧ time h.Due = true) := by
  obtain ⟨y, e1, e2, e3⟩ := HoldIdOk_tot h.Id hs
  unfold spec_HoldOk impl_HoldOk
  rw [e1, e2]
  cases y with
  | false => exact ⟨false, rfl, rfl, fun e => by cases e⟩
  | true =>
    simp only [Option.bind_some, if_true, l01In_val, within_val, l06Time_val, isTime_val]
    by_cases ha : (decide (1 ≤ h.Amount) && decide (h.Amount ≤ 9007199254740992)) = true
    · rw [ha]
      refine ⟨time h.Due, rfl, rfl, fun ht => ⟨e3 rfl, ?_⟩⟩
      simp only [Bool.and_eq_true, decide_eq_true_eq] at ha
      exact ⟨ha.1, ha.2, ht⟩
    · have : (decide (1 ≤ h.Amount) && decide (h.Amount ≤ 9007199254740992)) = false := by simpa using ha
      rw [this]
      exact ⟨false, rfl, rfl, fun e => by cases e⟩
theorem HoldsOk_l0_tot (l : List Hold) (hl : l.length ≤ 274877906944) : ∀ (t p : List Hold), l = p ++ t → (∀ h ∈ t, h.Id.size ≤ 4000000) →
    ∃ y, spec_HoldsOk_l0 l t p = some y ∧ impl_HoldsOk_l0 l t p = some y ∧ ∀ u, y = .out u → ∀ h ∈ t, h.Id.size ≤ 6 ∧ 1 ≤ h.Amount ∧ h.Amount ≤ 9007199254740992 ∧ time h.Due = true
  | [], p, e, hs => ⟨.out (), rfl, rfl, fun _ _ h hh => by simp at hh⟩
  | x :: t, p, e, hs => by
    obtain ⟨y, e1, e2, e3⟩ := HoldOk_tot x (hs x (by simp))
    obtain ⟨z, f1, f2, f3⟩ := HoldsOk_l0_tot l hl t (p ++ [x]) (by rw [e]; simp) (fun h hh => hs h (by simp [hh]))
    unfold spec_HoldsOk_l0 impl_HoldsOk_l0
    rw [e1, e2]
    have f3' : y = true → ∀ u, z = .out u → ∀ h ∈ x :: t, h.Id.size ≤ 6 ∧ 1 ≤ h.Amount ∧ h.Amount ≤ 9007199254740992 ∧ time h.Due = true := fun hy u hz h hh => by
      rcases List.mem_cons.1 hh with rfl | hh
      · exact e3 hy
      · exact f3 u hz h hh
    cases y with
    | false => exact ⟨.ret (), rfl, rfl, fun u e => by cases e⟩
    | true =>
      simp only [Option.bind_some, if_true]
      by_cases hp : (0 : Int) < (p.length : Int)
      · have hpl : p.length ≤ l.length := by rw [e]; simp
        have hi : i64 ((p.length : Int) - 1) = (p.length : Int) - 1 := i64_of (by omega) (by omega)
        have hn : ((p.length : Int) - 1).toNat < l.length := by rw [e]; simp; omega
        have hg : l[((p.length : Int) - 1).toNat]? = some l[((p.length : Int) - 1).toNat] := List.getElem?_eq_getElem hn
        have h1 : (0 : Int) ≤ (p.length : Int) - 1 := by omega
        simp only [hp, hi, h1, decide_true, if_true, hg, Option.bind_some, less_flip x.Id]
        by_cases hb : (Op.bytesLess x.Id.toList l[((p.length : Int) - 1).toNat].Id.toList || x.Id == l[((p.length : Int) - 1).toNat].Id) = true
        · rw [hb]
          exact ⟨.ret (), by simp, by simp, fun u e => by cases e⟩
        · have hb' : (Op.bytesLess x.Id.toList l[((p.length : Int) - 1).toNat].Id.toList || x.Id == l[((p.length : Int) - 1).toNat].Id) = false := by simpa using hb
          rw [hb']
          exact ⟨z, by simpa using f1, by simpa using f2, f3' rfl⟩
      · simp only [hp, decide_false, Bool.false_eq_true, if_false]
        exact ⟨z, f1, f2, f3' rfl⟩
theorem HoldsOk_tot (l : List Hold) (hl : l.length ≤ 274877906944) (hs : ∀ h ∈ l, h.Id.size ≤ 4000000) : ∃ y, spec_HoldsOk l = some y ∧ impl_HoldsOk l = some y ∧ (y = true → l.length ≤ 4 ∧ ∀ h ∈ l, h.Id.size ≤ 6 ∧ 1 ≤ h.Amount ∧ h.Amount ≤ 9007199254740992 ∧ time h.Due = true) := by
  obtain ⟨y, e1, e2, e3⟩ := HoldsOk_l0_tot l hl l [] rfl hs
  unfold spec_HoldsOk impl_HoldsOk
  rw [capOk_of hl, e1, e2]
  cases y with
  | ret u => exact ⟨false, rfl, rfl, fun e => by cases e⟩
  | out u => exact ⟨decide ((l.length : Int) ≤ 4), rfl, rfl, fun h => ⟨by have := of_decide_eq_true h; omega, e3 u rfl⟩⟩
/-! rings -/
theorem Concat_val (a b : List Int) (ha : a.length ≤ 100000000000) (hb : b.length ≤ 100000000000) : slices_Concat_int [a, b] = some (a ++ b) := by
  have h1 : i64 (0 + (a.length : Int)) = (a.length : Int) := by rw [Int.zero_add]; exact i64_of (by omega) (by omega)
  have h2 : i64 ((a.length : Int) + (b.length : Int)) = (a.length : Int) + (b.length : Int) := i64_of (by omega) (by omega)
  have n1 : ¬ (a.length : Int) < 0 := by omega
  have n2 : ¬ (a.length : Int) + (b.length : Int) < 0 := by omega
  have hg : slices_Grow_int_nil ((a.length : Int) + (b.length : Int)) = some [] := by
    unfold slices_Grow_int_nil
    have h3 : i64 ((a.length : Int) + (b.length : Int) - 0) = (a.length : Int) + (b.length : Int) := by rw [Int.sub_zero]; exact h2
    rw [h3]
    have hc : capOk ((a.length : Int) + (b.length : Int)).toNat = true := capOk_of (by omega)
    rw [hc]
    simp [n2]
  unfold slices_Concat_int
  have c0 : capOk [a, b].length = true := rfl
  have cA : capOk (([] : List Int).length + a.length) = true := capOk_of (by simp; omega)
  have cB : capOk ((([] : List Int) ++ a).length + b.length) = true := capOk_of (by simp; omega)
  simp only [c0, if_true, slices_Concat_int_l0, h1, h2, n1, n2, decide_false, Bool.false_eq_true, if_false, Option.bind_some, hg, slices_Concat_int_l1, cA, cB]
  simp
theorem impl_RingOk_l0_val (r : Ring) (c : List Int) : ∀ t : List Int, impl_RingOk_l0 r c t = some (if t.all money = true then .out () else .ret ())
  | [] => rfl
  | x :: t => by
    unfold impl_RingOk_l0
    rw [isMoney_val, impl_RingOk_l0_val r c t]
    cases h : money x <;> simp [h]
theorem spec_RingOk_l0_val (r : Ring) : ∀ (t p : List Int), r.Counts = p ++ t → r.Sums.length = r.Counts.length → spec_RingOk_l0 r t p = some (if (t.all money && (r.Sums.drop p.length).all money) = true then .out () else .ret ())
  | [], p, e, hl => by
    have : r.Sums.drop p.length = [] := List.drop_eq_nil_of_le (by rw [hl, e]; simp)
    rw [this]; rfl
  | x :: t, p, e, hl => by
    have hlt : p.length < r.Sums.length := by rw [hl, e]; simp
    have hd : r.Sums.drop p.length = r.Sums[p.length] :: r.Sums.drop (p.length + 1) := List.drop_eq_getElem_cons hlt
    have ih := spec_RingOk_l0_val r t (p ++ [x]) (by rw [e]; simp) hl
    unfold spec_RingOk_l0
    rw [l01Money_val]
    have hg : r.Sums[((p.length : Int)).toNat]? = some r.Sums[p.length] := by simp [hlt]
    rw [hg, hd, ih]
    simp only [Option.bind_some, l01Money_val, List.length_append, List.length_cons, List.length_nil, Nat.zero_add, List.all_cons]
    by_cases h : money x = true <;> by_cases h2 : money r.Sums[p.length] = true <;> simp [h, h2]
theorem RingOk_tot (r : Ring) (hc : r.Counts.length ≤ 100000000000) (hs : r.Sums.length ≤ 100000000000) : ∃ y, spec_RingOk r = some y ∧ impl_RingOk r = some y ∧ (y = true → r.Sums.length = r.Counts.length ∧ r.Counts.length ≤ 8 ∧ 1 ≤ r.Counts.length ∧ 1 ≤ r.Span ∧ r.Span ≤ 1000 ∧ time r.Head = true ∧ r.Counts.all money = true ∧ r.Sums.all money = true) := by
  unfold spec_RingOk impl_RingOk
  rw [Concat_val _ _ hc hs]
  have cc : capOk (r.Counts ++ r.Sums).length = true := capOk_of (by simp; omega)
  have cd : capOk r.Counts.length = true := capOk_of (by omega)
  simp only [Option.bind_some, cc, cd, if_true, impl_RingOk_l0_val, l01In_val, within_val, l06Time_val, isTime_val]
  by_cases h1 : (decide (1 ≤ r.Span) && decide (r.Span ≤ 1000)) = true
  · by_cases h2 : (decide ((1 : Int) ≤ r.Counts.length) && decide ((r.Counts.length : Int) ≤ 8)) = true
    · by_cases h3 : r.Sums.length = r.Counts.length
      · have h3' : ((r.Sums.length : Int) == (r.Counts.length : Int)) = true := by rw [h3]; simp
        have h3'' : ((r.Sums.length : Int) != (r.Counts.length : Int)) = false := by rw [h3]; simp
        rw [spec_RingOk_l0_val r r.Counts [] rfl h3]
        simp only [h1, h2, h3', h3'', if_true, Bool.false_eq_true, if_false, List.all_append, List.length_nil, List.drop_zero, Option.bind_some]
        refine ⟨(r.Counts.all money && r.Sums.all money) && time r.Head, ?_, ?_, fun h => ?_⟩
        · cases time r.Head <;> cases (r.Counts.all money && r.Sums.all money) <;> simp [Lo.elim]
        · cases time r.Head <;> cases (r.Counts.all money && r.Sums.all money) <;> simp [Lo.elim]
        · simp only [Bool.and_eq_true, decide_eq_true_eq] at h h1 h2
          exact ⟨h3, by omega, by omega, h1.1, h1.2, h.2, h.1.1, h.1.2⟩
      · have h3' : ((r.Sums.length : Int) == (r.Counts.length : Int)) = false := by
          rw [beq_eq_false_iff_ne]; omega
        have h3'' : ((r.Sums.length : Int) != (r.Counts.length : Int)) = true := by
          rw [bne_iff_ne]; omega
        refine ⟨false, by simp only [h1, h2, h3'', if_true], ?_, fun e => by cases e⟩
        simp only [h1, h2, h3', if_true, Bool.false_eq_true, if_false]
        cases (r.Counts ++ r.Sums).all money <;> rfl
    · have h2' : (decide ((1 : Int) ≤ r.Counts.length) && decide ((r.Counts.length : Int) ≤ 8)) = false := by simpa using h2
      refine ⟨false, by simp only [h1, h2', if_true, Bool.false_eq_true, if_false], ?_, fun e => by cases e⟩
      simp only [h1, h2', if_true, Bool.false_eq_true, if_false]
      cases (r.Counts ++ r.Sums).all money <;> rfl
  · have h1' : (decide (1 ≤ r.Span) && decide (r.Span ≤ 1000)) = false := by simpa using h1
    refine ⟨false, by simp only [h1', Bool.false_eq_true, if_false], ?_, fun e => by cases e⟩
    simp only [h1', Bool.false_eq_true, if_false]
    cases (r.Counts ++ r.Sums).all money <;> rfl
end Go.Proofs.YtaaiikopnadkeaaM
