/- Laws of the plain functions. No condition. -/
import Derived.Test.YtaaiikopnadkeaaPA
import Derived.Laws.StructEq
namespace Go.Proofs.YtaaiikopnadkeaaM
set_option linter.unusedVariables false
set_option linter.unusedSimpArgs false
set_option maxRecDepth 100000
/-! texts of digits, identifiers -/
theorem spec_Digits_l0_tot (s : ByteArray) (hs : s.size ≤ 4000000) : ∀ (n : Nat) (v : Int), 0 ≤ v → v ≤ s.size → (s.size : Int) - v < n →
    ∃ y, spec_Digits_l0 s n v = some y ∧ impl_Digits_l0 s n v = some y ∧ ∀ u, y = .out u → ∀ i : Int, v ≤ i → i < s.size → 48 ≤ sAt s i ∧ sAt s i ≤ 57
  | 0, v, h0, hv, hn => by exfalso; omega
  | n + 1, v, h0, hv, hn => by
    unfold spec_Digits_l0 impl_Digits_l0
    by_cases h1 : v < (s.size : Int)
    · by_cases h2 : sAt s v < 48
      · exact ⟨.ret (), by simp [h1, h0, h2], by simp [h1, h0, h2], fun u e => by cases e⟩
      · by_cases h3 : 57 < sAt s v
        · exact ⟨.ret (), by simp [h1, h0, h2, h3], by simp [h1, h0, h2, h3], fun u e => by cases e⟩
        · have hi : i64 (v + 1) = v + 1 := i64_nn (by omega) (by omega)
          obtain ⟨y, e1, e2, e3⟩ := spec_Digits_l0_tot s hs n (v + 1) (by omega) (by omega) (by omega)
          refine ⟨y, by simp [h1, h0, h2, h3, hi, e1], by simp [h1, h0, h2, h3, hi, e2], fun u e i hv hi' => ?_⟩
          by_cases hiv : i = v
          · subst hiv; omega
          · exact e3 u e i (by omega) hi'
    · exact ⟨.out (), by simp [h1], by simp [h1], fun u _ i hv hi => by omega⟩
theorem beq_empty (s : ByteArray) : (s == bs []) = decide (s.size = 0) := by
  rw [beqB]
  by_cases h : s.size = 0
  · have : s = bs [] := by
      rcases s with ⟨d⟩
      have hd : d.size = 0 := h
      have : d = #[] := Array.eq_empty_of_size_eq_zero hd
      subst this; rfl
    rw [decide_eq_true h, decide_eq_true this]
  · rw [decide_eq_false h, decide_eq_false (fun e => h (by rw [e]; rfl))]
theorem Digits_tot (s : ByteArray) (hs : s.size ≤ 4000000) : ∃ b, spec_Digits s = some b ∧ impl_Digits s = some b ∧ (b = true → 0 < s.size ∧ ∀ i : Int, 0 ≤ i → i < s.size → 48 ≤ sAt s i ∧ sAt s i ≤ 57) := by
  obtain ⟨y, e1, e2, e3⟩ := spec_Digits_l0_tot s hs FUEL 0 (by omega) (by omega) (by unfold FUEL; omega)
  unfold spec_Digits impl_Digits
  rw [e1, e2]
  cases y with
  | ret u => exact ⟨false, rfl, rfl, fun h => by cases h⟩
  | out u =>
    refine ⟨decide (0 < (s.size : Int)), rfl, ?_, fun h => ⟨by have := of_decide_eq_true h; omega, fun i h0 hi => e3 u rfl i h0 hi⟩⟩
    simp only [Option.bind_some, Lo.elim, beq_empty]
    congr 1
    by_cases h : s.size = 0
    · simp [h]
    · rw [decide_eq_false h, decide_eq_true (show (0 : Int) < s.size by omega)]; rfl
theorem Luhn_l0_tot (s : ByteArray) (hs : s.size ≤ 4000000) (hd : ∀ i : Int, 0 ≤ i → i < s.size → 48 ≤ sAt s i ∧ sAt s i ≤ 57) : ∀ (n : Nat) (v w : Int) (b : Bool) (k : Int), k + 1 < n → -1 ≤ k → k < s.size → 0 ≤ v → v + 9 * (k + 1) ≤ 100000000 → w = v % 10 →
    ∃ y, impl_Luhn_l0 s n v b k = some y ∧ spec_Luhn_l0 s n w b k = some (y % 10) ∧ 0 ≤ y ∧ y ≤ 100000000
  | 0, v, w, b, k, hn, hk, hks, hv, hb, hw => by
    exfalso; omega
  | n + 1, v, w, b, k, hn, hk, hks, hv, hb, hw => by
    unfold impl_Luhn_l0 spec_Luhn_l0
    by_cases h0 : 0 ≤ k
    · obtain ⟨d1, d2⟩ := hd k h0 hks
      have hk1 : i64 (k - 1) = k - 1 := i64_of (by omega) (by omega)
      have hu : u8 (sAt s k - 48) = sAt s k - 48 := u8_of (by omega) (by omega)
      have hi : i64 (sAt s k - 48) = sAt s k - 48 := i64_of (by omega) (by omega)
      have hi2 : i64 (sAt s k) = sAt s k := i64_of (by omega) (by omega)
      have hi3 : i64 ((sAt s k - 48) * 2) = (sAt s k - 48) * 2 := i64_of (by omega) (by omega)
      have hi4 : i64 (2 * (sAt s k - 48)) = (sAt s k - 48) * 2 := by rw [Int.mul_comm]; exact hi3
      have hd0 : 0 ≤ sAt s k - 48 ∧ sAt s k - 48 ≤ 9 := by omega
      simp only [hk1, hu, hi2, hi, hi3, hi4]
      generalize sAt s k - 48 = d at *
      obtain ⟨g0, g9⟩ := hd0
      have hm : ∀ x, 0 ≤ x → x ≤ 9 → i64 (v + x) = v + x ∧ i64 (w + x) = w + x ∧ Int.tmod (w + x) 10 = (v + x) % 10 := fun x hx hx9 => by
        refine ⟨i64_of (by omega) (by omega), i64_of (by omega) (by omega), ?_⟩
        rw [tmod10 (by omega)]; omega
      by_cases hb' : b = true
      · by_cases h9 : 9 < d * 2
        · have h9' : i64 (d * 2 - 9) = d * 2 - 9 := i64_of (by omega) (by omega)
          obtain ⟨m1, m2, m3⟩ := hm (d * 2 - 9) (by omega) (by omega)
          obtain ⟨y, e1, e2, e3⟩ := Luhn_l0_tot s hs hd n (v + (d * 2 - 9)) ((v + (d * 2 - 9)) % 10) (!b) (k - 1) (by omega) (by omega) (by omega) (by omega) (by omega) rfl
          exact ⟨y, by simp only [h0, hks, hb', h9, h9', m1, m2, m3, decide_true, if_true]; rw [hb'] at e1; exact e1, by simp only [h0, hks, hb', h9, h9', m1, m2, m3, decide_true, if_true]; rw [hb'] at e2; exact e2, e3⟩
        · obtain ⟨m1, m2, m3⟩ := hm (d * 2) (by omega) (by omega)
          obtain ⟨y, e1, e2, e3⟩ := Luhn_l0_tot s hs hd n (v + d * 2) ((v + d * 2) % 10) (!b) (k - 1) (by omega) (by omega) (by omega) (by omega) (by omega) rfl
          exact ⟨y, by simp only [h0, hks, hb', h9, m1, m2, m3, decide_true, decide_false, if_true, Bool.false_eq_true, if_false]; rw [hb'] at e1; exact e1, by simp only [h0, hks, hb', h9, m1, m2, m3, decide_true, decide_false, if_true, Bool.false_eq_true, if_false]; rw [hb'] at e2; exact e2, e3⟩
      · have hbf : b = false := by simpa using hb'
        obtain ⟨m1, m2, m3⟩ := hm d (by omega) (by omega)
        obtain ⟨y, e1, e2, e3⟩ := Luhn_l0_tot s hs hd n (v + d) ((v + d) % 10) (!b) (k - 1) (by omega) (by omega) (by omega) (by omega) (by omega) rfl
        exact ⟨y, by simp only [h0, hks, hbf, m1, m2, m3, decide_true, if_true, Bool.false_eq_true, if_false]; rw [hbf] at e1; exact e1, by simp only [h0, hks, hbf, m1, m2, m3, decide_true, if_true, Bool.false_eq_true, if_false]; rw [hbf] at e2; exact e2, e3⟩
    · exact ⟨v, by simp [h0], by simp [h0, hw], hv, by omega⟩
theorem Luhn_tot (s : ByteArray) (hs : s.size ≤ 4000000) : ∃ y, spec_Luhn s = some y ∧ impl_Luhn s = some y := by
  obtain ⟨b, e1, e2, e3⟩ := Digits_tot s hs
  unfold spec_Luhn impl_Luhn
  rw [e1, e2]
  cases b with
  | false => exact ⟨-1, rfl, rfl⟩
  | true =>
    obtain ⟨hp, hd⟩ := e3 rfl
    have hi : i64 ((s.size : Int) - 1) = (s.size : Int) - 1 := i64_of (by omega) (by omega)
    obtain ⟨y, q1, q2, q3, q4⟩ := Luhn_l0_tot s hs hd FUEL 0 0 true ((s.size : Int) - 1) (by unfold FUEL; omega) (by omega) (by omega) (by omega) (by omega) rfl
    refine ⟨Int.tmod (i64 (10 - y % 10)) 10, ?_, ?_⟩
    · simp only [Option.bind_some, if_true, hi, q2]
    · simp only [Option.bind_some, if_true, hi, q1, tmod10 q3]
theorem LuhnOk_eq (s : ByteArray) (hs : s.size ≤ 4000000) : ∃ y, spec_LuhnOk s = some y ∧ impl_LuhnOk s = some y := by
  obtain ⟨b, e1, e2, e3⟩ := Digits_tot s hs
  unfold spec_LuhnOk impl_LuhnOk
  have hi : i64 ((s.size : Int) - 1) = (s.size : Int) - 1 := i64_of (by omega) (by omega)
  rw [e1, e2, hi]
  by_cases h2 : (s.size : Int) < 2
  · have h1 : ¬ 1 ≤ (s.size : Int) - 1 := by omega
    refine ⟨false, ?_, by simp [h1]⟩
    cases b <;> simp [h2]
  · have h1 : 1 ≤ (s.size : Int) - 1 := by omega
    cases b with
    | false => exact ⟨false, by simp, by simp [h1]⟩
    | true =>
      obtain ⟨hp, hd⟩ := e3 rfl
      obtain ⟨d1, d2⟩ := hd ((s.size : Int) - 1) (by omega) (by omega)
      obtain ⟨y, q1, q2⟩ := Luhn_tot (s.extract 0 ((s.size : Int) - 1).toNat) (by simp; omega)
      have c1 : (0 : Int) ≤ (s.size : Int) - 1 := by omega
      have c2 : (s.size : Int) - 1 ≤ s.size := by omega
      have c3 : (s.size : Int) - 1 < s.size := by omega
      have hu : u8 (sAt s ((s.size : Int) - 1) - 48) = sAt s ((s.size : Int) - 1) - 48 := u8_of (by omega) (by omega)
      have hi2 : i64 (sAt s ((s.size : Int) - 1)) = sAt s ((s.size : Int) - 1) := i64_of (by omega) (by omega)
      refine ⟨y == i64 (sAt s ((s.size : Int) - 1) - 48), ?_, ?_⟩
      · simp only [Option.bind_some, if_true, h2, decide_false, Bool.false_eq_true, if_false, c1, c2, c3, decide_true, q1, hi2]
      · simp only [Option.bind_some, if_true, h1, c1, c2, c3, decide_true, q2, hu]
theorem AcctIdOk_eq (s : ByteArray) : ∃ y, spec_AcctIdOk s = some y ∧ impl_AcctIdOk s = some y ∧ (y = true → s.size ≤ 19) := by
  unfold spec_AcctIdOk impl_AcctIdOk
  by_cases h : (s.size : Int) ≤ 19
  · obtain ⟨y, e1, e2⟩ := LuhnOk_eq s (by omega)
    exact ⟨y, by simp [h, e1], by simp [h, e2], fun _ => by omega⟩
  · exact ⟨false, by simp [h], by simp [h], fun e => by cases e⟩
theorem HoldIdOk_l0_eq : ∀ (s : ByteArray) (n : Nat) (v : Int), impl_HoldIdOk_l0 s n v = spec_HoldIdOk_l0 s n v
  | s, 0, v => rfl
  | s, n + 1, v => by unfold impl_HoldIdOk_l0 spec_HoldIdOk_l0; simp only [HoldIdOk_l0_eq s n]
theorem HoldIdOk_l0_tot (s : ByteArray) (hs : s.size ≤ 4000000) : ∀ (n : Nat) (v : Int), 0 ≤ v → v ≤ s.size → (s.size : Int) - v < n → ∃ y, spec_HoldIdOk_l0 s n v = some y
  | 0, v, h0, hv, hn => by exfalso; omega
  | n + 1, v, h0, hv, hn => by
    unfold spec_HoldIdOk_l0
    by_cases h1 : v < (s.size : Int)
    · have hi : i64 (v + 1) = v + 1 := i64_nn (by omega) (by omega)
      obtain ⟨y, e⟩ := HoldIdOk_l0_tot s hs n (v + 1) (by omega) (by omega) (by omega)
      simp only [h1, h0, decide_true, if_true, hi, e]
      repeat' split
      all_goals exact ⟨_, rfl⟩
    · exact ⟨.out (), by simp [h1]⟩
end Go.Proofs.YtaaiikopnadkeaaM
