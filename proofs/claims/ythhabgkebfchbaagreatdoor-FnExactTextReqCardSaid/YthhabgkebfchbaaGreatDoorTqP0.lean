/- Laws of the plain functions. No condition. -/
import Derived.Test.YthhabgkebfchbaaGreatDoorTqOp
import Derived.Laws.StructEq
namespace Go.Proofs.YthhabgkebfchbaaGreatDoorM
set_option linter.unusedVariables false
set_option linter.unusedSimpArgs false
set_option maxRecDepth 100000
theorem i64_of {x : Int} (h : -9223372036854775808 ≤ x) (h2 : x ≤ 9223372036854775807) : i64 x = x := by unfold i64; rw [IntKind.wrap_i64]; omega
theorem i64_nn {x : Int} (h : 0 ≤ x) (h2 : x ≤ 9223372036854775807) : i64 x = x := i64_of (by omega) h2
theorem u8_of {x : Int} (h : 0 ≤ x) (h2 : x ≤ 255) : u8 x = x := by unfold u8 IntKind.wrap; simp [IntKind.bits, IntKind.signed]; omega
theorem capOk_of {n : Nat} (h : n ≤ 274877906944) : capOk n = true := decide_eq_true h
theorem beqB (a b : ByteArray) : (a == b) = decide (a = b) := by
  rcases a with ⟨a⟩
  rcases b with ⟨b⟩
  have h1 : ((⟨a⟩ : ByteArray) == ⟨b⟩) = (a == b) := rfl
  rw [h1]
  by_cases h : a = b
  · subst h; simp
  · have h2 : ¬ ((⟨a⟩ : ByteArray) = ⟨b⟩) := fun e => h (by cases e; rfl)
    rw [decide_eq_false h2]
    simpa using h
theorem tmod10 {x : Int} (h : 0 ≤ x) : Int.tmod x 10 = x % 10 := Int.tmod_eq_emod_of_nonneg h
theorem beq_rfl (s : ByteArray) : (s == s) = true := by rw [beqB]; simp
theorem bne_rfl (n : Int) : (n != n) = false := by simp
theorem bstr_one (n : Int) : (bstr [n]).size = 1 := rfl
theorem size_app (a b : ByteArray) : (a ++ b).size = a.size + b.size := ByteArray.size_append
/-- The weight of a list: its length, and its elements' weights. -/
def wtL {α : Type} (f : α → Nat) : List α → Nat
  | [] => 0
  | x :: t => 1 + f x + wtL f t
def wtS {α : Type} (f : α → Nat) : List α → Nat
  | [] => 0
  | x :: t => f x + wtS f t
theorem wtL_eq {α : Type} (f : α → Nat) : ∀ l : List α, wtL f l = l.length + wtS f l
  | [] => rfl
  | x :: t => by simp only [wtL, wtS, List.length_cons]; rw [wtL_eq f t]; omega
theorem wtL_len {α : Type} (f : α → Nat) (l : List α) : l.length ≤ wtL f l := by rw [wtL_eq]; omega
theorem wtL_app {α : Type} (f : α → Nat) : ∀ (l l2 : List α), wtL f (l ++ l2) = wtL f l + wtL f l2
  | [], l2 => by simp [wtL]
  | x :: t, l2 => by simp only [List.cons_append, wtL]; rw [wtL_app f t l2]; omega
def wtReq (a : Req) : Nat := a.Acct.size + a.Other.size + a.Hold.size + a.Trace.size + a.Mti.size
theorem wtReq_eq (a : Req) : wtReq a = a.Acct.size + a.Other.size + a.Hold.size + a.Trace.size + a.Mti.size := rfl
theorem eqReq_rfl (a : Req) (h : wtReq a ≤ 4000000) : laws_eqReq a a = some true := by
  rw [wtReq_eq] at h
  unfold laws_eqReq
  simp only [beq_rfl, bne_rfl, Bool.false_eq_true, if_false, if_true, Option.bind_some]
theorem tf (b : Bool) : b = true ∨ b = false := by cases b <;> simp
theorem l01In_val (n lo hi : Int) : spec_l01In n lo hi = some (decide (lo ≤ n) && decide (n ≤ hi)) := by
  unfold spec_l01In
  by_cases h : lo ≤ n <;> simp [h]
theorem within_val (n lo hi : Int) : impl_within n lo hi = some (decide (lo ≤ n) && decide (n ≤ hi)) := by
  unfold impl_within
  by_cases h : lo ≤ n <;> simp [h]
def money (n : Int) : Bool := decide (0 ≤ n) && decide (n ≤ 4611686018427387904)
theorem l01Money_val (n : Int) : spec_l01Money n = some (money n) := by
  unfold spec_l01Money money
  by_cases h : 0 ≤ n <;> simp [h]
theorem isMoney_val (n : Int) : impl_isMoney n = some (money n) := by unfold impl_isMoney; rw [within_val]; rfl
theorem spec_Digits_l0_tot (s : ByteArray) (hs : s.size ≤ 4000000) : ∀ (n : Nat) (v : Int), 0 ≤ v → v ≤ s.size → (s.size : Int) - v < n →
    ∃ y, spec_Digits_l0 s n v = some y ∧ impl_Digits_l0 s n v = some y ∧ ∀ u, y = .out u → ∀ i : Int, v ≤ i → i < s.size → 48 ≤ sAt s i ∧ sAt s i ≤ 57
  | 0, v, h0, hv, hn => by exfalso; omega
  | n + 1, v, h0, hv, hn => by
    unfold spec_Digits_l0 impl_Digits_l0
    by_cases h1 : v < (s.size : Int)
    · by_cases h2 : sAt s v < 48
      · exact ⟨.ret (), by simp [h1, h0, h2], by simp [h1, h0, h2], fun u e => by cases e⟩
      · by_cases h3 : 57 < sAt s v
        · exact ⟨.ret (), by simp [h1, h0, h2, h3], by simp [h1, h0, h2, h3], fun u e => by cases e⟩
        · have hi : i64 (v + 1) = v + 1 := i64_nn (by omega) (by omega)
          obtain ⟨y, e1, e2, e3⟩ := spec_Digits_l0_tot s hs n (v + 1) (by omega) (by omega) (by omega)
          refine ⟨y, by simp [h1, h0, h2, h3, hi, e1], by simp [h1, h0, h2, h3, hi, e2], fun u e i hv hi' => ?_⟩
          by_cases hiv : i = v
          · subst hiv; omega
          · exact e3 u e i (by omega) hi'
    · exact ⟨.out (), by simp [h1], by simp [h1], fun u _ i hv hi => by omega⟩
theorem beq_empty (s : ByteArray) : (s == bs []) = decide (s.size = 0) := by
  rw [beqB]
  by_cases h : s.size = 0
  · have : s = bs [] := by
      rcases s with ⟨d⟩
      have hd : d.size = 0 := h
      have : d = #[] := Array.eq_empty_of_size_eq_zero hd
      subst this; rfl
    rw [decide_eq_true h, decide_eq_true this]
  · rw [decide_eq_false h, decide_eq_false (fun e => h (by rw [e]; rfl))]
theorem Digits_tot (s : ByteArray) (hs : s.size ≤ 4000000) : ∃ b, spec_Digits s = some b ∧ impl_Digits s = some b ∧ (b = true → 0 < s.size ∧ ∀ i : Int, 0 ≤ i → i < s.size → 48 ≤ sAt s i ∧ sAt s i ≤ 57) := by
  obtain ⟨y, e1, e2, e3⟩ := spec_Digits_l0_tot s hs FUEL 0 (by omega) (by omega) (by unfold FUEL; omega)
  unfold spec_Digits impl_Digits
  rw [e1, e2]
  cases y with
  | ret u => exact ⟨false, rfl, rfl, fun h => by cases h⟩
  | out u =>
    refine ⟨decide (0 < (s.size : Int)), rfl, ?_, fun h => ⟨by have := of_decide_eq_true h; omega, fun i h0 hi => e3 u rfl i h0 hi⟩⟩
    simp only [Option.bind_some, Lo.elim, beq_empty]
    congr 1
    by_cases h : s.size = 0
    · simp [h]
    · rw [decide_eq_false h, decide_eq_true (show (0 : Int) < s.size by omega)]; rfl
theorem Luhn_l0_tot (s : ByteArray) (hs : s.size ≤ 4000000) (hd : ∀ i : Int, 0 ≤ i → i < s.size → 48 ≤ sAt s i ∧ sAt s i ≤ 57) : ∀ (n : Nat) (v w : Int) (b : Bool) (k : Int), k + 1 < n → -1 ≤ k → k < s.size → 0 ≤ v → v + 9 * (k + 1) ≤ 100000000 → w = v % 10 →
    ∃ y, impl_Luhn_l0 s n v b k = some y ∧ spec_Luhn_l0 s n w b k = some (y % 10) ∧ 0 ≤ y ∧ y ≤ 100000000
  | 0, v, w, b, k, hn, hk, hks, hv, hb, hw => by
    exfalso; omega
  | n + 1, v, w, b, k, hn, hk, hks, hv, hb, hw => by
    unfold impl_Luhn_l0 spec_Luhn_l0
    by_cases h0 : 0 ≤ k
    · obtain ⟨d1, d2⟩ := hd k h0 hks
      have hk1 : i64 (k - 1) = k - 1 := i64_of (by omega) (by omega)
      have hu : u8 (sAt s k - 48) = sAt s k - 48 := u8_of (by omega) (by omega)
      have hi : i64 (sAt s k - 48) = sAt s k - 48 := i64_of (by omega) (by omega)
      have hi2 : i64 (sAt s k) = sAt s k := i64_of (by omega) (by omega)
      have hi3 : i64 ((sAt s k - 48) * 2) = (sAt s k - 48) * 2 := i64_of (by omega) (by omega)
      have hi4 : i64 (2 * (sAt s k - 48)) = (sAt s k - 48) * 2 := by rw [Int.mul_comm]; exact hi3
      have hd0 : 0 ≤ sAt s k - 48 ∧ sAt s k - 48 ≤ 9 := by omega
      simp only [hk1, hu, hi2, hi, hi3, hi4]
      generalize sAt s k - 48 = d at *
      obtain ⟨g0, g9⟩ := hd0
      have hm : ∀ x, 0 ≤ x → x ≤ 9 → i64 (v + x) = v + x ∧ i64 (w + x) = w + x ∧ Int.tmod (w + x) 10 = (v + x) % 10 := fun x hx hx9 => by
        refine ⟨i64_of (by omega) (by omega), i64_of (by omega) (by omega), ?_⟩
        rw [tmod10 (by omega)]; omega
      by_cases hb' : b = true
      · by_cases h9 : 9 < d * 2
        · have h9' : i64 (d * 2 - 9) = d * 2 - 9 := i64_of (by omega) (by omega)
          obtain ⟨m1, m2, m3⟩ := hm (d * 2 - 9) (by omega) (by omega)
          obtain ⟨y, e1, e2, e3⟩ := Luhn_l0_tot s hs hd n (v + (d * 2 - 9)) ((v + (d * 2 - 9)) % 10) (!b) (k - 1) (by omega) (by omega) (by omega) (by omega) (by omega) rfl
          exact ⟨y, by simp only [h0, hks, hb', h9, h9', m1, m2, m3, decide_true, if_true]; rw [hb'] at e1; exact e1, by simp only [h0, hks, hb', h9, h9', m1, m2, m3, decide_true, if_true]; rw [hb'] at e2; exact e2, e3⟩
        · obtain ⟨m1, m2, m3⟩ := hm (d * 2) (by omega) (by omega)
          obtain ⟨y, e1, e2, e3⟩ := Luhn_l0_tot s hs hd n (v + d * 2) ((v + d * 2) % 10) (!b) (k - 1) (by omega) (by omega) (by omega) (by omega) (by omega) rfl
          exact ⟨y, by simp only [h0, hks, hb', h9, m1, m2, m3, decide_true, decide_false, if_true, Bool.false_eq_true, if_false]; rw [hb'] at e1; exact e1, by simp only [h0, hks, hb', h9, m1, m2, m3, decide_true, decide_false, if_true, Bool.false_eq_true, if_false]; rw [hb'] at e2; exact e2, e3⟩
      · have hbf : b = false := by simpa using hb'
        obtain ⟨m1, m2, m3⟩ := hm d (by omega) (by omega)
        obtain ⟨y, e1, e2, e3⟩ := Luhn_l0_tot s hs hd n (v + d) ((v + d) % 10) (!b) (k - 1) (by omega) (by omega) (by omega) (by omega) (by omega) rfl
        exact ⟨y, by simp only [h0, hks, hbf, m1, m2, m3, decide_true, if_true, Bool.false_eq_true, if_false]; rw [hbf] at e1; exact e1, by simp only [h0, hks, hbf, m1, m2, m3, decide_true, if_true, Bool.false_eq_true, if_false]; rw [hbf] at e2; exact e2, e3⟩
    · exact ⟨v, by simp [h0], by simp [h0, hw], hv, by omega⟩
theorem Luhn_tot (s : ByteArray) (hs : s.size ≤ 4000000) : ∃ y, spec_Luhn s = some y ∧ impl_Luhn s = some y := by
  obtain ⟨b, e1, e2, e3⟩ := Digits_tot s hs
  unfold spec_Luhn impl_Luhn
  rw [e1, e2]
  cases b with
  | false => exact ⟨-1, rfl, rfl⟩
  | true =>
    obtain ⟨hp, hd⟩ := e3 rfl
    have hi : i64 ((s.size : Int) - 1) = (s.size : Int) - 1 := i64_of (by omega) (by omega)
    obtain ⟨y, q1, q2, q3, q4⟩ := Luhn_l0_tot s hs hd FUEL 0 0 true ((s.size : Int) - 1) (by unfold FUEL; omega) (by omega) (by omega) (by omega) (by omega) rfl
    refine ⟨Int.tmod (i64 (10 - y % 10)) 10, ?_, ?_⟩
    · simp only [Option.bind_some, if_true, hi, q2]
    · simp only [Option.bind_some, if_true, hi, q1, tmod10 q3]
theorem LuhnOk_eq (s : ByteArray) (hs : s.size ≤ 4000000) : ∃ y, spec_LuhnOk s = some y ∧ impl_LuhnOk s = some y := by
  obtain ⟨b, e1, e2, e3⟩ := Digits_tot s hs
  unfold spec_LuhnOk impl_LuhnOk
  have hi : i64 ((s.size : Int) - 1) = (s.size : Int) - 1 := i64_of (by omega) (by omega)
  rw [e1, e2, hi]
  by_cases h2 : (s.size : Int) < 2
  · have h1 : ¬ 1 ≤ (s.size : Int) - 1 := by omega
    refine ⟨false, ?_, by simp [h1]⟩
    cases b <;> simp [h2]
  · have h1 : 1 ≤ (s.size : Int) - 1 := by omega
    cases b with
    | false => exact ⟨false, by simp, by simp [h1]⟩
    | true =>
      obtain ⟨hp, hd⟩ := e3 rfl
      obtain ⟨d1, d2⟩ := hd ((s.size : Int) - 1) (by omega) (by omega)
      obtain ⟨y, q1, q2⟩ := Luhn_tot (s.extract 0 ((s.size : Int) - 1).toNat) (by simp; omega)
      have c1 : (0 : Int) ≤ (s.size : Int) - 1 := by omega
      have c2 : (s.size : Int) - 1 ≤ s.size := by omega
      have c3 : (s.size : Int) - 1 < s.size := by omega
      have hu : u8 (sAt s ((s.size : Int) - 1) - 48) = sAt s ((s.size : Int) - 1) - 48 := u8_of (by omega) (by omega)
      have hi2 : i64 (sAt s ((s.size : Int) - 1)) = sAt s ((s.size : Int) - 1) := i64_of (by omega) (by omega)
      refine ⟨y == i64 (sAt s ((s.size : Int) - 1) - 48), ?_, ?_⟩
      · simp only [Option.bind_some, if_true, h2, decide_false, Bool.false_eq_true, if_false, c1, c2, c3, decide_true, q1, hi2]
      · simp only [Option.bind_some, if_true, h1, c1, c2, c3, decide_true, q2, hu]
theorem AcctIdOk_eq (s : ByteArray) : ∃ y, spec_AcctIdOk s = some y ∧ impl_AcctIdOk s = some y ∧ (y = true → s.size ≤ 19) := by
  unfold spec_AcctIdOk impl_AcctIdOk
  by_cases h : (s.size : Int) ≤ 19
  · obtain ⟨y, e1, e2⟩ := LuhnOk_eq s (by omega)
    exact ⟨y, by simp [h, e1], by simp [h, e2], fun _ => by omega⟩
  · exact ⟨false, by simp [h], by simp [h], fun e => by cases e⟩
theorem HoldIdOk_l0_eq : ∀ (s : ByteArray) (n : Nat) (v : Int), impl_HoldIdOk_l0 s n v = spec_HoldIdOk_l0 s n v
  | s, 0, v => rfl
  | s, n + 1, v => by unfold impl_HoldIdOk_l0 spec_HoldIdOk_l0; simp only [HoldIdOk_l0_eq s n]
theorem HoldIdOk_l0_tot (s : ByteArray) (hs : s.size ≤ 4000000) : ∀ (n : Nat) (v : Int), 0 ≤ v → v ≤ s.size → (s.size : Int) - v < n → ∃ y, spec_HoldIdOk_l0 s n v = some y
  | 0, v, h0, hv, hn => by exfalso; omega
  | n + 1, v, h0, hv, hn => by
    unfold spec_HoldIdOk_l0
    by_cases h1 : v < (s.size : Int)
    · have hi : i64 (v + 1) = v + 1 := i64_nn (by omega) (by omega)
      obtain ⟨y, e⟩ := HoldIdOk_l0_tot s hs n (v + 1) (by omega) (by omega) (by omega)
      simp only [h1, h0, decide_true, if_true, hi, e]
      repeat' split
      all_goals exact ⟨_, rfl⟩
    · exact ⟨.out (), by simp [h1]⟩
theorem HoldIdOk_tot (s : ByteArray) (hs : s.size ≤ 4000000) : ∃ y, spec_HoldIdOk s = some y ∧ impl_HoldIdOk s = some y ∧ (y = true → s.size ≤ 6) := by
  obtain ⟨y, e⟩ := HoldIdOk_l0_tot s hs FUEL 0 (by omega) (by omega) (by unfold FUEL; omega)
  unfold spec_HoldIdOk impl_HoldIdOk
  rw [HoldIdOk_l0_eq, e]
  cases y with
  | ret u => exact ⟨false, rfl, rfl, fun h => by cases h⟩
  | out u =>
    refine ⟨decide ((1 : Int) ≤ s.size) && decide ((s.size : Int) ≤ 6), ?_, ?_, fun h => ?_⟩
    · simp only [Option.bind_some, Lo.elim, l01In_val]
    · simp only [Option.bind_some, Lo.elim, within_val]
    · simp only [Bool.and_eq_true, decide_eq_true_eq] at h; omega
theorem bstr_fold : ∀ (ns : List Int) (r : ByteArray), (ns.foldl (fun r n => r.push (UInt8.ofNat n.toNat)) r).data.toList = r.data.toList ++ ns.map (fun n => UInt8.ofNat n.toNat)
  | [], r => by simp
  | n :: ns, r => by
    rw [List.foldl_cons, bstr_fold ns]
    simp [ByteArray.push]
theorem bstr_list (ns : List Int) : (bstr ns).data.toList = ns.map (fun n => UInt8.ofNat n.toNat) := by
  unfold bstr
  rw [bstr_fold]; rfl
theorem money_iff (n : Int) : money n = true ↔ 0 ≤ n ∧ n ≤ 4611686018427387904 := by unfold money; simp
theorem ba_ext {a b : ByteArray} (h : a.data.toList = b.data.toList) : a = b := by
  rcases a with ⟨⟨a⟩⟩
  rcases b with ⟨⟨b⟩⟩
  have h : a = b := h
  rw [h]
theorem ba_app (a b : ByteArray) : (a ++ b).data.toList = a.data.toList ++ b.data.toList := by
  rw [ByteArray.data_append, Array.toList_append]
theorem ba_size (a : ByteArray) : a.size = a.data.toList.length := by
  rcases a with ⟨⟨a⟩⟩
  rfl
/-- The text of a number; nothing where it is none. -/
def numT (n : Int) : ByteArray := if money n = true then ⟨(Lib.itoa n).toArray⟩ else ⟨#[]⟩
theorem decDigits_len : ∀ (m u : Nat), u < 10 ^ (m + 1) → (Lib.decDigits u).length ≤ m + 1
  | m, u, h => by
    rw [Lib.decDigits]
    split
    · simp
    · rename_i h10
      cases m with
      | zero => omega
      | succ m =>
        have := decDigits_len m (u / 10) (by rw [Nat.pow_succ] at h; omega)
        simp; omega
theorem money_bounds {n : Int} (h : money n = true) : 0 ≤ n ∧ n ≤ 4611686018427387904 := by
  unfold money at h
  simpa using h
theorem numT_size (n : Int) : (numT n).size ≤ 20 := by
  unfold numT
  split
  · rename_i h
    obtain ⟨h0, h1⟩ := money_bounds h
    rw [ba_size]
    simp only [Lib.itoa, show ¬ n < 0 by omega, if_false]
    exact decDigits_len 19 n.toNat (by omega)
  · simp [ByteArray.size]
theorem digit_data (u : Nat) : (bstr [u8 (i64 (48 + (Int.tmod (u : Int) 10)))]).data.toList = [UInt8.ofNat (48 + u % 10)] := by
  rw [bstr_list, tmod10 (by omega), i64_of (by omega) (by omega), u8_of (by omega) (by omega)]
  simp only [List.map_cons, List.map_nil]
  congr 2
theorem NumText_l0_val (N : Int) : ∀ (m fuel u : Nat) (acc : ByteArray), u < 10 ^ (m + 1) → m < fuel → u ≤ 4611686018427387904 → acc.size + m ≤ 1000 →
    ∃ (v : Nat) (w : ByteArray), spec_NumText_l0 N fuel (u : Int) acc = some ((v : Int), w) ∧ v ≤ 9 ∧ w.size ≤ acc.size + m ∧ UInt8.ofNat (48 + v) :: w.data.toList = Lib.decDigits u ++ acc.data.toList
  | m, 0, u, acc, _, h, _, _ => by omega
  | m, fuel + 1, u, acc, hu, hm, hb, ha => by
    unfold spec_NumText_l0
    rw [Lib.decDigits]
    by_cases h9 : u < 10
    · have : ¬ (9 : Int) < (u : Int) := by omega
      simp only [this, decide_false, Bool.false_eq_true, if_false]
      exact ⟨u, acc, rfl, by omega, by omega, by rw [dif_pos h9]; rfl⟩
    · cases m with
      | zero => omega
      | succ m =>
        have hd := digit_data u
        have hs : (bstr [u8 (i64 (48 + (Int.tmod (u : Int) 10)))]).size + acc.size ≤ 9223372036854775807 := by rw [bstr_one]; omega
        have hq : i64 (Int.tdiv (u : Int) 10) = ((u / 10 : Nat) : Int) := by rw [Int.tdiv_eq_ediv_of_nonneg (by omega), i64_of (by omega) (by omega)]; omega
        simp only [show (9 : Int) < (u : Int) by omega, decide_true, if_true, hs, hq]
        obtain ⟨v, w, e1, e2, e3, e4⟩ := NumText_l0_val N m fuel (u / 10) (bstr [u8 (i64 (48 + (Int.tmod (u : Int) 10)))] ++ acc) (by rw [Nat.pow_succ] at hu; omega) (by omega) (by omega) (by rw [size_app, bstr_one]; omega)
        refine ⟨v, w, e1, e2, by rw [size_app, bstr_one] at e3; omega, ?_⟩
        rw [e4, ba_app, hd, dif_neg h9]
        simp
theorem spec_NumText_val (n : Int) : spec_NumText n = some (numT n) := by
  unfold spec_NumText numT
  rw [l01Money_val, Option.bind_some]
  rcases tf (money n) with h | h
  · obtain ⟨h0, h1⟩ := money_bounds h
    obtain ⟨u, rfl⟩ : ∃ u : Nat, n = (u : Int) := ⟨n.toNat, by omega⟩
    obtain ⟨v, w, e1, e2, e3, e4⟩ := NumText_l0_val u 19 FUEL u (bs []) (by omega) (by unfold FUEL; omega) (by omega) (by decide)
    have hs : (bstr [u8 (i64 (48 + (v : Int)))]).size + w.size ≤ 9223372036854775807 := by
      have : (bs []).size = 0 := rfl
      rw [bstr_one]; omega
    simp only [h, if_true, e1, Option.bind_some, hs, decide_true]
    congr 1
    apply ba_ext
    rw [ba_app, bstr_list, i64_of (by omega) (by omega), u8_of (by omega) (by omega)]
    have e5 : (bs []).data.toList = [] := rfl
    rw [e5, List.append_nil] at e4
    simp only [List.map_cons, List.map_nil, List.cons_append, List.nil_append, Lib.itoa, show ¬ ((u : Int) < 0) by omega, if_false, Int.toNat_natCast, List.toList_toArray]
    rw [← e4]
    congr 2
  · simp only [h, Bool.false_eq_true, if_false]; rfl
theorem impl_NumText_val (n : Int) : impl_NumText n = some (numT n) := by
  unfold impl_NumText numT strconv_Itoa
  rw [isMoney_val, Option.bind_some]
  rcases tf (money n) with h | h
  · obtain ⟨g1, g2⟩ := money_bounds h
    simp [h, show -9223372036854775808 ≤ n by omega, show n ≤ 9223372036854775807 by omega]
  · simp only [h, Bool.false_eq_true, if_false]; rfl
/-- Texts one behind the other, sep between them. -/
def sepT (sep : ByteArray) : List ByteArray → ByteArray
  | [] => bs []
  | x :: t => x ++ t.foldr (fun y r => (sep ++ y) ++ r) (bs [])
theorem ba_nil_app (a : ByteArray) : bs [] ++ a = a := ba_ext (by rw [ba_app]; rfl)
theorem ba_app_nil (a : ByteArray) : a ++ bs [] = a := ba_ext (by rw [ba_app]; exact List.append_nil _)
theorem ba_assoc (a b c : ByteArray) : (a ++ b) ++ c = a ++ (b ++ c) := ba_ext (by simp only [ba_app, List.append_assoc])
theorem tail_data (sep : ByteArray) (l : List ByteArray) : (l.foldr (fun y r => (sep ++ y) ++ r) (bs [])).data.toList = Lib.joinTail sep.data.toList (l.map (·.data.toList)) := by
  induction l with
  | nil => rfl
  | cons x t ih =>
    simp only [List.foldr_cons, ba_app, ih, Lib.joinTail, List.map_cons, List.flatten_cons, List.append_assoc]
theorem joined_eq (sep : ByteArray) (l : List ByteArray) : joined l sep = sepT sep l := by
  apply ba_ext
  cases l with
  | nil => rfl
  | cons x t =>
    unfold joined sepT
    simp only [List.map_cons, Lib.join_cons, ba_app, tail_data, List.toList_toArray]
theorem sepT_size (sep : ByteArray) (hs : sep.size = 1) (l : List ByteArray) : (sepT sep l).size ≤ wtL (fun s : ByteArray => s.size) l := by
  have ht : ∀ t : List ByteArray, (t.foldr (fun y r => (sep ++ y) ++ r) (bs [])).size ≤ wtL (fun s : ByteArray => s.size) t := fun t => by
    induction t with
    | nil => exact Nat.le_refl 0
    | cons x t ih => simp only [List.foldr_cons, size_app, wtL]; omega
  cases l with
  | nil => exact Nat.le_refl 0
  | cons x t =>
    have := ht t
    simp only [sepT, size_app, wtL]; omega
theorem Join_val (sep : ByteArray) (hs : sep.size = 1) (l : List ByteArray) (h : wtL (fun s : ByteArray => s.size) l ≤ 140737488355328) : strings_Join l sep = some (sepT sep l) := by
  have h1 := wtL_len (fun s : ByteArray => s.size) l
  have h2 := sepT_size sep hs l
  unfold strings_Join
  rw [joined_eq]
  simp [show l.length ≤ 140737488355328 by omega, show (sepT sep l).size ≤ 140737488355328 by omega]
def hexS : ByteArray := bs [48, 49, 50, 51, 52, 53, 54, 55, 56, 57, 97, 98, 99, 100, 101, 102]
theorem sbytes_len (s : ByteArray) : (sbytes s).length = s.size := by unfold sbytes; rw [List.length_map, ← ba_size]
theorem sAt_get (s : ByteArray) {i : Nat} (h : i < s.size) : (sbytes s)[i]? = some (sAt s (i : Int)) := by
  rcases s with ⟨⟨l⟩⟩
  have h : i < l.length := h
  simp [sbytes, sAt, h]
def digI (x : Int) : Bool := decide (48 ≤ x) && decide (x ≤ 57)
def digB (s : ByteArray) : Bool := decide (0 < s.size) && (sbytes s).all digI
/-- A loop that looks at each byte. -/
theorem scan_loop {L : Nat → Int → Option (Lo Unit Unit)} (s : ByteArray) (hs : s.size ≤ 4000000) (lo hi : Int) (q : Int → Bool) (hq : ∀ x, q x = (decide (lo ≤ x) && decide (x ≤ hi)))
    (h1 : ∀ n v, L (n + 1) v = if (decide (v < (s.size : Int))) = true then if (decide (0 ≤ v)) = true then if (decide ((v : Int) < (s.size : Int))) = true then if (decide ((sAt s v) < lo)) = true then some (.ret ()) else if (decide (hi < (sAt s v))) = true then some (.ret ()) else L n (i64 (v + 1)) else none else none else some (.out ())) :
    ∀ (n v : Nat), v ≤ s.size → s.size - v < n → L n (v : Int) = some (if ((sbytes s).drop v).all q = true then .out () else .ret ())
  | 0, v, h, hn => by omega
  | n + 1, v, h, hn => by
    rw [h1]
    by_cases hv : v < s.size
    · have hl : v < (sbytes s).length := by rw [sbytes_len]; exact hv
      have hd : (sbytes s).drop v = sAt s v :: (sbytes s).drop (v + 1) := by
        have := sAt_get s hv
        rw [List.getElem?_eq_getElem hl] at this
        rw [List.drop_eq_getElem_cons hl, Option.some.inj this]
      have hi' : i64 ((v : Int) + 1) = ((v + 1 : Nat) : Int) := by rw [i64_of (by omega) (by omega)]; omega
      have ih := scan_loop s hs lo hi q hq h1 n (v + 1) (by omega) (by omega)
      rw [hd, List.all_cons, hq, hi', ih]
      simp only [show (v : Int) < (s.size : Int) by omega, show (0 : Int) ≤ (v : Int) by omega, decide_true, if_true]
      by_cases a : sAt s v < lo
      · simp [a, show ¬ lo ≤ sAt s v by omega]
      · by_cases b : hi < sAt s v
        · simp [a, b, show ¬ sAt s v ≤ hi by omega]
        · simp [a, b, show lo ≤ sAt s v by omega, show sAt s v ≤ hi by omega]
    · have : (sbytes s).drop v = [] := List.drop_eq_nil_of_le (by rw [sbytes_len]; omega)
      rw [this]
      simp [show ¬ (v : Int) < (s.size : Int) by omega]
theorem Digits_s (s : ByteArray) (hs : s.size ≤ 4000000) : spec_Digits s = some (digB s) := by
  have e1 : spec_Digits_l0 s FUEL 0 = some (if (sbytes s).all digI = true then .out () else .ret ()) := scan_loop (L := spec_Digits_l0 s) s hs 48 57 digI (fun _ => rfl) (fun _ _ => rfl) FUEL 0 (by omega) (by unfold FUEL; omega)
  unfold spec_Digits digB
  rw [e1]
  cases (sbytes s).all digI with
  | false => simp [Lo.elim]
  | true =>
    by_cases h : s.size = 0
    · simp [Lo.elim, h]
    · simp [Lo.elim, h, show (0 : Int) < (s.size : Int) by omega, show 0 < s.size by omega]
theorem index_one (c b : UInt8) (l : List UInt8) : Lib.index (b :: l) [c] = if b = c then 0 else if Lib.index l [c] = -1 then -1 else Lib.index l [c] + 1 := by
  rw [Lib.index]
  by_cases h : b = c
  · subst h; simp
  · have : ¬ c = b := fun e => h e.symm
    simp [h, this]
theorem split_one (c : UInt8) : ∀ l : List UInt8, (c ∉ l ∧ Lib.index l [c] = -1) ∨ ∃ p t, l = p ++ c :: t ∧ c ∉ p ∧ Lib.index l [c] = (p.length : Nat)
  | [] => .inl ⟨by simp, rfl⟩
  | b :: l => by
    rw [index_one]
    by_cases h : b = c
    · subst h; exact .inr ⟨[], l, rfl, by simp, by simp⟩
    · rcases split_one c l with ⟨h1, h2⟩ | ⟨p, t, h1, h2, h3⟩
      · exact .inl ⟨by simp [h1, Ne.symm h], by simp [h, h2]⟩
      · refine .inr ⟨b :: p, t, by rw [h1]; rfl, by simp [h2, Ne.symm h], ?_⟩
        rw [h3]
        simp only [h, if_false, List.length_cons]
        rw [if_neg (by omega)]
        omega
theorem ba_extract (a : ByteArray) (i j : Nat) : (a.extract i j).data.toList = (a.data.toList.drop i).take (j - i) := by
  rw [ByteArray.data_extract, Array.toList_extract, List.extract_eq_take_drop]
def numF (n : Int) (l : List Int) : Int := l.foldl (fun n x => n * 10 + (x - 48)) n
def numL (l : List Int) : Int := numF 0 l
theorem numF_cons (n x : Int) (t : List Int) : numF n (x :: t) = numF (n * 10 + (x - 48)) t := rfl
theorem digI_iff {x : Int} : digI x = true ↔ 48 ≤ x ∧ x ≤ 57 := by unfold digI; simp
theorem digB_mem {s : ByteArray} (h : digB s = true) : 1 ≤ s.size ∧ ∀ x ∈ sbytes s, digI x = true := by
  unfold digB at h
  simp only [Bool.and_eq_true, decide_eq_true_eq, List.all_eq_true] at h
  exact ⟨by omega, h.2⟩
def pcs (c : UInt8) : List UInt8 → List (List UInt8)
  | [] => [[]]
  | b :: t => if b = c then [] :: pcs c t else match pcs c t with
    | [] => [[b]]
    | p :: r => (b :: p) :: r
theorem pcs_none {c : UInt8} : ∀ {l : List UInt8}, c ∉ l → pcs c l = [l]
  | [], _ => rfl
  | b :: t, h => by
    have h1 : ¬ b = c := fun e => h (by rw [e]; simp)
    have h2 : c ∉ t := fun e => h (List.mem_cons_of_mem _ e)
    rw [pcs, if_neg h1, pcs_none h2]
theorem pcs_hit {c : UInt8} (t : List UInt8) : ∀ {p : List UInt8}, c ∉ p → pcs c (p ++ c :: t) = p :: pcs c t
  | [], _ => by rw [List.nil_append, pcs, if_pos rfl]
  | b :: p, h => by
    have h1 : ¬ b = c := fun e => h (by rw [e]; simp)
    have h2 : c ∉ p := fun e => h (List.mem_cons_of_mem _ e)
    rw [List.cons_append, pcs, if_neg h1, pcs_hit t h2]
theorem pcs_splitK (c : UInt8) : ∀ (n : Nat) (l : List UInt8), l.length ≤ n → Lib.splitK [c] 0 (Lib.count l [c]) l = pcs c l
  | n, l, hn => by
    rcases split_one c l with ⟨h1, h2⟩ | ⟨p, t, h1, h2, h3⟩
    · rw [Lib.count_miss h2, pcs_none h1]; rfl
    · have hl : l.length = p.length + 1 + t.length := by rw [h1]; simp; omega
      cases n with
      | zero => omega
      | succ n =>
        have hd : l.drop (p.length + [c].length) = t := by
          rw [h1, show p ++ c :: t = (p ++ [c]) ++ t by simp]
          exact List.drop_left' (by simp)
        have ht : l.take (p.length + 0) = p := by rw [h1]; exact List.take_left' (by simp)
        have hm : ¬ (Lib.index l [c] == -1) = true := fun e => by have := beq_iff_eq.1 e; omega
        have he : (Lib.index l [c]).toNat = p.length := by omega
        rw [Lib.count_hit (by simp) h3, Nat.add_comm, Lib.splitK, if_neg hm, he, hd, ht, pcs_splitK c n t (by omega)]
        conv => rhs; rw [h1, pcs_hit t h2]
theorem pcs_ne (c : UInt8) (l : List UInt8) : 1 ≤ (pcs c l).length := by
  rcases split_one c l with ⟨h1, h2⟩ | ⟨p, t, h1, h2, h3⟩
  · rw [pcs_none h1]; simp
  · rw [h1, pcs_hit t h2]; simp
def mkB (l : List UInt8) : ByteArray := ⟨l.toArray⟩
theorem mkB_data (s : ByteArray) : mkB s.data.toList = s := by rcases s with ⟨⟨l⟩⟩; rfl
theorem mkB_size (l : List UInt8) : (mkB l).size = l.length := rfl
def pcsB (c : UInt8) (s : ByteArray) : List ByteArray := (pcs c s.data.toList).map mkB
theorem splitP_val (c : UInt8) (s : ByteArray) : splitP s (bs [c]) = pcsB c s := by
  unfold splitP pcsB
  have h : (Lib.splitB (bs [c]) 0 (Lib.countB s (bs [c])) s).map (·.data.toList) = pcs c s.data.toList := by
    rw [Lib.splitB_data]
    exact pcs_splitK c _ _ (Nat.le_refl _)
  rw [← h, List.map_map]
  conv => lhs; rw [← List.map_id (Lib.splitB (bs [c]) 0 (Lib.countB s (bs [c])) s)]
  apply List.map_congr_left
  intro x _
  exact (mkB_data x).symm
theorem extract_mk (s : ByteArray) (i j : Nat) : s.extract i j = mkB ((s.data.toList.drop i).take (j - i)) := ba_ext (by rw [ba_extract]; rfl)
theorem sAt_byte (s : ByteArray) {i : Nat} (h : i < s.data.toList.length) : sAt s (i : Int) = ((s.data.toList[i]).toNat : Int) := by
  rcases s with ⟨⟨l⟩⟩
  have h : i < l.length := h
  simp [sAt, h]
theorem l01Split_l0_val (s : ByteArray) (hs : s.size ≤ 4000000) (c : UInt8) : ∀ (fuel i a : Nat) (w : List ByteArray), a ≤ i → i ≤ s.size → s.size + 1 - i < fuel → c ∉ (s.data.toList.drop a).take (i - a) → w.length + (s.size - i) ≤ 100000000 →
    spec_l01Split_l0 s (c.toNat : Int) fuel (a : Int) (i : Int) w = some (w ++ (pcs c (s.data.toList.drop a)).map mkB)
  | 0, i, a, w, _, _, hf, _, _ => by omega
  | fuel + 1, i, a, w, hai, his, hf, hc, hw => by
    have hl : s.data.toList.length = s.size := (ba_size s).symm
    have hi' : i64 ((i : Int) + 1) = ((i + 1 : Nat) : Int) := by rw [i64_of (by omega) (by omega)]; omega
    unfold spec_l01Split_l0
    by_cases h : i < s.size
    · have hil : i < s.data.toList.length := by omega
      have hne : ((i : Int) == (s.size : Int)) = false := beq_false_of_ne (by omega)
      have hsp : s.data.toList.drop a = (s.data.toList.drop a).take (i - a) ++ s.data.toList[i] :: s.data.toList.drop (i + 1) := by
        conv => lhs; rw [← List.take_append_drop (i - a) (s.data.toList.drop a)]
        congr 1
        rw [List.drop_drop, show a + (i - a) = i by omega, List.drop_eq_getElem_cons hil]
      simp only [show (i : Int) ≤ (s.size : Int) by omega, hne, show (0 : Int) ≤ (i : Int) by omega, show (i : Int) < (s.size : Int) by omega, sAt_byte s hil, decide_true, if_true, Bool.false_eq_true, if_false]
      by_cases hb : s.data.toList[i] = c
      · have hq : (((s.data.toList[i]).toNat : Int) == (c.toNat : Int)) = true := by rw [hb]; simp
        simp only [hq, if_true, show (0 : Int) ≤ (a : Int) by omega, show (a : Int) ≤ (i : Int) by omega, decide_true, capOk_of (show w.length + 1 ≤ 274877906944 by omega), hi', Int.toNat_natCast]
        rw [l01Split_l0_val s hs c fuel (i + 1) (i + 1) (w ++ [s.extract a i]) (Nat.le_refl _) (by omega) (by omega) (by simp) (by simp; omega), extract_mk]
        conv => rhs; rw [hsp, hb, pcs_hit _ hc]
        simp
      · have hq : (((s.data.toList[i]).toNat : Int) == (c.toNat : Int)) = false := beq_false_of_ne (fun e => hb (UInt8.toNat_inj.1 (by omega)))
        simp only [hq, Bool.false_eq_true, if_false, hi']
        refine l01Split_l0_val s hs c fuel (i + 1) a w (by omega) (by omega) (by omega) ?_ (by omega)
        rw [show i + 1 - a = (i - a) + 1 by omega, List.take_add_one]
        have : (s.data.toList.drop a)[i - a]? = some s.data.toList[i] := by
          rw [List.getElem?_drop, show a + (i - a) = i by omega]; exact List.getElem?_eq_getElem hil
        rw [this]
        simp only [Option.toList_some, List.mem_append, List.mem_singleton, not_or]
        exact ⟨hc, fun e => hb e.symm⟩
    · have he : i = s.size := by omega
      subst he
      cases fuel with
      | zero => omega
      | succ m =>
        have hd : (s.data.toList.drop a).take (s.size - a) = s.data.toList.drop a := List.take_of_length_le (by rw [List.length_drop]; omega)
        rw [hd] at hc
        simp only [show (s.size : Int) ≤ (s.size : Int) from Int.le_refl _, beq_self_eq_true, show (0 : Int) ≤ (a : Int) by omega, show (a : Int) ≤ (s.size : Int) by omega, decide_true, if_true, capOk_of (show w.length + 1 ≤ 274877906944 by omega), hi', Int.toNat_natCast]
        unfold spec_l01Split_l0
        simp only [show ¬ ((s.size + 1 : Nat) : Int) ≤ (s.size : Int) by omega, decide_false, Bool.false_eq_true, if_false]
        rw [extract_mk, hd, pcs_none hc]
        rfl
theorem l01Split_val (s : ByteArray) (hs : s.size ≤ 4000000) (c : UInt8) : spec_l01Split s (c.toNat : Int) = some (pcsB c s) := by
  have h : spec_l01Split_l0 s (c.toNat : Int) FUEL 0 0 [] = some ([] ++ (pcs c (s.data.toList.drop 0)).map mkB) := l01Split_l0_val s hs c FUEL 0 0 [] (by omega) (by omega) (by unfold FUEL; omega) (by simp) (by simp; omega)
  unfold spec_l01Split
  rw [h]
  rfl
theorem pcsB_len (c : UInt8) (s : ByteArray) : 1 ≤ (pcsB c s).length := by unfold pcsB; rw [List.length_map]; exact pcs_ne c _
theorem pcs_wt (c : UInt8) : ∀ (n : Nat) (l : List UInt8), l.length ≤ n → wtL (fun s : ByteArray => s.size) ((pcs c l).map mkB) ≤ l.length + 1
  | n, l, hn => by
    rcases split_one c l with ⟨h1, h2⟩ | ⟨p, t, h1, h2, h3⟩
    · rw [pcs_none h1]
      simp only [List.map_cons, List.map_nil, wtL, mkB_size]; omega
    · have hl : l.length = p.length + 1 + t.length := by rw [h1]; simp; omega
      cases n with
      | zero => omega
      | succ n =>
        have := pcs_wt c n t (by omega)
        conv => lhs; rw [h1, pcs_hit t h2]
        simp only [List.map_cons, wtL, mkB_size]; omega
theorem pcsB_wt (c : UInt8) (s : ByteArray) : wtL (fun s : ByteArray => s.size) (pcsB c s) ≤ s.size + 1 := by
  have := pcs_wt c _ s.data.toList (Nat.le_refl _)
  rw [← ba_size] at this
  exact this
theorem strings_Split_val (s : ByteArray) (hs : s.size ≤ 4000000) (c : UInt8) : strings_Split s (bs [c]) = some (pcsB c s) := by
  have h1 : (bs [c]).size = 1 := rfl
  have h2 := pcsB_wt c s
  have h3 := wtL_len (fun s : ByteArray => s.size) (pcsB c s)
  unfold strings_Split
  rw [splitP_val, h1, if_pos]
  simp only [Bool.and_eq_true, decide_eq_true_eq]
  omega
theorem parse_digits2 : ∀ (l : List UInt8) (acc k : Nat), (∀ b ∈ l, digI (b.toNat : Int) = true) → acc < 10 ^ k → k + l.length ≤ 19 → ∃ u, Lib.parseUint10 acc l = .ok u ∧ (u : Int) = numF (acc : Int) (l.map fun b => (b.toNat : Int)) ∧ u < 10 ^ (k + l.length)
  | [], acc, k, _, h1, _ => ⟨acc, rfl, rfl, h1⟩
  | c :: r, acc, k, hd, h1, h2 => by
    have hx := digI_iff.1 (hd c (by simp))
    simp only [List.length_cons] at h2
    have hk : (10 : Nat) ^ k ≤ 10 ^ 18 := Nat.pow_le_pow_right (by decide) (by omega)
    have hk2 : (10 : Nat) ^ (k + 1) = 10 ^ k * 10 := Nat.pow_succ _ _
    obtain ⟨u, e1, e2, e3⟩ := parse_digits2 r (acc * 10 + (c.toNat - 48)) (k + 1) (fun b hb => hd b (by simp [hb])) (by omega) (by omega)
    refine ⟨u, ?_, ?_, by rw [List.length_cons, show k + (r.length + 1) = k + 1 + r.length by omega]; exact e3⟩
    · rw [Lib.parseUint10, if_pos (by omega), if_neg (by omega), if_neg (by omega), e1]
    · rw [List.map_cons, numF_cons, e2]
      congr 1
      omega
theorem atoi_digits2 (s : ByteArray) (h : digB s = true) (hs : s.size ≤ 19) : Lib.atoiAll s.data.toList = if 9223372036854775808 ≤ numL (sbytes s) then .range else .ok (numL (sbytes s)) := by
  obtain ⟨h1, h2⟩ := digB_mem h
  have hd : ∀ b ∈ s.data.toList, digI (b.toNat : Int) = true := fun b hb => h2 _ (by unfold sbytes; exact List.mem_map_of_mem hb)
  have hl : s.data.toList.length = s.size := (ba_size s).symm
  obtain ⟨u, e1, e2, e3⟩ := parse_digits2 s.data.toList 0 0 hd (by decide) (by omega)
  have e2 : (u : Int) = numL (sbytes s) := e2
  rw [← e2]
  cases hq : s.data.toList with
  | nil => rw [hq] at hl; simp at hl; omega
  | cons c r =>
    have hc := digI_iff.1 (hd c (by rw [hq]; simp))
    rw [hq] at e1
    unfold Lib.atoiAll
    simp only [show ¬ (c.toNat = 43 ∨ c.toNat = 45) by omega, if_false]
    unfold Lib.parseMag
    rw [if_neg (by simp), e1]
    by_cases hu : 9223372036854775808 ≤ u
    · simp only [show ¬ (c.toNat = 45) by omega, not_false_eq_true, true_and, hu, if_true, show (9223372036854775808 : Int) ≤ (u : Int) by omega]
    · simp only [show ¬ (c.toNat = 45) by omega, not_false_eq_true, true_and, false_and, if_false, hu, show ¬ (9223372036854775808 : Int) ≤ (u : Int) by omega]
theorem decDigits_dig (u : Nat) : ∀ b ∈ Lib.decDigits u, 48 ≤ b.toNat ∧ b.toNat ≤ 57 := by
  induction u using Nat.strongRecOn with
  | _ u ih =>
    rw [Lib.decDigits]
    split
    · intro b hb
      simp only [List.mem_singleton] at hb
      subst hb
      rw [UInt8.toNat_ofNat']
      omega
    · intro b hb
      rw [List.mem_append] at hb
      rcases hb with hb | hb
      · exact ih (u / 10) (by omega) b hb
      · simp only [List.mem_singleton] at hb
        subst hb
        rw [UInt8.toNat_ofNat']
        omega
theorem numT_dig {n : Int} (h : money n = true) : (numT n).data.toList = Lib.decDigits n.toNat ∧ (numT n).size ≤ 19 ∧ 1 ≤ (numT n).size := by
  obtain ⟨h0, h1⟩ := money_bounds h
  have e : (numT n).data.toList = Lib.decDigits n.toNat := by
    unfold numT Lib.itoa
    rw [if_pos h, if_neg (by omega)]
  refine ⟨e, ?_, ?_⟩
  · rw [ba_size, e]; exact decDigits_len 18 n.toNat (by omega)
  · rw [ba_size, e, Lib.decDigits]; split <;> simp
theorem numT_digB {n : Int} (h : money n = true) : digB (numT n) = true := by
  obtain ⟨e, _, e1⟩ := numT_dig h
  unfold digB
  rw [decide_eq_true (show 0 < (numT n).size by omega), Bool.true_and, List.all_eq_true]
  intro x hx
  unfold sbytes at hx
  rw [e, List.mem_map] at hx
  obtain ⟨b, hb, rfl⟩ := hx
  have := decDigits_dig n.toNat b hb
  exact digI_iff.2 (by omega)
def tnum (s : ByteArray) : Int × Bool := match Lib.atoiAll s.data.toList with
  | .ok v => if (money v && (numT v == s)) = true then (v, true) else (0, false)
  | _ => (0, false)
theorem impl_TextNum_val (s : ByteArray) (hs : s.size ≤ 4000000) : impl_TextNum s = some (tnum s) := by
  unfold impl_TextNum tnum
  rw [if_pos (decide_eq_true (by omega))]
  cases hv : Lib.atoiAll s.data.toList with
  | ok v =>
    simp only [isMoney_val, Option.bind_some]
    rcases tf (money v) with q | q
    · simp only [q, if_true, impl_NumText_val, Option.bind_some, Bool.true_and]
      rcases tf (numT v == s) with p | p <;> simp only [p, if_true, Bool.false_eq_true, if_false]
    · simp only [q, Bool.false_eq_true, if_false, Bool.false_and]
  | «syntax» => rfl
  | range => rfl
theorem numF_mono : ∀ (l : List Int) (n : Int), (∀ x ∈ l, digI x = true) → 0 ≤ n → n ≤ numF n l
  | [], n, _, h0 => Int.le_refl n
  | x :: t, n, hd, h0 => by
    have hx := digI_iff.1 (hd x (by simp))
    have := numF_mono t (n * 10 + (x - 48)) (fun y hy => hd y (by simp [hy])) (by omega)
    rw [numF_cons]
    omega
theorem spec_TextNum_l0_val (s : ByteArray) (hs : s.size ≤ 4000000) (hd : ∀ x ∈ sbytes s, digI x = true) : ∀ (fuel v : Nat) (n : Int), v ≤ s.size → s.size - v < fuel → 0 ≤ n → n ≤ 4611686018427387904 →
    spec_TextNum_l0 s fuel n (v : Int) = some (if numF n ((sbytes s).drop v) ≤ 4611686018427387904 then .out (numF n ((sbytes s).drop v)) else .ret ())
  | 0, v, n, _, hf, _, _ => by omega
  | fuel + 1, v, n, h, hf, h0, h1 => by
    unfold spec_TextNum_l0
    by_cases hv : v < s.size
    · have hl : v < (sbytes s).length := by rw [sbytes_len]; exact hv
      have hx := digI_iff.1 (hd _ (List.getElem_mem hl))
      have he : (sbytes s)[v] = sAt s (v : Int) := by
        have := sAt_get s hv
        rw [List.getElem?_eq_getElem hl] at this
        exact Option.some.inj this
      have hdr : ∀ x ∈ (sbytes s).drop (v + 1), digI x = true := fun x hx => hd x (List.mem_of_mem_drop hx)
      rw [List.drop_eq_getElem_cons hl, numF_cons, he]
      rw [he] at hx
      have hi' : i64 ((v : Int) + 1) = ((v + 1 : Nat) : Int) := by rw [i64_of (by omega) (by omega)]; omega
      generalize sAt s (v : Int) = x at *
      have e1 : i64 x = x := i64_of (by omega) (by omega)
      have e2 : i64 (x - 48) = x - 48 := i64_of (by omega) (by omega)
      have e3 : i64 (4611686018427387904 - (x - 48)) = 4611686018427387904 - (x - 48) := i64_of (by omega) (by omega)
      have e4 : Int.tdiv (4611686018427387904 - (x - 48)) 10 = (4611686018427387904 - (x - 48)) / 10 := Int.tdiv_eq_ediv_of_nonneg (by omega)
      have e5 : i64 ((4611686018427387904 - (x - 48)) / 10) = (4611686018427387904 - (x - 48)) / 10 := i64_of (by omega) (by omega)
      simp only [show (v : Int) < (s.size : Int) by omega, show (0 : Int) ≤ (v : Int) by omega, decide_true, if_true, e1, e2, e3, e4, e5]
      by_cases hc : (4611686018427387904 - (x - 48)) / 10 < n
      · have := numF_mono _ (n * 10 + (x - 48)) hdr (by omega)
        simp only [hc, decide_true, if_true]
        rw [if_neg (by omega)]
      · have e6 : i64 (n * 10) = n * 10 := i64_of (by omega) (by omega)
        have e7 : i64 (n * 10 + (x - 48)) = n * 10 + (x - 48) := i64_of (by omega) (by omega)
        simp only [hc, decide_false, Bool.false_eq_true, if_false, e6, e7, hi']
        exact spec_TextNum_l0_val s hs hd fuel (v + 1) (n * 10 + (x - 48)) (by omega) (by omega) (by omega) (by omega)
    · have : (sbytes s).drop v = [] := List.drop_eq_nil_of_le (by rw [sbytes_len]; omega)
      rw [this]
      simp only [show ¬ (v : Int) < (s.size : Int) by omega, decide_false, Bool.false_eq_true, if_false]
      rw [if_pos (show numF n [] ≤ _ from h1)]
      rfl
theorem tnum_off {s : ByteArray} (h : digB s = false ∨ 19 < s.size) : tnum s = (0, false) := by
  unfold tnum
  split
  · rename_i v hv
    rcases tf (money v && (numT v == s)) with q | q
    · simp only [Bool.and_eq_true, beqB, decide_eq_true_eq] at q
      have h1 := numT_digB q.1
      have h2 := (numT_dig q.1).2.1
      rw [q.2] at h1 h2
      rcases h with h | h
      · rw [h] at h1; cases h1
      · omega
    · simp only [q, Bool.false_eq_true, if_false]
  · rfl
theorem spec_TextNum_val (s : ByteArray) (hs : s.size ≤ 4000000) : spec_TextNum s = some (tnum s) := by
  have d1 := Digits_s s hs
  unfold spec_TextNum
  rw [d1, Option.bind_some]
  rcases tf (digB s) with x | x
  · by_cases h : s.size ≤ 19
    · have hd := (digB_mem x).2
      have L : spec_TextNum_l0 s FUEL 0 0 = some (if numL (sbytes s) ≤ 4611686018427387904 then .out (numL (sbytes s)) else .ret ()) := spec_TextNum_l0_val s hs hd FUEL 0 0 (by omega) (by unfold FUEL; omega) (by omega) (by omega)
      have hm := numF_mono (sbytes s) 0 hd (by omega)
      have ha := atoi_digits2 s x h
      unfold tnum
      rw [ha]
      simp only [x, if_true, show ¬ (19 : Int) < (s.size : Int) by omega, decide_false, Bool.false_eq_true, if_false, L, Option.bind_some]
      have hm : 0 ≤ numL (sbytes s) := hm
      generalize numL (sbytes s) = n at *
      by_cases hn : n ≤ 4611686018427387904
      · have hmo : money n = true := by unfold money; simp; omega
        rw [if_pos hn, if_neg (show ¬ 9223372036854775808 ≤ n by omega)]
        simp only [Lo.elim, spec_NumText_val, Option.bind_some, hmo, Bool.true_and]
        rcases tf (numT n == s) with q | q <;> simp only [q, if_true, Bool.false_eq_true, if_false]
      · have hmo : money n = false := by unfold money; simp; omega
        rw [if_neg hn]
        by_cases h9 : 9223372036854775808 ≤ n
        · rw [if_pos h9]; rfl
        · rw [if_neg h9]
          simp only [Lo.elim, hmo, Bool.false_and, Bool.false_eq_true, if_false]
    · rw [tnum_off (.inr (by omega))]
      simp only [x, if_true, show (19 : Int) < (s.size : Int) by omega, decide_true]
  · rw [tnum_off (.inl x)]
    simp only [x, Bool.false_eq_true, if_false]
def hx (x : Int) : Int := idxbP hexS x
def opB (op : Int) : Bool := decide (1 ≤ op) && decide (op ≤ 8)
theorem op_cases {op : Int} (h : opB op = true) : op = 1 ∨ op = 2 ∨ op = 3 ∨ op = 4 ∨ op = 5 ∨ op = 6 ∨ op = 7 ∨ op = 8 := by
  unfold opB at h
  simp only [Bool.and_eq_true, decide_eq_true_eq] at h
  omega
def nameT (op : Int) : ByteArray := if opB op = true then [bs [], bs [97, 117, 116, 104], bs [109, 111, 114, 101], bs [112, 97, 114, 116], bs [102, 105, 110, 97, 108], bs [102, 114, 101, 101], bs [109, 111, 118, 101], bs [97, 115, 107], bs [115, 119, 101, 101, 112]].getD op.toNat (bs []) else bs []
def mtiT (op : Int) : ByteArray := if opB op = true then [bs [], bs [48, 49, 48, 48], bs [48, 49, 48, 48], bs [48, 50, 50, 48], bs [48, 50, 50, 48], bs [48, 50, 50, 48], bs [48, 50, 48, 48], bs [48, 49, 48, 48], bs [48, 50, 48, 48]].getD op.toNat (bs []) else bs []
def holdB (op : Int) : Bool := opB op && decide (op < 7)
def amtB (op : Int) : Bool := decide (1 ≤ op) && decide (op ≤ 4)
theorem l11Op_val (op : Int) : spec_l11Op op = some (opB op) := by unfold spec_l11Op; rw [l01In_val]; rfl
theorem l11Hold_val (op : Int) : spec_l11Hold op = some (holdB op) := by
  unfold spec_l11Hold holdB
  rw [l11Op_val]
  rcases tf (opB op) with h | h <;> simp [h]
theorem l11Amount_val (op : Int) : spec_l11Amount op = some (amtB op) := by unfold spec_l11Amount; rw [l01In_val]; rfl
theorem spec_OpName_val (op : Int) : spec_OpName op = some (nameT op) := by
  rcases tf (opB op) with h | h
  · rcases op_cases h with rfl | rfl | rfl | rfl | rfl | rfl | rfl | rfl <;> decide +kernel
  · unfold spec_OpName nameT
    rw [l11Op_val, h]
    rfl
theorem spec_OpMti_val (op : Int) : spec_OpMti op = some (mtiT op) := by
  rcases tf (opB op) with h | h
  · rcases op_cases h with rfl | rfl | rfl | rfl | rfl | rfl | rfl | rfl <;> decide +kernel
  · unfold spec_OpMti mtiT
    rw [l11Op_val, h]
    rfl
theorem impl_opOf_val (op : Int) : ∃ r, impl_opOf op = some r ∧ r.name = nameT op ∧ r.mti = mtiT op ∧ (r.name == bs []) = !(opB op) ∧ slices_Contains_int r.fields 38 = some (holdB op) ∧ slices_Contains_int r.fields 4 = some (amtB op) ∧ slices_Contains_int r.fields 14 = some (op == 1) ∧ slices_Contains_int r.fields 103 = some (op == 6) := by
  rcases tf (opB op) with h | h
  · rcases op_cases h with rfl | rfl | rfl | rfl | rfl | rfl | rfl | rfl <;> exact ⟨_, rfl, by decide +kernel, by decide +kernel, by decide +kernel, by decide +kernel, by decide +kernel, by decide +kernel, by decide +kernel⟩
  · have h' := h
    unfold opB at h'
    have n1 : (op == 1) = false := by
      rw [beq_eq_false_iff_ne]
      rintro rfl
      exact absurd h' (by decide)
    have n6 : (op == 6) = false := by
      rw [beq_eq_false_iff_ne]
      rintro rfl
      exact absurd h' (by decide)
    have na : amtB op = false := by
      unfold amtB
      rcases tf (decide (1 ≤ op) && decide (op ≤ 4)) with q | q
      · simp only [Bool.and_eq_true, decide_eq_true_eq] at q
        simp only [Bool.and_eq_false_iff, decide_eq_false_iff_not] at h'
        omega
      · exact q
    refine ⟨⟨ByteArray.empty, ByteArray.empty, ByteArray.empty, []⟩, ?_, ?_, ?_, ?_, ?_, ?_, ?_, ?_⟩
    · unfold impl_opOf
      rw [within_val, h']
      rfl
    · unfold nameT; rw [h]; rfl
    · unfold mtiT; rw [h]; rfl
    · rw [h]; decide +kernel
    · rw [show holdB op = false by unfold holdB; rw [h]; rfl]; decide +kernel
    · rw [na]; decide +kernel
    · rw [n1]; decide +kernel
    · rw [n6]; decide +kernel
theorem uses_val (op : Int) : impl_uses op 38 = some (holdB op) ∧ impl_uses op 4 = some (amtB op) ∧ impl_uses op 14 = some (op == 1) ∧ impl_uses op 103 = some (op == 6) := by
  obtain ⟨r, e, _, _, _, e1, e2, e3, e4⟩ := impl_opOf_val op
  unfold impl_uses
  simp only [e, Option.bind_some, e1, e2, e3, e4, and_self]
theorem impl_OpName_val (op : Int) : impl_OpName op = some (nameT op) := by
  obtain ⟨r, e, e1, _⟩ := impl_opOf_val op
  unfold impl_OpName
  simp only [e, Option.bind_some, e1]
theorem isWide6_val (s : ByteArray) (hs : s.size ≤ 4000000) (n : Int) : ∃ d, spec_Digits s = some d ∧ impl_isWide s n = some (d && !((s.size : Int) != n)) := by
  obtain ⟨d, e1, e2, _⟩ := Digits_tot s hs
  refine ⟨d, e1, ?_⟩
  unfold impl_isWide
  simp only [e2, Option.bind_some]
  rcases tf d with h | h
  · rcases tf ((s.size : Int) == n) with q | q <;> simp [h, q, bne]
  · simp [h]
/-- What makes a request valid. -/
structure RqB where
  a : Bool
  d : Bool
  h : Bool
  o : Bool
def rqOk (q : Req) (r : RqB) : Bool :=
  (opB q.Op && ((q.Mti == mtiT q.Op) && (r.a && (r.d && !((q.Trace.size : Int) != 6))))) &&
  ((if holdB q.Op = true then r.h else (q.Hold == bs [])) && ((if amtB q.Op = true then (decide (0 ≤ q.Amount) && decide (q.Amount ≤ 999999999999)) else (q.Amount == 0)) &&
    ((if (q.Op == 1) = true then (decide (0 ≤ q.Ttl) && decide (q.Ttl ≤ 9999)) else (q.Ttl == 0)) && (if (q.Op == 6) = true then r.o else (q.Other == bs [])))))
def rqB (q : Req) : RqB := ⟨(spec_AcctIdOk q.Acct).getD false, (spec_Digits q.Trace).getD false, (spec_HoldIdOk q.Hold).getD false, (spec_AcctIdOk q.Other).getD false⟩
theorem rqB_val (q : Req) (h1 : q.Trace.size ≤ 4000000) (h2 : q.Hold.size ≤ 4000000) : spec_AcctIdOk q.Acct = some (rqB q).a ∧ spec_AcctIdOk q.Other = some (rqB q).o ∧ spec_Digits q.Trace = some (rqB q).d ∧ spec_HoldIdOk q.Hold = some (rqB q).h := by
  obtain ⟨a, a1, a2, _⟩ := AcctIdOk_eq q.Acct
  obtain ⟨o, o1, o2, _⟩ := AcctIdOk_eq q.Other
  obtain ⟨d, d1, d2⟩ := isWide6_val q.Trace h1 6
  obtain ⟨h, t1, t2, _⟩ := HoldIdOk_tot q.Hold h2
  have hr : rqB q = ⟨a, d, h, o⟩ := by unfold rqB; rw [a1, d1, t1, o1]; rfl
  rw [hr]
  exact ⟨a1, o1, d1, t1⟩
theorem ReqOk_s (q : Req) (h1 : q.Trace.size ≤ 4000000) (h2 : q.Hold.size ≤ 4000000) : spec_ReqOk q = some (rqOk q (rqB q)) := by
  obtain ⟨a, a1, a2, _⟩ := AcctIdOk_eq q.Acct
  obtain ⟨o, o1, o2, _⟩ := AcctIdOk_eq q.Other
  obtain ⟨d, d1, d2⟩ := isWide6_val q.Trace h1 6
  obtain ⟨h, t1, t2, _⟩ := HoldIdOk_tot q.Hold h2
  have hr : rqB q = ⟨a, d, h, o⟩ := by unfold rqB; rw [a1, d1, t1, o1]; rfl
  rw [hr]
  have c0 : spec_ReqOk_c0 q = some (if (opB q.Op && ((q.Mti == mtiT q.Op) && (a && (d && !((q.Trace.size : Int) != 6))))) = true then .out () else .ret ()) := by
    unfold spec_ReqOk_c0
    simp only [l11Op_val, spec_OpMti_val, a1, d1, Option.bind_some]
    rcases tf (opB q.Op) with x1 | x1 <;> rcases tf (q.Mti == mtiT q.Op) with x2 | x2 <;> rcases tf a with x3 | x3 <;> rcases tf d with x4 | x4 <;> rcases tf ((q.Trace.size : Int) != 6) with x5 | x5 <;> simp only [x1, x2, x3, x4, x5, if_true, if_false, Bool.false_eq_true, Bool.and_true, Bool.and_false, Bool.true_and, Bool.false_and, Bool.not_true, Bool.not_false]
  have c1 : spec_ReqOk_c1 q = some (if (if holdB q.Op = true then h else (q.Hold == bs [])) = true then .out () else .ret ()) := by
    unfold spec_ReqOk_c1
    simp only [l11Hold_val, t1, Option.bind_some]
    rcases tf (holdB q.Op) with x1 | x1 <;> rcases tf h with x2 | x2 <;> rcases tf (q.Hold == bs []) with x3 | x3 <;> simp only [x1, x2, x3, if_true, if_false, Bool.false_eq_true]
  have c2 : spec_ReqOk_c2 q = some (if (if amtB q.Op = true then (decide (0 ≤ q.Amount) && decide (q.Amount ≤ 999999999999)) else (q.Amount == 0)) = true then .out () else .ret ()) := by
    unfold spec_ReqOk_c2
    simp only [l11Amount_val, l01In_val, Option.bind_some, bne]
    rcases tf (amtB q.Op) with x1 | x1 <;> rcases tf (decide (0 ≤ q.Amount) && decide (q.Amount ≤ 999999999999)) with x2 | x2 <;> rcases tf (q.Amount == 0) with x3 | x3 <;> simp only [x1, x2, x3, if_true, if_false, Bool.false_eq_true, Bool.not_true, Bool.not_false]
  have c3 : spec_ReqOk_c3 q = some (if (if (q.Op == 1) = true then (decide (0 ≤ q.Ttl) && decide (q.Ttl ≤ 9999)) else (q.Ttl == 0)) = true then .out () else .ret ()) := by
    unfold spec_ReqOk_c3
    simp only [l01In_val, Option.bind_some, bne]
    rcases tf (q.Op == 1) with x1 | x1 <;> rcases tf (decide (0 ≤ q.Ttl) && decide (q.Ttl ≤ 9999)) with x2 | x2 <;> rcases tf (q.Ttl == 0) with x3 | x3 <;> simp only [x1, x2, x3, if_true, if_false, Bool.false_eq_true, Bool.not_true, Bool.not_false]
  unfold spec_ReqOk rqOk
  rw [c0, c1, c2, c3, o1]
  generalize (opB q.Op && ((q.Mti == mtiT q.Op) && (a && (d && !((q.Trace.size : Int) != 6))))) = y0
  generalize (if holdB q.Op = true then h else (q.Hold == bs [])) = y1
  generalize (if amtB q.Op = true then (decide (0 ≤ q.Amount) && decide (q.Amount ≤ 999999999999)) else (q.Amount == 0)) = y2
  generalize (if (q.Op == 1) = true then (decide (0 ≤ q.Ttl) && decide (q.Ttl ≤ 9999)) else (q.Ttl == 0)) = y3
  cases y0 <;> cases y1 <;> cases y2 <;> cases y3 <;> simp only [if_true, if_false, Bool.false_eq_true, Option.bind_some, Lo.elim, Bool.and_true, Bool.and_false, Bool.true_and, Bool.false_and]
  rcases tf (q.Op == 6) with x1 | x1 <;> cases o <;> simp [x1, bne]
theorem ReqOk_i (q : Req) (h1 : q.Trace.size ≤ 4000000) (h2 : q.Hold.size ≤ 4000000) : impl_ReqOk q = some (rqOk q (rqB q)) := by
  obtain ⟨a, a1, a2, _⟩ := AcctIdOk_eq q.Acct
  obtain ⟨o, o1, o2, _⟩ := AcctIdOk_eq q.Other
  obtain ⟨d, d1, d2⟩ := isWide6_val q.Trace h1 6
  obtain ⟨h, t1, t2, _⟩ := HoldIdOk_tot q.Hold h2
  obtain ⟨r, e, e1, e2, e3, e4, e5, e6, e7⟩ := impl_opOf_val q.Op
  obtain ⟨u1, u2, u3, u4⟩ := uses_val q.Op
  have hr : rqB q = ⟨a, d, h, o⟩ := by unfold rqB; rw [a1, d1, t1, o1]; rfl
  rw [hr]
  have c0 : impl_ReqOk_c0 q r = some (if (opB q.Op && ((q.Mti == mtiT q.Op) && (a && (d && !((q.Trace.size : Int) != 6))))) = true then .out () else .ret ()) := by
    unfold impl_ReqOk_c0
    simp only [e2, e3, a2, d2, Option.bind_some]
    rcases tf (opB q.Op) with x1 | x1 <;> rcases tf (q.Mti == mtiT q.Op) with x2 | x2 <;> rcases tf a with x3 | x3 <;> rcases tf (d && !((q.Trace.size : Int) != 6)) with x4 | x4 <;> simp only [x1, x2, x3, x4, if_true, if_false, Bool.false_eq_true, Bool.and_true, Bool.and_false, Bool.true_and, Bool.false_and, Bool.not_true, Bool.not_false]
  have c1 : impl_ReqOk_c1 q = some (if holdB q.Op = true then h else (q.Hold == bs [])) := by
    unfold impl_ReqOk_c1
    simp only [u1, t2, Option.bind_some]
    rcases tf (holdB q.Op) with x1 | x1 <;> simp only [x1, if_true, if_false, Bool.false_eq_true]
  have c2 : ∀ y1, impl_ReqOk_c2 q y1 = some (if amtB q.Op = true then (decide (0 ≤ q.Amount) && decide (q.Amount ≤ 999999999999)) else (q.Amount == 0)) := fun y1 => by
    unfold impl_ReqOk_c2
    simp only [u2, within_val, Option.bind_some]
    rcases tf (amtB q.Op) with x1 | x1 <;> simp only [x1, if_true, if_false, Bool.false_eq_true]
  have c3 : ∀ y1 y2, impl_ReqOk_c3 q y1 y2 = some (if (q.Op == 1) = true then (decide (0 ≤ q.Ttl) && decide (q.Ttl ≤ 9999)) else (q.Ttl == 0)) := fun y1 y2 => by
    unfold impl_ReqOk_c3
    simp only [u3, within_val, Option.bind_some]
    rcases tf (q.Op == 1) with x1 | x1 <;> simp only [x1, if_true, if_false, Bool.false_eq_true]
  have c4 : ∀ y1 y2 y3, impl_ReqOk_c4 q y1 y2 y3 = some (if (q.Op == 6) = true then o else (q.Other == bs [])) := fun y1 y2 y3 => by
    unfold impl_ReqOk_c4
    simp only [u4, o2, Option.bind_some]
    rcases tf (q.Op == 6) with x1 | x1 <;> simp only [x1, if_true, if_false, Bool.false_eq_true]
  unfold impl_ReqOk rqOk
  rw [e, Option.bind_some, c0, c1]
  simp only [c2, c3, c4]
  generalize (opB q.Op && ((q.Mti == mtiT q.Op) && (a && (d && !((q.Trace.size : Int) != 6))))) = y0
  generalize (if holdB q.Op = true then h else (q.Hold == bs [])) = y1
  generalize (if amtB q.Op = true then (decide (0 ≤ q.Amount) && decide (q.Amount ≤ 999999999999)) else (q.Amount == 0)) = y2
  generalize (if (q.Op == 1) = true then (decide (0 ≤ q.Ttl) && decide (q.Ttl ≤ 9999)) else (q.Ttl == 0)) = y3
  generalize (if (q.Op == 6) = true then o else (q.Other == bs [])) = y4
  cases y0 <;> cases y1 <;> cases y2 <;> cases y3 <;> simp only [if_true, if_false, Bool.false_eq_true, Option.bind_some, Lo.elim, Bool.and_true, Bool.and_false, Bool.true_and, Bool.false_and]
theorem ReqOk_tot (q : Req) (h1 : q.Trace.size ≤ 4000000) (h2 : q.Hold.size ≤ 4000000) : ∃ r, spec_ReqOk q = some (rqOk q r) ∧ impl_ReqOk q = some (rqOk q r) ∧ spec_AcctIdOk q.Acct = some r.a ∧ spec_AcctIdOk q.Other = some r.o ∧ spec_Digits q.Trace = some r.d ∧ spec_HoldIdOk q.Hold = some r.h :=
  ⟨rqB q, ReqOk_s q h1 h2, ReqOk_i q h1 h2, rqB_val q h1 h2⟩
theorem nameT_size (op : Int) : (nameT op).size ≤ 5 := by
  rcases tf (opB op) with h | h
  · rcases op_cases h with rfl | rfl | rfl | rfl | rfl | rfl | rfl | rfl <;> decide +kernel
  · unfold nameT; rw [h]; exact Nat.zero_le 5
/-- A request's words. -/
def reqWords (q : Req) : List ByteArray :=
  [nameT q.Op, q.Acct, q.Trace] ++ ((if holdB q.Op = true then [q.Hold] else []) ++ ((if amtB q.Op = true then [numT q.Amount] else []) ++ ((if (q.Op == 1) = true then [numT q.Ttl] else []) ++ (if (q.Op == 6) = true then [q.Other] else []))))
def reqT (q : Req) : ByteArray := sepT (bs [32]) (reqWords q)
theorem sepT_app (sep : ByteArray) (l : List ByteArray) (y : ByteArray) (h : l ≠ []) : sepT sep (l ++ [y]) = (sepT sep l ++ sep) ++ y := by
  cases l with
  | nil => exact absurd rfl h
  | cons x t =>
    show x ++ ((t ++ [y]).foldr (fun y r => (sep ++ y) ++ r) (bs [])) = ((x ++ t.foldr (fun y r => (sep ++ y) ++ r) (bs [])) ++ sep) ++ y
    clear h
    rw [ba_assoc, ba_assoc]
    congr 1
    induction t with
    | nil => simp [ba_app_nil, ba_nil_app]
    | cons z t ih => rw [List.cons_append, List.foldr_cons, ih, List.foldr_cons]; simp only [ba_assoc]
theorem ReqText_val (q : Req) (hw : wtReq q ≤ 1048576) : ∃ y, spec_ReqText q = some y ∧ impl_ReqText q = some y ∧ y.size ≤ 400000000 := by
  unfold wtReq at hw
  obtain ⟨r, e1, e2, _⟩ := ReqOk_tot q (by omega) (by omega)
  obtain ⟨u1, u2, u3, u4⟩ := uses_val q.Op
  have n1 := nameT_size q.Op
  have n2 := numT_size q.Amount
  have n3 := numT_size q.Ttl
  have b1 : (bs [32]).size = 1 := rfl
  have c0 : spec_ReqText_c0 q = some (if rqOk q r = true then .out () else .ret ()) ∧ impl_ReqText_c0 q = some (if rqOk q r = true then .out () else .ret ()) := by
    unfold spec_ReqText_c0 impl_ReqText_c0
    simp only [e1, e2, Option.bind_some]
    rcases tf (rqOk q r) with x | x <;> simp only [x, if_true, if_false, Bool.false_eq_true, and_self]
  rcases tf (rqOk q r) with x | x
  · have hsz : wtL (fun s : ByteArray => s.size) (reqWords q) ≤ 40000000 := by
      unfold reqWords
      rcases tf (holdB q.Op) with x1 | x1 <;> rcases tf (amtB q.Op) with x2 | x2 <;> rcases tf (q.Op == 1) with x3 | x3 <;> rcases tf (q.Op == 6) with x4 | x4 <;> simp [x1, x2, x3, x4, wtL] <;> omega
    have hy : (reqT q).size ≤ 400000000 := by
      have := sepT_size (bs [32]) rfl (reqWords q)
      unfold reqT; omega
    refine ⟨reqT q, ?_, ?_, hy⟩
    · have base : (((nameT q.Op ++ bs [32]) ++ q.Acct) ++ bs [32]) ++ q.Trace = sepT (bs [32]) [nameT q.Op, q.Acct, q.Trace] := by
        have := sepT_app (bs [32]) [nameT q.Op, q.Acct] q.Trace (by simp)
        rw [show [nameT q.Op, q.Acct] ++ [q.Trace] = [nameT q.Op, q.Acct, q.Trace] from rfl] at this
        rw [this]
        have := sepT_app (bs [32]) [nameT q.Op] q.Acct (by simp)
        rw [show [nameT q.Op] ++ [q.Acct] = [nameT q.Op, q.Acct] from rfl] at this
        rw [this]
        show _ = ((((nameT q.Op ++ bs []) ++ bs [32]) ++ q.Acct) ++ bs [32]) ++ q.Trace
        rw [ba_app_nil]
      have bsz : ((((nameT q.Op ++ bs [32]) ++ q.Acct) ++ bs [32]) ++ q.Trace).size ≤ 9000000 := by simp only [size_app, b1]; omega
      have c1 : spec_ReqText_c1 q (nameT q.Op) = some (sepT (bs [32]) ([nameT q.Op, q.Acct, q.Trace] ++ (if holdB q.Op = true then [q.Hold] else []))) := by
        unfold spec_ReqText_c1
        rw [l11Hold_val, Option.bind_some, base]
        rw [base] at bsz
        rcases tf (holdB q.Op) with x1 | x1
        · rw [x1, if_pos rfl, if_pos rfl, if_pos (decide_eq_true (by rw [b1]; omega)), if_pos (decide_eq_true (by rw [size_app, b1]; omega)), sepT_app _ _ _ (by simp)]
        · rw [x1, if_neg (by decide), if_neg (by decide), List.append_nil]
      have step : ∀ (c : Bool) (l : List ByteArray) (y : ByteArray), l ≠ [] → (if c = true then (sepT (bs [32]) l ++ bs [32]) ++ y else sepT (bs [32]) l) = sepT (bs [32]) (l ++ (if c = true then [y] else [])) := fun c l y hl => by
        cases c with
        | true => rw [if_pos rfl, if_pos rfl, sepT_app _ _ _ hl]
        | false => rw [if_neg (by decide), if_neg (by decide), List.append_nil]
      have c2 : ∀ r : ByteArray, r.size ≤ 100000000 → spec_ReqText_c2 q r = some (if amtB q.Op = true then (r ++ bs [32]) ++ numT q.Amount else r) := fun r hr => by
        unfold spec_ReqText_c2
        rw [l11Amount_val, Option.bind_some]
        rcases tf (amtB q.Op) with x1 | x1
        · simp only [x1, if_true, spec_NumText_val, Option.bind_some]
          rw [if_pos (decide_eq_true (by rw [b1]; omega)), if_pos (decide_eq_true (by rw [size_app, b1]; omega))]
        · simp only [x1, if_false, Bool.false_eq_true]
      have c3 : ∀ r : ByteArray, r.size ≤ 100000000 → spec_ReqText_c3 q r = some (if (q.Op == 1) = true then (r ++ bs [32]) ++ numT q.Ttl else r) := fun r hr => by
        unfold spec_ReqText_c3
        rcases tf (q.Op == 1) with x1 | x1
        · simp only [x1, if_true, spec_NumText_val, Option.bind_some]
          rw [if_pos (decide_eq_true (by rw [b1]; omega)), if_pos (decide_eq_true (by rw [size_app, b1]; omega))]
        · simp only [x1, if_false, Bool.false_eq_true]
      have c4 : ∀ r : ByteArray, r.size ≤ 100000000 → spec_ReqText_c4 q r = some (if (q.Op == 6) = true then (r ++ bs [32]) ++ q.Other else r) := fun r hr => by
        unfold spec_ReqText_c4
        rcases tf (q.Op == 6) with x1 | x1
        · simp only [x1, if_true]
          rw [if_pos (decide_eq_true (by rw [b1]; omega)), if_pos (decide_eq_true (by rw [size_app, b1]; omega))]
        · simp only [x1, if_false, Bool.false_eq_true]
      have hp : ∀ l m : List ByteArray, l ++ m = reqWords q → (sepT (bs [32]) l).size ≤ 100000000 := fun l m e => by
        have h1 := sepT_size (bs [32]) rfl l
        have h2 := wtL_app (fun s : ByteArray => s.size) l m
        rw [e] at h2
        omega
      unfold spec_ReqText
      simp only [c0.1, x, spec_OpName_val, Option.bind_some, if_true, Lo.elim, size_app, b1, show (nameT q.Op).size + 1 ≤ 9223372036854775807 by omega, show (nameT q.Op).size + 1 + q.Acct.size ≤ 9223372036854775807 by omega, show (nameT q.Op).size + 1 + q.Acct.size + 1 ≤ 9223372036854775807 by omega, show (nameT q.Op).size + 1 + q.Acct.size + 1 + q.Trace.size ≤ 9223372036854775807 by omega, decide_true, c1]
      rw [c2 _ (hp _ _ (by unfold reqWords; rw [List.append_assoc])), Option.bind_some, step _ _ _ (by simp)]
      rw [c3 _ (hp _ _ (by unfold reqWords; simp only [List.append_assoc]; rfl)), Option.bind_some, step _ _ _ (by simp)]
      rw [c4 _ (hp _ _ (by unfold reqWords; simp only [List.append_assoc]; rfl)), Option.bind_some, step _ _ _ (by simp)]
      unfold reqT reqWords
      simp only [List.append_assoc]
    · unfold impl_ReqText impl_ReqText_c1 impl_ReqText_c2 impl_ReqText_c3 impl_ReqText_c4
      have hj : ∀ l, l = reqWords q → strings_Join l (bs [32]) = some (reqT q) := fun l hl => by
        rw [hl]
        exact Join_val (bs [32]) rfl _ (by omega)
      simp only [c0.2, x, impl_OpName_val, u1, u2, u3, u4, impl_NumText_val, Option.bind_some, if_true, Lo.elim]
      unfold reqWords at hj
      rcases tf (holdB q.Op) with x1 | x1 <;> rcases tf (amtB q.Op) with x2 | x2 <;> rcases tf (q.Op == 1) with x3 | x3 <;> rcases tf (q.Op == 6) with x4 | x4 <;>
        simp only [x1, x2, x3, x4, if_true, if_false, Bool.false_eq_true, Option.bind_some, List.append_nil, List.nil_append, List.cons_append] at hj ⊢ <;>
        (repeat (rw [if_pos (capOk_of (by simp))])) <;> (try simp only [Option.bind_some, List.cons_append, List.nil_append]) <;> (repeat (rw [if_pos (capOk_of (by simp))])) <;> (try simp only [Option.bind_some, List.cons_append, List.nil_append]) <;>
        (repeat (rw [if_pos (capOk_of (by simp))])) <;> (try simp only [Option.bind_some, List.cons_append, List.nil_append]) <;> rw [hj _ rfl] <;> rfl
  · refine ⟨bs [], ?_, ?_, by decide⟩
    · unfold spec_ReqText
      simp only [c0.1, x, Option.bind_some, if_false, Bool.false_eq_true, Lo.elim]
    · unfold impl_ReqText
      simp only [c0.2, x, Option.bind_some, if_false, Bool.false_eq_true, Lo.elim]
/-- The fields that an operation names. -/
def opF (op : Int) : List Int :=
  if (op == 1) = true then [4, 14, 38] else if ((op == 2) || (op == 3) || (op == 4)) = true then [4, 38] else if (op == 5) = true then [38] else if (op == 6) = true then [38, 103] else []
theorem impl_opOf_fields (op : Int) (h : op = 0 ∨ opB op = true) : ∃ r, impl_opOf op = some r ∧ r.fields = opF op := by
  rcases h with rfl | h
  · exact ⟨_, rfl, rfl⟩
  · rcases op_cases h with rfl | rfl | rfl | rfl | rfl | rfl | rfl | rfl <;> exact ⟨_, rfl, rfl⟩
def noReq : Req := ⟨0, ByteArray.empty, ByteArray.empty, ByteArray.empty, ByteArray.empty, ByteArray.empty, 0, 0⟩
def reqOkG (q : Req) : Bool := rqOk q (rqB q)
theorem reqOkG_true {q : Req} (h1 : q.Trace.size ≤ 4000000) (h2 : q.Hold.size ≤ 4000000) (h : reqOkG q = true) : opB q.Op = true ∧ spec_AcctIdOk q.Acct = some true ∧ spec_Digits q.Trace = some true ∧ (holdB q.Op = true → spec_HoldIdOk q.Hold = some true) ∧ ((q.Op == 6) = true → spec_AcctIdOk q.Other = some true) := by
  obtain ⟨e3, e4, e5, e6⟩ := rqB_val q h1 h2
  have hr : rqOk q (rqB q) = true := h
  unfold rqOk at hr
  simp only [Bool.and_eq_true] at hr
  obtain ⟨⟨g1, g2, g3, g4, g5⟩, g6, g7, g8, g9⟩ := hr
  refine ⟨g1, by rw [e3, g3], by rw [e5, g4], fun hh => ?_, fun hh => ?_⟩
  · rw [if_pos hh] at g6; rw [e6, g6]
  · rw [if_pos hh] at g9; rw [e4, g9]
theorem impl_OpMti_val (op : Int) (h : opB op = true) : impl_OpMti op = some (mtiT op) := by
  rcases op_cases h with rfl | rfl | rfl | rfl | rfl | rfl | rfl | rfl <;> decide +kernel
theorem reqT_size (q : Req) (h1 : q.Trace.size ≤ 4000000) (h2 : q.Hold.size ≤ 4000000) (h3 : q.Acct.size ≤ 4000000) (h4 : q.Other.size ≤ 4000000) : wtL (fun s : ByteArray => s.size) (reqWords q) ≤ 40000000 := by
  have n1 := nameT_size q.Op
  have n2 := numT_size q.Amount
  have n3 := numT_size q.Ttl
  unfold reqWords
  rcases tf (holdB q.Op) with x1 | x1 <;> rcases tf (amtB q.Op) with x2 | x2 <;> rcases tf (q.Op == 1) with x3 | x3 <;> rcases tf (q.Op == 6) with x4 | x4 <;> simp [x1, x2, x3, x4, wtL] <;> omega
theorem ReqText_i (q : Req) (h1 : q.Trace.size ≤ 4000000) (h2 : q.Hold.size ≤ 4000000) (h3 : q.Acct.size ≤ 4000000) (h4 : q.Other.size ≤ 4000000) (hk : rqOk q (rqB q) = true) : impl_ReqText q = some (reqT q) := by
  have hsz := reqT_size q h1 h2 h3 h4
  obtain ⟨u1, u2, u3, u4⟩ := uses_val q.Op
  have c0 : impl_ReqText_c0 q = some (.out ()) := by
    unfold impl_ReqText_c0
    rw [ReqOk_i q h1 h2, hk]
    rfl
  unfold impl_ReqText impl_ReqText_c1 impl_ReqText_c2 impl_ReqText_c3 impl_ReqText_c4
  have hj : ∀ l, l = reqWords q → strings_Join l (bs [32]) = some (reqT q) := fun l hl => by
    rw [hl]
    exact Join_val (bs [32]) rfl _ (by omega)
  simp only [c0, impl_OpName_val, u1, u2, u3, u4, impl_NumText_val, Option.bind_some, if_true, Lo.elim]
  unfold reqWords at hj
  rcases tf (holdB q.Op) with x1 | x1 <;> rcases tf (amtB q.Op) with x2 | x2 <;> rcases tf (q.Op == 1) with x3 | x3 <;> rcases tf (q.Op == 6) with x4 | x4 <;>
    simp only [x1, x2, x3, x4, if_true, if_false, Bool.false_eq_true, Option.bind_some, List.append_nil, List.nil_append, List.cons_append] at hj ⊢ <;>
    (repeat (rw [if_pos (capOk_of (by simp))])) <;> (try simp only [Option.bind_some, List.cons_append, List.nil_append]) <;> (repeat (rw [if_pos (capOk_of (by simp))])) <;> (try simp only [Option.bind_some, List.cons_append, List.nil_append]) <;>
    (repeat (rw [if_pos (capOk_of (by simp))])) <;> (try simp only [Option.bind_some, List.cons_append, List.nil_append]) <;> rw [hj _ rfl] <;> rfl
/-- Words put together and cut again. -/
theorem pcsB_sep : ∀ (l : List ByteArray) (x : ByteArray), (32 : UInt8) ∉ x.data.toList → (∀ y ∈ l, (32 : UInt8) ∉ y.data.toList) → pcsB 32 (sepT (bs [32]) (x :: l)) = x :: l
  | [], x, hx, _ => by
    show pcsB 32 (x ++ bs []) = [x]
    rw [ba_app_nil]
    unfold pcsB
    rw [pcs_none hx, List.map_cons, List.map_nil, mkB_data]
  | y :: t, x, hx, hl => by
    have ih := pcsB_sep t y (hl y (by simp)) (fun z hz => hl z (by simp [hz]))
    have e : (sepT (bs [32]) (x :: y :: t)).data.toList = x.data.toList ++ 32 :: (sepT (bs [32]) (y :: t)).data.toList := by
      show (x ++ ((bs [32] ++ y) ++ t.foldr (fun y r => (bs [32] ++ y) ++ r) (bs []))).data.toList = _
      rw [ba_app, ba_assoc, ba_app]
      rfl
    unfold pcsB at ih ⊢
    rw [e, pcs_hit _ hx, List.map_cons, mkB_data, ih]
theorem TextReq_1_val (no op : Int) (u : Bool) (h : impl_uses op no = some u) (l : List ByteArray) (x : ByteArray) : impl_TextReq_1 no op ((if u = true then [x] else []) ++ l) = some (if u = true then x else bs [], l) := by
  unfold impl_TextReq_1
  rw [h, Option.bind_some]
  cases u with
  | true => simp; omega
  | false => simp
def opNm (s : ByteArray) : Int :=
  if (bs [97, 117, 116, 104] == s) = true then 1 else if (bs [109, 111, 114, 101] == s) = true then 2 else if (bs [112, 97, 114, 116] == s) = true then 3 else if (bs [102, 105, 110, 97, 108] == s) = true then 4 else
  if (bs [102, 114, 101, 101] == s) = true then 5 else if (bs [109, 111, 118, 101] == s) = true then 6 else if (bs [97, 115, 107] == s) = true then 7 else if (bs [115, 119, 101, 101, 112] == s) = true then 8 else 0
theorem spec_NameOp_l0_val (s : ByteArray) (n : Nat) : spec_NameOp_l0 s (n + 9) 1 = some (if opNm s = 0 then .out () else .ret (opNm s)) := by
  have e1 : i64 (1 + 1) = 2 := by decide +kernel
  have e2 : i64 (2 + 1) = 3 := by decide +kernel
  have e3 : i64 (3 + 1) = 4 := by decide +kernel
  have e4 : i64 (4 + 1) = 5 := by decide +kernel
  have e5 : i64 (5 + 1) = 6 := by decide +kernel
  have e6 : i64 (6 + 1) = 7 := by decide +kernel
  have e7 : i64 (7 + 1) = 8 := by decide +kernel
  have e8 : i64 (8 + 1) = 9 := by decide +kernel
  have n1 : nameT 1 = bs [97, 117, 116, 104] := by decide +kernel
  have n2 : nameT 2 = bs [109, 111, 114, 101] := by decide +kernel
  have n3 : nameT 3 = bs [112, 97, 114, 116] := by decide +kernel
  have n4 : nameT 4 = bs [102, 105, 110, 97, 108] := by decide +kernel
  have n5 : nameT 5 = bs [102, 114, 101, 101] := by decide +kernel
  have n6 : nameT 6 = bs [109, 111, 118, 101] := by decide +kernel
  have n7 : nameT 7 = bs [97, 115, 107] := by decide +kernel
  have n8 : nameT 8 = bs [115, 119, 101, 101, 112] := by decide +kernel
  have d1 : decide ((1 : Int) ≤ 8) = true := rfl
  have d2 : decide ((2 : Int) ≤ 8) = true := rfl
  have d3 : decide ((3 : Int) ≤ 8) = true := rfl
  have d4 : decide ((4 : Int) ≤ 8) = true := rfl
  have d5 : decide ((5 : Int) ≤ 8) = true := rfl
  have d6 : decide ((6 : Int) ≤ 8) = true := rfl
  have d7 : decide ((7 : Int) ≤ 8) = true := rfl
  have d8 : decide ((8 : Int) ≤ 8) = true := rfl
  have d9 : decide ((9 : Int) ≤ 8) = false := rfl
  unfold opNm
  rw [spec_NameOp_l0, d1, if_pos rfl, spec_OpName_val, Option.bind_some, n1]
  rcases tf (bs [97, 117, 116, 104] == s) with h | h
  · rw [h]; rfl
  simp only [h, Bool.false_eq_true, if_false, e1]
  rw [spec_NameOp_l0, d2, if_pos rfl, spec_OpName_val, Option.bind_some, n2]
  rcases tf (bs [109, 111, 114, 101] == s) with h | h
  · rw [h]; rfl
  simp only [h, Bool.false_eq_true, if_false, e2]
  rw [spec_NameOp_l0, d3, if_pos rfl, spec_OpName_val, Option.bind_some, n3]
  rcases tf (bs [112, 97, 114, 116] == s) with h | h
  · rw [h]; rfl
  simp only [h, Bool.false_eq_true, if_false, e3]
  rw [spec_NameOp_l0, d4, if_pos rfl, spec_OpName_val, Option.bind_some, n4]
  rcases tf (bs [102, 105, 110, 97, 108] == s) with h | h
  · rw [h]; rfl
  simp only [h, Bool.false_eq_true, if_false, e4]
  rw [spec_NameOp_l0, d5, if_pos rfl, spec_OpName_val, Option.bind_some, n5]
  rcases tf (bs [102, 114, 101, 101] == s) with h | h
  · rw [h]; rfl
  simp only [h, Bool.false_eq_true, if_false, e5]
  rw [spec_NameOp_l0, d6, if_pos rfl, spec_OpName_val, Option.bind_some, n6]
  rcases tf (bs [109, 111, 118, 101] == s) with h | h
  · rw [h]; rfl
  simp only [h, Bool.false_eq_true, if_false, e6]
  rw [spec_NameOp_l0, d7, if_pos rfl, spec_OpName_val, Option.bind_some, n7]
  rcases tf (bs [97, 115, 107] == s) with h | h
  · rw [h]; rfl
  simp only [h, Bool.false_eq_true, if_false, e7]
  rw [spec_NameOp_l0, d8, if_pos rfl, spec_OpName_val, Option.bind_some, n8]
  rcases tf (bs [115, 119, 101, 101, 112] == s) with h | h
  · rw [h]; rfl
  simp only [h, Bool.false_eq_true, if_false, e8]
  rw [spec_NameOp_l0, d9]
  rfl
theorem spec_NameOp_val (s : ByteArray) : spec_NameOp s = some (opNm s) := by
  unfold spec_NameOp
  rw [show FUEL = (FUEL - 9) + 9 from rfl, spec_NameOp_l0_val, Option.bind_some]
  by_cases h : opNm s = 0
  · rw [if_pos h, h]; rfl
  · rw [if_neg h]; rfl
theorem impl_NameOp_val (s : ByteArray) : impl_NameOp s = some (opNm s) := by
  unfold impl_NameOp impl_opRows slices_IndexFunc_impl_opRow_impl_NameOp_1 opNm
  simp only [slices_IndexFunc_impl_opRow_impl_NameOp_1_l0, impl_NameOp_1, Option.bind_some]
  rcases tf (bs [97, 117, 116, 104] == s) with h | h
  · simp only [h, if_true]; rfl
  simp only [h, Bool.false_eq_true, if_false]
  rcases tf (bs [109, 111, 114, 101] == s) with h | h
  · simp only [h, if_true]; rfl
  simp only [h, Bool.false_eq_true, if_false]
  rcases tf (bs [112, 97, 114, 116] == s) with h | h
  · simp only [h, if_true]; rfl
  simp only [h, Bool.false_eq_true, if_false]
  rcases tf (bs [102, 105, 110, 97, 108] == s) with h | h
  · simp only [h, if_true]; rfl
  simp only [h, Bool.false_eq_true, if_false]
  rcases tf (bs [102, 114, 101, 101] == s) with h | h
  · simp only [h, if_true]; rfl
  simp only [h, Bool.false_eq_true, if_false]
  rcases tf (bs [109, 111, 118, 101] == s) with h | h
  · simp only [h, if_true]; rfl
  simp only [h, Bool.false_eq_true, if_false]
  rcases tf (bs [97, 115, 107] == s) with h | h
  · simp only [h, if_true]; rfl
  simp only [h, Bool.false_eq_true, if_false]
  rcases tf (bs [115, 119, 101, 101, 112] == s) with h | h
  · simp only [h, if_true]; rfl
  simp only [h, Bool.false_eq_true, if_false]
  rfl
theorem opNm_or (s : ByteArray) : opNm s = 0 ∨ (opB (opNm s) = true ∧ nameT (opNm s) = s) := by
  unfold opNm
  rcases tf (bs [97, 117, 116, 104] == s) with h | h
  · rw [if_pos h]; exact .inr ⟨by decide, (show nameT 1 = bs [97, 117, 116, 104] by decide +kernel).trans (by simpa [beqB] using h)⟩
  rw [h, if_neg (by decide)]
  rcases tf (bs [109, 111, 114, 101] == s) with h | h
  · rw [if_pos h]; exact .inr ⟨by decide, (show nameT 2 = bs [109, 111, 114, 101] by decide +kernel).trans (by simpa [beqB] using h)⟩
  rw [h, if_neg (by decide)]
  rcases tf (bs [112, 97, 114, 116] == s) with h | h
  · rw [if_pos h]; exact .inr ⟨by decide, (show nameT 3 = bs [112, 97, 114, 116] by decide +kernel).trans (by simpa [beqB] using h)⟩
  rw [h, if_neg (by decide)]
  rcases tf (bs [102, 105, 110, 97, 108] == s) with h | h
  · rw [if_pos h]; exact .inr ⟨by decide, (show nameT 4 = bs [102, 105, 110, 97, 108] by decide +kernel).trans (by simpa [beqB] using h)⟩
  rw [h, if_neg (by decide)]
  rcases tf (bs [102, 114, 101, 101] == s) with h | h
  · rw [if_pos h]; exact .inr ⟨by decide, (show nameT 5 = bs [102, 114, 101, 101] by decide +kernel).trans (by simpa [beqB] using h)⟩
  rw [h, if_neg (by decide)]
  rcases tf (bs [109, 111, 118, 101] == s) with h | h
  · rw [if_pos h]; exact .inr ⟨by decide, (show nameT 6 = bs [109, 111, 118, 101] by decide +kernel).trans (by simpa [beqB] using h)⟩
  rw [h, if_neg (by decide)]
  rcases tf (bs [97, 115, 107] == s) with h | h
  · rw [if_pos h]; exact .inr ⟨by decide, (show nameT 7 = bs [97, 115, 107] by decide +kernel).trans (by simpa [beqB] using h)⟩
  rw [h, if_neg (by decide)]
  rcases tf (bs [115, 119, 101, 101, 112] == s) with h | h
  · rw [if_pos h]; exact .inr ⟨by decide, (show nameT 8 = bs [115, 119, 101, 101, 112] by decide +kernel).trans (by simpa [beqB] using h)⟩
  rw [h, if_neg (by decide)]
  exact .inl rfl
theorem dig_nb {s : ByteArray} (h : digB s = true) : (32 : UInt8) ∉ s.data.toList := fun hm => by
  have := (digB_mem h).2 (((32 : UInt8).toNat : Nat) : Int) (by unfold sbytes; exact List.mem_map_of_mem hm)
  revert this; decide
theorem acct_dig {s : ByteArray} (h : spec_AcctIdOk s = some true) : digB s = true := by
  have hs : s.size ≤ 19 := by
    obtain ⟨y, e, _, q⟩ := AcctIdOk_eq s
    rw [h] at e
    exact q (Option.some.inj e).symm
  rcases tf (digB s) with d | d
  · exact d
  · unfold spec_AcctIdOk spec_LuhnOk at h
    rw [Digits_s s (by omega), d] at h
    simp [show (s.size : Int) ≤ 19 by omega] at h
theorem Hold_l0_nb (s : ByteArray) (hs : s.size ≤ 4000000) : ∀ (n v : Nat), v ≤ s.size → spec_HoldIdOk_l0 s n (v : Int) = some (.out ()) → ∀ i : Nat, v ≤ i → i < s.size → sAt s (i : Int) ≠ 32
  | 0, v, _, h, i, _, _ => by simp [spec_HoldIdOk_l0] at h
  | n + 1, v, hv, h, i, hi, hl => by
    have hvl : v < s.size := by omega
    have hi' : i64 ((v : Int) + 1) = ((v + 1 : Nat) : Int) := by rw [i64_of (by omega) (by omega)]; omega
    unfold spec_HoldIdOk_l0 at h
    simp only [show (v : Int) < (s.size : Int) by omega, show (0 : Int) ≤ (v : Int) by omega, decide_true, if_true, hi'] at h
    have ih : spec_HoldIdOk_l0 s n ((v + 1 : Nat) : Int) = some (.out ()) → v ≠ i → sAt s (i : Int) ≠ 32 := fun hr hne => Hold_l0_nb s hs n (v + 1) (by omega) hr i (by omega) hl
    by_cases e : v = i
    · subst e
      intro e32
      rw [e32] at h
      simp at h
    · refine ih ?_ e
      repeat' split at h
      all_goals first | exact h | (simp at h)
theorem hold_nb {s : ByteArray} (hs : s.size ≤ 4000000) (h : spec_HoldIdOk s = some true) : (32 : UInt8) ∉ s.data.toList := fun hm => by
  unfold spec_HoldIdOk at h
  obtain ⟨y, e⟩ := HoldIdOk_l0_tot s hs FUEL 0 (by omega) (by omega) (by unfold FUEL; omega)
  rw [e, Option.bind_some] at h
  cases y with
  | ret u => cases h
  | out u =>
    obtain ⟨i, hi, e2⟩ := List.mem_iff_getElem.1 hm
    have := Hold_l0_nb s hs FUEL 0 (by omega) e i (by omega) (by rw [ba_size]; exact hi)
    rw [sAt_byte s hi, e2] at this
    exact this rfl
theorem nameT_nb (op : Int) (h : opB op = true) : (32 : UInt8) ∉ (nameT op).data.toList := by
  rcases op_cases h with rfl | rfl | rfl | rfl | rfl | rfl | rfl | rfl <;> decide +kernel
/-- The words of a valid request hold no blank: its text cut is these words. -/
theorem reqT_cut {q : Req} (h1 : q.Trace.size ≤ 4000000) (h2 : q.Hold.size ≤ 4000000) (h : reqOkG q = true) : pcsB 32 (reqT q) = reqWords q := by
  obtain ⟨g1, g2, g3, g4, g5⟩ := reqOkG_true h1 h2 h
  have hr : rqOk q (rqB q) = true := h
  unfold rqOk at hr
  simp only [Bool.and_eq_true] at hr
  obtain ⟨_, _, k2, k3, _⟩ := hr
  rw [Digits_s _ h1] at g3
  refine pcsB_sep ([q.Acct, q.Trace] ++ ((if holdB q.Op = true then [q.Hold] else []) ++ ((if amtB q.Op = true then [numT q.Amount] else []) ++ ((if (q.Op == 1) = true then [numT q.Ttl] else []) ++ (if (q.Op == 6) = true then [q.Other] else []))))) (nameT q.Op) (nameT_nb _ g1) (fun y hy => ?_)
  simp only [List.mem_append, List.mem_cons, List.not_mem_nil, or_false] at hy
  rcases hy with (rfl | rfl) | hy | hy | hy | hy
  · exact dig_nb (acct_dig g2)
  · exact dig_nb (Option.some.inj g3)
  · rcases tf (holdB q.Op) with u | u
    · rw [u] at hy
      simp only [if_true, List.mem_cons, List.not_mem_nil, or_false] at hy
      subst hy
      exact hold_nb h2 (g4 u)
    · rw [u] at hy; simp at hy
  · rcases tf (amtB q.Op) with u | u
    · rw [u] at hy
      simp only [if_true, List.mem_cons, List.not_mem_nil, or_false] at hy
      subst hy
      rw [u, if_pos rfl] at k2
      simp only [Bool.and_eq_true, decide_eq_true_eq] at k2
      exact dig_nb (numT_digB (by rw [money_iff]; omega))
    · rw [u] at hy; simp at hy
  · rcases tf (q.Op == 1) with u | u
    · rw [u] at hy
      simp only [if_true, List.mem_cons, List.not_mem_nil, or_false] at hy
      subst hy
      rw [u, if_pos rfl] at k3
      simp only [Bool.and_eq_true, decide_eq_true_eq] at k3
      exact dig_nb (numT_digB (by rw [money_iff]; omega))
    · rw [u] at hy; simp at hy
  · rcases tf (q.Op == 6) with u | u
    · rw [u] at hy
      simp only [if_true, List.mem_cons, List.not_mem_nil, or_false] at hy
      subst hy
      exact dig_nb (acct_dig (g5 u))
    · rw [u] at hy; simp at hy
/-- The text of a request, on both sides. -/
theorem ReqText_two (q : Req) (hw : wtReq q ≤ 1048576) : spec_ReqText q = some (if reqOkG q = true then reqT q else bs []) ∧ impl_ReqText q = some (if reqOkG q = true then reqT q else bs []) := by
  obtain ⟨y, e1, e2, _⟩ := ReqText_val q hw
  unfold wtReq at hw
  have key : impl_ReqText q = some (if reqOkG q = true then reqT q else bs []) := by
    rcases tf (reqOkG q) with h | h
    · rw [if_pos h]
      exact ReqText_i q (by omega) (by omega) (by omega) (by omega) h
    · rw [h, if_neg (by decide)]
      unfold impl_ReqText impl_ReqText_c0
      rw [ReqOk_i q (by omega) (by omega), show rqOk q (rqB q) = false from h]
      rfl
  rw [e2] at key
  exact ⟨e1.trans key, e2.trans key⟩
def gkR (r : List ByteArray) (k : Nat) : ByteArray := ((r ++ [bs [], bs [], bs []])[k]?).getD (bs [])
theorem gkR_get (r : List ByteArray) (k : Nat) (h : k ≤ 2) : (r ++ [bs [], bs [], bs []])[k]? = some (gkR r k) := by
  unfold gkR
  rw [List.getElem?_eq_getElem (by simp; omega)]
  rfl
theorem gkR_wt (r : List ByteArray) : (gkR r 0).size + (gkR r 1).size ≤ wtL (fun s : ByteArray => s.size) r ∧ (gkR r 2).size ≤ wtL (fun s : ByteArray => s.size) r := by
  have z : (bs []).size = 0 := rfl
  match r with
  | [] => exact ⟨by decide, by decide⟩
  | [a] => exact ⟨by show a.size + (bs []).size ≤ 1 + a.size + 0; omega, by show (bs []).size ≤ _; omega⟩
  | [a, b] => exact ⟨by show a.size + b.size ≤ 1 + a.size + (1 + b.size + 0); omega, by show (bs []).size ≤ _; omega⟩
  | a :: b :: c :: t => exact ⟨by show a.size + b.size ≤ 1 + a.size + (1 + b.size + (1 + c.size + _)); omega, by show c.size ≤ 1 + a.size + (1 + b.size + (1 + c.size + _)); omega⟩
/-- The request that words tell. -/
def rdQ (op : Int) (x2 x3 : ByteArray) (r : List ByteArray) : Req :=
  Req.mk op x2 (if (op == 6) = true then gkR r 1 else bs []) (if holdB op = true then gkR r 0 else bs []) x3 (mtiT op) (if amtB op = true then (tnum (gkR r 1)).1 else 0) (if (op == 1) = true then (tnum (gkR r 2)).1 else 0)
def txQ (s : ByteArray) : Req × Bool := match pcsB 32 s with
  | x1 :: x2 :: x3 :: r => if opNm x1 = 0 then (noReq, false) else if (reqOkG (rdQ (opNm x1) x2 x3 r) && (reqT (rdQ (opNm x1) x2 x3 r) == s)) = true then (rdQ (opNm x1) x2 x3 r, true) else (noReq, false)
  | _ => (noReq, false)
theorem mtiT_size {op : Int} (h : opB op = true) : (mtiT op).size = 4 ∧ 3 ≤ (nameT op).size := by
  rcases op_cases h with rfl | rfl | rfl | rfl | rfl | rfl | rfl | rfl <;> decide +kernel
theorem rdQ_wt {s x1 x2 x3 : ByteArray} {r : List ByteArray} (hp : pcsB 32 s = x1 :: x2 :: x3 :: r) (hs : s.size ≤ 1048576) (ho : opB (opNm x1) = true) (hn : nameT (opNm x1) = x1) :
    wtReq (rdQ (opNm x1) x2 x3 r) ≤ 1048576 ∧ ∀ k, k ≤ 2 → (gkR r k).size ≤ 4000000 := by
  have h1 := pcsB_wt 32 s
  obtain ⟨h2, h3⟩ := gkR_wt r
  obtain ⟨h4, h5⟩ := mtiT_size ho
  have z : (bs []).size = 0 := rfl
  rw [hp] at h1
  simp only [wtL] at h1
  have h5 : 3 ≤ x1.size := by rw [hn] at h5; exact h5
  refine ⟨?_, fun k hk => ?_⟩
  · unfold wtReq rdQ
    simp only [h4]
    rcases tf (opNm x1 == 6) with u | u <;> rcases tf (holdB (opNm x1)) with v | v <;> simp only [u, v, if_true, if_false, Bool.false_eq_true, z] <;> omega
  · rcases (show k = 0 ∨ k = 1 ∨ k = 2 by omega) with rfl | rfl | rfl <;> omega
theorem spec_TextReq_val (s : ByteArray) (hs : s.size ≤ 1048576) : spec_TextReq s = some (txQ s) := by
  have hc : spec_Cut s = some (pcsB 32 s) := by
    unfold spec_Cut
    rw [show spec_l01Split s 32 = some (pcsB 32 s) from l01Split_val s (by omega) 32]
    rfl
  have hl := pcsB_len 32 s
  have hw := pcsB_wt 32 s
  unfold spec_TextReq txQ
  rw [hc, Option.bind_some]
  match hp : pcsB 32 s with
  | [] => rw [hp] at hl; simp at hl
  | [x1] =>
    simp only [List.getElem?_cons_zero, Option.bind_some, spec_NameOp_val]
    rfl
  | [x1, x2] =>
    simp only [List.getElem?_cons_zero, Option.bind_some, spec_NameOp_val]
    rfl
  | x1 :: x2 :: x3 :: r =>
    simp only [List.getElem?_cons_zero, List.getElem?_cons_succ, Option.bind_some, spec_NameOp_val]
    unfold spec_TextReq_c0
    have hnl : ¬ ((x1 :: x2 :: x3 :: r).length : Int) < 3 := by simp only [List.length_cons]; omega
    simp only [hnl, decide_false, Bool.false_eq_true, if_false]
    rcases opNm_or x1 with h0 | ⟨h0, hn⟩
    · rw [h0]; rfl
    · have hne : ¬ opNm x1 = 0 := fun e => by rw [e] at h0; revert h0; decide
      obtain ⟨w1, w2⟩ := rdQ_wt hp hs h0 hn
      have hrl : r.length ≤ 2000000 := by
        have := wtL_len (fun s : ByteArray => s.size) (pcsB 32 s)
        rw [hp] at this hw
        simp only [List.length_cons] at this
        omega
      have hd : (List.drop 3 (x1 :: x2 :: x3 :: r)).take ((x1 :: x2 :: x3 :: r).length - 3) = r := by
        show r.take ((x1 :: x2 :: x3 :: r).length - 3) = r
        exact List.take_of_length_le (by simp only [List.length_cons]; omega)
      rw [if_neg (show ¬ (opNm x1 == 0) = true by simpa using hne)]
      simp only [Option.bind_some, Lo.elim, spec_OpMti_val, show (3 : Int) ≤ ((x1 :: x2 :: x3 :: r).length : Int) by simp only [List.length_cons]; omega, decide_true, if_true, hd, capOk_of (show r.length + 3 ≤ 274877906944 by omega)]
      generalize hop : opNm x1 = op at *
      have c1 : spec_TextReq_c1 s (x1 :: x2 :: x3 :: r) op x2 x3 (mtiT op) = some (if holdB op = true then gkR r 0 else bs []) := by
        unfold spec_TextReq_c1
        rw [l11Hold_val, Option.bind_some, hd, gkR_get r 0 (by omega)]
        rcases tf (holdB op) with u | u <;> rw [u] <;> rfl
      have c2 : ∀ a, spec_TextReq_c2 s (x1 :: x2 :: x3 :: r) op x2 x3 (mtiT op) a = some (if amtB op = true then (tnum (gkR r 1)).1 else 0) := fun a => by
        unfold spec_TextReq_c2
        rw [l11Amount_val, Option.bind_some, hd, gkR_get r 1 (by omega), Option.bind_some, spec_TextNum_val _ (w2 1 (by omega))]
        rcases tf (amtB op) with u | u <;> rw [u] <;> rfl
      have c3 : ∀ a b, spec_TextReq_c3 s (x1 :: x2 :: x3 :: r) op x2 x3 (mtiT op) a b = some (if (op == 1) = true then (tnum (gkR r 2)).1 else 0) := fun a b => by
        unfold spec_TextReq_c3
        rw [hd, gkR_get r 2 (by omega), Option.bind_some, spec_TextNum_val _ (w2 2 (by omega))]
        rcases tf (op == 1) with u | u <;> rw [u] <;> rfl
      have c4 : ∀ a b c, spec_TextReq_c4 s (x1 :: x2 :: x3 :: r) op x2 x3 (mtiT op) a b c = some (if (op == 6) = true then gkR r 1 else bs []) := fun a b c => by
        unfold spec_TextReq_c4
        rw [hd, gkR_get r 1 (by omega)]
        rcases tf (op == 6) with u | u <;> rw [u] <;> rfl
      simp only [c1, c2, c3, c4, Option.bind_some]
      unfold spec_TextReq_c5
      have hq : Req.mk op x2 (if (op == 6) = true then gkR r 1 else bs []) (if holdB op = true then gkR r 0 else bs []) x3 (mtiT op) (if amtB op = true then (tnum (gkR r 1)).1 else 0) (if (op == 1) = true then (tnum (gkR r 2)).1 else 0) = rdQ op x2 x3 r := rfl
      rw [hq]
      have hk := ReqText_two (rdQ op x2 x3 r) w1
      have w1' := w1
      unfold wtReq at w1'
      rw [show spec_ReqOk (rdQ op x2 x3 r) = some (reqOkG (rdQ op x2 x3 r)) from ReqOk_s _ (by omega) (by omega), hk.1, Option.bind_some, Option.bind_some, if_neg hne]
      rcases tf (reqOkG (rdQ op x2 x3 r)) with u | u
      · rw [u]
        simp only [if_true, Bool.true_and]
        rcases tf (reqT (rdQ op x2 x3 r) == s) with v | v
        · rw [v]; rfl
        · rw [v]; rfl
      · rw [u]
        simp only [Bool.false_eq_true, if_false, Bool.false_and]
        rfl
theorem opF_len (op : Int) (h : opB op = true) : (opF op).length ≤ 3 ∧ ∀ q : Req, q.Op = op → (reqWords q).length = 3 + (opF op).length := by
  refine ⟨?_, fun q e => ?_⟩
  · rcases op_cases h with rfl | rfl | rfl | rfl | rfl | rfl | rfl | rfl <;> decide
  · unfold reqWords
    rw [e]
    rcases op_cases h with rfl | rfl | rfl | rfl | rfl | rfl | rfl | rfl <;> rfl
theorem rest_split (op : Int) (h : opB op = true) (r : List ByteArray) (hr : r.length = (opF op).length) :
    r = (if holdB op = true then [gkR r 0] else []) ++ ((if amtB op = true then [gkR r 1] else []) ++ ((if (op == 1) = true then [gkR r 2] else []) ++ ((if (op == 6) = true then [gkR r 1] else []) ++ []))) := by
  rcases op_cases h with rfl | rfl | rfl | rfl | rfl | rfl | rfl | rfl
  · match r, hr with
    | [a, b, c], _ => rfl
  · match r, hr with
    | [a, b], _ => rfl
  · match r, hr with
    | [a, b], _ => rfl
  · match r, hr with
    | [a, b], _ => rfl
  · match r, hr with
    | [a], _ => rfl
  · match r, hr with
    | [a, b], _ => rfl
  · match r, hr with
    | [], _ => rfl
  · match r, hr with
    | [], _ => rfl
theorem impl_TextReq_val (s : ByteArray) (hs : s.size ≤ 1048576) : impl_TextReq s = some (txQ s) := by
  have hc : impl_Cut s = some (pcsB 32 s) := by
    unfold impl_Cut
    rw [strings_Split_val _ (by omega), Option.bind_some]
  have hl := pcsB_len 32 s
  have hw := pcsB_wt 32 s
  unfold impl_TextReq txQ
  rw [hc, Option.bind_some]
  have hi : ∀ n : Nat, n ≤ 3 → i64 (3 + (n : Int)) = 3 + (n : Int) := fun n h => i64_of (by omega) (by omega)
  match hp : pcsB 32 s with
  | [] => rw [hp] at hl; simp at hl
  | [x1] =>
    simp only [List.getElem?_cons_zero, Option.bind_some, impl_NameOp_val]
    rcases opNm_or x1 with h0 | ⟨h0, hn⟩
    · rw [h0]; rfl
    · have hne : ¬ opNm x1 = 0 := fun e => by rw [e] at h0; revert h0; decide
      rw [if_neg (show ¬ (opNm x1 == 0) = true by simpa using hne)]
      obtain ⟨r3, f1, f2⟩ := impl_opOf_fields (opNm x1) (.inr h0)
      rw [f1, Option.bind_some, f2, hi _ (opF_len _ h0).1, if_pos (by rw [bne_iff_ne]; simp only [List.length_cons, List.length_nil]; omega)]
      rfl
  | [x1, x2] =>
    simp only [List.getElem?_cons_zero, Option.bind_some, impl_NameOp_val]
    rcases opNm_or x1 with h0 | ⟨h0, hn⟩
    · rw [h0]; rfl
    · have hne : ¬ opNm x1 = 0 := fun e => by rw [e] at h0; revert h0; decide
      rw [if_neg (show ¬ (opNm x1 == 0) = true by simpa using hne)]
      obtain ⟨r3, f1, f2⟩ := impl_opOf_fields (opNm x1) (.inr h0)
      rw [f1, Option.bind_some, f2, hi _ (opF_len _ h0).1, if_pos (by rw [bne_iff_ne]; simp only [List.length_cons, List.length_nil]; omega)]
      rfl
  | x1 :: x2 :: x3 :: r =>
    simp only [List.getElem?_cons_zero, List.getElem?_cons_succ, Option.bind_some, impl_NameOp_val]
    rcases opNm_or x1 with h0 | ⟨h0, hn⟩
    · rw [h0]; rfl
    · have hne : ¬ opNm x1 = 0 := fun e => by rw [e] at h0; revert h0; decide
      obtain ⟨w1, w2⟩ := rdQ_wt hp hs h0 hn
      rw [if_neg (show ¬ (opNm x1 == 0) = true by simpa using hne), if_neg hne]
      obtain ⟨r3, f1, f2⟩ := impl_opOf_fields (opNm x1) (.inr h0)
      obtain ⟨l1, l2⟩ := opF_len _ h0
      obtain ⟨u1, u2, u3, u4⟩ := uses_val (opNm x1)
      have w1' := w1
      unfold wtReq at w1'
      rw [f1, Option.bind_some, f2, hi _ l1]
      have hd : (List.drop 3 (x1 :: x2 :: x3 :: r)).take ((x1 :: x2 :: x3 :: r).length - 3) = r := by
        show r.take ((x1 :: x2 :: x3 :: r).length - 3) = r
        exact List.take_of_length_le (by simp only [List.length_cons]; omega)
      generalize hop : opNm x1 = op at *
      by_cases hlen : r.length = (opF op).length
      · have hsp := rest_split op h0 r hlen
        rw [if_neg (show ¬ (((x1 :: x2 :: x3 :: r).length : Int) != 3 + ((opF op).length : Int)) = true by simp only [List.length_cons, bne_iff_ne, ne_eq]; omega)]
        simp only [impl_OpMti_val op h0, Option.bind_some, show (3 : Int) ≤ ((x1 :: x2 :: x3 :: r).length : Int) by simp only [List.length_cons]; omega, decide_true, if_true, hd]
        have e0 : tnum (bs []) = (0, false) := by decide +kernel
        have vn : ∀ (b : Bool) (x : ByteArray), x.size ≤ 4000000 → ∃ y, impl_TextNum (if b = true then x else bs []) = some y ∧ y.1 = (if b = true then (tnum x).1 else 0) := fun b x hx => by
          cases b with
          | true => exact ⟨_, impl_TextNum_val _ hx, rfl⟩
          | false => exact ⟨_, impl_TextNum_val (bs []) (by decide), by rw [e0]; rfl⟩
        obtain ⟨ya, va, va'⟩ := vn (amtB op) (gkR r 1) (w2 1 (by omega))
        obtain ⟨yt, vt, vt'⟩ := vn (op == 1) (gkR r 2) (w2 2 (by omega))
        rw [hsp]
        simp only [TextReq_1_val 38 op _ u1, TextReq_1_val 4 op _ u2, TextReq_1_val 14 op _ u3, TextReq_1_val 103 op _ u4, Option.bind_some]
        rw [← hsp]
        simp only [va, vt, Option.bind_some, va', vt']
        have hq : Req.mk op x2 (if (op == 6) = true then gkR r 1 else bs []) (if holdB op = true then gkR r 0 else bs []) x3 (mtiT op) (if amtB op = true then (tnum (gkR r 1)).1 else 0) (if (op == 1) = true then (tnum (gkR r 2)).1 else 0) = rdQ op x2 x3 r := rfl
        rw [hq, (ReqText_two (rdQ op x2 x3 r) w1).2, Option.bind_some]
        rcases tf (reqOkG (rdQ op x2 x3 r)) with u | u
        · rw [u]
          simp only [if_true, Bool.true_and]
          rcases tf (reqT (rdQ op x2 x3 r) == s) with v | v
          · rw [v]; rfl
          · rw [v]; rfl
        · rw [u]
          simp only [Bool.false_eq_true, if_false, Bool.false_and]
          have hse : (bs [] == s) = false := by
            rcases tf (bs [] == s) with v | v
            · simp only [beqB, decide_eq_true_eq] at v
              rw [← v] at hp
              revert hp
              rw [show pcsB 32 (bs []) = [bs []] from by decide +kernel]
              intro hp; simp at hp
            · exact v
          rw [hse]; rfl
      · rw [if_pos (show (((x1 :: x2 :: x3 :: r).length : Int) != 3 + ((opF op).length : Int)) = true by simp only [List.length_cons, bne_iff_ne, ne_eq]; omega)]
        have hno : (reqOkG (rdQ op x2 x3 r) && (reqT (rdQ op x2 x3 r) == s)) = false := by
          rcases tf (reqOkG (rdQ op x2 x3 r) && (reqT (rdQ op x2 x3 r) == s)) with v | v
          · simp only [Bool.and_eq_true, beqB, decide_eq_true_eq] at v
            have hct := reqT_cut (q := rdQ op x2 x3 r) (by omega) (by omega) v.1
            rw [v.2, hp] at hct
            have := l2 (rdQ op x2 x3 r) rfl
            rw [← hct] at this
            simp only [List.length_cons] at this
            omega
          · exact v
        rw [hno]
        rfl
theorem TextReq_val (s : ByteArray) (hs : s.size ≤ 1048576) : ∃ y, spec_TextReq s = some y ∧ impl_TextReq s = some y ∧ wtReq y.1 ≤ 4000000 := by
  refine ⟨txQ s, spec_TextReq_val s hs, impl_TextReq_val s hs, ?_⟩
  have hz : wtReq noReq ≤ 4000000 := by decide
  unfold txQ
  split
  · rename_i x1 x2 x3 r hp
    split
    · exact hz
    · rename_i hne
      rcases opNm_or x1 with h0 | ⟨h0, hn⟩
      · exact absurd h0 hne
      · split
        · exact Nat.le_trans (rdQ_wt hp hs h0 hn).1 (by decide)
        · exact hz
  · exact hz
/-- A strict weak order. -/
def SwB {α : Type} (lt : α → α → Bool) : Prop := (∀ a b, lt a b = true → lt b a = false) ∧ ∀ a b c, lt a b = false → lt b c = false → lt a c = false
theorem SwB.trans {α : Type} {lt : α → α → Bool} (h : SwB lt) {a b c : α} (h1 : lt a b = true) (h2 : lt b c = true) : lt a c = true := by
  rcases hx : lt a c with _ | _
  · have := h.2 a c b hx (h.1 _ _ h2)
    rw [h1] at this; cases this
  · rfl
namespace Pure
theorem FnExactTextReq (aS : ByteArray) (h0 : Ws aS) : laws_FnExactTextReq aS = some true := by
  unfold laws_FnExactTextReq
  by_cases s1 : (1048576 : Int) < (aS.size : Int)
  · simp only [s1, decide_true, decide_false, Bool.false_eq_true, if_true, if_false]
  simp only [s1, decide_true, decide_false, Bool.false_eq_true, if_true, if_false]
  obtain ⟨y, f1, f2, f3⟩ := TextReq_val aS (by omega)
  have z0 := f3
  simp only [f1, f2, eqReq_rfl _ z0, Option.bind_some, decide_true, decide_false, Bool.false_eq_true, if_true, if_false, bne_rfl, beq_rfl, beq_self_eq_true]
end Pure
end Go.Proofs.YthhabgkebfchbaaGreatDoorM
