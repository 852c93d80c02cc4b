/- Laws of the plain functions. No condition. -/
import Derived.Test.YtjnnbcdakaabbaaDoorRqOp
import Derived.Laws.StructEq
namespace Go.Proofs.YtjnnbcdakaabbaaDoorM
set_option linter.unusedVariables false
set_option linter.unusedSimpArgs false
set_option maxRecDepth 100000
theorem i64_of {x : Int} (h : -9223372036854775808 ≤ x) (h2 : x ≤ 9223372036854775807) : i64 x = x := by unfold i64; rw [IntKind.wrap_i64]; omega
theorem i64_nn {x : Int} (h : 0 ≤ x) (h2 : x ≤ 9223372036854775807) : i64 x = x := i64_of (by omega) h2
theorem u8_of {x : Int} (h : 0 ≤ x) (h2 : x ≤ 255) : u8 x = x := by unfold u8 IntKind.wrap; simp [IntKind.bits, IntKind.signed]; omega
theorem capOk_of {n : Nat} (h : n ≤ 274877906944) : capOk n = true := decide_eq_true h
theorem beqB (a b : ByteArray) : (a == b) = decide (a = b) := by
  rcases a with ⟨a⟩
  rcases b with ⟨b⟩
  have h1 : ((⟨a⟩ : ByteArray) == ⟨b⟩) = (a == b) := rfl
  rw [h1]
  by_cases h : a = b
  · subst h; simp
  · have h2 : ¬ ((⟨a⟩ : ByteArray) = ⟨b⟩) := fun e => h (by cases e; rfl)
    rw [decide_eq_false h2]
    simpa using h
theorem tmod10 {x : Int} (h : 0 ≤ x) : Int.tmod x 10 = x % 10 := Int.tmod_eq_emod_of_nonneg h
theorem sub_val {left : Int} {n : Nat} (h0 : 0 ≤ left) (h1 : left ≤ 1048576) (hn : n ≤ 140737488351232) : i64 (left - (n : Int)) = left - n := i64_of (by omega) (by omega)
theorem beq_rfl (s : ByteArray) : (s == s) = true := by rw [beqB]; simp
theorem bne_rfl (n : Int) : (n != n) = false := by simp
theorem bstr_one (n : Int) : (bstr [n]).size = 1 := rfl
theorem size_app (a b : ByteArray) : (a ++ b).size = a.size + b.size := ByteArray.size_append
/-- The weight of a list: its length, and its elements' weights. -/
def wtL {α : Type} (f : α → Nat) : List α → Nat
  | [] => 0
  | x :: t => 1 + f x + wtL f t
def wtS {α : Type} (f : α → Nat) : List α → Nat
  | [] => 0
  | x :: t => f x + wtS f t
theorem wtL_eq {α : Type} (f : α → Nat) : ∀ l : List α, wtL f l = l.length + wtS f l
  | [] => rfl
  | x :: t => by simp only [wtL, wtS, List.length_cons]; rw [wtL_eq f t]; omega
theorem wtL_len {α : Type} (f : α → Nat) (l : List α) : l.length ≤ wtL f l := by rw [wtL_eq]; omega
theorem wtL_app {α : Type} (f : α → Nat) : ∀ (l l2 : List α), wtL f (l ++ l2) = wtL f l + wtL f l2
  | [], l2 => by simp [wtL]
  | x :: t, l2 => by simp only [List.cons_append, wtL]; rw [wtL_app f t l2]; omega
def wtReq (a : Req) : Nat := a.Acct.size + a.Other.size + a.Hold.size + a.Trace.size + a.Mti.size
theorem wtReq_eq (a : Req) : wtReq a = a.Acct.size + a.Other.size + a.Hold.size + a.Trace.size + a.Mti.size := rfl
theorem szReq_val (a : Req) (left : Int) (hw : W23 a) (h0 : 0 ≤ left) (h1 : left ≤ 1048576) : ∃ r, laws_szReq a left = some r ∧ (0 ≤ r → r = left - (wtReq a : Nat)) := by
  unfold W23 at hw
  obtain ⟨w0, w1, w2, w3, w4, w5, w6, w7⟩ := hw
  rw [wtReq_eq]
  unfold laws_szReq
  have b1 := w1
  unfold Ws at b1
  rw [sub_val (show 0 ≤ left by omega) (by omega) b1]
  by_cases c1 : (left - (a.Acct.size : Int)) < 0
  · exact ⟨-1, by simp only [c1, decide_true, decide_false, Bool.false_eq_true, if_true, if_false, Option.bind_some], fun h => by omega⟩
  · simp only [c1, decide_true, decide_false, Bool.false_eq_true, if_true, if_false, Option.bind_some]
    have b2 := w2
    unfold Ws at b2
    rw [sub_val (show 0 ≤ (left - (a.Acct.size : Int)) by omega) (by omega) b2]
    by_cases c2 : (((left - (a.Acct.size : Int))) - (a.Other.size : Int)) < 0
    · exact ⟨-1, by simp only [c2, decide_true, decide_false, Bool.false_eq_true, if_true, if_false, Option.bind_some], fun h => by omega⟩
    · simp only [c2, decide_true, decide_false, Bool.false_eq_true, if_true, if_false, Option.bind_some]
      have b3 := w3
      unfold Ws at b3
      rw [sub_val (show 0 ≤ (((left - (a.Acct.size : Int))) - (a.Other.size : Int)) by omega) (by omega) b3]
      by_cases c3 : (((((left - (a.Acct.size : Int))) - (a.Other.size : Int))) - (a.Hold.size : Int)) < 0
      · exact ⟨-1, by simp only [c3, decide_true, decide_false, Bool.false_eq_true, if_true, if_false, Option.bind_some], fun h => by omega⟩
      · simp only [c3, decide_true, decide_false, Bool.false_eq_true, if_true, if_false, Option.bind_some]
        have b4 := w4
        unfold Ws at b4
        rw [sub_val (show 0 ≤ (((((left - (a.Acct.size : Int))) - (a.Other.size : Int))) - (a.Hold.size : Int)) by omega) (by omega) b4]
        by_cases c4 : (((((((left - (a.Acct.size : Int))) - (a.Other.size : Int))) - (a.Hold.size : Int))) - (a.Trace.size : Int)) < 0
        · exact ⟨-1, by simp only [c4, decide_true, decide_false, Bool.false_eq_true, if_true, if_false, Option.bind_some], fun h => by omega⟩
        · simp only [c4, decide_true, decide_false, Bool.false_eq_true, if_true, if_false, Option.bind_some]
          have b5 := w5
          unfold Ws at b5
          rw [sub_val (show 0 ≤ (((((((left - (a.Acct.size : Int))) - (a.Other.size : Int))) - (a.Hold.size : Int))) - (a.Trace.size : Int)) by omega) (by omega) b5]
          by_cases c5 : (((((((((left - (a.Acct.size : Int))) - (a.Other.size : Int))) - (a.Hold.size : Int))) - (a.Trace.size : Int))) - (a.Mti.size : Int)) < 0
          · exact ⟨-1, by simp only [c5, decide_true, decide_false, Bool.false_eq_true, if_true, if_false, Option.bind_some], fun h => by omega⟩
          · simp only [c5, decide_true, decide_false, Bool.false_eq_true, if_true, if_false, Option.bind_some]
            exact ⟨_, rfl, fun _ => by omega⟩
theorem toReq_val (a : Req) (h : wtReq a ≤ 4000000) : laws_toReq a = some a := by
  rw [wtReq_eq] at h
  unfold laws_toReq
  rfl
theorem tf (b : Bool) : b = true ∨ b = false := by cases b <;> simp
theorem l01In_val (n lo hi : Int) : spec_l01In n lo hi = some (decide (lo ≤ n) && decide (n ≤ hi)) := by
  unfold spec_l01In
  by_cases h : lo ≤ n <;> simp [h]
theorem within_val (n lo hi : Int) : impl_within n lo hi = some (decide (lo ≤ n) && decide (n ≤ hi)) := by
  unfold impl_within
  by_cases h : lo ≤ n <;> simp [h]
def money (n : Int) : Bool := decide (0 ≤ n) && decide (n ≤ 4611686018427387904)
theorem l01Money_val (n : Int) : spec_l01Money n = some (money n) := by
  unfold spec_l01Money money
  by_cases h : 0 ≤ n <;> simp [h]
theorem isMoney_val (n : Int) : impl_isMoney n = some (money n) := by unfold impl_isMoney; rw [within_val]; rfl
theorem spec_Digits_l0_tot (s : ByteArray) (hs : s.size ≤ 4000000) : ∀ (n : Nat) (v : Int), 0 ≤ v → v ≤ s.size → (s.size : Int) - v < n →
    ∃ y, spec_Digits_l0 s n v = some y ∧ impl_Digits_l0 s n v = some y ∧ ∀ u, y = .out u → ∀ i : Int, v ≤ i → i < s.size → 48 ≤ sAt s i ∧ sAt s i ≤ 57
  | 0, v, h0, hv, hn => by exfalso; omega
  | n + 1, v, h0, hv, hn => by
    unfold spec_Digits_l0 impl_Digits_l0
    by_cases h1 : v < (s.size : Int)
    · by_cases h2 : sAt s v < 48
      · exact ⟨.ret (), by simp [h1, h0, h2], by simp [h1, h0, h2], fun u e => by cases e⟩
      · by_cases h3 : 57 < sAt s v
        · exact ⟨.ret (), by simp [h1, h0, h2, h3], by simp [h1, h0, h2, h3], fun u e => by cases e⟩
        · have hi : i64 (v + 1) = v + 1 := i64_nn (by omega) (by omega)
          obtain ⟨y, e1, e2, e3⟩ := spec_Digits_l0_tot s hs n (v + 1) (by omega) (by omega) (by omega)
          refine ⟨y, by simp [h1, h0, h2, h3, hi, e1], by simp [h1, h0, h2, h3, hi, e2], fun u e i hv hi' => ?_⟩
          by_cases hiv : i = v
          · subst hiv; omega
          · exact e3 u e i (by omega) hi'
    · exact ⟨.out (), by simp [h1], by simp [h1], fun u _ i hv hi => by omega⟩
theorem beq_empty (s : ByteArray) : (s == bs []) = decide (s.size = 0) := by
  rw [beqB]
  by_cases h : s.size = 0
  · have : s = bs [] := by
      rcases s with ⟨d⟩
      have hd : d.size = 0 := h
      have : d = #[] := Array.eq_empty_of_size_eq_zero hd
      subst this; rfl
    rw [decide_eq_true h, decide_eq_true this]
  · rw [decide_eq_false h, decide_eq_false (fun e => h (by rw [e]; rfl))]
theorem Digits_tot (s : ByteArray) (hs : s.size ≤ 4000000) : ∃ b, spec_Digits s = some b ∧ impl_Digits s = some b ∧ (b = true → 0 < s.size ∧ ∀ i : Int, 0 ≤ i → i < s.size → 48 ≤ sAt s i ∧ sAt s i ≤ 57) := by
  obtain ⟨y, e1, e2, e3⟩ := spec_Digits_l0_tot s hs FUEL 0 (by omega) (by omega) (by unfold FUEL; omega)
  unfold spec_Digits impl_Digits
  rw [e1, e2]
  cases y with
  | ret u => exact ⟨false, rfl, rfl, fun h => by cases h⟩
  | out u =>
    refine ⟨decide (0 < (s.size : Int)), rfl, ?_, fun h => ⟨by have := of_decide_eq_true h; omega, fun i h0 hi => e3 u rfl i h0 hi⟩⟩
    simp only [Option.bind_some, Lo.elim, beq_empty]
    congr 1
    by_cases h : s.size = 0
    · simp [h]
    · rw [decide_eq_false h, decide_eq_true (show (0 : Int) < s.size by omega)]; rfl
theorem Luhn_l0_tot (s : ByteArray) (hs : s.size ≤ 4000000) (hd : ∀ i : Int, 0 ≤ i → i < s.size → 48 ≤ sAt s i ∧ sAt s i ≤ 57) : ∀ (n : Nat) (v w : Int) (b : Bool) (k : Int), k + 1 < n → -1 ≤ k → k < s.size → 0 ≤ v → v + 9 * (k + 1) ≤ 100000000 → w = v % 10 →
    ∃ y, impl_Luhn_l0 s n v b k = some y ∧ spec_Luhn_l0 s n w b k = some (y % 10) ∧ 0 ≤ y ∧ y ≤ 100000000
  | 0, v, w, b, k, hn, hk, hks, hv, hb, hw => by
    exfalso; omega
  | n + 1, v, w, b, k, hn, hk, hks, hv, hb, hw => by
    unfold impl_Luhn_l0 spec_Luhn_l0
    by_cases h0 : 0 ≤ k
    · obtain ⟨d1, d2⟩ := hd k h0 hks
      have hk1 : i64 (k - 1) = k - 1 := i64_of (by omega) (by omega)
      have hu : u8 (sAt s k - 48) = sAt s k - 48 := u8_of (by omega) (by omega)
      have hi : i64 (sAt s k - 48) = sAt s k - 48 := i64_of (by omega) (by omega)
      have hi2 : i64 (sAt s k) = sAt s k := i64_of (by omega) (by omega)
      have hi3 : i64 ((sAt s k - 48) * 2) = (sAt s k - 48) * 2 := i64_of (by omega) (by omega)
      have hi4 : i64 (2 * (sAt s k - 48)) = (sAt s k - 48) * 2 := by rw [Int.mul_comm]; exact hi3
      have hd0 : 0 ≤ sAt s k - 48 ∧ sAt s k - 48 ≤ 9 := by omega
      simp only [hk1, hu, hi2, hi, hi3, hi4]
      generalize sAt s k - 48 = d at *
      obtain ⟨g0, g9⟩ := hd0
      have hm : ∀ x, 0 ≤ x → x ≤ 9 → i64 (v + x) = v + x ∧ i64 (w + x) = w + x ∧ Int.tmod (w + x) 10 = (v + x) % 10 := fun x hx hx9 => by
        refine ⟨i64_of (by omega) (by omega), i64_of (by omega) (by omega), ?_⟩
        rw [tmod10 (by omega)]; omega
      by_cases hb' : b = true
      · by_cases h9 : 9 < d * 2
        · have h9' : i64 (d * 2 - 9) = d * 2 - 9 := i64_of (by omega) (by omega)
          obtain ⟨m1, m2, m3⟩ := hm (d * 2 - 9) (by omega) (by omega)
          obtain ⟨y, e1, e2, e3⟩ := Luhn_l0_tot s hs hd n (v + (d * 2 - 9)) ((v + (d * 2 - 9)) % 10) (!b) (k - 1) (by omega) (by omega) (by omega) (by omega) (by omega) rfl
          exact ⟨y, by simp only [h0, hks, hb', h9, h9', m1, m2, m3, decide_true, if_true]; rw [hb'] at e1; exact e1, by simp only [h0, hks, hb', h9, h9', m1, m2, m3, decide_true, if_true]; rw [hb'] at e2; exact e2, e3⟩
        · obtain ⟨m1, m2, m3⟩ := hm (d * 2) (by omega) (by omega)
          obtain ⟨y, e1, e2, e3⟩ := Luhn_l0_tot s hs hd n (v + d * 2) ((v + d * 2) % 10) (!b) (k - 1) (by omega) (by omega) (by omega) (by omega) (by omega) rfl
          exact ⟨y, by simp only [h0, hks, hb', h9, m1, m2, m3, decide_true, decide_false, if_true, Bool.false_eq_true, if_false]; rw [hb'] at e1; exact e1, by simp only [h0, hks, hb', h9, m1, m2, m3, decide_true, decide_false, if_true, Bool.false_eq_true, if_false]; rw [hb'] at e2; exact e2, e3⟩
      · have hbf : b = false := by simpa using hb'
        obtain ⟨m1, m2, m3⟩ := hm d (by omega) (by omega)
        obtain ⟨y, e1, e2, e3⟩ := Luhn_l0_tot s hs hd n (v + d) ((v + d) % 10) (!b) (k - 1) (by omega) (by omega) (by omega) (by omega) (by omega) rfl
        exact ⟨y, by simp only [h0, hks, hbf, m1, m2, m3, decide_true, if_true, Bool.false_eq_true, if_false]; rw [hbf] at e1; exact e1, by simp only [h0, hks, hbf, m1, m2, m3, decide_true, if_true, Bool.false_eq_true, if_false]; rw [hbf] at e2; exact e2, e3⟩
    · exact ⟨v, by simp [h0], by simp [h0, hw], hv, by omega⟩
theorem Luhn_tot (s : ByteArray) (hs : s.size ≤ 4000000) : ∃ y, spec_Luhn s = some y ∧ impl_Luhn s = some y := by
  obtain ⟨b, e1, e2, e3⟩ := Digits_tot s hs
  unfold spec_Luhn impl_Luhn
  rw [e1, e2]
  cases b with
  | false => exact ⟨-1, rfl, rfl⟩
  | true =>
    obtain ⟨hp, hd⟩ := e3 rfl
    have hi : i64 ((s.size : Int) - 1) = (s.size : Int) - 1 := i64_of (by omega) (by omega)
    obtain ⟨y, q1, q2, q3, q4⟩ := Luhn_l0_tot s hs hd FUEL 0 0 true ((s.size : Int) - 1) (by unfold FUEL; omega) (by omega) (by omega) (by omega) (by omega) rfl
    refine ⟨Int.tmod (i64 (10 - y % 10)) 10, ?_, ?_⟩
    · simp only [Option.bind_some, if_true, hi, q2]
    · simp only [Option.bind_some, if_true, hi, q1, tmod10 q3]
theorem LuhnOk_eq (s : ByteArray) (hs : s.size ≤ 4000000) : ∃ y, spec_LuhnOk s = some y ∧ impl_LuhnOk s = some y := by
  obtain ⟨b, e1, e2, e3⟩ := Digits_tot s hs
  unfold spec_LuhnOk impl_LuhnOk
  have hi : i64 ((s.size : Int) - 1) = (s.size : Int) - 1 := i64_of (by omega) (by omega)
  rw [e1, e2, hi]
  by_cases h2 : (s.size : Int) < 2
  · have h1 : ¬ 1 ≤ (s.size : Int) - 1 := by omega
    refine ⟨false, ?_, by simp [h1]⟩
    cases b <;> simp [h2]
  · have h1 : 1 ≤ (s.size : Int) - 1 := by omega
    cases b with
    | false => exact ⟨false, by simp, by simp [h1]⟩
    | true =>
      obtain ⟨hp, hd⟩ := e3 rfl
      obtain ⟨d1, d2⟩ := hd ((s.size : Int) - 1) (by omega) (by omega)
      obtain ⟨y, q1, q2⟩ := Luhn_tot (s.extract 0 ((s.size : Int) - 1).toNat) (by simp; omega)
      have c1 : (0 : Int) ≤ (s.size : Int) - 1 := by omega
      have c2 : (s.size : Int) - 1 ≤ s.size := by omega
      have c3 : (s.size : Int) - 1 < s.size := by omega
      have hu : u8 (sAt s ((s.size : Int) - 1) - 48) = sAt s ((s.size : Int) - 1) - 48 := u8_of (by omega) (by omega)
      have hi2 : i64 (sAt s ((s.size : Int) - 1)) = sAt s ((s.size : Int) - 1) := i64_of (by omega) (by omega)
      refine ⟨y == i64 (sAt s ((s.size : Int) - 1) - 48), ?_, ?_⟩
      · simp only [Option.bind_some, if_true, h2, decide_false, Bool.false_eq_true, if_false, c1, c2, c3, decide_true, q1, hi2]
      · simp only [Option.bind_some, if_true, h1, c1, c2, c3, decide_true, q2, hu]
theorem AcctIdOk_eq (s : ByteArray) : ∃ y, spec_AcctIdOk s = some y ∧ impl_AcctIdOk s = some y ∧ (y = true → s.size ≤ 19) := by
  unfold spec_AcctIdOk impl_AcctIdOk
  by_cases h : (s.size : Int) ≤ 19
  · obtain ⟨y, e1, e2⟩ := LuhnOk_eq s (by omega)
    exact ⟨y, by simp [h, e1], by simp [h, e2], fun _ => by omega⟩
  · exact ⟨false, by simp [h], by simp [h], fun e => by cases e⟩
theorem HoldIdOk_l0_eq : ∀ (s : ByteArray) (n : Nat) (v : Int), impl_HoldIdOk_l0 s n v = spec_HoldIdOk_l0 s n v
  | s, 0, v => rfl
  | s, n + 1, v => by unfold impl_HoldIdOk_l0 spec_HoldIdOk_l0; simp only [HoldIdOk_l0_eq s n]
theorem HoldIdOk_l0_tot (s : ByteArray) (hs : s.size ≤ 4000000) : ∀ (n : Nat) (v : Int), 0 ≤ v → v ≤ s.size → (s.size : Int) - v < n → ∃ y, spec_HoldIdOk_l0 s n v = some y
  | 0, v, h0, hv, hn => by exfalso; omega
  | n + 1, v, h0, hv, hn => by
    unfold spec_HoldIdOk_l0
    by_cases h1 : v < (s.size : Int)
    · have hi : i64 (v + 1) = v + 1 := i64_nn (by omega) (by omega)
      obtain ⟨y, e⟩ := HoldIdOk_l0_tot s hs n (v + 1) (by omega) (by omega) (by omega)
      simp only [h1, h0, decide_true, if_true, hi, e]
      repeat' split
      all_goals exact ⟨_, rfl⟩
    · exact ⟨.out (), by simp [h1]⟩
theorem HoldIdOk_tot (s : ByteArray) (hs : s.size ≤ 4000000) : ∃ y, spec_HoldIdOk s = some y ∧ impl_HoldIdOk s = some y ∧ (y = true → s.size ≤ 6) := by
  obtain ⟨y, e⟩ := HoldIdOk_l0_tot s hs FUEL 0 (by omega) (by omega) (by unfold FUEL; omega)
  unfold spec_HoldIdOk impl_HoldIdOk
  rw [HoldIdOk_l0_eq, e]
  cases y with
  | ret u => exact ⟨false, rfl, rfl, fun h => by cases h⟩
  | out u =>
    refine ⟨decide ((1 : Int) ≤ s.size) && decide ((s.size : Int) ≤ 6), ?_, ?_, fun h => ?_⟩
    · simp only [Option.bind_some, Lo.elim, l01In_val]
    · simp only [Option.bind_some, Lo.elim, within_val]
    · simp only [Bool.and_eq_true, decide_eq_true_eq] at h; omega
theorem bstr_fold : ∀ (ns : List Int) (r : ByteArray), (ns.foldl (fun r n => r.push (UInt8.ofNat n.toNat)) r).data.toList = r.data.toList ++ ns.map (fun n => UInt8.ofNat n.toNat)
  | [], r => by simp
  | n :: ns, r => by
    rw [List.foldl_cons, bstr_fold ns]
    simp [ByteArray.push]
theorem bstr_list (ns : List Int) : (bstr ns).data.toList = ns.map (fun n => UInt8.ofNat n.toNat) := by
  unfold bstr
  rw [bstr_fold]; rfl
theorem ba_ext {a b : ByteArray} (h : a.data.toList = b.data.toList) : a = b := by
  rcases a with ⟨⟨a⟩⟩
  rcases b with ⟨⟨b⟩⟩
  have h : a = b := h
  rw [h]
theorem ba_app (a b : ByteArray) : (a ++ b).data.toList = a.data.toList ++ b.data.toList := by
  rw [ByteArray.data_append, Array.toList_append]
theorem ba_size (a : ByteArray) : a.size = a.data.toList.length := by
  rcases a with ⟨⟨a⟩⟩
  rfl
/-- The text of a number; nothing where it is none. -/
def numT (n : Int) : ByteArray := if money n = true then ⟨(Lib.itoa n).toArray⟩ else ⟨#[]⟩
theorem decDigits_len : ∀ (m u : Nat), u < 10 ^ (m + 1) → (Lib.decDigits u).length ≤ m + 1
  | m, u, h => by
    rw [Lib.decDigits]
    split
    · simp
    · rename_i h10
      cases m with
      | zero => omega
      | succ m =>
        have := decDigits_len m (u / 10) (by rw [Nat.pow_succ] at h; omega)
        simp; omega
theorem money_bounds {n : Int} (h : money n = true) : 0 ≤ n ∧ n ≤ 4611686018427387904 := by
  unfold money at h
  simpa using h
theorem numT_size (n : Int) : (numT n).size ≤ 20 := by
  unfold numT
  split
  · rename_i h
    obtain ⟨h0, h1⟩ := money_bounds h
    rw [ba_size]
    simp only [Lib.itoa, show ¬ n < 0 by omega, if_false]
    exact decDigits_len 19 n.toNat (by omega)
  · simp [ByteArray.size]
theorem digit_data (u : Nat) : (bstr [u8 (i64 (48 + (Int.tmod (u : Int) 10)))]).data.toList = [UInt8.ofNat (48 + u % 10)] := by
  rw [bstr_list, tmod10 (by omega), i64_of (by omega) (by omega), u8_of (by omega) (by omega)]
  simp only [List.map_cons, List.map_nil]
  congr 2
theorem NumText_l0_val (N : Int) : ∀ (m fuel u : Nat) (acc : ByteArray), u < 10 ^ (m + 1) → m < fuel → u ≤ 4611686018427387904 → acc.size + m ≤ 1000 →
    ∃ (v : Nat) (w : ByteArray), spec_NumText_l0 N fuel (u : Int) acc = some ((v : Int), w) ∧ v ≤ 9 ∧ w.size ≤ acc.size + m ∧ UInt8.ofNat (48 + v) :: w.data.toList = Lib.decDigits u ++ acc.data.toList
  | m, 0, u, acc, _, h, _, _ => by omega
  | m, fuel + 1, u, acc, hu, hm, hb, ha => by
    unfold spec_NumText_l0
    rw [Lib.decDigits]
    by_cases h9 : u < 10
    · have : ¬ (9 : Int) < (u : Int) := by omega
      simp only [this, decide_false, Bool.false_eq_true, if_false]
      exact ⟨u, acc, rfl, by omega, by omega, by rw [dif_pos h9]; rfl⟩
    · cases m with
      | zero => omega
      | succ m =>
        have hd := digit_data u
        have hs : (bstr [u8 (i64 (48 + (Int.tmod (u : Int) 10)))]).size + acc.size ≤ 9223372036854775807 := by rw [bstr_one]; omega
        have hq : i64 (Int.tdiv (u : Int) 10) = ((u / 10 : Nat) : Int) := by rw [Int.tdiv_eq_ediv_of_nonneg (by omega), i64_of (by omega) (by omega)]; omega
        simp only [show (9 : Int) < (u : Int) by omega, decide_true, if_true, hs, hq]
        obtain ⟨v, w, e1, e2, e3, e4⟩ := NumText_l0_val N m fuel (u / 10) (bstr [u8 (i64 (48 + (Int.tmod (u : Int) 10)))] ++ acc) (by rw [Nat.pow_succ] at hu; omega) (by omega) (by omega) (by rw [size_app, bstr_one]; omega)
        refine ⟨v, w, e1, e2, by rw [size_app, bstr_one] at e3; omega, ?_⟩
        rw [e4, ba_app, hd, dif_neg h9]
        simp
theorem spec_NumText_val (n : Int) : spec_NumText n = some (numT n) := by
  unfold spec_NumText numT
  rw [l01Money_val, Option.bind_some]
  rcases tf (money n) with h | h
  · obtain ⟨h0, h1⟩ := money_bounds h
    obtain ⟨u, rfl⟩ : ∃ u : Nat, n = (u : Int) := ⟨n.toNat, by omega⟩
    obtain ⟨v, w, e1, e2, e3, e4⟩ := NumText_l0_val u 19 FUEL u (bs []) (by omega) (by unfold FUEL; omega) (by omega) (by decide)
    have hs : (bstr [u8 (i64 (48 + (v : Int)))]).size + w.size ≤ 9223372036854775807 := by
      have : (bs []).size = 0 := rfl
      rw [bstr_one]; omega
    simp only [h, if_true, e1, Option.bind_some, hs, decide_true]
    congr 1
    apply ba_ext
    rw [ba_app, bstr_list, i64_of (by omega) (by omega), u8_of (by omega) (by omega)]
    have e5 : (bs []).data.toList = [] := rfl
    rw [e5, List.append_nil] at e4
    simp only [List.map_cons, List.map_nil, List.cons_append, List.nil_append, Lib.itoa, show ¬ ((u : Int) < 0) by omega, if_false, Int.toNat_natCast, List.toList_toArray]
    rw [← e4]
    congr 2
  · simp only [h, Bool.false_eq_true, if_false]; rfl
theorem impl_NumText_val (n : Int) : impl_NumText n = some (numT n) := by
  unfold impl_NumText numT strconv_Itoa
  rw [isMoney_val, Option.bind_some]
  rcases tf (money n) with h | h
  · obtain ⟨g1, g2⟩ := money_bounds h
    simp [h, show -9223372036854775808 ≤ n by omega, show n ≤ 9223372036854775807 by omega]
  · simp only [h, Bool.false_eq_true, if_false]; rfl
/-- Texts one behind the other, sep between them. -/
def sepT (sep : ByteArray) : List ByteArray → ByteArray
  | [] => bs []
  | x :: t => x ++ t.foldr (fun y r => (sep ++ y) ++ r) (bs [])
theorem ba_nil_app (a : ByteArray) : bs [] ++ a = a := ba_ext (by rw [ba_app]; rfl)
theorem ba_app_nil (a : ByteArray) : a ++ bs [] = a := ba_ext (by rw [ba_app]; exact List.append_nil _)
theorem ba_assoc (a b c : ByteArray) : (a ++ b) ++ c = a ++ (b ++ c) := ba_ext (by simp only [ba_app, List.append_assoc])
theorem tail_data (sep : ByteArray) (l : List ByteArray) : (l.foldr (fun y r => (sep ++ y) ++ r) (bs [])).data.toList = Lib.joinTail sep.data.toList (l.map (·.data.toList)) := by
  induction l with
  | nil => rfl
  | cons x t ih =>
    simp only [List.foldr_cons, ba_app, ih, Lib.joinTail, List.map_cons, List.flatten_cons, List.append_assoc]
theorem joined_eq (sep : ByteArray) (l : List ByteArray) : joined l sep = sepT sep l := by
  apply ba_ext
  cases l with
  | nil => rfl
  | cons x t =>
    unfold joined sepT
    simp only [List.map_cons, Lib.join_cons, ba_app, tail_data, List.toList_toArray]
theorem sepT_size (sep : ByteArray) (hs : sep.size = 1) (l : List ByteArray) : (sepT sep l).size ≤ wtL (fun s : ByteArray => s.size) l := by
  have ht : ∀ t : List ByteArray, (t.foldr (fun y r => (sep ++ y) ++ r) (bs [])).size ≤ wtL (fun s : ByteArray => s.size) t := fun t => by
    induction t with
    | nil => exact Nat.le_refl 0
    | cons x t ih => simp only [List.foldr_cons, size_app, wtL]; omega
  cases l with
  | nil => exact Nat.le_refl 0
  | cons x t =>
    have := ht t
    simp only [sepT, size_app, wtL]; omega
theorem Join_val (sep : ByteArray) (hs : sep.size = 1) (l : List ByteArray) (h : wtL (fun s : ByteArray => s.size) l ≤ 140737488355328) : strings_Join l sep = some (sepT sep l) := by
  have h1 := wtL_len (fun s : ByteArray => s.size) l
  have h2 := sepT_size sep hs l
  unfold strings_Join
  rw [joined_eq]
  simp [show l.length ≤ 140737488355328 by omega, show (sepT sep l).size ≤ 140737488355328 by omega]
def opB (op : Int) : Bool := decide (1 ≤ op) && decide (op ≤ 8)
theorem op_cases {op : Int} (h : opB op = true) : op = 1 ∨ op = 2 ∨ op = 3 ∨ op = 4 ∨ op = 5 ∨ op = 6 ∨ op = 7 ∨ op = 8 := by
  unfold opB at h
  simp only [Bool.and_eq_true, decide_eq_true_eq] at h
  omega
def nameT (op : Int) : ByteArray := if opB op = true then [bs [], bs [97, 117, 116, 104], bs [109, 111, 114, 101], bs [112, 97, 114, 116], bs [102, 105, 110, 97, 108], bs [102, 114, 101, 101], bs [109, 111, 118, 101], bs [97, 115, 107], bs [115, 119, 101, 101, 112]].getD op.toNat (bs []) else bs []
def mtiT (op : Int) : ByteArray := if opB op = true then [bs [], bs [48, 49, 48, 48], bs [48, 49, 48, 48], bs [48, 50, 50, 48], bs [48, 50, 50, 48], bs [48, 50, 50, 48], bs [48, 50, 48, 48], bs [48, 49, 48, 48], bs [48, 50, 48, 48]].getD op.toNat (bs []) else bs []
def holdB (op : Int) : Bool := opB op && decide (op < 7)
def amtB (op : Int) : Bool := decide (1 ≤ op) && decide (op ≤ 4)
theorem l11Op_val (op : Int) : spec_l11Op op = some (opB op) := by unfold spec_l11Op; rw [l01In_val]; rfl
theorem l11Hold_val (op : Int) : spec_l11Hold op = some (holdB op) := by
  unfold spec_l11Hold holdB
  rw [l11Op_val]
  rcases tf (opB op) with h | h <;> simp [h]
theorem l11Amount_val (op : Int) : spec_l11Amount op = some (amtB op) := by unfold spec_l11Amount; rw [l01In_val]; rfl
theorem spec_OpName_val (op : Int) : spec_OpName op = some (nameT op) := by
  rcases tf (opB op) with h | h
  · rcases op_cases h with rfl | rfl | rfl | rfl | rfl | rfl | rfl | rfl <;> decide +kernel
  · unfold spec_OpName nameT
    rw [l11Op_val, h]
    rfl
theorem spec_OpMti_val (op : Int) : spec_OpMti op = some (mtiT op) := by
  rcases tf (opB op) with h | h
  · rcases op_cases h with rfl | rfl | rfl | rfl | rfl | rfl | rfl | rfl <;> decide +kernel
  · unfold spec_OpMti mtiT
    rw [l11Op_val, h]
    rfl
theorem impl_opOf_val (op : Int) : ∃ r, impl_opOf op = some r ∧ r.name = nameT op ∧ r.mti = mtiT op ∧ (r.name == bs []) = !(opB op) ∧ slices_Contains_int r.fields 38 = some (holdB op) ∧ slices_Contains_int r.fields 4 = some (amtB op) ∧ slices_Contains_int r.fields 14 = some (op == 1) ∧ slices_Contains_int r.fields 103 = some (op == 6) := by
  rcases tf (opB op) with h | h
  · rcases op_cases h with rfl | rfl | rfl | rfl | rfl | rfl | rfl | rfl <;> exact ⟨_, rfl, by decide +kernel, by decide +kernel, by decide +kernel, by decide +kernel, by decide +kernel, by decide +kernel, by decide +kernel⟩
  · have h' := h
    unfold opB at h'
    have n1 : (op == 1) = false := by
      rw [beq_eq_false_iff_ne]
      rintro rfl
      exact absurd h' (by decide)
    have n6 : (op == 6) = false := by
      rw [beq_eq_false_iff_ne]
      rintro rfl
      exact absurd h' (by decide)
    have na : amtB op = false := by
      unfold amtB
      rcases tf (decide (1 ≤ op) && decide (op ≤ 4)) with q | q
      · simp only [Bool.and_eq_true, decide_eq_true_eq] at q
        simp only [Bool.and_eq_false_iff, decide_eq_false_iff_not] at h'
        omega
      · exact q
    refine ⟨⟨ByteArray.empty, ByteArray.empty, ByteArray.empty, []⟩, ?_, ?_, ?_, ?_, ?_, ?_, ?_, ?_⟩
    · unfold impl_opOf
      rw [within_val, h']
      rfl
    · unfold nameT; rw [h]; rfl
    · unfold mtiT; rw [h]; rfl
    · rw [h]; decide +kernel
    · rw [show holdB op = false by unfold holdB; rw [h]; rfl]; decide +kernel
    · rw [na]; decide +kernel
    · rw [n1]; decide +kernel
    · rw [n6]; decide +kernel
theorem uses_val (op : Int) : impl_uses op 38 = some (holdB op) ∧ impl_uses op 4 = some (amtB op) ∧ impl_uses op 14 = some (op == 1) ∧ impl_uses op 103 = some (op == 6) := by
  obtain ⟨r, e, _, _, _, e1, e2, e3, e4⟩ := impl_opOf_val op
  unfold impl_uses
  simp only [e, Option.bind_some, e1, e2, e3, e4, and_self]
theorem impl_OpName_val (op : Int) : impl_OpName op = some (nameT op) := by
  obtain ⟨r, e, e1, _⟩ := impl_opOf_val op
  unfold impl_OpName
  simp only [e, Option.bind_some, e1]
theorem isWide6_val (s : ByteArray) (hs : s.size ≤ 4000000) (n : Int) : ∃ d, spec_Digits s = some d ∧ impl_isWide s n = some (d && !((s.size : Int) != n)) := by
  obtain ⟨d, e1, e2, _⟩ := Digits_tot s hs
  refine ⟨d, e1, ?_⟩
  unfold impl_isWide
  simp only [e2, Option.bind_some]
  rcases tf d with h | h
  · rcases tf ((s.size : Int) == n) with q | q <;> simp [h, q, bne]
  · simp [h]
/-- What makes a request valid. -/
structure RqB where
  a : Bool
  d : Bool
  h : Bool
  o : Bool
def rqOk (q : Req) (r : RqB) : Bool :=
  (opB q.Op && ((q.Mti == mtiT q.Op) && (r.a && (r.d && !((q.Trace.size : Int) != 6))))) &&
  ((if holdB q.Op = true then r.h else (q.Hold == bs [])) && ((if amtB q.Op = true then (decide (0 ≤ q.Amount) && decide (q.Amount ≤ 999999999999)) else (q.Amount == 0)) &&
    ((if (q.Op == 1) = true then (decide (0 ≤ q.Ttl) && decide (q.Ttl ≤ 9999)) else (q.Ttl == 0)) && (if (q.Op == 6) = true then r.o else (q.Other == bs [])))))
theorem ReqOk_tot (q : Req) (h1 : q.Trace.size ≤ 4000000) (h2 : q.Hold.size ≤ 4000000) : ∃ r, spec_ReqOk q = some (rqOk q r) ∧ impl_ReqOk q = some (rqOk q r) := by
  obtain ⟨a, a1, a2, _⟩ := AcctIdOk_eq q.Acct
  obtain ⟨o, o1, o2, _⟩ := AcctIdOk_eq q.Other
  obtain ⟨d, d1, d2⟩ := isWide6_val q.Trace h1 6
  obtain ⟨h, t1, t2, _⟩ := HoldIdOk_tot q.Hold h2
  obtain ⟨r, e, e1, e2, e3, e4, e5, e6, e7⟩ := impl_opOf_val q.Op
  obtain ⟨u1, u2, u3, u4⟩ := uses_val q.Op
  refine ⟨⟨a, d, h, o⟩, ?_, ?_⟩
  · have c0 : spec_ReqOk_c0 q = some (if (opB q.Op && ((q.Mti == mtiT q.Op) && (a && (d && !((q.Trace.size : Int) != 6))))) = true then .out () else .ret ()) := by
      unfold spec_ReqOk_c0
      simp only [l11Op_val, spec_OpMti_val, a1, d1, Option.bind_some]
      rcases tf (opB q.Op) with x1 | x1 <;> rcases tf (q.Mti == mtiT q.Op) with x2 | x2 <;> rcases tf a with x3 | x3 <;> rcases tf d with x4 | x4 <;> rcases tf ((q.Trace.size : Int) != 6) with x5 | x5 <;> simp only [x1, x2, x3, x4, x5, if_true, if_false, Bool.false_eq_true, Bool.and_true, Bool.and_false, Bool.true_and, Bool.false_and, Bool.not_true, Bool.not_false]
    have c1 : spec_ReqOk_c1 q = some (if (if holdB q.Op = true then h else (q.Hold == bs [])) = true then .out () else .ret ()) := by
      unfold spec_ReqOk_c1
      simp only [l11Hold_val, t1, Option.bind_some]
      rcases tf (holdB q.Op) with x1 | x1 <;> rcases tf h with x2 | x2 <;> rcases tf (q.Hold == bs []) with x3 | x3 <;> simp only [x1, x2, x3, if_true, if_false, Bool.false_eq_true]
    have c2 : spec_ReqOk_c2 q = some (if (if amtB q.Op = true then (decide (0 ≤ q.Amount) && decide (q.Amount ≤ 999999999999)) else (q.Amount == 0)) = true then .out () else .ret ()) := by
      unfold spec_ReqOk_c2
      simp only [l11Amount_val, l01In_val, Option.bind_some, bne]
      rcases tf (amtB q.Op) with x1 | x1 <;> rcases tf (decide (0 ≤ q.Amount) && decide (q.Amount ≤ 999999999999)) with x2 | x2 <;> rcases tf (q.Amount == 0) with x3 | x3 <;> simp only [x1, x2, x3, if_true, if_false, Bool.false_eq_true, Bool.not_true, Bool.not_false]
    have c3 : spec_ReqOk_c3 q = some (if (if (q.Op == 1) = true then (decide (0 ≤ q.Ttl) && decide (q.Ttl ≤ 9999)) else (q.Ttl == 0)) = true then .out () else .ret ()) := by
      unfold spec_ReqOk_c3
      simp only [l01In_val, Option.bind_some, bne]
      rcases tf (q.Op == 1) with x1 | x1 <;> rcases tf (decide (0 ≤ q.Ttl) && decide (q.Ttl ≤ 9999)) with x2 | x2 <;> rcases tf (q.Ttl == 0) with x3 | x3 <;> simp only [x1, x2, x3, if_true, if_false, Bool.false_eq_true, Bool.not_true, Bool.not_false]
    unfold spec_ReqOk rqOk
    rw [c0, c1, c2, c3, o1]
    generalize (opB q.Op && ((q.Mti == mtiT q.Op) && (a && (d && !((q.Trace.size : Int) != 6))))) = y0
    generalize (if holdB q.Op = true then h else (q.Hold == bs [])) = y1
    generalize (if amtB q.Op = true then (decide (0 ≤ q.Amount) && decide (q.Amount ≤ 999999999999)) else (q.Amount == 0)) = y2
    generalize (if (q.Op == 1) = true then (decide (0 ≤ q.Ttl) && decide (q.Ttl ≤ 9999)) else (q.Ttl == 0)) = y3
    cases y0 <;> cases y1 <;> cases y2 <;> cases y3 <;> simp only [if_true, if_false, Bool.false_eq_true, Option.bind_some, Lo.elim, Bool.and_true, Bool.and_false, Bool.true_and, Bool.false_and]
    rcases tf (q.Op == 6) with x1 | x1 <;> cases o <;> simp [x1, bne]
  · have c0 : impl_ReqOk_c0 q r = some (if (opB q.Op && ((q.Mti == mtiT q.Op) && (a && (d && !((q.Trace.size : Int) != 6))))) = true then .out () else .ret ()) := by
      unfold impl_ReqOk_c0
      simp only [e2, e3, a2, d2, Option.bind_some]
      rcases tf (opB q.Op) with x1 | x1 <;> rcases tf (q.Mti == mtiT q.Op) with x2 | x2 <;> rcases tf a with x3 | x3 <;> rcases tf (d && !((q.Trace.size : Int) != 6)) with x4 | x4 <;> simp only [x1, x2, x3, x4, if_true, if_false, Bool.false_eq_true, Bool.and_true, Bool.and_false, Bool.true_and, Bool.false_and, Bool.not_true, Bool.not_false]
    have c1 : impl_ReqOk_c1 q = some (if holdB q.Op = true then h else (q.Hold == bs [])) := by
      unfold impl_ReqOk_c1
      simp only [u1, t2, Option.bind_some]
      rcases tf (holdB q.Op) with x1 | x1 <;> simp only [x1, if_true, if_false, Bool.false_eq_true]
    have c2 : ∀ y1, impl_ReqOk_c2 q y1 = some (if amtB q.Op = true then (decide (0 ≤ q.Amount) && decide (q.Amount ≤ 999999999999)) else (q.Amount == 0)) := fun y1 => by
      unfold impl_ReqOk_c2
      simp only [u2, within_val, Option.bind_some]
      rcases tf (amtB q.Op) with x1 | x1 <;> simp only [x1, if_true, if_false, Bool.false_eq_true]
    have c3 : ∀ y1 y2, impl_ReqOk_c3 q y1 y2 = some (if (q.Op == 1) = true then (decide (0 ≤ q.Ttl) && decide (q.Ttl ≤ 9999)) else (q.Ttl == 0)) := fun y1 y2 => by
      unfold impl_ReqOk_c3
      simp only [u3, within_val, Option.bind_some]
      rcases tf (q.Op == 1) with x1 | x1 <;> simp only [x1, if_true, if_false, Bool.false_eq_true]
    have c4 : ∀ y1 y2 y3, impl_ReqOk_c4 q y1 y2 y3 = some (if (q.Op == 6) = true then o else (q.Other == bs [])) := fun y1 y2 y3 => by
      unfold impl_ReqOk_c4
      simp only [u4, o2, Option.bind_some]
      rcases tf (q.Op == 6) with x1 | x1 <;> simp only [x1, if_true, if_false, Bool.false_eq_true]
    unfold impl_ReqOk rqOk
    rw [e, Option.bind_some, c0, c1]
    simp only [c2, c3, c4]
    generalize (opB q.Op && ((q.Mti == mtiT q.Op) && (a && (d && !((q.Trace.size : Int) != 6))))) = y0
    generalize (if holdB q.Op = true then h else (q.Hold == bs [])) = y1
    generalize (if amtB q.Op = true then (decide (0 ≤ q.Amount) && decide (q.Amount ≤ 999999999999)) else (q.Amount == 0)) = y2
    generalize (if (q.Op == 1) = true then (decide (0 ≤ q.Ttl) && decide (q.Ttl ≤ 9999)) else (q.Ttl == 0)) = y3
    generalize (if (q.Op == 6) = true then o else (q.Other == bs [])) = y4
    cases y0 <;> cases y1 <;> cases y2 <;> cases y3 <;> simp only [if_true, if_false, Bool.false_eq_true, Option.bind_some, Lo.elim, Bool.and_true, Bool.and_false, Bool.true_and, Bool.false_and]
theorem nameT_size (op : Int) : (nameT op).size ≤ 5 := by
  rcases tf (opB op) with h | h
  · rcases op_cases h with rfl | rfl | rfl | rfl | rfl | rfl | rfl | rfl <;> decide +kernel
  · unfold nameT; rw [h]; exact Nat.zero_le 5
/-- A request's words. -/
def reqWords (q : Req) : List ByteArray :=
  [nameT q.Op, q.Acct, q.Trace] ++ ((if holdB q.Op = true then [q.Hold] else []) ++ ((if amtB q.Op = true then [numT q.Amount] else []) ++ ((if (q.Op == 1) = true then [numT q.Ttl] else []) ++ (if (q.Op == 6) = true then [q.Other] else []))))
def reqT (q : Req) : ByteArray := sepT (bs [32]) (reqWords q)
theorem sepT_app (sep : ByteArray) (l : List ByteArray) (y : ByteArray) (h : l ≠ []) : sepT sep (l ++ [y]) = (sepT sep l ++ sep) ++ y := by
  cases l with
  | nil => exact absurd rfl h
  | cons x t =>
    show x ++ ((t ++ [y]).foldr (fun y r => (sep ++ y) ++ r) (bs [])) = ((x ++ t.foldr (fun y r => (sep ++ y) ++ r) (bs [])) ++ sep) ++ y
    clear h
    rw [ba_assoc, ba_assoc]
    congr 1
    induction t with
    | nil => simp [ba_app_nil, ba_nil_app]
    | cons z t ih => rw [List.cons_append, List.foldr_cons, ih, List.foldr_cons]; simp only [ba_assoc]
theorem ReqText_val (q : Req) (hw : wtReq q ≤ 1048576) : ∃ y, spec_ReqText q = some y ∧ impl_ReqText q = some y ∧ y.size ≤ 400000000 := by
  unfold wtReq at hw
  obtain ⟨r, e1, e2⟩ := ReqOk_tot q (by omega) (by omega)
  obtain ⟨u1, u2, u3, u4⟩ := uses_val q.Op
  have n1 := nameT_size q.Op
  have n2 := numT_size q.Amount
  have n3 := numT_size q.Ttl
  have b1 : (bs [32]).size = 1 := rfl
  have c0 : spec_ReqText_c0 q = some (if rqOk q r = true then .out () else .ret ()) ∧ impl_ReqText_c0 q = some (if rqOk q r = true then .out () else .ret ()) := by
    unfold spec_ReqText_c0 impl_ReqText_c0
    simp only [e1, e2, Option.bind_some]
    rcases tf (rqOk q r) with x | x <;> simp only [x, if_true, if_false, Bool.false_eq_true, and_self]
  rcases tf (rqOk q r) with x | x
  · have hsz : wtL (fun s : ByteArray => s.size) (reqWords q) ≤ 40000000 := by
      unfold reqWords
      rcases tf (holdB q.Op) with x1 | x1 <;> rcases tf (amtB q.Op) with x2 | x2 <;> rcases tf (q.Op == 1) with x3 | x3 <;> rcases tf (q.Op == 6) with x4 | x4 <;> simp [x1, x2, x3, x4, wtL] <;> omega
    have hy : (reqT q).size ≤ 400000000 := by
      have := sepT_size (bs [32]) rfl (reqWords q)
      unfold reqT; omega
    refine ⟨reqT q, ?_, ?_, hy⟩
    · have base : (((nameT q.Op ++ bs [32]) ++ q.Acct) ++ bs [32]) ++ q.Trace = sepT (bs [32]) [nameT q.Op, q.Acct, q.Trace] := by
        have := sepT_app (bs [32]) [nameT q.Op, q.Acct] q.Trace (by simp)
        rw [show [nameT q.Op, q.Acct] ++ [q.Trace] = [nameT q.Op, q.Acct, q.Trace] from rfl] at this
        rw [this]
        have := sepT_app (bs [32]) [nameT q.Op] q.Acct (by simp)
        rw [show [nameT q.Op] ++ [q.Acct] = [nameT q.Op, q.Acct] from rfl] at this
        rw [this]
        show _ = ((((nameT q.Op ++ bs []) ++ bs [32]) ++ q.Acct) ++ bs [32]) ++ q.Trace
        rw [ba_app_nil]
      have bsz : ((((nameT q.Op ++ bs [32]) ++ q.Acct) ++ bs [32]) ++ q.Trace).size ≤ 9000000 := by simp only [size_app, b1]; omega
      have c1 : spec_ReqText_c1 q (nameT q.Op) = some (sepT (bs [32]) ([nameT q.Op, q.Acct, q.Trace] ++ (if holdB q.Op = true then [q.Hold] else []))) := by
        unfold spec_ReqText_c1
        rw [l11Hold_val, Option.bind_some, base]
        rw [base] at bsz
        rcases tf (holdB q.Op) with x1 | x1
        · rw [x1, if_pos rfl, if_pos rfl, if_pos (decide_eq_true (by rw [b1]; omega)), if_pos (decide_eq_true (by rw [size_app, b1]; omega)), sepT_app _ _ _ (by simp)]
        · rw [x1, if_neg (by decide), if_neg (by decide), List.append_nil]
      have step : ∀ (c : Bool) (l : List ByteArray) (y : ByteArray), l ≠ [] → (if c = true then (sepT (bs [32]) l ++ bs [32]) ++ y else sepT (bs [32]) l) = sepT (bs [32]) (l ++ (if c = true then [y] else [])) := fun c l y hl => by
        cases c with
        | true => rw [if_pos rfl, if_pos rfl, sepT_app _ _ _ hl]
        | false => rw [if_neg (by decide), if_neg (by decide), List.append_nil]
      have c2 : ∀ r : ByteArray, r.size ≤ 100000000 → spec_ReqText_c2 q r = some (if amtB q.Op = true then (r ++ bs [32]) ++ numT q.Amount else r) := fun r hr => by
        unfold spec_ReqText_c2
        rw [l11Amount_val, Option.bind_some]
        rcases tf (amtB q.Op) with x1 | x1
        · simp only [x1, if_true, spec_NumText_val, Option.bind_some]
          rw [if_pos (decide_eq_true (by rw [b1]; omega)), if_pos (decide_eq_true (by rw [size_app, b1]; omega))]
        · simp only [x1, if_false, Bool.false_eq_true]
      have c3 : ∀ r : ByteArray, r.size ≤ 100000000 → spec_ReqText_c3 q r = some (if (q.Op == 1) = true then (r ++ bs [32]) ++ numT q.Ttl else r) := fun r hr => by
        unfold spec_ReqText_c3
        rcases tf (q.Op == 1) with x1 | x1
        · simp only [x1, if_true, spec_NumText_val, Option.bind_some]
          rw [if_pos (decide_eq_true (by rw [b1]; omega)), if_pos (decide_eq_true (by rw [size_app, b1]; omega))]
        · simp only [x1, if_false, Bool.false_eq_true]
      have c4 : ∀ r : ByteArray, r.size ≤ 100000000 → spec_ReqText_c4 q r = some (if (q.Op == 6) = true then (r ++ bs [32]) ++ q.Other else r) := fun r hr => by
        unfold spec_ReqText_c4
        rcases tf (q.Op == 6) with x1 | x1
        · simp only [x1, if_true]
          rw [if_pos (decide_eq_true (by rw [b1]; omega)), if_pos (decide_eq_true (by rw [size_app, b1]; omega))]
        · simp only [x1, if_false, Bool.false_eq_true]
      have hp : ∀ l m : List ByteArray, l ++ m = reqWords q → (sepT (bs [32]) l).size ≤ 100000000 := fun l m e => by
        have h1 := sepT_size (bs [32]) rfl l
        have h2 := wtL_app (fun s : ByteArray => s.size) l m
        rw [e] at h2
        omega
      unfold spec_ReqText
      simp only [c0.1, x, spec_OpName_val, Option.bind_some, if_true, Lo.elim, size_app, b1, show (nameT q.Op).size + 1 ≤ 9223372036854775807 by omega, show (nameT q.Op).size + 1 + q.Acct.size ≤ 9223372036854775807 by omega, show (nameT q.Op).size + 1 + q.Acct.size + 1 ≤ 9223372036854775807 by omega, show (nameT q.Op).size + 1 + q.Acct.size + 1 + q.Trace.size ≤ 9223372036854775807 by omega, decide_true, c1]
      rw [c2 _ (hp _ _ (by unfold reqWords; rw [List.append_assoc])), Option.bind_some, step _ _ _ (by simp)]
      rw [c3 _ (hp _ _ (by unfold reqWords; simp only [List.append_assoc]; rfl)), Option.bind_some, step _ _ _ (by simp)]
      rw [c4 _ (hp _ _ (by unfold reqWords; simp only [List.append_assoc]; rfl)), Option.bind_some, step _ _ _ (by simp)]
      unfold reqT reqWords
      simp only [List.append_assoc]
    · unfold impl_ReqText impl_ReqText_c1 impl_ReqText_c2 impl_ReqText_c3 impl_ReqText_c4
      have hj : ∀ l, l = reqWords q → strings_Join l (bs [32]) = some (reqT q) := fun l hl => by
        rw [hl]
        exact Join_val (bs [32]) rfl _ (by omega)
      simp only [c0.2, x, impl_OpName_val, u1, u2, u3, u4, impl_NumText_val, Option.bind_some, if_true, Lo.elim]
      unfold reqWords at hj
      rcases tf (holdB q.Op) with x1 | x1 <;> rcases tf (amtB q.Op) with x2 | x2 <;> rcases tf (q.Op == 1) with x3 | x3 <;> rcases tf (q.Op == 6) with x4 | x4 <;>
        simp only [x1, x2, x3, x4, if_true, if_false, Bool.false_eq_true, Option.bind_some, List.append_nil, List.nil_append, List.cons_append] at hj ⊢ <;>
        (repeat (rw [if_pos (capOk_of (by simp))])) <;> (try simp only [Option.bind_some, List.cons_append, List.nil_append]) <;> (repeat (rw [if_pos (capOk_of (by simp))])) <;> (try simp only [Option.bind_some, List.cons_append, List.nil_append]) <;>
        (repeat (rw [if_pos (capOk_of (by simp))])) <;> (try simp only [Option.bind_some, List.cons_append, List.nil_append]) <;> rw [hj _ rfl] <;> rfl
  · refine ⟨bs [], ?_, ?_, by decide⟩
    · unfold spec_ReqText
      simp only [c0.1, x, Option.bind_some, if_false, Bool.false_eq_true, Lo.elim]
    · unfold impl_ReqText
      simp only [c0.2, x, Option.bind_some, if_false, Bool.false_eq_true, Lo.elim]
namespace Pure
theorem FnExactReqText (aQ : Req) (h0 : W23 aQ) : laws_FnExactReqText aQ = some true := by
  unfold laws_FnExactReqText
  obtain ⟨r1, er1, gr1⟩ := szReq_val aQ 1048576 h0 (by omega) (by omega)
  rw [er1, Option.bind_some]
  by_cases cr1 : r1 < 0
  · simp only [cr1, decide_true, decide_false, Bool.false_eq_true, if_true, if_false]
  have gr1 := gr1 (by omega)
  simp only [cr1, decide_true, decide_false, Bool.false_eq_true, if_true, if_false]
  obtain ⟨y, f1, f2, f3⟩ := ReqText_val aQ (by omega)
  simp only [f1, f2, toReq_val aQ (by omega), Option.bind_some, decide_true, decide_false, Bool.false_eq_true, if_true, if_false, bne_rfl, beq_rfl, beq_self_eq_true]
end Pure
end Go.Proofs.YtjnnbcdakaabbaaDoorM
