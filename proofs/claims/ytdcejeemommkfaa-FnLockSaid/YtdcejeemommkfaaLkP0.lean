/- Laws of the plain functions. No condition. -/
import Derived.Test.YtdcejeemommkfaaLkOp
import Derived.Laws.StructEq
namespace Go.Proofs.YtdcejeemommkfaaM
set_option linter.unusedVariables false
set_option linter.unusedSimpArgs false
set_option maxRecDepth 100000
theorem i64_of {x : Int} (h : -9223372036854775808 ≤ x) (h2 : x ≤ 9223372036854775807) : i64 x = x := by unfold i64; rw [IntKind.wrap_i64]; omega
theorem i64_nn {x : Int} (h : 0 ≤ x) (h2 : x ≤ 9223372036854775807) : i64 x = x := i64_of (by omega) h2
theorem u8_of {x : Int} (h : 0 ≤ x) (h2 : x ≤ 255) : u8 x = x := by unfold u8 IntKind.wrap; simp [IntKind.bits, IntKind.signed]; omega
theorem sAt_nn (s : ByteArray) (i : Int) : 0 ≤ sAt s i := by unfold sAt; omega
theorem sAt_le (s : ByteArray) (i : Int) : sAt s i ≤ 255 := by unfold sAt; have := (s.data.getD i.toNat 0).toNat_lt; omega
theorem capOk_of {n : Nat} (h : n ≤ 274877906944) : capOk n = true := decide_eq_true h
theorem beqB (a b : ByteArray) : (a == b) = decide (a = b) := by
  rcases a with ⟨a⟩
  rcases b with ⟨b⟩
  have h1 : ((⟨a⟩ : ByteArray) == ⟨b⟩) = (a == b) := rfl
  rw [h1]
  by_cases h : a = b
  · subst h; simp
  · have h2 : ¬ ((⟨a⟩ : ByteArray) = ⟨b⟩) := fun e => h (by cases e; rfl)
    rw [decide_eq_false h2]
    simpa using h
theorem tmod10 {x : Int} (h : 0 ≤ x) : Int.tmod x 10 = x % 10 := Int.tmod_eq_emod_of_nonneg h
theorem beq_rfl (s : ByteArray) : (s == s) = true := by rw [beqB]; simp
theorem bne_rfl (n : Int) : (n != n) = false := by simp
def byB (l : List Int) : Prop := ∀ b ∈ l, 0 ≤ b ∧ b ≤ 255
/-- The weight of a list: its length, and its elements' weights. -/
def wtL {α : Type} (f : α → Nat) : List α → Nat
  | [] => 0
  | x :: t => 1 + f x + wtL f t
def wtS {α : Type} (f : α → Nat) : List α → Nat
  | [] => 0
  | x :: t => f x + wtS f t
theorem wtL_eq {α : Type} (f : α → Nat) : ∀ l : List α, wtL f l = l.length + wtS f l
  | [] => rfl
  | x :: t => by simp only [wtL, wtS, List.length_cons]; rw [wtL_eq f t]; omega
theorem wtL_len {α : Type} (f : α → Nat) (l : List α) : l.length ≤ wtL f l := by rw [wtL_eq]; omega
theorem wtL_mem {α : Type} (f : α → Nat) : ∀ (l : List α) (x : α), x ∈ l → f x + 1 ≤ wtL f l
  | y :: t, x, h => by
    simp only [wtL]
    rcases List.mem_cons.1 h with rfl | h
    · omega
    · have := wtL_mem f t x h; omega
theorem wtL_app {α : Type} (f : α → Nat) : ∀ (l l2 : List α), wtL f (l ++ l2) = wtL f l + wtL f l2
  | [], l2 => by simp [wtL]
  | x :: t, l2 => by simp only [List.cons_append, wtL]; rw [wtL_app f t l2]; omega
theorem wtL_filter {α : Type} (f : α → Nat) (q : α → Bool) : ∀ l : List α, wtL f (l.filter q) ≤ wtL f l
  | [] => by simp [wtL]
  | x :: t => by
    have := wtL_filter f q t
    rw [List.filter_cons]
    split <;> simp only [wtL] <;> omega
theorem wtL_bound {α : Type} (f : α → Nat) (k : Nat) : ∀ (l : List α), (∀ x ∈ l, f x ≤ k) → wtL f l ≤ (k + 1) * l.length
  | [], _ => by simp [wtL]
  | x :: t, h => by
    have h1 := wtL_bound f k t (fun y hy => h y (by simp [hy]))
    have h2 := h x (by simp)
    simp only [wtL, List.length_cons, Nat.mul_succ]
    omega
def wtHold (a : Hold) : Nat := a.Id.size
theorem wtHold_eq (a : Hold) : wtHold a = a.Id.size := rfl
def wtRing (a : Ring) : Nat := a.Counts.length + a.Sums.length
theorem wtRing_eq (a : Ring) : wtRing a = a.Counts.length + a.Sums.length := rfl
def wtSlot (a : Slot) : Nat := a.Trace.size + a.Mti.size + a.Reply.length
theorem wtSlot_eq (a : Slot) : wtSlot a = a.Trace.size + a.Mti.size + a.Reply.length := rfl
def wtAcct (a : Acct) : Nat := a.Id.size + wtL wtHold a.Holds + wtRing a.Ring + wtL wtSlot a.Slots
theorem wtAcct_eq (a : Acct) : wtAcct a = a.Id.size + wtL wtHold a.Holds + wtRing a.Ring + wtL wtSlot a.Slots := rfl
def wtStripe (a : Stripe) : Nat := wtL wtAcct a.Accts
theorem wtStripe_eq (a : Stripe) : wtStripe a = wtL wtAcct a.Accts := rfl
theorem tf (b : Bool) : b = true ∨ b = false := by cases b <;> simp
def all2 {α β : Type} (q : α → β → Bool) : List α → List β → Bool
  | [], _ => true
  | x :: t, y :: u => q x y && all2 q t u
  | _ :: _, [] => false
theorem all2_iff {α : Type} (q : α → α → Bool) (hq : ∀ x y, q x y = true ↔ x = y) : ∀ (a b : List α), a.length = b.length → (all2 q a b = true ↔ a = b)
  | [], [], _ => by simp [all2]
  | x :: t, y :: u, h => by
    simp only [List.length_cons, Nat.add_right_cancel_iff] at h
    simp only [all2, Bool.and_eq_true, hq, all2_iff q hq t u h, List.cons.injEq]
  | [], y :: u, h => by simp at h
  | x :: t, [], h => by simp at h
theorem pair_loop {α β : Type} {L : List α → List α → Option (Lo Unit Unit)} (b : List β) (Qx : α → Prop) (Qy : β → Prop) (q : α → β → Bool) (h0 : ∀ p, L [] p = some (.out ()))
    (h1 : ∀ x t p y, b[p.length]? = some y → Qx x → Qy y → L (x :: t) p = if q x y = true then L t (p ++ [x]) else some (.ret ())) (hy : ∀ y ∈ b, Qy y) :
    ∀ (t p : List α), (∀ x ∈ t, Qx x) → p.length + t.length ≤ b.length → L t p = some (if all2 q t (b.drop p.length) = true then .out () else .ret ())
  | [], p, _, _ => by rw [h0]; simp [all2]
  | x :: t, p, hx, h => by
    simp only [List.length_cons] at h
    have hlt : p.length < b.length := by omega
    rw [h1 x t p b[p.length] (List.getElem?_eq_getElem hlt) (hx x (by simp)) (hy _ (List.getElem_mem hlt)), List.drop_eq_getElem_cons hlt]
    have ih := pair_loop b Qx Qy q h0 h1 hy t (p ++ [x]) (fun z hz => hx z (by simp [hz])) (by simp; omega)
    simp only [List.length_append, List.length_cons, List.length_nil, Nat.zero_add] at ih
    simp only [all2]
    rcases tf (q x b[p.length]) with hq | hq
    · simp only [hq, if_true, Bool.true_and]; exact ih
    · simp [hq]
theorem lo_bool (c : Bool) : ((some (if c = true then Lo.out () else Lo.ret ()) : Option (Lo Unit Unit)).bind fun r => Lo.elim r (fun _ => some true) (fun _ => some false)) = some c := by cases c <;> rfl
/-- Two lists alike. -/
def listEq {α : Type} (q : α → α → Bool) (a b : List α) : Bool := !((a.length : Int) != (b.length : Int)) && all2 q a b
/-- A comparison of two lists: lengths first, then pair by pair. -/
theorem pair_main {α : Type} {L : List α → List α → Option (Lo Unit Unit)} (a b : List α) (Q : α → Prop) (q : α → α → Bool) (h0 : ∀ p, L [] p = some (.out ()))
    (h1 : ∀ x t p y, b[p.length]? = some y → Q x → Q y → L (x :: t) p = if q x y = true then L t (p ++ [x]) else some (.ret ())) (hx : ∀ x ∈ a, Q x) (hy : ∀ y ∈ b, Q y) (hl : a.length ≤ 274877906944) :
    (if ((a.length : Int) != (b.length : Int)) = true then some false else (if (capOk a.length) = true then (L a []).bind fun r => Lo.elim r (fun _ => some true) (fun _ => some false) else none)) = some (listEq q a b) := by
  unfold listEq
  by_cases h : a.length = b.length
  · have h2 : ((a.length : Int) != (b.length : Int)) = false := by rw [h]; simp
    rw [h2, capOk_of hl, pair_loop b Q Q q h0 h1 hy a [] hx (by simp; omega)]
    simp only [Bool.false_eq_true, if_false, if_true, lo_bool]
    rfl
  · have h2 : ((a.length : Int) != (b.length : Int)) = true := by rw [bne_iff_ne]; omega
    rw [h2]; rfl
theorem set_self {α : Type} {l : List α} {i : Nat} {x : α} (h : l[i]? = some x) : l.set i x = l := by
  apply List.ext_getElem?
  intro j
  rw [List.getElem?_set]
  split
  · rename_i e; subst e; rw [h]; split
    · rfl
    · rename_i hl; rw [List.getElem?_eq_none (by omega)] at h; exact h
  · rfl
theorem l01In_val (n lo hi : Int) : spec_l01In n lo hi = some (decide (lo ≤ n) && decide (n ≤ hi)) := by
  unfold spec_l01In
  by_cases h : lo ≤ n <;> simp [h]
theorem within_val (n lo hi : Int) : impl_within n lo hi = some (decide (lo ≤ n) && decide (n ≤ hi)) := by
  unfold impl_within
  by_cases h : lo ≤ n <;> simp [h]
def time (n : Int) : Bool := decide (0 ≤ n) && decide (n ≤ 1000000000)
theorem l06Time_val (n : Int) : spec_l06Time n = some (time n) := by unfold spec_l06Time; rw [l01In_val]; rfl
theorem isTime_val (n : Int) : impl_isTime n = some (time n) := by unfold impl_isTime; rw [within_val]; rfl
def money (n : Int) : Bool := decide (0 ≤ n) && decide (n ≤ 4611686018427387904)
theorem l01Money_val (n : Int) : spec_l01Money n = some (money n) := by
  unfold spec_l01Money money
  by_cases h : 0 ≤ n <;> simp [h]
theorem isMoney_val (n : Int) : impl_isMoney n = some (money n) := by unfold impl_isMoney; rw [within_val]; rfl
theorem spec_Digits_l0_tot (s : ByteArray) (hs : s.size ≤ 4000000) : ∀ (n : Nat) (v : Int), 0 ≤ v → v ≤ s.size → (s.size : Int) - v < n →
    ∃ y, spec_Digits_l0 s n v = some y ∧ impl_Digits_l0 s n v = some y ∧ ∀ u, y = .out u → ∀ i : Int, v ≤ i → i < s.size → 48 ≤ sAt s i ∧ sAt s i ≤ 57
  | 0, v, h0, hv, hn => by exfalso; omega
  | n + 1, v, h0, hv, hn => by
    unfold spec_Digits_l0 impl_Digits_l0
    by_cases h1 : v < (s.size : Int)
    · by_cases h2 : sAt s v < 48
      · exact ⟨.ret (), by simp [h1, h0, h2], by simp [h1, h0, h2], fun u e => by cases e⟩
      · by_cases h3 : 57 < sAt s v
        · exact ⟨.ret (), by simp [h1, h0, h2, h3], by simp [h1, h0, h2, h3], fun u e => by cases e⟩
        · have hi : i64 (v + 1) = v + 1 := i64_nn (by omega) (by omega)
          obtain ⟨y, e1, e2, e3⟩ := spec_Digits_l0_tot s hs n (v + 1) (by omega) (by omega) (by omega)
          refine ⟨y, by simp [h1, h0, h2, h3, hi, e1], by simp [h1, h0, h2, h3, hi, e2], fun u e i hv hi' => ?_⟩
          by_cases hiv : i = v
          · subst hiv; omega
          · exact e3 u e i (by omega) hi'
    · exact ⟨.out (), by simp [h1], by simp [h1], fun u _ i hv hi => by omega⟩
theorem beq_empty (s : ByteArray) : (s == bs []) = decide (s.size = 0) := by
  rw [beqB]
  by_cases h : s.size = 0
  · have : s = bs [] := by
      rcases s with ⟨d⟩
      have hd : d.size = 0 := h
      have : d = #[] := Array.eq_empty_of_size_eq_zero hd
      subst this; rfl
    rw [decide_eq_true h, decide_eq_true this]
  · rw [decide_eq_false h, decide_eq_false (fun e => h (by rw [e]; rfl))]
theorem Digits_tot (s : ByteArray) (hs : s.size ≤ 4000000) : ∃ b, spec_Digits s = some b ∧ impl_Digits s = some b ∧ (b = true → 0 < s.size ∧ ∀ i : Int, 0 ≤ i → i < s.size → 48 ≤ sAt s i ∧ sAt s i ≤ 57) := by
  obtain ⟨y, e1, e2, e3⟩ := spec_Digits_l0_tot s hs FUEL 0 (by omega) (by omega) (by unfold FUEL; omega)
  unfold spec_Digits impl_Digits
  rw [e1, e2]
  cases y with
  | ret u => exact ⟨false, rfl, rfl, fun h => by cases h⟩
  | out u =>
    refine ⟨decide (0 < (s.size : Int)), rfl, ?_, fun h => ⟨by have := of_decide_eq_true h; omega, fun i h0 hi => e3 u rfl i h0 hi⟩⟩
    simp only [Option.bind_some, Lo.elim, beq_empty]
    congr 1
    by_cases h : s.size = 0
    · simp [h]
    · rw [decide_eq_false h, decide_eq_true (show (0 : Int) < s.size by omega)]; rfl
theorem Luhn_l0_tot (s : ByteArray) (hs : s.size ≤ 4000000) (hd : ∀ i : Int, 0 ≤ i → i < s.size → 48 ≤ sAt s i ∧ sAt s i ≤ 57) : ∀ (n : Nat) (v w : Int) (b : Bool) (k : Int), k + 1 < n → -1 ≤ k → k < s.size → 0 ≤ v → v + 9 * (k + 1) ≤ 100000000 → w = v % 10 →
    ∃ y, impl_Luhn_l0 s n v b k = some y ∧ spec_Luhn_l0 s n w b k = some (y % 10) ∧ 0 ≤ y ∧ y ≤ 100000000
  | 0, v, w, b, k, hn, hk, hks, hv, hb, hw => by
    exfalso; omega
  | n + 1, v, w, b, k, hn, hk, hks, hv, hb, hw => by
    unfold impl_Luhn_l0 spec_Luhn_l0
    by_cases h0 : 0 ≤ k
    · obtain ⟨d1, d2⟩ := hd k h0 hks
      have hk1 : i64 (k - 1) = k - 1 := i64_of (by omega) (by omega)
      have hu : u8 (sAt s k - 48) = sAt s k - 48 := u8_of (by omega) (by omega)
      have hi : i64 (sAt s k - 48) = sAt s k - 48 := i64_of (by omega) (by omega)
      have hi2 : i64 (sAt s k) = sAt s k := i64_of (by omega) (by omega)
      have hi3 : i64 ((sAt s k - 48) * 2) = (sAt s k - 48) * 2 := i64_of (by omega) (by omega)
      have hi4 : i64 (2 * (sAt s k - 48)) = (sAt s k - 48) * 2 := by rw [Int.mul_comm]; exact hi3
      have hd0 : 0 ≤ sAt s k - 48 ∧ sAt s k - 48 ≤ 9 := by omega
      simp only [hk1, hu, hi2, hi, hi3, hi4]
      generalize sAt s k - 48 = d at *
      obtain ⟨g0, g9⟩ := hd0
      have hm : ∀ x, 0 ≤ x → x ≤ 9 → i64 (v + x) = v + x ∧ i64 (w + x) = w + x ∧ Int.tmod (w + x) 10 = (v + x) % 10 := fun x hx hx9 => by
        refine ⟨i64_of (by omega) (by omega), i64_of (by omega) (by omega), ?_⟩
        rw [tmod10 (by omega)]; omega
      by_cases hb' : b = true
      · by_cases h9 : 9 < d * 2
        · have h9' : i64 (d * 2 - 9) = d * 2 - 9 := i64_of (by omega) (by omega)
          obtain ⟨m1, m2, m3⟩ := hm (d * 2 - 9) (by omega) (by omega)
          obtain ⟨y, e1, e2, e3⟩ := Luhn_l0_tot s hs hd n (v + (d * 2 - 9)) ((v + (d * 2 - 9)) % 10) (!b) (k - 1) (by omega) (by omega) (by omega) (by omega) (by omega) rfl
          exact ⟨y, by simp only [h0, hks, hb', h9, h9', m1, m2, m3, decide_true, if_true]; rw [hb'] at e1; exact e1, by simp only [h0, hks, hb', h9, h9', m1, m2, m3, decide_true, if_true]; rw [hb'] at e2; exact e2, e3⟩
        · obtain ⟨m1, m2, m3⟩ := hm (d * 2) (by omega) (by omega)
          obtain ⟨y, e1, e2, e3⟩ := Luhn_l0_tot s hs hd n (v + d * 2) ((v + d * 2) % 10) (!b) (k - 1) (by omega) (by omega) (by omega) (by omega) (by omega) rfl
          exact ⟨y, by simp only [h0, hks, hb', h9, m1, m2, m3, decide_true, decide_false, if_true, Bool.false_eq_true, if_false]; rw [hb'] at e1; exact e1, by simp only [h0, hks, hb', h9, m1, m2, m3, decide_true, decide_false, if_true, Bool.false_eq_true, if_false]; rw [hb'] at e2; exact e2, e3⟩
      · have hbf : b = false := by simpa using hb'
        obtain ⟨m1, m2, m3⟩ := hm d (by omega) (by omega)
        obtain ⟨y, e1, e2, e3⟩ := Luhn_l0_tot s hs hd n (v + d) ((v + d) % 10) (!b) (k - 1) (by omega) (by omega) (by omega) (by omega) (by omega) rfl
        exact ⟨y, by simp only [h0, hks, hbf, m1, m2, m3, decide_true, if_true, Bool.false_eq_true, if_false]; rw [hbf] at e1; exact e1, by simp only [h0, hks, hbf, m1, m2, m3, decide_true, if_true, Bool.false_eq_true, if_false]; rw [hbf] at e2; exact e2, e3⟩
    · exact ⟨v, by simp [h0], by simp [h0, hw], hv, by omega⟩
theorem Luhn_tot (s : ByteArray) (hs : s.size ≤ 4000000) : ∃ y, spec_Luhn s = some y ∧ impl_Luhn s = some y := by
  obtain ⟨b, e1, e2, e3⟩ := Digits_tot s hs
  unfold spec_Luhn impl_Luhn
  rw [e1, e2]
  cases b with
  | false => exact ⟨-1, rfl, rfl⟩
  | true =>
    obtain ⟨hp, hd⟩ := e3 rfl
    have hi : i64 ((s.size : Int) - 1) = (s.size : Int) - 1 := i64_of (by omega) (by omega)
    obtain ⟨y, q1, q2, q3, q4⟩ := Luhn_l0_tot s hs hd FUEL 0 0 true ((s.size : Int) - 1) (by unfold FUEL; omega) (by omega) (by omega) (by omega) (by omega) rfl
    refine ⟨Int.tmod (i64 (10 - y % 10)) 10, ?_, ?_⟩
    · simp only [Option.bind_some, if_true, hi, q2]
    · simp only [Option.bind_some, if_true, hi, q1, tmod10 q3]
theorem LuhnOk_eq (s : ByteArray) (hs : s.size ≤ 4000000) : ∃ y, spec_LuhnOk s = some y ∧ impl_LuhnOk s = some y := by
  obtain ⟨b, e1, e2, e3⟩ := Digits_tot s hs
  unfold spec_LuhnOk impl_LuhnOk
  have hi : i64 ((s.size : Int) - 1) = (s.size : Int) - 1 := i64_of (by omega) (by omega)
  rw [e1, e2, hi]
  by_cases h2 : (s.size : Int) < 2
  · have h1 : ¬ 1 ≤ (s.size : Int) - 1 := by omega
    refine ⟨false, ?_, by simp [h1]⟩
    cases b <;> simp [h2]
  · have h1 : 1 ≤ (s.size : Int) - 1 := by omega
    cases b with
    | false => exact ⟨false, by simp, by simp [h1]⟩
    | true =>
      obtain ⟨hp, hd⟩ := e3 rfl
      obtain ⟨d1, d2⟩ := hd ((s.size : Int) - 1) (by omega) (by omega)
      obtain ⟨y, q1, q2⟩ := Luhn_tot (s.extract 0 ((s.size : Int) - 1).toNat) (by simp; omega)
      have c1 : (0 : Int) ≤ (s.size : Int) - 1 := by omega
      have c2 : (s.size : Int) - 1 ≤ s.size := by omega
      have c3 : (s.size : Int) - 1 < s.size := by omega
      have hu : u8 (sAt s ((s.size : Int) - 1) - 48) = sAt s ((s.size : Int) - 1) - 48 := u8_of (by omega) (by omega)
      have hi2 : i64 (sAt s ((s.size : Int) - 1)) = sAt s ((s.size : Int) - 1) := i64_of (by omega) (by omega)
      refine ⟨y == i64 (sAt s ((s.size : Int) - 1) - 48), ?_, ?_⟩
      · simp only [Option.bind_some, if_true, h2, decide_false, Bool.false_eq_true, if_false, c1, c2, c3, decide_true, q1, hi2]
      · simp only [Option.bind_some, if_true, h1, c1, c2, c3, decide_true, q2, hu]
theorem AcctIdOk_eq (s : ByteArray) : ∃ y, spec_AcctIdOk s = some y ∧ impl_AcctIdOk s = some y ∧ (y = true → s.size ≤ 19) := by
  unfold spec_AcctIdOk impl_AcctIdOk
  by_cases h : (s.size : Int) ≤ 19
  · obtain ⟨y, e1, e2⟩ := LuhnOk_eq s (by omega)
    exact ⟨y, by simp [h, e1], by simp [h, e2], fun _ => by omega⟩
  · exact ⟨false, by simp [h], by simp [h], fun e => by cases e⟩
theorem HoldIdOk_l0_eq : ∀ (s : ByteArray) (n : Nat) (v : Int), impl_HoldIdOk_l0 s n v = spec_HoldIdOk_l0 s n v
  | s, 0, v => rfl
  | s, n + 1, v => by unfold impl_HoldIdOk_l0 spec_HoldIdOk_l0; simp only [HoldIdOk_l0_eq s n]
theorem HoldIdOk_l0_tot (s : ByteArray) (hs : s.size ≤ 4000000) : ∀ (n : Nat) (v : Int), 0 ≤ v → v ≤ s.size → (s.size : Int) - v < n → ∃ y, spec_HoldIdOk_l0 s n v = some y
  | 0, v, h0, hv, hn => by exfalso; omega
  | n + 1, v, h0, hv, hn => by
    unfold spec_HoldIdOk_l0
    by_cases h1 : v < (s.size : Int)
    · have hi : i64 (v + 1) = v + 1 := i64_nn (by omega) (by omega)
      obtain ⟨y, e⟩ := HoldIdOk_l0_tot s hs n (v + 1) (by omega) (by omega) (by omega)
      simp only [h1, h0, decide_true, if_true, hi, e]
      repeat' split
      all_goals exact ⟨_, rfl⟩
    · exact ⟨.out (), by simp [h1]⟩
theorem bytesLess_flip : ∀ a b : List UInt8, Op.bytesLess b a = !(Op.bytesLess a b || a == b)
  | [], [] => rfl
  | [], _ :: _ => rfl
  | _ :: _, [] => rfl
  | a :: x, b :: y => by
    have ih := bytesLess_flip x y
    unfold Op.bytesLess
    rw [ih]
    by_cases h1 : a < b
    · have h2 : ¬ b < a := by have := UInt8.lt_iff_toNat_lt.1 h1; intro h; have := UInt8.lt_iff_toNat_lt.1 h; omega
      have h3 : ¬ b = a := by intro e; subst e; exact h2 h1
      simp [h1, h2, h3]
    · by_cases h2 : b < a
      · have h3 : ¬ a = b := by intro e; subst e; exact h1 h2
        have h4 : ¬ b = a := fun e => h3 e.symm
        simp [h1, h2, h3]
      · have h3 : a = b := by
          apply UInt8.toNat_inj.1
          have := mt UInt8.lt_iff_toNat_lt.2 h1
          have := mt UInt8.lt_iff_toNat_lt.2 h2
          omega
        subst h3
        simp [h1]
theorem less_flip (a b : ByteArray) : Op.bytesLess b.toList a.toList = !(Op.bytesLess a.toList b.toList || (a == b)) := by
  rw [beq_toListBytes]; exact bytesLess_flip _ _
theorem HoldIdOk_tot (s : ByteArray) (hs : s.size ≤ 4000000) : ∃ y, spec_HoldIdOk s = some y ∧ impl_HoldIdOk s = some y ∧ (y = true → s.size ≤ 6) := by
  obtain ⟨y, e⟩ := HoldIdOk_l0_tot s hs FUEL 0 (by omega) (by omega) (by unfold FUEL; omega)
  unfold spec_HoldIdOk impl_HoldIdOk
  rw [HoldIdOk_l0_eq, e]
  cases y with
  | ret u => exact ⟨false, rfl, rfl, fun h => by cases h⟩
  | out u =>
    refine ⟨decide ((1 : Int) ≤ s.size) && decide ((s.size : Int) ≤ 6), ?_, ?_, fun h => ?_⟩
    · simp only [Option.bind_some, Lo.elim, l01In_val]
    · simp only [Option.bind_some, Lo.elim, within_val]
    · simp only [Bool.and_eq_true, decide_eq_true_eq] at h; omega
theorem HoldOk_tot (h : Hold) (hs : h.Id.size ≤ 4000000) : ∃ y, spec_HoldOk h = some y ∧ impl_HoldOk h = some y ∧ (y = true → h.Id.size ≤ 6 ∧ 1 ≤ h.Amount ∧ h.Amount ≤ 9007199254740992 ∧ time h.Due = true) := by
  obtain ⟨y, e1, e2, e3⟩ := HoldIdOk_tot h.Id hs
  unfold spec_HoldOk impl_HoldOk
  rw [e1, e2]
  cases y with
  | false => exact ⟨false, rfl, rfl, fun e => by cases e⟩
  | true =>
    simp only [Option.bind_some, if_true, l01In_val, within_val, l06Time_val, isTime_val]
    by_cases ha : (decide (1 ≤ h.Amount) && decide (h.Amount ≤ 9007199254740992)) = true
    · rw [ha]
      refine ⟨time h.Due, rfl, rfl, fun ht => ⟨e3 rfl, ?_⟩⟩
      simp only [Bool.and_eq_true, decide_eq_true_eq] at ha
      exact ⟨ha.1, ha.2, ht⟩
    · have : (decide (1 ≤ h.Amount) && decide (h.Amount ≤ 9007199254740992)) = false := by simpa using ha
      rw [this]
      exact ⟨false, rfl, rfl, fun e => by cases e⟩
theorem HoldsOk_l0_tot (l : List Hold) (hl : l.length ≤ 274877906944) : ∀ (t p : List Hold), l = p ++ t → (∀ h ∈ t, h.Id.size ≤ 4000000) →
    ∃ y, spec_HoldsOk_l0 l t p = some y ∧ impl_HoldsOk_l0 l t p = some y ∧ ∀ u, y = .out u → ∀ h ∈ t, h.Id.size ≤ 6 ∧ 1 ≤ h.Amount ∧ h.Amount ≤ 9007199254740992 ∧ time h.Due = true
  | [], p, e, hs => ⟨.out (), rfl, rfl, fun _ _ h hh => by simp at hh⟩
  | x :: t, p, e, hs => by
    obtain ⟨y, e1, e2, e3⟩ := HoldOk_tot x (hs x (by simp))
    obtain ⟨z, f1, f2, f3⟩ := HoldsOk_l0_tot l hl t (p ++ [x]) (by rw [e]; simp) (fun h hh => hs h (by simp [hh]))
    unfold spec_HoldsOk_l0 impl_HoldsOk_l0
    rw [e1, e2]
    have f3' : y = true → ∀ u, z = .out u → ∀ h ∈ x :: t, h.Id.size ≤ 6 ∧ 1 ≤ h.Amount ∧ h.Amount ≤ 9007199254740992 ∧ time h.Due = true := fun hy u hz h hh => by
      rcases List.mem_cons.1 hh with rfl | hh
      · exact e3 hy
      · exact f3 u hz h hh
    cases y with
    | false => exact ⟨.ret (), rfl, rfl, fun u e => by cases e⟩
    | true =>
      simp only [Option.bind_some, if_true]
      by_cases hp : (0 : Int) < (p.length : Int)
      · have hpl : p.length ≤ l.length := by rw [e]; simp
        have hi : i64 ((p.length : Int) - 1) = (p.length : Int) - 1 := i64_of (by omega) (by omega)
        have hn : ((p.length : Int) - 1).toNat < l.length := by rw [e]; simp; omega
        have hg : l[((p.length : Int) - 1).toNat]? = some l[((p.length : Int) - 1).toNat] := List.getElem?_eq_getElem hn
        have h1 : (0 : Int) ≤ (p.length : Int) - 1 := by omega
        simp only [hp, hi, h1, decide_true, if_true, hg, Option.bind_some, less_flip x.Id]
        by_cases hb : (Op.bytesLess x.Id.toList l[((p.length : Int) - 1).toNat].Id.toList || x.Id == l[((p.length : Int) - 1).toNat].Id) = true
        · rw [hb]
          exact ⟨.ret (), by simp, by simp, fun u e => by cases e⟩
        · have hb' : (Op.bytesLess x.Id.toList l[((p.length : Int) - 1).toNat].Id.toList || x.Id == l[((p.length : Int) - 1).toNat].Id) = false := by simpa using hb
          rw [hb']
          exact ⟨z, by simpa using f1, by simpa using f2, f3' rfl⟩
      · simp only [hp, decide_false, Bool.false_eq_true, if_false]
        exact ⟨z, f1, f2, f3' rfl⟩
theorem HoldsOk_tot (l : List Hold) (hl : l.length ≤ 274877906944) (hs : ∀ h ∈ l, h.Id.size ≤ 4000000) : ∃ y, spec_HoldsOk l = some y ∧ impl_HoldsOk l = some y ∧ (y = true → l.length ≤ 4 ∧ ∀ h ∈ l, h.Id.size ≤ 6 ∧ 1 ≤ h.Amount ∧ h.Amount ≤ 9007199254740992 ∧ time h.Due = true) := by
  obtain ⟨y, e1, e2, e3⟩ := HoldsOk_l0_tot l hl l [] rfl hs
  unfold spec_HoldsOk impl_HoldsOk
  rw [capOk_of hl, e1, e2]
  cases y with
  | ret u => exact ⟨false, rfl, rfl, fun e => by cases e⟩
  | out u => exact ⟨decide ((l.length : Int) ≤ 4), rfl, rfl, fun h => ⟨by have := of_decide_eq_true h; omega, e3 u rfl⟩⟩
theorem Concat_val (a b : List Int) (ha : a.length ≤ 100000000000) (hb : b.length ≤ 100000000000) : slices_Concat_int [a, b] = some (a ++ b) := by
  have h1 : i64 (0 + (a.length : Int)) = (a.length : Int) := by rw [Int.zero_add]; exact i64_of (by omega) (by omega)
  have h2 : i64 ((a.length : Int) + (b.length : Int)) = (a.length : Int) + (b.length : Int) := i64_of (by omega) (by omega)
  have n1 : ¬ (a.length : Int) < 0 := by omega
  have n2 : ¬ (a.length : Int) + (b.length : Int) < 0 := by omega
  have hg : slices_Grow_int_nil ((a.length : Int) + (b.length : Int)) = some [] := by
    unfold slices_Grow_int_nil
    have h3 : i64 ((a.length : Int) + (b.length : Int) - 0) = (a.length : Int) + (b.length : Int) := by rw [Int.sub_zero]; exact h2
    rw [h3]
    have hc : capOk ((a.length : Int) + (b.length : Int)).toNat = true := capOk_of (by omega)
    rw [hc]
    simp [n2]
  unfold slices_Concat_int
  have c0 : capOk [a, b].length = true := rfl
  have cA : capOk (([] : List Int).length + a.length) = true := capOk_of (by simp; omega)
  have cB : capOk ((([] : List Int) ++ a).length + b.length) = true := capOk_of (by simp; omega)
  simp only [c0, if_true, slices_Concat_int_l0, h1, h2, n1, n2, decide_false, Bool.false_eq_true, if_false, Option.bind_some, hg, slices_Concat_int_l1, cA, cB]
  simp
theorem impl_RingOk_l0_val (r : Ring) (c : List Int) : ∀ t : List Int, impl_RingOk_l0 r c t = some (if t.all money = true then .out () else .ret ())
  | [] => rfl
  | x :: t => by
    unfold impl_RingOk_l0
    rw [isMoney_val, impl_RingOk_l0_val r c t]
    cases h : money x <;> simp [h]
theorem spec_RingOk_l0_val (r : Ring) : ∀ (t p : List Int), r.Counts = p ++ t → r.Sums.length = r.Counts.length → spec_RingOk_l0 r t p = some (if (t.all money && (r.Sums.drop p.length).all money) = true then .out () else .ret ())
  | [], p, e, hl => by
    have : r.Sums.drop p.length = [] := List.drop_eq_nil_of_le (by rw [hl, e]; simp)
    rw [this]; rfl
  | x :: t, p, e, hl => by
    have hlt : p.length < r.Sums.length := by rw [hl, e]; simp
    have hd : r.Sums.drop p.length = r.Sums[p.length] :: r.Sums.drop (p.length + 1) := List.drop_eq_getElem_cons hlt
    have ih := spec_RingOk_l0_val r t (p ++ [x]) (by rw [e]; simp) hl
    unfold spec_RingOk_l0
    rw [l01Money_val]
    have hg : r.Sums[((p.length : Int)).toNat]? = some r.Sums[p.length] := by simp [hlt]
    rw [hg, hd, ih]
    simp only [Option.bind_some, l01Money_val, List.length_append, List.length_cons, List.length_nil, Nat.zero_add, List.all_cons]
    by_cases h : money x = true <;> by_cases h2 : money r.Sums[p.length] = true <;> simp [h, h2]
theorem RingOk_tot (r : Ring) (hc : r.Counts.length ≤ 100000000000) (hs : r.Sums.length ≤ 100000000000) : ∃ y, spec_RingOk r = some y ∧ impl_RingOk r = some y ∧ (y = true → r.Sums.length = r.Counts.length ∧ r.Counts.length ≤ 8 ∧ 1 ≤ r.Counts.length ∧ 1 ≤ r.Span ∧ r.Span ≤ 1000 ∧ time r.Head = true ∧ r.Counts.all money = true ∧ r.Sums.all money = true) := by
  unfold spec_RingOk impl_RingOk
  rw [Concat_val _ _ hc hs]
  have cc : capOk (r.Counts ++ r.Sums).length = true := capOk_of (by simp; omega)
  have cd : capOk r.Counts.length = true := capOk_of (by omega)
  simp only [Option.bind_some, cc, cd, if_true, impl_RingOk_l0_val, l01In_val, within_val, l06Time_val, isTime_val]
  by_cases h1 : (decide (1 ≤ r.Span) && decide (r.Span ≤ 1000)) = true
  · by_cases h2 : (decide ((1 : Int) ≤ r.Counts.length) && decide ((r.Counts.length : Int) ≤ 8)) = true
    · by_cases h3 : r.Sums.length = r.Counts.length
      · have h3' : ((r.Sums.length : Int) == (r.Counts.length : Int)) = true := by rw [h3]; simp
        have h3'' : ((r.Sums.length : Int) != (r.Counts.length : Int)) = false := by rw [h3]; simp
        rw [spec_RingOk_l0_val r r.Counts [] rfl h3]
        simp only [h1, h2, h3', h3'', if_true, Bool.false_eq_true, if_false, List.all_append, List.length_nil, List.drop_zero, Option.bind_some]
        refine ⟨(r.Counts.all money && r.Sums.all money) && time r.Head, ?_, ?_, fun h => ?_⟩
        · cases time r.Head <;> cases (r.Counts.all money && r.Sums.all money) <;> simp [Lo.elim]
        · cases time r.Head <;> cases (r.Counts.all money && r.Sums.all money) <;> simp [Lo.elim]
        · simp only [Bool.and_eq_true, decide_eq_true_eq] at h h1 h2
          exact ⟨h3, by omega, by omega, h1.1, h1.2, h.2, h.1.1, h.1.2⟩
      · have h3' : ((r.Sums.length : Int) == (r.Counts.length : Int)) = false := by
          rw [beq_eq_false_iff_ne]; omega
        have h3'' : ((r.Sums.length : Int) != (r.Counts.length : Int)) = true := by
          rw [bne_iff_ne]; omega
        refine ⟨false, by simp only [h1, h2, h3'', if_true], ?_, fun e => by cases e⟩
        simp only [h1, h2, h3', if_true, Bool.false_eq_true, if_false]
        cases (r.Counts ++ r.Sums).all money <;> rfl
    · have h2' : (decide ((1 : Int) ≤ r.Counts.length) && decide ((r.Counts.length : Int) ≤ 8)) = false := by simpa using h2
      refine ⟨false, by simp only [h1, h2', if_true, Bool.false_eq_true, if_false], ?_, fun e => by cases e⟩
      simp only [h1, h2', if_true, Bool.false_eq_true, if_false]
      cases (r.Counts ++ r.Sums).all money <;> rfl
  · have h1' : (decide (1 ≤ r.Span) && decide (r.Span ≤ 1000)) = false := by simpa using h1
    refine ⟨false, by simp only [h1', Bool.false_eq_true, if_false], ?_, fun e => by cases e⟩
    simp only [h1', Bool.false_eq_true, if_false]
    cases (r.Counts ++ r.Sums).all money <;> rfl
theorem isWide_val (s : ByteArray) (n : Int) (b : Bool) (h : impl_Digits s = some b) : impl_isWide s n = some (b && ((s.size : Int) == n)) := by
  unfold impl_isWide
  rw [h]
  cases b <;> rfl
theorem SlotOk_tot (s : Slot) (h1 : s.Trace.size ≤ 4000000) (h2 : s.Mti.size ≤ 4000000) : ∃ y, spec_SlotOk s = some y ∧ impl_SlotOk s = some y ∧ (y = true → s.Trace.size = 6 ∧ s.Mti.size = 4 ∧ s.Reply.length ≤ 200) := by
  obtain ⟨a, a1, a2, a3⟩ := Digits_tot s.Trace h1
  obtain ⟨b, b1, b2, b3⟩ := Digits_tot s.Mti h2
  unfold spec_SlotOk impl_SlotOk
  rw [a1, isWide_val _ _ _ a2, b1, isWide_val _ _ _ b2]
  cases a with
  | false => exact ⟨false, rfl, rfl, fun e => by cases e⟩
  | true =>
    simp only [Option.bind_some, if_true, Bool.true_and]
    by_cases c1 : ((s.Trace.size : Int) == 6) = true
    · simp only [c1, if_true]
      cases b with
      | false => exact ⟨false, rfl, rfl, fun e => by cases e⟩
      | true =>
        simp only [if_true, Bool.true_and]
        by_cases c2 : ((s.Mti.size : Int) == 4) = true
        · simp only [c2, if_true, l01In_val, within_val, Option.bind_some]
          refine ⟨_, rfl, rfl, fun h => ?_⟩
          simp only [Bool.and_eq_true, decide_eq_true_eq] at h
          have e1 := eq_of_beq c1
          have e2 := eq_of_beq c2
          exact ⟨by omega, by omega, by omega⟩
        · have c2' : ((s.Mti.size : Int) == 4) = false := by simpa using c2
          simp only [c2', Bool.false_eq_true, if_false]
          exact ⟨false, rfl, rfl, fun e => by cases e⟩
    · have c1' : ((s.Trace.size : Int) == 6) = false := by simpa using c1
      simp only [c1', Bool.false_eq_true, if_false]
      exact ⟨false, rfl, rfl, fun e => by cases e⟩
def slotIs (a b : ByteArray) (s : Slot) : Bool := (s.Trace == a) && (s.Mti == b)
theorem slotAt_1_val (s : Slot) (a b : ByteArray) : impl_slotAt_1 s a b = some (slotIs a b s) := by
  unfold impl_slotAt_1 slotIs
  cases (s.Trace == a) <;> rfl
theorem spec_SlotsOk_l1_val (l p : List Slot) (x : Slot) : ∀ t : List Slot, spec_SlotsOk_l1 l p x t = some (if t.any (slotIs x.Trace x.Mti) = true then .ret () else .out ())
  | [] => rfl
  | y :: t => by
    unfold spec_SlotsOk_l1
    rw [spec_SlotsOk_l1_val l p x t]
    simp only [List.any_cons]
    unfold slotIs
    by_cases h : (y.Trace == x.Trace) = true <;> by_cases h2 : (y.Mti == x.Mti) = true <;> simp [h, h2]
theorem slotAt_l0_val (l : List Slot) (a b : ByteArray) : ∀ t p : List Slot, slices_IndexFunc_impl_Slot_impl_slotAt_1_l0 l a b t p = some (match t.findIdx? (slotIs a b) with | some i => .ret ((p.length + i : Nat) : Int) | none => .out ())
  | [], p => rfl
  | y :: t, p => by
    unfold slices_IndexFunc_impl_Slot_impl_slotAt_1_l0
    rw [slotAt_1_val, slotAt_l0_val l a b t (p ++ [y])]
    simp only [Option.bind_some, List.findIdx?_cons]
    by_cases h : slotIs a b y = true
    · simp [h]
    · have h' : slotIs a b y = false := by simpa using h
      rw [h']
      simp only [Bool.false_eq_true, if_false]
      cases t.findIdx? (slotIs a b) with
      | none => rfl
      | some i => simp only [Option.map_some, List.length_append, List.length_cons, List.length_nil]; congr 3; omega
theorem slotAt_val (l : List Slot) (hl : l.length ≤ 274877906944) (a b : ByteArray) : impl_slotAt l a b = some (match l.findIdx? (slotIs a b) with | some i => (i : Int) | none => -1) := by
  unfold impl_slotAt slices_IndexFunc_impl_Slot_impl_slotAt_1
  rw [capOk_of hl, slotAt_l0_val]
  cases l.findIdx? (slotIs a b) with
  | none => rfl
  | some i => simp [Lo.elim]
theorem SlotsOk_l0_tot (l : List Slot) (hl : l.length ≤ 274877906944) : ∀ (t p : List Slot), l = p ++ t → (∀ s ∈ t, s.Trace.size ≤ 4000000 ∧ s.Mti.size ≤ 4000000) →
    ∃ y, spec_SlotsOk_l0 l t p = some y ∧ impl_SlotsOk_l0 l t p = some y ∧ ∀ u, y = .out u → ∀ s ∈ t, s.Trace.size = 6 ∧ s.Mti.size = 4 ∧ s.Reply.length ≤ 200
  | [], p, e, hs => ⟨.out (), rfl, rfl, fun _ _ h hh => by simp at hh⟩
  | x :: t, p, e, hs => by
    obtain ⟨y, e1, e2, e3⟩ := SlotOk_tot x (hs x (by simp)).1 (hs x (by simp)).2
    obtain ⟨z, f1, f2, f3⟩ := SlotsOk_l0_tot l hl t (p ++ [x]) (by rw [e]; simp) (fun h hh => hs h (by simp [hh]))
    unfold spec_SlotsOk_l0 impl_SlotsOk_l0
    rw [e1, e2]
    have f3' : y = true → ∀ u, z = .out u → ∀ s ∈ x :: t, s.Trace.size = 6 ∧ s.Mti.size = 4 ∧ s.Reply.length ≤ 200 := fun hy u hz h hh => by
      rcases List.mem_cons.1 hh with rfl | hh
      · exact e3 hy
      · exact f3 u hz h hh
    cases y with
    | false => exact ⟨.ret (), rfl, rfl, fun u e => by cases e⟩
    | true =>
      have htk : (l.take ((p.length : Int).toNat)).drop 0 = p := by rw [e]; simp
      have hple : (p.length : Int) ≤ (l.length : Int) := by rw [e]; simp; omega
      have h0 : (0 : Int) ≤ (p.length : Int) := by omega
      have hcp : capOk p.length = true := capOk_of (by omega)
      have hx : slotIs x.Trace x.Mti x = true := by unfold slotIs; rw [beqB, beqB]; simp
      simp only [Option.bind_some, if_true, h0, hple, decide_true, htk, hcp, spec_SlotsOk_l1_val, slotAt_val l hl]
      by_cases ha : p.any (slotIs x.Trace x.Mti) = true
      · have : ∃ i, l.findIdx? (slotIs x.Trace x.Mti) = some i ∧ i < p.length := by
          rw [e, List.findIdx?_append]
          cases hi : p.findIdx? (slotIs x.Trace x.Mti) with
          | none =>
            exfalso
            rw [List.findIdx?_eq_none_iff] at hi
            obtain ⟨s, hs1, hs2⟩ := List.any_eq_true.1 ha
            have := hi s hs1
            rw [hs2] at this
            cases this
          | some i => exact ⟨i, rfl, (List.findIdx?_eq_some_iff_getElem.1 hi).1⟩
        obtain ⟨i, hi, hlt⟩ := this
        rw [hi]
        have hne : ((i : Int) != (p.length : Int)) = true := by rw [bne_iff_ne]; omega
        simp only [ha, if_true, Lo.elim, hne]
        exact ⟨.ret (), rfl, rfl, fun u e => by cases e⟩
      · have ha' : p.any (slotIs x.Trace x.Mti) = false := by simpa using ha
        have hi : l.findIdx? (slotIs x.Trace x.Mti) = some p.length := by
          rw [e, List.findIdx?_append]
          have : p.findIdx? (slotIs x.Trace x.Mti) = none := by
            rw [List.findIdx?_eq_none_iff]
            intro s hs1
            have := List.any_eq_false.1 ha' s hs1
            simpa using this
          rw [this, List.findIdx?_cons, hx]
          simp
        rw [hi]
        have hne : ((p.length : Int) != (p.length : Int)) = false := by simp
        simp only [ha', hne, Bool.false_eq_true, if_false, Lo.elim]
        exact ⟨z, f1, f2, f3' rfl⟩
theorem SlotsOk_tot (l : List Slot) (hl : l.length ≤ 274877906944) (hs : ∀ s ∈ l, s.Trace.size ≤ 4000000 ∧ s.Mti.size ≤ 4000000) : ∃ y, spec_SlotsOk l = some y ∧ impl_SlotsOk l = some y ∧ (y = true → l.length ≤ 6 ∧ ∀ s ∈ l, s.Trace.size = 6 ∧ s.Mti.size = 4 ∧ s.Reply.length ≤ 200) := by
  obtain ⟨y, e1, e2, e3⟩ := SlotsOk_l0_tot l hl l [] rfl hs
  unfold spec_SlotsOk impl_SlotsOk
  rw [capOk_of hl, e1, e2]
  cases y with
  | ret u => exact ⟨false, rfl, rfl, fun e => by cases e⟩
  | out u => exact ⟨decide ((l.length : Int) ≤ 6), rfl, rfl, fun h => ⟨by have := of_decide_eq_true h; omega, e3 u rfl⟩⟩
def cl (x : Int) : Int := if x < 0 then 0 else if 4611686018427387904 < x then 4611686018427387904 else x
theorem cl_rng (x : Int) : 0 ≤ cl x ∧ cl x ≤ 4611686018427387904 := by unfold cl; split; omega; split <;> omega
theorem clamp_val (x : Int) : spec_l01Clamp x 0 4611686018427387904 = some (cl x) := by
  unfold spec_l01Clamp cl
  by_cases h : x < 0 <;> by_cases h2 : 4611686018427387904 < x <;> simp [h, h2]
theorem imax_cl (x : Int) : imax 0 (imin x 4611686018427387904) = cl x := by
  unfold imax imin cl
  by_cases h : x < 0 <;> by_cases h2 : 4611686018427387904 < x <;> simp [h, h2] <;> omega
def satAdd (a b : Int) : Int := if cl a + cl b ≤ 4611686018427387904 then cl a + cl b else 4611686018427387904
theorem AddSat_val (a b : Int) : spec_AddSat a b = some (satAdd a b) ∧ impl_AddSat a b = some (satAdd a b) := by
  obtain ⟨a1, a2⟩ := cl_rng a
  obtain ⟨b1, b2⟩ := cl_rng b
  have hi : i64 (4611686018427387904 - cl b) = 4611686018427387904 - cl b := i64_of (by omega) (by omega)
  have ma : money (cl a) = true := by simp [money, a1, a2]
  have mb : money (cl b) = true := by simp [money, b1, b2]
  unfold spec_AddSat impl_AddSat spec_AddMoney satAdd
  simp only [clamp_val, imax_cl, Option.bind_some, l01Money_val, ma, mb, if_true, hi]
  by_cases h : 4611686018427387904 - cl b < cl a
  · have h2 : ¬ cl a + cl b ≤ 4611686018427387904 := by omega
    simp [h, h2]
  · have h2 : cl a + cl b ≤ 4611686018427387904 := by omega
    have hj : i64 (cl a + cl b) = cl a + cl b := i64_of (by omega) (by omega)
    simp [h, h2, hj]
theorem Stored_l0_val (l : List Hold) : ∀ (t : List Hold) (v : Int), ∃ y, spec_Stored_l0 l t v = some y ∧ impl_Stored_l0 l t v = some y
  | [], v => ⟨v, rfl, rfl⟩
  | x :: t, v => by
    obtain ⟨y, e1, e2⟩ := Stored_l0_val l t (satAdd v x.Amount)
    unfold spec_Stored_l0 impl_Stored_l0
    rw [(AddSat_val _ _).1, (AddSat_val _ _).2]
    exact ⟨y, e1, e2⟩
theorem Stored_tot (l : List Hold) (hl : l.length ≤ 274877906944) : ∃ y, spec_Stored l = some y ∧ impl_Stored l = some y := by
  obtain ⟨y, e1, e2⟩ := Stored_l0_val l l 0
  unfold spec_Stored impl_Stored
  rw [capOk_of hl, e1, e2]
  exact ⟨y, rfl, rfl⟩
/-- Of a size that a law lets through. -/
def szHold (h : Hold) : Prop := h.Id.size ≤ 4000000
def szRing (r : Ring) : Prop := r.Counts.length ≤ 4000000 ∧ r.Sums.length ≤ 4000000
def szSlot (s : Slot) : Prop := s.Trace.size ≤ 4000000 ∧ s.Mti.size ≤ 4000000 ∧ s.Reply.length ≤ 4000000
def szAcct (a : Acct) : Prop := a.Id.size ≤ 4000000 ∧ (a.Holds.length ≤ 4000000 ∧ ∀ h ∈ a.Holds, szHold h) ∧ szRing a.Ring ∧ (a.Slots.length ≤ 4000000 ∧ ∀ s ∈ a.Slots, szSlot s)
theorem AcctOk_tot (a : Acct) (h : szAcct a) : ∃ y, spec_AcctOk a = some y ∧ impl_AcctOk a = some y ∧ (y = true → a.Holds.length ≤ 4 ∧ a.Slots.length ≤ 6) := by
  obtain ⟨h1, ⟨h2, h3⟩, ⟨h4, h5⟩, h6, h7⟩ := h
  obtain ⟨b1, p1, q1, r1⟩ := AcctIdOk_eq a.Id
  obtain ⟨b2, p2, q2, r2⟩ := HoldsOk_tot a.Holds (by omega) (fun x hx => by have := h3 x hx; unfold szHold at this; omega)
  obtain ⟨b3, p3, q3, r3⟩ := RingOk_tot a.Ring (by omega) (by omega)
  obtain ⟨b4, p4, q4, r4⟩ := SlotsOk_tot a.Slots (by omega) (fun x hx => by have := h7 x hx; unfold szSlot at this; omega)
  obtain ⟨s, p5, q5⟩ := Stored_tot a.Holds (by omega)
  obtain ⟨p6, q6⟩ := AddSat_val a.Posted s
  unfold spec_AcctOk impl_AcctOk
  simp only [p1, q1, p2, q2, p3, q3, p4, q4, p5, q5, p6, q6, l01In_val, within_val, l01Money_val, isMoney_val, Option.bind_some]
  cases b1 <;> simp only [Bool.false_eq_true, if_false, if_true]
  · exact ⟨_, rfl, rfl, fun e => by cases e⟩
  repeat' split
  all_goals first
    | exact ⟨_, rfl, rfl, fun e => by cases e⟩
    | (rename_i g1 g2 g3 g4; exact ⟨_, rfl, rfl, fun _ => ⟨(r2 (by assumption)).1, (r4 (by assumption)).1⟩⟩)
theorem Clone_int_val (l : List Int) (h : l.length ≤ 274877906944) : slices_Clone_int l = some l := by unfold slices_Clone_int; rw [capOk_of h]; rfl
theorem Clone_byte_val (l : List Int) (h : l.length ≤ 274877906944) : slices_Clone_byte l = some l := by unfold slices_Clone_byte; rw [capOk_of h]; rfl
theorem Clone_Hold_val (l : List Hold) (h : l.length ≤ 274877906944) : slices_Clone_impl_Hold l = some l := by unfold slices_Clone_impl_Hold; rw [capOk_of h]; rfl
theorem l08Copy_l0_val (l : List Slot) : ∀ (t v : List Slot), v.length + t.length ≤ 274877906944 → (∀ s ∈ t, s.Reply.length ≤ 4000000) → spec_l08Copy_l0 l t v = some (v ++ t)
  | [], v, _, _ => by simp [spec_l08Copy_l0]
  | x :: t, v, hl, hs => by
    unfold spec_l08Copy_l0
    have h1 : capOk (0 + x.Reply.length) = true := capOk_of (by have := hs x (by simp); omega)
    have h2 : capOk (v.length + 1) = true := capOk_of (by simp at hl; omega)
    rw [h1, h2, l08Copy_l0_val l t (v ++ [x]) (by simp at hl ⊢; omega) (fun s hs' => hs s (by simp [hs']))]
    simp
theorem wtSlot_reply (s : Slot) (h : wtSlot s ≤ 4000000) : s.Reply.length ≤ 4000000 := by rw [wtSlot_eq] at h; omega
theorem l08Copy_val (l : List Slot) (h : wtL wtSlot l ≤ 4000000) : spec_l08Copy l = some l := by
  have hl := wtL_len wtSlot l
  unfold spec_l08Copy
  rw [capOk_of (by omega), l08Copy_l0_val _ _ _ (by simp; omega) (fun s hs => wtSlot_reply s (by have := wtL_mem wtSlot l s hs; omega))]
  rfl
theorem copySlots_l0_val (l : List Slot) : ∀ (t v : List Slot), v.length + t.length ≤ 274877906944 → (∀ s ∈ t, s.Reply.length ≤ 4000000) → impl_copySlots_l0 l t v = some (v ++ t)
  | [], v, _, _ => by simp [impl_copySlots_l0]
  | x :: t, v, hl, hs => by
    unfold impl_copySlots_l0
    have h2 : capOk (v.length + 1) = true := capOk_of (by simp at hl; omega)
    rw [Clone_byte_val _ (by have := hs x (by simp); omega), Option.bind_some, h2, copySlots_l0_val l t _ (by simp at hl ⊢; omega) (fun s hs' => hs s (by simp [hs']))]
    simp
theorem copySlots_val (l : List Slot) (h : wtL wtSlot l ≤ 4000000) : impl_copySlots l = some l := by
  have hl := wtL_len wtSlot l
  unfold impl_copySlots
  rw [capOk_of (by omega), copySlots_l0_val _ _ _ (by simp; omega) (fun s hs => wtSlot_reply s (by have := wtL_mem wtSlot l s hs; omega))]
  rfl
theorem Ring_copied_val (r : Ring) (h : wtRing r ≤ 4000000) : impl_Ring_copied r = some r := by
  rw [wtRing_eq] at h
  unfold impl_Ring_copied
  rw [Clone_int_val _ (by omega), Clone_int_val _ (by omega)]
  rfl
theorem Acct_copied_val (a : Acct) (h : wtAcct a ≤ 4000000) : impl_Acct_copied a = some a := by
  rw [wtAcct_eq] at h
  have hl := wtL_len wtHold a.Holds
  unfold impl_Acct_copied
  rw [Clone_Hold_val _ (by omega), Ring_copied_val _ (by omega), copySlots_val _ (by omega)]
  rfl
/-- Each account of a list is small. -/
def okAs (l : List Acct) : Prop := ∀ x ∈ l, wtAcct x ≤ 4000000
theorem okAs_of {l : List Acct} (h : wtL wtAcct l ≤ 4000000) : okAs l := fun x hx => by have := wtL_mem wtAcct l x hx; omega
theorem okAs_tail {x : Acct} {l : List Acct} (h : okAs (x :: l)) : okAs l := fun y hy => h y (by simp [hy])
theorem Book_each_copied_l0_val (b : Book) : ∀ t v : List Acct, v.length + t.length ≤ 274877906944 → okAs t → impl_Book_each_impl_Acct_copied_l0 b t v = some (v ++ t)
  | [], v, _, _ => by simp [impl_Book_each_impl_Acct_copied_l0]
  | x :: t, v, hl, hs => by
    unfold impl_Book_each_impl_Acct_copied_l0
    rw [Acct_copied_val x (hs x (by simp)), Option.bind_some, capOk_of (show v.length + 1 ≤ 274877906944 by simp at hl; omega), Book_each_copied_l0_val b t (v ++ [x]) (by simp at hl ⊢; omega) (okAs_tail hs)]
    simp
theorem Book_copied_val (b : Book) (h : wtL wtAcct b.Accts ≤ 4000000) : impl_Book_copied b = some b := by
  have hl := wtL_len wtAcct b.Accts
  unfold impl_Book_copied impl_Book_each_impl_Acct_copied
  rw [capOk_of (by omega), Book_each_copied_l0_val b _ _ (by simp; omega) (okAs_of h)]
  rfl
theorem wtStripe_accts (s : Stripe) (h : wtStripe s ≤ 4000000) : wtL wtAcct s.Accts ≤ 4000000 := by rw [wtStripe_eq] at h; omega
theorem copyStripes_l0_val (l : List Stripe) : ∀ t v : List Stripe, v.length + t.length ≤ 274877906944 → (∀ s ∈ t, wtL wtAcct s.Accts ≤ 4000000) → impl_copyStripes_l0 l t v = some (v ++ t)
  | [], v, _, _ => by simp [impl_copyStripes_l0]
  | x :: t, v, hl, hs => by
    unfold impl_copyStripes_l0
    rw [Book_copied_val (Book.mk x.Accts) (hs x (by simp)), Option.bind_some, capOk_of (show v.length + 1 ≤ 274877906944 by simp at hl; omega), copyStripes_l0_val l t (v ++ [x]) (by simp at hl ⊢; omega) (fun s hs' => hs s (by simp [hs']))]
    simp
theorem copyStripes_val (l : List Stripe) (h : wtL wtStripe l ≤ 4000000) : impl_copyStripes l = some l := by
  have hl := wtL_len wtStripe l
  unfold impl_copyStripes
  rw [capOk_of (by omega), copyStripes_l0_val l _ _ (by simp; omega) (fun s hs => wtStripe_accts s (by have := wtL_mem wtStripe l s hs; omega))]
  rfl
theorem wt_owner {l : List Stripe} {i : Nat} {x : Stripe} (h : l[i]? = some x) (o : Int) : wtL wtStripe (l.set i (Stripe.mk o x.Accts)) = wtL wtStripe l := by
  induction l generalizing i with
  | nil => simp at h
  | cons y t ih =>
    cases i with
    | zero =>
      simp only [List.getElem?_cons_zero, Option.some.injEq] at h
      subst h
      simp only [List.set_cons_zero, wtL, wtStripe_eq]
    | succ i =>
      simp only [List.getElem?_cons_succ] at h
      simp only [List.set_cons_succ, wtL, ih h]
theorem ofInt_nat (n : Nat) (a : Int) (h0 : 0 ≤ a) : BitVec.ofInt n a = BitVec.ofNat n a.toNat := by
  obtain ⟨m, rfl⟩ := Int.eq_ofNat_of_zero_le h0
  apply BitVec.eq_of_toNat_eq
  simp [BitVec.toNat_ofInt]
theorem bxor_nat (k : IntKind) (a b : Int) (h0 : 0 ≤ a) (h1 : 0 ≤ b) (ha : a.toNat < 2 ^ k.bits) (hb : b.toNat < 2 ^ k.bits) : bxor k a b = k.wrap ((a.toNat ^^^ b.toNat : Nat) : Int) := by
  unfold bxor
  rw [ofInt_nat _ _ h0, ofInt_nat _ _ h1, BitVec.toNat_xor, BitVec.toNat_ofNat, BitVec.toNat_ofNat, Nat.mod_eq_of_lt ha, Nat.mod_eq_of_lt hb]
theorem band_nat (k : IntKind) (a b : Int) (h0 : 0 ≤ a) (h1 : 0 ≤ b) (ha : a.toNat < 2 ^ k.bits) (hb : b.toNat < 2 ^ k.bits) : band k a b = k.wrap ((a.toNat &&& b.toNat : Nat) : Int) := by
  unfold band
  rw [ofInt_nat _ _ h0, ofInt_nat _ _ h1, BitVec.toNat_and, BitVec.toNat_ofNat, BitVec.toNat_ofNat, Nat.mod_eq_of_lt ha, Nat.mod_eq_of_lt hb]
theorem u32_val (x : Int) : u32 x = x % 4294967296 := by
  unfold u32 IntKind.wrap
  simp [IntKind.bits, IntKind.signed]
theorem Fnv_step (v c : Int) (h0 : 0 ≤ v) (h1 : v < 4294967296) (c0 : 0 ≤ c) (c1 : c ≤ 255) :
    ∃ y, band .i64 (i64 ((bxor .i64 v (i64 c)) * 16777619)) 4294967295 = y ∧ u32 ((bxor .u32 v (u32 c)) * 16777619) = y ∧ 0 ≤ y ∧ y < 4294967296 := by
  have hc : i64 c = c := i64_of (by omega) (by omega)
  have hu : u32 c = c := by rw [u32_val]; omega
  have hx : v.toNat ^^^ c.toNat < 2 ^ 32 := Nat.xor_lt_two_pow (by omega) (by omega)
  rw [hc, hu]
  rw [bxor_nat .i64 v c h0 c0 (by simp [IntKind.bits]; omega) (by simp [IntKind.bits]; omega), bxor_nat .u32 v c h0 c0 (by simp [IntKind.bits]; omega) (by simp [IntKind.bits]; omega)]
  generalize v.toNat ^^^ c.toNat = x at hx
  have e1 : IntKind.i64.wrap (x : Int) = x := i64_of (by omega) (by omega)
  have e2 : IntKind.u32.wrap (x : Int) = x := by show u32 (x : Int) = x; rw [u32_val]; omega
  rw [e1, e2]
  have e3 : i64 ((x : Int) * 16777619) = (x : Int) * 16777619 := i64_of (by omega) (by omega)
  rw [e3, band_nat .i64 _ _ (by omega) (by omega) (by simp [IntKind.bits]; omega) (by simp [IntKind.bits])]
  have e4 : ((x : Int) * 16777619).toNat &&& (4294967295 : Int).toNat = (x * 16777619) % 4294967296 := by
    have : (4294967295 : Int).toNat = 2 ^ 32 - 1 := rfl
    rw [this, Nat.and_two_pow_sub_one_eq_mod]
    have : ((x : Int) * 16777619).toNat = x * 16777619 := by omega
    rw [this]
  rw [e4]
  refine ⟨_, rfl, ?_, ?_, ?_⟩
  · rw [u32_val]
    have : IntKind.i64.wrap ((x * 16777619 % 4294967296 : Nat) : Int) = ((x * 16777619 % 4294967296 : Nat) : Int) := i64_of (by omega) (by omega)
    rw [this]; omega
  · have : IntKind.i64.wrap ((x * 16777619 % 4294967296 : Nat) : Int) = ((x * 16777619 % 4294967296 : Nat) : Int) := i64_of (by omega) (by omega)
    rw [this]; omega
  · have : IntKind.i64.wrap ((x * 16777619 % 4294967296 : Nat) : Int) = ((x * 16777619 % 4294967296 : Nat) : Int) := i64_of (by omega) (by omega)
    rw [this]; omega
theorem szAcct_of (a : Acct) (h : wtAcct a ≤ 4000000) : szAcct a := by
  rw [wtAcct_eq, wtRing_eq] at h
  have h1 := wtL_len wtHold a.Holds
  have h2 := wtL_len wtSlot a.Slots
  refine ⟨by omega, ⟨by omega, fun x hx => ?_⟩, ⟨by omega, by omega⟩, by omega, fun x hx => ?_⟩
  · have := wtL_mem wtHold a.Holds x hx
    rw [wtHold_eq] at this
    unfold szHold; omega
  · have := wtL_mem wtSlot a.Slots x hx
    rw [wtSlot_eq] at this
    refine ⟨by omega, by omega, by omega⟩
/-- Is the account valid? -/
def acctOk (a : Acct) : Bool := (spec_AcctOk a).getD false
theorem AcctOk_val (a : Acct) (h : wtAcct a ≤ 4000000) : spec_AcctOk a = some (acctOk a) ∧ impl_AcctOk a = some (acctOk a) := by
  obtain ⟨b, e1, e2, e3⟩ := AcctOk_tot a (szAcct_of a h)
  unfold acctOk
  rw [e1, e2]
  exact ⟨rfl, rfl⟩
theorem holds_len (a : Acct) (h : wtAcct a ≤ 4000000) : a.Holds.length ≤ 4000000 := by
  rw [wtAcct_eq] at h
  have := wtL_len wtHold a.Holds
  omega
def holdIdOk (s : ByteArray) : Bool := (spec_HoldIdOk s).getD false
theorem HoldIdOk_val (s : ByteArray) (h : s.size ≤ 4000000) : spec_HoldIdOk s = some (holdIdOk s) ∧ impl_HoldIdOk s = some (holdIdOk s) := by
  obtain ⟨y, e1, e2, _⟩ := HoldIdOk_tot s h
  unfold holdIdOk
  rw [e1, e2]
  exact ⟨rfl, rfl⟩
/-- The list, later by so many places. -/
def sh (l : List Int) (d : Nat) (i : Nat) : Int := if d ≤ i then l.getD (i - d) 0 else 0
theorem shifted_l0_val (l : List Int) (d : Nat) (hd : d ≤ 2000000000) (hl : l.length ≤ 4000000) : ∀ (t p v : List Int), l = p ++ t → v.length = l.length → (∀ i, i < p.length → v[i]? = some (sh l d i)) → (∀ i, p.length ≤ i → i < l.length → v[i]? = some 0) →
    ∃ v', impl_shifted_l0 l (d : Int) t p v = some v' ∧ v'.length = l.length ∧ ∀ i, i < l.length → v'[i]? = some (sh l d i)
  | [], p, v, e, hv, h1, h2 => ⟨v, rfl, hv, fun i hi => h1 i (by rw [e] at hi; simpa using hi)⟩
  | x :: t, p, v, e, hv, h1, h2 => by
    have hpl : p.length < l.length := by rw [e]; simp
    unfold impl_shifted_l0
    have hg : v[p.length]? = some 0 := h2 p.length (Nat.le_refl _) hpl
    by_cases hc : d ≤ p.length
    · have hc' : (d : Int) ≤ (p.length : Int) := by omega
      have hi : i64 ((p.length : Int) - (d : Int)) = ((p.length - d : Nat) : Int) := by rw [i64_of (by omega) (by omega)]; omega
      have hx : l[p.length - d]? = some (l.getD (p.length - d) 0) := by
        rw [List.getElem?_eq_getElem (by omega), List.getD_eq_getElem?_getD, List.getElem?_eq_getElem (by omega)]; rfl
      simp only [hc', decide_true, if_true, hi, Int.natCast_nonneg, Int.toNat_natCast, hx, hg, Option.bind_some]
      refine shifted_l0_val l d hd hl t (p ++ [x]) _ (by rw [e]; simp) (by simp [hv]) (fun i hi => ?_) (fun i hi hil => ?_)
      · simp only [List.length_append, List.length_cons, List.length_nil] at hi
        by_cases hip : i = p.length
        · subst hip
          rw [List.getElem?_set_self (by omega)]
          simp [sh, hc]
        · rw [List.getElem?_set_ne (by omega)]
          exact h1 i (by omega)
      · simp only [List.length_append, List.length_cons, List.length_nil] at hi
        rw [List.getElem?_set_ne (by omega)]
        exact h2 i (by omega) hil
    · have hc' : ¬ (d : Int) ≤ (p.length : Int) := by omega
      simp only [hc', decide_false, Bool.false_eq_true, if_false]
      refine shifted_l0_val l d hd hl t (p ++ [x]) v (by rw [e]; simp) hv (fun i hi => ?_) (fun i hi hil => ?_)
      · simp only [List.length_append, List.length_cons, List.length_nil] at hi
        by_cases hip : i = p.length
        · subst hip
          rw [hg]
          simp [sh, hc]
        · exact h1 i (by omega)
      · simp only [List.length_append, List.length_cons, List.length_nil] at hi
        exact h2 i (by omega) hil
theorem shifted_val (l : List Int) (d : Nat) (hd : d ≤ 2000000000) (hl : l.length ≤ 4000000) : ∃ v, impl_shifted l (d : Int) = some v ∧ v.length = l.length ∧ ∀ i, i < l.length → v[i]? = some (sh l d i) := by
  obtain ⟨v, e1, e2, e3⟩ := shifted_l0_val l d hd hl l [] (List.replicate l.length 0) rfl (by simp) (fun i hi => by simp at hi) (fun i _ hi => by simp [hi])
  refine ⟨v, ?_, e2, e3⟩
  unfold impl_shifted
  simp only [Int.natCast_nonneg, decide_true, if_true, Int.toNat_natCast, capOk_of (show l.length ≤ 274877906944 by omega), e1, Option.bind_some]
theorem spec_RingRoll_l0_val (o r1 : Ring) (now : Int) (d : Nat) (hd : d ≤ 2000000000) (hD : i64 (i64 (Int.tdiv now o.Span) - o.Head) = (d : Int)) (hl : o.Counts.length ≤ 4000000) (hs : o.Sums.length = o.Counts.length) : ∀ (t p v w : List Int), o.Counts = p ++ t → v.length = o.Counts.length → w.length = o.Counts.length →
    (∀ i, i < p.length → v[i]? = some (sh o.Counts d i)) → (∀ i, i < p.length → w[i]? = some (sh o.Sums d i)) →
    ∃ v' w', spec_RingRoll_l0 o now r1 t p v w = some (v', w') ∧ v'.length = o.Counts.length ∧ w'.length = o.Counts.length ∧ (∀ i, i < o.Counts.length → v'[i]? = some (sh o.Counts d i)) ∧ ∀ i, i < o.Counts.length → w'[i]? = some (sh o.Sums d i)
  | [], p, v, w, e, hv, hw, h1, h2 => ⟨v, w, rfl, hv, hw, fun i hi => h1 i (by rw [e] at hi; simpa using hi), fun i hi => h2 i (by rw [e] at hi; simpa using hi)⟩
  | x :: t, p, v, w, e, hv, hw, h1, h2 => by
    have hpl : p.length < o.Counts.length := by rw [e]; simp
    have hgv : v[p.length]? = some v[p.length] := List.getElem?_eq_getElem (by omega)
    have hgw : w[p.length]? = some w[p.length] := List.getElem?_eq_getElem (by omega)
    unfold spec_RingRoll_l0
    rw [hD]
    by_cases hc : d ≤ p.length
    · have hc' : (d : Int) ≤ (p.length : Int) := by omega
      have hi : i64 ((p.length : Int) - (d : Int)) = ((p.length - d : Nat) : Int) := by rw [i64_of (by omega) (by omega)]; omega
      have hx : o.Counts[p.length - d]? = some (o.Counts.getD (p.length - d) 0) := by
        rw [List.getElem?_eq_getElem (by omega), List.getD_eq_getElem?_getD, List.getElem?_eq_getElem (by omega)]; rfl
      have hy : o.Sums[p.length - d]? = some (o.Sums.getD (p.length - d) 0) := by
        rw [List.getElem?_eq_getElem (by omega), List.getD_eq_getElem?_getD, List.getElem?_eq_getElem (by omega)]; rfl
      have hsv : (v.set p.length 0)[p.length]? = some 0 := List.getElem?_set_self (by omega)
      have hsw : (w.set p.length 0)[p.length]? = some 0 := List.getElem?_set_self (by omega)
      simp only [hc', decide_true, if_true, hi, Int.natCast_nonneg, Int.toNat_natCast, hx, hy, hgv, hgw, hsv, hsw, Option.bind_some, List.set_set]
      refine spec_RingRoll_l0_val o r1 now d hd hD hl hs t (p ++ [x]) _ _ (by rw [e]; simp) (by simp [hv]) (by simp [hw]) (fun i hi => ?_) (fun i hi => ?_)
      all_goals
        simp only [List.length_append, List.length_cons, List.length_nil] at hi
        by_cases hip : i = p.length
        · subst hip
          rw [List.getElem?_set_self (by omega)]
          simp [sh, hc]
        · rw [List.getElem?_set_ne (by omega)]
          first | exact h1 i (by omega) | exact h2 i (by omega)
    · have hc' : ¬ (d : Int) ≤ (p.length : Int) := by omega
      simp only [hc', decide_false, Bool.false_eq_true, if_false, Int.toNat_natCast, hgv, hgw, Option.bind_some]
      refine spec_RingRoll_l0_val o r1 now d hd hD hl hs t (p ++ [x]) _ _ (by rw [e]; simp) (by simp [hv]) (by simp [hw]) (fun i hi => ?_) (fun i hi => ?_)
      all_goals
        simp only [List.length_append, List.length_cons, List.length_nil] at hi
        by_cases hip : i = p.length
        · subst hip
          rw [List.getElem?_set_self (by omega)]
          simp [sh, hc]
        · rw [List.getElem?_set_ne (by omega)]
          first | exact h1 i (by omega) | exact h2 i (by omega)
theorem RingRoll_tot (r : Ring) (now : Int) (hw : wtRing r ≤ 4000000) : ∃ y, spec_RingRoll r now = some y ∧ impl_RingRoll r now = some y ∧ y.Counts.length = r.Counts.length ∧ y.Sums.length = r.Sums.length ∧
    (y = r ∨ ∃ (d : Nat) (c s : List Int), y = Ring.mk r.Span (now / r.Span) c s ∧ time now = true ∧ 1 ≤ r.Span ∧ c.length = r.Counts.length ∧ s.length = r.Counts.length ∧ r.Sums.length = r.Counts.length ∧ (∀ i, i < r.Counts.length → c[i]? = some (sh r.Counts d i)) ∧ ∀ i, i < r.Counts.length → s[i]? = some (sh r.Sums d i)) := by
  have h : szRing r := by rw [wtRing_eq] at hw; exact ⟨by omega, by omega⟩
  have hh := h
  obtain ⟨h1, h2⟩ := h
  obtain ⟨b, e1, e2, e3⟩ := RingOk_tot r (by omega) (by omega)
  have hcp : spec_l06Copy r = some r := by
    unfold spec_l06Copy
    rw [capOk_of (show 0 + r.Counts.length ≤ 274877906944 by omega), capOk_of (show 0 + r.Sums.length ≤ 274877906944 by omega)]
    rfl
  unfold spec_RingRoll impl_RingRoll
  simp only [hcp, Ring_copied_val r hw, e1, e2, l06Time_val, isTime_val, Option.bind_some]
  cases b with
  | false => exact ⟨r, rfl, rfl, rfl, rfl, .inl rfl⟩
  | true =>
    obtain ⟨q1, q2, q3, q4, q5, q6, _⟩ := e3 rfl
    simp only [if_true]
    by_cases ht : time now = true
    · have ht' := ht
      have qh := q6
      unfold time at ht' qh
      simp only [Bool.and_eq_true, decide_eq_true_eq] at ht' qh
      have hsp : r.Span ≠ 0 := by omega
      have hq : Int.tdiv now r.Span = now / r.Span := Int.tdiv_eq_ediv_of_nonneg ht'.1
      have hq0 : 0 ≤ now / r.Span := Int.ediv_nonneg ht'.1 (by omega)
      have hq1 : now / r.Span ≤ now := Int.ediv_le_self _ ht'.1
      have hqi : i64 (now / r.Span) = now / r.Span := i64_of (by omega) (by omega)
      by_cases hle : now / r.Span ≤ r.Head
      · exact ⟨r, by simp only [ht, hsp, hq, hqi, hle, ne_eq, not_false_eq_true, decide_true, if_true], by simp only [ht, hsp, hq, hqi, hle, ne_eq, not_false_eq_true, decide_true, if_true], rfl, rfl, .inl rfl⟩
      · have hdi : i64 (now / r.Span - r.Head) = (((now / r.Span - r.Head).toNat : Nat) : Int) := by rw [i64_of (by omega) (by omega)]; omega
        generalize hdd : (now / r.Span - r.Head).toNat = d at hdi
        have hd : d ≤ 2000000000 := by omega
        obtain ⟨c1, g1, g2, g3⟩ := shifted_val r.Counts d hd h1
        obtain ⟨s1, g4, g5, g6⟩ := shifted_val r.Sums d hd h2
        obtain ⟨c2, s2, k1, k2, k3, k4, k5⟩ := spec_RingRoll_l0_val r r now d hd (by rw [hq, hqi]; exact hdi) h1 q1 r.Counts [] r.Counts r.Sums rfl rfl q1 (fun i hi => by simp at hi) (fun i hi => by simp at hi)
        have hc : c1 = c2 := by
          apply List.ext_getElem?
          intro i
          by_cases hi : i < r.Counts.length
          · rw [g3 i hi, k4 i hi]
          · rw [List.getElem?_eq_none (by omega), List.getElem?_eq_none (by omega)]
        have hs : s1 = s2 := by
          apply List.ext_getElem?
          intro i
          by_cases hi : i < r.Counts.length
          · rw [g6 i (by omega), k5 i hi]
          · rw [List.getElem?_eq_none (by omega), List.getElem?_eq_none (by omega)]
        subst hc hs
        refine ⟨Ring.mk r.Span (now / r.Span) c1 s1, ?_, ?_, by show c1.length = _; omega, by show s1.length = _; omega, .inr ⟨d, c1, s1, rfl, ht, q4, g2, by omega, q1, g3, fun i hi => g6 i (by omega)⟩⟩
        · simp only [ht, hsp, hq, hqi, hle, ne_eq, not_false_eq_true, decide_true, decide_false, Bool.false_eq_true, if_true, if_false, capOk_of (show r.Counts.length ≤ 274877906944 by omega), k1, Option.bind_some]
        · simp only [ht, hsp, hq, hqi, hle, ne_eq, not_false_eq_true, decide_true, decide_false, Bool.false_eq_true, if_true, if_false, hdi, g1, g4, Option.bind_some]
    · have ht' : time now = false := by simpa using ht
      simp only [ht', Bool.false_eq_true, if_false]
      exact ⟨r, rfl, rfl, rfl, rfl, .inl rfl⟩
/-- The ring, rolled on. -/
def rolled (r : Ring) (now : Int) : Ring := (spec_RingRoll r now).getD r
theorem RingRoll_val (r : Ring) (now : Int) (h : wtRing r ≤ 4000000) : spec_RingRoll r now = some (rolled r now) ∧ impl_RingRoll r now = some (rolled r now) ∧ wtRing (rolled r now) = wtRing r := by
  obtain ⟨y, e1, e2, e3, e4, _⟩ := RingRoll_tot r now h
  unfold rolled
  rw [e1, e2]
  exact ⟨rfl, rfl, by rw [wtRing_eq, wtRing_eq]; show y.Counts.length + y.Sums.length = _; rw [e3, e4]⟩
theorem listEq_int (a b : List Int) : listEq (fun x y : Int => x == y) a b = decide (a = b) := by
  unfold listEq
  by_cases h : a.length = b.length
  · have h2 : ((a.length : Int) != (b.length : Int)) = false := by rw [h]; simp
    rw [h2]
    have := all2_iff (fun x y : Int => x == y) (fun x y => beq_iff_eq) a b h
    cases hq : all2 (fun x y : Int => x == y) a b with
    | true => simp [this.1 hq]
    | false => simp only [Bool.not_false, Bool.true_and]; symm; rw [decide_eq_false_iff_not]; intro e; rw [this.2 e] at hq; cases hq
  · have h2 : ((a.length : Int) != (b.length : Int)) = true := by rw [bne_iff_ne]; omega
    rw [h2]
    simp only [Bool.not_true, Bool.false_and]
    symm; rw [decide_eq_false_iff_not]; intro e; exact h (by rw [e])
theorem Equal_int_val (a b : List Int) (h : a.length ≤ 4000000) : slices_Equal_int a b = some (decide (a = b)) := by
  unfold slices_Equal_int
  rw [pair_main (L := slices_Equal_int_l0 a b) a b (fun _ => True) (fun x y => x == y) (fun _ => rfl) (fun x t p y hy _ _ => by
    show ((b[((p.length : Int)).toNat]?).bind _) = _
    rw [Int.toNat_natCast, hy]
    by_cases hq : x = y <;> simp [hq]) (fun _ _ => trivial) (fun _ _ => trivial) (by omega), listEq_int]
theorem Equal_byte_val (a b : List Int) (h : a.length ≤ 4000000) : slices_Equal_byte a b = some (decide (a = b)) := by
  unfold slices_Equal_byte
  rw [pair_main (L := slices_Equal_byte_l0 a b) a b (fun _ => True) (fun x y => x == y) (fun _ => rfl) (fun x t p y hy _ _ => by
    show ((b[((p.length : Int)).toNat]?).bind _) = _
    rw [Int.toNat_natCast, hy]
    by_cases hq : x = y <;> simp [hq]) (fun _ _ => trivial) (fun _ _ => trivial) (by omega), listEq_int]
def holdEq (x y : Hold) : Bool := (x.Id == y.Id) && ((x.Amount == y.Amount) && ((x.Due == y.Due) && true))
def slotEq (x y : Slot) : Bool := (x.Trace == y.Trace) && ((x.Mti == y.Mti) && decide (x.Reply = y.Reply))
def ringEq (x y : Ring) : Bool := (x.Span == y.Span) && ((x.Head == y.Head) && (decide (x.Counts = y.Counts) && decide (x.Sums = y.Sums)))
def okSlot (s : Slot) : Prop := s.Reply.length ≤ 4000000 ∧ byB s.Reply
theorem impl_SlotsSame_val (a b : List Slot) (ha : ∀ s ∈ a, okSlot s) (hb : ∀ s ∈ b, okSlot s) (h : a.length ≤ 4000000) : impl_SlotsSame a b = some (listEq slotEq a b) := by
  unfold impl_SlotsSame slices_EqualFunc_impl_Slot_impl_SlotsSame_1
  rw [pair_main (L := slices_EqualFunc_impl_Slot_impl_SlotsSame_1_l0 a b) a b okSlot slotEq (fun _ => rfl) (fun x t p y hy hx hz => by
    show ((b[((p.length : Int)).toNat]?).bind _) = _
    rw [Int.toNat_natCast, hy]
    simp only [Option.bind_some, impl_SlotsSame_1, Equal_byte_val _ _ hx.1, slotEq]
    rcases tf (x.Trace == y.Trace) with h1 | h1 <;> rcases tf (x.Mti == y.Mti) with h2 | h2 <;> rcases tf (decide (x.Reply = y.Reply)) with h3 | h3 <;> simp [h1, h2, h3]) ha hb (by omega)]
  rfl
theorem Equal_Hold_val (a b : List Hold) (h : a.length ≤ 4000000) : slices_Equal_impl_Hold a b = some (listEq holdEq a b) := by
  unfold slices_Equal_impl_Hold
  exact pair_main (L := slices_Equal_impl_Hold_l0 a b) a b (fun _ => True) holdEq (fun _ => rfl) (fun x t p y hy _ _ => by
    show ((b[((p.length : Int)).toNat]?).bind _) = _
    rw [Int.toNat_natCast, hy]; rfl) (fun _ _ => trivial) (fun _ _ => trivial) (by omega)
theorem impl_ringSame_val (a b : Ring) (h : wtRing a ≤ 4000000) : impl_ringSame a b = some (ringEq a b) := by
  rw [wtRing_eq] at h
  unfold impl_ringSame ringEq
  rw [Equal_int_val _ _ (by omega), Equal_int_val _ _ (by omega)]
  cases (a.Span == b.Span) <;> cases (a.Head == b.Head) <;> cases decide (a.Counts = b.Counts) <;> cases decide (a.Sums = b.Sums) <;> rfl
def okA (a : Acct) : Prop := wtAcct a ≤ 4000000 ∧ ∀ s ∈ a.Slots, byB s.Reply
theorem okA_slots {a : Acct} (h : okA a) : a.Slots.length ≤ 4000000 ∧ ∀ s ∈ a.Slots, okSlot s := by
  obtain ⟨h1, h2⟩ := h
  rw [wtAcct_eq] at h1
  have := wtL_len wtSlot a.Slots
  refine ⟨by omega, fun s hs => ⟨?_, h2 s hs⟩⟩
  have h3 := wtL_mem wtSlot a.Slots s hs
  rw [wtSlot_eq] at h3
  omega
def acctEq (a b : Acct) : Bool := (a.Id == b.Id) && ((a.Limit == b.Limit) && ((a.Posted == b.Posted) && ((a.Most == b.Most) && ((a.MostSum == b.MostSum) && (listEq holdEq a.Holds b.Holds && (ringEq a.Ring b.Ring && listEq slotEq a.Slots b.Slots))))))
theorem impl_AcctSame_val (a b : Acct) (ha : okA a) (hb : okA b) : impl_AcctSame a b = some (acctEq a b) := by
  have h1 := ha.1
  rw [wtAcct_eq] at h1
  unfold impl_AcctSame acctEq
  rw [Equal_Hold_val _ _ (holds_len a ha.1), impl_ringSame_val _ _ (by omega), impl_SlotsSame_val _ _ (okA_slots ha).2 (okA_slots hb).2 (okA_slots ha).1]
  cases (a.Id == b.Id) <;> cases (a.Limit == b.Limit) <;> cases (a.Posted == b.Posted) <;> cases (a.Most == b.Most) <;> cases (a.MostSum == b.MostSum) <;> cases listEq holdEq a.Holds b.Holds <;> cases ringEq a.Ring b.Ring <;> rfl
theorem impl_BookSame_val (a b : Book) (ha : ∀ x ∈ a.Accts, okA x) (hb : ∀ x ∈ b.Accts, okA x) (h : a.Accts.length ≤ 4000000) : impl_BookSame a b = some (listEq acctEq a.Accts b.Accts) := by
  unfold impl_BookSame slices_EqualFunc_impl_Acct_impl_AcctSame
  rw [pair_main (L := slices_EqualFunc_impl_Acct_impl_AcctSame_l0 a.Accts b.Accts) a.Accts b.Accts okA acctEq (fun _ => rfl) (fun x t p y hy hx hz => by
    show ((b.Accts[((p.length : Int)).toNat]?).bind _) = _
    rw [Int.toNat_natCast, hy, Option.bind_some, impl_AcctSame_val x y hx hz]; rfl) ha hb (by omega)]
  rfl
theorem iFnv_l0_tot (s : ByteArray) (hs : s.size ≤ 4000000) : ∀ (n : Nat) (h v : Int), 0 ≤ v → v ≤ s.size → (s.size : Int) - v < n → 0 ≤ h → h < 4294967296 →
    ∃ y, impl_Fnv_l0 s n h v = some y ∧ 0 ≤ y ∧ y < 4294967296
  | 0, h, v, h0, hv, hn, _, _ => by exfalso; omega
  | n + 1, h, v, h0, hv, hn, g0, g1 => by
    unfold impl_Fnv_l0
    by_cases h1 : v < (s.size : Int)
    · obtain ⟨z, e1, e2, z0, z1⟩ := Fnv_step h (sAt s v) g0 g1 (sAt_nn s v) (sAt_le s v)
      have hi : i64 (v + 1) = v + 1 := i64_of (by omega) (by omega)
      obtain ⟨y, f2, f3⟩ := iFnv_l0_tot s hs n z (v + 1) (by omega) (by omega) (by omega) z0 z1
      exact ⟨y, by simp only [h1, h0, decide_true, if_true, e2, hi]; exact f2, f3⟩
    · exact ⟨h, by simp [h1], g0, g1⟩
theorem iFnv_tot (s : ByteArray) (hs : s.size ≤ 4000000) : ∃ y, impl_Fnv s = some y ∧ 0 ≤ y ∧ y < 4294967296 := by
  obtain ⟨y, e2, h0, h1⟩ := iFnv_l0_tot s hs FUEL 2166136261 0 (by omega) (by omega) (by unfold FUEL; omega) (by omega) (by omega)
  have hi : i64 y = y := i64_of (by omega) (by omega)
  unfold impl_Fnv
  rw [e2, Option.bind_some, hi]
  exact ⟨y, rfl, h0, h1⟩
theorem iStripeNo_tot (s : ByteArray) (n : Int) (hs : s.size ≤ 4000000) : ∃ y, impl_StripeNo s n = some y ∧ 0 ≤ y ∧ (1 ≤ n → y < n) := by
  obtain ⟨y, e2, h0, h1⟩ := iFnv_tot s hs
  unfold impl_StripeNo
  by_cases h : n < 1
  · exact ⟨0, by simp [h], by omega, fun h2 => by omega⟩
  · have hn : n ≠ 0 := by omega
    refine ⟨Int.tmod y n, by simp only [h, hn, e2, decide_false, Bool.false_eq_true, if_false, Option.bind_some, ne_eq, not_false_eq_true, decide_true, if_true], ?_, fun _ => ?_⟩
    · rw [Int.tmod_eq_emod_of_nonneg h0]; exact Int.emod_nonneg _ hn
    · rw [Int.tmod_eq_emod_of_nonneg h0]; exact Int.emod_lt_of_pos _ (by omega)
/-- The stripe of a name. -/
def sno (id : ByteArray) (n : Int) : Int := (impl_StripeNo id n).getD 0
theorem sno_i (id : ByteArray) (n : Int) (h : id.size ≤ 4000000) : impl_StripeNo id n = some (sno id n) ∧ 0 ≤ sno id n ∧ (1 ≤ n → sno id n < n) := by
  obtain ⟨y, e2, h0, h1⟩ := iStripeNo_tot id n h
  unfold sno
  rw [e2]
  exact ⟨rfl, h0, h1⟩
def smallId (a : Acct) : Prop := wtAcct a ≤ 4000000
theorem smallId_id {a : Acct} (h : smallId a) : a.Id.size ≤ 4000000 := by
  unfold smallId at h
  rw [wtAcct_eq] at h; omega
def inS (n k : Int) (a : Acct) : Bool := sno a.Id n == k
/-- The stripes from k on. -/
def stripesFrom (l : List Acct) (n : Int) : Nat → Int → List Stripe
  | 0, _ => []
  | m + 1, k => Stripe.mk (-1) (l.filter (inS n k)) :: stripesFrom l n m (k + 1)
theorem impl_Spread_l0_val (b : Book) (n : Int) : ∀ (m N : Nat) (k : Int) (v : List Stripe), (m : Int) = n - k → m < N → 0 ≤ k → n ≤ 100 → v.length + m ≤ 1000 → impl_Spread_l0 b n N k v = some (v ++ List.replicate m (Stripe.mk (-1) []))
  | m, 0, k, v, hm, hN, h0, hn, hv => by omega
  | 0, N + 1, k, v, hm, hN, h0, hn, hv => by
    have : ¬ k < n := by omega
    unfold impl_Spread_l0
    simp [this]
  | m + 1, N + 1, k, v, hm, hN, h0, hn, hv => by
    have hk : k < n := by omega
    have hi : i64 (k + 1) = k + 1 := i64_of (by omega) (by omega)
    unfold impl_Spread_l0
    simp only [hk, decide_true, if_true, capOk_of (show v.length + 1 ≤ 274877906944 by omega), hi]
    rw [impl_Spread_l0_val b n m N (k + 1) _ (by omega) (by omega) (by omega) hn (by simp; omega)]
    simp [List.replicate_succ]
theorem stripesFrom_len (l : List Acct) (n : Int) : ∀ (m : Nat) (k : Int), (stripesFrom l n m k).length = m
  | 0, _ => rfl
  | m + 1, k => by simp [stripesFrom, stripesFrom_len l n m]
theorem stripesFrom_get (l : List Acct) (n : Int) : ∀ (m : Nat) (k : Int) (i : Nat), i < m → (stripesFrom l n m k)[i]? = some (Stripe.mk (-1) (l.filter (inS n (k + i))))
  | 0, _, i, h => by omega
  | m + 1, k, 0, h => by simp [stripesFrom]
  | m + 1, k, i + 1, h => by
    simp only [stripesFrom, List.getElem?_cons_succ]
    rw [stripesFrom_get l n m (k + 1) i (by omega)]
    have : k + 1 + (i : Int) = k + ((i + 1 : Nat) : Int) := by omega
    rw [this]
theorem impl_Spread_l1_val (b : Book) (n : Int) (m : Nat) (hm : (m : Int) = n) (h1 : 1 ≤ n) (hl : b.Accts.length ≤ 4000000) : ∀ (t p : List Acct) (v : List Stripe), b.Accts = p ++ t → (∀ x ∈ t, smallId x) → v = stripesFrom p n m 0 → impl_Spread_l1 b n t v = some (stripesFrom b.Accts n m 0)
  | [], p, v, e, _, hv => by simp [impl_Spread_l1, hv, e]
  | x :: t, p, v, e, hs, hv => by
    have hx := hs x (by simp)
    obtain ⟨e2, h0, hlt⟩ := sno_i x.Id n (smallId_id hx)
    have hlt := hlt h1
    have hpl : p.length + 1 ≤ b.Accts.length := by rw [e]; simp
    have hg : v[(sno x.Id n).toNat]? = some (Stripe.mk (-1) (p.filter (inS n (sno x.Id n)))) := by
      rw [hv, stripesFrom_get p n m 0 _ (by omega)]
      have : (0 : Int) + ((sno x.Id n).toNat : Int) = sno x.Id n := by omega
      rw [this]
    have hfl : (p.filter (inS n (sno x.Id n))).length ≤ p.length := List.length_filter_le _ _
    unfold impl_Spread_l1
    simp only [e2, h0, decide_true, if_true, hg, Acct_copied_val x hx, Option.bind_some, capOk_of (show (p.filter (inS n (sno x.Id n))).length + 1 ≤ 274877906944 by omega)]
    refine impl_Spread_l1_val b n m hm h1 hl t (p ++ [x]) _ (by rw [e]; simp) (fun y hy => hs y (by simp [hy])) ?_
    apply List.ext_getElem?
    intro i
    by_cases hi : i < m
    · rw [stripesFrom_get _ n m 0 i hi, List.getElem?_set, hv, stripesFrom_len]
      by_cases hk : (sno x.Id n).toNat = i
      · subst hk
        rw [if_pos rfl, if_pos (by omega)]
        have h3 : (0 : Int) + ((sno x.Id n).toNat : Int) = sno x.Id n := by omega
        have h4 : inS n (sno x.Id n) x = true := by unfold inS; simp
        rw [h3, List.filter_append, List.filter_cons, h4]
        simp
      · rw [if_neg hk, stripesFrom_get p n m 0 i hi]
        have h4 : inS n (0 + (i : Int)) x = false := by unfold inS; rw [beq_eq_false_iff_ne]; omega
        rw [List.filter_append, List.filter_cons, h4]
        simp
    · rw [List.getElem?_eq_none (by rw [List.length_set, hv, stripesFrom_len]; omega), List.getElem?_eq_none (by rw [stripesFrom_len]; omega)]
theorem stripesFrom_nil (n : Int) : ∀ (m : Nat) (k : Int), List.replicate m (Stripe.mk (-1) []) = stripesFrom [] n m k
  | 0, _ => rfl
  | m + 1, k => by simp [stripesFrom, List.replicate_succ, stripesFrom_nil n m (k + 1)]
theorem wt_inS (l : List Acct) (n : Int) : ∀ (m : Nat) (k : Int), wtL wtStripe (stripesFrom l n m k) ≤ m + wtL wtAcct (l.filter (fun a => decide (k ≤ sno a.Id n) && decide (sno a.Id n < k + m)))
  | 0, k => by simp [stripesFrom, wtL]
  | m + 1, k => by
    have ih := wt_inS l n m (k + 1)
    simp only [stripesFrom, wtL, wtStripe_eq]
    have hsplit : ∀ l : List Acct, wtL wtAcct (l.filter (inS n k)) + wtL wtAcct (l.filter (fun a => decide (k + 1 ≤ sno a.Id n) && decide (sno a.Id n < k + 1 + (m : Int)))) ≤ wtL wtAcct (l.filter (fun a => decide (k ≤ sno a.Id n) && decide (sno a.Id n < k + ((m + 1 : Nat) : Int)))) := fun l => by
      induction l with
      | nil => simp [wtL]
      | cons x t ih =>
        simp only [List.filter_cons]
        by_cases h1 : sno x.Id n = k
        · have q1 : inS n k x = true := by unfold inS; simp [h1]
          have q2 : (decide (k + 1 ≤ sno x.Id n) && decide (sno x.Id n < k + 1 + (m : Int))) = false := by simp; omega
          have q3 : (decide (k ≤ sno x.Id n) && decide (sno x.Id n < k + ((m + 1 : Nat) : Int))) = true := by simp; omega
          simp only [q1, q2, q3, if_true, if_false, Bool.false_eq_true, wtL]; omega
        · have q1 : inS n k x = false := by unfold inS; rw [beq_eq_false_iff_ne]; exact h1
          have q2 : (decide (k + 1 ≤ sno x.Id n) && decide (sno x.Id n < k + 1 + (m : Int))) = (decide (k ≤ sno x.Id n) && decide (sno x.Id n < k + ((m + 1 : Nat) : Int))) := by
            congr 1 <;> rw [decide_eq_decide] <;> omega
          rw [q2]
          rcases tf (decide (k ≤ sno x.Id n) && decide (sno x.Id n < k + ((m + 1 : Nat) : Int))) with q3 | q3 <;> simp only [q1, q3, if_true, if_false, Bool.false_eq_true, wtL] <;> omega
    have := hsplit l
    omega
def cur (c : l01Cur) : Prop := 0 ≤ c.i ∧ c.i ≤ c.b.length ∧ c.b.length ≤ 1048576
theorem band255 (x : Int) : 0 ≤ band .i64 x 255 ∧ band .i64 x 255 ≤ 255 := by
  unfold band
  rw [BitVec.toNat_and]
  have h1 : (BitVec.ofInt IntKind.i64.bits 255).toNat = 255 := by decide
  rw [h1]
  have h2 : (BitVec.ofInt IntKind.i64.bits x).toNat &&& 255 ≤ 255 := Nat.and_le_right
  generalize (BitVec.ofInt IntKind.i64.bits x).toNat &&& 255 = y at h2
  have : IntKind.i64.wrap (y : Int) = y := i64_of (by omega) (by omega)
  rw [this]; omega
theorem Byte_tot (c : l01Cur) (h : cur c) : ∃ r c', spec_l01Byte c = some (r, c') ∧ cur c' ∧ 0 ≤ r ∧ r ≤ 255 := by
  obtain ⟨h1, h2, h3⟩ := h
  unfold spec_l01Byte
  by_cases hi : c.i < (c.b.length : Int)
  · have hx : c.b[c.i.toNat]? = some (c.b[c.i.toNat]'(by omega)) := List.getElem?_eq_getElem _
    simp only [hi, h1, decide_true, if_true, hx, Option.bind_some]
    have e : i64 (c.i + 1) = c.i + 1 := i64_of (by omega) (by omega)
    exact ⟨_, _, rfl, ⟨by show 0 ≤ i64 (c.i + 1); omega, by show i64 (c.i + 1) ≤ (c.b.length : Int); omega, h3⟩, band255 _⟩
  · simp only [hi, decide_false, Bool.false_eq_true, if_false]
    exact ⟨_, _, rfl, ⟨h1, h2, h3⟩, band255 _⟩
theorem Below_tot (c : l01Cur) (n : Int) (h : cur c) : ∃ r c', spec_l01Below c n = some (r, c') ∧ cur c' ∧ 0 ≤ r ∧ (0 < n → r < n) := by
  unfold spec_l01Below
  by_cases h0 : n ≤ 0
  · simp only [h0, decide_true, if_true]
    exact ⟨0, c, rfl, h, by omega, by omega⟩
  · have hn : n ≠ 0 := by omega
    have fin : ∀ x : Int, 0 ≤ x → 0 ≤ Int.tmod x n ∧ (0 < n → Int.tmod x n < n) := fun x hx => by
      rw [Int.tmod_eq_emod_of_nonneg hx]
      exact ⟨Int.emod_nonneg _ hn, fun hp => Int.emod_lt_of_pos _ hp⟩
    obtain ⟨r1, c1, e1, k1, a1, b1⟩ := Byte_tot c h
    by_cases h2 : n ≤ 256
    · simp only [h0, h2, hn, e1, decide_true, decide_false, Bool.false_eq_true, if_false, if_true, Option.bind_some, ne_eq, not_false_eq_true]
      exact ⟨_, _, rfl, k1, fin r1 a1⟩
    · obtain ⟨r2, c2, e2, k2, a2, b2⟩ := Byte_tot c1 k1
      obtain ⟨r3, c3, e3, k3, a3, b3⟩ := Byte_tot c2 k2
      obtain ⟨r4, c4, e4, k4, a4, b4⟩ := Byte_tot c3 k3
      simp only [h0, h2, hn, e1, e2, e3, e4, decide_true, decide_false, Bool.false_eq_true, if_false, if_true, Option.bind_some, ne_eq, not_false_eq_true]
      have q1 : i64 (r1 * 16777216) = r1 * 16777216 := i64_of (by omega) (by omega)
      have q2 : i64 (r2 * 65536) = r2 * 65536 := i64_of (by omega) (by omega)
      have q3 : i64 (r3 * 256) = r3 * 256 := i64_of (by omega) (by omega)
      rw [q1, q2, q3, i64_of (show -9223372036854775808 ≤ r1 * 16777216 + r2 * 65536 by omega) (by omega), i64_of (show -9223372036854775808 ≤ r1 * 16777216 + r2 * 65536 + r3 * 256 by omega) (by omega), i64_of (show -9223372036854775808 ≤ r1 * 16777216 + r2 * 65536 + r3 * 256 + r4 by omega) (by omega)]
      exact ⟨_, _, rfl, k4, fin _ (by omega)⟩
theorem Once_tot (c : l01Cur) (n : Int) (h : cur c) : ∃ r c', spec_l01Once c n = some (r, c') ∧ cur c' := by
  obtain ⟨r, c', e, k, _⟩ := Below_tot c n h
  unfold spec_l01Once
  rw [e]
  exact ⟨_, _, rfl, k⟩
theorem Str_tot (c : l01Cur) (l : List ByteArray) (h : cur c) (hl : 0 < l.length) (hm : l.length ≤ 1000000) : ∃ r c', spec_l01Str c l = some (r, c', l) ∧ cur c' ∧ r ∈ l := by
  obtain ⟨r, c', e, k, a, b⟩ := Below_tot c l.length h
  have b := b (by omega)
  unfold spec_l01Str
  have hx : l[r.toNat]? = some (l[r.toNat]'(by omega)) := List.getElem?_eq_getElem _
  simp only [e, a, hx, decide_true, if_true, Option.bind_some]
  exact ⟨_, _, rfl, k, List.getElem_mem _⟩
theorem Pick_tot (c : l01Cur) (l : List Int) (h : cur c) (hl : 0 < l.length) (hm : l.length ≤ 1000000) : ∃ r c', spec_l01Pick c l = some (r, c', l) ∧ cur c' ∧ r ∈ l := by
  obtain ⟨r, c', e, k, a, b⟩ := Below_tot c l.length h
  have b := b (by omega)
  unfold spec_l01Pick
  have hx : l[r.toNat]? = some (l[r.toNat]'(by omega)) := List.getElem?_eq_getElem _
  simp only [e, a, hx, decide_true, if_true, Option.bind_some]
  exact ⟨_, _, rfl, k, List.getElem_mem _⟩
theorem New_l0_tot (code : List Int) : ∀ (t p : List Int) (v : Int), ∃ y, spec_l01New_l0 code t p v = some y
  | [], p, v => ⟨v, rfl⟩
  | x :: t, p, v => by
    unfold spec_l01New_l0
    split
    · exact New_l0_tot code t _ _
    · exact ⟨_, rfl⟩
theorem New_tot (code : List Int) (h : code.length ≤ 1048576) : ∃ c, spec_l01New code = some c ∧ cur c := by
  obtain ⟨y, e⟩ := New_l0_tot code code [] (i64 (1539 + (code.length : Int)))
  unfold spec_l01New
  rw [capOk_of (by omega), e]
  exact ⟨_, rfl, by show (0 : Int) ≤ 0; omega, by show (0 : Int) ≤ _; omega, h⟩
theorem cur_h {c : l01Cur} (h : cur c) (x : Int) : cur (l01Cur.mk c.b c.i x) := h
theorem MakeNum_tot (code : List Int) (n : Int) (h : code.length ≤ 1048576) : ∃ y, spec_MakeNum code n = some y ∧ 0 ≤ y ∧ (0 < n → y < n) := by
  obtain ⟨c, e, k⟩ := New_tot code h
  obtain ⟨r, c', e2, k2, a, b⟩ := Below_tot _ n (cur_h k (i64 (c.h + 777)))
  unfold spec_MakeNum
  rw [e, Option.bind_some, e2]
  exact ⟨r, rfl, a, b⟩
theorem bytesLess_trans : ∀ a b c : List UInt8, Op.bytesLess a b = true → Op.bytesLess b c = true → Op.bytesLess a c = true
  | [], b, [], h1, h2 => by cases b <;> simp [Op.bytesLess] at h1 h2
  | [], b, z :: w, h1, h2 => rfl
  | x :: t, [], c, h1, h2 => by simp [Op.bytesLess] at h1
  | x :: t, y :: u, [], h1, h2 => by simp [Op.bytesLess] at h2
  | x :: t, y :: u, z :: w, h1, h2 => by
    have ih := bytesLess_trans t u w
    simp only [Op.bytesLess, Bool.or_eq_true, decide_eq_true_eq, Bool.and_eq_true, beq_iff_eq] at h1 h2 ⊢
    rcases h1 with h1 | ⟨rfl, h1⟩ <;> rcases h2 with h2 | ⟨rfl, h2⟩
    · left
      have h1 := UInt8.lt_iff_toNat_lt.1 h1
      have h2 := UInt8.lt_iff_toNat_lt.1 h2
      exact UInt8.lt_iff_toNat_lt.2 (by omega)
    · exact .inl h1
    · exact .inl h2
    · exact .inr ⟨rfl, ih h1 h2⟩
/-- Names in order. -/
def lessId (a b : ByteArray) : Prop := Op.bytesLess a.toList b.toList = true
theorem lessId_trans {a b c : ByteArray} (h : lessId a b) (h2 : lessId b c) : lessId a c := bytesLess_trans _ _ _ h h2
def holdP (h : Hold) : Prop := holdIdOk h.Id = true ∧ 1 ≤ h.Amount ∧ h.Amount ≤ 9007199254740992 ∧ time h.Due = true
def holdsP (l : List Hold) : Prop := l.length ≤ 4 ∧ (∀ h ∈ l, holdP h) ∧ l.Pairwise (fun x y => lessId x.Id y.Id)
theorem HoldOk_iff (h : Hold) (hs : h.Id.size ≤ 4000000) : ∃ b, spec_HoldOk h = some b ∧ impl_HoldOk h = some b ∧ (b = true ↔ holdP h) := by
  obtain ⟨e1, e2⟩ := HoldIdOk_val h.Id hs
  unfold spec_HoldOk impl_HoldOk holdP
  rw [e1, e2]
  simp only [Option.bind_some, l01In_val, within_val, l06Time_val, isTime_val]
  rcases tf (holdIdOk h.Id) with h1 | h1 <;> rcases tf (decide (1 ≤ h.Amount) && decide (h.Amount ≤ 9007199254740992)) with h2 | h2 <;> rw [h1] <;> simp only [h2, if_true, if_false, Bool.false_eq_true]
  · refine ⟨_, rfl, rfl, ?_⟩
    simp only [Bool.and_eq_true, decide_eq_true_eq] at h2
    simp [h2.1, h2.2]
  · refine ⟨_, rfl, rfl, ?_⟩
    simp only [Bool.and_eq_false_iff, decide_eq_false_iff_not] at h2
    simp only [Bool.false_eq_true, true_and, false_iff]
    omega
  · exact ⟨_, rfl, rfl, by simp⟩
  · exact ⟨_, rfl, rfl, by simp⟩
theorem HoldsOk_l0_iff (l : List Hold) (hl : l.length ≤ 4000000) : ∀ (t p : List Hold), l = p ++ t → (∀ h ∈ t, h.Id.size ≤ 4000000) → p.Pairwise (fun x y => lessId x.Id y.Id) →
    ∃ b : Bool, spec_HoldsOk_l0 l t p = some (if b = true then .out () else .ret ()) ∧ impl_HoldsOk_l0 l t p = some (if b = true then .out () else .ret ()) ∧ (b = true ↔ (∀ h ∈ t, holdP h) ∧ l.Pairwise (fun x y => lessId x.Id y.Id))
  | [], p, e, hs, hp => ⟨true, rfl, rfl, by simp [e, hp]⟩
  | x :: t, p, e, hs, hp => by
    obtain ⟨b, e1, e2, e3⟩ := HoldOk_iff x (hs x (by simp))
    unfold spec_HoldsOk_l0 impl_HoldsOk_l0
    rw [e1, e2]
    cases b with
    | false => exact ⟨false, rfl, rfl, by simp only [Bool.false_eq_true, false_iff]; intro h; have := e3.2 (h.1 x (by simp)); cases this⟩
    | true =>
      have hx := e3.1 rfl
      simp only [Option.bind_some, if_true]
      by_cases hpl : (0 : Int) < (p.length : Int)
      · have hpl2 : p.length ≤ l.length := by rw [e]; simp
        have hi : i64 ((p.length : Int) - 1) = (p.length : Int) - 1 := i64_of (by omega) (by omega)
        have hpn : p ≠ [] := by intro h; subst h; simp at hpl
        have hg : l[((p.length : Int) - 1).toNat]? = some (p.getLast hpn) := by
          have : ((p.length : Int) - 1).toNat = p.length - 1 := by omega
          rw [this, e, List.getElem?_append_left (by omega), List.getLast_eq_getElem, List.getElem?_eq_getElem]
        have h1 : (0 : Int) ≤ (p.length : Int) - 1 := by omega
        simp only [hpl, hi, h1, decide_true, if_true, hg, Option.bind_some, less_flip x.Id]
        have hfl := less_flip x.Id (p.getLast hpn).Id
        rcases tf (Op.bytesLess x.Id.toList (p.getLast hpn).Id.toList || x.Id == (p.getLast hpn).Id) with hb | hb
        · rw [hb] at hfl
          refine ⟨false, by simp [hb], by simp [hb], ?_⟩
          simp only [Bool.false_eq_true, false_iff]
          intro hh
          rw [e, List.pairwise_append] at hh
          have := hh.2.2.2 _ (List.getLast_mem hpn) x (by simp)
          unfold lessId at this
          rw [hfl] at this; cases this
        · rw [hb] at hfl
          have hless : lessId (p.getLast hpn).Id x.Id := hfl
          have hp2 : (p ++ [x]).Pairwise (fun x y => lessId x.Id y.Id) := by
            rw [List.pairwise_append]
            refine ⟨hp, by simp, fun a ha c hc => ?_⟩
            simp only [List.mem_singleton] at hc
            subst hc
            by_cases hal : a = p.getLast hpn
            · subst hal; exact hless
            · have : p = p.dropLast ++ [p.getLast hpn] := (List.dropLast_concat_getLast hpn).symm
              rw [this, List.pairwise_append] at hp
              rw [this, List.mem_append] at ha
              rcases ha with ha | ha
              · exact lessId_trans (hp.2.2 a ha _ (by simp)) hless
              · simp only [List.mem_singleton] at ha; exact absurd ha hal
          obtain ⟨b, f1, f2, f3⟩ := HoldsOk_l0_iff l hl t (p ++ [x]) (by rw [e]; simp) (fun h hh => hs h (by simp [hh])) hp2
          refine ⟨b, by simpa [hb] using f1, by simpa [hb] using f2, ?_⟩
          rw [f3]
          simp [hx]
      · have hp0 : p = [] := by
          cases p with
          | nil => rfl
          | cons a q => exfalso; simp at hpl
        subst hp0
        obtain ⟨b, f1, f2, f3⟩ := HoldsOk_l0_iff l hl t ([] ++ [x]) (by rw [e]; simp) (fun h hh => hs h (by simp [hh])) (by simp)
        refine ⟨b, by simpa using f1, by simpa using f2, ?_⟩
        rw [f3]
        simp [hx]
theorem HoldsOk_iff (l : List Hold) (hl : l.length ≤ 4000000) (hs : ∀ h ∈ l, h.Id.size ≤ 4000000) : ∃ b, spec_HoldsOk l = some b ∧ impl_HoldsOk l = some b ∧ (b = true ↔ holdsP l) := by
  obtain ⟨b, e1, e2, e3⟩ := HoldsOk_l0_iff l hl l [] rfl hs (by simp)
  unfold spec_HoldsOk impl_HoldsOk holdsP
  rw [capOk_of (by omega), e1, e2]
  cases b with
  | false => exact ⟨false, rfl, rfl, by simp only [Bool.false_eq_true, false_iff]; intro h; have := e3.2 ⟨h.2.1, h.2.2⟩; cases this⟩
  | true =>
    refine ⟨decide ((l.length : Int) ≤ 4), rfl, rfl, ?_⟩
    have := e3.1 rfl
    simp only [decide_eq_true_eq]
    constructor
    · intro h; exact ⟨by omega, this⟩
    · intro h; have := h.1; omega
def ringP (r : Ring) : Prop := r.Sums.length = r.Counts.length ∧ r.Counts.length ≤ 8 ∧ 1 ≤ r.Counts.length ∧ 1 ≤ r.Span ∧ r.Span ≤ 1000 ∧ time r.Head = true ∧ r.Counts.all money = true ∧ r.Sums.all money = true
theorem RingOk_of (r : Ring) (h : ringP r) : spec_RingOk r = some true := by
  obtain ⟨h1, h2, h3, h4, h5, h6, h7, h8⟩ := h
  have e1 : (decide (1 ≤ r.Span) && decide (r.Span ≤ 1000)) = true := by simp [h4, h5]
  have e2 : (decide ((1 : Int) ≤ (r.Counts.length : Int)) && decide ((r.Counts.length : Int) ≤ 8)) = true := by simp; omega
  have e3 : ((r.Sums.length : Int) != (r.Counts.length : Int)) = false := by rw [h1]; simp
  unfold spec_RingOk
  rw [spec_RingOk_l0_val r r.Counts [] rfl h1]
  simp only [l01In_val, l06Time_val, e1, e2, e3, h6, Option.bind_some, if_true, Bool.false_eq_true, if_false, capOk_of (show r.Counts.length ≤ 274877906944 by omega), List.length_nil, List.drop_zero, h7, h8, Bool.and_self]
  rfl
theorem RingOk_iff (r : Ring) (hc : r.Counts.length ≤ 4000000) (hs : r.Sums.length ≤ 4000000) : ∃ b, spec_RingOk r = some b ∧ impl_RingOk r = some b ∧ (b = true ↔ ringP r) := by
  obtain ⟨b, e1, e2, e3⟩ := RingOk_tot r (by omega) (by omega)
  refine ⟨b, e1, e2, fun h => e3 h, fun h => ?_⟩
  have := RingOk_of r h
  rw [this] at e1
  exact (Option.some.inj e1).symm
/-- The sum of the amounts. -/
def sumA : List Hold → Int
  | [] => 0
  | h :: t => h.Amount + sumA t
theorem satAdd_in {a b : Int} (ha : 0 ≤ a) (hb : 0 ≤ b) (h : a + b ≤ 4611686018427387904) : satAdd a b = a + b := by
  have e1 : cl a = a := by unfold cl; split; omega; split <;> omega
  have e2 : cl b = b := by unfold cl; split; omega; split <;> omega
  unfold satAdd
  rw [e1, e2, if_pos h]
def amtP (l : List Hold) : Prop := ∀ h ∈ l, 1 ≤ h.Amount ∧ h.Amount ≤ 9007199254740992
theorem sumA_rng : ∀ l : List Hold, amtP l → 0 ≤ sumA l ∧ sumA l ≤ 9007199254740992 * l.length
  | [], _ => by simp [sumA]
  | x :: t, h => by
    have h1 := h x (by simp)
    have h2 := sumA_rng t (fun y hy => h y (by simp [hy]))
    simp only [sumA, List.length_cons]; omega
theorem Stored_l0_sum (l : List Hold) : ∀ (t : List Hold) (v : Int), amtP t → 0 ≤ v → v + 9007199254740992 * t.length ≤ 4611686018427387904 → spec_Stored_l0 l t v = some (v + sumA t) ∧ impl_Stored_l0 l t v = some (v + sumA t)
  | [], v, _, _, _ => by simp [spec_Stored_l0, impl_Stored_l0, sumA]
  | x :: t, v, h, h0, hv => by
    have h1 := h x (by simp)
    simp only [List.length_cons] at hv
    have e : satAdd v x.Amount = v + x.Amount := satAdd_in h0 (by omega) (by omega)
    obtain ⟨q1, q2⟩ := Stored_l0_sum l t (v + x.Amount) (fun y hy => h y (by simp [hy])) (by omega) (by omega)
    unfold spec_Stored_l0 impl_Stored_l0
    rw [(AddSat_val _ _).1, (AddSat_val _ _).2, e, Option.bind_some, Option.bind_some, q1, q2]
    simp only [sumA]
    have : v + x.Amount + sumA t = v + (x.Amount + sumA t) := by omega
    rw [this]; exact ⟨rfl, rfl⟩
theorem Stored_sum (l : List Hold) (h : amtP l) (hl : l.length ≤ 100) : spec_Stored l = some (sumA l) ∧ impl_Stored l = some (sumA l) := by
  obtain ⟨q1, q2⟩ := Stored_l0_sum l l 0 h (by omega) (by omega)
  unfold spec_Stored impl_Stored
  rw [capOk_of (by omega), q1, q2]
  simp only [if_true, Option.bind_some]
  have : 0 + sumA l = sumA l := by omega
  rw [this]; exact ⟨rfl, rfl⟩
theorem holdsP_amt {l : List Hold} (h : holdsP l) : amtP l := fun x hx => ⟨(h.2.1 x hx).2.1, (h.2.1 x hx).2.2.1⟩
/-- A valid account. -/
def acctP (a : Acct) : Prop := spec_AcctIdOk a.Id = some true ∧ (0 ≤ a.Limit ∧ a.Limit ≤ 9007199254740992) ∧ (0 ≤ a.Most ∧ a.Most ≤ 1000) ∧ (0 ≤ a.MostSum ∧ a.MostSum ≤ 9007199254740992) ∧ money a.Posted = true ∧ holdsP a.Holds ∧ ringP a.Ring ∧ spec_SlotsOk a.Slots = some true ∧ a.Posted + sumA a.Holds ≤ a.Limit
theorem and_if (c : Bool) (d : Bool) : (if c = true then some d else some false : Option Bool) = some (c && d) := by cases c <;> rfl
theorem money_iff (n : Int) : money n = true ↔ 0 ≤ n ∧ n ≤ 4611686018427387904 := by unfold money; simp
theorem satAdd_le {a b l : Int} (ha : 0 ≤ a) (ha2 : a ≤ 4611686018427387904) (hb : 0 ≤ b) (hb2 : b ≤ 4611686018427387904) (hl : l < 4611686018427387904) : satAdd a b ≤ l ↔ a + b ≤ l := by
  have e1 : cl a = a := by unfold cl; split; omega; split <;> omega
  have e2 : cl b = b := by unfold cl; split; omega; split <;> omega
  unfold satAdd
  rw [e1, e2]
  split <;> omega
theorem AcctOk_bool (a : Acct) (h : szAcct a) : ∃ b1 b2 b3 b4 s, spec_AcctIdOk a.Id = some b1 ∧ (b2 = true ↔ holdsP a.Holds) ∧ (b3 = true ↔ ringP a.Ring) ∧ spec_SlotsOk a.Slots = some b4 ∧ spec_Stored a.Holds = some s ∧
    spec_AcctOk a = some (b1 && ((decide (0 ≤ a.Limit) && decide (a.Limit ≤ 9007199254740992)) && ((decide (0 ≤ a.Most) && decide (a.Most ≤ 1000)) && ((decide (0 ≤ a.MostSum) && decide (a.MostSum ≤ 9007199254740992)) && (money a.Posted && (b2 && (b3 && (b4 && decide (satAdd a.Posted s ≤ a.Limit))))))))) ∧
    impl_AcctOk a = spec_AcctOk a := by
  have hh := h
  obtain ⟨h1, ⟨h2, h3⟩, ⟨h4, h5⟩, h6, h7⟩ := h
  obtain ⟨b1, p1, q1, _⟩ := AcctIdOk_eq a.Id
  obtain ⟨b2, p2, q2, i2⟩ := HoldsOk_iff a.Holds (by omega) (fun x hx => by have := h3 x hx; unfold szHold at this; omega)
  obtain ⟨b3, p3, q3, i3⟩ := RingOk_iff a.Ring (by omega) (by omega)
  obtain ⟨b4, p4, q4, _⟩ := SlotsOk_tot a.Slots (by omega) (fun x hx => by have := h7 x hx; unfold szSlot at this; omega)
  obtain ⟨s, p5, q5⟩ := Stored_tot a.Holds (by omega)
  obtain ⟨p6, q6⟩ := AddSat_val a.Posted s
  obtain ⟨y, y1, y2, _⟩ := AcctOk_tot a hh
  refine ⟨b1, b2, b3, b4, s, p1, i2, i3, p4, p5, ?_, by rw [y1, y2]⟩
  unfold spec_AcctOk
  simp only [p1, p2, p3, p4, p5, p6, l01In_val, l01Money_val, Option.bind_some, and_if]
theorem AcctOk_iff (a : Acct) (h : szAcct a) : ∃ b, spec_AcctOk a = some b ∧ impl_AcctOk a = some b ∧ (b = true ↔ acctP a) := by
  obtain ⟨b1, b2, b3, b4, s, p1, i2, i3, p4, p5, e1, e2⟩ := AcctOk_bool a h
  refine ⟨_, e1, by rw [e2, e1], ?_⟩
  unfold acctP
  rw [p1, p4]
  simp only [Bool.and_eq_true, decide_eq_true_eq, Option.some.injEq]
  rw [i2, i3, money_iff]
  constructor
  · rintro ⟨g1, g2, g3, g4, g5, g6, g7, g8, g9⟩
    have hs := (Stored_sum a.Holds (holdsP_amt g6) (by have := g6.1; omega)).1
    rw [p5] at hs
    have hs := Option.some.inj hs
    have hr := sumA_rng _ (holdsP_amt g6)
    have hl := g6.1
    rw [hs, satAdd_le g5.1 g5.2 hr.1 (by omega) (by omega)] at g9
    exact ⟨g1, g2, g3, g4, g5, g6, g7, g8, g9⟩
  · rintro ⟨g1, g2, g3, g4, g5, g6, g7, g8, g9⟩
    have hs := (Stored_sum a.Holds (holdsP_amt g6) (by have := g6.1; omega)).1
    rw [p5] at hs
    have hs := Option.some.inj hs
    have hr := sumA_rng _ (holdsP_amt g6)
    have hl := g6.1
    refine ⟨g1, g2, g3, g4, g5, g6, g7, g8, ?_⟩
    rw [hs, satAdd_le g5.1 g5.2 hr.1 (by omega) (by omega)]
    exact g9
/-- What is valid is small. -/
theorem acctP_wt (a : Acct) (h : szAcct a) (hp : acctP a) : wtAcct a ≤ 2000 := by
  obtain ⟨g1, _, _, _, _, g6, g7, g8, _⟩ := hp
  obtain ⟨h1, ⟨h2, h3⟩, ⟨h4, h5⟩, h6, h7⟩ := h
  obtain ⟨b1, p1, _, i1⟩ := AcctIdOk_eq a.Id
  rw [p1] at g1
  have i1 := i1 (Option.some.inj g1)
  obtain ⟨b4, p4, _, i4⟩ := SlotsOk_tot a.Slots (by omega) (fun x hx => by have := h7 x hx; unfold szSlot at this; omega)
  rw [p4] at g8
  obtain ⟨j1, j2⟩ := i4 (Option.some.inj g8)
  have k1 : wtL wtHold a.Holds ≤ 7 * a.Holds.length := wtL_bound wtHold 6 a.Holds fun x hx => by
    have := (g6.2.1 x hx).1
    obtain ⟨y, e, _, i⟩ := HoldIdOk_tot x.Id (by have := h3 x hx; unfold szHold at this; omega)
    unfold holdIdOk at this
    rw [e] at this
    rw [wtHold_eq]
    exact i this
  have k2 : wtL wtSlot a.Slots ≤ 211 * a.Slots.length := wtL_bound wtSlot 210 a.Slots fun x hx => by
    have := j2 x hx
    rw [wtSlot_eq]; omega
  have := g6.1
  have := g7.1
  have := g7.2.1
  rw [wtAcct_eq, wtRing_eq]
  omega
theorem sh_money (l : List Int) (d i : Nat) (h : l.all money = true) : money (sh l d i) = true := by
  unfold sh
  split
  · rw [List.getD_eq_getElem?_getD]
    cases hq : l[i - d]? with
    | none => rfl
    | some x => exact List.all_eq_true.1 h x (List.mem_of_getElem? hq)
  · rfl
theorem ringP_wt (r : Ring) (h : ringP r) : wtRing r ≤ 16 := by
  obtain ⟨h1, h2, _⟩ := h
  rw [wtRing_eq]; omega
theorem ringP_rolled (r : Ring) (now : Int) (h : ringP r) : ringP (rolled r now) := by
  obtain ⟨y, e1, e2, e3, e4, e5⟩ := RingRoll_tot r now (by have := ringP_wt r h; omega)
  unfold rolled
  rw [e1]
  show ringP y
  rcases e5 with rfl | ⟨d, c, s, rfl, ht, hsp, l1, l2, l3, g1, g2⟩
  · exact h
  · obtain ⟨h1, h2, h3, h4, h5, h6, h7, h8⟩ := h
    unfold time at ht
    simp only [Bool.and_eq_true, decide_eq_true_eq] at ht
    have hq0 : 0 ≤ now / r.Span := Int.ediv_nonneg ht.1 (by omega)
    have hq1 : now / r.Span ≤ now := Int.ediv_le_self _ ht.1
    refine ⟨by show s.length = c.length; omega, by show c.length ≤ 8; omega, by show 1 ≤ c.length; omega, h4, h5, ?_, ?_, ?_⟩
    · unfold time; simp only [Bool.and_eq_true, decide_eq_true_eq]; omega
    · rw [List.all_eq_true]
      intro x hx
      obtain ⟨i, hi, rfl⟩ := List.mem_iff_getElem.1 hx
      have hi2 : i < r.Counts.length := by have : i < c.length := hi; omega
      have := g1 i hi2
      rw [List.getElem?_eq_getElem (show i < c.length from hi)] at this
      show money c[i] = true
      rw [Option.some.inj this]
      exact sh_money _ _ _ h7
    · rw [List.all_eq_true]
      intro x hx
      obtain ⟨i, hi, rfl⟩ := List.mem_iff_getElem.1 hx
      have hi2 : i < r.Counts.length := by have : i < s.length := hi; omega
      have := g2 i hi2
      rw [List.getElem?_eq_getElem (show i < s.length from hi)] at this
      show money s[i] = true
      rw [Option.some.inj this]
      exact sh_money _ _ _ h8
theorem satAdd_money (a b : Int) : money (satAdd a b) = true := by
  obtain ⟨a1, a2⟩ := cl_rng a
  obtain ⟨b1, b2⟩ := cl_rng b
  rw [money_iff]
  unfold satAdd
  split <;> omega
/-- An amount is put into the first bucket. -/
def added (q : Ring) (amount : Int) : Ring := Ring.mk q.Span q.Head (q.Counts.set 0 (satAdd (q.Counts.getD 0 0) 1)) (q.Sums.set 0 (satAdd (q.Sums.getD 0 0) amount))
theorem all_set {l : List Int} {i : Nat} {x : Int} (h : l.all money = true) (hx : money x = true) : (l.set i x).all money = true := by
  rw [List.all_eq_true] at h ⊢
  intro y hy
  rcases List.mem_or_eq_of_mem_set hy with h1 | rfl
  · exact h y h1
  · exact hx
theorem ringP_added (q : Ring) (amount : Int) (h : ringP q) : ringP (added q amount) := by
  obtain ⟨h1, h2, h3, h4, h5, h6, h7, h8⟩ := h
  exact ⟨by simpa [added] using h1, by simpa [added] using h2, by simpa [added] using h3, h4, h5, h6, all_set h7 (satAdd_money _ _), all_set h8 (satAdd_money _ _)⟩
theorem first_of (q : Ring) (h : ringP q) : q.Counts[0]? = some (q.Counts.getD 0 0) ∧ q.Sums[0]? = some (q.Sums.getD 0 0) := by
  obtain ⟨h1, h2, h3, _⟩ := h
  constructor
  · rw [List.getD_eq_getElem?_getD, List.getElem?_eq_getElem (by omega)]; rfl
  · rw [List.getD_eq_getElem?_getD, List.getElem?_eq_getElem (by omega)]; rfl
theorem spec_RingAdd_val (r : Ring) (now amount : Int) (h : ringP r) (ht : time now = true) (hm : money amount = true) : spec_RingAdd r now amount = some (added (rolled r now) amount) := by
  have hq := ringP_rolled r now h
  obtain ⟨f1, f2⟩ := first_of _ hq
  unfold spec_RingAdd
  rw [RingOk_of r h, (RingRoll_val r now (by have := ringP_wt r h; omega)).1]
  simp only [Option.bind_some, if_true, l06Time_val, ht, l01Money_val, hm, f1, f2, (AddSat_val _ _).1]
  rfl
theorem l06Draw_l0_tot : ∀ (n : Nat) (b : List Int) (i h sp hd now k : Int) (cs ss : List Int), cur (l01Cur.mk b i h) → ringP (Ring.mk sp hd cs ss) → 0 ≤ now → now + 8 * k ≤ 1000000 → k < n → k ≤ 1000 → 0 ≤ k →
    ∃ b' i' h' sp' hd' cs' ss', spec_l06Draw_l0 n b i h sp hd now k cs ss = some (b', i', h', sp', hd', cs', ss') ∧ cur (l01Cur.mk b' i' h') ∧ ringP (Ring.mk sp' hd' cs' ss')
  | 0, b, i, h, sp, hd, now, k, cs, ss, hc, hr, h0, h1, hn, hk, hk0 => by omega
  | n + 1, b, i, h, sp, hd, now, k, cs, ss, hc, hr, h0, h1, hn, hk, hk0 => by
    unfold spec_l06Draw_l0
    by_cases h2 : 0 < k
    · obtain ⟨r5, c5, e5, k5, a5, b5⟩ := Below_tot _ 9 hc
      obtain ⟨r6, c6, e6, k6, a6, b6⟩ := Below_tot c5 90 k5
      have b5 := b5 (by omega)
      have b6 := b6 (by omega)
      have i1 : i64 (now + r5) = now + r5 := i64_of (by omega) (by omega)
      have i2 : i64 (1 + r6) = 1 + r6 := i64_of (by omega) (by omega)
      have i3 : i64 (k - 1) = k - 1 := i64_of (by omega) (by omega)
      have ht : time (now + r5) = true := by unfold time; simp only [Bool.and_eq_true, decide_eq_true_eq]; omega
      have hm : money (1 + r6) = true := by rw [money_iff]; omega
      have hp := ringP_added _ (1 + r6) (ringP_rolled _ (now + r5) hr)
      simp only [h2, decide_true, if_true, e5, e6, Option.bind_some, i1, i2, i3, spec_RingAdd_val _ _ _ hr ht hm]
      exact l06Draw_l0_tot n c6.b c6.i c6.h _ _ (now + r5) (k - 1) _ _ k6 hp (by omega) (by omega) (by omega) (by omega) (by omega)
    · simp only [h2, decide_false, Bool.false_eq_true, if_false]
      exact ⟨b, i, h, sp, hd, cs, ss, rfl, hc, hr⟩
theorem RingNew_val (b s : Int) (h1 : 1 ≤ b) (h2 : b ≤ 8) (h3 : 1 ≤ s) (h4 : s ≤ 1000) : spec_RingNew b s = some (Ring.mk s 0 (List.replicate b.toNat 0) (List.replicate b.toNat 0), true) ∧ ringP (Ring.mk s 0 (List.replicate b.toNat 0) (List.replicate b.toNat 0)) := by
  have e1 : (decide (1 ≤ b) && decide (b ≤ 8)) = true := by simp [h1, h2]
  have e2 : (decide (1 ≤ s) && decide (s ≤ 1000)) = true := by simp [h3, h4]
  constructor
  · unfold spec_RingNew
    simp only [l01In_val, e1, e2, Option.bind_some, if_true, show (0 : Int) ≤ b by omega, decide_true, capOk_of (show b.toNat ≤ 274877906944 by omega)]
  · have hm : (List.replicate b.toNat (0 : Int)).all money = true := by
      rw [List.all_eq_true]
      intro x hx
      rw [List.eq_of_mem_replicate hx]; rfl
    exact ⟨by simp, by simp; omega, by simp; omega, h3, h4, rfl, hm, hm⟩
theorem l06Draw_tot (c : l01Cur) (h : cur c) : ∃ r c', spec_l06Draw c = some (r, c') ∧ cur c' ∧ ringP r := by
  obtain ⟨r1, c1, e1, k1, a1, b1⟩ := Below_tot c 5 h
  obtain ⟨r2, c2, e2, k2, a2, b2⟩ := Below_tot c1 6 k1
  have b1 := b1 (by omega)
  have b2 := b2 (by omega)
  have i1 : i64 (1 + r1) = 1 + r1 := i64_of (by omega) (by omega)
  have i2 : i64 (1 + r2) = 1 + r2 := i64_of (by omega) (by omega)
  obtain ⟨v, hv⟩ := RingNew_val (1 + r1) (1 + r2) (by omega) (by omega) (by omega) (by omega)
  obtain ⟨r4, c4, e4, k4, a4, b4⟩ := Below_tot c2 5 k2
  have b4 := b4 (by omega)
  obtain ⟨b', i', h', sp', hd', cs', ss', q1, q2, q3⟩ := l06Draw_l0_tot FUEL c4.b c4.i c4.h (1 + r2) 0 0 r4 _ _ k4 hv (by omega) (by omega) (by unfold FUEL; omega) (by omega) (by omega)
  unfold spec_l06Draw
  simp only [e1, e2, e4, i1, i2, v, Option.bind_some, q1]
  exact ⟨_, _, rfl, q2, q3⟩
theorem l07Id_tot (c : l01Cur) (h : cur c) : ∃ s c', spec_l07Id c = some (s, c') ∧ cur c' ∧ s.size ≤ 2 ∧ holdIdOk s = true := by
  obtain ⟨r, c', e, k, m⟩ := Str_tot c [bs [97], bs [98], bs [99], bs [104, 49], bs [122, 57]] h (by decide) (by decide)
  unfold spec_l07Id
  rw [e]
  refine ⟨r, c', rfl, k, ?_⟩
  simp only [List.mem_cons, List.not_mem_nil, or_false] at m
  rcases m with rfl | rfl | rfl | rfl | rfl <;> exact ⟨by decide, by unfold holdIdOk; kernel_rfl⟩
theorem l07Hold_tot (c : l01Cur) (h : cur c) : ∃ s c', spec_l07Hold c = some (s, c') ∧ cur c' ∧ s.Id.size ≤ 2 := by
  obtain ⟨r1, c1, e1, k1, a1, _⟩ := l07Id_tot c h
  obtain ⟨r2, c2, e2, k2, a2, b2⟩ := Below_tot c1 60 k1
  obtain ⟨r3, c3, e3, k3, a3, b3⟩ := Below_tot c2 30 k2
  unfold spec_l07Hold
  simp only [e1, e2, e3, Option.bind_some]
  exact ⟨_, _, rfl, k3, a1⟩
def id2 (l : List Hold) : Prop := ∀ x ∈ l, x.Id.size ≤ 2
theorem id2_app {l m : List Hold} (h : id2 l) (h2 : id2 m) : id2 (l ++ m) := fun x hx => by
  rcases List.mem_append.1 hx with hx | hx
  · exact h x hx
  · exact h2 x hx
theorem HoldPut_l0_tot (l : List Hold) (h : Hold) (hh : h.Id.size ≤ 2) : ∀ (t : List Hold) (b : Bool) (v : List Hold), id2 t → id2 v → v.length + 2 * t.length ≤ 1000 → ∃ b' y, spec_HoldPut_l0 l h t b v = some (b', y) ∧ id2 y ∧ y.length ≤ v.length + 2 * t.length
  | [], b, v, _, hv, _ => ⟨b, v, rfl, hv, by simp⟩
  | x :: t, b, v, ht, hv, hl => by
    simp only [List.length_cons] at hl
    have ht' : id2 t := fun y hy => ht y (by simp [hy])
    have hx : id2 [x] := fun y hy => by simp only [List.mem_singleton] at hy; rw [hy]; exact ht x (by simp)
    have hh' : id2 [h] := fun y hy => by simp only [List.mem_singleton] at hy; rw [hy]; exact hh
    have c1 : capOk (v.length + 1) = true := capOk_of (by omega)
    have c2 : capOk ((v ++ [h]).length + 1) = true := capOk_of (by simp; omega)
    have go : ∀ (b : Bool) (w : List Hold), id2 w → w.length ≤ v.length + 2 → ∃ b' y, spec_HoldPut_l0 l h t b w = some (b', y) ∧ id2 y ∧ y.length ≤ v.length + 2 * (t.length + 1) := fun b w hw hwl => by
      obtain ⟨b', y, e, f, g⟩ := HoldPut_l0_tot l h hh t b w ht' hw (by omega)
      exact ⟨b', y, e, f, by omega⟩
    unfold spec_HoldPut_l0
    rw [c1, c2]
    simp only [if_true, List.length_cons]
    split
    · split
      · exact go _ _ hv (by omega)
      · exact go _ _ (id2_app hv hx) (by simp)
    · split
      · split
        · exact go _ _ hv (by omega)
        · exact go _ _ (id2_app hv hx) (by simp)
      · split
        · exact go _ _ (id2_app hv hh') (by simp)
        · exact go _ _ (id2_app (id2_app hv hh') hx) (by simp)
theorem HoldPut_tot (l : List Hold) (h : Hold) (hl : l.length ≤ 100) (hi : id2 l) (hh : h.Id.size ≤ 2) : ∃ y b, spec_HoldPut l h = some (y, b) ∧ (b = true → holdsP y ∧ id2 y) := by
  obtain ⟨b1, e1, _, _⟩ := HoldsOk_iff l (by omega) (fun x hx => by have := hi x hx; omega)
  have hh' : id2 [h] := fun y hy => by simp only [List.mem_singleton] at hy; rw [hy]; exact hh
  unfold spec_HoldPut
  rw [e1, Option.bind_some]
  cases b1 with
  | false => exact ⟨_, _, rfl, fun h => by cases h⟩
  | true =>
    obtain ⟨b2, y, e2, f2, g2⟩ := HoldPut_l0_tot l h hh l false [] hi (fun x hx => by cases hx) (by simp; omega)
    simp only [List.length_nil] at g2
    simp only [if_true, capOk_of (show l.length ≤ 274877906944 by omega), e2, Option.bind_some, capOk_of (show y.length + 1 ≤ 274877906944 by omega)]
    obtain ⟨b3, e3, _, i3⟩ := HoldsOk_iff y (by omega) (fun x hx => by have := f2 x hx; omega)
    obtain ⟨b4, e4, _, i4⟩ := HoldsOk_iff (y ++ [h]) (by simp; omega) (fun x hx => by have := id2_app f2 hh' x hx; omega)
    simp only [e3, e4, Option.bind_some]
    cases b2 with
    | true => cases b3 with
      | true => exact ⟨_, _, rfl, fun _ => ⟨i3.1 rfl, f2⟩⟩
      | false => exact ⟨_, _, rfl, fun h => absurd h (by decide)⟩
    | false => cases b4 with
      | true => exact ⟨_, _, rfl, fun _ => ⟨i4.1 rfl, id2_app f2 hh'⟩⟩
      | false => exact ⟨_, _, rfl, fun h => absurd h (by decide)⟩
theorem l07Draw_l0_tot : ∀ (n : Nat) (b : List Int) (i h k : Int) (v : List Hold), cur (l01Cur.mk b i h) → holdsP v → id2 v → k < n → k ≤ 1000 → 0 ≤ k → ∃ b' i' h' y, spec_l07Draw_l0 n b i h k v = some (b', i', h', y) ∧ cur (l01Cur.mk b' i' h') ∧ holdsP y ∧ id2 y
  | 0, b, i, h, k, v, hc, hp, hi, hn, hk, hk0 => by omega
  | n + 1, b, i, h, k, v, hc, hp, hi, hn, hk, hk0 => by
    unfold spec_l07Draw_l0
    by_cases h2 : 0 < k
    · obtain ⟨r2, c2, e2, k2, a2⟩ := l07Hold_tot _ hc
      obtain ⟨y, b3, e3, f3⟩ := HoldPut_tot v r2 (by have := hp.1; omega) hi a2
      have i3 : i64 (k - 1) = k - 1 := i64_of (by omega) (by omega)
      simp only [h2, decide_true, if_true, e2, e3, Option.bind_some, i3]
      cases b3 with
      | true => exact l07Draw_l0_tot n c2.b c2.i c2.h (k - 1) y k2 (f3 rfl).1 (f3 rfl).2 (by omega) (by omega) (by omega)
      | false => exact l07Draw_l0_tot n c2.b c2.i c2.h (k - 1) v k2 hp hi (by omega) (by omega) (by omega)
    · simp only [h2, decide_false, Bool.false_eq_true, if_false]
      exact ⟨b, i, h, v, rfl, hc, hp, hi⟩
theorem l07Draw_tot (c : l01Cur) (h : cur c) : ∃ l c', spec_l07Draw c = some (l, c') ∧ cur c' ∧ holdsP l ∧ id2 l := by
  obtain ⟨r1, c1, e1, k1, a1, b1⟩ := Below_tot c 4 h
  have b1 := b1 (by omega)
  obtain ⟨b', i', h', y, q1, q2, q3, q4⟩ := l07Draw_l0_tot FUEL c1.b c1.i c1.h r1 [] k1 ⟨by decide, fun x hx => (by cases hx), List.Pairwise.nil⟩ (fun x hx => by cases hx) (by unfold FUEL; omega) (by omega) (by omega)
  unfold spec_l07Draw
  simp only [e1, Option.bind_some, q1]
  exact ⟨_, _, rfl, q2, q3, q4⟩
theorem l01Bytes_l0_tot : ∀ (n : Nat) (b : List Int) (i h k : Int) (v : List Int), cur (l01Cur.mk b i h) → byB v → k < n → k ≤ 1000 → 0 ≤ k → v.length + k ≤ 100000 → ∃ b' i' h' y, spec_l01Bytes_l0 n b i h k v = some (b', i', h', y) ∧ cur (l01Cur.mk b' i' h') ∧ byB y ∧ (y.length : Int) = v.length + k
  | 0, b, i, h, k, v, hc, hp, hn, hk, hk0, hv => by omega
  | n + 1, b, i, h, k, v, hc, hp, hn, hk, hk0, hv => by
    unfold spec_l01Bytes_l0
    by_cases h2 : 0 < k
    · obtain ⟨r2, c2, e2, k2, a2, b2⟩ := Byte_tot _ hc
      have i3 : i64 (k - 1) = k - 1 := i64_of (by omega) (by omega)
      have hu : u8 r2 = r2 := u8_of a2 b2
      have hp2 : byB (v ++ [r2]) := fun x hx => by
        rcases List.mem_append.1 hx with hx | hx
        · exact hp x hx
        · simp only [List.mem_singleton] at hx; rw [hx]; exact ⟨a2, b2⟩
      simp only [h2, decide_true, if_true, e2, Option.bind_some, i3, hu, capOk_of (show v.length + 1 ≤ 274877906944 by omega)]
      obtain ⟨b', i', h', y, q1, q2, q3, q4⟩ := l01Bytes_l0_tot n c2.b c2.i c2.h (k - 1) (v ++ [r2]) k2 hp2 (by omega) (by omega) (by omega) (by simp; omega)
      exact ⟨b', i', h', y, q1, q2, q3, by rw [q4]; simp; omega⟩
    · simp only [h2, decide_false, Bool.false_eq_true, if_false]
      exact ⟨b, i, h, v, rfl, hc, hp, by omega⟩
/-- A slot as it is drawn. -/
def slotD (s : Slot) : Prop := s.Trace.size = 6 ∧ s.Mti.size = 4 ∧ s.Reply.length ≤ 200 ∧ byB s.Reply
theorem l08Slot_tot (c : l01Cur) (h : cur c) : ∃ s c', spec_l08Slot c = some (s, c') ∧ cur c' ∧ slotD s := by
  obtain ⟨r1, c1, e1, k1, m1⟩ := Str_tot c [bs [48, 48, 48, 48, 48, 49], bs [48, 48, 48, 48, 48, 50], bs [48, 48, 48, 48, 48, 51], bs [49, 50, 51, 52, 53, 54]] h (by decide) (by decide)
  obtain ⟨r2, c2, e2, k2, m2⟩ := Str_tot c1 [bs [48, 49, 48, 48], bs [48, 50, 50, 48], bs [48, 50, 48, 48]] k1 (by decide) (by decide)
  obtain ⟨r3, c3, e3, k3, a3, b3⟩ := Below_tot c2 4 k2
  have b3 := b3 (by omega)
  obtain ⟨b', i', h', y, q1, q2, q3, q4⟩ := l01Bytes_l0_tot FUEL c3.b c3.i c3.h r3 [] k3 (fun x hx => by cases hx) (by unfold FUEL; omega) (by omega) (by omega) (by simp; omega)
  have i3 : i64 ((3 : Int) + 1) = 4 := by decide
  have hy : y.length ≤ 4 := by simp at q4; omega
  have t1 : r1.size = 6 := by
    simp only [List.mem_cons, List.not_mem_nil, or_false] at m1
    rcases m1 with rfl | rfl | rfl | rfl <;> rfl
  have t2 : r2.size = 4 := by
    simp only [List.mem_cons, List.not_mem_nil, or_false] at m2
    rcases m2 with rfl | rfl | rfl <;> rfl
  unfold spec_l08Slot spec_l01Bytes
  simp only [e1, e2, i3, e3, q1, Option.bind_some, capOk_of (show y.length + 1 ≤ 274877906944 by omega), if_true]
  refine ⟨_, _, rfl, q2, t1, t2, by simp; omega, fun x hx => ?_⟩
  rcases List.mem_append.1 hx with hx | hx
  · exact q3 x hx
  · simp only [List.mem_singleton] at hx; rw [hx]; omega
theorem slotD_wt (l : List Slot) (h : ∀ s ∈ l, slotD s) : wtL wtSlot l ≤ 211 * l.length := wtL_bound wtSlot 210 l fun x hx => by
  obtain ⟨h1, h2, h3, _⟩ := h x hx
  rw [wtSlot_eq]; omega
theorem SlotPut_tot (l : List Slot) (s : Slot) (hl : l.length ≤ 100) (h : ∀ s ∈ l, slotD s) (hs : slotD s) : ∃ y b, spec_SlotPut l s = some (y, b) ∧ (b = true → spec_SlotsOk y = some true ∧ (∀ s ∈ y, slotD s) ∧ y.length ≤ 6) := by
  have h2 : ∀ x ∈ l ++ [s], slotD x := fun x hx => by
    rcases List.mem_append.1 hx with hx | hx
    · exact h x hx
    · simp only [List.mem_singleton] at hx; rw [hx]; exact hs
  have w1 := slotD_wt l h
  have w2 := slotD_wt (l ++ [s]) h2
  simp only [List.length_append, List.length_cons, List.length_nil] at w2
  obtain ⟨b, e, _, i⟩ := SlotsOk_tot (l ++ [s]) (by simp; omega) (fun x hx => by obtain ⟨h1, h2, _⟩ := h2 x hx; omega)
  unfold spec_SlotPut
  rw [l08Copy_val l (by omega), Option.bind_some, capOk_of (show l.length + 1 ≤ 274877906944 by omega), l08Copy_val (l ++ [s]) (by omega), Option.bind_some, e, Option.bind_some]
  cases b with
  | true => exact ⟨_, _, rfl, fun _ => ⟨e, h2, (i rfl).1⟩⟩
  | false => exact ⟨_, _, rfl, fun h => by cases h⟩
theorem l08Draw_l0_tot : ∀ (n : Nat) (b : List Int) (i h k : Int) (v : List Slot), cur (l01Cur.mk b i h) → spec_SlotsOk v = some true → (∀ s ∈ v, slotD s) → v.length ≤ 6 → k < n → k ≤ 1000 → 0 ≤ k → ∃ b' i' h' y, spec_l08Draw_l0 n b i h k v = some (b', i', h', y) ∧ cur (l01Cur.mk b' i' h') ∧ spec_SlotsOk y = some true ∧ (∀ s ∈ y, slotD s) ∧ y.length ≤ 6
  | 0, b, i, h, k, v, hc, hp, hi, hl, hn, hk, hk0 => by omega
  | n + 1, b, i, h, k, v, hc, hp, hi, hl, hn, hk, hk0 => by
    unfold spec_l08Draw_l0
    by_cases h2 : 0 < k
    · obtain ⟨r2, c2, e2, k2, a2⟩ := l08Slot_tot _ hc
      obtain ⟨y, b3, e3, f3⟩ := SlotPut_tot v r2 (by omega) hi a2
      have i3 : i64 (k - 1) = k - 1 := i64_of (by omega) (by omega)
      simp only [h2, decide_true, if_true, e2, e3, Option.bind_some, i3]
      cases b3 with
      | true => exact l08Draw_l0_tot n c2.b c2.i c2.h (k - 1) y k2 (f3 rfl).1 (f3 rfl).2.1 (f3 rfl).2.2 (by omega) (by omega) (by omega)
      | false => exact l08Draw_l0_tot n c2.b c2.i c2.h (k - 1) v k2 hp hi hl (by omega) (by omega) (by omega)
    · simp only [h2, decide_false, Bool.false_eq_true, if_false]
      exact ⟨b, i, h, v, rfl, hc, hp, hi, hl⟩
theorem l08Draw_tot (c : l01Cur) (h : cur c) : ∃ l c', spec_l08Draw c = some (l, c') ∧ cur c' ∧ spec_SlotsOk l = some true ∧ (∀ s ∈ l, slotD s) ∧ l.length ≤ 6 := by
  obtain ⟨r1, c1, e1, k1, a1, b1⟩ := Below_tot c 5 h
  have b1 := b1 (by omega)
  obtain ⟨b', i', h', y, q1, q2, q3⟩ := l08Draw_l0_tot FUEL c1.b c1.i c1.h r1 [] k1 rfl (fun x hx => by cases hx) (by decide) (by unfold FUEL; omega) (by omega) (by omega)
  unfold spec_l08Draw
  simp only [e1, Option.bind_some, q1]
  exact ⟨_, _, rfl, q2, q3⟩
/-- An account as it is drawn. -/
def acctD (a : Acct) : Prop := acctP a ∧ szAcct a ∧ ∀ s ∈ a.Slots, byB s.Reply
theorem acctD_mk (id : ByteArray) (limit posted most sum : Int) (hl : List Hold) (r : Ring) (sl : List Slot) (h1 : spec_AcctIdOk id = some true) (h2 : 0 ≤ limit ∧ limit ≤ 9007199254740992) (h3 : 0 ≤ most ∧ most ≤ 1000) (h4 : 0 ≤ sum ∧ sum ≤ 9007199254740992)
    (h5 : 0 ≤ posted) (h6 : holdsP hl) (h6' : id2 hl) (h7 : ringP r) (h8 : spec_SlotsOk sl = some true) (h9 : ∀ s ∈ sl, slotD s) (h10 : sl.length ≤ 6) (h11 : posted + sumA hl ≤ limit) : acctD (Acct.mk id limit posted most sum hl r sl) := by
  have hr := sumA_rng _ (holdsP_amt h6)
  obtain ⟨b, e, _, i⟩ := AcctIdOk_eq id
  rw [e] at h1
  have hid := i (Option.some.inj h1)
  refine ⟨⟨by rw [e, h1], h2, h3, h4, by rw [money_iff]; show 0 ≤ posted ∧ posted ≤ 4611686018427387904; omega, h6, h7, h8, h11⟩, ⟨by show id.size ≤ _; omega, ⟨by have := h6.1; show hl.length ≤ _; omega, fun x hx => by have := h6' x hx; show x.Id.size ≤ _; omega⟩, ⟨by have := h7.2.1; show r.Counts.length ≤ _; omega, by have := h7.1; have := h7.2.1; show r.Sums.length ≤ _; omega⟩, by show sl.length ≤ _; omega, fun x hx => ?_⟩, fun s hs => (h9 s hs).2.2.2⟩
  obtain ⟨q1, q2, q3, _⟩ := h9 x hx
  exact ⟨by omega, by omega, by omega⟩
theorem AcctNew_val (id : ByteArray) (limit most sum b s : Int) (h1 : spec_AcctIdOk id = some true) (h2 : 0 ≤ limit ∧ limit ≤ 9007199254740992) (h3 : 0 ≤ most ∧ most ≤ 1000) (h4 : 0 ≤ sum ∧ sum ≤ 9007199254740992) (hb : 1 ≤ b) (hb2 : b ≤ 8) (hs : 1 ≤ s) (hs2 : s ≤ 1000) :
    ∃ r, spec_AcctNew id limit most sum b s = some (Acct.mk id limit 0 most sum [] r [], true) := by
  obtain ⟨v, hv⟩ := RingNew_val b s hb hb2 hs hs2
  obtain ⟨hp, hz, _⟩ := acctD_mk id limit 0 most sum [] _ [] h1 h2 h3 h4 (by omega) ⟨by decide, fun x hx => (by cases hx), List.Pairwise.nil⟩ (fun x hx => by cases hx) hv rfl (fun x hx => by cases hx) (by decide) (by simp only [sumA]; omega)
  obtain ⟨b1, e1, _, i1⟩ := AcctOk_iff _ hz
  have := i1.2 hp
  subst this
  unfold spec_AcctNew
  rw [v, Option.bind_some]
  simp only [if_true, e1, Option.bind_some]
  exact ⟨_, rfl⟩
theorem l09Draw_tot (c : l01Cur) (id : ByteArray) (h : cur c) (hid : spec_AcctIdOk id = some true) : ∃ a c', spec_l09Draw c id = some (a, c') ∧ cur c' ∧ acctD a ∧ a.Id = id := by
  obtain ⟨r1, c1, e1, k1, m1⟩ := Pick_tot c [100, 200, 60, 0, 9007199254740992] h (by decide) (by decide)
  obtain ⟨r2, c2, e2, k2, m2⟩ := Pick_tot c1 [2, 3, 5, 1000] k1 (by decide) (by decide)
  obtain ⟨r3, c3, e3, k3, m3⟩ := Pick_tot c2 [60, 120, 1000, 9007199254740992] k2 (by decide) (by decide)
  obtain ⟨r4, c4, e4, k4, a4, b4⟩ := Below_tot c3 4 k3
  obtain ⟨r5, c5, e5, k5, a5, b5⟩ := Below_tot c4 5 k4
  have b4 := b4 (by omega)
  have b5 := b5 (by omega)
  have i4 : i64 (1 + r4) = 1 + r4 := i64_of (by omega) (by omega)
  have i5 : i64 (1 + r5) = 1 + r5 := i64_of (by omega) (by omega)
  simp only [List.mem_cons, List.not_mem_nil, or_false] at m1 m2 m3
  have hl : 0 ≤ r1 ∧ r1 ≤ 9007199254740992 := by omega
  have hm : 0 ≤ r2 ∧ r2 ≤ 1000 := by omega
  have hs : 0 ≤ r3 ∧ r3 ≤ 9007199254740992 := by omega
  clear m1 m2 m3
  obtain ⟨rg, e6⟩ := AcctNew_val id r1 r2 r3 (1 + r4) (1 + r5) hid hl hm hs (by omega) (by omega) (by omega) (by omega)
  obtain ⟨ring, c7, e7, k7, hring⟩ := l06Draw_tot c5 k5
  obtain ⟨hl8, c8, e8, k8, hh8, hi8⟩ := l07Draw_tot c7 k7
  have hsum := (Stored_sum hl8 (holdsP_amt hh8) (by have := hh8.1; omega)).1
  have hsum0 := (Stored_sum [] (fun x hx => by cases hx) (by decide)).1
  have hr8 := sumA_rng _ (holdsP_amt hh8)
  have hlen8 := hh8.1
  have e10 : spec_AddSat (sumA hl8) 0 = some (sumA hl8) := by rw [(AddSat_val _ _).1, satAdd_in hr8.1 (by omega) (by omega)]; congr 1; omega
  have good : ∀ (p : Int) (l : List Hold) (sl : List Slot), 0 ≤ p → holdsP l → id2 l → p + sumA l ≤ r1 → spec_SlotsOk sl = some true → (∀ s ∈ sl, slotD s) → sl.length ≤ 6 → acctD (Acct.mk id r1 p r2 r3 l ring sl) := fun p l sl hp hh hi hle s1 s2 s3 => acctD_mk id r1 p r2 r3 l ring sl hid hl hm hs hp hh hi hring s1 s2 s3 hle
  have slots : ∀ (c : l01Cur) (p : Int) (l : List Hold), cur c → 0 ≤ p → holdsP l → id2 l → p + sumA l ≤ r1 → ∃ a c', ((spec_l01Once c 3).bind fun r15 => if r15.1 = true then (spec_l08Draw r15.2).bind fun r16 => some (Acct.mk id r1 p r2 r3 l ring r16.1, r16.2) else some (Acct.mk id r1 p r2 r3 l ring [], r15.2)) = some (a, c') ∧ cur c' ∧ acctD a ∧ a.Id = id := fun c p l hc hp hh hi hle => by
    obtain ⟨b, c', e, k⟩ := Once_tot c 3 hc
    rw [e, Option.bind_some]
    cases b with
    | true =>
      obtain ⟨sl, c2, e2, k2, s1, s2, s3⟩ := l08Draw_tot c' k
      simp only [if_true, e2, Option.bind_some]
      exact ⟨_, _, rfl, k2, good p l sl hp hh hi hle s1 s2 s3, rfl⟩
    | false =>
      simp only [Bool.false_eq_true, if_false]
      exact ⟨_, _, rfl, k, good p l [] hp hh hi hle rfl (fun s hs => by cases hs) (by decide), rfl⟩
  have post : ∀ (c : l01Cur) (l : List Hold), cur c → holdsP l → id2 l → sumA l ≤ r1 → spec_Stored l = some (sumA l) → ∃ a c', ((spec_Stored l).bind fun r11 => if (decide (r11 < r1)) = true then (spec_l01Once c 2).bind fun r12 => if r12.1 = true then (spec_Stored l).bind fun r13 => (spec_l01Below r12.2 (i64 ((i64 (r1 - r13)) + 1))).bind fun r14 =>
        (spec_l01Once r14.2 3).bind fun r15 => if r15.1 = true then (spec_l08Draw r15.2).bind fun r16 => some (Acct.mk id r1 r14.1 r2 r3 l ring r16.1, r16.2) else some (Acct.mk id r1 r14.1 r2 r3 l ring [], r15.2)
      else (spec_l01Once r12.2 3).bind fun r17 => if r17.1 = true then (spec_l08Draw r17.2).bind fun r18 => some (Acct.mk id r1 0 r2 r3 l ring r18.1, r18.2) else some (Acct.mk id r1 0 r2 r3 l ring [], r17.2)
      else (spec_l01Once c 3).bind fun r19 => if r19.1 = true then (spec_l08Draw r19.2).bind fun r20 => some (Acct.mk id r1 0 r2 r3 l ring r20.1, r20.2) else some (Acct.mk id r1 0 r2 r3 l ring [], r19.2)) = some (a, c') ∧ cur c' ∧ acctD a ∧ a.Id = id := fun c l hc hh hi hle hst => by
    have hr := sumA_rng _ (holdsP_amt hh)
    simp only [hst, Option.bind_some]
    by_cases hlt : sumA l < r1
    · obtain ⟨b, c', e, k⟩ := Once_tot c 2 hc
      simp only [hlt, decide_true, if_true, e, Option.bind_some]
      cases b with
      | true =>
        have q1 : i64 (r1 - sumA l) = r1 - sumA l := i64_of (by omega) (by omega)
        have q2 : i64 (r1 - sumA l + 1) = r1 - sumA l + 1 := i64_of (by omega) (by omega)
        obtain ⟨p, c2, e2, k2, p1, p2⟩ := Below_tot c' (r1 - sumA l + 1) k
        have p2 := p2 (by omega)
        simp only [if_true, q1, q2, e2, Option.bind_some]
        exact slots c2 p l k2 p1 hh hi (by omega)
      | false =>
        simp only [Bool.false_eq_true, if_false]
        exact slots c' 0 l k (by omega) hh hi (by omega)
    · simp only [hlt, decide_false, Bool.false_eq_true, if_false]
      exact slots c 0 l hc (by omega) hh hi (by omega)
  unfold spec_l09Draw
  simp only [e1, e2, e3, e4, e5, i4, i5, e6, e7, e8, Option.bind_some]
  first
  | (rw [hsum, Option.bind_some, e10, Option.bind_some, ← hsum]
     by_cases hle : sumA hl8 ≤ r1
     · simp only [hle, decide_true, if_true]
       exact post c8 hl8 k8 hh8 hi8 hle hsum
     · simp only [hle, decide_false, Bool.false_eq_true, if_false]
       exact post c8 [] k8 ⟨by decide, fun x hx => (by cases hx), List.Pairwise.nil⟩ (fun x hx => by cases hx) (by simp only [sumA]; omega) hsum0)
  | (have j0 : ∃ l, spec_l09Draw_c0 (Acct.mk id r1 0 r2 r3 [] rg [], true) (ring, c7) (hl8, c8) = some l ∧ holdsP l ∧ id2 l ∧ sumA l ≤ r1 ∧ spec_Stored l = some (sumA l) := by
       unfold spec_l09Draw_c0
       simp only [hsum, Option.bind_some, e10]
       by_cases hle : sumA hl8 ≤ r1
       · simp only [hle, decide_true, if_true]
         exact ⟨hl8, rfl, hh8, hi8, hle, hsum⟩
       · simp only [hle, decide_false, Bool.false_eq_true, if_false]
         exact ⟨[], rfl, ⟨by decide, fun x hx => (by cases hx), List.Pairwise.nil⟩, (fun x hx => by cases hx), (by simp only [sumA]; omega), hsum0⟩
     obtain ⟨l, q0, hh, hi, hle, hst⟩ := j0
     have hr := sumA_rng _ (holdsP_amt hh)
     have j1 : ∃ c' p, spec_l09Draw_c1 (Acct.mk id r1 0 r2 r3 [] rg [], true) (ring, c7) (hl8, c8) l = some (l01Cur.b c', l01Cur.i c', l01Cur.h c', p) ∧ cur c' ∧ 0 ≤ p ∧ p + sumA l ≤ r1 := by
       unfold spec_l09Draw_c1
       simp only [hst, Option.bind_some]
       by_cases hlt : sumA l < r1
       · obtain ⟨b, c', e, k⟩ := Once_tot c8 2 k8
         simp only [hlt, decide_true, if_true, e, Option.bind_some]
         cases b with
         | true =>
           have q1 : i64 (r1 - sumA l) = r1 - sumA l := i64_of (by omega) (by omega)
           have q2 : i64 (r1 - sumA l + 1) = r1 - sumA l + 1 := i64_of (by omega) (by omega)
           obtain ⟨p, c2, e2, k2, p1, p2⟩ := Below_tot c' (r1 - sumA l + 1) k
           have p2 := p2 (by omega)
           simp only [if_true, q1, q2, e2, Option.bind_some]
           exact ⟨c2, p, rfl, k2, p1, by omega⟩
         | false =>
           simp only [Bool.false_eq_true, if_false]
           exact ⟨c', 0, rfl, k, by omega, by omega⟩
       · simp only [hlt, decide_false, Bool.false_eq_true, if_false]
         exact ⟨c8, 0, rfl, k8, by omega, by omega⟩
     obtain ⟨d1, p, q1, kd, p0, ple⟩ := j1
     have j2 : ∃ c' sl, spec_l09Draw_c2 (Acct.mk id r1 0 r2 r3 [] rg [], true) (ring, c7) l (d1.b, d1.i, d1.h, p) = some (l01Cur.b c', l01Cur.i c', l01Cur.h c', sl) ∧ cur c' ∧ spec_SlotsOk sl = some true ∧ (∀ s ∈ sl, slotD s) ∧ sl.length ≤ 6 := by
       obtain ⟨b, c', e, k⟩ := Once_tot (l01Cur.mk d1.b d1.i d1.h) 3 kd
       unfold spec_l09Draw_c2
       rw [e, Option.bind_some]
       cases b with
       | true =>
         obtain ⟨sl, c2, e2, k2, s1, s2, s3⟩ := l08Draw_tot c' k
         simp only [if_true, e2, Option.bind_some]
         exact ⟨c2, sl, rfl, k2, s1, s2, s3⟩
       | false =>
         simp only [Bool.false_eq_true, if_false]
         exact ⟨c', [], rfl, k, rfl, (fun s hs => by cases hs), (by decide)⟩
     obtain ⟨d2, sl, q2, kd2, s1, s2, s3⟩ := j2
     rw [q0, Option.bind_some, q1, Option.bind_some, q2, Option.bind_some]
     exact ⟨_, _, rfl, kd2, good p l sl p0 hh hi ple s1 s2 s3, rfl⟩)
theorem acctOk_of {a : Acct} (h : acctD a) : acctOk a = true := by
  obtain ⟨b, e1, _, i⟩ := AcctOk_iff a h.2.1
  have := i.2 h.1
  subst this
  unfold acctOk
  rw [e1]; rfl
theorem acctD_wt {a : Acct} (h : acctD a) : wtAcct a ≤ 2000 := acctP_wt a h.2.1 h.1
theorem acctD_okA {a : Acct} (h : acctD a) : okA a := ⟨by have := acctD_wt h; omega, h.2.2⟩
theorem AcctOk_true {a : Acct} (h : acctD a) : impl_AcctOk a = some true := by
  rw [(AcctOk_val a (by have := acctD_wt h; omega)).2, acctOk_of h]
def insB {α : Type} (lt : α → α → Bool) (b : α) : List α → List α
  | [] => [b]
  | x :: l => if lt b x = true then b :: x :: l else x :: insB lt b l
def mgB {α : Type} (lt : α → α → Bool) (A B : List α) : List α := B.foldl (fun acc b => insB lt b acc) A
/-- A strict weak order. -/
def SwB {α : Type} (lt : α → α → Bool) : Prop := (∀ a b, lt a b = true → lt b a = false) ∧ ∀ a b c, lt a b = false → lt b c = false → lt a c = false
def SrtB {α : Type} (lt : α → α → Bool) (l : List α) : Prop := l.Pairwise fun x y => lt y x = false
theorem SwB.trans {α : Type} {lt : α → α → Bool} (h : SwB lt) {a b c : α} (h1 : lt a b = true) (h2 : lt b c = true) : lt a c = true := by
  rcases hx : lt a c with _ | _
  · have := h.2 a c b hx (h.1 _ _ h2)
    rw [h1] at this; cases this
  · rfl
theorem snoc_of {α : Type} : ∀ {l : List α}, l ≠ [] → ∃ T y, l = T ++ [y]
  | [], h => absurd rfl h
  | [x], _ => ⟨[], x, rfl⟩
  | x :: y :: l, _ => by
    obtain ⟨T, z, e⟩ := snoc_of (l := y :: l) (by simp)
    exact ⟨x :: T, z, by rw [e]; rfl⟩
theorem swB_irr {α : Type} {lt : α → α → Bool} (h : SwB lt) (a : α) : lt a a = false := by
  rcases Bool.eq_false_or_eq_true (lt a a) with hx | hx
  · have := h.1 a a hx
    rw [hx] at this; cases this
  · exact hx
theorem mem_tw {α : Type} (p : α → Bool) : ∀ {l : List α} {x : α}, x ∈ l.takeWhile p → p x = true
  | [], _, h => by simp at h
  | y :: l, x, h => by
    rw [List.takeWhile_cons] at h
    split at h
    · rcases List.mem_cons.1 h with rfl | h
      · assumption
      · exact mem_tw p h
    · simp at h
theorem mem_insB {α : Type} {lt : α → α → Bool} {a b : α} : ∀ {l : List α}, a ∈ insB lt b l ↔ a = b ∨ a ∈ l
  | [] => by simp [insB]
  | x :: l => by
    unfold insB
    split
    · simp
    · simp only [List.mem_cons, mem_insB]
      constructor
      · rintro (h | h | h)
        · exact .inr (.inl h)
        · exact .inl h
        · exact .inr (.inr h)
      · rintro (h | h | h)
        · exact .inr (.inl h)
        · exact .inl h
        · exact .inr (.inr h)
theorem len_insB {α : Type} {lt : α → α → Bool} (b : α) : ∀ l : List α, (insB lt b l).length = l.length + 1
  | [] => rfl
  | x :: l => by
    unfold insB
    split
    · simp
    · simp [len_insB b l]
theorem insB_left {α : Type} {lt : α → α → Bool} {b : α} : ∀ {X Y : List α}, (∀ y ∈ Y, lt b y = true) → insB lt b (X ++ Y) = insB lt b X ++ Y
  | [], [], _ => rfl
  | [], y :: Y, h => by simp [insB, h y (by simp)]
  | x :: X, Y, h => by
    rw [List.cons_append]
    unfold insB
    split
    · rfl
    · rw [insB_left h]; rfl
theorem insB_right {α : Type} {lt : α → α → Bool} {b : α} : ∀ {X Y : List α}, (∀ x ∈ X, lt b x = false) → insB lt b (X ++ Y) = X ++ insB lt b Y
  | [], Y, _ => rfl
  | x :: X, Y, h => by
    rw [List.cons_append]
    conv => lhs; unfold insB
    rw [if_neg (by rw [h x (by simp)]; simp), insB_right (fun z hz => h z (by simp [hz]))]
    rfl
theorem mgB_nil {α : Type} {lt : α → α → Bool} (A : List α) : mgB lt A [] = A := rfl
theorem mgB_cons {α : Type} {lt : α → α → Bool} (A : List α) (b : α) (B : List α) : mgB lt A (b :: B) = mgB lt (insB lt b A) B := rfl
theorem mgB_app {α : Type} {lt : α → α → Bool} (A B C : List α) : mgB lt A (B ++ C) = mgB lt (mgB lt A B) C := by simp [mgB]
theorem len_mgB {α : Type} {lt : α → α → Bool} : ∀ (B A : List α), (mgB lt A B).length = A.length + B.length
  | [], A => rfl
  | b :: B, A => by rw [mgB_cons, len_mgB B, len_insB]; simp; omega
theorem mem_mgB {α : Type} {lt : α → α → Bool} {a : α} : ∀ {B A : List α}, a ∈ mgB lt A B ↔ a ∈ A ∨ a ∈ B
  | [], A => by simp [mgB]
  | b :: B, A => by
    rw [mgB_cons, mem_mgB, mem_insB]
    simp only [List.mem_cons]
    constructor
    · rintro ((h | h) | h)
      · exact .inr (.inl h)
      · exact .inl h
      · exact .inr (.inr h)
    · rintro (h | h | h)
      · exact .inl (.inr h)
      · exact .inl (.inl h)
      · exact .inr h
theorem mgB_left {α : Type} {lt : α → α → Bool} : ∀ {B X Y : List α}, (∀ b ∈ B, ∀ y ∈ Y, lt b y = true) → mgB lt (X ++ Y) B = mgB lt X B ++ Y
  | [], _, _, _ => rfl
  | b :: B, X, Y, h => by rw [mgB_cons, mgB_cons, insB_left (h b (by simp)), mgB_left (fun c hc => h c (by simp [hc]))]
theorem mgB_right {α : Type} {lt : α → α → Bool} : ∀ {B X Y : List α}, (∀ b ∈ B, ∀ x ∈ X, lt b x = false) → mgB lt (X ++ Y) B = X ++ mgB lt Y B
  | [], _, _, _ => rfl
  | b :: B, X, Y, h => by rw [mgB_cons, mgB_cons, insB_right (h b (by simp)), mgB_right (fun c hc => h c (by simp [hc]))]
theorem mgB_split {α : Type} {lt : α → α → Bool} {A1 A2 B1 B2 : List α} (h1 : ∀ b ∈ B1, ∀ y ∈ A2, lt b y = true) (h2 : ∀ b ∈ B2, ∀ x ∈ A1, lt b x = false) (h3 : ∀ b ∈ B2, ∀ x ∈ B1, lt b x = false) :
    mgB lt (A1 ++ A2) (B1 ++ B2) = mgB lt A1 B1 ++ mgB lt A2 B2 := by
  rw [mgB_app, mgB_left h1, mgB_right (fun b hb x hx => (mem_mgB.1 hx).elim (h2 b hb x) (h3 b hb x))]
theorem srtB_ins {α : Type} {lt : α → α → Bool} (hs : SwB lt) (b : α) : ∀ {l : List α}, SrtB lt l → SrtB lt (insB lt b l)
  | [], _ => by simp [insB, SrtB]
  | x :: l, h => by
    have h' := List.pairwise_cons.1 h
    unfold insB
    split
    · rename_i hb
      refine List.pairwise_cons.2 ⟨fun y hy => ?_, h⟩
      rcases List.mem_cons.1 hy with rfl | hy
      · exact hs.1 _ _ hb
      · rcases hx : lt y b with _ | _
        · rfl
        · have := hs.trans hx hb
          rw [h'.1 y hy] at this; cases this
    · rename_i hb
      refine List.pairwise_cons.2 ⟨fun y hy => ?_, srtB_ins hs b h'.2⟩
      rcases mem_insB.1 hy with rfl | hy
      · simpa using hb
      · exact h'.1 y hy
theorem srtB_mg {α : Type} {lt : α → α → Bool} (hs : SwB lt) : ∀ {B A : List α}, SrtB lt A → SrtB lt (mgB lt A B)
  | [], _, h => h
  | b :: B, A, h => srtB_mg hs (B := B) (srtB_ins hs b h)
theorem insB_comm {α : Type} {lt : α → α → Bool} (hs : SwB lt) {b c : α} (h : lt b c = true) : ∀ S : List α, insB lt c (insB lt b S) = insB lt b (insB lt c S)
  | [] => by simp [insB, h, hs.1 _ _ h]
  | x :: S => by
    rcases hb : lt b x with _ | _
    · rcases hc : lt c x with _ | _
      · simp [insB, hb, hc, insB_comm hs h S]
      · have := hs.trans h hc
        rw [hb] at this; cases this
    · rcases hc : lt c x with _ | _
      · simp [insB, hb, hc, hs.1 _ _ h]
      · simp [insB, hb, hc, h, hs.1 _ _ h]
theorem mgB_ins_all {α : Type} {lt : α → α → Bool} (hs : SwB lt) {b : α} : ∀ {D A : List α}, (∀ c ∈ D, lt b c = true) → mgB lt (insB lt b A) D = insB lt b (mgB lt A D)
  | [], _, _ => rfl
  | c :: D, A, h => by rw [mgB_cons, mgB_cons, insB_comm hs (h c (by simp)), mgB_ins_all hs (fun d hd => h d (by simp [hd]))]
theorem mgB_ins {α : Type} {lt : α → α → Bool} (hs : SwB lt) {b : α} : ∀ {C A : List α}, SrtB lt C → mgB lt A (insB lt b C) = insB lt b (mgB lt A C)
  | [], _, _ => rfl
  | c :: C, A, h => by
    have h' := List.pairwise_cons.1 h
    rcases hb : lt b c with _ | _
    · have e : insB lt b (c :: C) = c :: insB lt b C := by simp [insB, hb]
      rw [e, mgB_cons, mgB_cons, mgB_ins hs h'.2]
    · have e : insB lt b (c :: C) = b :: c :: C := by simp [insB, hb]
      rw [e, mgB_cons]
      refine mgB_ins_all hs (fun d hd => ?_)
      rcases List.mem_cons.1 hd with rfl | hd
      · exact hb
      · rcases hx : lt b d with _ | _
        · have := hs.2 b d c hx (h'.1 d hd)
          rw [hb] at this; cases this
        · rfl
theorem srtB_srt {α : Type} {lt : α → α → Bool} (hs : SwB lt) (L : List α) : SrtB lt (mgB lt [] L) := srtB_mg hs (by simp [SrtB])
theorem mgB_srt {α : Type} {lt : α → α → Bool} (hs : SwB lt) (A : List α) : ∀ (n : Nat) (B : List α), B.length = n → mgB lt A (mgB lt [] B) = mgB lt A B
  | 0, [], _ => rfl
  | n + 1, B, h => by
    obtain ⟨C, b, rfl⟩ := snoc_of (l := B) (fun e => by simp [e] at h)
    rw [mgB_app, mgB_app, mgB_cons, mgB_nil, mgB_cons, mgB_nil, mgB_ins hs (srtB_srt hs C), mgB_srt hs A n C (by simp at h; omega)]
/-- Sorting a list is merging its sorted halves. -/
theorem srtB_app {α : Type} {lt : α → α → Bool} (hs : SwB lt) (A B : List α) : mgB lt [] (A ++ B) = mgB lt (mgB lt [] A) (mgB lt [] B) := by
  rw [mgB_app, mgB_srt hs _ _ B rfl]
/-- A sorted list stays. -/
theorem insB_last {α : Type} {lt : α → α → Bool} {b : α} {l : List α} (h : ∀ x ∈ l, lt b x = false) : insB lt b l = l ++ [b] := by
  have := insB_right (Y := []) h
  simpa [insB] using this
theorem mgB_sorted {α : Type} {lt : α → α → Bool} : ∀ (B A : List α), SrtB lt (A ++ B) → mgB lt A B = A ++ B
  | [], A, _ => by simp [mgB]
  | b :: B, A, h => by
    have h1 : ∀ x ∈ A, lt b x = false := fun x hx => (List.pairwise_append.1 h).2.2 x hx b (by simp)
    rw [mgB_cons, insB_last h1, mgB_sorted B (A ++ [b]) (by simpa using h)]
    simp
theorem half_val (i j : Nat) (h : i + j ≤ 9000000) : i64 (bshr .u64 (u64 (i64 ((i : Int) + (j : Int)))) 1) = (((i + j) / 2 : Nat) : Int) := by
  have e1 : i64 ((i : Int) + (j : Int)) = ((i + j : Nat) : Int) := by rw [i64_of (by omega) (by omega)]; omega
  have e2 : u64 ((i + j : Nat) : Int) = ((i + j : Nat) : Int) := by
    unfold u64 IntKind.wrap
    simp [IntKind.bits, IntKind.signed]
    omega
  have e3 : bshr .u64 ((i + j : Nat) : Int) 1 = (((i + j) / 2 : Nat) : Int) := by
    unfold bshr
    rw [show (2 : Int) ^ min (1 : Int).toNat IntKind.u64.bits = ((2 : Nat) : Int) from rfl]
    exact (Int.ofNat_fdiv _ _).symm
  rw [e1, e2, e3, i64_of (by omega) (by omega)]
theorem i64_nat (n : Nat) (h : n ≤ 9000000000000) : i64 (n : Int) = (n : Int) := i64_of (by omega) (by omega)
theorem i64_eq {x : Int} (n : Nat) (h : n ≤ 9000000000000) (e : x = (n : Int)) : i64 x = (n : Int) := by rw [e]; exact i64_nat n h
theorem nnB (n : Nat) : decide ((0 : Int) ≤ (n : Int)) = true := decide_eq_true (Int.natCast_nonneg n)
theorem get0 {α : Type} (A W : List α) (x : α) : (A ++ x :: W)[A.length]? = some x := by simp
theorem get1 {α : Type} (A W : List α) (x y : α) : (A ++ x :: y :: W)[A.length + 1]? = some y := by simp
theorem set0 {α : Type} (A W : List α) (x z : α) : (A ++ x :: W).set A.length z = A ++ z :: W := by simp
theorem set1 {α : Type} (A W : List α) (x y z : α) : (A ++ x :: y :: W).set (A.length + 1) z = A ++ x :: z :: W := by
  rw [List.set_append_right _ _ (by omega)]
  simp
theorem getB {α : Type} (A B W : List α) (x y : α) : (A ++ x :: (B ++ y :: W))[A.length + 1 + B.length]? = some y := by
  rw [List.getElem?_append_right (by omega), show A.length + 1 + B.length - A.length = B.length + 1 by omega]
  simp
theorem setB {α : Type} (A B W : List α) (x y z : α) : (A ++ x :: (B ++ y :: W)).set (A.length + 1 + B.length) z = A ++ x :: (B ++ z :: W) := by
  rw [List.set_append_right _ _ (by omega), show A.length + 1 + B.length - A.length = B.length + 1 by omega]
  simp
theorem set_get {α : Type} {l : List α} {i : Nat} {x : α} (h : l[i]? = some x) : l.set i x = l := by
  apply List.ext_getElem?
  intro j
  rw [List.getElem?_set]
  split
  · rename_i e
    subst e
    split
    · exact h.symm
    · rename_i hl
      rw [List.getElem?_eq_none (by omega)] at h
      cases h
  · rfl
/-- Where a test turns. -/
theorem turn_at (p : Nat → Bool) : ∀ (n s r : Nat), r - s = n → s ≤ r → (∀ c, s ≤ c → c + 1 < r → p c = false → p (c + 1) = false) → ∃ k, s ≤ k ∧ k ≤ r ∧ (∀ c, s ≤ c → c < k → p c = true) ∧ ∀ c, k ≤ c → c < r → p c = false
  | 0, s, r, h, hs, _ => ⟨s, Nat.le_refl _, hs, fun c h1 h2 => by omega, fun c h1 h2 => by omega⟩
  | n + 1, s, r, h, hs, hm => by
    rcases hp : p s with _ | _
    · refine ⟨s, Nat.le_refl _, hs, fun c h1 h2 => by omega, fun c h1 h2 => ?_⟩
      obtain ⟨d, rfl⟩ : ∃ d, c = s + d := ⟨c - s, by omega⟩
      clear h1
      induction d with
      | zero => exact hp
      | succ d ih => exact hm (s + d) (by omega) (by omega) (ih (by omega))
    · obtain ⟨k, k1, k2, k3, k4⟩ := turn_at p n (s + 1) r (by omega) (by omega) (fun c h1 h2 => hm c (by omega) h2)
      refine ⟨k, by omega, k2, fun c h1 h2 => ?_, k4⟩
      rcases Nat.lt_or_ge s c with h3 | h3
      · exact k3 c (by omega) h2
      · obtain rfl : c = s := by omega
        exact hp
theorem srtB_get {α : Type} {lt : α → α → Bool} {l : List α} (h : SrtB lt l) {i j : Nat} {x y : α} (hij : i < j) (hx : l[i]? = some x) (hy : l[j]? = some y) : lt y x = false := by
  obtain ⟨h1, rfl⟩ := List.getElem?_eq_some_iff.1 hx
  obtain ⟨h2, rfl⟩ := List.getElem?_eq_some_iff.1 hy
  exact List.pairwise_iff_getElem.1 h i j h1 h2 hij
theorem srtB_app_left {α : Type} {lt : α → α → Bool} {A B : List α} (h : SrtB lt (A ++ B)) : SrtB lt A := (List.pairwise_append.1 h).1
theorem srtB_app_right {α : Type} {lt : α → α → Bool} {A B : List α} (h : SrtB lt (A ++ B)) : SrtB lt B := (List.pairwise_append.1 h).2.1
theorem srtB_one {α : Type} {lt : α → α → Bool} {A B : List α} (h : A = [] ∨ B = []) (hA : SrtB lt A) (hB : SrtB lt B) : SrtB lt (A ++ B) := by
  rcases h with rfl | rfl
  · exact hB
  · rw [List.append_nil]; exact hA
/-- A list whose blocks of k are sorted. -/
inductive Bs {α : Type} (lt : α → α → Bool) (k : Nat) : List α → List α → Prop
  | last (L : List α) (h : L.length ≤ k) : Bs lt k L (mgB lt [] L)
  | cons (A L M : List α) (h : A.length = k) (r : Bs lt k L M) : Bs lt k (A ++ L) (mgB lt [] A ++ M)
theorem Bs.len {α : Type} {lt : α → α → Bool} {k : Nat} {L M : List α} (h : Bs lt k L M) : M.length = L.length := by
  induction h with
  | last L h => rw [len_mgB]; simp
  | cons A L M h r ih => rw [List.length_append, List.length_append, len_mgB, ih]; simp
theorem Bs.mem {α : Type} {lt : α → α → Bool} {k : Nat} {L M : List α} (h : Bs lt k L M) : ∀ x, x ∈ M → x ∈ L := by
  induction h with
  | last L h => intro x hx; simpa using mem_mgB.1 hx
  | cons A L M h r ih =>
    intro x hx
    rcases List.mem_append.1 hx with hx | hx
    · exact List.mem_append_left _ (by simpa using mem_mgB.1 hx)
    · exact List.mem_append_right _ (ih x hx)
theorem Bs.small {α : Type} {lt : α → α → Bool} {k : Nat} {L M : List α} (h : Bs lt k L M) (hl : L.length ≤ k) : M = mgB lt [] L := by
  cases h with
  | last => rfl
  | cons A L M h r =>
    have : L = [] := List.eq_nil_of_length_eq_zero (by simp at hl; omega)
    subst this
    have : M = [] := List.eq_nil_of_length_eq_zero (by rw [r.len]; rfl)
    subst this
    simp
theorem Bs.nil {α : Type} {lt : α → α → Bool} (k : Nat) : Bs lt k [] [] := Bs.last [] (by simp)
theorem Bs.two {α : Type} {lt : α → α → Bool} {k : Nat} {L M : List α} (h : Bs lt k L M) (hk : 1 ≤ k) (hl : 2 * k ≤ L.length) : ∃ A B L' M', L = A ++ (B ++ L') ∧ A.length = k ∧ B.length = k ∧ M = mgB lt [] A ++ (mgB lt [] B ++ M') ∧ Bs lt k L' M' := by
  cases h with
  | last L h => omega
  | cons A L M h r =>
    cases r with
    | last L h2 => exact ⟨A, L, [], [], by simp, h, by simp at hl; omega, by simp, Bs.nil k⟩
    | cons B L M h2 r => exact ⟨A, B, L, M, rfl, h, h2, rfl, r⟩
theorem Bs.one {α : Type} {lt : α → α → Bool} {k : Nat} {L M : List α} (h : Bs lt k L M) (hl : L.length < 2 * k) (hk : k < L.length) : ∃ A B, L = A ++ B ∧ A.length = k ∧ B ≠ [] ∧ B.length ≤ k ∧ M = mgB lt [] A ++ mgB lt [] B := by
  cases h with
  | last L h => omega
  | cons A L M h r =>
    simp at hl hk
    refine ⟨A, L, rfl, h, fun e => by subst e; simp at hk; omega, by omega, ?_⟩
    rw [r.small (by omega)]
def ltBA (x y : Acct) : Bool := Op.bytesLess x.Id.toList y.Id.toList
def qBA (x : Acct) : Prop := True
theorem cmp_valA (x y : Acct) (_ : qBA x) (_ : qBA y) : ∃ c, impl_Gather_1 x y = some c ∧ decide (c < 0) = ltBA x y := by
  unfold impl_Gather_1 ltBA
  rcases tf (Op.bytesLess x.Id.toList y.Id.toList) with h | h
  · exact ⟨-1, by simp [h], by simp [h]⟩
  · rcases tf (x.Id == y.Id) with h2 | h2
    · exact ⟨0, by simp [h, h2], by simp [h]⟩
    · exact ⟨1, by simp [h, h2], by simp [h]⟩
theorem bytesLess_neg : ∀ a b c : List UInt8, Op.bytesLess a b = false → Op.bytesLess b c = false → Op.bytesLess a c = false
  | [], [], c, _, h => h
  | [], _ :: _, _, h, _ => by simp [Op.bytesLess] at h
  | _ :: _, [], [], _, _ => rfl
  | _ :: _, [], _ :: _, _, h => by simp [Op.bytesLess] at h
  | _ :: _, _ :: _, [], _, _ => rfl
  | x :: a, y :: b, z :: c, h1, h2 => by
    unfold Op.bytesLess at h1 h2 ⊢
    simp only [Bool.or_eq_false_iff, decide_eq_false_iff_not, Bool.and_eq_false_iff, beq_eq_false_iff_ne] at h1 h2 ⊢
    obtain ⟨p1, p2⟩ := h1
    obtain ⟨q1, q2⟩ := h2
    have p1' := mt UInt8.lt_iff_toNat_lt.2 p1
    have q1' := mt UInt8.lt_iff_toNat_lt.2 q1
    refine ⟨fun h => by have := UInt8.lt_iff_toNat_lt.1 h; omega, ?_⟩
    by_cases e : x = z
    · subst e
      have exy : x = y := UInt8.toNat_inj.1 (by omega)
      subst exy
      exact .inr (bytesLess_neg a b c (p2.resolve_left (fun h => h rfl)) (q2.resolve_left (fun h => h rfl)))
    · exact .inl e
theorem swBA : SwB ltBA := ⟨fun a b h => by unfold ltBA at h ⊢; rw [bytesLess_flip a.Id.toList b.Id.toList, h]; rfl, fun a b c h1 h2 => bytesLess_neg _ _ _ h1 h2⟩
theorem ins_l1_valA (a b v1 : Int) (P R : List Acct) (x : Acct) (hqx : qBA x) (ha : a = (P.length : Int)) : ∀ (n : Nat) (S1 S2 : List Acct) (fuel : Nat), S1.length = n → n < fuel → SrtB (ltBA ) (S1 ++ S2) → (∀ s ∈ S2, ltBA x s = true) → (∀ s ∈ S1, qBA s) → P.length + n ≤ 4000000 →
    slices_insertionSortCmpFunc_impl_Acct_impl_Gather_1_l1 a b  v1 fuel ((P.length + n : Nat) : Int) (P ++ (S1 ++ (x :: (S2 ++ R)))) = some (P ++ (insB (ltBA ) x (S1 ++ S2) ++ R))
  | 0, S1, S2, fuel + 1, hn, hf, hs, h2, hq, hl => by
    have : S1 = [] := List.eq_nil_of_length_eq_zero hn
    subst this
    unfold slices_insertionSortCmpFunc_impl_Acct_impl_Gather_1_l1
    rw [if_neg (by simp [ha])]
    cases S2 with
    | nil => rfl
    | cons s S2 => simp [insB, h2 s (by simp)]
  | n + 1, S1, S2, fuel + 1, hn, hf, hs, h2, hq, hl => by
    obtain ⟨T, y, rfl⟩ := snoc_of (l := S1) (fun e => by simp [e] at hn)
    have hT : T.length = n := by simpa using hn
    have hPT : (P ++ T).length = P.length + n := by simp [hT]
    have hd : P ++ ((T ++ [y]) ++ (x :: (S2 ++ R))) = (P ++ T) ++ y :: x :: (S2 ++ R) := by simp
    have g1 : ((P ++ T) ++ y :: x :: (S2 ++ R))[P.length + (n + 1)]? = some x := by
      have := get1 (P ++ T) (S2 ++ R) y x
      rwa [hPT] at this
    have g0 : ((P ++ T) ++ y :: x :: (S2 ++ R))[P.length + n]? = some y := by
      have := get0 (P ++ T) (x :: (S2 ++ R)) y
      rwa [hPT] at this
    have e1 : i64 (((P.length + (n + 1) : Nat) : Int) - 1) = ((P.length + n : Nat) : Int) := i64_eq _ (by omega) (by omega)
    obtain ⟨c, c1, c2⟩ := cmp_valA x y hqx (hq y (by simp))
    rw [hd]
    unfold slices_insertionSortCmpFunc_impl_Acct_impl_Gather_1_l1
    rw [if_pos (by simp [ha]; omega), if_pos (nnB _), Int.toNat_natCast, g1, Option.bind_some, e1, if_pos (nnB _), Int.toNat_natCast, g0, Option.bind_some]
    rcases tf (ltBA x y) with h | h
    · have s1 : (((P ++ T) ++ y :: x :: (S2 ++ R)).set (P.length + (n + 1)) y).set (P.length + n) x = P ++ (T ++ (x :: ((y :: S2) ++ R))) := by
        have a1 := set1 (P ++ T) (S2 ++ R) y x y
        have a2 := set0 (P ++ T) (y :: (S2 ++ R)) y x
        rw [hPT] at a1 a2
        rw [show P.length + (n + 1) = P.length + n + 1 by omega, a1, a2]
        simp
      have ih := ins_l1_valA a b v1 P R x hqx ha n T (y :: S2) fuel hT (by omega) (by simpa using hs) (fun s hs2 => by
        rcases List.mem_cons.1 hs2 with rfl | hs2
        · exact h
        · exact h2 s hs2) (fun s hs2 => hq s (by simp [hs2])) (by omega)
      rw [if_pos (by simp)]
      rw [c1, Option.bind_some, c2, h, if_pos rfl, s1, ih, List.append_assoc]
      rfl
    · rw [if_pos (by simp)]
      rw [c1, Option.bind_some, c2, h, if_neg (by simp)]
      rw [set_get g1, set_get g0]
      have hb : ∀ t ∈ T ++ [y], ltBA x t = false := fun t ht => by
        rcases List.mem_append.1 ht with ht | ht
        · have h3 := (List.pairwise_append.1 (srtB_app_left hs)).2.2 t ht y (by simp)
          exact (swBA ).2 x y t h h3
        · simp at ht
          subst ht
          exact h
      rw [insB_right hb, ← hd]
      congr 1
      simp only [List.append_assoc]
      cases S2 with
      | nil => rfl
      | cons s S2 => simp [insB, h2 s (by simp)]
theorem ins_l0_valA (a b : Int) (P R : List Acct) (ha : a = (P.length : Int)) : ∀ (T S : List Acct) (fuel : Nat), T.length < fuel → SrtB (ltBA ) S → (∀ s ∈ S, qBA s) → (∀ s ∈ T, qBA s) → P.length + S.length + T.length ≤ 4000000 → b = ((P.length + S.length + T.length : Nat) : Int) →
    slices_insertionSortCmpFunc_impl_Acct_impl_Gather_1_l0 a b  fuel ((P.length + S.length : Nat) : Int) (P ++ (S ++ (T ++ R))) = some (P ++ (mgB (ltBA ) S T ++ R))
  | [], S, fuel + 1, hf, hs, hq, hq2, hl, hb => by
    unfold slices_insertionSortCmpFunc_impl_Acct_impl_Gather_1_l0
    rw [if_neg (by simp at hb; simp [hb])]
    rfl
  | x :: T, S, fuel + 1, hf, hs, hq, hq2, hl, hb => by
    simp only [List.length_cons] at hl hb hf
    have h1 := ins_l1_valA a b ((P.length + S.length : Nat) : Int) P (T ++ R) x (hq2 x (by simp)) ha S.length S [] FUEL rfl (by unfold FUEL; omega) (by simpa using hs) (by simp) hq (by omega)
    have ih := ins_l0_valA a b P R ha T (insB (ltBA ) x S) fuel (by omega) (srtB_ins (swBA ) x hs) (fun s hs => (mem_insB.1 hs).elim (fun e => e ▸ hq2 x (by simp)) (hq s)) (fun s hs => hq2 s (by simp [hs])) (by rw [len_insB]; omega) (by rw [len_insB]; omega)
    simp only [List.nil_append, List.append_nil] at h1
    have e1 : i64 (((P.length + S.length : Nat) : Int) + 1) = ((P.length + (insB (ltBA ) x S).length : Nat) : Int) := by rw [len_insB]; exact i64_eq _ (by omega) (by omega)
    unfold slices_insertionSortCmpFunc_impl_Acct_impl_Gather_1_l0
    rw [if_pos (by rw [hb]; simp; omega), List.cons_append, h1, Option.bind_some, e1, ih]
    rfl
theorem ins_valA (P T R : List Acct) (hq : ∀ s ∈ T, qBA s) (hl : P.length + T.length ≤ 4000000) (a b : Int) (ha : a = (P.length : Int)) (hb : b = ((P.length + T.length : Nat) : Int)) : slices_insertionSortCmpFunc_impl_Acct_impl_Gather_1 (P ++ (T ++ R)) a b  = some (P ++ (mgB (ltBA ) [] T ++ R)) := by
  unfold slices_insertionSortCmpFunc_impl_Acct_impl_Gather_1
  cases T with
  | nil =>
    have e1 : i64 (a + 1) = ((P.length + 1 : Nat) : Int) := i64_eq _ (by omega) (by omega)
    rw [e1]
    have : FUEL = 4194303 + 1 := rfl
    rw [this]
    unfold slices_insertionSortCmpFunc_impl_Acct_impl_Gather_1_l0
    rw [if_neg (by rw [hb]; simp; omega)]
    rfl
  | cons x T =>
    simp only [List.length_cons] at hl hb
    have := ins_l0_valA a b P R ha T [x] FUEL (by unfold FUEL; omega) (by simp [SrtB]) (fun s hs => by simp at hs; subst hs; exact hq s (by simp)) (fun s hs => hq s (by simp [hs])) (by simp <;> omega) (by simp <;> omega)
    have e1 : i64 (a + 1) = ((P.length + [x].length : Nat) : Int) := i64_eq _ (by simp <;> omega) (by simp <;> omega)
    rw [e1]
    simp only [List.cons_append, List.nil_append] at this ⊢
    rw [this]
    rfl
theorem swr_l0_valA (a b n : Int) (P M R : List Acct) : ∀ (U2 V2 U1 V1 : List Acct) (fuel : Nat), U2.length = V2.length → U1.length = V1.length → U2.length < fuel → P.length + M.length + U1.length + U2.length + V1.length + V2.length ≤ 4000000 → a = (P.length : Int) → b = ((P.length + (U1.length + U2.length) + M.length : Nat) : Int) → n = ((U1.length + U2.length : Nat) : Int) →
    slices_swapRangeCmpFunc_impl_Acct_impl_Gather_1_l0 a b n fuel (U1.length : Int) (P ++ (V1 ++ (U2 ++ (M ++ (U1 ++ (V2 ++ R)))))) = some (P ++ (V1 ++ (V2 ++ (M ++ (U1 ++ (U2 ++ R))))))
  | [], V2, U1, V1, fuel + 1, h1, h2, hf, hl, ha, hb, hn => by
    have : V2 = [] := List.eq_nil_of_length_eq_zero h1.symm
    subst this
    unfold slices_swapRangeCmpFunc_impl_Acct_impl_Gather_1_l0
    rw [if_neg (by simp [hn])]
  | u :: U2, [], U1, V1, fuel + 1, h1, _, _, _, _, _, _ => by simp at h1
  | u :: U2, v :: V2, U1, V1, fuel + 1, h1, h2, hf, hl, ha, hb, hn => by
    simp only [List.length_cons] at h1 hf hl hb hn
    have ea : i64 (a + (U1.length : Int)) = (((P ++ V1).length : Nat) : Int) := i64_eq _ (by simp <;> omega) (by simp <;> omega)
    have eb : i64 (b + (U1.length : Int)) = (((P ++ V1).length + 1 + (U2 ++ (M ++ U1)).length : Nat) : Int) := i64_eq _ (by simp <;> omega) (by simp <;> omega)
    have hd : P ++ (V1 ++ ((u :: U2) ++ (M ++ (U1 ++ ((v :: V2) ++ R))))) = (P ++ V1) ++ u :: ((U2 ++ (M ++ U1)) ++ v :: (V2 ++ R)) := by simp
    have hd2 : (P ++ V1) ++ v :: ((U2 ++ (M ++ U1)) ++ u :: (V2 ++ R)) = P ++ ((V1 ++ [v]) ++ (U2 ++ (M ++ ((U1 ++ [u]) ++ (V2 ++ R))))) := by simp
    have ih := swr_l0_valA a b n P M R U2 V2 (U1 ++ [u]) (V1 ++ [v]) fuel (by omega) (by simp <;> omega) (by omega) (by simp <;> omega) ha (by rw [hb]; simp; omega) (by rw [hn]; simp; omega)
    have ei : i64 ((U1.length : Int) + 1) = ((U1 ++ [u]).length : Int) := i64_eq _ (by simp <;> omega) (by simp)
    have g2 := getB (P ++ V1) (U2 ++ (M ++ U1)) (V2 ++ R) u v
    have g1 := get0 (P ++ V1) ((U2 ++ (M ++ U1)) ++ v :: (V2 ++ R)) u
    have s1 := set0 (P ++ V1) ((U2 ++ (M ++ U1)) ++ v :: (V2 ++ R)) u v
    have s2 := setB (P ++ V1) (U2 ++ (M ++ U1)) (V2 ++ R) v v u
    rw [hd]
    unfold slices_swapRangeCmpFunc_impl_Acct_impl_Gather_1_l0
    rw [if_pos (by rw [hn]; simp; omega), ea, eb, if_pos (nnB _), Int.toNat_natCast, g2, Option.bind_some, if_pos (nnB _), Int.toNat_natCast, g1, Option.bind_some, if_pos (by simp; omega), s1, s2, ei, hd2, ih]
    simp
theorem swr_valA (P U M V R : List Acct) (hu : U.length = V.length) (hl : P.length + U.length + M.length + V.length ≤ 4000000) (a b n : Int) (ha : a = (P.length : Int)) (hb : b = ((P.length + U.length + M.length : Nat) : Int)) (hn : n = (U.length : Int)) :
    slices_swapRangeCmpFunc_impl_Acct_impl_Gather_1 (P ++ (U ++ (M ++ (V ++ R)))) a b n  = some (P ++ (V ++ (M ++ (U ++ R)))) := by
  have := swr_l0_valA a b n P M R U V [] [] FUEL hu rfl (by unfold FUEL; omega) (by simp <;> omega) ha (by simpa using hb) (by simpa using hn)
  unfold slices_swapRangeCmpFunc_impl_Acct_impl_Gather_1
  simp only [List.nil_append, List.length_nil] at this
  rw [show (0 : Int) = ((0 : Nat) : Int) from rfl, this]
  rfl
theorem rot_l0_valA (m : Int) : ∀ (k : Nat) (P A B R : List Acct) (fuel : Nat), A.length + B.length ≤ k → k < fuel → A ≠ [] → B ≠ [] → P.length + A.length + B.length ≤ 2000000 → m = ((P.length + A.length : Nat) : Int) →
    ∃ (P' A' B' R' : List Acct), slices_rotateCmpFunc_impl_Acct_impl_Gather_1_l0 m  fuel (A.length : Int) (B.length : Int) (P ++ (A ++ (B ++ R))) = some ((A'.length : Int), P' ++ (A' ++ (B' ++ R'))) ∧ A'.length = B'.length ∧ P'.length + A'.length = P.length + A.length ∧ P'.length + A'.length + B'.length ≤ 2000000 ∧ P' ++ (B' ++ (A' ++ R')) = P ++ (B ++ (A ++ R))
  | 0, P, A, B, R, fuel, hk, hf, hA, hB, hl, hm => by
    exact absurd (List.eq_nil_of_length_eq_zero (by omega)) hA
  | k + 1, P, A, B, R, fuel + 1, hk, hf, hA, hB, hl, hm => by
    have pA : 0 < A.length := List.length_pos_iff.2 hA
    have pB : 0 < B.length := List.length_pos_iff.2 hB
    unfold slices_rotateCmpFunc_impl_Acct_impl_Gather_1_l0
    rcases Nat.lt_trichotomy A.length B.length with h | h | h
    · obtain ⟨B1, B2, rfl, hb2⟩ : ∃ B1 B2, B = B1 ++ B2 ∧ B2.length = A.length := ⟨B.take (B.length - A.length), B.drop (B.length - A.length), (List.take_append_drop _ _).symm, by simp; omega⟩
      simp only [List.length_append] at hk hl h pB
      have e1 : i64 (m - (A.length : Int)) = (P.length : Int) := i64_eq _ (by omega) (by omega)
      have e2 : i64 (i64 (m + ((B1 ++ B2).length : Int)) - (A.length : Int)) = ((P.length + A.length + B1.length : Nat) : Int) := by
        rw [i64_eq (x := m + ((B1 ++ B2).length : Int)) (P.length + A.length + B1.length + B2.length) (by omega) (by simp <;> omega)]
        exact i64_eq _ (by omega) (by omega)
      have e3 : i64 (((B1 ++ B2).length : Int) - (A.length : Int)) = (B1.length : Int) := i64_eq _ (by omega) (by simp <;> omega)
      have sw := swr_valA P A B1 B2 R (by omega) (by omega) (P.length : Int) _ (A.length : Int) rfl rfl rfl
      have hB1 : B1 ≠ [] := fun e => by simp [e] at h; omega
      obtain ⟨P', A', B', R', q1, q2, q3, q4, q5⟩ := rot_l0_valA m k P B2 B1 (A ++ R) fuel (by omega) (by omega) (fun e => by simp [e] at hb2; omega) hB1 (by omega) (by omega)
      refine ⟨P', A', B', R', ?_, q2, by omega, q4, by rw [q5]; simp⟩
      rw [if_pos (by simp <;> omega), if_neg (by simp <;> omega), e1, e2, e3, List.append_assoc B1, sw, Option.bind_some]
      rw [hb2] at q1
      exact q1
    · refine ⟨P, A, B, R, ?_, h, rfl, by omega, rfl⟩
      rw [if_neg (by simp [h])]
    · obtain ⟨A1, A2, rfl, ha1⟩ : ∃ A1 A2, A = A1 ++ A2 ∧ A1.length = B.length := ⟨A.take B.length, A.drop B.length, (List.take_append_drop _ _).symm, by simp; omega⟩
      simp only [List.length_append] at hk hl h hm pA
      have e1 : i64 (m - ((A1 ++ A2).length : Int)) = (P.length : Int) := i64_eq _ (by omega) (by simp <;> omega)
      have e3 : i64 (((A1 ++ A2).length : Int) - (B.length : Int)) = (A2.length : Int) := i64_eq _ (by omega) (by simp <;> omega)
      have sw := swr_valA P A1 A2 B R (by omega) (by omega) (P.length : Int) m (B.length : Int) rfl (by omega) (by omega)
      have hA2 : A2 ≠ [] := fun e => by simp [e] at h; omega
      obtain ⟨P', A', B', R', q1, q2, q3, q4, q5⟩ := rot_l0_valA m k (P ++ B) A2 A1 R fuel (by omega) (by omega) hA2 (fun e => by simp [e] at ha1; omega) (by simp <;> omega) (by simp <;> omega)
      refine ⟨P', A', B', R', ?_, q2, by simp at q3 ⊢; omega, q4, by rw [q5]; simp⟩
      rw [if_pos (by simp <;> omega), if_pos (by simp <;> omega), e1, e3, List.append_assoc A1, sw, Option.bind_some]
      rw [ha1, List.append_assoc] at q1
      exact q1
theorem rot_valA (P A B R : List Acct) (hA : A ≠ []) (hB : B ≠ []) (hl : P.length + A.length + B.length ≤ 2000000) (a m b : Int) (ha : a = (P.length : Int)) (hm : m = ((P.length + A.length : Nat) : Int)) (hb : b = ((P.length + A.length + B.length : Nat) : Int)) :
    slices_rotateCmpFunc_impl_Acct_impl_Gather_1 (P ++ (A ++ (B ++ R))) a m b  = some (P ++ (B ++ (A ++ R))) := by
  obtain ⟨P', A', B', R', q1, q2, q3, q4, q5⟩ := rot_l0_valA m (A.length + B.length) P A B R FUEL (Nat.le_refl _) (by unfold FUEL; omega) hA hB hl hm
  have e1 : i64 (m - a) = (A.length : Int) := i64_eq _ (by omega) (by omega)
  have e2 : i64 (b - m) = (B.length : Int) := i64_eq _ (by omega) (by omega)
  have e3 : i64 (m - (A'.length : Int)) = (P'.length : Int) := i64_eq _ (by omega) (by omega)
  have sw := swr_valA P' A' [] B' R' q2 (by simp <;> omega) (P'.length : Int) m (A'.length : Int) rfl (by simp <;> omega) rfl
  unfold slices_rotateCmpFunc_impl_Acct_impl_Gather_1
  simp only [List.nil_append] at sw
  rw [e1, e2, q1, Option.bind_some, e3, sw, Option.bind_some, q5]
theorem bs0_valA (d : List Acct) (x : Acct) (a : Nat) (ha : d[a]? = some x) (hq : ∀ s ∈ d, qBA s) (hl : d.length ≤ 4000000) (k : Nat) : ∀ (n i j fuel : Nat), j - i ≤ n → n < fuel → i ≤ k → k ≤ j → j ≤ d.length → (∀ h, i ≤ h → h < j → ¬ a = h) → (∀ h y, i ≤ h → h < k → d[h]? = some y → ltBA y x = true) → (∀ h y, k ≤ h → h < j → d[h]? = some y → ltBA y x = false) →
    slices_symMergeCmpFunc_impl_Acct_impl_Gather_1_l0  (a : Int)  fuel (i : Int) (j : Int) d = some ((k : Int), d)
  | n, i, j, 0, _, hf, _, _, _, _, _, _ => by omega
  | n, i, j, fuel + 1, hn, hf, hi, hj, hjl, hne, h1, h2 => by
    unfold slices_symMergeCmpFunc_impl_Acct_impl_Gather_1_l0 slices_symMergeCmpFunc_impl_Acct_impl_Gather_1_c2
    rcases Nat.lt_or_ge i j with hij | hij
    · have eh := half_val i j (by omega)
      generalize hh : (i + j) / 2 = h at eh
      obtain ⟨y, hy⟩ : ∃ y, d[h]? = some y := ⟨d[h]'(by omega), List.getElem?_eq_getElem (by omega)⟩
      obtain ⟨c, c1, c2⟩ := cmp_valA y x (hq y (List.mem_of_getElem? hy)) (hq x (List.mem_of_getElem? ha))
      have hne1 := hne h (by omega) (by omega)
      have e1 : i64 ((h : Int) + 1) = ((h + 1 : Nat) : Int) := i64_eq _ (by omega) (by omega)
      rw [if_pos (by simp <;> omega)]
      simp only [Option.bind_some, Lo.elim, eh, nnB, if_true, Int.toNat_natCast, hy, ha, hne1, not_false_eq_true, decide_true, c1, c2, e1, set_get hy, set_get ha]
      rcases Nat.lt_or_ge h k with hk | hk
      · rw [h1 h y (by omega) hk hy, if_pos rfl]
        exact bs0_valA d x a ha hq hl k (n - 1) (h + 1) j fuel (by omega) (by omega) (by omega) hj hjl (fun q z1 z2 => hne q (by omega) z2) (fun q z z1 z2 => h1 q z (by omega) z2) h2
      · rw [h2 h y hk (by omega) hy, if_neg (by simp)]
        exact bs0_valA d x a ha hq hl k (n - 1) i h fuel (by omega) (by omega) hi hk (by omega) (fun q z1 z2 => hne q z1 (by omega)) h1 (fun q z z1 z2 => h2 q z z1 (by omega))
    · rw [if_neg (by simp <;> omega)]
      obtain rfl : i = k := by omega
      rfl
theorem bs2_valA (d : List Acct) (y : Acct) (m : Nat) (hm : d[m]? = some y) (hq : ∀ s ∈ d, qBA s) (hl : d.length ≤ 4000000) (k : Nat) : ∀ (n i j fuel : Nat), j - i ≤ n → n < fuel → i ≤ k → k ≤ j → j ≤ d.length → (∀ h, i ≤ h → h < j → ¬ h = m) → (∀ h x, i ≤ h → h < k → d[h]? = some x → ltBA y x = false) → (∀ h x, k ≤ h → h < j → d[h]? = some x → ltBA y x = true) →
    slices_symMergeCmpFunc_impl_Acct_impl_Gather_1_l2  (m : Int)  fuel (i : Int) (j : Int) d = some ((k : Int), d)
  | n, i, j, 0, _, hf, _, _, _, _, _, _ => by omega
  | n, i, j, fuel + 1, hn, hf, hi, hj, hjl, hne, h1, h2 => by
    unfold slices_symMergeCmpFunc_impl_Acct_impl_Gather_1_l2 slices_symMergeCmpFunc_impl_Acct_impl_Gather_1_c7
    rcases Nat.lt_or_ge i j with hij | hij
    · have eh := half_val i j (by omega)
      generalize hh : (i + j) / 2 = h at eh
      obtain ⟨x, hx⟩ : ∃ x, d[h]? = some x := ⟨d[h]'(by omega), List.getElem?_eq_getElem (by omega)⟩
      obtain ⟨c, c1, c2⟩ := cmp_valA y x (hq y (List.mem_of_getElem? hm)) (hq x (List.mem_of_getElem? hx))
      have hne1 := hne h (by omega) (by omega)
      have e1 : i64 ((h : Int) + 1) = ((h + 1 : Nat) : Int) := i64_eq _ (by omega) (by omega)
      rw [if_pos (by simp <;> omega)]
      simp only [Option.bind_some, Lo.elim, eh, nnB, if_true, Int.toNat_natCast, hx, hm, hne1, not_false_eq_true, decide_true, c1, c2, e1, set_get hm, set_get hx]
      rcases Nat.lt_or_ge h k with hk | hk
      · rw [h1 h x (by omega) hk hx, if_neg (by simp)]
        exact bs2_valA d y m hm hq hl k (n - 1) (h + 1) j fuel (by omega) (by omega) (by omega) hj hjl (fun q z1 z2 => hne q (by omega) z2) (fun q z z1 z2 => h1 q z (by omega) z2) h2
      · rw [h2 h x hk (by omega) hx, if_pos rfl]
        exact bs2_valA d y m hm hq hl k (n - 1) i h fuel (by omega) (by omega) hi hk (by omega) (fun q z1 z2 => hne q z1 (by omega)) h1 (fun q z z1 z2 => h2 q z z1 (by omega))
    · rw [if_neg (by simp <;> omega)]
      obtain rfl : i = k := by omega
      rfl
theorem bs4_valA (d : List Acct) (a m b : Nat) (hq : ∀ s ∈ d, qBA s) (hl : d.length ≤ 4000000) (hab : a + b ≤ 8000000) (hm : m ≤ 4000000) (k : Nat) : ∀ (n i j fuel : Nat), j - i ≤ n → n < fuel → i ≤ k → k ≤ j → j ≤ d.length → (∀ c, i ≤ c → c < j → c + 1 ≤ (a + b) / 2 + m ∧ (a + b) / 2 + m - 1 - c < d.length ∧ ¬ c = (a + b) / 2 + m - 1 - c) →
    (∀ c x y, i ≤ c → c < k → d[c]? = some x → d[(a + b) / 2 + m - 1 - c]? = some y → ltBA y x = false) → (∀ c x y, k ≤ c → c < j → d[c]? = some x → d[(a + b) / 2 + m - 1 - c]? = some y → ltBA y x = true) →
    slices_symMergeCmpFunc_impl_Acct_impl_Gather_1_l4  (a : Int) (m : Int) (b : Int)  fuel (i : Int) (j : Int) d = some ((k : Int), d)
  | n, i, j, 0, _, hf, _, _, _, _, _, _ => by omega
  | n, i, j, fuel + 1, hn, hf, hi, hj, hjl, hne, h1, h2 => by
    unfold slices_symMergeCmpFunc_impl_Acct_impl_Gather_1_l4 slices_symMergeCmpFunc_impl_Acct_impl_Gather_1_c12
    rcases Nat.lt_or_ge i j with hij | hij
    · have eh := half_val i j (by omega)
      have em := half_val a b (by omega)
      generalize hh : (i + j) / 2 = h at eh
      obtain ⟨n1, n2, n3⟩ := hne h (by omega) (by omega)
      have e2 : i64 (i64 (i64 ((((a + b) / 2 : Nat) : Int) + (m : Int)) - 1) - (h : Int)) = (((a + b) / 2 + m - 1 - h : Nat) : Int) := by
        rw [i64_eq (x := (((a + b) / 2 : Nat) : Int) + (m : Int)) ((a + b) / 2 + m) (by omega) (by omega), i64_eq (x := (((a + b) / 2 + m : Nat) : Int) - 1) ((a + b) / 2 + m - 1) (by omega) (by omega)]
        exact i64_eq _ (by omega) (by omega)
      obtain ⟨x, hx⟩ : ∃ x, d[h]? = some x := ⟨d[h]'(by omega), List.getElem?_eq_getElem (by omega)⟩
      obtain ⟨y, hy⟩ : ∃ y, d[(a + b) / 2 + m - 1 - h]? = some y := ⟨d[(a + b) / 2 + m - 1 - h]'(by omega), List.getElem?_eq_getElem (by omega)⟩
      obtain ⟨c, c1, c2⟩ := cmp_valA y x (hq y (List.mem_of_getElem? hy)) (hq x (List.mem_of_getElem? hx))
      have e1 : i64 ((h : Int) + 1) = ((h + 1 : Nat) : Int) := i64_eq _ (by omega) (by omega)
      rw [if_pos (by simp <;> omega)]
      simp only [Option.bind_some, Lo.elim, eh, em, e2, nnB, if_true, Int.toNat_natCast, hx, hy, n3, not_false_eq_true, decide_true, c1, c2, e1, set_get hy, set_get hx]
      rcases Nat.lt_or_ge h k with hk | hk
      · rw [h1 h x y (by omega) hk hx hy, if_neg (by simp)]
        exact bs4_valA d a m b hq hl hab hm k (n - 1) (h + 1) j fuel (by omega) (by omega) (by omega) hj hjl (fun q z1 z2 => hne q (by omega) z2) (fun q z w z1 z2 => h1 q z w (by omega) z2) h2
      · rw [h2 h x y hk (by omega) hx hy, if_pos rfl]
        exact bs4_valA d a m b hq hl hab hm k (n - 1) i h fuel (by omega) (by omega) hi hk (by omega) (fun q z1 z2 => hne q z1 (by omega)) h1 (fun q z w z1 z2 => h2 q z w z1 (by omega))
    · rw [if_neg (by simp <;> omega)]
      obtain rfl : i = k := by omega
      rfl
theorem sh1_valA (W : List Acct) (x : Acct) (r : Int × List Acct) : ∀ (B P : List Acct) (fuel : Nat), r.1 = ((P.length + B.length + 1 : Nat) : Int) → B.length < fuel → P.length + B.length ≤ 4000000 → slices_symMergeCmpFunc_impl_Acct_impl_Gather_1_l1 r fuel (P.length : Int) (P ++ x :: (B ++ W)) = some (P ++ (B ++ x :: W))
  | [], P, fuel + 1, hr, hf, hl => by
    have e1 : i64 (r.1 - 1) = (P.length : Int) := i64_eq _ (by omega) (by rw [hr]; simp)
    unfold slices_symMergeCmpFunc_impl_Acct_impl_Gather_1_l1 slices_symMergeCmpFunc_impl_Acct_impl_Gather_1_c4
    rw [e1, if_neg (by simp)]
    rfl
  | y :: B, P, fuel + 1, hr, hf, hl => by
    simp only [List.length_cons] at hr hf hl
    have e1 : i64 (r.1 - 1) = ((P.length + B.length + 1 : Nat) : Int) := i64_eq _ (by omega) (by rw [hr]; omega)
    have e2 : i64 ((P.length : Int) + 1) = ((P.length + 1 : Nat) : Int) := i64_eq _ (by omega) (by omega)
    have g1 := get1 P (B ++ W) x y
    have g0 := get0 P (y :: (B ++ W)) x
    have s0 := set0 P (y :: (B ++ W)) x y
    have s1 := set1 P (B ++ W) y y x
    have ih := sh1_valA W x r B (P ++ [y]) fuel (by rw [hr]; simp; omega) (by omega) (by simp <;> omega)
    have el : ((P ++ [y]).length : Int) = ((P.length + 1 : Nat) : Int) := by simp
    rw [el, List.append_assoc] at ih
    unfold slices_symMergeCmpFunc_impl_Acct_impl_Gather_1_l1 slices_symMergeCmpFunc_impl_Acct_impl_Gather_1_c4
    rw [e1, if_pos (by simp <;> omega)]
    simp only [Option.bind_some, Lo.elim, e2, nnB, if_true, Int.toNat_natCast, List.cons_append, g1, g0, show ¬ P.length = P.length + 1 by omega, not_false_eq_true, decide_true, s0, s1]
    rw [show P ++ y :: x :: (B ++ W) = P ++ ([y] ++ x :: (B ++ W)) from rfl, ih]
    simp
theorem sh3_valA (y : Acct) (r : Int × List Acct) (P : List Acct) (hr : r.1 = (P.length : Int)) : ∀ (n : Nat) (A W : List Acct) (fuel : Nat), A.length = n → n < fuel → P.length + n ≤ 4000000 → slices_symMergeCmpFunc_impl_Acct_impl_Gather_1_l3 r fuel ((P.length + n : Nat) : Int) (P ++ (A ++ y :: W)) = some (P ++ y :: (A ++ W))
  | 0, A, W, fuel + 1, hn, hf, hl => by
    have : A = [] := List.eq_nil_of_length_eq_zero hn
    subst this
    unfold slices_symMergeCmpFunc_impl_Acct_impl_Gather_1_l3 slices_symMergeCmpFunc_impl_Acct_impl_Gather_1_c9
    rw [if_neg (by rw [hr]; simp)]
    rfl
  | n + 1, A, W, fuel + 1, hn, hf, hl => by
    obtain ⟨T, z, rfl⟩ := snoc_of (l := A) (fun e => by simp [e] at hn)
    have hT : T.length = n := by simpa using hn
    have hPT : (P ++ T).length = P.length + n := by simp [hT]
    have hd : P ++ ((T ++ [z]) ++ y :: W) = (P ++ T) ++ z :: y :: W := by simp
    have g1 := get1 (P ++ T) W z y
    have g0 := get0 (P ++ T) (y :: W) z
    have s1 := set1 (P ++ T) W z y z
    have s0 := set0 (P ++ T) (z :: W) z y
    rw [hPT] at g1 g0 s1 s0
    have e2 : i64 (((P.length + n + 1 : Nat) : Int) - 1) = ((P.length + n : Nat) : Int) := i64_eq _ (by omega) (by omega)
    have ih := sh3_valA y r P hr n T (z :: W) fuel hT (by omega) (by omega)
    rw [hd]
    unfold slices_symMergeCmpFunc_impl_Acct_impl_Gather_1_l3 slices_symMergeCmpFunc_impl_Acct_impl_Gather_1_c9
    rw [if_pos (by rw [hr]; simp <;> omega)]
    simp only [Option.bind_some, Lo.elim, e2, nnB, if_true, Int.toNat_natCast, show P.length + (n + 1) = P.length + n + 1 by omega, g1, g0, show ¬ P.length + n + 1 = P.length + n by omega, not_false_eq_true, decide_true, s1, s0]
    rw [List.append_assoc, ih]
    simp
set_option maxHeartbeats 8000000 in
theorem sym_valA : ∀ (N : Nat) (P A B R : List Acct) (fuel : Nat), A.length + B.length ≤ N → N < fuel → A ≠ [] → B ≠ [] → SrtB (ltBA ) A → SrtB (ltBA ) B → (∀ s ∈ P ++ (A ++ (B ++ R)), qBA s) → (P ++ (A ++ (B ++ R))).length ≤ 2000000 →
    slices_symMergeCmpFunc_impl_Acct_impl_Gather_1 fuel (P ++ (A ++ (B ++ R))) (P.length : Int) ((P.length + A.length : Nat) : Int) ((P.length + A.length + B.length : Nat) : Int)  = some (P ++ (mgB (ltBA ) A B ++ R))
  | 0, P, A, B, R, fuel, hN, hf, hA, hB, sA, sB, hq, hl => absurd (List.eq_nil_of_length_eq_zero (by omega)) hA
  | N + 1, P, A, B, R, fuel + 1, hN, hf, hA, hB, sA, sB, hq, hl => by
    have hlen : (P ++ (A ++ (B ++ R))).length = P.length + A.length + B.length + R.length := by simp; omega
    have pA : 0 < A.length := List.length_pos_iff.2 hA
    have pB : 0 < B.length := List.length_pos_iff.2 hB
    have dA : ∀ c, P.length ≤ c → c < P.length + A.length → (P ++ (A ++ (B ++ R)))[c]? = A[c - P.length]? := fun c h1 h2 => by
      rw [List.getElem?_append_right h1, List.getElem?_append_left (by omega)]
    have dB : ∀ c, P.length + A.length ≤ c → c < P.length + A.length + B.length → (P ++ (A ++ (B ++ R)))[c]? = B[c - (P.length + A.length)]? := fun c h1 h2 => by
      rw [List.getElem?_append_right (by omega), List.getElem?_append_right (by omega), List.getElem?_append_left (by omega)]
      congr 1; omega
    have eA : i64 (((P.length + A.length : Nat) : Int) - (P.length : Int)) = (A.length : Int) := i64_eq _ (by omega) (by omega)
    have eB : i64 (((P.length + A.length + B.length : Nat) : Int) - ((P.length + A.length : Nat) : Int)) = (B.length : Int) := i64_eq _ (by omega) (by omega)
    unfold slices_symMergeCmpFunc_impl_Acct_impl_Gather_1 slices_symMergeCmpFunc_impl_Acct_impl_Gather_1_c0 slices_symMergeCmpFunc_impl_Acct_impl_Gather_1_c5
    rw [eA, eB]
    by_cases hα : A.length = 1
    · obtain ⟨x, rfl⟩ := List.length_eq_one_iff.1 hα
      have hB0 : B.takeWhile (fun y => ltBA y x) ++ B.dropWhile (fun y => ltBA y x) = B := List.takeWhile_append_dropWhile
      generalize hB1 : B.takeWhile (fun y => ltBA y x) = B1 at hB0
      generalize hB2 : B.dropWhile (fun y => ltBA y x) = B2 at hB0
      have m1 : ∀ b ∈ B1, ltBA b x = true := fun b hb => by rw [← hB1] at hb; exact mem_tw (fun y => ltBA y x) hb
      have m2 : ∀ b ∈ B2, ltBA b x = false := fun b hb => by
        cases hc : B2 with
        | nil => rw [hc] at hb; simp at hb
        | cons z Z =>
          have hz : ltBA z x = false := by
            have := List.head?_dropWhile_not (fun y => ltBA y x) B
            rw [hB2, hc] at this
            simpa using this
          rw [hc] at hb
          rcases List.mem_cons.1 hb with rfl | hb
          · exact hz
          · have s2 : SrtB (ltBA ) B2 := by rw [← hB0] at sB; exact srtB_app_right sB
            rw [hc] at s2
            exact (swBA ).2 b z x ((List.pairwise_cons.1 s2).1 b hb) hz
      subst hB0
      have hx : (P ++ ([x] ++ ((B1 ++ B2) ++ R)))[P.length]? = some x := by simp
      have r1 := bs0_valA (P ++ ([x] ++ ((B1 ++ B2) ++ R))) x P.length hx hq (by omega) (P.length + 1 + B1.length) (B1 ++ B2).length (P.length + [x].length) (P.length + [x].length + (B1 ++ B2).length) FUEL (by omega) (by simp at hl ⊢; unfold FUEL; omega) (by simp) (by simp <;> omega) (by simp <;> omega) (fun h z1 z2 => by simp at z1; omega)
        (fun h y z1 z2 z3 => by
          simp at z1
          rw [dB h (by simp <;> omega) (by simp <;> omega), List.getElem?_append_left (by simp <;> omega)] at z3
          exact m1 y (List.mem_of_getElem? z3))
        (fun h y z1 z2 z3 => by
          rw [dB h (by simp <;> omega) z2, List.getElem?_append_right (by simp <;> omega)] at z3
          exact m2 y (List.mem_of_getElem? z3))
      have r2 := sh1_valA (B2 ++ R) x (((P.length + 1 + B1.length : Nat) : Int), P ++ x :: (B1 ++ (B2 ++ R))) B1 P FUEL (by simp <;> omega) (by simp at hl; unfold FUEL; omega) (by simp at hl; omega)
      have hres : mgB (ltBA ) [x] (B1 ++ B2) = B1 ++ x :: B2 := by
        have := mgB_split (lt := ltBA ) (A1 := []) (A2 := [x]) (B1 := B1) (B2 := B2) (fun b hb y hy => by simp at hy; subst hy; exact m1 b hb) (fun b hb x hx => by simp at hx) (fun b hb z hz => (List.pairwise_append.1 sB).2.2 z hz b hb)
        rw [List.nil_append] at this
        rw [this, mgB_sorted B1 [] (by simpa using srtB_app_left sB), mgB_sorted B2 [x] (List.pairwise_cons.2 ⟨m2, srtB_app_right sB⟩)]
        rfl
      rw [if_pos (by simp)]
      rw [show P ++ ([x] ++ ((B1 ++ B2) ++ R)) = P ++ x :: (B1 ++ (B2 ++ R)) by simp] at r1 ⊢
      rw [r1]
      simp only [Option.bind_some]
      rw [r2, hres]
      simp [Lo.elim]
    · rw [if_neg (by simp <;> omega)]
      simp only [Option.bind_some, Lo.elim]
      by_cases hβ : B.length = 1
      · obtain ⟨y, rfl⟩ := List.length_eq_one_iff.1 hβ
        have hA0 : A.takeWhile (fun x => !ltBA y x) ++ A.dropWhile (fun x => !ltBA y x) = A := List.takeWhile_append_dropWhile
        generalize hA1 : A.takeWhile (fun x => !ltBA y x) = A1 at hA0
        generalize hA2 : A.dropWhile (fun x => !ltBA y x) = A2 at hA0
        have m1 : ∀ x ∈ A1, ltBA y x = false := fun b hb => by rw [← hA1] at hb; have := mem_tw (fun x => !ltBA y x) hb; simpa using this
        have m2 : ∀ x ∈ A2, ltBA y x = true := fun b hb => by
          cases hc : A2 with
          | nil => rw [hc] at hb; simp at hb
          | cons z Z =>
            have hz : ltBA y z = true := by
              have := List.head?_dropWhile_not (fun x => !ltBA y x) A
              rw [hA2, hc] at this
              simpa using this
            rw [hc] at hb
            rcases List.mem_cons.1 hb with rfl | hb
            · exact hz
            · have s2 : SrtB (ltBA ) A2 := by rw [← hA0] at sA; exact srtB_app_right sA
              rw [hc] at s2
              have h3 := (List.pairwise_cons.1 s2).1 b hb
              rcases tf (ltBA y b) with h4 | h4
              · exact h4
              · have := (swBA ).2 y b z h4 h3
                rw [hz] at this; cases this
        subst hA0
        have hy : (P ++ ((A1 ++ A2) ++ ([y] ++ R)))[P.length + (A1 ++ A2).length]? = some y := by
          rw [List.getElem?_append_right (by omega), List.getElem?_append_right (by omega)]
          simp
        have r1 := bs2_valA (P ++ ((A1 ++ A2) ++ ([y] ++ R))) y (P.length + (A1 ++ A2).length) hy hq (by omega) (P.length + A1.length) (A1 ++ A2).length P.length (P.length + (A1 ++ A2).length) FUEL (by omega) (by unfold FUEL; omega) (by omega) (by simp) (by omega) (fun h z1 z2 => by omega)
          (fun h x z1 z2 z3 => by
            rw [dA h z1 (by simp <;> omega), List.getElem?_append_left (by omega)] at z3
            exact m1 x (List.mem_of_getElem? z3))
          (fun h x z1 z2 z3 => by
            rw [dA h (by omega) z2, List.getElem?_append_right (by omega)] at z3
            exact m2 x (List.mem_of_getElem? z3))
        have r2 := sh3_valA y (((P.length + A1.length : Nat) : Int), (P ++ A1) ++ (A2 ++ y :: R)) (P ++ A1) (by simp) A2.length A2 R FUEL rfl (by simp at hl; unfold FUEL; omega) (by simp at hl ⊢; omega)
        have hres : mgB (ltBA ) (A1 ++ A2) [y] = A1 ++ y :: A2 := by
          rw [mgB_cons, mgB_nil, insB_right m1]
          cases A2 with
          | nil => rfl
          | cons z Z => simp [insB, m2 z (by simp)]
        rw [if_pos (by simp)]
        rw [r1]
        simp only [Option.bind_some]
        rw [show P ++ ((A1 ++ A2) ++ ([y] ++ R)) = (P ++ A1) ++ (A2 ++ y :: R) by simp, show ((P.length + (A1 ++ A2).length : Nat) : Int) = (((P ++ A1).length + A2.length : Nat) : Int) by simp; omega, r2, hres]
        simp
      · rw [if_neg (by simp <;> omega)]
        simp only [Option.bind_some]
        generalize ha : P.length = a at *
        generalize hm0 : a + A.length = m at *
        generalize hb0 : m + B.length = b at *
        have hmid := half_val a b (by omega)
        generalize hmd : (a + b) / 2 = mid at hmid
        generalize hd : P ++ (A ++ (B ++ R)) = d at *
        have c10 : ∃ s r : Nat, slices_symMergeCmpFunc_impl_Acct_impl_Gather_1_c10 d (a : Int) (m : Int) (b : Int)  = some ((s : Int), (r : Int)) ∧ ((mid < m ∧ s = mid + m - b ∧ r = mid) ∨ (m ≤ mid ∧ s = a ∧ r = m)) := by
          unfold slices_symMergeCmpFunc_impl_Acct_impl_Gather_1_c10
          rw [hmid]
          rcases Nat.lt_or_ge mid m with h | h
          · refine ⟨mid + m - b, mid, ?_, .inl ⟨h, rfl, rfl⟩⟩
            rw [if_pos (by simp <;> omega)]
            rw [i64_eq (x := (mid : Int) + (m : Int)) (mid + m) (by omega) (by omega), i64_eq (x := ((mid + m : Nat) : Int) - (b : Int)) (mid + m - b) (by omega) (by omega)]
          · refine ⟨a, m, ?_, .inr ⟨h, rfl, rfl⟩⟩
            rw [if_neg (by simp <;> omega)]
        obtain ⟨s, r, c10, hsr⟩ := c10
        have hal : ∀ c, s ≤ c → c < r → a ≤ c ∧ c < m ∧ m ≤ mid + m - 1 - c ∧ mid + m - 1 - c < b := fun c h1 h2 => by omega
        obtain ⟨k, k1, k2, k3, k4⟩ := turn_at (fun c => match d[c]?, d[mid + m - 1 - c]? with | some x, some y => !(ltBA y x) | _, _ => false) (r - s) s r rfl (by omega) (fun c h1 h2 hp => by
          obtain ⟨q1, q2, q3, q4⟩ := hal c h1 (by omega)
          obtain ⟨w1, w2, w3, w4⟩ := hal (c + 1) (by omega) h2
          have gx : A[c - a]? = some (A[c - a]'(by omega)) := List.getElem?_eq_getElem (by omega)
          have gx' : A[c + 1 - a]? = some (A[c + 1 - a]'(by omega)) := List.getElem?_eq_getElem (by omega)
          have gy : B[mid + m - 1 - c - m]? = some (B[mid + m - 1 - c - m]'(by omega)) := List.getElem?_eq_getElem (by omega)
          have gy' : B[mid + m - 1 - (c + 1) - m]? = some (B[mid + m - 1 - (c + 1) - m]'(by omega)) := List.getElem?_eq_getElem (by omega)
          simp only [dA c q1 q2, dB _ q3 q4, gx, gy, Bool.not_eq_false'] at hp
          simp only [dA _ w1 w2, dB _ w3 w4, gx', gy', Bool.not_eq_false']
          have o1 := srtB_get sA (by omega) gx gx'
          have o2 := srtB_get sB (by omega) gy' gy
          rcases tf (ltBA (B[mid + m - 1 - (c + 1) - m]'(by omega)) (A[c + 1 - a]'(by omega))) with z | z
          · exact z
          · have := (swBA ).2 _ _ _ ((swBA ).2 _ _ _ o2 z) o1
            rw [hp] at this; cases this)
        have l4 := bs4_valA d a m b hq (by omega) (by omega) (by omega) k (r - s) s r FUEL (Nat.le_refl _) (by unfold FUEL; omega) k1 k2 (by omega) (fun c h1 h2 => by rw [hmd]; have := hal c h1 h2; omega)
          (fun c x y h1 h2 hx hy => by
            rw [hmd] at hy
            have := k3 c h1 h2
            simp only [hx, hy] at this
            simpa using this)
          (fun c x y h1 h2 hx hy => by
            rw [hmd] at hy
            have := k4 c h1 h2
            simp only [hx, hy] at this
            simpa using this)
        have hk : a ≤ k ∧ k ≤ m ∧ m ≤ mid + m - k ∧ mid + m - k ≤ b := by omega
        obtain ⟨hk1, hk2, hk3, hk4⟩ := hk
        have he : i64 (i64 ((mid : Int) + (m : Int)) - (k : Int)) = ((mid + m - k : Nat) : Int) := by
          rw [i64_eq (x := (mid : Int) + (m : Int)) (mid + m) (by omega) (by omega)]
          exact i64_eq _ (by omega) (by omega)
        generalize hee : mid + m - k = e at he hk3 hk4
        obtain ⟨A1, A2, rfl, lA1⟩ : ∃ A1 A2, A = A1 ++ A2 ∧ A1.length = k - a := ⟨A.take (k - a), A.drop (k - a), (List.take_append_drop _ _).symm, by simp; omega⟩
        obtain ⟨B1, B2, rfl, lB1⟩ : ∃ B1 B2, B = B1 ++ B2 ∧ B1.length = e - m := ⟨B.take (e - m), B.drop (e - m), (List.take_append_drop _ _).symm, by simp; omega⟩
        have lA2 : A2.length = m - k := by simp at hm0; omega
        have lB2 : B2.length = b - e := by simp at hb0; omega
        have H1 : ∀ y ∈ B1, ∀ x ∈ A2, ltBA y x = true := fun y hy x hx => by
          obtain ⟨i, hi, rfl⟩ := List.mem_iff_getElem.1 hy
          obtain ⟨j, hj, rfl⟩ := List.mem_iff_getElem.1 hx
          have := k4 k (Nat.le_refl _) (by omega)
          have gx : A2[0]? = some (A2[0]'(by omega)) := List.getElem?_eq_getElem (by omega)
          have gy : B1[e - 1 - m]? = some (B1[e - 1 - m]'(by omega)) := List.getElem?_eq_getElem (by omega)
          have g1 : d[k]? = some (A2[0]'(by omega)) := by rw [dA k hk1 (by omega), List.getElem?_append_right (by omega), ← gx]; congr 1; omega
          have g2 : d[mid + m - 1 - k]? = some (B1[e - 1 - m]'(by omega)) := by rw [dB _ (by omega) (by omega), List.getElem?_append_left (by omega), ← gy]; congr 1; omega
          simp only [g1, g2, Bool.not_eq_false'] at this
          have o1 : ltBA A2[j] (A2[0]'(by omega)) = false := by
            rcases Nat.eq_zero_or_pos j with h0 | h0
            · subst h0; exact swB_irr (swBA ) _
            · exact srtB_get (srtB_app_right sA) h0 gx (List.getElem?_eq_getElem hj)
          have o2 : ltBA (B1[e - 1 - m]'(by omega)) B1[i] = false := by
            rcases Nat.lt_or_ge i (e - 1 - m) with h0 | h0
            · exact srtB_get (srtB_app_left sB) h0 (List.getElem?_eq_getElem hi) gy
            · obtain rfl : i = e - 1 - m := by omega
              exact swB_irr (swBA ) _
          rcases tf (ltBA B1[i] A2[j]) with z | z
          · exact z
          · have h9 := (swBA ).2 _ _ _ ((swBA ).2 _ _ _ o2 z) o1
            rw [this] at h9; cases h9
        have H2 : ∀ y ∈ B2, ∀ x ∈ A1, ltBA y x = false := fun y hy x hx => by
          obtain ⟨i, hi, rfl⟩ := List.mem_iff_getElem.1 hy
          obtain ⟨j, hj, rfl⟩ := List.mem_iff_getElem.1 hx
          have := k3 (k - 1) (by omega) (by omega)
          have gx : A1[k - 1 - a]? = some (A1[k - 1 - a]'(by omega)) := List.getElem?_eq_getElem (by omega)
          have gy : B2[0]? = some (B2[0]'(by omega)) := List.getElem?_eq_getElem (by omega)
          have g1 : d[k - 1]? = some (A1[k - 1 - a]'(by omega)) := by rw [dA _ (by omega) (by omega), List.getElem?_append_left (by omega), gx]
          have g2 : d[mid + m - 1 - (k - 1)]? = some (B2[0]'(by omega)) := by rw [dB _ (by omega) (by omega), List.getElem?_append_right (by omega), ← gy]; congr 1; omega
          simp only [g1, g2, Bool.not_eq_true'] at this
          have o1 : ltBA (A1[k - 1 - a]'(by omega)) A1[j] = false := by
            rcases Nat.lt_or_ge j (k - 1 - a) with h0 | h0
            · exact srtB_get (srtB_app_left sA) h0 (List.getElem?_eq_getElem hj) gx
            · obtain rfl : j = k - 1 - a := by omega
              exact swB_irr (swBA ) _
          have o2 : ltBA B2[i] (B2[0]'(by omega)) = false := by
            rcases Nat.eq_zero_or_pos i with h0 | h0
            · subst h0; exact swB_irr (swBA ) _
            · exact srtB_get (srtB_app_right sB) h0 gy (List.getElem?_eq_getElem hi)
          exact (swBA ).2 _ _ _ ((swBA ).2 _ _ _ o2 this) o1
        have H3 : ∀ y ∈ B2, ∀ x ∈ B1, ltBA y x = false := fun y hy x hx => (List.pairwise_append.1 sB).2.2 x hx y hy
        rw [mgB_split H1 H2 H3]
        have c13 : slices_symMergeCmpFunc_impl_Acct_impl_Gather_1_c13  (a : Int) (m : Int) (b : Int)  ((k : Int), d) = some (P ++ (A1 ++ (B1 ++ (A2 ++ (B2 ++ R))))) := by
          unfold slices_symMergeCmpFunc_impl_Acct_impl_Gather_1_c13
          simp only [hmid, he]
          by_cases h1 : k < m ∧ m < e
          · have rv := rot_valA (P ++ A1) A2 B1 (B2 ++ R) (fun z => by simp [z] at lA2; omega) (fun z => by simp [z] at lB1; omega) (by simp <;> omega) (k : Int) (m : Int) (e : Int) (by simp <;> omega) (by simp <;> omega) (by simp <;> omega)
            rw [if_pos (by simp <;> omega), if_pos (by simp <;> omega), ← hd, show P ++ ((A1 ++ A2) ++ ((B1 ++ B2) ++ R)) = (P ++ A1) ++ (A2 ++ (B1 ++ (B2 ++ R))) by simp, rv]
            simp
          · have hz : A2 = [] ∨ B1 = [] := by
              rcases Nat.lt_or_ge k m with h2 | h2
              · exact .inr (List.eq_nil_of_length_eq_zero (by omega))
              · exact .inl (List.eq_nil_of_length_eq_zero (by omega))
            have hsame : d = P ++ (A1 ++ (B1 ++ (A2 ++ (B2 ++ R)))) := by rw [← hd]; rcases hz with rfl | rfl <;> simp
            rw [← hsame]
            by_cases h2 : k < m
            · rw [if_pos (by simp <;> omega), if_neg (by simp <;> omega)]
            · rw [if_neg (by simp <;> omega)]
        rw [c10]
        simp only [Option.bind_some]
        rw [l4]
        simp only [Option.bind_some]
        rw [c13]
        simp only [Option.bind_some, hmid, he]
        have hq2 : ∀ s ∈ P ++ (A1 ++ (B1 ++ (A2 ++ (B2 ++ R)))), qBA s := fun z hz => hq z (by rw [← hd]; simp at hz ⊢; rcases hz with h | h | h | h | h | h <;> simp [h])
        have hqr : ∀ s ∈ (P ++ mgB (ltBA ) A1 B1) ++ (A2 ++ (B2 ++ R)), qBA s := fun z hz => hq2 z (by simp [mem_mgB] at hz ⊢; rcases hz with h | (h | h) | h | h | h <;> simp [h])
        have ll : (P ++ mgB (ltBA ) A1 B1).length = mid := by simp [len_mgB]; omega
        have right : ∀ X : List Acct, X = (P ++ mgB (ltBA ) A1 B1) ++ (A2 ++ (B2 ++ R)) → (if decide ((mid : Int) < (e : Int)) = true then (if decide ((e : Int) < (b : Int)) = true then (slices_symMergeCmpFunc_impl_Acct_impl_Gather_1 fuel X (mid : Int) (e : Int) (b : Int) ).bind fun r => some r else some X) else some X) = some (P ++ ((mgB (ltBA ) A1 B1 ++ mgB (ltBA ) A2 B2) ++ R)) := fun X hX => by
          subst hX
          by_cases h1 : mid < e ∧ e < b
          · have ih := sym_valA N (P ++ mgB (ltBA ) A1 B1) A2 B2 R fuel (by simp at hN; omega) (by omega) (fun z => by simp [z] at lA2; omega) (fun z => by simp [z] at lB2; omega) (srtB_app_right sA) (srtB_app_right sB) hqr (by simp [len_mgB]; omega)
            rw [ll, show mid + A2.length = e by omega, show e + B2.length = b by omega] at ih
            rw [if_pos (by simp <;> omega), if_pos (by simp <;> omega), ih]
            simp
          · have hz : A2 = [] ∨ B2 = [] := by
              rcases Nat.lt_or_ge mid e with h2 | h2
              · exact .inr (List.eq_nil_of_length_eq_zero (by omega))
              · exact .inl (List.eq_nil_of_length_eq_zero (by omega))
            have hm2 : mgB (ltBA ) A2 B2 = A2 ++ B2 := mgB_sorted B2 A2 (srtB_one hz (srtB_app_right sA) (srtB_app_right sB))
            rw [hm2]
            by_cases h2 : mid < e
            · rw [if_pos (by simp <;> omega), if_neg (by simp <;> omega)]; simp
            · rw [if_neg (by simp <;> omega)]; simp
        by_cases h1 : a < k ∧ k < mid
        · have ih := sym_valA N P A1 B1 (A2 ++ (B2 ++ R)) fuel (by simp at hN; omega) (by omega) (fun z => by simp [z] at lA1; omega) (fun z => by simp [z] at lB1; omega) (srtB_app_left sA) (srtB_app_left sB) hq2 (by simp <;> omega)
          rw [ha, show a + A1.length = k by omega, show k + B1.length = mid by omega] at ih
          rw [if_pos (by simp <;> omega), if_pos (by simp <;> omega), ih]
          simp only [Option.bind_some]
          exact right _ (by simp)
        · have hz : A1 = [] ∨ B1 = [] := by
            rcases Nat.lt_or_ge a k with h2 | h2
            · exact .inr (List.eq_nil_of_length_eq_zero (by omega))
            · exact .inl (List.eq_nil_of_length_eq_zero (by omega))
          have hm1 : mgB (ltBA ) A1 B1 = A1 ++ B1 := mgB_sorted B1 A1 (srtB_one hz (srtB_app_left sA) (srtB_app_left sB))
          have hX : P ++ (A1 ++ (B1 ++ (A2 ++ (B2 ++ R)))) = (P ++ mgB (ltBA ) A1 B1) ++ (A2 ++ (B2 ++ R)) := by rw [hm1]; simp
          by_cases h2 : a < k
          · rw [if_pos (by simp <;> omega), if_neg (by simp <;> omega)]
            exact right _ hX
          · rw [if_neg (by simp <;> omega)]
            exact right _ hX
theorem st_l0_valA (n : Int) : ∀ (f : Nat) (W P : List Acct) (fuel : Nat), W.length ≤ f → f < fuel → n = ((P.length + W.length : Nat) : Int) → P.length + W.length ≤ 2000000 → (∀ s ∈ W, qBA s) →
    ∃ P' W' M, slices_stableCmpFunc_impl_Acct_impl_Gather_1_l0 n  fuel (P.length : Int) ((P.length + 20 : Nat) : Int) (P ++ W) = some ((P'.length : Int), P' ++ W') ∧ P'.length + W'.length = P.length + W.length ∧ Bs (ltBA ) 20 W M ∧ P ++ M = P' ++ mgB (ltBA ) [] W' ∧ (∀ s ∈ W', qBA s)
  | f, W, P, 0, _, hf, _, _, _ => by omega
  | f, W, P, fuel + 1, hW, hf, hn, hl, hq => by
    unfold slices_stableCmpFunc_impl_Acct_impl_Gather_1_l0
    rcases Nat.lt_or_ge W.length 20 with h | h
    · refine ⟨P, W, _, ?_, rfl, .last W (by omega), rfl, hq⟩
      rw [if_neg (by rw [hn]; simp; omega)]
    · obtain ⟨A, W, rfl, hA⟩ : ∃ A W', W = A ++ W' ∧ A.length = 20 := ⟨W.take 20, W.drop 20, (List.take_append_drop _ _).symm, by simp; omega⟩
      simp only [List.length_append] at hW hn hl h
      have iv := ins_valA P A W (fun s hs => hq s (by simp [hs])) (by omega) (P.length : Int) ((P.length + 20 : Nat) : Int) rfl (by rw [hA])
      have hlen : (P ++ mgB (ltBA ) [] A).length = P.length + 20 := by simp [len_mgB, hA]
      have e1 : i64 (((P.length + 20 : Nat) : Int) + 20) = (((P ++ mgB (ltBA ) [] A).length + 20 : Nat) : Int) := i64_eq _ (by omega) (by rw [hlen]; omega)
      obtain ⟨P', W', M, q1, q2, q3, q4, q5⟩ := st_l0_valA n (f - 1) W (P ++ mgB (ltBA ) [] A) fuel (by omega) (by omega) (by rw [hlen]; omega) (by rw [hlen]; omega) (fun s hs => hq s (by simp [hs]))
      refine ⟨P', W', _, ?_, by rw [q2, hlen, List.length_append]; omega, .cons A W M hA q3, by rw [← q4]; simp, q5⟩
      rw [if_pos (by rw [hn]; simp; omega), iv, Option.bind_some, e1, ← List.append_assoc]
      rw [hlen] at q1 ⊢
      exact q1
theorem st_l2_valA (n : Int) (k : Nat) (hk : 1 ≤ k) (hk2 : k ≤ 2000000) : ∀ (f : Nat) (L M P : List Acct) (fuel : Nat), L.length ≤ f → f < fuel → Bs (ltBA ) k L M → n = ((P.length + L.length : Nat) : Int) → P.length + L.length ≤ 2000000 → (∀ s ∈ P ++ L, qBA s) →
    ∃ P' L' M' N, slices_stableCmpFunc_impl_Acct_impl_Gather_1_l2 n  (k : Int) fuel (P.length : Int) ((P.length + 2 * k : Nat) : Int) (P ++ M) = some ((P'.length : Int), P' ++ M') ∧ P'.length + L'.length = P.length + L.length ∧ Bs (ltBA ) k L' M' ∧ L'.length < 2 * k ∧ Bs (ltBA ) (2 * k) L N ∧ P ++ N = P' ++ mgB (ltBA ) [] L' ∧ (∀ s ∈ P' ++ L', qBA s)
  | f, L, M, P, 0, _, hf, _, _, _, _ => by omega
  | f, L, M, P, fuel + 1, hL, hf, hb, hn, hl, hq => by
    unfold slices_stableCmpFunc_impl_Acct_impl_Gather_1_l2
    rcases Nat.lt_or_ge L.length (2 * k) with h | h
    · refine ⟨P, L, M, _, ?_, rfl, hb, h, .last L (by omega), rfl, hq⟩
      rw [if_neg (by rw [hn]; simp; omega)]
    · obtain ⟨A, B, L, M, rfl, hA, hB, rfl, hbb⟩ := hb.two hk h
      simp only [List.length_append] at hL hn hl h
      have lA : (mgB (ltBA ) [] A).length = k := by simp [len_mgB, hA]
      have lB : (mgB (ltBA ) [] B).length = k := by simp [len_mgB, hB]
      have hML := hbb.len
      have sv := sym_valA (2 * k) P (mgB (ltBA ) [] A) (mgB (ltBA ) [] B) M FUEL (by omega) (by unfold FUEL; omega) (fun e => by rw [e] at lA; simp at lA; omega) (fun e => by rw [e] at lB; simp at lB; omega) (srtB_srt (swBA ) A) (srtB_srt (swBA ) B)
        (fun s hs => hq s (by
          simp only [List.mem_append] at hs ⊢
          rcases hs with hs | hs | hs | hs
          · exact .inl hs
          · exact .inr (.inl (by simpa using mem_mgB.1 hs))
          · exact .inr (.inr (.inl (by simpa using mem_mgB.1 hs)))
          · exact .inr (.inr (.inr (hbb.mem s hs))))) (by simp [lA, lB]; omega)
      rw [lA, lB, ← srtB_app (swBA )] at sv
      have lAB : (mgB (ltBA ) [] (A ++ B)).length = 2 * k := by simp [len_mgB, hA, hB]; omega
      have hlen : (P ++ mgB (ltBA ) [] (A ++ B)).length = P.length + 2 * k := by simp [lAB]
      have e0 : i64 ((P.length : Int) + (k : Int)) = ((P.length + k : Nat) : Int) := i64_eq _ (by omega) (by omega)
      have e1 : i64 (((P.length + 2 * k : Nat) : Int) + i64 (2 * (k : Int))) = (((P ++ mgB (ltBA ) [] (A ++ B)).length + 2 * k : Nat) : Int) := by
        rw [i64_eq (x := 2 * (k : Int)) (2 * k) (by omega) (by omega)]
        exact i64_eq _ (by omega) (by rw [hlen]; omega)
      obtain ⟨P', L', M', N, q1, q2, q3, q4, q5, q6, q7⟩ := st_l2_valA n k hk hk2 (f - 1) L M (P ++ mgB (ltBA ) [] (A ++ B)) fuel (by omega) (by omega) hbb (by rw [hlen]; omega) (by rw [hlen]; omega) (fun s hs => hq s (by
        simp only [List.mem_append] at hs ⊢
        rcases hs with (hs | hs) | hs
        · exact .inl hs
        · have := mem_mgB.1 hs
          simp only [List.not_mem_nil, false_or, List.mem_append] at this
          rcases this with h | h
          · exact .inr (.inl h)
          · exact .inr (.inr (.inl h))
        · exact .inr (.inr (.inr hs))))
      refine ⟨P', L', M', mgB (ltBA ) [] (A ++ B) ++ N, ?_, by rw [q2, hlen]; simp; omega, q3, q4, ?_, ?_, q7⟩
      · rw [if_pos (by rw [hn]; simp; omega), e0, show P.length + 2 * k = P.length + k + k by omega, sv, Option.bind_some, show P.length + k + k = P.length + 2 * k by omega, e1, ← List.append_assoc]
        rw [hlen] at q1 ⊢
        exact q1
      · rw [← List.append_assoc]
        exact .cons (A ++ B) L N (by simp; omega) q5
      · rw [← q6]; simp
theorem st_l1_valA (L : List Acct) (hl : L.length ≤ 2000000) (hq : ∀ s ∈ L, qBA s) : ∀ (f k : Nat) (M : List Acct) (fuel : Nat), L.length - k ≤ f → f < fuel → 1 ≤ k → k ≤ 4000000 → Bs (ltBA ) k L M →
    slices_stableCmpFunc_impl_Acct_impl_Gather_1_l1 (L.length : Int)  fuel (k : Int) M = some (mgB (ltBA ) [] L)
  | f, k, M, 0, _, hf, _, _, _ => by omega
  | f, k, M, fuel + 1, hf0, hf, hk, hk2, hb => by
    unfold slices_stableCmpFunc_impl_Acct_impl_Gather_1_l1
    rcases Nat.lt_or_ge k L.length with h | h
    · obtain ⟨P', L', M', N, q1, q2, q3, q4, q5, q6, q7⟩ := st_l2_valA (L.length : Int) k hk (by omega) L.length L M [] FUEL (Nat.le_refl _) (by unfold FUEL; omega) hb (by simp) (by simpa using hl) (by simpa using hq)
      have e1 : i64 (2 * (k : Int)) = ((([] : List Acct).length + 2 * k : Nat) : Int) := i64_eq _ (by simp; omega) (by simp)
      have e2 : i64 ((k : Int) * 2) = ((2 * k : Nat) : Int) := i64_eq _ (by omega) (by omega)
      rw [List.nil_append] at q1 q6
      simp only [List.length_nil, Nat.zero_add] at q2
      have e3 : i64 ((P'.length : Int) + (k : Int)) = ((P'.length + k : Nat) : Int) := i64_eq _ (by omega) (by omega)
      have fin := st_l1_valA L hl hq (f - 1) (2 * k) N fuel (by omega) (by omega) (by omega) (by omega) q5
      rw [if_pos (by simp; omega), e1]
      simp only [List.length_nil] at q1
      rw [show ((0 : Nat) : Int) = 0 from rfl] at q1
      rw [List.length_nil, q1, Option.bind_some, e3, e2]
      rcases Nat.lt_or_ge k L'.length with h2 | h2
      · obtain ⟨A, B, rfl, hA, hB0, hB, rfl⟩ := q3.one q4 h2
        have lA : (mgB (ltBA ) [] A).length = k := by simp [len_mgB, hA]
        have lB : (mgB (ltBA ) [] B).length = B.length := by simp [len_mgB]
        have pB : 0 < B.length := List.length_pos_iff.2 hB0
        simp only [List.length_append] at q2 h2
        have sv := sym_valA (2 * k) P' (mgB (ltBA ) [] A) (mgB (ltBA ) [] B) [] FUEL (by omega) (by unfold FUEL; omega) (fun e => by rw [e] at lA; simp at lA; omega) (fun e => by rw [e] at lB; simp at lB; omega) (srtB_srt (swBA ) A) (srtB_srt (swBA ) B)
          (fun s hs => q7 s (by
            simp only [List.mem_append, List.not_mem_nil, or_false] at hs ⊢
            rcases hs with hs | hs | hs
            · exact .inl hs
            · exact .inr (.inl (by simpa using mem_mgB.1 hs))
            · exact .inr (.inr (by simpa using mem_mgB.1 hs)))) (by simp [lA, lB]; omega)
        rw [lA, lB, ← srtB_app (swBA )] at sv
        simp only [List.append_nil] at sv
        rw [if_pos (by simp; omega), show (L.length : Int) = ((P'.length + k + B.length : Nat) : Int) by omega, sv, Option.bind_some, ← q6, show ((P'.length + k + B.length : Nat) : Int) = (L.length : Int) by omega]
        exact fin
      · rw [if_neg (by simp; omega), q3.small h2, ← q6]
        exact fin
    · rw [if_neg (by simp; omega), hb.small h]
theorem stable_valA (L : List Acct) (hl : L.length ≤ 2000000) (hq : ∀ s ∈ L, qBA s) : slices_stableCmpFunc_impl_Acct_impl_Gather_1 L (L.length : Int)  = some (mgB (ltBA ) [] L) := by
  obtain ⟨P', W', M, q1, q2, q3, q4, q5⟩ := st_l0_valA (L.length : Int) L.length L [] FUEL (Nat.le_refl _) (by unfold FUEL; omega) (by simp) (by simpa using hl) hq
  rw [List.nil_append] at q1 q4
  simp only [List.length_nil, Nat.zero_add] at q1 q2
  have iv := ins_valA P' W' [] q5 (by omega) (P'.length : Int) (L.length : Int) rfl (by omega)
  rw [List.append_nil, List.append_nil, ← q4] at iv
  have := st_l1_valA L hl hq L.length 20 M FUEL (by omega) (by unfold FUEL; omega) (by decide) (by decide) q3
  unfold slices_stableCmpFunc_impl_Acct_impl_Gather_1
  rw [show (0 : Int) = ((0 : Nat) : Int) from rfl, show (20 : Int) = ((20 : Nat) : Int) from rfl, q1, Option.bind_some, iv, Option.bind_some, this]
  rfl
def allA (l : List Stripe) : List Acct := l.flatMap fun s => s.Accts
end Go.Proofs.YtdcejeemommkfaaM
