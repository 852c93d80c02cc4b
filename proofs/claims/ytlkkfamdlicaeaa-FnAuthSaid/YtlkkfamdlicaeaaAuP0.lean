/- Laws of the plain functions. No condition. -/
import Derived.Test.YtlkkfamdlicaeaaAuOp
import Derived.Laws.StructEq
namespace Go.Proofs.YtlkkfamdlicaeaaM
set_option linter.unusedVariables false
set_option linter.unusedSimpArgs false
set_option maxRecDepth 100000
theorem i64_of {x : Int} (h : -9223372036854775808 ≤ x) (h2 : x ≤ 9223372036854775807) : i64 x = x := by unfold i64; rw [IntKind.wrap_i64]; omega
theorem i64_nn {x : Int} (h : 0 ≤ x) (h2 : x ≤ 9223372036854775807) : i64 x = x := i64_of (by omega) h2
theorem u8_of {x : Int} (h : 0 ≤ x) (h2 : x ≤ 255) : u8 x = x := by unfold u8 IntKind.wrap; simp [IntKind.bits, IntKind.signed]; omega
theorem capOk_of {n : Nat} (h : n ≤ 274877906944) : capOk n = true := decide_eq_true h
theorem beqB (a b : ByteArray) : (a == b) = decide (a = b) := by
  rcases a with ⟨a⟩
  rcases b with ⟨b⟩
  have h1 : ((⟨a⟩ : ByteArray) == ⟨b⟩) = (a == b) := rfl
  rw [h1]
  by_cases h : a = b
  · subst h; simp
  · have h2 : ¬ ((⟨a⟩ : ByteArray) = ⟨b⟩) := fun e => h (by cases e; rfl)
    rw [decide_eq_false h2]
    simpa using h
theorem tmod10 {x : Int} (h : 0 ≤ x) : Int.tmod x 10 = x % 10 := Int.tmod_eq_emod_of_nonneg h
theorem beq_rfl (s : ByteArray) : (s == s) = true := by rw [beqB]; simp
theorem bne_rfl (n : Int) : (n != n) = false := by simp
def byB (l : List Int) : Prop := ∀ b ∈ l, 0 ≤ b ∧ b ≤ 255
/-- The weight of a list: its length, and its elements' weights. -/
def wtL {α : Type} (f : α → Nat) : List α → Nat
  | [] => 0
  | x :: t => 1 + f x + wtL f t
def wtS {α : Type} (f : α → Nat) : List α → Nat
  | [] => 0
  | x :: t => f x + wtS f t
theorem wtL_eq {α : Type} (f : α → Nat) : ∀ l : List α, wtL f l = l.length + wtS f l
  | [] => rfl
  | x :: t => by simp only [wtL, wtS, List.length_cons]; rw [wtL_eq f t]; omega
theorem wtL_len {α : Type} (f : α → Nat) (l : List α) : l.length ≤ wtL f l := by rw [wtL_eq]; omega
theorem wtL_mem {α : Type} (f : α → Nat) : ∀ (l : List α) (x : α), x ∈ l → f x + 1 ≤ wtL f l
  | y :: t, x, h => by
    simp only [wtL]
    rcases List.mem_cons.1 h with rfl | h
    · omega
    · have := wtL_mem f t x h; omega
theorem wtL_bound {α : Type} (f : α → Nat) (k : Nat) : ∀ (l : List α), (∀ x ∈ l, f x ≤ k) → wtL f l ≤ (k + 1) * l.length
  | [], _ => by simp [wtL]
  | x :: t, h => by
    have h1 := wtL_bound f k t (fun y hy => h y (by simp [hy]))
    have h2 := h x (by simp)
    simp only [wtL, List.length_cons, Nat.mul_succ]
    omega
def wtHold (a : Hold) : Nat := a.Id.size
theorem wtHold_eq (a : Hold) : wtHold a = a.Id.size := rfl
def wtRing (a : Ring) : Nat := a.Counts.length + a.Sums.length
theorem wtRing_eq (a : Ring) : wtRing a = a.Counts.length + a.Sums.length := rfl
def wtSlot (a : Slot) : Nat := a.Trace.size + a.Mti.size + a.Reply.length
theorem wtSlot_eq (a : Slot) : wtSlot a = a.Trace.size + a.Mti.size + a.Reply.length := rfl
def wtAcct (a : Acct) : Nat := a.Id.size + wtL wtHold a.Holds + wtRing a.Ring + wtL wtSlot a.Slots
theorem wtAcct_eq (a : Acct) : wtAcct a = a.Id.size + wtL wtHold a.Holds + wtRing a.Ring + wtL wtSlot a.Slots := rfl
theorem tf (b : Bool) : b = true ∨ b = false := by cases b <;> simp
/-- Where the first one is, told behind p. -/
def found {α : Type} (q : α → Bool) (t p : List α) : Lo Unit Int := match t.findIdx? q with | some i => .ret ((p.length + i : Nat) : Int) | none => .out ()
theorem find_loop {α : Type} {L : List α → List α → Option (Lo Unit Int)} (q : α → Bool) (h0 : ∀ p, L [] p = some (.out ()))
    (h1 : ∀ x t p, L (x :: t) p = if q x = true then some (.ret (p.length : Int)) else L t (p ++ [x])) : ∀ (t p : List α), L t p = some (found q t p)
  | [], p => by rw [h0]; rfl
  | x :: t, p => by
    rw [h1, find_loop q h0 h1 t (p ++ [x])]
    unfold found
    rw [List.findIdx?_cons]
    cases q x with
    | true => simp
    | false =>
      simp only [Bool.false_eq_true, if_false]
      cases t.findIdx? q with
      | none => rfl
      | some i => simp only [Option.map_some, List.length_append, List.length_cons, List.length_nil]; congr 3; omega
/-- The index of the first one, or -1. -/
def idxOf {α : Type} (q : α → Bool) (l : List α) : Int := match l.findIdx? q with | some i => (i : Int) | none => -1
theorem found_nil {α : Type} (q : α → Bool) (l : List α) : (Lo.elim (found q l []) (fun _ => some (-1)) (fun i => some i) : Option Int) = some (idxOf q l) := by
  unfold found idxOf
  cases l.findIdx? q with
  | none => rfl
  | some i => simp [Lo.elim]
theorem idxOf_lt {α : Type} {q : α → Bool} {l : List α} (h : 0 ≤ idxOf q l) : ∃ x, l[(idxOf q l).toNat]? = some x ∧ q x = true ∧ (idxOf q l).toNat < l.length := by
  unfold idxOf at h ⊢
  cases hi : l.findIdx? q with
  | none => rw [hi] at h; exact absurd h (by decide)
  | some i =>
    obtain ⟨hl, hq, _⟩ := List.findIdx?_eq_some_iff_getElem.1 hi
    exact ⟨l[i], by simp [hl], hq, by simpa using hl⟩
theorem idxOf_neg {α : Type} {q : α → Bool} {l : List α} (h : idxOf q l < 0) : ∀ x ∈ l, q x = false := by
  unfold idxOf at h
  cases hi : l.findIdx? q with
  | none =>
    rw [List.findIdx?_eq_none_iff] at hi
    intro x hx
    simpa using hi x hx
  | some i => rw [hi] at h; exfalso; have h : (i : Int) < 0 := h; omega
theorem idxOf_ge {α : Type} (q : α → Bool) (l : List α) : -1 ≤ idxOf q l := by
  unfold idxOf
  cases l.findIdx? q with
  | none => show (-1 : Int) ≤ -1; omega
  | some i => show (-1 : Int) ≤ (i : Int); omega
theorem del_loop {α : Type} (q : α → Bool) {L : Nat → Int → Int → List α → Option (Int × List α)}
    (hL : ∀ n v1 v2 v3, L (n + 1) v1 v2 v3 = if (decide (v2 < (v3.length : Int))) = true then (if (decide (0 ≤ v2)) = true then (v3[v2.toNat]?).bind fun x1 => if q x1 = true then L n v1 (i64 (v2 + 1)) v3 else (if (decide (0 ≤ v1)) = true then (v3[v1.toNat]?).bind fun x2 => L n (i64 (v1 + 1)) (i64 (v2 + 1)) (v3.set v1.toNat x1) else none) else none) else some (v1, v3))
    (s : List α) (hs : s.length ≤ 4000000) : ∀ (n v1 v2 : Nat) (v3 : List α), v1 ≤ v2 → v2 ≤ s.length → v3.length = s.length → v3.take v1 = (s.take v2).filter (fun x => !q x) → v3.drop v2 = s.drop v2 → s.length - v2 < n →
    ∃ (k : Nat) (v' : List α), L n (v1 : Int) (v2 : Int) v3 = some ((k : Int), v') ∧ k ≤ v'.length ∧ v'.length ≤ s.length ∧ v'.take k = s.filter (fun x => !q x)
  | 0, v1, v2, v3, h1, h2, h3, h4, h5, hn => by omega
  | n + 1, v1, v2, v3, h1, h2, h3, h4, h5, hn => by
    rw [hL]
    by_cases hlt : v2 < s.length
    · have hv : v2 < v3.length := by omega
      have hx : v3[v2]? = s[v2]? := by
        have e1 : (v3.drop v2)[0]? = (s.drop v2)[0]? := by rw [h5]
        rw [List.getElem?_drop, List.getElem?_drop] at e1
        simpa using e1
      have hsx : s[v2]? = some s[v2] := List.getElem?_eq_getElem hlt
      rw [hsx] at hx
      generalize hxe : s[v2] = x at *
      have hi2 : i64 ((v2 : Int) + 1) = ((v2 + 1 : Nat) : Int) := by rw [i64_of (by omega) (by omega)]; omega
      have hi1 : i64 ((v1 : Int) + 1) = ((v1 + 1 : Nat) : Int) := by rw [i64_of (by omega) (by omega)]; omega
      have hc1 : ((v2 : Int) < (v3.length : Int)) := by omega
      have htk : s.take (v2 + 1) = s.take v2 ++ [x] := by rw [List.take_add_one, hsx]; rfl
      have hd3 : v3.drop (v2 + 1) = s.drop (v2 + 1) := by rw [← List.drop_drop, ← List.drop_drop, h5]
      simp only [hc1, decide_true, if_true, Int.natCast_nonneg, Int.toNat_natCast, hx, Option.bind_some, hi1, hi2]
      cases hlx : q x with
      | true =>
        obtain ⟨k, v', q1, q2⟩ := del_loop q hL s hs n v1 (v2 + 1) v3 (by omega) (by omega) h3 (by rw [h4, htk, List.filter_append]; simp [hlx]) hd3 (by omega)
        exact ⟨k, v', by simpa using q1, q2⟩
      | false =>
        have hv1 : v1 < v3.length := by omega
        have hg1 : v3[v1]? = some v3[v1] := List.getElem?_eq_getElem hv1
        obtain ⟨k, v', q1, q2⟩ := del_loop q hL s hs n (v1 + 1) (v2 + 1) (v3.set v1 x) (by omega) (by omega) (by simp [h3]) (by
          rw [htk, List.filter_append, List.take_add_one, List.take_set_of_le (by omega)]
          simp [hlx, h4, hv1]) (by rw [List.drop_set_of_lt (by omega)]; exact hd3) (by omega)
        exact ⟨k, v', by simpa [hg1] using q1, q2⟩
    · have hc1 : ¬ ((v2 : Int) < (v3.length : Int)) := by omega
      have : v2 = s.length := by omega
      subst this
      refine ⟨v1, v3, by simp [hc1], by omega, by omega, by rw [h4, List.take_length]⟩
theorem del_main {α : Type} (q : α → Bool) (z : α) {L : Nat → Int → Int → List α → Option (Int × List α)}
    (hL : ∀ n v1 v2 v3, L (n + 1) v1 v2 v3 = if (decide (v2 < (v3.length : Int))) = true then (if (decide (0 ≤ v2)) = true then (v3[v2.toNat]?).bind fun x1 => if q x1 = true then L n v1 (i64 (v2 + 1)) v3 else (if (decide (0 ≤ v1)) = true then (v3[v1.toNat]?).bind fun x2 => L n (i64 (v1 + 1)) (i64 (v2 + 1)) (v3.set v1.toNat x1) else none) else none) else some (v1, v3))
    (l : List α) (h : l.length ≤ 4000000) :
    (if (idxOf q l == (-1)) = true then some l else (L FUEL (idxOf q l) (i64 (idxOf q l + 1)) l).bind fun r3 =>
      if (decide (0 ≤ r3.1)) = true then (if (decide (r3.1 ≤ (r3.2.length : Int))) = true then
        (if (decide (r3.1 ≤ ((r3.2.take r3.1.toNat ++ (List.replicate (r3.2.length - r3.1.toNat) z ++ r3.2.drop (r3.1.toNat + (r3.2.length - r3.1.toNat)))).length : Int))) = true then
          some ((r3.2.take r3.1.toNat ++ (List.replicate (r3.2.length - r3.1.toNat) z ++ r3.2.drop (r3.1.toNat + (r3.2.length - r3.1.toNat)))).take r3.1.toNat)
        else none) else none) else none) = some (l.filter (fun x => !q x)) := by
  unfold idxOf
  cases hi : l.findIdx? q with
  | none =>
    rw [List.findIdx?_eq_none_iff] at hi
    have : l.filter (fun x => !q x) = l := List.filter_eq_self.2 fun x hx => by simpa using hi x hx
    simp [this]
  | some i =>
    obtain ⟨hlt, hp, hb⟩ := List.findIdx?_eq_some_iff_getElem.1 hi
    have hne : ((i : Int) == -1) = false := by rw [beq_eq_false_iff_ne]; omega
    have hi1 : i64 ((i : Int) + 1) = ((i + 1 : Nat) : Int) := by rw [i64_of (by omega) (by omega)]; omega
    have hpre : (l.take i).filter (fun x => !q x) = l.take i := List.filter_eq_self.2 fun x hx => by
      obtain ⟨j, hj, rfl⟩ := List.mem_iff_getElem.1 hx
      simp only [List.length_take] at hj
      have := hb j (by omega)
      rw [List.getElem_take]
      simpa using this
    obtain ⟨k, v', q1, q2, q3, q4⟩ := del_loop q hL l h FUEL i (i + 1) l (by omega) (by omega) rfl (by
      rw [List.take_add_one, List.filter_append, hpre, List.getElem?_eq_getElem hlt]
      simp [hp]) rfl (by unfold FUEL; omega)
    simp only [hne, Bool.false_eq_true, if_false, hi1]
    rw [q1]
    have hk : ((k : Int) ≤ (v'.length : Int)) := by omega
    have hlen : (v'.take k ++ (List.replicate (v'.length - k) z ++ v'.drop (k + (v'.length - k)))).length = v'.length := by simp; omega
    have htk : (v'.take k ++ (List.replicate (v'.length - k) z ++ v'.drop (k + (v'.length - k)))).take k = v'.take k := by
      rw [List.take_append_of_le_length (by simp; omega), List.take_take, Nat.min_self]
    simp only [Option.bind_some, Int.natCast_nonneg, decide_true, if_true, hk, Int.toNat_natCast, hlen, htk]
    exact congrArg some q4
theorem l01In_val (n lo hi : Int) : spec_l01In n lo hi = some (decide (lo ≤ n) && decide (n ≤ hi)) := by
  unfold spec_l01In
  by_cases h : lo ≤ n <;> simp [h]
theorem within_val (n lo hi : Int) : impl_within n lo hi = some (decide (lo ≤ n) && decide (n ≤ hi)) := by
  unfold impl_within
  by_cases h : lo ≤ n <;> simp [h]
def time (n : Int) : Bool := decide (0 ≤ n) && decide (n ≤ 1000000000)
theorem l06Time_val (n : Int) : spec_l06Time n = some (time n) := by unfold spec_l06Time; rw [l01In_val]; rfl
theorem isTime_val (n : Int) : impl_isTime n = some (time n) := by unfold impl_isTime; rw [within_val]; rfl
def money (n : Int) : Bool := decide (0 ≤ n) && decide (n ≤ 4611686018427387904)
theorem l01Money_val (n : Int) : spec_l01Money n = some (money n) := by
  unfold spec_l01Money money
  by_cases h : 0 ≤ n <;> simp [h]
theorem isMoney_val (n : Int) : impl_isMoney n = some (money n) := by unfold impl_isMoney; rw [within_val]; rfl
theorem spec_Digits_l0_tot (s : ByteArray) (hs : s.size ≤ 4000000) : ∀ (n : Nat) (v : Int), 0 ≤ v → v ≤ s.size → (s.size : Int) - v < n →
    ∃ y, spec_Digits_l0 s n v = some y ∧ impl_Digits_l0 s n v = some y ∧ ∀ u, y = .out u → ∀ i : Int, v ≤ i → i < s.size → 48 ≤ sAt s i ∧ sAt s i ≤ 57
  | 0, v, h0, hv, hn => by exfalso; omega
  | n + 1, v, h0, hv, hn => by
    unfold spec_Digits_l0 impl_Digits_l0
    by_cases h1 : v < (s.size : Int)
    · by_cases h2 : sAt s v < 48
      · exact ⟨.ret (), by simp [h1, h0, h2], by simp [h1, h0, h2], fun u e => by cases e⟩
      · by_cases h3 : 57 < sAt s v
        · exact ⟨.ret (), by simp [h1, h0, h2, h3], by simp [h1, h0, h2, h3], fun u e => by cases e⟩
        · have hi : i64 (v + 1) = v + 1 := i64_nn (by omega) (by omega)
          obtain ⟨y, e1, e2, e3⟩ := spec_Digits_l0_tot s hs n (v + 1) (by omega) (by omega) (by omega)
          refine ⟨y, by simp [h1, h0, h2, h3, hi, e1], by simp [h1, h0, h2, h3, hi, e2], fun u e i hv hi' => ?_⟩
          by_cases hiv : i = v
          · subst hiv; omega
          · exact e3 u e i (by omega) hi'
    · exact ⟨.out (), by simp [h1], by simp [h1], fun u _ i hv hi => by omega⟩
theorem beq_empty (s : ByteArray) : (s == bs []) = decide (s.size = 0) := by
  rw [beqB]
  by_cases h : s.size = 0
  · have : s = bs [] := by
      rcases s with ⟨d⟩
      have hd : d.size = 0 := h
      have : d = #[] := Array.eq_empty_of_size_eq_zero hd
      subst this; rfl
    rw [decide_eq_true h, decide_eq_true this]
  · rw [decide_eq_false h, decide_eq_false (fun e => h (by rw [e]; rfl))]
theorem Digits_tot (s : ByteArray) (hs : s.size ≤ 4000000) : ∃ b, spec_Digits s = some b ∧ impl_Digits s = some b ∧ (b = true → 0 < s.size ∧ ∀ i : Int, 0 ≤ i → i < s.size → 48 ≤ sAt s i ∧ sAt s i ≤ 57) := by
  obtain ⟨y, e1, e2, e3⟩ := spec_Digits_l0_tot s hs FUEL 0 (by omega) (by omega) (by unfold FUEL; omega)
  unfold spec_Digits impl_Digits
  rw [e1, e2]
  cases y with
  | ret u => exact ⟨false, rfl, rfl, fun h => by cases h⟩
  | out u =>
    refine ⟨decide (0 < (s.size : Int)), rfl, ?_, fun h => ⟨by have := of_decide_eq_true h; omega, fun i h0 hi => e3 u rfl i h0 hi⟩⟩
    simp only [Option.bind_some, Lo.elim, beq_empty]
    congr 1
    by_cases h : s.size = 0
    · simp [h]
    · rw [decide_eq_false h, decide_eq_true (show (0 : Int) < s.size by omega)]; rfl
theorem Luhn_l0_tot (s : ByteArray) (hs : s.size ≤ 4000000) (hd : ∀ i : Int, 0 ≤ i → i < s.size → 48 ≤ sAt s i ∧ sAt s i ≤ 57) : ∀ (n : Nat) (v w : Int) (b : Bool) (k : Int), k + 1 < n → -1 ≤ k → k < s.size → 0 ≤ v → v + 9 * (k + 1) ≤ 100000000 → w = v % 10 →
    ∃ y, impl_Luhn_l0 s n v b k = some y ∧ spec_Luhn_l0 s n w b k = some (y % 10) ∧ 0 ≤ y ∧ y ≤ 100000000
  | 0, v, w, b, k, hn, hk, hks, hv, hb, hw => by
    exfalso; omega
  | n + 1, v, w, b, k, hn, hk, hks, hv, hb, hw => by
    unfold impl_Luhn_l0 spec_Luhn_l0
    by_cases h0 : 0 ≤ k
    · obtain ⟨d1, d2⟩ := hd k h0 hks
      have hk1 : i64 (k - 1) = k - 1 := i64_of (by omega) (by omega)
      have hu : u8 (sAt s k - 48) = sAt s k - 48 := u8_of (by omega) (by omega)
      have hi : i64 (sAt s k - 48) = sAt s k - 48 := i64_of (by omega) (by omega)
      have hi2 : i64 (sAt s k) = sAt s k := i64_of (by omega) (by omega)
      have hi3 : i64 ((sAt s k - 48) * 2) = (sAt s k - 48) * 2 := i64_of (by omega) (by omega)
      have hi4 : i64 (2 * (sAt s k - 48)) = (sAt s k - 48) * 2 := by rw [Int.mul_comm]; exact hi3
      have hd0 : 0 ≤ sAt s k - 48 ∧ sAt s k - 48 ≤ 9 := by omega
      simp only [hk1, hu, hi2, hi, hi3, hi4]
      generalize sAt s k - 48 = d at *
      obtain ⟨g0, g9⟩ := hd0
      have hm : ∀ x, 0 ≤ x → x ≤ 9 → i64 (v + x) = v + x ∧ i64 (w + x) = w + x ∧ Int.tmod (w + x) 10 = (v + x) % 10 := fun x hx hx9 => by
        refine ⟨i64_of (by omega) (by omega), i64_of (by omega) (by omega), ?_⟩
        rw [tmod10 (by omega)]; omega
      by_cases hb' : b = true
      · by_cases h9 : 9 < d * 2
        · have h9' : i64 (d * 2 - 9) = d * 2 - 9 := i64_of (by omega) (by omega)
          obtain ⟨m1, m2, m3⟩ := hm (d * 2 - 9) (by omega) (by omega)
          obtain ⟨y, e1, e2, e3⟩ := Luhn_l0_tot s hs hd n (v + (d * 2 - 9)) ((v + (d * 2 - 9)) % 10) (!b) (k - 1) (by omega) (by omega) (by omega) (by omega) (by omega) rfl
          exact ⟨y, by simp only [h0, hks, hb', h9, h9', m1, m2, m3, decide_true, if_true]; rw [hb'] at e1; exact e1, by simp only [h0, hks, hb', h9, h9', m1, m2, m3, decide_true, if_true]; rw [hb'] at e2; exact e2, e3⟩
        · obtain ⟨m1, m2, m3⟩ := hm (d * 2) (by omega) (by omega)
          obtain ⟨y, e1, e2, e3⟩ := Luhn_l0_tot s hs hd n (v + d * 2) ((v + d * 2) % 10) (!b) (k - 1) (by omega) (by omega) (by omega) (by omega) (by omega) rfl
          exact ⟨y, by simp only [h0, hks, hb', h9, m1, m2, m3, decide_true, decide_false, if_true, Bool.false_eq_true, if_false]; rw [hb'] at e1; exact e1, by simp only [h0, hks, hb', h9, m1, m2, m3, decide_true, decide_false, if_true, Bool.false_eq_true, if_false]; rw [hb'] at e2; exact e2, e3⟩
      · have hbf : b = false := by simpa using hb'
        obtain ⟨m1, m2, m3⟩ := hm d (by omega) (by omega)
        obtain ⟨y, e1, e2, e3⟩ := Luhn_l0_tot s hs hd n (v + d) ((v + d) % 10) (!b) (k - 1) (by omega) (by omega) (by omega) (by omega) (by omega) rfl
        exact ⟨y, by simp only [h0, hks, hbf, m1, m2, m3, decide_true, if_true, Bool.false_eq_true, if_false]; rw [hbf] at e1; exact e1, by simp only [h0, hks, hbf, m1, m2, m3, decide_true, if_true, Bool.false_eq_true, if_false]; rw [hbf] at e2; exact e2, e3⟩
    · exact ⟨v, by simp [h0], by simp [h0, hw], hv, by omega⟩
theorem Luhn_tot (s : ByteArray) (hs : s.size ≤ 4000000) : ∃ y, spec_Luhn s = some y ∧ impl_Luhn s = some y := by
  obtain ⟨b, e1, e2, e3⟩ := Digits_tot s hs
  unfold spec_Luhn impl_Luhn
  rw [e1, e2]
  cases b with
  | false => exact ⟨-1, rfl, rfl⟩
  | true =>
    obtain ⟨hp, hd⟩ := e3 rfl
    have hi : i64 ((s.size : Int) - 1) = (s.size : Int) - 1 := i64_of (by omega) (by omega)
    obtain ⟨y, q1, q2, q3, q4⟩ := Luhn_l0_tot s hs hd FUEL 0 0 true ((s.size : Int) - 1) (by unfold FUEL; omega) (by omega) (by omega) (by omega) (by omega) rfl
    refine ⟨Int.tmod (i64 (10 - y % 10)) 10, ?_, ?_⟩
    · simp only [Option.bind_some, if_true, hi, q2]
    · simp only [Option.bind_some, if_true, hi, q1, tmod10 q3]
theorem LuhnOk_eq (s : ByteArray) (hs : s.size ≤ 4000000) : ∃ y, spec_LuhnOk s = some y ∧ impl_LuhnOk s = some y := by
  obtain ⟨b, e1, e2, e3⟩ := Digits_tot s hs
  unfold spec_LuhnOk impl_LuhnOk
  have hi : i64 ((s.size : Int) - 1) = (s.size : Int) - 1 := i64_of (by omega) (by omega)
  rw [e1, e2, hi]
  by_cases h2 : (s.size : Int) < 2
  · have h1 : ¬ 1 ≤ (s.size : Int) - 1 := by omega
    refine ⟨false, ?_, by simp [h1]⟩
    cases b <;> simp [h2]
  · have h1 : 1 ≤ (s.size : Int) - 1 := by omega
    cases b with
    | false => exact ⟨false, by simp, by simp [h1]⟩
    | true =>
      obtain ⟨hp, hd⟩ := e3 rfl
      obtain ⟨d1, d2⟩ := hd ((s.size : Int) - 1) (by omega) (by omega)
      obtain ⟨y, q1, q2⟩ := Luhn_tot (s.extract 0 ((s.size : Int) - 1).toNat) (by simp; omega)
      have c1 : (0 : Int) ≤ (s.size : Int) - 1 := by omega
      have c2 : (s.size : Int) - 1 ≤ s.size := by omega
      have c3 : (s.size : Int) - 1 < s.size := by omega
      have hu : u8 (sAt s ((s.size : Int) - 1) - 48) = sAt s ((s.size : Int) - 1) - 48 := u8_of (by omega) (by omega)
      have hi2 : i64 (sAt s ((s.size : Int) - 1)) = sAt s ((s.size : Int) - 1) := i64_of (by omega) (by omega)
      refine ⟨y == i64 (sAt s ((s.size : Int) - 1) - 48), ?_, ?_⟩
      · simp only [Option.bind_some, if_true, h2, decide_false, Bool.false_eq_true, if_false, c1, c2, c3, decide_true, q1, hi2]
      · simp only [Option.bind_some, if_true, h1, c1, c2, c3, decide_true, q2, hu]
theorem AcctIdOk_eq (s : ByteArray) : ∃ y, spec_AcctIdOk s = some y ∧ impl_AcctIdOk s = some y ∧ (y = true → s.size ≤ 19) := by
  unfold spec_AcctIdOk impl_AcctIdOk
  by_cases h : (s.size : Int) ≤ 19
  · obtain ⟨y, e1, e2⟩ := LuhnOk_eq s (by omega)
    exact ⟨y, by simp [h, e1], by simp [h, e2], fun _ => by omega⟩
  · exact ⟨false, by simp [h], by simp [h], fun e => by cases e⟩
theorem HoldIdOk_l0_eq : ∀ (s : ByteArray) (n : Nat) (v : Int), impl_HoldIdOk_l0 s n v = spec_HoldIdOk_l0 s n v
  | s, 0, v => rfl
  | s, n + 1, v => by unfold impl_HoldIdOk_l0 spec_HoldIdOk_l0; simp only [HoldIdOk_l0_eq s n]
theorem HoldIdOk_l0_tot (s : ByteArray) (hs : s.size ≤ 4000000) : ∀ (n : Nat) (v : Int), 0 ≤ v → v ≤ s.size → (s.size : Int) - v < n → ∃ y, spec_HoldIdOk_l0 s n v = some y
  | 0, v, h0, hv, hn => by exfalso; omega
  | n + 1, v, h0, hv, hn => by
    unfold spec_HoldIdOk_l0
    by_cases h1 : v < (s.size : Int)
    · have hi : i64 (v + 1) = v + 1 := i64_nn (by omega) (by omega)
      obtain ⟨y, e⟩ := HoldIdOk_l0_tot s hs n (v + 1) (by omega) (by omega) (by omega)
      simp only [h1, h0, decide_true, if_true, hi, e]
      repeat' split
      all_goals exact ⟨_, rfl⟩
    · exact ⟨.out (), by simp [h1]⟩
theorem bytesLess_flip : ∀ a b : List UInt8, Op.bytesLess b a = !(Op.bytesLess a b || a == b)
  | [], [] => rfl
  | [], _ :: _ => rfl
  | _ :: _, [] => rfl
  | a :: x, b :: y => by
    have ih := bytesLess_flip x y
    unfold Op.bytesLess
    rw [ih]
    by_cases h1 : a < b
    · have h2 : ¬ b < a := by have := UInt8.lt_iff_toNat_lt.1 h1; intro h; have := UInt8.lt_iff_toNat_lt.1 h; omega
      have h3 : ¬ b = a := by intro e; subst e; exact h2 h1
      simp [h1, h2, h3]
    · by_cases h2 : b < a
      · have h3 : ¬ a = b := by intro e; subst e; exact h1 h2
        have h4 : ¬ b = a := fun e => h3 e.symm
        simp [h1, h2, h3]
      · have h3 : a = b := by
          apply UInt8.toNat_inj.1
          have := mt UInt8.lt_iff_toNat_lt.2 h1
          have := mt UInt8.lt_iff_toNat_lt.2 h2
          omega
        subst h3
        simp [h1]
theorem less_flip (a b : ByteArray) : Op.bytesLess b.toList a.toList = !(Op.bytesLess a.toList b.toList || (a == b)) := by
  rw [beq_toListBytes]; exact bytesLess_flip _ _
theorem HoldIdOk_tot (s : ByteArray) (hs : s.size ≤ 4000000) : ∃ y, spec_HoldIdOk s = some y ∧ impl_HoldIdOk s = some y ∧ (y = true → s.size ≤ 6) := by
  obtain ⟨y, e⟩ := HoldIdOk_l0_tot s hs FUEL 0 (by omega) (by omega) (by unfold FUEL; omega)
  unfold spec_HoldIdOk impl_HoldIdOk
  rw [HoldIdOk_l0_eq, e]
  cases y with
  | ret u => exact ⟨false, rfl, rfl, fun h => by cases h⟩
  | out u =>
    refine ⟨decide ((1 : Int) ≤ s.size) && decide ((s.size : Int) ≤ 6), ?_, ?_, fun h => ?_⟩
    · simp only [Option.bind_some, Lo.elim, l01In_val]
    · simp only [Option.bind_some, Lo.elim, within_val]
    · simp only [Bool.and_eq_true, decide_eq_true_eq] at h; omega
theorem HoldOk_tot (h : Hold) (hs : h.Id.size ≤ 4000000) : ∃ y, spec_HoldOk h = some y ∧ impl_HoldOk h = some y ∧ (y = true → h.Id.size ≤ 6 ∧ 1 ≤ h.Amount ∧ h.Amount ≤ 9007199254740992 ∧ time h.Due = true) := by
  obtain ⟨y, e1, e2, e3⟩ := HoldIdOk_tot h.Id hs
  unfold spec_HoldOk impl_HoldOk
  rw [e1, e2]
  cases y with
  | false => exact ⟨false, rfl, rfl, fun e => by cases e⟩
  | true =>
    simp only [Option.bind_some, if_true, l01In_val, within_val, l06Time_val, isTime_val]
    by_cases ha : (decide (1 ≤ h.Amount) && decide (h.Amount ≤ 9007199254740992)) = true
    · rw [ha]
      refine ⟨time h.Due, rfl, rfl, fun ht => ⟨e3 rfl, ?_⟩⟩
      simp only [Bool.and_eq_true, decide_eq_true_eq] at ha
      exact ⟨ha.1, ha.2, ht⟩
    · have : (decide (1 ≤ h.Amount) && decide (h.Amount ≤ 9007199254740992)) = false := by simpa using ha
      rw [this]
      exact ⟨false, rfl, rfl, fun e => by cases e⟩
theorem HoldsOk_l0_tot (l : List Hold) (hl : l.length ≤ 274877906944) : ∀ (t p : List Hold), l = p ++ t → (∀ h ∈ t, h.Id.size ≤ 4000000) →
    ∃ y, spec_HoldsOk_l0 l t p = some y ∧ impl_HoldsOk_l0 l t p = some y ∧ ∀ u, y = .out u → ∀ h ∈ t, h.Id.size ≤ 6 ∧ 1 ≤ h.Amount ∧ h.Amount ≤ 9007199254740992 ∧ time h.Due = true
  | [], p, e, hs => ⟨.out (), rfl, rfl, fun _ _ h hh => by simp at hh⟩
  | x :: t, p, e, hs => by
    obtain ⟨y, e1, e2, e3⟩ := HoldOk_tot x (hs x (by simp))
    obtain ⟨z, f1, f2, f3⟩ := HoldsOk_l0_tot l hl t (p ++ [x]) (by rw [e]; simp) (fun h hh => hs h (by simp [hh]))
    unfold spec_HoldsOk_l0 impl_HoldsOk_l0
    rw [e1, e2]
    have f3' : y = true → ∀ u, z = .out u → ∀ h ∈ x :: t, h.Id.size ≤ 6 ∧ 1 ≤ h.Amount ∧ h.Amount ≤ 9007199254740992 ∧ time h.Due = true := fun hy u hz h hh => by
      rcases List.mem_cons.1 hh with rfl | hh
      · exact e3 hy
      · exact f3 u hz h hh
    cases y with
    | false => exact ⟨.ret (), rfl, rfl, fun u e => by cases e⟩
    | true =>
      simp only [Option.bind_some, if_true]
      by_cases hp : (0 : Int) < (p.length : Int)
      · have hpl : p.length ≤ l.length := by rw [e]; simp
        have hi : i64 ((p.length : Int) - 1) = (p.length : Int) - 1 := i64_of (by omega) (by omega)
        have hn : ((p.length : Int) - 1).toNat < l.length := by rw [e]; simp; omega
        have hg : l[((p.length : Int) - 1).toNat]? = some l[((p.length : Int) - 1).toNat] := List.getElem?_eq_getElem hn
        have h1 : (0 : Int) ≤ (p.length : Int) - 1 := by omega
        simp only [hp, hi, h1, decide_true, if_true, hg, Option.bind_some, less_flip x.Id]
        by_cases hb : (Op.bytesLess x.Id.toList l[((p.length : Int) - 1).toNat].Id.toList || x.Id == l[((p.length : Int) - 1).toNat].Id) = true
        · rw [hb]
          exact ⟨.ret (), by simp, by simp, fun u e => by cases e⟩
        · have hb' : (Op.bytesLess x.Id.toList l[((p.length : Int) - 1).toNat].Id.toList || x.Id == l[((p.length : Int) - 1).toNat].Id) = false := by simpa using hb
          rw [hb']
          exact ⟨z, by simpa using f1, by simpa using f2, f3' rfl⟩
      · simp only [hp, decide_false, Bool.false_eq_true, if_false]
        exact ⟨z, f1, f2, f3' rfl⟩
theorem HoldsOk_tot (l : List Hold) (hl : l.length ≤ 274877906944) (hs : ∀ h ∈ l, h.Id.size ≤ 4000000) : ∃ y, spec_HoldsOk l = some y ∧ impl_HoldsOk l = some y ∧ (y = true → l.length ≤ 4 ∧ ∀ h ∈ l, h.Id.size ≤ 6 ∧ 1 ≤ h.Amount ∧ h.Amount ≤ 9007199254740992 ∧ time h.Due = true) := by
  obtain ⟨y, e1, e2, e3⟩ := HoldsOk_l0_tot l hl l [] rfl hs
  unfold spec_HoldsOk impl_HoldsOk
  rw [capOk_of hl, e1, e2]
  cases y with
  | ret u => exact ⟨false, rfl, rfl, fun e => by cases e⟩
  | out u => exact ⟨decide ((l.length : Int) ≤ 4), rfl, rfl, fun h => ⟨by have := of_decide_eq_true h; omega, e3 u rfl⟩⟩
theorem Concat_val (a b : List Int) (ha : a.length ≤ 100000000000) (hb : b.length ≤ 100000000000) : slices_Concat_int [a, b] = some (a ++ b) := by
  have h1 : i64 (0 + (a.length : Int)) = (a.length : Int) := by rw [Int.zero_add]; exact i64_of (by omega) (by omega)
  have h2 : i64 ((a.length : Int) + (b.length : Int)) = (a.length : Int) + (b.length : Int) := i64_of (by omega) (by omega)
  have n1 : ¬ (a.length : Int) < 0 := by omega
  have n2 : ¬ (a.length : Int) + (b.length : Int) < 0 := by omega
  have hg : slices_Grow_int_nil ((a.length : Int) + (b.length : Int)) = some [] := by
    unfold slices_Grow_int_nil
    have h3 : i64 ((a.length : Int) + (b.length : Int) - 0) = (a.length : Int) + (b.length : Int) := by rw [Int.sub_zero]; exact h2
    rw [h3]
    have hc : capOk ((a.length : Int) + (b.length : Int)).toNat = true := capOk_of (by omega)
    rw [hc]
    simp [n2]
  unfold slices_Concat_int
  have c0 : capOk [a, b].length = true := rfl
  have cA : capOk (([] : List Int).length + a.length) = true := capOk_of (by simp; omega)
  have cB : capOk ((([] : List Int) ++ a).length + b.length) = true := capOk_of (by simp; omega)
  simp only [c0, if_true, slices_Concat_int_l0, h1, h2, n1, n2, decide_false, Bool.false_eq_true, if_false, Option.bind_some, hg, slices_Concat_int_l1, cA, cB]
  simp
theorem impl_RingOk_l0_val (r : Ring) (c : List Int) : ∀ t : List Int, impl_RingOk_l0 r c t = some (if t.all money = true then .out () else .ret ())
  | [] => rfl
  | x :: t => by
    unfold impl_RingOk_l0
    rw [isMoney_val, impl_RingOk_l0_val r c t]
    cases h : money x <;> simp [h]
theorem spec_RingOk_l0_val (r : Ring) : ∀ (t p : List Int), r.Counts = p ++ t → r.Sums.length = r.Counts.length → spec_RingOk_l0 r t p = some (if (t.all money && (r.Sums.drop p.length).all money) = true then .out () else .ret ())
  | [], p, e, hl => by
    have : r.Sums.drop p.length = [] := List.drop_eq_nil_of_le (by rw [hl, e]; simp)
    rw [this]; rfl
  | x :: t, p, e, hl => by
    have hlt : p.length < r.Sums.length := by rw [hl, e]; simp
    have hd : r.Sums.drop p.length = r.Sums[p.length] :: r.Sums.drop (p.length + 1) := List.drop_eq_getElem_cons hlt
    have ih := spec_RingOk_l0_val r t (p ++ [x]) (by rw [e]; simp) hl
    unfold spec_RingOk_l0
    rw [l01Money_val]
    have hg : r.Sums[((p.length : Int)).toNat]? = some r.Sums[p.length] := by simp [hlt]
    rw [hg, hd, ih]
    simp only [Option.bind_some, l01Money_val, List.length_append, List.length_cons, List.length_nil, Nat.zero_add, List.all_cons]
    by_cases h : money x = true <;> by_cases h2 : money r.Sums[p.length] = true <;> simp [h, h2]
theorem RingOk_tot (r : Ring) (hc : r.Counts.length ≤ 100000000000) (hs : r.Sums.length ≤ 100000000000) : ∃ y, spec_RingOk r = some y ∧ impl_RingOk r = some y ∧ (y = true → r.Sums.length = r.Counts.length ∧ r.Counts.length ≤ 8 ∧ 1 ≤ r.Counts.length ∧ 1 ≤ r.Span ∧ r.Span ≤ 1000 ∧ time r.Head = true ∧ r.Counts.all money = true ∧ r.Sums.all money = true) := by
  unfold spec_RingOk impl_RingOk
  rw [Concat_val _ _ hc hs]
  have cc : capOk (r.Counts ++ r.Sums).length = true := capOk_of (by simp; omega)
  have cd : capOk r.Counts.length = true := capOk_of (by omega)
  simp only [Option.bind_some, cc, cd, if_true, impl_RingOk_l0_val, l01In_val, within_val, l06Time_val, isTime_val]
  by_cases h1 : (decide (1 ≤ r.Span) && decide (r.Span ≤ 1000)) = true
  · by_cases h2 : (decide ((1 : Int) ≤ r.Counts.length) && decide ((r.Counts.length : Int) ≤ 8)) = true
    · by_cases h3 : r.Sums.length = r.Counts.length
      · have h3' : ((r.Sums.length : Int) == (r.Counts.length : Int)) = true := by rw [h3]; simp
        have h3'' : ((r.Sums.length : Int) != (r.Counts.length : Int)) = false := by rw [h3]; simp
        rw [spec_RingOk_l0_val r r.Counts [] rfl h3]
        simp only [h1, h2, h3', h3'', if_true, Bool.false_eq_true, if_false, List.all_append, List.length_nil, List.drop_zero, Option.bind_some]
        refine ⟨(r.Counts.all money && r.Sums.all money) && time r.Head, ?_, ?_, fun h => ?_⟩
        · cases time r.Head <;> cases (r.Counts.all money && r.Sums.all money) <;> simp [Lo.elim]
        · cases time r.Head <;> cases (r.Counts.all money && r.Sums.all money) <;> simp [Lo.elim]
        · simp only [Bool.and_eq_true, decide_eq_true_eq] at h h1 h2
          exact ⟨h3, by omega, by omega, h1.1, h1.2, h.2, h.1.1, h.1.2⟩
      · have h3' : ((r.Sums.length : Int) == (r.Counts.length : Int)) = false := by
          rw [beq_eq_false_iff_ne]; omega
        have h3'' : ((r.Sums.length : Int) != (r.Counts.length : Int)) = true := by
          rw [bne_iff_ne]; omega
        refine ⟨false, by simp only [h1, h2, h3'', if_true], ?_, fun e => by cases e⟩
        simp only [h1, h2, h3', if_true, Bool.false_eq_true, if_false]
        cases (r.Counts ++ r.Sums).all money <;> rfl
    · have h2' : (decide ((1 : Int) ≤ r.Counts.length) && decide ((r.Counts.length : Int) ≤ 8)) = false := by simpa using h2
      refine ⟨false, by simp only [h1, h2', if_true, Bool.false_eq_true, if_false], ?_, fun e => by cases e⟩
      simp only [h1, h2', if_true, Bool.false_eq_true, if_false]
      cases (r.Counts ++ r.Sums).all money <;> rfl
  · have h1' : (decide (1 ≤ r.Span) && decide (r.Span ≤ 1000)) = false := by simpa using h1
    refine ⟨false, by simp only [h1', Bool.false_eq_true, if_false], ?_, fun e => by cases e⟩
    simp only [h1', Bool.false_eq_true, if_false]
    cases (r.Counts ++ r.Sums).all money <;> rfl
theorem isWide_val (s : ByteArray) (n : Int) (b : Bool) (h : impl_Digits s = some b) : impl_isWide s n = some (b && ((s.size : Int) == n)) := by
  unfold impl_isWide
  rw [h]
  cases b <;> rfl
theorem SlotOk_tot (s : Slot) (h1 : s.Trace.size ≤ 4000000) (h2 : s.Mti.size ≤ 4000000) : ∃ y, spec_SlotOk s = some y ∧ impl_SlotOk s = some y ∧ (y = true → s.Trace.size = 6 ∧ s.Mti.size = 4 ∧ s.Reply.length ≤ 200) := by
  obtain ⟨a, a1, a2, a3⟩ := Digits_tot s.Trace h1
  obtain ⟨b, b1, b2, b3⟩ := Digits_tot s.Mti h2
  unfold spec_SlotOk impl_SlotOk
  rw [a1, isWide_val _ _ _ a2, b1, isWide_val _ _ _ b2]
  cases a with
  | false => exact ⟨false, rfl, rfl, fun e => by cases e⟩
  | true =>
    simp only [Option.bind_some, if_true, Bool.true_and]
    by_cases c1 : ((s.Trace.size : Int) == 6) = true
    · simp only [c1, if_true]
      cases b with
      | false => exact ⟨false, rfl, rfl, fun e => by cases e⟩
      | true =>
        simp only [if_true, Bool.true_and]
        by_cases c2 : ((s.Mti.size : Int) == 4) = true
        · simp only [c2, if_true, l01In_val, within_val, Option.bind_some]
          refine ⟨_, rfl, rfl, fun h => ?_⟩
          simp only [Bool.and_eq_true, decide_eq_true_eq] at h
          have e1 := eq_of_beq c1
          have e2 := eq_of_beq c2
          exact ⟨by omega, by omega, by omega⟩
        · have c2' : ((s.Mti.size : Int) == 4) = false := by simpa using c2
          simp only [c2', Bool.false_eq_true, if_false]
          exact ⟨false, rfl, rfl, fun e => by cases e⟩
    · have c1' : ((s.Trace.size : Int) == 6) = false := by simpa using c1
      simp only [c1', Bool.false_eq_true, if_false]
      exact ⟨false, rfl, rfl, fun e => by cases e⟩
def slotIs (a b : ByteArray) (s : Slot) : Bool := (s.Trace == a) && (s.Mti == b)
theorem slotAt_1_val (s : Slot) (a b : ByteArray) : impl_slotAt_1 s a b = some (slotIs a b s) := by
  unfold impl_slotAt_1 slotIs
  cases (s.Trace == a) <;> rfl
theorem spec_SlotsOk_l1_val (l p : List Slot) (x : Slot) : ∀ t : List Slot, spec_SlotsOk_l1 l p x t = some (if t.any (slotIs x.Trace x.Mti) = true then .ret () else .out ())
  | [] => rfl
  | y :: t => by
    unfold spec_SlotsOk_l1
    rw [spec_SlotsOk_l1_val l p x t]
    simp only [List.any_cons]
    unfold slotIs
    by_cases h : (y.Trace == x.Trace) = true <;> by_cases h2 : (y.Mti == x.Mti) = true <;> simp [h, h2]
theorem slotAt_l0_val (l : List Slot) (a b : ByteArray) : ∀ t p : List Slot, slices_IndexFunc_impl_Slot_impl_slotAt_1_l0 l a b t p = some (match t.findIdx? (slotIs a b) with | some i => .ret ((p.length + i : Nat) : Int) | none => .out ())
  | [], p => rfl
  | y :: t, p => by
    unfold slices_IndexFunc_impl_Slot_impl_slotAt_1_l0
    rw [slotAt_1_val, slotAt_l0_val l a b t (p ++ [y])]
    simp only [Option.bind_some, List.findIdx?_cons]
    by_cases h : slotIs a b y = true
    · simp [h]
    · have h' : slotIs a b y = false := by simpa using h
      rw [h']
      simp only [Bool.false_eq_true, if_false]
      cases t.findIdx? (slotIs a b) with
      | none => rfl
      | some i => simp only [Option.map_some, List.length_append, List.length_cons, List.length_nil]; congr 3; omega
theorem slotAt_val (l : List Slot) (hl : l.length ≤ 274877906944) (a b : ByteArray) : impl_slotAt l a b = some (match l.findIdx? (slotIs a b) with | some i => (i : Int) | none => -1) := by
  unfold impl_slotAt slices_IndexFunc_impl_Slot_impl_slotAt_1
  rw [capOk_of hl, slotAt_l0_val]
  cases l.findIdx? (slotIs a b) with
  | none => rfl
  | some i => simp [Lo.elim]
theorem SlotsOk_l0_tot (l : List Slot) (hl : l.length ≤ 274877906944) : ∀ (t p : List Slot), l = p ++ t → (∀ s ∈ t, s.Trace.size ≤ 4000000 ∧ s.Mti.size ≤ 4000000) →
    ∃ y, spec_SlotsOk_l0 l t p = some y ∧ impl_SlotsOk_l0 l t p = some y ∧ ∀ u, y = .out u → ∀ s ∈ t, s.Trace.size = 6 ∧ s.Mti.size = 4 ∧ s.Reply.length ≤ 200
  | [], p, e, hs => ⟨.out (), rfl, rfl, fun _ _ h hh => by simp at hh⟩
  | x :: t, p, e, hs => by
    obtain ⟨y, e1, e2, e3⟩ := SlotOk_tot x (hs x (by simp)).1 (hs x (by simp)).2
    obtain ⟨z, f1, f2, f3⟩ := SlotsOk_l0_tot l hl t (p ++ [x]) (by rw [e]; simp) (fun h hh => hs h (by simp [hh]))
    unfold spec_SlotsOk_l0 impl_SlotsOk_l0
    rw [e1, e2]
    have f3' : y = true → ∀ u, z = .out u → ∀ s ∈ x :: t, s.Trace.size = 6 ∧ s.Mti.size = 4 ∧ s.Reply.length ≤ 200 := fun hy u hz h hh => by
      rcases List.mem_cons.1 hh with rfl | hh
      · exact e3 hy
      · exact f3 u hz h hh
    cases y with
    | false => exact ⟨.ret (), rfl, rfl, fun u e => by cases e⟩
    | true =>
      have htk : (l.take ((p.length : Int).toNat)).drop 0 = p := by rw [e]; simp
      have hple : (p.length : Int) ≤ (l.length : Int) := by rw [e]; simp; omega
      have h0 : (0 : Int) ≤ (p.length : Int) := by omega
      have hcp : capOk p.length = true := capOk_of (by omega)
      have hx : slotIs x.Trace x.Mti x = true := by unfold slotIs; rw [beqB, beqB]; simp
      simp only [Option.bind_some, if_true, h0, hple, decide_true, htk, hcp, spec_SlotsOk_l1_val, slotAt_val l hl]
      by_cases ha : p.any (slotIs x.Trace x.Mti) = true
      · have : ∃ i, l.findIdx? (slotIs x.Trace x.Mti) = some i ∧ i < p.length := by
          rw [e, List.findIdx?_append]
          cases hi : p.findIdx? (slotIs x.Trace x.Mti) with
          | none =>
            exfalso
            rw [List.findIdx?_eq_none_iff] at hi
            obtain ⟨s, hs1, hs2⟩ := List.any_eq_true.1 ha
            have := hi s hs1
            rw [hs2] at this
            cases this
          | some i => exact ⟨i, rfl, (List.findIdx?_eq_some_iff_getElem.1 hi).1⟩
        obtain ⟨i, hi, hlt⟩ := this
        rw [hi]
        have hne : ((i : Int) != (p.length : Int)) = true := by rw [bne_iff_ne]; omega
        simp only [ha, if_true, Lo.elim, hne]
        exact ⟨.ret (), rfl, rfl, fun u e => by cases e⟩
      · have ha' : p.any (slotIs x.Trace x.Mti) = false := by simpa using ha
        have hi : l.findIdx? (slotIs x.Trace x.Mti) = some p.length := by
          rw [e, List.findIdx?_append]
          have : p.findIdx? (slotIs x.Trace x.Mti) = none := by
            rw [List.findIdx?_eq_none_iff]
            intro s hs1
            have := List.any_eq_false.1 ha' s hs1
            simpa using this
          rw [this, List.findIdx?_cons, hx]
          simp
        rw [hi]
        have hne : ((p.length : Int) != (p.length : Int)) = false := by simp
        simp only [ha', hne, Bool.false_eq_true, if_false, Lo.elim]
        exact ⟨z, f1, f2, f3' rfl⟩
theorem SlotsOk_tot (l : List Slot) (hl : l.length ≤ 274877906944) (hs : ∀ s ∈ l, s.Trace.size ≤ 4000000 ∧ s.Mti.size ≤ 4000000) : ∃ y, spec_SlotsOk l = some y ∧ impl_SlotsOk l = some y ∧ (y = true → l.length ≤ 6 ∧ ∀ s ∈ l, s.Trace.size = 6 ∧ s.Mti.size = 4 ∧ s.Reply.length ≤ 200) := by
  obtain ⟨y, e1, e2, e3⟩ := SlotsOk_l0_tot l hl l [] rfl hs
  unfold spec_SlotsOk impl_SlotsOk
  rw [capOk_of hl, e1, e2]
  cases y with
  | ret u => exact ⟨false, rfl, rfl, fun e => by cases e⟩
  | out u => exact ⟨decide ((l.length : Int) ≤ 6), rfl, rfl, fun h => ⟨by have := of_decide_eq_true h; omega, e3 u rfl⟩⟩
def cl (x : Int) : Int := if x < 0 then 0 else if 4611686018427387904 < x then 4611686018427387904 else x
theorem cl_rng (x : Int) : 0 ≤ cl x ∧ cl x ≤ 4611686018427387904 := by unfold cl; split; omega; split <;> omega
theorem clamp_val (x : Int) : spec_l01Clamp x 0 4611686018427387904 = some (cl x) := by
  unfold spec_l01Clamp cl
  by_cases h : x < 0 <;> by_cases h2 : 4611686018427387904 < x <;> simp [h, h2]
theorem imax_cl (x : Int) : imax 0 (imin x 4611686018427387904) = cl x := by
  unfold imax imin cl
  by_cases h : x < 0 <;> by_cases h2 : 4611686018427387904 < x <;> simp [h, h2] <;> omega
def satAdd (a b : Int) : Int := if cl a + cl b ≤ 4611686018427387904 then cl a + cl b else 4611686018427387904
theorem AddSat_val (a b : Int) : spec_AddSat a b = some (satAdd a b) ∧ impl_AddSat a b = some (satAdd a b) := by
  obtain ⟨a1, a2⟩ := cl_rng a
  obtain ⟨b1, b2⟩ := cl_rng b
  have hi : i64 (4611686018427387904 - cl b) = 4611686018427387904 - cl b := i64_of (by omega) (by omega)
  have ma : money (cl a) = true := by simp [money, a1, a2]
  have mb : money (cl b) = true := by simp [money, b1, b2]
  unfold spec_AddSat impl_AddSat spec_AddMoney satAdd
  simp only [clamp_val, imax_cl, Option.bind_some, l01Money_val, ma, mb, if_true, hi]
  by_cases h : 4611686018427387904 - cl b < cl a
  · have h2 : ¬ cl a + cl b ≤ 4611686018427387904 := by omega
    simp [h, h2]
  · have h2 : cl a + cl b ≤ 4611686018427387904 := by omega
    have hj : i64 (cl a + cl b) = cl a + cl b := i64_of (by omega) (by omega)
    simp [h, h2, hj]
theorem Stored_l0_val (l : List Hold) : ∀ (t : List Hold) (v : Int), ∃ y, spec_Stored_l0 l t v = some y ∧ impl_Stored_l0 l t v = some y
  | [], v => ⟨v, rfl, rfl⟩
  | x :: t, v => by
    obtain ⟨y, e1, e2⟩ := Stored_l0_val l t (satAdd v x.Amount)
    unfold spec_Stored_l0 impl_Stored_l0
    rw [(AddSat_val _ _).1, (AddSat_val _ _).2]
    exact ⟨y, e1, e2⟩
theorem Stored_tot (l : List Hold) (hl : l.length ≤ 274877906944) : ∃ y, spec_Stored l = some y ∧ impl_Stored l = some y := by
  obtain ⟨y, e1, e2⟩ := Stored_l0_val l l 0
  unfold spec_Stored impl_Stored
  rw [capOk_of hl, e1, e2]
  exact ⟨y, rfl, rfl⟩
/-- Of a size that a law lets through. -/
def szHold (h : Hold) : Prop := h.Id.size ≤ 4000000
def szRing (r : Ring) : Prop := r.Counts.length ≤ 4000000 ∧ r.Sums.length ≤ 4000000
def szSlot (s : Slot) : Prop := s.Trace.size ≤ 4000000 ∧ s.Mti.size ≤ 4000000 ∧ s.Reply.length ≤ 4000000
def szAcct (a : Acct) : Prop := a.Id.size ≤ 4000000 ∧ (a.Holds.length ≤ 4000000 ∧ ∀ h ∈ a.Holds, szHold h) ∧ szRing a.Ring ∧ (a.Slots.length ≤ 4000000 ∧ ∀ s ∈ a.Slots, szSlot s)
theorem AcctOk_tot (a : Acct) (h : szAcct a) : ∃ y, spec_AcctOk a = some y ∧ impl_AcctOk a = some y ∧ (y = true → a.Holds.length ≤ 4 ∧ a.Slots.length ≤ 6) := by
  obtain ⟨h1, ⟨h2, h3⟩, ⟨h4, h5⟩, h6, h7⟩ := h
  obtain ⟨b1, p1, q1, r1⟩ := AcctIdOk_eq a.Id
  obtain ⟨b2, p2, q2, r2⟩ := HoldsOk_tot a.Holds (by omega) (fun x hx => by have := h3 x hx; unfold szHold at this; omega)
  obtain ⟨b3, p3, q3, r3⟩ := RingOk_tot a.Ring (by omega) (by omega)
  obtain ⟨b4, p4, q4, r4⟩ := SlotsOk_tot a.Slots (by omega) (fun x hx => by have := h7 x hx; unfold szSlot at this; omega)
  obtain ⟨s, p5, q5⟩ := Stored_tot a.Holds (by omega)
  obtain ⟨p6, q6⟩ := AddSat_val a.Posted s
  unfold spec_AcctOk impl_AcctOk
  simp only [p1, q1, p2, q2, p3, q3, p4, q4, p5, q5, p6, q6, l01In_val, within_val, l01Money_val, isMoney_val, Option.bind_some]
  cases b1 <;> simp only [Bool.false_eq_true, if_false, if_true]
  · exact ⟨_, rfl, rfl, fun e => by cases e⟩
  repeat' split
  all_goals first
    | exact ⟨_, rfl, rfl, fun e => by cases e⟩
    | (rename_i g1 g2 g3 g4; exact ⟨_, rfl, rfl, fun _ => ⟨(r2 (by assumption)).1, (r4 (by assumption)).1⟩⟩)
theorem Clone_int_val (l : List Int) (h : l.length ≤ 274877906944) : slices_Clone_int l = some l := by unfold slices_Clone_int; rw [capOk_of h]; rfl
theorem Clone_byte_val (l : List Int) (h : l.length ≤ 274877906944) : slices_Clone_byte l = some l := by unfold slices_Clone_byte; rw [capOk_of h]; rfl
theorem Clone_Hold_val (l : List Hold) (h : l.length ≤ 274877906944) : slices_Clone_impl_Hold l = some l := by unfold slices_Clone_impl_Hold; rw [capOk_of h]; rfl
theorem l08Copy_l0_val (l : List Slot) : ∀ (t v : List Slot), v.length + t.length ≤ 274877906944 → (∀ s ∈ t, s.Reply.length ≤ 4000000) → spec_l08Copy_l0 l t v = some (v ++ t)
  | [], v, _, _ => by simp [spec_l08Copy_l0]
  | x :: t, v, hl, hs => by
    unfold spec_l08Copy_l0
    have h1 : capOk (0 + x.Reply.length) = true := capOk_of (by have := hs x (by simp); omega)
    have h2 : capOk (v.length + 1) = true := capOk_of (by simp at hl; omega)
    rw [h1, h2, l08Copy_l0_val l t (v ++ [x]) (by simp at hl ⊢; omega) (fun s hs' => hs s (by simp [hs']))]
    simp
theorem wtSlot_reply (s : Slot) (h : wtSlot s ≤ 4000000) : s.Reply.length ≤ 4000000 := by rw [wtSlot_eq] at h; omega
theorem l08Copy_val (l : List Slot) (h : wtL wtSlot l ≤ 4000000) : spec_l08Copy l = some l := by
  have hl := wtL_len wtSlot l
  unfold spec_l08Copy
  rw [capOk_of (by omega), l08Copy_l0_val _ _ _ (by simp; omega) (fun s hs => wtSlot_reply s (by have := wtL_mem wtSlot l s hs; omega))]
  rfl
theorem copySlots_l0_val (l : List Slot) : ∀ (t v : List Slot), v.length + t.length ≤ 274877906944 → (∀ s ∈ t, s.Reply.length ≤ 4000000) → impl_copySlots_l0 l t v = some (v ++ t)
  | [], v, _, _ => by simp [impl_copySlots_l0]
  | x :: t, v, hl, hs => by
    unfold impl_copySlots_l0
    have h2 : capOk (v.length + 1) = true := capOk_of (by simp at hl; omega)
    rw [Clone_byte_val _ (by have := hs x (by simp); omega), Option.bind_some, h2, copySlots_l0_val l t _ (by simp at hl ⊢; omega) (fun s hs' => hs s (by simp [hs']))]
    simp
theorem copySlots_val (l : List Slot) (h : wtL wtSlot l ≤ 4000000) : impl_copySlots l = some l := by
  have hl := wtL_len wtSlot l
  unfold impl_copySlots
  rw [capOk_of (by omega), copySlots_l0_val _ _ _ (by simp; omega) (fun s hs => wtSlot_reply s (by have := wtL_mem wtSlot l s hs; omega))]
  rfl
theorem Ring_copied_val (r : Ring) (h : wtRing r ≤ 4000000) : impl_Ring_copied r = some r := by
  rw [wtRing_eq] at h
  unfold impl_Ring_copied
  rw [Clone_int_val _ (by omega), Clone_int_val _ (by omega)]
  rfl
theorem Acct_copied_val (a : Acct) (h : wtAcct a ≤ 4000000) : impl_Acct_copied a = some a := by
  rw [wtAcct_eq] at h
  have hl := wtL_len wtHold a.Holds
  unfold impl_Acct_copied
  rw [Clone_Hold_val _ (by omega), Ring_copied_val _ (by omega), copySlots_val _ (by omega)]
  rfl
theorem szAcct_of (a : Acct) (h : wtAcct a ≤ 4000000) : szAcct a := by
  rw [wtAcct_eq, wtRing_eq] at h
  have h1 := wtL_len wtHold a.Holds
  have h2 := wtL_len wtSlot a.Slots
  refine ⟨by omega, ⟨by omega, fun x hx => ?_⟩, ⟨by omega, by omega⟩, by omega, fun x hx => ?_⟩
  · have := wtL_mem wtHold a.Holds x hx
    rw [wtHold_eq] at this
    unfold szHold; omega
  · have := wtL_mem wtSlot a.Slots x hx
    rw [wtSlot_eq] at this
    refine ⟨by omega, by omega, by omega⟩
/-- Is the account valid? -/
def acctOk (a : Acct) : Bool := (spec_AcctOk a).getD false
theorem AcctOk_val (a : Acct) (h : wtAcct a ≤ 4000000) : spec_AcctOk a = some (acctOk a) ∧ impl_AcctOk a = some (acctOk a) := by
  obtain ⟨b, e1, e2, e3⟩ := AcctOk_tot a (szAcct_of a h)
  unfold acctOk
  rw [e1, e2]
  exact ⟨rfl, rfl⟩
def live (now : Int) (h : Hold) : Bool := decide (now < h.Due)
theorem impl_LiveOnes_val (l : List Hold) (now : Int) (h : l.length ≤ 4000000) : impl_LiveOnes l now = some (l.filter (live now)) := by
  unfold impl_LiveOnes slices_DeleteFunc_impl_Hold_impl_LiveOnes_1 slices_IndexFunc_impl_Hold_impl_LiveOnes_1
  rw [Clone_Hold_val _ (by omega)]
  simp only [Option.bind_some, capOk_of (show l.length ≤ 274877906944 by omega), if_true]
  rw [find_loop (L := slices_IndexFunc_impl_Hold_impl_LiveOnes_1_l0 l now) (fun h => !live now h) (fun _ => rfl) (fun _ _ _ => rfl)]
  simp only [Option.bind_some, found_nil]
  rw [del_main (fun h => !live now h) (Hold.mk ByteArray.empty 0 0) (L := slices_DeleteFunc_impl_Hold_impl_LiveOnes_1_l0 now) (fun _ _ _ _ => rfl) l h]
  simp
/-- The account with its live holds. -/
def sweptH (a : Acct) (now : Int) : Acct := Acct.mk a.Id a.Limit a.Posted a.Most a.MostSum (a.Holds.filter (live now)) a.Ring a.Slots
def swept (a : Acct) (now : Int) : Acct := if (acctOk a && time now) = true then sweptH a now else a
theorem holds_len (a : Acct) (h : wtAcct a ≤ 4000000) : a.Holds.length ≤ 4000000 := by
  rw [wtAcct_eq] at h
  have := wtL_len wtHold a.Holds
  omega
theorem impl_AcctSwept_val (a : Acct) (now : Int) (h : wtAcct a ≤ 4000000) : impl_AcctSwept a now = some (swept a now) := by
  unfold impl_AcctSwept swept
  rw [Acct_copied_val a h, (AcctOk_val a h).2]
  simp only [Option.bind_some, isTime_val, impl_LiveOnes_val _ _ (holds_len a h)]
  cases acctOk a <;> cases time now <;> rfl
def zeroA : Acct := Acct.mk ByteArray.empty 0 0 0 0 [] (Ring.mk 0 0 [] []) []
def idIs (id : ByteArray) (h : Hold) : Bool := h.Id == id
theorem spec_HoldAt_val (l : List Hold) (id : ByteArray) (h : l.length ≤ 4000000) : spec_HoldAt l id = some (idxOf (idIs id) l) := by
  unfold spec_HoldAt
  rw [capOk_of (by omega), find_loop (L := spec_HoldAt_l0 l id) (idIs id) (fun _ => rfl) (fun _ _ _ => rfl)]
  exact found_nil _ _
theorem impl_HoldAt_val (l : List Hold) (id : ByteArray) (h : l.length ≤ 4000000) : impl_HoldAt l id = some (idxOf (idIs id) l) := by
  unfold impl_HoldAt slices_IndexFunc_impl_Hold_impl_HoldAt_1
  rw [capOk_of (by omega), find_loop (L := slices_IndexFunc_impl_Hold_impl_HoldAt_1_l0 l id) (idIs id) (fun _ => rfl) (fun _ _ _ => rfl)]
  show ((Lo.elim _ _ _ : Option Int).bind _) = _
  rw [found_nil]; rfl
theorem impl_HoldDrop_val (l : List Hold) (id : ByteArray) (h : l.length ≤ 4000000) : impl_HoldDrop l id = some (l.filter (fun x => !idIs id x)) := by
  unfold impl_HoldDrop slices_DeleteFunc_impl_Hold_impl_HoldDrop_1 slices_IndexFunc_impl_Hold_impl_HoldDrop_1
  rw [Clone_Hold_val _ (by omega)]
  simp only [Option.bind_some, capOk_of (show l.length ≤ 274877906944 by omega), if_true]
  rw [find_loop (L := slices_IndexFunc_impl_Hold_impl_HoldDrop_1_l0 l id) (idIs id) (fun _ => rfl) (fun _ _ _ => rfl)]
  simp only [Option.bind_some, found_nil]
  rw [del_main (idIs id) (Hold.mk ByteArray.empty 0 0) (L := slices_DeleteFunc_impl_Hold_impl_HoldDrop_1_l0 id) (fun _ _ _ _ => rfl) l h]
  simp
def holdIdOk (s : ByteArray) : Bool := (spec_HoldIdOk s).getD false
theorem HoldIdOk_val (s : ByteArray) (h : s.size ≤ 4000000) : spec_HoldIdOk s = some (holdIdOk s) ∧ impl_HoldIdOk s = some (holdIdOk s) := by
  obtain ⟨y, e1, e2, _⟩ := HoldIdOk_tot s h
  unfold holdIdOk
  rw [e1, e2]
  exact ⟨rfl, rfl⟩
theorem begin_val (a : Acct) (now : Int) (h : wtAcct a ≤ 4000000) : impl_begin a now = some (if (acctOk a && time now) = true then (sweptH a now, 0) else (zeroA, 1)) := by
  unfold impl_begin
  rw [(AcctOk_val a h).2, impl_AcctSwept_val a now h]
  simp only [Option.bind_some, isTime_val]
  unfold swept
  cases acctOk a <;> cases time now <;> rfl
/-- The list, later by so many places. -/
def sh (l : List Int) (d : Nat) (i : Nat) : Int := if d ≤ i then l.getD (i - d) 0 else 0
theorem shifted_l0_val (l : List Int) (d : Nat) (hd : d ≤ 2000000000) (hl : l.length ≤ 4000000) : ∀ (t p v : List Int), l = p ++ t → v.length = l.length → (∀ i, i < p.length → v[i]? = some (sh l d i)) → (∀ i, p.length ≤ i → i < l.length → v[i]? = some 0) →
    ∃ v', impl_shifted_l0 l (d : Int) t p v = some v' ∧ v'.length = l.length ∧ ∀ i, i < l.length → v'[i]? = some (sh l d i)
  | [], p, v, e, hv, h1, h2 => ⟨v, rfl, hv, fun i hi => h1 i (by rw [e] at hi; simpa using hi)⟩
  | x :: t, p, v, e, hv, h1, h2 => by
    have hpl : p.length < l.length := by rw [e]; simp
    unfold impl_shifted_l0
    have hg : v[p.length]? = some 0 := h2 p.length (Nat.le_refl _) hpl
    by_cases hc : d ≤ p.length
    · have hc' : (d : Int) ≤ (p.length : Int) := by omega
      have hi : i64 ((p.length : Int) - (d : Int)) = ((p.length - d : Nat) : Int) := by rw [i64_of (by omega) (by omega)]; omega
      have hx : l[p.length - d]? = some (l.getD (p.length - d) 0) := by
        rw [List.getElem?_eq_getElem (by omega), List.getD_eq_getElem?_getD, List.getElem?_eq_getElem (by omega)]; rfl
      simp only [hc', decide_true, if_true, hi, Int.natCast_nonneg, Int.toNat_natCast, hx, hg, Option.bind_some]
      refine shifted_l0_val l d hd hl t (p ++ [x]) _ (by rw [e]; simp) (by simp [hv]) (fun i hi => ?_) (fun i hi hil => ?_)
      · simp only [List.length_append, List.length_cons, List.length_nil] at hi
        by_cases hip : i = p.length
        · subst hip
          rw [List.getElem?_set_self (by omega)]
          simp [sh, hc]
        · rw [List.getElem?_set_ne (by omega)]
          exact h1 i (by omega)
      · simp only [List.length_append, List.length_cons, List.length_nil] at hi
        rw [List.getElem?_set_ne (by omega)]
        exact h2 i (by omega) hil
    · have hc' : ¬ (d : Int) ≤ (p.length : Int) := by omega
      simp only [hc', decide_false, Bool.false_eq_true, if_false]
      refine shifted_l0_val l d hd hl t (p ++ [x]) v (by rw [e]; simp) hv (fun i hi => ?_) (fun i hi hil => ?_)
      · simp only [List.length_append, List.length_cons, List.length_nil] at hi
        by_cases hip : i = p.length
        · subst hip
          rw [hg]
          simp [sh, hc]
        · exact h1 i (by omega)
      · simp only [List.length_append, List.length_cons, List.length_nil] at hi
        exact h2 i (by omega) hil
theorem shifted_val (l : List Int) (d : Nat) (hd : d ≤ 2000000000) (hl : l.length ≤ 4000000) : ∃ v, impl_shifted l (d : Int) = some v ∧ v.length = l.length ∧ ∀ i, i < l.length → v[i]? = some (sh l d i) := by
  obtain ⟨v, e1, e2, e3⟩ := shifted_l0_val l d hd hl l [] (List.replicate l.length 0) rfl (by simp) (fun i hi => by simp at hi) (fun i _ hi => by simp [hi])
  refine ⟨v, ?_, e2, e3⟩
  unfold impl_shifted
  simp only [Int.natCast_nonneg, decide_true, if_true, Int.toNat_natCast, capOk_of (show l.length ≤ 274877906944 by omega), e1, Option.bind_some]
theorem spec_RingRoll_l0_val (o r1 : Ring) (now : Int) (d : Nat) (hd : d ≤ 2000000000) (hD : i64 (i64 (Int.tdiv now o.Span) - o.Head) = (d : Int)) (hl : o.Counts.length ≤ 4000000) (hs : o.Sums.length = o.Counts.length) : ∀ (t p v w : List Int), o.Counts = p ++ t → v.length = o.Counts.length → w.length = o.Counts.length →
    (∀ i, i < p.length → v[i]? = some (sh o.Counts d i)) → (∀ i, i < p.length → w[i]? = some (sh o.Sums d i)) →
    ∃ v' w', spec_RingRoll_l0 o now r1 t p v w = some (v', w') ∧ v'.length = o.Counts.length ∧ w'.length = o.Counts.length ∧ (∀ i, i < o.Counts.length → v'[i]? = some (sh o.Counts d i)) ∧ ∀ i, i < o.Counts.length → w'[i]? = some (sh o.Sums d i)
  | [], p, v, w, e, hv, hw, h1, h2 => ⟨v, w, rfl, hv, hw, fun i hi => h1 i (by rw [e] at hi; simpa using hi), fun i hi => h2 i (by rw [e] at hi; simpa using hi)⟩
  | x :: t, p, v, w, e, hv, hw, h1, h2 => by
    have hpl : p.length < o.Counts.length := by rw [e]; simp
    have hgv : v[p.length]? = some v[p.length] := List.getElem?_eq_getElem (by omega)
    have hgw : w[p.length]? = some w[p.length] := List.getElem?_eq_getElem (by omega)
    unfold spec_RingRoll_l0
    rw [hD]
    by_cases hc : d ≤ p.length
    · have hc' : (d : Int) ≤ (p.length : Int) := by omega
      have hi : i64 ((p.length : Int) - (d : Int)) = ((p.length - d : Nat) : Int) := by rw [i64_of (by omega) (by omega)]; omega
      have hx : o.Counts[p.length - d]? = some (o.Counts.getD (p.length - d) 0) := by
        rw [List.getElem?_eq_getElem (by omega), List.getD_eq_getElem?_getD, List.getElem?_eq_getElem (by omega)]; rfl
      have hy : o.Sums[p.length - d]? = some (o.Sums.getD (p.length - d) 0) := by
        rw [List.getElem?_eq_getElem (by omega), List.getD_eq_getElem?_getD, List.getElem?_eq_getElem (by omega)]; rfl
      have hsv : (v.set p.length 0)[p.length]? = some 0 := List.getElem?_set_self (by omega)
      have hsw : (w.set p.length 0)[p.length]? = some 0 := List.getElem?_set_self (by omega)
      simp only [hc', decide_true, if_true, hi, Int.natCast_nonneg, Int.toNat_natCast, hx, hy, hgv, hgw, hsv, hsw, Option.bind_some, List.set_set]
      refine spec_RingRoll_l0_val o r1 now d hd hD hl hs t (p ++ [x]) _ _ (by rw [e]; simp) (by simp [hv]) (by simp [hw]) (fun i hi => ?_) (fun i hi => ?_)
      all_goals
        simp only [List.length_append, List.length_cons, List.length_nil] at hi
        by_cases hip : i = p.length
        · subst hip
          rw [List.getElem?_set_self (by omega)]
          simp [sh, hc]
        · rw [List.getElem?_set_ne (by omega)]
          first | exact h1 i (by omega) | exact h2 i (by omega)
    · have hc' : ¬ (d : Int) ≤ (p.length : Int) := by omega
      simp only [hc', decide_false, Bool.false_eq_true, if_false, Int.toNat_natCast, hgv, hgw, Option.bind_some]
      refine spec_RingRoll_l0_val o r1 now d hd hD hl hs t (p ++ [x]) _ _ (by rw [e]; simp) (by simp [hv]) (by simp [hw]) (fun i hi => ?_) (fun i hi => ?_)
      all_goals
        simp only [List.length_append, List.length_cons, List.length_nil] at hi
        by_cases hip : i = p.length
        · subst hip
          rw [List.getElem?_set_self (by omega)]
          simp [sh, hc]
        · rw [List.getElem?_set_ne (by omega)]
          first | exact h1 i (by omega) | exact h2 i (by omega)
theorem RingRoll_tot (r : Ring) (now : Int) (hw : wtRing r ≤ 4000000) : ∃ y, spec_RingRoll r now = some y ∧ impl_RingRoll r now = some y ∧ y.Counts.length = r.Counts.length ∧ y.Sums.length = r.Sums.length ∧
    (y = r ∨ ∃ (d : Nat) (c s : List Int), y = Ring.mk r.Span (now / r.Span) c s ∧ time now = true ∧ 1 ≤ r.Span ∧ c.length = r.Counts.length ∧ s.length = r.Counts.length ∧ r.Sums.length = r.Counts.length ∧ (∀ i, i < r.Counts.length → c[i]? = some (sh r.Counts d i)) ∧ ∀ i, i < r.Counts.length → s[i]? = some (sh r.Sums d i)) := by
  have h : szRing r := by rw [wtRing_eq] at hw; exact ⟨by omega, by omega⟩
  have hh := h
  obtain ⟨h1, h2⟩ := h
  obtain ⟨b, e1, e2, e3⟩ := RingOk_tot r (by omega) (by omega)
  have hcp : spec_l06Copy r = some r := by
    unfold spec_l06Copy
    rw [capOk_of (show 0 + r.Counts.length ≤ 274877906944 by omega), capOk_of (show 0 + r.Sums.length ≤ 274877906944 by omega)]
    rfl
  unfold spec_RingRoll impl_RingRoll
  simp only [hcp, Ring_copied_val r hw, e1, e2, l06Time_val, isTime_val, Option.bind_some]
  cases b with
  | false => exact ⟨r, rfl, rfl, rfl, rfl, .inl rfl⟩
  | true =>
    obtain ⟨q1, q2, q3, q4, q5, q6, _⟩ := e3 rfl
    simp only [if_true]
    by_cases ht : time now = true
    · have ht' := ht
      have qh := q6
      unfold time at ht' qh
      simp only [Bool.and_eq_true, decide_eq_true_eq] at ht' qh
      have hsp : r.Span ≠ 0 := by omega
      have hq : Int.tdiv now r.Span = now / r.Span := Int.tdiv_eq_ediv_of_nonneg ht'.1
      have hq0 : 0 ≤ now / r.Span := Int.ediv_nonneg ht'.1 (by omega)
      have hq1 : now / r.Span ≤ now := Int.ediv_le_self _ ht'.1
      have hqi : i64 (now / r.Span) = now / r.Span := i64_of (by omega) (by omega)
      by_cases hle : now / r.Span ≤ r.Head
      · exact ⟨r, by simp only [ht, hsp, hq, hqi, hle, ne_eq, not_false_eq_true, decide_true, if_true], by simp only [ht, hsp, hq, hqi, hle, ne_eq, not_false_eq_true, decide_true, if_true], rfl, rfl, .inl rfl⟩
      · have hdi : i64 (now / r.Span - r.Head) = (((now / r.Span - r.Head).toNat : Nat) : Int) := by rw [i64_of (by omega) (by omega)]; omega
        generalize hdd : (now / r.Span - r.Head).toNat = d at hdi
        have hd : d ≤ 2000000000 := by omega
        obtain ⟨c1, g1, g2, g3⟩ := shifted_val r.Counts d hd h1
        obtain ⟨s1, g4, g5, g6⟩ := shifted_val r.Sums d hd h2
        obtain ⟨c2, s2, k1, k2, k3, k4, k5⟩ := spec_RingRoll_l0_val r r now d hd (by rw [hq, hqi]; exact hdi) h1 q1 r.Counts [] r.Counts r.Sums rfl rfl q1 (fun i hi => by simp at hi) (fun i hi => by simp at hi)
        have hc : c1 = c2 := by
          apply List.ext_getElem?
          intro i
          by_cases hi : i < r.Counts.length
          · rw [g3 i hi, k4 i hi]
          · rw [List.getElem?_eq_none (by omega), List.getElem?_eq_none (by omega)]
        have hs : s1 = s2 := by
          apply List.ext_getElem?
          intro i
          by_cases hi : i < r.Counts.length
          · rw [g6 i (by omega), k5 i hi]
          · rw [List.getElem?_eq_none (by omega), List.getElem?_eq_none (by omega)]
        subst hc hs
        refine ⟨Ring.mk r.Span (now / r.Span) c1 s1, ?_, ?_, by show c1.length = _; omega, by show s1.length = _; omega, .inr ⟨d, c1, s1, rfl, ht, q4, g2, by omega, q1, g3, fun i hi => g6 i (by omega)⟩⟩
        · simp only [ht, hsp, hq, hqi, hle, ne_eq, not_false_eq_true, decide_true, decide_false, Bool.false_eq_true, if_true, if_false, capOk_of (show r.Counts.length ≤ 274877906944 by omega), k1, Option.bind_some]
        · simp only [ht, hsp, hq, hqi, hle, ne_eq, not_false_eq_true, decide_true, decide_false, Bool.false_eq_true, if_true, if_false, hdi, g1, g4, Option.bind_some]
    · have ht' : time now = false := by simpa using ht
      simp only [ht', Bool.false_eq_true, if_false]
      exact ⟨r, rfl, rfl, rfl, rfl, .inl rfl⟩
/-- The ring, rolled on. -/
def rolled (r : Ring) (now : Int) : Ring := (spec_RingRoll r now).getD r
theorem RingRoll_val (r : Ring) (now : Int) (h : wtRing r ≤ 4000000) : spec_RingRoll r now = some (rolled r now) ∧ impl_RingRoll r now = some (rolled r now) ∧ wtRing (rolled r now) = wtRing r := by
  obtain ⟨y, e1, e2, e3, e4, _⟩ := RingRoll_tot r now h
  unfold rolled
  rw [e1, e2]
  exact ⟨rfl, rfl, by rw [wtRing_eq, wtRing_eq]; show y.Counts.length + y.Sums.length = _; rw [e3, e4]⟩
def cur (c : l01Cur) : Prop := 0 ≤ c.i ∧ c.i ≤ c.b.length ∧ c.b.length ≤ 1048576
theorem band255 (x : Int) : 0 ≤ band .i64 x 255 ∧ band .i64 x 255 ≤ 255 := by
  unfold band
  rw [BitVec.toNat_and]
  have h1 : (BitVec.ofInt IntKind.i64.bits 255).toNat = 255 := by decide
  rw [h1]
  have h2 : (BitVec.ofInt IntKind.i64.bits x).toNat &&& 255 ≤ 255 := Nat.and_le_right
  generalize (BitVec.ofInt IntKind.i64.bits x).toNat &&& 255 = y at h2
  have : IntKind.i64.wrap (y : Int) = y := i64_of (by omega) (by omega)
  rw [this]; omega
theorem Byte_tot (c : l01Cur) (h : cur c) : ∃ r c', spec_l01Byte c = some (r, c') ∧ cur c' ∧ 0 ≤ r ∧ r ≤ 255 := by
  obtain ⟨h1, h2, h3⟩ := h
  unfold spec_l01Byte
  by_cases hi : c.i < (c.b.length : Int)
  · have hx : c.b[c.i.toNat]? = some (c.b[c.i.toNat]'(by omega)) := List.getElem?_eq_getElem _
    simp only [hi, h1, decide_true, if_true, hx, Option.bind_some]
    have e : i64 (c.i + 1) = c.i + 1 := i64_of (by omega) (by omega)
    exact ⟨_, _, rfl, ⟨by show 0 ≤ i64 (c.i + 1); omega, by show i64 (c.i + 1) ≤ (c.b.length : Int); omega, h3⟩, band255 _⟩
  · simp only [hi, decide_false, Bool.false_eq_true, if_false]
    exact ⟨_, _, rfl, ⟨h1, h2, h3⟩, band255 _⟩
theorem Below_tot (c : l01Cur) (n : Int) (h : cur c) : ∃ r c', spec_l01Below c n = some (r, c') ∧ cur c' ∧ 0 ≤ r ∧ (0 < n → r < n) := by
  unfold spec_l01Below
  by_cases h0 : n ≤ 0
  · simp only [h0, decide_true, if_true]
    exact ⟨0, c, rfl, h, by omega, by omega⟩
  · have hn : n ≠ 0 := by omega
    have fin : ∀ x : Int, 0 ≤ x → 0 ≤ Int.tmod x n ∧ (0 < n → Int.tmod x n < n) := fun x hx => by
      rw [Int.tmod_eq_emod_of_nonneg hx]
      exact ⟨Int.emod_nonneg _ hn, fun hp => Int.emod_lt_of_pos _ hp⟩
    obtain ⟨r1, c1, e1, k1, a1, b1⟩ := Byte_tot c h
    by_cases h2 : n ≤ 256
    · simp only [h0, h2, hn, e1, decide_true, decide_false, Bool.false_eq_true, if_false, if_true, Option.bind_some, ne_eq, not_false_eq_true]
      exact ⟨_, _, rfl, k1, fin r1 a1⟩
    · obtain ⟨r2, c2, e2, k2, a2, b2⟩ := Byte_tot c1 k1
      obtain ⟨r3, c3, e3, k3, a3, b3⟩ := Byte_tot c2 k2
      obtain ⟨r4, c4, e4, k4, a4, b4⟩ := Byte_tot c3 k3
      simp only [h0, h2, hn, e1, e2, e3, e4, decide_true, decide_false, Bool.false_eq_true, if_false, if_true, Option.bind_some, ne_eq, not_false_eq_true]
      have q1 : i64 (r1 * 16777216) = r1 * 16777216 := i64_of (by omega) (by omega)
      have q2 : i64 (r2 * 65536) = r2 * 65536 := i64_of (by omega) (by omega)
      have q3 : i64 (r3 * 256) = r3 * 256 := i64_of (by omega) (by omega)
      rw [q1, q2, q3, i64_of (show -9223372036854775808 ≤ r1 * 16777216 + r2 * 65536 by omega) (by omega), i64_of (show -9223372036854775808 ≤ r1 * 16777216 + r2 * 65536 + r3 * 256 by omega) (by omega), i64_of (show -9223372036854775808 ≤ r1 * 16777216 + r2 * 65536 + r3 * 256 + r4 by omega) (by omega)]
      exact ⟨_, _, rfl, k4, fin _ (by omega)⟩
theorem Once_tot (c : l01Cur) (n : Int) (h : cur c) : ∃ r c', spec_l01Once c n = some (r, c') ∧ cur c' := by
  obtain ⟨r, c', e, k, _⟩ := Below_tot c n h
  unfold spec_l01Once
  rw [e]
  exact ⟨_, _, rfl, k⟩
theorem Str_tot (c : l01Cur) (l : List ByteArray) (h : cur c) (hl : 0 < l.length) (hm : l.length ≤ 1000000) : ∃ r c', spec_l01Str c l = some (r, c', l) ∧ cur c' ∧ r ∈ l := by
  obtain ⟨r, c', e, k, a, b⟩ := Below_tot c l.length h
  have b := b (by omega)
  unfold spec_l01Str
  have hx : l[r.toNat]? = some (l[r.toNat]'(by omega)) := List.getElem?_eq_getElem _
  simp only [e, a, hx, decide_true, if_true, Option.bind_some]
  exact ⟨_, _, rfl, k, List.getElem_mem _⟩
theorem Pick_tot (c : l01Cur) (l : List Int) (h : cur c) (hl : 0 < l.length) (hm : l.length ≤ 1000000) : ∃ r c', spec_l01Pick c l = some (r, c', l) ∧ cur c' ∧ r ∈ l := by
  obtain ⟨r, c', e, k, a, b⟩ := Below_tot c l.length h
  have b := b (by omega)
  unfold spec_l01Pick
  have hx : l[r.toNat]? = some (l[r.toNat]'(by omega)) := List.getElem?_eq_getElem _
  simp only [e, a, hx, decide_true, if_true, Option.bind_some]
  exact ⟨_, _, rfl, k, List.getElem_mem _⟩
theorem New_l0_tot (code : List Int) : ∀ (t p : List Int) (v : Int), ∃ y, spec_l01New_l0 code t p v = some y
  | [], p, v => ⟨v, rfl⟩
  | x :: t, p, v => by
    unfold spec_l01New_l0
    split
    · exact New_l0_tot code t _ _
    · exact ⟨_, rfl⟩
theorem New_tot (code : List Int) (h : code.length ≤ 1048576) : ∃ c, spec_l01New code = some c ∧ cur c := by
  obtain ⟨y, e⟩ := New_l0_tot code code [] (i64 (1539 + (code.length : Int)))
  unfold spec_l01New
  rw [capOk_of (by omega), e]
  exact ⟨_, rfl, by show (0 : Int) ≤ 0; omega, by show (0 : Int) ≤ _; omega, h⟩
theorem cur_h {c : l01Cur} (h : cur c) (x : Int) : cur (l01Cur.mk c.b c.i x) := h
theorem bytesLess_irrefl : ∀ a : List UInt8, Op.bytesLess a a = false
  | [] => rfl
  | x :: t => by
    unfold Op.bytesLess
    have : ¬ x < x := by intro h; have := UInt8.lt_iff_toNat_lt.1 h; omega
    simp [this, bytesLess_irrefl t]
theorem bytesLess_trans : ∀ a b c : List UInt8, Op.bytesLess a b = true → Op.bytesLess b c = true → Op.bytesLess a c = true
  | [], b, [], h1, h2 => by cases b <;> simp [Op.bytesLess] at h1 h2
  | [], b, z :: w, h1, h2 => rfl
  | x :: t, [], c, h1, h2 => by simp [Op.bytesLess] at h1
  | x :: t, y :: u, [], h1, h2 => by simp [Op.bytesLess] at h2
  | x :: t, y :: u, z :: w, h1, h2 => by
    have ih := bytesLess_trans t u w
    simp only [Op.bytesLess, Bool.or_eq_true, decide_eq_true_eq, Bool.and_eq_true, beq_iff_eq] at h1 h2 ⊢
    rcases h1 with h1 | ⟨rfl, h1⟩ <;> rcases h2 with h2 | ⟨rfl, h2⟩
    · left
      have h1 := UInt8.lt_iff_toNat_lt.1 h1
      have h2 := UInt8.lt_iff_toNat_lt.1 h2
      exact UInt8.lt_iff_toNat_lt.2 (by omega)
    · exact .inl h1
    · exact .inl h2
    · exact .inr ⟨rfl, ih h1 h2⟩
/-- Names in order. -/
def lessId (a b : ByteArray) : Prop := Op.bytesLess a.toList b.toList = true
theorem lessId_ne {a b : ByteArray} (h : lessId a b) : a ≠ b := fun e => by
  unfold lessId at h
  rw [e, bytesLess_irrefl] at h; cases h
theorem lessId_trans {a b c : ByteArray} (h : lessId a b) (h2 : lessId b c) : lessId a c := bytesLess_trans _ _ _ h h2
def holdP (h : Hold) : Prop := holdIdOk h.Id = true ∧ 1 ≤ h.Amount ∧ h.Amount ≤ 9007199254740992 ∧ time h.Due = true
def holdsP (l : List Hold) : Prop := l.length ≤ 4 ∧ (∀ h ∈ l, holdP h) ∧ l.Pairwise (fun x y => lessId x.Id y.Id)
theorem HoldOk_iff (h : Hold) (hs : h.Id.size ≤ 4000000) : ∃ b, spec_HoldOk h = some b ∧ impl_HoldOk h = some b ∧ (b = true ↔ holdP h) := by
  obtain ⟨e1, e2⟩ := HoldIdOk_val h.Id hs
  unfold spec_HoldOk impl_HoldOk holdP
  rw [e1, e2]
  simp only [Option.bind_some, l01In_val, within_val, l06Time_val, isTime_val]
  rcases tf (holdIdOk h.Id) with h1 | h1 <;> rcases tf (decide (1 ≤ h.Amount) && decide (h.Amount ≤ 9007199254740992)) with h2 | h2 <;> rw [h1] <;> simp only [h2, if_true, if_false, Bool.false_eq_true]
  · refine ⟨_, rfl, rfl, ?_⟩
    simp only [Bool.and_eq_true, decide_eq_true_eq] at h2
    simp [h2.1, h2.2]
  · refine ⟨_, rfl, rfl, ?_⟩
    simp only [Bool.and_eq_false_iff, decide_eq_false_iff_not] at h2
    simp only [Bool.false_eq_true, true_and, false_iff]
    omega
  · exact ⟨_, rfl, rfl, by simp⟩
  · exact ⟨_, rfl, rfl, by simp⟩
theorem HoldsOk_l0_iff (l : List Hold) (hl : l.length ≤ 4000000) : ∀ (t p : List Hold), l = p ++ t → (∀ h ∈ t, h.Id.size ≤ 4000000) → p.Pairwise (fun x y => lessId x.Id y.Id) →
    ∃ b : Bool, spec_HoldsOk_l0 l t p = some (if b = true then .out () else .ret ()) ∧ impl_HoldsOk_l0 l t p = some (if b = true then .out () else .ret ()) ∧ (b = true ↔ (∀ h ∈ t, holdP h) ∧ l.Pairwise (fun x y => lessId x.Id y.Id))
  | [], p, e, hs, hp => ⟨true, rfl, rfl, by simp [e, hp]⟩
  | x :: t, p, e, hs, hp => by
    obtain ⟨b, e1, e2, e3⟩ := HoldOk_iff x (hs x (by simp))
    unfold spec_HoldsOk_l0 impl_HoldsOk_l0
    rw [e1, e2]
    cases b with
    | false => exact ⟨false, rfl, rfl, by simp only [Bool.false_eq_true, false_iff]; intro h; have := e3.2 (h.1 x (by simp)); cases this⟩
    | true =>
      have hx := e3.1 rfl
      simp only [Option.bind_some, if_true]
      by_cases hpl : (0 : Int) < (p.length : Int)
      · have hpl2 : p.length ≤ l.length := by rw [e]; simp
        have hi : i64 ((p.length : Int) - 1) = (p.length : Int) - 1 := i64_of (by omega) (by omega)
        have hpn : p ≠ [] := by intro h; subst h; simp at hpl
        have hg : l[((p.length : Int) - 1).toNat]? = some (p.getLast hpn) := by
          have : ((p.length : Int) - 1).toNat = p.length - 1 := by omega
          rw [this, e, List.getElem?_append_left (by omega), List.getLast_eq_getElem, List.getElem?_eq_getElem]
        have h1 : (0 : Int) ≤ (p.length : Int) - 1 := by omega
        simp only [hpl, hi, h1, decide_true, if_true, hg, Option.bind_some, less_flip x.Id]
        have hfl := less_flip x.Id (p.getLast hpn).Id
        rcases tf (Op.bytesLess x.Id.toList (p.getLast hpn).Id.toList || x.Id == (p.getLast hpn).Id) with hb | hb
        · rw [hb] at hfl
          refine ⟨false, by simp [hb], by simp [hb], ?_⟩
          simp only [Bool.false_eq_true, false_iff]
          intro hh
          rw [e, List.pairwise_append] at hh
          have := hh.2.2.2 _ (List.getLast_mem hpn) x (by simp)
          unfold lessId at this
          rw [hfl] at this; cases this
        · rw [hb] at hfl
          have hless : lessId (p.getLast hpn).Id x.Id := hfl
          have hp2 : (p ++ [x]).Pairwise (fun x y => lessId x.Id y.Id) := by
            rw [List.pairwise_append]
            refine ⟨hp, by simp, fun a ha c hc => ?_⟩
            simp only [List.mem_singleton] at hc
            subst hc
            by_cases hal : a = p.getLast hpn
            · subst hal; exact hless
            · have : p = p.dropLast ++ [p.getLast hpn] := (List.dropLast_concat_getLast hpn).symm
              rw [this, List.pairwise_append] at hp
              rw [this, List.mem_append] at ha
              rcases ha with ha | ha
              · exact lessId_trans (hp.2.2 a ha _ (by simp)) hless
              · simp only [List.mem_singleton] at ha; exact absurd ha hal
          obtain ⟨b, f1, f2, f3⟩ := HoldsOk_l0_iff l hl t (p ++ [x]) (by rw [e]; simp) (fun h hh => hs h (by simp [hh])) hp2
          refine ⟨b, by simpa [hb] using f1, by simpa [hb] using f2, ?_⟩
          rw [f3]
          simp [hx]
      · have hp0 : p = [] := by
          cases p with
          | nil => rfl
          | cons a q => exfalso; simp at hpl
        subst hp0
        obtain ⟨b, f1, f2, f3⟩ := HoldsOk_l0_iff l hl t ([] ++ [x]) (by rw [e]; simp) (fun h hh => hs h (by simp [hh])) (by simp)
        refine ⟨b, by simpa using f1, by simpa using f2, ?_⟩
        rw [f3]
        simp [hx]
theorem HoldsOk_iff (l : List Hold) (hl : l.length ≤ 4000000) (hs : ∀ h ∈ l, h.Id.size ≤ 4000000) : ∃ b, spec_HoldsOk l = some b ∧ impl_HoldsOk l = some b ∧ (b = true ↔ holdsP l) := by
  obtain ⟨b, e1, e2, e3⟩ := HoldsOk_l0_iff l hl l [] rfl hs (by simp)
  unfold spec_HoldsOk impl_HoldsOk holdsP
  rw [capOk_of (by omega), e1, e2]
  cases b with
  | false => exact ⟨false, rfl, rfl, by simp only [Bool.false_eq_true, false_iff]; intro h; have := e3.2 ⟨h.2.1, h.2.2⟩; cases this⟩
  | true =>
    refine ⟨decide ((l.length : Int) ≤ 4), rfl, rfl, ?_⟩
    have := e3.1 rfl
    simp only [decide_eq_true_eq]
    constructor
    · intro h; exact ⟨by omega, this⟩
    · intro h; have := h.1; omega
theorem holdsP_filter {l : List Hold} (h : holdsP l) (q : Hold → Bool) : holdsP (l.filter q) :=
  ⟨Nat.le_trans (List.length_filter_le _ _) h.1, fun x hx => h.2.1 x (List.mem_filter.1 hx).1, h.2.2.filter _⟩
def ringP (r : Ring) : Prop := r.Sums.length = r.Counts.length ∧ r.Counts.length ≤ 8 ∧ 1 ≤ r.Counts.length ∧ 1 ≤ r.Span ∧ r.Span ≤ 1000 ∧ time r.Head = true ∧ r.Counts.all money = true ∧ r.Sums.all money = true
theorem RingOk_of (r : Ring) (h : ringP r) : spec_RingOk r = some true := by
  obtain ⟨h1, h2, h3, h4, h5, h6, h7, h8⟩ := h
  have e1 : (decide (1 ≤ r.Span) && decide (r.Span ≤ 1000)) = true := by simp [h4, h5]
  have e2 : (decide ((1 : Int) ≤ (r.Counts.length : Int)) && decide ((r.Counts.length : Int) ≤ 8)) = true := by simp; omega
  have e3 : ((r.Sums.length : Int) != (r.Counts.length : Int)) = false := by rw [h1]; simp
  unfold spec_RingOk
  rw [spec_RingOk_l0_val r r.Counts [] rfl h1]
  simp only [l01In_val, l06Time_val, e1, e2, e3, h6, Option.bind_some, if_true, Bool.false_eq_true, if_false, capOk_of (show r.Counts.length ≤ 274877906944 by omega), List.length_nil, List.drop_zero, h7, h8, Bool.and_self]
  rfl
theorem RingOk_iff (r : Ring) (hc : r.Counts.length ≤ 4000000) (hs : r.Sums.length ≤ 4000000) : ∃ b, spec_RingOk r = some b ∧ impl_RingOk r = some b ∧ (b = true ↔ ringP r) := by
  obtain ⟨b, e1, e2, e3⟩ := RingOk_tot r (by omega) (by omega)
  refine ⟨b, e1, e2, fun h => e3 h, fun h => ?_⟩
  have := RingOk_of r h
  rw [this] at e1
  exact (Option.some.inj e1).symm
/-- The sum of the amounts. -/
def sumA : List Hold → Int
  | [] => 0
  | h :: t => h.Amount + sumA t
theorem satAdd_in {a b : Int} (ha : 0 ≤ a) (hb : 0 ≤ b) (h : a + b ≤ 4611686018427387904) : satAdd a b = a + b := by
  have e1 : cl a = a := by unfold cl; split; omega; split <;> omega
  have e2 : cl b = b := by unfold cl; split; omega; split <;> omega
  unfold satAdd
  rw [e1, e2, if_pos h]
def amtP (l : List Hold) : Prop := ∀ h ∈ l, 1 ≤ h.Amount ∧ h.Amount ≤ 9007199254740992
theorem sumA_rng : ∀ l : List Hold, amtP l → 0 ≤ sumA l ∧ sumA l ≤ 9007199254740992 * l.length
  | [], _ => by simp [sumA]
  | x :: t, h => by
    have h1 := h x (by simp)
    have h2 := sumA_rng t (fun y hy => h y (by simp [hy]))
    simp only [sumA, List.length_cons]; omega
theorem Stored_l0_sum (l : List Hold) : ∀ (t : List Hold) (v : Int), amtP t → 0 ≤ v → v + 9007199254740992 * t.length ≤ 4611686018427387904 → spec_Stored_l0 l t v = some (v + sumA t) ∧ impl_Stored_l0 l t v = some (v + sumA t)
  | [], v, _, _, _ => by simp [spec_Stored_l0, impl_Stored_l0, sumA]
  | x :: t, v, h, h0, hv => by
    have h1 := h x (by simp)
    simp only [List.length_cons] at hv
    have e : satAdd v x.Amount = v + x.Amount := satAdd_in h0 (by omega) (by omega)
    obtain ⟨q1, q2⟩ := Stored_l0_sum l t (v + x.Amount) (fun y hy => h y (by simp [hy])) (by omega) (by omega)
    unfold spec_Stored_l0 impl_Stored_l0
    rw [(AddSat_val _ _).1, (AddSat_val _ _).2, e, Option.bind_some, Option.bind_some, q1, q2]
    simp only [sumA]
    have : v + x.Amount + sumA t = v + (x.Amount + sumA t) := by omega
    rw [this]; exact ⟨rfl, rfl⟩
theorem Stored_sum (l : List Hold) (h : amtP l) (hl : l.length ≤ 100) : spec_Stored l = some (sumA l) ∧ impl_Stored l = some (sumA l) := by
  obtain ⟨q1, q2⟩ := Stored_l0_sum l l 0 h (by omega) (by omega)
  unfold spec_Stored impl_Stored
  rw [capOk_of (by omega), q1, q2]
  simp only [if_true, Option.bind_some]
  have : 0 + sumA l = sumA l := by omega
  rw [this]; exact ⟨rfl, rfl⟩
theorem holdsP_amt {l : List Hold} (h : holdsP l) : amtP l := fun x hx => ⟨(h.2.1 x hx).2.1, (h.2.1 x hx).2.2.1⟩
theorem sumA_filter (q : Hold → Bool) : ∀ l : List Hold, amtP l → sumA (l.filter q) ≤ sumA l
  | [], _ => by simp [sumA]
  | x :: t, h => by
    have h1 := h x (by simp)
    have h2 := sumA_filter q t (fun y hy => h y (by simp [hy]))
    rw [List.filter_cons]
    split <;> simp only [sumA] <;> omega
/-- A valid account. -/
def acctP (a : Acct) : Prop := spec_AcctIdOk a.Id = some true ∧ (0 ≤ a.Limit ∧ a.Limit ≤ 9007199254740992) ∧ (0 ≤ a.Most ∧ a.Most ≤ 1000) ∧ (0 ≤ a.MostSum ∧ a.MostSum ≤ 9007199254740992) ∧ money a.Posted = true ∧ holdsP a.Holds ∧ ringP a.Ring ∧ spec_SlotsOk a.Slots = some true ∧ a.Posted + sumA a.Holds ≤ a.Limit
theorem and_if (c : Bool) (d : Bool) : (if c = true then some d else some false : Option Bool) = some (c && d) := by cases c <;> rfl
theorem money_iff (n : Int) : money n = true ↔ 0 ≤ n ∧ n ≤ 4611686018427387904 := by unfold money; simp
theorem satAdd_le {a b l : Int} (ha : 0 ≤ a) (ha2 : a ≤ 4611686018427387904) (hb : 0 ≤ b) (hb2 : b ≤ 4611686018427387904) (hl : l < 4611686018427387904) : satAdd a b ≤ l ↔ a + b ≤ l := by
  have e1 : cl a = a := by unfold cl; split; omega; split <;> omega
  have e2 : cl b = b := by unfold cl; split; omega; split <;> omega
  unfold satAdd
  rw [e1, e2]
  split <;> omega
theorem AcctOk_bool (a : Acct) (h : szAcct a) : ∃ b1 b2 b3 b4 s, spec_AcctIdOk a.Id = some b1 ∧ (b2 = true ↔ holdsP a.Holds) ∧ (b3 = true ↔ ringP a.Ring) ∧ spec_SlotsOk a.Slots = some b4 ∧ spec_Stored a.Holds = some s ∧
    spec_AcctOk a = some (b1 && ((decide (0 ≤ a.Limit) && decide (a.Limit ≤ 9007199254740992)) && ((decide (0 ≤ a.Most) && decide (a.Most ≤ 1000)) && ((decide (0 ≤ a.MostSum) && decide (a.MostSum ≤ 9007199254740992)) && (money a.Posted && (b2 && (b3 && (b4 && decide (satAdd a.Posted s ≤ a.Limit))))))))) ∧
    impl_AcctOk a = spec_AcctOk a := by
  have hh := h
  obtain ⟨h1, ⟨h2, h3⟩, ⟨h4, h5⟩, h6, h7⟩ := h
  obtain ⟨b1, p1, q1, _⟩ := AcctIdOk_eq a.Id
  obtain ⟨b2, p2, q2, i2⟩ := HoldsOk_iff a.Holds (by omega) (fun x hx => by have := h3 x hx; unfold szHold at this; omega)
  obtain ⟨b3, p3, q3, i3⟩ := RingOk_iff a.Ring (by omega) (by omega)
  obtain ⟨b4, p4, q4, _⟩ := SlotsOk_tot a.Slots (by omega) (fun x hx => by have := h7 x hx; unfold szSlot at this; omega)
  obtain ⟨s, p5, q5⟩ := Stored_tot a.Holds (by omega)
  obtain ⟨p6, q6⟩ := AddSat_val a.Posted s
  obtain ⟨y, y1, y2, _⟩ := AcctOk_tot a hh
  refine ⟨b1, b2, b3, b4, s, p1, i2, i3, p4, p5, ?_, by rw [y1, y2]⟩
  unfold spec_AcctOk
  simp only [p1, p2, p3, p4, p5, p6, l01In_val, l01Money_val, Option.bind_some, and_if]
theorem AcctOk_iff (a : Acct) (h : szAcct a) : ∃ b, spec_AcctOk a = some b ∧ impl_AcctOk a = some b ∧ (b = true ↔ acctP a) := by
  obtain ⟨b1, b2, b3, b4, s, p1, i2, i3, p4, p5, e1, e2⟩ := AcctOk_bool a h
  refine ⟨_, e1, by rw [e2, e1], ?_⟩
  unfold acctP
  rw [p1, p4]
  simp only [Bool.and_eq_true, decide_eq_true_eq, Option.some.injEq]
  rw [i2, i3, money_iff]
  constructor
  · rintro ⟨g1, g2, g3, g4, g5, g6, g7, g8, g9⟩
    have hs := (Stored_sum a.Holds (holdsP_amt g6) (by have := g6.1; omega)).1
    rw [p5] at hs
    have hs := Option.some.inj hs
    have hr := sumA_rng _ (holdsP_amt g6)
    have hl := g6.1
    rw [hs, satAdd_le g5.1 g5.2 hr.1 (by omega) (by omega)] at g9
    exact ⟨g1, g2, g3, g4, g5, g6, g7, g8, g9⟩
  · rintro ⟨g1, g2, g3, g4, g5, g6, g7, g8, g9⟩
    have hs := (Stored_sum a.Holds (holdsP_amt g6) (by have := g6.1; omega)).1
    rw [p5] at hs
    have hs := Option.some.inj hs
    have hr := sumA_rng _ (holdsP_amt g6)
    have hl := g6.1
    refine ⟨g1, g2, g3, g4, g5, g6, g7, g8, ?_⟩
    rw [hs, satAdd_le g5.1 g5.2 hr.1 (by omega) (by omega)]
    exact g9
/-- What is valid is small. -/
theorem acctP_wt (a : Acct) (h : szAcct a) (hp : acctP a) : wtAcct a ≤ 2000 := by
  obtain ⟨g1, _, _, _, _, g6, g7, g8, _⟩ := hp
  obtain ⟨h1, ⟨h2, h3⟩, ⟨h4, h5⟩, h6, h7⟩ := h
  obtain ⟨b1, p1, _, i1⟩ := AcctIdOk_eq a.Id
  rw [p1] at g1
  have i1 := i1 (Option.some.inj g1)
  obtain ⟨b4, p4, _, i4⟩ := SlotsOk_tot a.Slots (by omega) (fun x hx => by have := h7 x hx; unfold szSlot at this; omega)
  rw [p4] at g8
  obtain ⟨j1, j2⟩ := i4 (Option.some.inj g8)
  have k1 : wtL wtHold a.Holds ≤ 7 * a.Holds.length := wtL_bound wtHold 6 a.Holds fun x hx => by
    have := (g6.2.1 x hx).1
    obtain ⟨y, e, _, i⟩ := HoldIdOk_tot x.Id (by have := h3 x hx; unfold szHold at this; omega)
    unfold holdIdOk at this
    rw [e] at this
    rw [wtHold_eq]
    exact i this
  have k2 : wtL wtSlot a.Slots ≤ 211 * a.Slots.length := wtL_bound wtSlot 210 a.Slots fun x hx => by
    have := j2 x hx
    rw [wtSlot_eq]; omega
  have := g6.1
  have := g7.1
  have := g7.2.1
  rw [wtAcct_eq, wtRing_eq]
  omega
theorem sh_money (l : List Int) (d i : Nat) (h : l.all money = true) : money (sh l d i) = true := by
  unfold sh
  split
  · rw [List.getD_eq_getElem?_getD]
    cases hq : l[i - d]? with
    | none => rfl
    | some x => exact List.all_eq_true.1 h x (List.mem_of_getElem? hq)
  · rfl
theorem ringP_wt (r : Ring) (h : ringP r) : wtRing r ≤ 16 := by
  obtain ⟨h1, h2, _⟩ := h
  rw [wtRing_eq]; omega
theorem ringP_rolled (r : Ring) (now : Int) (h : ringP r) : ringP (rolled r now) := by
  obtain ⟨y, e1, e2, e3, e4, e5⟩ := RingRoll_tot r now (by have := ringP_wt r h; omega)
  unfold rolled
  rw [e1]
  show ringP y
  rcases e5 with rfl | ⟨d, c, s, rfl, ht, hsp, l1, l2, l3, g1, g2⟩
  · exact h
  · obtain ⟨h1, h2, h3, h4, h5, h6, h7, h8⟩ := h
    unfold time at ht
    simp only [Bool.and_eq_true, decide_eq_true_eq] at ht
    have hq0 : 0 ≤ now / r.Span := Int.ediv_nonneg ht.1 (by omega)
    have hq1 : now / r.Span ≤ now := Int.ediv_le_self _ ht.1
    refine ⟨by show s.length = c.length; omega, by show c.length ≤ 8; omega, by show 1 ≤ c.length; omega, h4, h5, ?_, ?_, ?_⟩
    · unfold time; simp only [Bool.and_eq_true, decide_eq_true_eq]; omega
    · rw [List.all_eq_true]
      intro x hx
      obtain ⟨i, hi, rfl⟩ := List.mem_iff_getElem.1 hx
      have hi2 : i < r.Counts.length := by have : i < c.length := hi; omega
      have := g1 i hi2
      rw [List.getElem?_eq_getElem (show i < c.length from hi)] at this
      show money c[i] = true
      rw [Option.some.inj this]
      exact sh_money _ _ _ h7
    · rw [List.all_eq_true]
      intro x hx
      obtain ⟨i, hi, rfl⟩ := List.mem_iff_getElem.1 hx
      have hi2 : i < r.Counts.length := by have : i < s.length := hi; omega
      have := g2 i hi2
      rw [List.getElem?_eq_getElem (show i < s.length from hi)] at this
      show money s[i] = true
      rw [Option.some.inj this]
      exact sh_money _ _ _ h8
theorem satAdd_money (a b : Int) : money (satAdd a b) = true := by
  obtain ⟨a1, a2⟩ := cl_rng a
  obtain ⟨b1, b2⟩ := cl_rng b
  rw [money_iff]
  unfold satAdd
  split <;> omega
/-- An amount is put into the first bucket. -/
def added (q : Ring) (amount : Int) : Ring := Ring.mk q.Span q.Head (q.Counts.set 0 (satAdd (q.Counts.getD 0 0) 1)) (q.Sums.set 0 (satAdd (q.Sums.getD 0 0) amount))
theorem all_set {l : List Int} {i : Nat} {x : Int} (h : l.all money = true) (hx : money x = true) : (l.set i x).all money = true := by
  rw [List.all_eq_true] at h ⊢
  intro y hy
  rcases List.mem_or_eq_of_mem_set hy with h1 | rfl
  · exact h y h1
  · exact hx
theorem ringP_added (q : Ring) (amount : Int) (h : ringP q) : ringP (added q amount) := by
  obtain ⟨h1, h2, h3, h4, h5, h6, h7, h8⟩ := h
  exact ⟨by simpa [added] using h1, by simpa [added] using h2, by simpa [added] using h3, h4, h5, h6, all_set h7 (satAdd_money _ _), all_set h8 (satAdd_money _ _)⟩
theorem first_of (q : Ring) (h : ringP q) : q.Counts[0]? = some (q.Counts.getD 0 0) ∧ q.Sums[0]? = some (q.Sums.getD 0 0) := by
  obtain ⟨h1, h2, h3, _⟩ := h
  constructor
  · rw [List.getD_eq_getElem?_getD, List.getElem?_eq_getElem (by omega)]; rfl
  · rw [List.getD_eq_getElem?_getD, List.getElem?_eq_getElem (by omega)]; rfl
theorem spec_RingAdd_val (r : Ring) (now amount : Int) (h : ringP r) (ht : time now = true) (hm : money amount = true) : spec_RingAdd r now amount = some (added (rolled r now) amount) := by
  have hq := ringP_rolled r now h
  obtain ⟨f1, f2⟩ := first_of _ hq
  unfold spec_RingAdd
  rw [RingOk_of r h, (RingRoll_val r now (by have := ringP_wt r h; omega)).1]
  simp only [Option.bind_some, if_true, l06Time_val, ht, l01Money_val, hm, f1, f2, (AddSat_val _ _).1]
  rfl
theorem impl_RingAdd_val (r : Ring) (now amount : Int) (h : ringP r) (ht : time now = true) (hm : money amount = true) : impl_RingAdd r now amount = some (added (rolled r now) amount) := by
  have hq := ringP_rolled r now h
  obtain ⟨f1, f2⟩ := first_of _ hq
  obtain ⟨b, e1, e2, i⟩ := RingOk_iff r (by have := h.2.1; omega) (by have := h.1; have := h.2.1; omega)
  have hb := i.2 h
  subst hb
  unfold impl_RingAdd
  rw [e2, (RingRoll_val r now (by have := ringP_wt r h; omega)).2.1]
  simp only [Option.bind_some, if_true, isTime_val, ht, isMoney_val, hm, f1, f2, (AddSat_val _ _).2]
  rfl
theorem l06Draw_l0_tot : ∀ (n : Nat) (b : List Int) (i h sp hd now k : Int) (cs ss : List Int), cur (l01Cur.mk b i h) → ringP (Ring.mk sp hd cs ss) → 0 ≤ now → now + 8 * k ≤ 1000000 → k < n → k ≤ 1000 → 0 ≤ k →
    ∃ b' i' h' sp' hd' cs' ss', spec_l06Draw_l0 n b i h sp hd now k cs ss = some (b', i', h', sp', hd', cs', ss') ∧ cur (l01Cur.mk b' i' h') ∧ ringP (Ring.mk sp' hd' cs' ss')
  | 0, b, i, h, sp, hd, now, k, cs, ss, hc, hr, h0, h1, hn, hk, hk0 => by omega
  | n + 1, b, i, h, sp, hd, now, k, cs, ss, hc, hr, h0, h1, hn, hk, hk0 => by
    unfold spec_l06Draw_l0
    by_cases h2 : 0 < k
    · obtain ⟨r5, c5, e5, k5, a5, b5⟩ := Below_tot _ 9 hc
      obtain ⟨r6, c6, e6, k6, a6, b6⟩ := Below_tot c5 90 k5
      have b5 := b5 (by omega)
      have b6 := b6 (by omega)
      have i1 : i64 (now + r5) = now + r5 := i64_of (by omega) (by omega)
      have i2 : i64 (1 + r6) = 1 + r6 := i64_of (by omega) (by omega)
      have i3 : i64 (k - 1) = k - 1 := i64_of (by omega) (by omega)
      have ht : time (now + r5) = true := by unfold time; simp only [Bool.and_eq_true, decide_eq_true_eq]; omega
      have hm : money (1 + r6) = true := by rw [money_iff]; omega
      have hp := ringP_added _ (1 + r6) (ringP_rolled _ (now + r5) hr)
      simp only [h2, decide_true, if_true, e5, e6, Option.bind_some, i1, i2, i3, spec_RingAdd_val _ _ _ hr ht hm]
      exact l06Draw_l0_tot n c6.b c6.i c6.h _ _ (now + r5) (k - 1) _ _ k6 hp (by omega) (by omega) (by omega) (by omega) (by omega)
    · simp only [h2, decide_false, Bool.false_eq_true, if_false]
      exact ⟨b, i, h, sp, hd, cs, ss, rfl, hc, hr⟩
theorem RingNew_val (b s : Int) (h1 : 1 ≤ b) (h2 : b ≤ 8) (h3 : 1 ≤ s) (h4 : s ≤ 1000) : spec_RingNew b s = some (Ring.mk s 0 (List.replicate b.toNat 0) (List.replicate b.toNat 0), true) ∧ ringP (Ring.mk s 0 (List.replicate b.toNat 0) (List.replicate b.toNat 0)) := by
  have e1 : (decide (1 ≤ b) && decide (b ≤ 8)) = true := by simp [h1, h2]
  have e2 : (decide (1 ≤ s) && decide (s ≤ 1000)) = true := by simp [h3, h4]
  constructor
  · unfold spec_RingNew
    simp only [l01In_val, e1, e2, Option.bind_some, if_true, show (0 : Int) ≤ b by omega, decide_true, capOk_of (show b.toNat ≤ 274877906944 by omega)]
  · have hm : (List.replicate b.toNat (0 : Int)).all money = true := by
      rw [List.all_eq_true]
      intro x hx
      rw [List.eq_of_mem_replicate hx]; rfl
    exact ⟨by simp, by simp; omega, by simp; omega, h3, h4, rfl, hm, hm⟩
theorem l06Draw_tot (c : l01Cur) (h : cur c) : ∃ r c', spec_l06Draw c = some (r, c') ∧ cur c' ∧ ringP r := by
  obtain ⟨r1, c1, e1, k1, a1, b1⟩ := Below_tot c 5 h
  obtain ⟨r2, c2, e2, k2, a2, b2⟩ := Below_tot c1 6 k1
  have b1 := b1 (by omega)
  have b2 := b2 (by omega)
  have i1 : i64 (1 + r1) = 1 + r1 := i64_of (by omega) (by omega)
  have i2 : i64 (1 + r2) = 1 + r2 := i64_of (by omega) (by omega)
  obtain ⟨v, hv⟩ := RingNew_val (1 + r1) (1 + r2) (by omega) (by omega) (by omega) (by omega)
  obtain ⟨r4, c4, e4, k4, a4, b4⟩ := Below_tot c2 5 k2
  have b4 := b4 (by omega)
  obtain ⟨b', i', h', sp', hd', cs', ss', q1, q2, q3⟩ := l06Draw_l0_tot FUEL c4.b c4.i c4.h (1 + r2) 0 0 r4 _ _ k4 hv (by omega) (by omega) (by unfold FUEL; omega) (by omega) (by omega)
  unfold spec_l06Draw
  simp only [e1, e2, e4, i1, i2, v, Option.bind_some, q1]
  exact ⟨_, _, rfl, q2, q3⟩
theorem l07Id_tot (c : l01Cur) (h : cur c) : ∃ s c', spec_l07Id c = some (s, c') ∧ cur c' ∧ s.size ≤ 2 ∧ holdIdOk s = true := by
  obtain ⟨r, c', e, k, m⟩ := Str_tot c [bs [97], bs [98], bs [99], bs [104, 49], bs [122, 57]] h (by decide) (by decide)
  unfold spec_l07Id
  rw [e]
  refine ⟨r, c', rfl, k, ?_⟩
  simp only [List.mem_cons, List.not_mem_nil, or_false] at m
  rcases m with rfl | rfl | rfl | rfl | rfl <;> exact ⟨by decide, by unfold holdIdOk; kernel_rfl⟩
def holdL : List ByteArray := [bs [97], bs [98], bs [99], bs [104, 49], bs [122, 57]]
theorem l07IdE_tot (c : l01Cur) (h : cur c) : ∃ s c', spec_l07Id c = some (s, c') ∧ cur c' ∧ s ∈ holdL := by
  obtain ⟨r, c', e, k, m⟩ := Str_tot c holdL h (by decide) (by decide)
  unfold spec_l07Id
  rw [show spec_l01Str c [bs [97], bs [98], bs [99], bs [104, 49], bs [122, 57]] = some (r, c', holdL) from e]
  exact ⟨r, c', rfl, k, m⟩
theorem l07Hold_tot (c : l01Cur) (h : cur c) : ∃ s c', spec_l07Hold c = some (s, c') ∧ cur c' ∧ (s.Id.size ≤ 2 ∧ s.Amount ≤ 60 ∧ s.Id ∈ holdL) := by
  obtain ⟨r1, c1, e1, k1, a1⟩ := l07IdE_tot c h
  obtain ⟨r2, c2, e2, k2, a2, b2⟩ := Below_tot c1 60 k1
  obtain ⟨r3, c3, e3, k3, a3, b3⟩ := Below_tot c2 30 k2
  have hz : ∀ s ∈ holdL, s.size ≤ 2 := by decide
  unfold spec_l07Hold
  simp only [e1, e2, e3, Option.bind_some]
  have b2 := b2 (by omega)
  exact ⟨_, _, rfl, k3, hz r1 a1, by show i64 (1 + r2) ≤ 60; rw [i64_of (by omega) (by omega)]; omega, a1⟩
def id2 (l : List Hold) : Prop := ∀ x ∈ l, x.Id.size ≤ 2 ∧ x.Amount ≤ 60 ∧ x.Id ∈ holdL
theorem id2_app {l m : List Hold} (h : id2 l) (h2 : id2 m) : id2 (l ++ m) := fun x hx => by
  rcases List.mem_append.1 hx with hx | hx
  · exact h x hx
  · exact h2 x hx
theorem HoldPut_l0_tot (l : List Hold) (h : Hold) (hh : h.Id.size ≤ 2 ∧ h.Amount ≤ 60 ∧ h.Id ∈ holdL) : ∀ (t : List Hold) (b : Bool) (v : List Hold), id2 t → id2 v → v.length + 2 * t.length ≤ 1000 → ∃ b' y, spec_HoldPut_l0 l h t b v = some (b', y) ∧ id2 y ∧ y.length ≤ v.length + 2 * t.length
  | [], b, v, _, hv, _ => ⟨b, v, rfl, hv, by simp⟩
  | x :: t, b, v, ht, hv, hl => by
    simp only [List.length_cons] at hl
    have ht' : id2 t := fun y hy => ht y (by simp [hy])
    have hx : id2 [x] := fun y hy => by simp only [List.mem_singleton] at hy; rw [hy]; exact ht x (by simp)
    have hh' : id2 [h] := fun y hy => by simp only [List.mem_singleton] at hy; rw [hy]; exact hh
    have c1 : capOk (v.length + 1) = true := capOk_of (by omega)
    have c2 : capOk ((v ++ [h]).length + 1) = true := capOk_of (by simp; omega)
    have go : ∀ (b : Bool) (w : List Hold), id2 w → w.length ≤ v.length + 2 → ∃ b' y, spec_HoldPut_l0 l h t b w = some (b', y) ∧ id2 y ∧ y.length ≤ v.length + 2 * (t.length + 1) := fun b w hw hwl => by
      obtain ⟨b', y, e, f, g⟩ := HoldPut_l0_tot l h hh t b w ht' hw (by omega)
      exact ⟨b', y, e, f, by omega⟩
    unfold spec_HoldPut_l0
    rw [c1, c2]
    simp only [if_true, List.length_cons]
    split
    · split
      · exact go _ _ hv (by omega)
      · exact go _ _ (id2_app hv hx) (by simp)
    · split
      · split
        · exact go _ _ hv (by omega)
        · exact go _ _ (id2_app hv hx) (by simp)
      · split
        · exact go _ _ (id2_app hv hh') (by simp)
        · exact go _ _ (id2_app (id2_app hv hh') hx) (by simp)
theorem HoldPut_tot (l : List Hold) (h : Hold) (hl : l.length ≤ 100) (hi : id2 l) (hh : h.Id.size ≤ 2 ∧ h.Amount ≤ 60 ∧ h.Id ∈ holdL) : ∃ y b, spec_HoldPut l h = some (y, b) ∧ (b = true → holdsP y ∧ id2 y) := by
  obtain ⟨b1, e1, _, _⟩ := HoldsOk_iff l (by omega) (fun x hx => by have := hi x hx; omega)
  have hh' : id2 [h] := fun y hy => by simp only [List.mem_singleton] at hy; rw [hy]; exact hh
  unfold spec_HoldPut
  rw [e1, Option.bind_some]
  cases b1 with
  | false => exact ⟨_, _, rfl, fun h => by cases h⟩
  | true =>
    obtain ⟨b2, y, e2, f2, g2⟩ := HoldPut_l0_tot l h hh l false [] hi (fun x hx => by cases hx) (by simp; omega)
    simp only [List.length_nil] at g2
    simp only [if_true, capOk_of (show l.length ≤ 274877906944 by omega), e2, Option.bind_some, capOk_of (show y.length + 1 ≤ 274877906944 by omega)]
    obtain ⟨b3, e3, _, i3⟩ := HoldsOk_iff y (by omega) (fun x hx => by have := f2 x hx; omega)
    obtain ⟨b4, e4, _, i4⟩ := HoldsOk_iff (y ++ [h]) (by simp; omega) (fun x hx => by have := id2_app f2 hh' x hx; omega)
    simp only [e3, e4, Option.bind_some]
    cases b2 with
    | true => cases b3 with
      | true => exact ⟨_, _, rfl, fun _ => ⟨i3.1 rfl, f2⟩⟩
      | false => exact ⟨_, _, rfl, fun h => absurd h (by decide)⟩
    | false => cases b4 with
      | true => exact ⟨_, _, rfl, fun _ => ⟨i4.1 rfl, id2_app f2 hh'⟩⟩
      | false => exact ⟨_, _, rfl, fun h => absurd h (by decide)⟩
theorem l07Draw_l0_tot : ∀ (n : Nat) (b : List Int) (i h k : Int) (v : List Hold), cur (l01Cur.mk b i h) → holdsP v → id2 v → k < n → k ≤ 1000 → 0 ≤ k → ∃ b' i' h' y, spec_l07Draw_l0 n b i h k v = some (b', i', h', y) ∧ cur (l01Cur.mk b' i' h') ∧ holdsP y ∧ id2 y
  | 0, b, i, h, k, v, hc, hp, hi, hn, hk, hk0 => by omega
  | n + 1, b, i, h, k, v, hc, hp, hi, hn, hk, hk0 => by
    unfold spec_l07Draw_l0
    by_cases h2 : 0 < k
    · obtain ⟨r2, c2, e2, k2, a2⟩ := l07Hold_tot _ hc
      obtain ⟨y, b3, e3, f3⟩ := HoldPut_tot v r2 (by have := hp.1; omega) hi a2
      have i3 : i64 (k - 1) = k - 1 := i64_of (by omega) (by omega)
      simp only [h2, decide_true, if_true, e2, e3, Option.bind_some, i3]
      cases b3 with
      | true => exact l07Draw_l0_tot n c2.b c2.i c2.h (k - 1) y k2 (f3 rfl).1 (f3 rfl).2 (by omega) (by omega) (by omega)
      | false => exact l07Draw_l0_tot n c2.b c2.i c2.h (k - 1) v k2 hp hi (by omega) (by omega) (by omega)
    · simp only [h2, decide_false, Bool.false_eq_true, if_false]
      exact ⟨b, i, h, v, rfl, hc, hp, hi⟩
theorem l07Draw_tot (c : l01Cur) (h : cur c) : ∃ l c', spec_l07Draw c = some (l, c') ∧ cur c' ∧ holdsP l ∧ id2 l := by
  obtain ⟨r1, c1, e1, k1, a1, b1⟩ := Below_tot c 4 h
  have b1 := b1 (by omega)
  obtain ⟨b', i', h', y, q1, q2, q3, q4⟩ := l07Draw_l0_tot FUEL c1.b c1.i c1.h r1 [] k1 ⟨by decide, fun x hx => (by cases hx), List.Pairwise.nil⟩ (fun x hx => by cases hx) (by unfold FUEL; omega) (by omega) (by omega)
  unfold spec_l07Draw
  simp only [e1, Option.bind_some, q1]
  exact ⟨_, _, rfl, q2, q3, q4⟩
theorem l01Bytes_l0_tot : ∀ (n : Nat) (b : List Int) (i h k : Int) (v : List Int), cur (l01Cur.mk b i h) → byB v → k < n → k ≤ 1000 → 0 ≤ k → v.length + k ≤ 100000 → ∃ b' i' h' y, spec_l01Bytes_l0 n b i h k v = some (b', i', h', y) ∧ cur (l01Cur.mk b' i' h') ∧ byB y ∧ (y.length : Int) = v.length + k
  | 0, b, i, h, k, v, hc, hp, hn, hk, hk0, hv => by omega
  | n + 1, b, i, h, k, v, hc, hp, hn, hk, hk0, hv => by
    unfold spec_l01Bytes_l0
    by_cases h2 : 0 < k
    · obtain ⟨r2, c2, e2, k2, a2, b2⟩ := Byte_tot _ hc
      have i3 : i64 (k - 1) = k - 1 := i64_of (by omega) (by omega)
      have hu : u8 r2 = r2 := u8_of a2 b2
      have hp2 : byB (v ++ [r2]) := fun x hx => by
        rcases List.mem_append.1 hx with hx | hx
        · exact hp x hx
        · simp only [List.mem_singleton] at hx; rw [hx]; exact ⟨a2, b2⟩
      simp only [h2, decide_true, if_true, e2, Option.bind_some, i3, hu, capOk_of (show v.length + 1 ≤ 274877906944 by omega)]
      obtain ⟨b', i', h', y, q1, q2, q3, q4⟩ := l01Bytes_l0_tot n c2.b c2.i c2.h (k - 1) (v ++ [r2]) k2 hp2 (by omega) (by omega) (by omega) (by simp; omega)
      exact ⟨b', i', h', y, q1, q2, q3, by rw [q4]; simp; omega⟩
    · simp only [h2, decide_false, Bool.false_eq_true, if_false]
      exact ⟨b, i, h, v, rfl, hc, hp, by omega⟩
/-- A slot as it is drawn. -/
def slotD (s : Slot) : Prop := s.Trace.size = 6 ∧ s.Mti.size = 4 ∧ s.Reply.length ≤ 200 ∧ byB s.Reply
theorem l08Slot_tot (c : l01Cur) (h : cur c) : ∃ s c', spec_l08Slot c = some (s, c') ∧ cur c' ∧ slotD s := by
  obtain ⟨r1, c1, e1, k1, m1⟩ := Str_tot c [bs [48, 48, 48, 48, 48, 49], bs [48, 48, 48, 48, 48, 50], bs [48, 48, 48, 48, 48, 51], bs [49, 50, 51, 52, 53, 54]] h (by decide) (by decide)
  obtain ⟨r2, c2, e2, k2, m2⟩ := Str_tot c1 [bs [48, 49, 48, 48], bs [48, 50, 50, 48], bs [48, 50, 48, 48]] k1 (by decide) (by decide)
  obtain ⟨r3, c3, e3, k3, a3, b3⟩ := Below_tot c2 4 k2
  have b3 := b3 (by omega)
  obtain ⟨b', i', h', y, q1, q2, q3, q4⟩ := l01Bytes_l0_tot FUEL c3.b c3.i c3.h r3 [] k3 (fun x hx => by cases hx) (by unfold FUEL; omega) (by omega) (by omega) (by simp; omega)
  have i3 : i64 ((3 : Int) + 1) = 4 := by decide
  have hy : y.length ≤ 4 := by simp at q4; omega
  have t1 : r1.size = 6 := by
    simp only [List.mem_cons, List.not_mem_nil, or_false] at m1
    rcases m1 with rfl | rfl | rfl | rfl <;> rfl
  have t2 : r2.size = 4 := by
    simp only [List.mem_cons, List.not_mem_nil, or_false] at m2
    rcases m2 with rfl | rfl | rfl <;> rfl
  unfold spec_l08Slot spec_l01Bytes
  simp only [e1, e2, i3, e3, q1, Option.bind_some, capOk_of (show y.length + 1 ≤ 274877906944 by omega), if_true]
  refine ⟨_, _, rfl, q2, t1, t2, by simp; omega, fun x hx => ?_⟩
  rcases List.mem_append.1 hx with hx | hx
  · exact q3 x hx
  · simp only [List.mem_singleton] at hx; rw [hx]; omega
theorem slotD_wt (l : List Slot) (h : ∀ s ∈ l, slotD s) : wtL wtSlot l ≤ 211 * l.length := wtL_bound wtSlot 210 l fun x hx => by
  obtain ⟨h1, h2, h3, _⟩ := h x hx
  rw [wtSlot_eq]; omega
theorem SlotPut_tot (l : List Slot) (s : Slot) (hl : l.length ≤ 100) (h : ∀ s ∈ l, slotD s) (hs : slotD s) : ∃ y b, spec_SlotPut l s = some (y, b) ∧ (b = true → spec_SlotsOk y = some true ∧ (∀ s ∈ y, slotD s) ∧ y.length ≤ 6) := by
  have h2 : ∀ x ∈ l ++ [s], slotD x := fun x hx => by
    rcases List.mem_append.1 hx with hx | hx
    · exact h x hx
    · simp only [List.mem_singleton] at hx; rw [hx]; exact hs
  have w1 := slotD_wt l h
  have w2 := slotD_wt (l ++ [s]) h2
  simp only [List.length_append, List.length_cons, List.length_nil] at w2
  obtain ⟨b, e, _, i⟩ := SlotsOk_tot (l ++ [s]) (by simp; omega) (fun x hx => by obtain ⟨h1, h2, _⟩ := h2 x hx; omega)
  unfold spec_SlotPut
  rw [l08Copy_val l (by omega), Option.bind_some, capOk_of (show l.length + 1 ≤ 274877906944 by omega), l08Copy_val (l ++ [s]) (by omega), Option.bind_some, e, Option.bind_some]
  cases b with
  | true => exact ⟨_, _, rfl, fun _ => ⟨e, h2, (i rfl).1⟩⟩
  | false => exact ⟨_, _, rfl, fun h => by cases h⟩
theorem l08Draw_l0_tot : ∀ (n : Nat) (b : List Int) (i h k : Int) (v : List Slot), cur (l01Cur.mk b i h) → spec_SlotsOk v = some true → (∀ s ∈ v, slotD s) → v.length ≤ 6 → k < n → k ≤ 1000 → 0 ≤ k → ∃ b' i' h' y, spec_l08Draw_l0 n b i h k v = some (b', i', h', y) ∧ cur (l01Cur.mk b' i' h') ∧ spec_SlotsOk y = some true ∧ (∀ s ∈ y, slotD s) ∧ y.length ≤ 6
  | 0, b, i, h, k, v, hc, hp, hi, hl, hn, hk, hk0 => by omega
  | n + 1, b, i, h, k, v, hc, hp, hi, hl, hn, hk, hk0 => by
    unfold spec_l08Draw_l0
    by_cases h2 : 0 < k
    · obtain ⟨r2, c2, e2, k2, a2⟩ := l08Slot_tot _ hc
      obtain ⟨y, b3, e3, f3⟩ := SlotPut_tot v r2 (by omega) hi a2
      have i3 : i64 (k - 1) = k - 1 := i64_of (by omega) (by omega)
      simp only [h2, decide_true, if_true, e2, e3, Option.bind_some, i3]
      cases b3 with
      | true => exact l08Draw_l0_tot n c2.b c2.i c2.h (k - 1) y k2 (f3 rfl).1 (f3 rfl).2.1 (f3 rfl).2.2 (by omega) (by omega) (by omega)
      | false => exact l08Draw_l0_tot n c2.b c2.i c2.h (k - 1) v k2 hp hi hl (by omega) (by omega) (by omega)
    · simp only [h2, decide_false, Bool.false_eq_true, if_false]
      exact ⟨b, i, h, v, rfl, hc, hp, hi, hl⟩
theorem l08Draw_tot (c : l01Cur) (h : cur c) : ∃ l c', spec_l08Draw c = some (l, c') ∧ cur c' ∧ spec_SlotsOk l = some true ∧ (∀ s ∈ l, slotD s) ∧ l.length ≤ 6 := by
  obtain ⟨r1, c1, e1, k1, a1, b1⟩ := Below_tot c 5 h
  have b1 := b1 (by omega)
  obtain ⟨b', i', h', y, q1, q2, q3⟩ := l08Draw_l0_tot FUEL c1.b c1.i c1.h r1 [] k1 rfl (fun x hx => by cases hx) (by decide) (by unfold FUEL; omega) (by omega) (by omega)
  unfold spec_l08Draw
  simp only [e1, Option.bind_some, q1]
  exact ⟨_, _, rfl, q2, q3⟩
/-- An account as it is drawn. -/
def acctD (a : Acct) : Prop := acctP a ∧ szAcct a ∧ ∀ s ∈ a.Slots, byB s.Reply
theorem acctD_mk (id : ByteArray) (limit posted most sum : Int) (hl : List Hold) (r : Ring) (sl : List Slot) (h1 : spec_AcctIdOk id = some true) (h2 : 0 ≤ limit ∧ limit ≤ 9007199254740992) (h3 : 0 ≤ most ∧ most ≤ 1000) (h4 : 0 ≤ sum ∧ sum ≤ 9007199254740992)
    (h5 : 0 ≤ posted) (h6 : holdsP hl) (h6' : id2 hl) (h7 : ringP r) (h8 : spec_SlotsOk sl = some true) (h9 : ∀ s ∈ sl, slotD s) (h10 : sl.length ≤ 6) (h11 : posted + sumA hl ≤ limit) : acctD (Acct.mk id limit posted most sum hl r sl) := by
  have hr := sumA_rng _ (holdsP_amt h6)
  obtain ⟨b, e, _, i⟩ := AcctIdOk_eq id
  rw [e] at h1
  have hid := i (Option.some.inj h1)
  refine ⟨⟨by rw [e, h1], h2, h3, h4, by rw [money_iff]; show 0 ≤ posted ∧ posted ≤ 4611686018427387904; omega, h6, h7, h8, h11⟩, ⟨by show id.size ≤ _; omega, ⟨by have := h6.1; show hl.length ≤ _; omega, fun x hx => by have := h6' x hx; show x.Id.size ≤ _; omega⟩, ⟨by have := h7.2.1; show r.Counts.length ≤ _; omega, by have := h7.1; have := h7.2.1; show r.Sums.length ≤ _; omega⟩, by show sl.length ≤ _; omega, fun x hx => ?_⟩, fun s hs => (h9 s hs).2.2.2⟩
  obtain ⟨q1, q2, q3, _⟩ := h9 x hx
  exact ⟨by omega, by omega, by omega⟩
theorem AcctNew_val (id : ByteArray) (limit most sum b s : Int) (h1 : spec_AcctIdOk id = some true) (h2 : 0 ≤ limit ∧ limit ≤ 9007199254740992) (h3 : 0 ≤ most ∧ most ≤ 1000) (h4 : 0 ≤ sum ∧ sum ≤ 9007199254740992) (hb : 1 ≤ b) (hb2 : b ≤ 8) (hs : 1 ≤ s) (hs2 : s ≤ 1000) :
    ∃ r, spec_AcctNew id limit most sum b s = some (Acct.mk id limit 0 most sum [] r [], true) := by
  obtain ⟨v, hv⟩ := RingNew_val b s hb hb2 hs hs2
  obtain ⟨hp, hz, _⟩ := acctD_mk id limit 0 most sum [] _ [] h1 h2 h3 h4 (by omega) ⟨by decide, fun x hx => (by cases hx), List.Pairwise.nil⟩ (fun x hx => by cases hx) hv rfl (fun x hx => by cases hx) (by decide) (by simp only [sumA]; omega)
  obtain ⟨b1, e1, _, i1⟩ := AcctOk_iff _ hz
  have := i1.2 hp
  subst this
  unfold spec_AcctNew
  rw [v, Option.bind_some]
  simp only [if_true, e1, Option.bind_some]
  exact ⟨_, rfl⟩
theorem l09Draw_tot (c : l01Cur) (id : ByteArray) (h : cur c) (hid : spec_AcctIdOk id = some true) : ∃ a c', spec_l09Draw c id = some (a, c') ∧ cur c' ∧ acctD a ∧ a.Id = id ∧ id2 a.Holds := by
  obtain ⟨r1, c1, e1, k1, m1⟩ := Pick_tot c [100, 200, 60, 0, 9007199254740992] h (by decide) (by decide)
  obtain ⟨r2, c2, e2, k2, m2⟩ := Pick_tot c1 [2, 3, 5, 1000] k1 (by decide) (by decide)
  obtain ⟨r3, c3, e3, k3, m3⟩ := Pick_tot c2 [60, 120, 1000, 9007199254740992] k2 (by decide) (by decide)
  obtain ⟨r4, c4, e4, k4, a4, b4⟩ := Below_tot c3 4 k3
  obtain ⟨r5, c5, e5, k5, a5, b5⟩ := Below_tot c4 5 k4
  have b4 := b4 (by omega)
  have b5 := b5 (by omega)
  have i4 : i64 (1 + r4) = 1 + r4 := i64_of (by omega) (by omega)
  have i5 : i64 (1 + r5) = 1 + r5 := i64_of (by omega) (by omega)
  simp only [List.mem_cons, List.not_mem_nil, or_false] at m1 m2 m3
  have hl : 0 ≤ r1 ∧ r1 ≤ 9007199254740992 := by omega
  have hm : 0 ≤ r2 ∧ r2 ≤ 1000 := by omega
  have hs : 0 ≤ r3 ∧ r3 ≤ 9007199254740992 := by omega
  clear m1 m2 m3
  obtain ⟨rg, e6⟩ := AcctNew_val id r1 r2 r3 (1 + r4) (1 + r5) hid hl hm hs (by omega) (by omega) (by omega) (by omega)
  obtain ⟨ring, c7, e7, k7, hring⟩ := l06Draw_tot c5 k5
  obtain ⟨hl8, c8, e8, k8, hh8, hi8⟩ := l07Draw_tot c7 k7
  have hsum := (Stored_sum hl8 (holdsP_amt hh8) (by have := hh8.1; omega)).1
  have hsum0 := (Stored_sum [] (fun x hx => by cases hx) (by decide)).1
  have hr8 := sumA_rng _ (holdsP_amt hh8)
  have hlen8 := hh8.1
  have e10 : spec_AddSat (sumA hl8) 0 = some (sumA hl8) := by rw [(AddSat_val _ _).1, satAdd_in hr8.1 (by omega) (by omega)]; congr 1; omega
  have good : ∀ (p : Int) (l : List Hold) (sl : List Slot), 0 ≤ p → holdsP l → id2 l → p + sumA l ≤ r1 → spec_SlotsOk sl = some true → (∀ s ∈ sl, slotD s) → sl.length ≤ 6 → acctD (Acct.mk id r1 p r2 r3 l ring sl) := fun p l sl hp hh hi hle s1 s2 s3 => acctD_mk id r1 p r2 r3 l ring sl hid hl hm hs hp hh hi hring s1 s2 s3 hle
  have slots : ∀ (c : l01Cur) (p : Int) (l : List Hold), cur c → 0 ≤ p → holdsP l → id2 l → p + sumA l ≤ r1 → ∃ a c', ((spec_l01Once c 3).bind fun r15 => if r15.1 = true then (spec_l08Draw r15.2).bind fun r16 => some (Acct.mk id r1 p r2 r3 l ring r16.1, r16.2) else some (Acct.mk id r1 p r2 r3 l ring [], r15.2)) = some (a, c') ∧ cur c' ∧ acctD a ∧ a.Id = id ∧ id2 a.Holds := fun c p l hc hp hh hi hle => by
    obtain ⟨b, c', e, k⟩ := Once_tot c 3 hc
    rw [e, Option.bind_some]
    cases b with
    | true =>
      obtain ⟨sl, c2, e2, k2, s1, s2, s3⟩ := l08Draw_tot c' k
      simp only [if_true, e2, Option.bind_some]
      exact ⟨_, _, rfl, k2, good p l sl hp hh hi hle s1 s2 s3, rfl, hi⟩
    | false =>
      simp only [Bool.false_eq_true, if_false]
      exact ⟨_, _, rfl, k, good p l [] hp hh hi hle rfl (fun s hs => by cases hs) (by decide), rfl, hi⟩
  have post : ∀ (c : l01Cur) (l : List Hold), cur c → holdsP l → id2 l → sumA l ≤ r1 → spec_Stored l = some (sumA l) → ∃ a c', ((spec_Stored l).bind fun r11 => if (decide (r11 < r1)) = true then (spec_l01Once c 2).bind fun r12 => if r12.1 = true then (spec_Stored l).bind fun r13 => (spec_l01Below r12.2 (i64 ((i64 (r1 - r13)) + 1))).bind fun r14 =>
        (spec_l01Once r14.2 3).bind fun r15 => if r15.1 = true then (spec_l08Draw r15.2).bind fun r16 => some (Acct.mk id r1 r14.1 r2 r3 l ring r16.1, r16.2) else some (Acct.mk id r1 r14.1 r2 r3 l ring [], r15.2)
      else (spec_l01Once r12.2 3).bind fun r17 => if r17.1 = true then (spec_l08Draw r17.2).bind fun r18 => some (Acct.mk id r1 0 r2 r3 l ring r18.1, r18.2) else some (Acct.mk id r1 0 r2 r3 l ring [], r17.2)
      else (spec_l01Once c 3).bind fun r19 => if r19.1 = true then (spec_l08Draw r19.2).bind fun r20 => some (Acct.mk id r1 0 r2 r3 l ring r20.1, r20.2) else some (Acct.mk id r1 0 r2 r3 l ring [], r19.2)) = some (a, c') ∧ cur c' ∧ acctD a ∧ a.Id = id ∧ id2 a.Holds := fun c l hc hh hi hle hst => by
    have hr := sumA_rng _ (holdsP_amt hh)
    simp only [hst, Option.bind_some]
    by_cases hlt : sumA l < r1
    · obtain ⟨b, c', e, k⟩ := Once_tot c 2 hc
      simp only [hlt, decide_true, if_true, e, Option.bind_some]
      cases b with
      | true =>
        have q1 : i64 (r1 - sumA l) = r1 - sumA l := i64_of (by omega) (by omega)
        have q2 : i64 (r1 - sumA l + 1) = r1 - sumA l + 1 := i64_of (by omega) (by omega)
        obtain ⟨p, c2, e2, k2, p1, p2⟩ := Below_tot c' (r1 - sumA l + 1) k
        have p2 := p2 (by omega)
        simp only [if_true, q1, q2, e2, Option.bind_some]
        exact slots c2 p l k2 p1 hh hi (by omega)
      | false =>
        simp only [Bool.false_eq_true, if_false]
        exact slots c' 0 l k (by omega) hh hi (by omega)
    · simp only [hlt, decide_false, Bool.false_eq_true, if_false]
      exact slots c 0 l hc (by omega) hh hi (by omega)
  unfold spec_l09Draw
  simp only [e1, e2, e3, e4, e5, i4, i5, e6, e7, e8, Option.bind_some]
  first
  | (rw [hsum, Option.bind_some, e10, Option.bind_some, ← hsum]
     by_cases hle : sumA hl8 ≤ r1
     · simp only [hle, decide_true, if_true]
       exact post c8 hl8 k8 hh8 hi8 hle hsum
     · simp only [hle, decide_false, Bool.false_eq_true, if_false]
       exact post c8 [] k8 ⟨by decide, fun x hx => (by cases hx), List.Pairwise.nil⟩ (fun x hx => by cases hx) (by simp only [sumA]; omega) hsum0)
  | (have j0 : ∃ l, spec_l09Draw_c0 (Acct.mk id r1 0 r2 r3 [] rg [], true) (ring, c7) (hl8, c8) = some l ∧ holdsP l ∧ id2 l ∧ sumA l ≤ r1 ∧ spec_Stored l = some (sumA l) := by
       unfold spec_l09Draw_c0
       simp only [hsum, Option.bind_some, e10]
       by_cases hle : sumA hl8 ≤ r1
       · simp only [hle, decide_true, if_true]
         exact ⟨hl8, rfl, hh8, hi8, hle, hsum⟩
       · simp only [hle, decide_false, Bool.false_eq_true, if_false]
         exact ⟨[], rfl, ⟨by decide, fun x hx => (by cases hx), List.Pairwise.nil⟩, (fun x hx => by cases hx), (by simp only [sumA]; omega), hsum0⟩
     obtain ⟨l, q0, hh, hi, hle, hst⟩ := j0
     have hr := sumA_rng _ (holdsP_amt hh)
     have j1 : ∃ c' p, spec_l09Draw_c1 (Acct.mk id r1 0 r2 r3 [] rg [], true) (ring, c7) (hl8, c8) l = some (l01Cur.b c', l01Cur.i c', l01Cur.h c', p) ∧ cur c' ∧ 0 ≤ p ∧ p + sumA l ≤ r1 := by
       unfold spec_l09Draw_c1
       simp only [hst, Option.bind_some]
       by_cases hlt : sumA l < r1
       · obtain ⟨b, c', e, k⟩ := Once_tot c8 2 k8
         simp only [hlt, decide_true, if_true, e, Option.bind_some]
         cases b with
         | true =>
           have q1 : i64 (r1 - sumA l) = r1 - sumA l := i64_of (by omega) (by omega)
           have q2 : i64 (r1 - sumA l + 1) = r1 - sumA l + 1 := i64_of (by omega) (by omega)
           obtain ⟨p, c2, e2, k2, p1, p2⟩ := Below_tot c' (r1 - sumA l + 1) k
           have p2 := p2 (by omega)
           simp only [if_true, q1, q2, e2, Option.bind_some]
           exact ⟨c2, p, rfl, k2, p1, by omega⟩
         | false =>
           simp only [Bool.false_eq_true, if_false]
           exact ⟨c', 0, rfl, k, by omega, by omega⟩
       · simp only [hlt, decide_false, Bool.false_eq_true, if_false]
         exact ⟨c8, 0, rfl, k8, by omega, by omega⟩
     obtain ⟨d1, p, q1, kd, p0, ple⟩ := j1
     have j2 : ∃ c' sl, spec_l09Draw_c2 (Acct.mk id r1 0 r2 r3 [] rg [], true) (ring, c7) l (d1.b, d1.i, d1.h, p) = some (l01Cur.b c', l01Cur.i c', l01Cur.h c', sl) ∧ cur c' ∧ spec_SlotsOk sl = some true ∧ (∀ s ∈ sl, slotD s) ∧ sl.length ≤ 6 := by
       obtain ⟨b, c', e, k⟩ := Once_tot (l01Cur.mk d1.b d1.i d1.h) 3 kd
       unfold spec_l09Draw_c2
       rw [e, Option.bind_some]
       cases b with
       | true =>
         obtain ⟨sl, c2, e2, k2, s1, s2, s3⟩ := l08Draw_tot c' k
         simp only [if_true, e2, Option.bind_some]
         exact ⟨c2, sl, rfl, k2, s1, s2, s3⟩
       | false =>
         simp only [Bool.false_eq_true, if_false]
         exact ⟨c', [], rfl, k, rfl, (fun s hs => by cases hs), (by decide)⟩
     obtain ⟨d2, sl, q2, kd2, s1, s2, s3⟩ := j2
     rw [q0, Option.bind_some, q1, Option.bind_some, q2, Option.bind_some]
     exact ⟨_, _, rfl, kd2, good p l sl p0 hh hi ple s1 s2 s3, rfl, hi⟩)
theorem MakeAcct_tot (code : List Int) (h : code.length ≤ 1048576) : ∃ a, spec_MakeAcct code = some a ∧ acctD a := by
  obtain ⟨c, e, k⟩ := New_tot code h
  obtain ⟨r, c1, e1, k1, m1⟩ := Str_tot c [bs [49, 56], bs [50, 54], bs [51, 52], bs [52, 50], bs [53, 57], bs [54, 55]] k (by decide) (by decide)
  have hid : spec_AcctIdOk r = some true := by
    simp only [List.mem_cons, List.not_mem_nil, or_false] at m1
    rcases m1 with rfl | rfl | rfl | rfl | rfl | rfl <;> kernel_rfl
  obtain ⟨a, c2, e2, k2, d, _⟩ := l09Draw_tot c1 r k1 hid
  unfold spec_MakeAcct spec_l09Id
  simp only [e, e1, e2, Option.bind_some]
  exact ⟨a, rfl, d⟩
theorem acctOk_of {a : Acct} (h : acctD a) : acctOk a = true := by
  obtain ⟨b, e1, _, i⟩ := AcctOk_iff a h.2.1
  have := i.2 h.1
  subst this
  unfold acctOk
  rw [e1]; rfl
theorem acctD_wt {a : Acct} (h : acctD a) : wtAcct a ≤ 2000 := acctP_wt a h.2.1 h.1
theorem acctD_holds {a : Acct} (h : acctD a) : holdsP a.Holds := h.1.2.2.2.2.2.1
theorem acctD_ring {a : Acct} (h : acctD a) : ringP a.Ring := h.1.2.2.2.2.2.2.1
theorem acctD_sum {a : Acct} (h : acctD a) : 0 ≤ a.Posted ∧ 0 ≤ sumA a.Holds ∧ a.Posted + sumA a.Holds ≤ a.Limit ∧ a.Limit ≤ 9007199254740992 := by
  obtain ⟨h1, h2, h3, h4, h5, h6, h7, h8, h9⟩ := h.1
  rw [money_iff] at h5
  have := sumA_rng _ (holdsP_amt h6)
  omega
theorem szHolds {a : Acct} (h : szAcct a) (l : List Hold) (h1 : l.length ≤ 4) (h2 : ∀ x ∈ l, x.Id.size ≤ 4000000) (p : Int) (r : Ring) (hr : ringP r) : szAcct (Acct.mk a.Id a.Limit p a.Most a.MostSum l r a.Slots) := by
  obtain ⟨g1, _, _, g4⟩ := h
  exact ⟨g1, ⟨by show l.length ≤ _; omega, h2⟩, ⟨by have := hr.2.1; show r.Counts.length ≤ _; omega, by have := hr.1; have := hr.2.1; show r.Sums.length ≤ _; omega⟩, g4⟩
/-- The account with other holds and another posted amount. -/
theorem acctD_upd {a : Acct} (h : acctD a) (p : Int) (l : List Hold) (r : Ring) (hp : 0 ≤ p) (hl : holdsP l) (hs : ∀ x ∈ l, x.Id.size ≤ 4000000) (hr : ringP r) (hle : p + sumA l ≤ a.Limit) : acctD (Acct.mk a.Id a.Limit p a.Most a.MostSum l r a.Slots) := by
  obtain ⟨⟨h1, h2, h3, h4, h5, h6, h7, h8, h9⟩, hz, hb⟩ := h
  have := sumA_rng _ (holdsP_amt hl)
  exact ⟨⟨h1, h2, h3, h4, by rw [money_iff]; show 0 ≤ p ∧ p ≤ 4611686018427387904; omega, hl, hr, h8, hle⟩, szHolds hz l hl.1 hs p r hr, hb⟩
theorem id_sizes {a : Acct} (h : acctD a) : ∀ x ∈ a.Holds, x.Id.size ≤ 4000000 := h.2.1.2.1.2
theorem acctD_swept {a : Acct} (h : acctD a) (now : Int) : acctD (sweptH a now) := by
  have hs := acctD_sum h
  have hf := sumA_filter (live now) a.Holds (holdsP_amt (acctD_holds h))
  exact acctD_upd h a.Posted _ a.Ring hs.1 (holdsP_filter (acctD_holds h) _) (fun x hx => id_sizes h x (List.mem_filter.1 hx).1) (acctD_ring h) (by omega)
theorem swept_of {a : Acct} (h : acctD a) {now : Int} (ht : time now = true) : swept a now = sweptH a now := by
  unfold swept
  rw [acctOk_of h, ht]; rfl
theorem AcctOk_true {a : Acct} (h : acctD a) : impl_AcctOk a = some true := by
  rw [(AcctOk_val a (by have := acctD_wt h; omega)).2, acctOk_of h]
theorem LiveSum_val {a : Acct} (h : acctD a) (now : Int) : impl_LiveSum a.Holds now = some (sumA (a.Holds.filter (live now))) := by
  have hf := holdsP_filter (acctD_holds h) (live now)
  unfold impl_LiveSum
  rw [impl_LiveOnes_val _ _ (holds_len a (by have := acctD_wt h; omega)), Option.bind_some, (Stored_sum _ (holdsP_amt hf) (by have := hf.1; omega)).2]
  rfl
/-- What is available. -/
def room (a : Acct) (now : Int) : Int := a.Limit - a.Posted - sumA (a.Holds.filter (live now))
theorem Room_val {a : Acct} (h : acctD a) {now : Int} (ht : time now = true) : impl_Room a now = some (room a now) := by
  have hs := acctD_sum h
  have hf := sumA_filter (live now) a.Holds (holdsP_amt (acctD_holds h))
  have hf2 := sumA_rng _ (holdsP_amt (holdsP_filter (acctD_holds h) (live now)))
  unfold impl_Room room
  rw [AcctOk_true h, LiveSum_val h]
  simp only [Option.bind_some, if_true, isTime_val, ht]
  rw [i64_of (show -9223372036854775808 ≤ a.Limit - a.Posted by omega) (by omega), i64_of (by omega) (by omega)]
theorem uniq : ∀ {l : List Hold}, l.Pairwise (fun x y => lessId x.Id y.Id) → ∀ {x y : Hold}, x ∈ l → y ∈ l → x.Id = y.Id → x = y
  | [], _, x, y, hx, _, _ => by cases hx
  | z :: t, hp, x, y, hx, hy, e => by
    rw [List.pairwise_cons] at hp
    rcases List.mem_cons.1 hx with h1 | h1 <;> rcases List.mem_cons.1 hy with h2 | h2
    · rw [h1, h2]
    · subst h1; exact absurd e (lessId_ne (hp.1 y h2))
    · subst h2; exact absurd e.symm (lessId_ne (hp.1 x h1))
    · exact uniq hp.2 h1 h2 e
theorem idIs_iff (id : ByteArray) (h : Hold) : idIs id h = true ↔ h.Id = id := by unfold idIs; rw [beqB]; simp
theorem idx_in {l : List Hold} (hp : l.Pairwise (fun x y => lessId x.Id y.Id)) {h : Hold} (hm : h ∈ l) : ∃ k : Nat, idxOf (idIs h.Id) l = (k : Int) ∧ l[k]? = some h ∧ k < l.length := by
  have hge := idxOf_ge (idIs h.Id) l
  by_cases hk : idxOf (idIs h.Id) l < 0
  · have := idxOf_neg hk h hm
    rw [(idIs_iff h.Id h).2 rfl] at this; cases this
  · obtain ⟨x, hx, hq, hl⟩ := idxOf_lt (q := idIs h.Id) (l := l) (by omega)
    rw [idIs_iff] at hq
    have := uniq hp (List.mem_of_getElem? hx) hm hq
    subst this
    exact ⟨(idxOf (idIs x.Id) l).toNat, by omega, hx, hl⟩
theorem impl_RingOk_true {r : Ring} (h : ringP r) : impl_RingOk r = some true := by
  obtain ⟨b, _, e2, i⟩ := RingOk_iff r (by have := h.2.1; omega) (by have := h.1; have := h.2.1; omega)
  have hb := i.2 h
  subst hb
  exact e2
theorem sum_swept {a : Acct} (h : acctD a) (now : Int) : 0 ≤ sumA (sweptH a now).Holds ∧ a.Posted + sumA (sweptH a now).Holds ≤ a.Limit := by
  have hs := acctD_sum (acctD_swept h now)
  exact ⟨hs.2.1, hs.2.2.1⟩
theorem MakeHold_tot (code : List Int) (h : code.length ≤ 1048576) : ∃ id n ttl now, spec_MakeHold code = some (id, n, ttl, now) ∧ holdIdOk id = true ∧ id.size ≤ 2 ∧ 1 ≤ n ∧ n ≤ 40 ∧ 1 ≤ ttl ∧ ttl ≤ 20 ∧ 0 ≤ now ∧ now ≤ 19 := by
  obtain ⟨c, e, k⟩ := New_tot code h
  obtain ⟨s, c1, e1, k1, m1, m2⟩ := l07Id_tot _ (cur_h k (i64 (c.h + 3)))
  obtain ⟨r2, c2, e2, k2, a2, b2⟩ := Below_tot c1 40 k1
  obtain ⟨r3, c3, e3, k3, a3, b3⟩ := Below_tot c2 20 k2
  obtain ⟨r4, c4, e4, k4, a4, b4⟩ := Below_tot c3 20 k3
  have b2 := b2 (by omega)
  have b3 := b3 (by omega)
  have b4 := b4 (by omega)
  unfold spec_MakeHold
  simp only [e, e1, e2, e3, e4, Option.bind_some]
  rw [i64_of (show -9223372036854775808 ≤ 1 + r2 by omega) (by omega), i64_of (show -9223372036854775808 ≤ 1 + r3 by omega) (by omega)]
  exact ⟨_, _, _, _, rfl, m2, m1, by omega, by omega, by omega, by omega, by omega, by omega⟩
theorem time_of {n : Int} (h : 0 ≤ n) (h2 : n ≤ 1000000000) : time n = true := by unfold time; simp only [Bool.and_eq_true, decide_eq_true_eq]; omega
def lsB (a b : ByteArray) : Bool := Op.bytesLess a.toList b.toList
def insH (h : Hold) : List Hold → List Hold
  | [] => [h]
  | x :: t => if lsB x.Id h.Id = true then x :: insH h t else h :: x :: t
def leadH (h : Hold) : List Hold → Nat
  | [] => 0
  | x :: t => if lsB x.Id h.Id = true then leadH h t + 1 else 0
theorem leadH_le (h : Hold) : ∀ l : List Hold, leadH h l ≤ l.length
  | [] => Nat.le_refl _
  | x :: t => by
    have := leadH_le h t
    unfold leadH
    split <;> simp only [List.length_cons] <;> omega
theorem insH_eq (h : Hold) : ∀ l : List Hold, insH h l = l.take (leadH h l) ++ ([h] ++ l.drop (leadH h l))
  | [] => rfl
  | x :: t => by
    have ih := insH_eq h t
    unfold insH leadH
    rcases tf (lsB x.Id h.Id) with q | q
    · simp only [q, if_true, List.take_succ_cons, List.drop_succ_cons, List.cons_append, ih]
    · simp only [q, Bool.false_eq_true, if_false, List.take_zero, List.drop_zero, List.nil_append, List.cons_append]
theorem insH_len (h : Hold) (l : List Hold) : (insH h l).length = l.length + 1 := by
  have := leadH_le h l
  rw [insH_eq]
  simp only [List.length_append, List.length_take, List.length_drop, List.length_cons, List.length_nil]
  omega
theorem insH_mem (h : Hold) : ∀ (l : List Hold) (y : Hold), y ∈ insH h l ↔ y = h ∨ y ∈ l
  | [], y => by simp [insH]
  | x :: t, y => by
    have ih := insH_mem h t y
    unfold insH
    split
    · rw [List.mem_cons, ih, List.mem_cons]
      constructor
      · rintro (e | e | e)
        · exact .inr (.inl e)
        · exact .inl e
        · exact .inr (.inr e)
      · rintro (e | e | e)
        · exact .inr (.inl e)
        · exact .inl e
        · exact .inr (.inr e)
    · simp only [List.mem_cons]
theorem insH_sum (h : Hold) : ∀ l : List Hold, sumA (insH h l) = h.Amount + sumA l
  | [] => rfl
  | x :: t => by
    have ih := insH_sum h t
    unfold insH
    split
    · simp only [sumA, ih]; omega
    · simp only [sumA]
theorem insH_all {h : Hold} {q : Hold → Bool} {l : List Hold} (hh : q h = true) (hl : ∀ x ∈ l, q x = true) : (insH h l).filter q = insH h l :=
  List.filter_eq_self.2 fun y hy => by
    rcases (insH_mem h l y).1 hy with rfl | hy
    · exact hh
    · exact hl y hy
theorem insH_sorted (h : Hold) : ∀ {l : List Hold}, l.Pairwise (fun x y => lessId x.Id y.Id) → (∀ x ∈ l, idIs h.Id x = false) → (insH h l).Pairwise (fun x y => lessId x.Id y.Id)
  | [], _, _ => by simp [insH]
  | x :: t, hp, hn => by
    rw [List.pairwise_cons] at hp
    have ih := insH_sorted h hp.2 (fun y hy => hn y (by simp [hy]))
    unfold insH
    rcases tf (lsB x.Id h.Id) with q | q
    · rw [if_pos q, List.pairwise_cons]
      refine ⟨fun y hy => ?_, ih⟩
      rcases (insH_mem h t y).1 hy with rfl | hy
      · exact q
      · exact hp.1 y hy
    · rw [q, if_neg (by decide), List.pairwise_cons]
      have hlt : lessId h.Id x.Id := by
        have hf := bytesLess_flip x.Id.toList h.Id.toList
        have hne : ¬ x.Id = h.Id := fun e => by
          have := hn x (by simp)
          rw [(idIs_iff h.Id x).2 e] at this; cases this
        have hne2 : (x.Id.toList == h.Id.toList) = false := by
          rw [← beq_toListBytes, beqB]
          simpa using hne
        unfold lsB at q
        unfold lessId
        rw [hf, q, hne2]; rfl
      refine ⟨fun y hy => ?_, List.pairwise_cons.2 hp⟩
      rcases List.mem_cons.1 hy with rfl | hy
      · exact hlt
      · exact lessId_trans hlt (hp.1 y hy)
theorem holdsP_ins {h : Hold} {l : List Hold} (hl : holdsP l) (hh : holdP h) (hn : ∀ x ∈ l, idIs h.Id x = false) (h3 : l.length ≤ 3) : holdsP (insH h l) := by
  refine ⟨by rw [insH_len]; omega, fun y hy => ?_, insH_sorted h hl.2.2 hn⟩
  rcases (insH_mem h l y).1 hy with rfl | hy
  · exact hh
  · exact hl.2.1 y hy
theorem HoldPut_lead (h : Hold) (r2 : List Hold) : ∀ t p : List Hold, impl_HoldPut_l0 h r2 t p = some ((p.length + leadH h t : Nat) : Int)
  | [], p => rfl
  | x :: t, p => by
    have ih := HoldPut_lead h r2 t (p ++ [x])
    unfold impl_HoldPut_l0 leadH
    rcases tf (lsB x.Id h.Id) with q | q
    · rw [show Op.bytesLess x.Id.toList h.Id.toList = true from q, if_pos rfl, ih, q, if_pos rfl]
      simp only [List.length_append, List.length_cons, List.length_nil]
      congr 2
      omega
    · rw [show Op.bytesLess x.Id.toList h.Id.toList = false from q, q]
      rfl
theorem Insert_val (l : List Hold) (h : Hold) (k : Nat) (hk : k ≤ l.length) (hl : l.length ≤ 1000) : slices_Insert_impl_Hold l (k : Int) [h] = some (l.take k ++ ([h] ++ l.drop k)) := by
  unfold slices_Insert_impl_Hold
  rw [if_pos (decide_eq_true (by omega)), if_pos (decide_eq_true (by omega)), if_neg (by simp), if_pos (capOk_of (by simp; omega)), if_pos (capOk_of (by simp; omega))]
  by_cases e : k = l.length
  · subst e
    rw [if_pos (by simp)]
    simp
  · rw [if_neg (by rw [beq_iff_eq]; omega)]
    simp
theorem HoldPut_val {l : List Hold} {h : Hold} (hl : holdsP l) (hh : holdP h) (hn : ∀ x ∈ l, idIs h.Id x = false) (h3 : l.length ≤ 3) (hs : ∀ x ∈ l, x.Id.size ≤ 4000000) (hz : h.Id.size ≤ 4000000) : impl_HoldPut l h = some (insH h l, true) := by
  have hp := holdsP_ins hl hh hn h3
  obtain ⟨b, _, e1, i1⟩ := HoldsOk_iff l (by omega) hs
  obtain ⟨c, _, e2, i2⟩ := HoldsOk_iff (insH h l) (by rw [insH_len]; omega) (fun y hy => by
    rcases (insH_mem h l y).1 hy with rfl | hy
    · exact hz
    · exact hs y hy)
  have hb := i1.2 hl
  have hc := i2.2 hp
  subst hb hc
  have hf : l.filter (fun x => !idIs h.Id x) = l := List.filter_eq_self.2 fun y hy => by rw [hn y hy]; rfl
  have hi := Insert_val l h (leadH h l) (leadH_le h l) (by omega)
  have hL := HoldPut_lead h l l []
  simp only [List.length_nil, Nat.zero_add] at hL
  unfold impl_HoldPut
  rw [e1, Option.bind_some, if_pos rfl, impl_HoldDrop_val l h.Id (by omega), hf, Option.bind_some, if_pos (capOk_of (by omega)), hL, Option.bind_some, hi, ← insH_eq, Option.bind_some, e2]
  rfl
theorem idx_no {l : List Hold} {id : ByteArray} (h : idxOf (idIs id) l < 0) : ∀ x ∈ l, idIs id x = false := idxOf_neg h
theorem begin_at {a : Acct} (h : acctD a) {now : Int} (ht : time now = true) : impl_begin a now = some (sweptH a now, 0) := by
  rw [begin_val a now (by have := acctD_wt h; omega), acctOk_of h, ht]; rfl
theorem room_swept (a : Acct) (now : Int) : room (sweptH a now) now = room a now := by
  unfold room
  rw [show (sweptH a now).Holds = a.Holds.filter (live now) from rfl, List.filter_filter]
  simp
  rfl
/-- The account with its live holds and one more. -/
theorem put_D {b : Acct} (h : acctD b) {now : Int} {x : Hold} (hx : holdP x) (hl : live now x = true) (hz : x.Id.size ≤ 4000000) (hn : ∀ y ∈ (sweptH b now).Holds, idIs x.Id y = false) (h3 : (sweptH b now).Holds.length ≤ 3) (hr : x.Amount ≤ room b now) (r : Ring) (hrp : ringP r) :
    impl_HoldPut (sweptH b now).Holds x = some (insH x (sweptH b now).Holds, true) ∧
    acctD (Acct.mk b.Id b.Limit b.Posted b.Most b.MostSum (insH x (sweptH b now).Holds) r b.Slots) ∧
    room (Acct.mk b.Id b.Limit b.Posted b.Most b.MostSum (insH x (sweptH b now).Holds) r b.Slots) now = room b now - x.Amount := by
  have hd := acctD_swept h now
  have hs := acctD_sum h
  have hH := acctD_holds hd
  have hroom : room b now = b.Limit - b.Posted - sumA (sweptH b now).Holds := rfl
  refine ⟨HoldPut_val hH hx hn h3 (id_sizes hd) hz, acctD_upd h b.Posted _ r hs.1 (holdsP_ins hH hx hn h3) (fun y hy => ?_) hrp (by rw [insH_sum]; omega), ?_⟩
  · rcases (insH_mem x _ y).1 hy with rfl | hy
    · exact hz
    · exact id_sizes hd y hy
  · unfold room
    simp only
    rw [insH_all (l := (sweptH b now).Holds) hl (fun y hy => (List.mem_filter.1 hy).2), insH_sum]
    rw [show b.Holds.filter (live now) = (sweptH b now).Holds from rfl]
    omega
def insB {α : Type} (lt : α → α → Bool) (b : α) : List α → List α
  | [] => [b]
  | x :: l => if lt b x = true then b :: x :: l else x :: insB lt b l
def mgB {α : Type} (lt : α → α → Bool) (A B : List α) : List α := B.foldl (fun acc b => insB lt b acc) A
/-- A list whose blocks of k are sorted. -/
inductive Bs {α : Type} (lt : α → α → Bool) (k : Nat) : List α → List α → Prop
  | last (L : List α) (h : L.length ≤ k) : Bs lt k L (mgB lt [] L)
  | cons (A L M : List α) (h : A.length = k) (r : Bs lt k L M) : Bs lt k (A ++ L) (mgB lt [] A ++ M)
theorem Bs.nil {α : Type} {lt : α → α → Bool} (k : Nat) : Bs lt k [] [] := Bs.last [] (by simp)
/-- Money summed up. -/
def satF (v : Int) (l : List Int) : Int := l.foldl satAdd v
def sumI : List Int → Int
  | [] => 0
  | x :: t => x + sumI t
theorem sumI_nn : ∀ l : List Int, l.all money = true → 0 ≤ sumI l
  | [], _ => Int.le_refl 0
  | x :: t, h => by
    simp only [List.all_cons, Bool.and_eq_true] at h
    have := sumI_nn t h.2
    have h1 := (money_iff x).1 h.1
    simp only [sumI]; omega
theorem satAdd_of {a b : Int} (ha : money a = true) (hb : money b = true) : satAdd a b = if a + b ≤ 4611686018427387904 then a + b else 4611686018427387904 := by
  have ha := (money_iff a).1 ha
  have hb := (money_iff b).1 hb
  have c : ∀ x : Int, 0 ≤ x → x ≤ 4611686018427387904 → cl x = x := fun x h1 h2 => by
    unfold cl
    rw [if_neg (by omega), if_neg (by omega)]
  unfold satAdd
  rw [c a ha.1 ha.2, c b hb.1 hb.2]
theorem satF_val : ∀ (l : List Int) (v : Int), l.all money = true → money v = true → satF v l = if v + sumI l ≤ 4611686018427387904 then v + sumI l else 4611686018427387904
  | [], v, _, hv => by
    have := (money_iff v).1 hv
    have e : sumI [] = 0 := rfl
    show v = _
    rw [if_pos (by omega)]
    omega
  | x :: t, v, h, hv => by
    simp only [List.all_cons, Bool.and_eq_true] at h
    have ht := sumI_nn t h.2
    have hv' := (money_iff v).1 hv
    have hx := (money_iff x).1 h.1
    have ih := satF_val t (satAdd v x) h.2 (satAdd_money _ _)
    have e : sumI (x :: t) = x + sumI t := rfl
    show satF (satAdd v x) t = _
    rw [ih, satAdd_of hv h.1]
    generalize sumI (x :: t) = S at *
    split <;> split <;> split <;> omega
theorem total_l0_val (l : List Int) : ∀ (t : List Int) (v : Int), impl_total_l0 l t v = some (satF v t)
  | [], v => rfl
  | x :: t, v => by
    unfold impl_total_l0
    rw [(AddSat_val v x).2]
    exact total_l0_val l t _
theorem total_val (l : List Int) (h : l.length ≤ 4000000) : impl_total l = some (satF 0 l) := by
  unfold impl_total
  rw [capOk_of (by omega), total_l0_val]
  rfl
theorem impl_Roll_id {q : Ring} (h : ringP q) {now : Int} (ht : time now = true) (hle : i64 (Int.tdiv now q.Span) ≤ q.Head) : rolled q now = q := by
  have e := (RingRoll_val q now (by have := ringP_wt q h; omega)).2.1
  have hs : q.Span ≠ 0 := by have := h.2.2.2.1; omega
  unfold impl_RingRoll at e
  rw [Ring_copied_val q (by have := ringP_wt q h; omega), impl_RingOk_true h] at e
  simp only [Option.bind_some, if_true, isTime_val, ht, hs, ne_eq, not_false_eq_true, decide_true, hle] at e
  exact (Option.some.inj e).symm
theorem rolled_head {r : Ring} (h : ringP r) {now : Int} (ht : time now = true) : i64 (Int.tdiv now (rolled r now).Span) ≤ (rolled r now).Head := by
  by_cases hle : i64 (Int.tdiv now r.Span) ≤ r.Head
  · rw [impl_Roll_id h ht hle]; exact hle
  · have e := (RingRoll_val r now (by have := ringP_wt r h; omega)).2.1
    have hs : r.Span ≠ 0 := by have := h.2.2.2.1; omega
    unfold impl_RingRoll at e
    rw [Ring_copied_val r (by have := ringP_wt r h; omega), impl_RingOk_true h] at e
    simp only [Option.bind_some, if_true, isTime_val, ht, hs, ne_eq, not_false_eq_true, decide_true, hle, decide_false, Bool.false_eq_true, if_false] at e
    cases h1 : impl_shifted r.Counts (i64 (i64 (Int.tdiv now r.Span) - r.Head)) with
    | none => rw [h1] at e; cases e
    | some c =>
      rw [h1, Option.bind_some] at e
      cases h2 : impl_shifted r.Sums (i64 (i64 (Int.tdiv now r.Span) - r.Head)) with
      | none => rw [h2] at e; cases e
      | some s =>
        rw [h2, Option.bind_some] at e
        have e := Option.some.inj e
        rw [← e]
        exact Int.le_refl _
def cntR (r : Ring) (now : Int) : Int := satF 0 (rolled r now).Counts
def sumR (r : Ring) (now : Int) : Int := satF 0 (rolled r now).Sums
theorem RingCount_at {r : Ring} (h : ringP r) {now : Int} (ht : time now = true) : impl_RingCount r now = some (cntR r now) := by
  have hq := ringP_rolled r now h
  unfold impl_RingCount cntR
  rw [impl_RingOk_true h, (RingRoll_val r now (by have := ringP_wt r h; omega)).2.1]
  simp only [Option.bind_some, if_true, isTime_val, ht, total_val _ (show (rolled r now).Counts.length ≤ 4000000 by have := hq.2.1; omega)]
theorem RingSum_at {r : Ring} (h : ringP r) {now : Int} (ht : time now = true) : impl_RingSum r now = some (sumR r now) := by
  have hq := ringP_rolled r now h
  unfold impl_RingSum sumR
  rw [impl_RingOk_true h, (RingRoll_val r now (by have := ringP_wt r h; omega)).2.1]
  simp only [Option.bind_some, if_true, isTime_val, ht, total_val _ (show (rolled r now).Sums.length ≤ 4000000 by have := hq.1; have := hq.2.1; omega)]
theorem satF_rng (l : List Int) (h : l.all money = true) : 0 ≤ satF 0 l ∧ satF 0 l ≤ 4611686018427387904 := by
  have := sumI_nn l h
  rw [satF_val l 0 h rfl]
  split <;> omega
/-- One bucket more by n. -/
theorem satF_set {l : List Int} (h : l.all money = true) (hl : 1 ≤ l.length) {n : Int} (hn : money n = true) (hb : satF 0 l + n ≤ 4611686018427387904) (hlt : satF 0 l < 4611686018427387904) : satF 0 (l.set 0 (satAdd (l.getD 0 0) n)) = satF 0 l + n := by
  match l, hl with
  | x :: t, _ =>
    have hn' := (money_iff n).1 hn
    simp only [List.all_cons, Bool.and_eq_true] at h
    have hx := (money_iff x).1 h.1
    have ht := sumI_nn t h.2
    have e := satF_val (x :: t) 0 (by simp only [List.all_cons, Bool.and_eq_true]; exact h) rfl
    have es : sumI (x :: t) = x + sumI t := rfl
    have hs : 0 + sumI (x :: t) ≤ 4611686018427387904 := by
      rcases Int.lt_or_le 4611686018427387904 (0 + sumI (x :: t)) with q | q
      · rw [if_neg (by omega)] at e; omega
      · exact q
    rw [if_pos hs] at e
    show satF 0 ((satAdd x n) :: t) = _
    have hxn : satAdd x n = x + n := by
      rw [satAdd_of h.1 hn, if_pos (by omega)]
    have hm : money (x + n) = true := by rw [money_iff]; omega
    rw [hxn, satF_val ((x + n) :: t) 0 (by simp only [List.all_cons, Bool.and_eq_true]; exact ⟨hm, h.2⟩) rfl]
    have es2 : sumI ((x + n) :: t) = x + n + sumI t := rfl
    rw [if_pos (by omega), e]
    omega
theorem added_at {r : Ring} (h : ringP r) {now : Int} (ht : time now = true) {n : Int} (hn : money n = true) (h1 : cntR r now + 1 ≤ 1000) (h2 : sumR r now + n ≤ 9007199254740992) :
    cntR (added (rolled r now) n) now = cntR r now + 1 ∧ sumR (added (rolled r now) n) now = sumR r now + n := by
  have hq := ringP_rolled r now h
  have hA := ringP_added _ n hq
  have hr : rolled (added (rolled r now) n) now = added (rolled r now) n := impl_Roll_id hA ht (rolled_head h ht)
  have hn' := (money_iff n).1 hn
  obtain ⟨g1, g2, g3, g4, g5, g6, g7, g8⟩ := hq
  unfold cntR at h1 ⊢
  unfold sumR at h2 ⊢
  rw [hr]
  exact ⟨satF_set g7 g3 rfl (by omega) (by omega), satF_set g8 (by omega) hn (by omega) (by omega)⟩
theorem checks_at {a : Acct} (h : acctD a) (n : Int) {now : Int} (ht : time now = true) (h1 : 1 ≤ n) (h2 : n ≤ 40) :
    impl_checks a n now = some (if room a now < n then 7 else if a.Most < cntR a.Ring now + 1 then 8 else if a.MostSum < sumR a.Ring now + n then 9 else 0) := by
  have hq := ringP_rolled a.Ring now (acctD_ring h)
  obtain ⟨c1, c2⟩ := satF_rng _ hq.2.2.2.2.2.2.1
  obtain ⟨d1, d2⟩ := satF_rng _ hq.2.2.2.2.2.2.2
  have hm := h.1.2.2.1
  have hs := h.1.2.2.2.1
  have k1 : satAdd (cntR a.Ring now) 1 = if cntR a.Ring now + 1 ≤ 4611686018427387904 then cntR a.Ring now + 1 else 4611686018427387904 := satAdd_of (by rw [money_iff]; exact ⟨c1, c2⟩) rfl
  have k2 : satAdd (sumR a.Ring now) n = if sumR a.Ring now + n ≤ 4611686018427387904 then sumR a.Ring now + n else 4611686018427387904 := satAdd_of (by rw [money_iff]; exact ⟨d1, d2⟩) (by rw [money_iff]; omega)
  have c2 : cntR a.Ring now ≤ 4611686018427387904 := c2
  have d2 : sumR a.Ring now ≤ 4611686018427387904 := d2
  unfold impl_checks
  simp only [Room_val h ht, RingCount_at (acctD_ring h) ht, RingSum_at (acctD_ring h) ht, Option.bind_some, (AddSat_val _ _).2]
  have z1 : (a.Most < satAdd (cntR a.Ring now) 1) = (a.Most < cntR a.Ring now + 1) := by
    rw [k1]
    split
    · rfl
    · exact propext ⟨fun _ => by omega, fun _ => by omega⟩
  have z2 : (a.MostSum < satAdd (sumR a.Ring now) n) = (a.MostSum < sumR a.Ring now + n) := by
    rw [k2]
    split
    · rfl
    · exact propext ⟨fun _ => by omega, fun _ => by omega⟩
  simp only [z1, z2]
  by_cases y1 : room a now < n
  · simp only [y1, decide_true, if_true]
  · by_cases y2 : a.Most < cntR a.Ring now + 1
    · simp only [y1, y2, decide_true, decide_false, Bool.false_eq_true, if_false, if_true]
    · by_cases y3 : a.MostSum < sumR a.Ring now + n
      · simp only [y1, y2, y3, decide_true, decide_false, Bool.false_eq_true, if_false, if_true]
      · simp only [y1, y2, y3, decide_false, Bool.false_eq_true, if_false]
/-- What comes of an authorization. -/
theorem Auth_at {a : Acct} (h : acctD a) {id : ByteArray} (hid : holdIdOk id = true) (hz : id.size ≤ 2) {n ttl now : Int} (ht : time now = true) (hn : now ≤ 20) (h1 : 1 ≤ n) (h2 : n ≤ 40) (h3 : 1 ≤ ttl) (h4 : ttl ≤ 20) :
    ∃ y : Int, ((y = 0) ↔ (idxOf (idIs id) (sweptH a now).Holds < 0 ∧ (sweptH a now).Holds.length < 4 ∧ n ≤ room a now ∧ cntR a.Ring now + 1 ≤ a.Most ∧ sumR a.Ring now + n ≤ a.MostSum)) ∧
      impl_Authorize a id n ttl now = some (if y = 0 then (Acct.mk a.Id a.Limit a.Posted a.Most a.MostSum (insH (Hold.mk id n (now + ttl)) (sweptH a now).Holds) (added (rolled a.Ring now) n) a.Slots, 0) else (zeroA, y)) := by
  have ht0 : 0 ≤ now := by unfold time at ht; simp only [Bool.and_eq_true, decide_eq_true_eq] at ht; exact ht.1
  have da := acctD_swept h now
  have hlA := holds_len _ (show wtAcct (sweptH a now) ≤ 4000000 by have := acctD_wt da; omega)
  have hi : impl_HoldIdOk id = some true := by rw [(HoldIdOk_val id (by omega)).2, hid]
  have hw : i64 (now + ttl) = now + ttl := i64_of (by omega) (by omega)
  have h44 := (acctD_holds da).1
  unfold impl_Authorize
  simp only [begin_at h ht, Option.bind_some, bne_rfl, Bool.false_eq_true, if_false, hi, if_true, within_val, show (decide (1 ≤ n) && decide (n ≤ 9007199254740992)) = true by simp; omega, show (decide (1 ≤ ttl) && decide (ttl ≤ 9999)) = true by simp; omega, hw, show ¬ 1000000000 < now + ttl by omega, decide_false, impl_HoldAt_val _ id hlA]
  by_cases c1 : 0 ≤ idxOf (idIs id) (sweptH a now).Holds
  · refine ⟨6, ⟨fun e => by omega, fun e => by omega⟩, ?_⟩
    simp only [c1, decide_true, if_true]; rfl
  · simp only [c1, decide_false, Bool.false_eq_true, if_false]
    by_cases c2 : (sweptH a now).Holds.length = 4
    · refine ⟨10, ⟨fun e => by omega, fun e => by omega⟩, ?_⟩
      rw [if_pos (by rw [c2]; rfl)]; rfl
    · rw [if_neg (by rw [beq_iff_eq]; omega)]
      have ck := checks_at da n ht h1 h2
      rw [room_swept, show (sweptH a now).Ring = a.Ring from rfl, show (sweptH a now).Most = a.Most from rfl, show (sweptH a now).MostSum = a.MostSum from rfl] at ck
      rw [ck, Option.bind_some]
      by_cases y1 : room a now < n
      · exact ⟨7, ⟨fun e => by omega, fun e => by omega⟩, by rw [if_pos y1]; rfl⟩
      · rw [if_neg y1]
        by_cases y2 : a.Most < cntR a.Ring now + 1
        · exact ⟨8, ⟨fun e => by omega, fun e => by omega⟩, by rw [if_pos y2]; rfl⟩
        · rw [if_neg y2]
          by_cases y3 : a.MostSum < sumR a.Ring now + n
          · exact ⟨9, ⟨fun e => by omega, fun e => by omega⟩, by rw [if_pos y3]; rfl⟩
          · refine ⟨0, ⟨fun _ => by omega, fun _ => rfl⟩, ?_⟩
            rw [if_neg y3]
            have hx : holdP (Hold.mk id n (now + ttl)) := ⟨hid, h1, by show n ≤ _; omega, time_of (show 0 ≤ now + ttl by omega) (show now + ttl ≤ 1000000000 by omega)⟩
            have hlv : live now (Hold.mk id n (now + ttl)) = true := by unfold live; simp only [decide_eq_true_eq]; omega
            obtain ⟨p1, _⟩ := put_D h hx hlv (show id.size ≤ 4000000 by omega) (idx_no (show idxOf (idIs id) (sweptH a now).Holds < 0 by omega)) (by omega) (show n ≤ room a now by omega) _ (ringP_added _ n (ringP_rolled _ now (acctD_ring h)))
            simp only [bne_rfl, Bool.false_eq_true, if_false, p1, Option.bind_some, show (sweptH a now).Ring = a.Ring from rfl, impl_RingAdd_val a.Ring now n (acctD_ring h) ht (show money n = true by rw [money_iff]; omega), if_true]
            rfl
namespace Pure
theorem FnAuth (o : List Int) (h0 : W22 o) : laws_FnAuth o = some true := by
  unfold laws_FnAuth
  by_cases s1 : (1048576 : Int) < (o.length : Int)
  · simp only [s1, decide_true, if_true]
  simp only [s1, decide_false, Bool.false_eq_true, if_false]
  obtain ⟨a, e1, d⟩ := MakeAcct_tot o (by omega)
  obtain ⟨id, n, ttl, now, e2, i1, i2, n1, n2, l1, l2, t1, t2⟩ := MakeHold_tot o (by omega)
  have ht := time_of t1 (by omega)
  have da := acctD_swept d now
  have hlA := holds_len _ (show wtAcct (sweptH a now) ≤ 4000000 by have := acctD_wt da; omega)
  obtain ⟨y, hy, ea⟩ := Auth_at d i1 i2 ht (by omega) n1 n2 l1 l2
  have hq := ringP_rolled a.Ring now (acctD_ring d)
  obtain ⟨c1, c2⟩ := satF_rng _ hq.2.2.2.2.2.2.1
  obtain ⟨d1, d2⟩ := satF_rng _ hq.2.2.2.2.2.2.2
  have c1 : 0 ≤ cntR a.Ring now := c1
  have c2 : cntR a.Ring now ≤ 4611686018427387904 := c2
  have d1 : 0 ≤ sumR a.Ring now := d1
  have d2 : sumR a.Ring now ≤ 4611686018427387904 := d2
  have j1 : i64 (cntR a.Ring now + 1) = cntR a.Ring now + 1 := i64_of (by omega) (by omega)
  have j2 : i64 (sumR a.Ring now + n) = sumR a.Ring now + n := i64_of (by omega) (by omega)
  have zid : (zeroA.Id == bs []) = true := by decide +kernel
  have h44 := (acctD_holds da).1
  simp only [e1, e2, Option.bind_some, ea, impl_AcctSwept_val a now (by have := acctD_wt d; omega), swept_of d ht, Room_val d ht, RingCount_at (acctD_ring d) ht, RingSum_at (acctD_ring d) ht, impl_HoldAt_val _ id hlA, j1, j2]
  by_cases hy0 : y = 0
  · obtain ⟨g1, g2, g3, g4, g5⟩ := hy.1 hy0
    subst hy0
    have sa := acctD_sum d
    have hMost := d.1.2.2.1
    have hMs := d.1.2.2.2.1
    have hx : holdP (Hold.mk id n (now + ttl)) := ⟨i1, n1, by show n ≤ _; omega, time_of (show 0 ≤ now + ttl by omega) (show now + ttl ≤ 1000000000 by omega)⟩
    have hlv : live now (Hold.mk id n (now + ttl)) = true := by unfold live; simp only [decide_eq_true_eq]; omega
    obtain ⟨_, p2, p3⟩ := put_D d hx hlv (show id.size ≤ 4000000 by omega) (idx_no g1) (by omega) (show n ≤ room a now by omega) _ (ringP_added _ n (ringP_rolled _ now (acctD_ring d)))
    obtain ⟨r1, r2⟩ := added_at (acctD_ring d) ht (show money n = true by rw [money_iff]; omega) (show cntR a.Ring now + 1 ≤ 1000 by omega) (show sumR a.Ring now + n ≤ 9007199254740992 by omega)
    obtain ⟨k, hk, hg, hl⟩ := idx_in (acctD_holds p2).2.2 (show Hold.mk id n (now + ttl) ∈ insH (Hold.mk id n (now + ttl)) (sweptH a now).Holds from (insH_mem _ _ _).2 (.inl rfl))
    have hk : idxOf (idIs id) (insH (Hold.mk id n (now + ttl)) (sweptH a now).Holds) = (k : Int) := hk
    have hg : (insH (Hold.mk id n (now + ttl)) (sweptH a now).Holds)[k]? = some (Hold.mk id n (now + ttl)) := hg
    have hroom : 0 ≤ room a now ∧ room a now ≤ 9007199254740992 := by
      have hs := sum_swept d now
      have : room a now = a.Limit - a.Posted - sumA (sweptH a now).Holds := rfl
      omega
    have j3 : i64 (now + ttl) = now + ttl := i64_of (by omega) (by omega)
    have j4 : i64 (room a now - n) = room a now - n := i64_of (by omega) (by omega)
    have p3 : room (Acct.mk a.Id a.Limit a.Posted a.Most a.MostSum (insH (Hold.mk id n (now + ttl)) (sweptH a now).Holds) (added (rolled a.Ring now) n) a.Slots) now = room a now - n := p3
    simp only [if_true, g1, g2, g3, g4, g5, decide_true, bne_rfl, Bool.false_eq_true, if_false, show ((sweptH a now).Holds.length : Int) < 4 by omega, spec_HoldAt_val _ id (show (insH (Hold.mk id n (now + ttl)) (sweptH a now).Holds).length ≤ 4000000 by rw [insH_len]; omega), Option.bind_some, hk, Int.natCast_nonneg, Int.toNat_natCast, hg, j3, j4, beq_rfl, beq_self_eq_true, Bool.and_self, Room_val p2 ht, p3, RingCount_at (acctD_ring p2) ht, RingSum_at (acctD_ring p2) ht, r1, r2, AcctOk_true p2]
  · have hb : (y != 0) = true := by rw [bne_iff_ne]; exact hy0
    rw [if_neg hy0]
    simp only [hb, if_true, zid]
    by_cases g1 : idxOf (idIs id) (sweptH a now).Holds < 0 <;> by_cases g3 : n ≤ room a now <;> by_cases g4 : cntR a.Ring now + 1 ≤ a.Most <;> by_cases g2 : ((sweptH a now).Holds.length : Int) < 4 <;> by_cases g5 : sumR a.Ring now + n ≤ a.MostSum <;>
      first
        | (exact absurd (hy.2 ⟨g1, by omega, g3, g4, g5⟩) hy0)
        | (simp only [g1, g2, g3, g4, g5, decide_true, decide_false, if_true, if_false, Bool.false_eq_true, spec_HoldAt_val zeroA.Holds id (show zeroA.Holds.length ≤ 4000000 by decide), Option.bind_some]; done)
        | (simp [g1, g2, g3, g4, g5])
end Pure
end Go.Proofs.YtlkkfamdlicaeaaM
