/- Laws of the plain functions. No condition. -/
import Derived.Test.YtdahdpnkppknfaaGreatDoorEvOp
import Derived.Laws.StructEq
namespace Go.Proofs.YtdahdpnkppknfaaGreatDoorM
set_option linter.unusedVariables false
set_option linter.unusedSimpArgs false
set_option maxRecDepth 100000
theorem i64_of {x : Int} (h : -9223372036854775808 ≤ x) (h2 : x ≤ 9223372036854775807) : i64 x = x := by unfold i64; rw [IntKind.wrap_i64]; omega
theorem i64_nn {x : Int} (h : 0 ≤ x) (h2 : x ≤ 9223372036854775807) : i64 x = x := i64_of (by omega) h2
theorem u8_of {x : Int} (h : 0 ≤ x) (h2 : x ≤ 255) : u8 x = x := by unfold u8 IntKind.wrap; simp [IntKind.bits, IntKind.signed]; omega
theorem capOk_of {n : Nat} (h : n ≤ 274877906944) : capOk n = true := decide_eq_true h
theorem beqB (a b : ByteArray) : (a == b) = decide (a = b) := by
  rcases a with ⟨a⟩
  rcases b with ⟨b⟩
  have h1 : ((⟨a⟩ : ByteArray) == ⟨b⟩) = (a == b) := rfl
  rw [h1]
  by_cases h : a = b
  · subst h; simp
  · have h2 : ¬ ((⟨a⟩ : ByteArray) = ⟨b⟩) := fun e => h (by cases e; rfl)
    rw [decide_eq_false h2]
    simpa using h
theorem tmod10 {x : Int} (h : 0 ≤ x) : Int.tmod x 10 = x % 10 := Int.tmod_eq_emod_of_nonneg h
theorem size_app (a b : ByteArray) : (a ++ b).size = a.size + b.size := ByteArray.size_append
def byB (l : List Int) : Prop := ∀ b ∈ l, 0 ≤ b ∧ b ≤ 255
/-- The weight of a list: its length, and its elements' weights. -/
def wtL {α : Type} (f : α → Nat) : List α → Nat
  | [] => 0
  | x :: t => 1 + f x + wtL f t
def wtS {α : Type} (f : α → Nat) : List α → Nat
  | [] => 0
  | x :: t => f x + wtS f t
theorem wtL_eq {α : Type} (f : α → Nat) : ∀ l : List α, wtL f l = l.length + wtS f l
  | [] => rfl
  | x :: t => by simp only [wtL, wtS, List.length_cons]; rw [wtL_eq f t]; omega
theorem wtL_len {α : Type} (f : α → Nat) (l : List α) : l.length ≤ wtL f l := by rw [wtL_eq]; omega
theorem wtL_mem {α : Type} (f : α → Nat) : ∀ (l : List α) (x : α), x ∈ l → f x + 1 ≤ wtL f l
  | y :: t, x, h => by
    simp only [wtL]
    rcases List.mem_cons.1 h with rfl | h
    · omega
    · have := wtL_mem f t x h; omega
theorem wtL_bound {α : Type} (f : α → Nat) (k : Nat) : ∀ (l : List α), (∀ x ∈ l, f x ≤ k) → wtL f l ≤ (k + 1) * l.length
  | [], _ => by simp [wtL]
  | x :: t, h => by
    have h1 := wtL_bound f k t (fun y hy => h y (by simp [hy]))
    have h2 := h x (by simp)
    simp only [wtL, List.length_cons, Nat.mul_succ]
    omega
def wtRing (a : Ring) : Nat := a.Counts.length + a.Sums.length
theorem wtRing_eq (a : Ring) : wtRing a = a.Counts.length + a.Sums.length := rfl
def wtSlot (a : Slot) : Nat := a.Trace.size + a.Mti.size + a.Reply.length
theorem wtSlot_eq (a : Slot) : wtSlot a = a.Trace.size + a.Mti.size + a.Reply.length := rfl
def slices_Clone_int (s_ : List Int) : Option (List Int) := if capOk s_.length = true then some s_ else none
def impl_Ring_copied (r_ : Ring) : Option (Ring) :=
 (slices_Clone_int r_.Counts).bind fun r1 =>
 (slices_Clone_int r_.Sums).bind fun r2 =>
 some (Ring.mk r_.Span r_.Head r1 r2)
def impl_Digits_l0 (s_ : ByteArray) : Nat → Int → Option (Lo Unit Unit)
  | 0, _ => none
  | fuel + 1, v1 =>
   if (decide (v1 < (s_.size : Int))) = true then
    if (decide (0 ≤ v1)) = true then
     if (decide ((v1 : Int) < (s_.size : Int))) = true then
      if (decide ((sAt s_ v1) < 48)) = true then
       some (.ret ())
      else
       if (decide (57 < (sAt s_ v1))) = true then
        some (.ret ())
       else
        impl_Digits_l0 s_ fuel (i64 (v1 + 1))
     else none
    else none
   else
    some (.out ())
def impl_Digits (s_ : ByteArray) : Option (Bool) :=
 (impl_Digits_l0 s_ FUEL 0).bind fun r1 =>
 Lo.elim r1 (fun s1 =>
  some (!(s_ == (bs [])))) (fun s2 =>
  some false)
def impl_Luhn_l0 (s_ : ByteArray) : Nat → Int → Bool → Int → Option (Int)
  | 0, _, _, _ => none
  | fuel + 1, v1, v2, v3 =>
   if (decide (0 ≤ v3)) = true then
    if (decide ((v3 : Int) < (s_.size : Int))) = true then
     if v2 = true then
      if (decide (9 < (i64 ((i64 (u8 ((sAt s_ v3) - 48))) * 2)))) = true then
       impl_Luhn_l0 s_ fuel (i64 (v1 + (i64 ((i64 ((i64 (u8 ((sAt s_ v3) - 48))) * 2)) - 9)))) (!v2) (i64 (v3 - 1))
      else
       impl_Luhn_l0 s_ fuel (i64 (v1 + (i64 ((i64 (u8 ((sAt s_ v3) - 48))) * 2)))) (!v2) (i64 (v3 - 1))
     else
      impl_Luhn_l0 s_ fuel (i64 (v1 + (i64 (u8 ((sAt s_ v3) - 48))))) (!v2) (i64 (v3 - 1))
    else none
   else
    some v1
def impl_Luhn (s_ : ByteArray) : Option (Int) :=
 (impl_Digits s_).bind fun r1 =>
 if r1 = true then
  (impl_Luhn_l0 s_ FUEL 0 true (i64 ((s_.size : Int) - 1))).bind fun r2 =>
  some (Int.tmod (i64 (10 - (Int.tmod r2 10))) 10)
 else
  some (-1)
def impl_LuhnOk (s_ : ByteArray) : Option (Bool) :=
 if (decide (1 ≤ (i64 ((s_.size : Int) - 1)))) = true then
  (impl_Digits s_).bind fun r1 =>
  if r1 = true then
   if (decide (0 ≤ (i64 ((s_.size : Int) - 1)))) = true then
    if (decide ((i64 ((s_.size : Int) - 1)) ≤ (s_.size : Int))) = true then
     if (decide (0 ≤ i64 ((s_.size : Int) - 1))) = true then
      if (decide ((i64 ((s_.size : Int) - 1) : Int) < (s_.size : Int))) = true then
       (impl_Luhn (s_.extract 0 (i64 ((s_.size : Int) - 1)).toNat)).bind fun r2 =>
       some (r2 == (i64 (u8 ((sAt s_ (i64 ((s_.size : Int) - 1))) - 48))))
      else none
     else none
    else none
   else none
  else
   some false
 else
  some false
def impl_AcctIdOk (s_ : ByteArray) : Option (Bool) :=
 if (decide ((s_.size : Int) ≤ 19)) = true then
  (impl_LuhnOk s_).bind fun r1 =>
  some r1
 else
  some false
def impl_HoldIdOk_l0 (s_ : ByteArray) : Nat → Int → Option (Lo Unit Unit)
  | 0, _ => none
  | fuel + 1, v1 =>
   if (decide (v1 < (s_.size : Int))) = true then
    if (decide (0 ≤ v1)) = true then
     if (decide ((v1 : Int) < (s_.size : Int))) = true then
      if (decide ((sAt s_ v1) < 48)) = true then
       if (decide ((sAt s_ v1) < 97)) = true then
        some (.ret ())
       else
        if (decide (122 < (sAt s_ v1))) = true then
         some (.ret ())
        else
         impl_HoldIdOk_l0 s_ fuel (i64 (v1 + 1))
      else
       if (decide (57 < (sAt s_ v1))) = true then
        if (decide ((sAt s_ v1) < 97)) = true then
         some (.ret ())
        else
         if (decide (122 < (sAt s_ v1))) = true then
          some (.ret ())
         else
          impl_HoldIdOk_l0 s_ fuel (i64 (v1 + 1))
       else
        impl_HoldIdOk_l0 s_ fuel (i64 (v1 + 1))
     else none
    else none
   else
    some (.out ())
def impl_HoldIdOk (s_ : ByteArray) : Option (Bool) :=
 (impl_HoldIdOk_l0 s_ FUEL 0).bind fun r1 =>
 Lo.elim r1 (fun s1 =>
  (impl_within (s_.size : Int) 1 6).bind fun r2 =>
  some r2) (fun s2 =>
  some false)
def impl_isTime (n : Int) : Option (Bool) :=
 (impl_within n 0 1000000000).bind fun r1 =>
 some r1
def impl_HoldOk (h_ : Hold) : Option (Bool) :=
 (impl_HoldIdOk h_.Id).bind fun r1 =>
 if r1 = true then
  (impl_within h_.Amount 1 9007199254740992).bind fun r2 =>
  if r2 = true then
   (impl_isTime h_.Due).bind fun r3 =>
   some r3
  else
   some false
 else
  some false
def impl_HoldsOk_l0 (l : List Hold) : List Hold → List Hold → Option (Lo Unit Unit)
  | [], p1 =>
   some (.out ())
  | x1 :: t1, p1 =>
   (impl_HoldOk x1).bind fun r1 =>
   if r1 = true then
    if (decide (0 < (p1.length : Int))) = true then
     if (decide (0 ≤ (i64 ((p1.length : Int) - 1)))) = true then
      (l[(i64 ((p1.length : Int) - 1)).toNat]?).bind fun x2 =>
      if (Op.bytesLess x1.Id.toList x2.Id.toList || (x1.Id == x2.Id)) = true then
       some (.ret ())
      else
       impl_HoldsOk_l0 l t1 (p1 ++ [x1])
     else none
    else
     impl_HoldsOk_l0 l t1 (p1 ++ [x1])
   else
    some (.ret ())
def impl_HoldsOk (l : List Hold) : Option (Bool) :=
 if (capOk l.length) = true then
  (impl_HoldsOk_l0 l l []).bind fun r2 =>
  Lo.elim r2 (fun s1 =>
   some (decide ((l.length : Int) ≤ 4))) (fun s2 =>
   some false)
 else none
def slices_Grow_int_nil (n : Int) : Option ((List Int)) :=
 if (decide (n < 0)) = true then none else
 if (decide (0 < (i64 (n - 0)))) = true then
  if (capOk (i64 (n - 0)).toNat) = true then
   some []
  else none
 else
  some []
def slices_Concat_int_l0 (slices : List (List Int)) : List (List Int) → Int → Option (Int)
  | [], v1 =>
   some v1
  | x1 :: t1, v1 =>
   if (decide ((i64 (v1 + (x1.length : Int))) < 0)) = true then none else
   slices_Concat_int_l0 slices t1 (i64 (v1 + (x1.length : Int)))
def slices_Concat_int_l1 (slices : List (List Int)) : List (List Int) → (List Int) → Option ((List Int))
  | [], v2 =>
   some v2
  | x2 :: t2, v2 =>
   if (capOk (v2.length + x2.length)) = true then
    slices_Concat_int_l1 slices t2 (v2 ++ x2)
   else none
def slices_Concat_int (slices : List (List Int)) : Option ((List Int)) :=
 if (capOk slices.length) = true then
  (slices_Concat_int_l0 slices slices 0).bind fun r1 =>
  (slices_Grow_int_nil r1).bind fun r2 =>
  (slices_Concat_int_l1 slices slices r2).bind fun r3 =>
  some r3
 else none
def impl_RingOk_l0 (r_ : Ring) (r1 : (List Int)) : List Int → Option (Lo Unit Unit)
  | [] =>
   some (.out ())
  | x1 :: t1 =>
   (impl_isMoney x1).bind fun r2 =>
   if r2 = true then
    impl_RingOk_l0 r_ r1 t1
   else
    some (.ret ())
def impl_RingOk (r_ : Ring) : Option (Bool) :=
 (slices_Concat_int [r_.Counts, r_.Sums]).bind fun r1 =>
 if (capOk r1.length) = true then
  (impl_RingOk_l0 r_ r1 r1).bind fun r3 =>
  Lo.elim r3 (fun s1 =>
   (impl_within r_.Span 1 1000).bind fun r4 =>
   if r4 = true then
    (impl_within (r_.Counts.length : Int) 1 8).bind fun r5 =>
    if r5 = true then
     if ((r_.Sums.length : Int) == (r_.Counts.length : Int)) = true then
      (impl_isTime r_.Head).bind fun r6 =>
      some r6
     else
      some false
    else
     some false
   else
    some false) (fun s2 =>
   some false)
 else none
def impl_isWide (s_ : ByteArray) (n : Int) : Option (Bool) :=
 (impl_Digits s_).bind fun r1 =>
 if r1 = true then
  some ((s_.size : Int) == n)
 else
  some false
def impl_SlotOk (s_ : Slot) : Option (Bool) :=
 (impl_isWide s_.Trace 6).bind fun r1 =>
 if r1 = true then
  (impl_isWide s_.Mti 4).bind fun r2 =>
  if r2 = true then
   (impl_within (s_.Reply.length : Int) 1 200).bind fun r3 =>
   some r3
  else
   some false
 else
  some false
def impl_slotAt_1 (s_ : Slot) (c0_0 : ByteArray) (c1_0 : ByteArray) : Option (Bool) :=
 if (s_.Trace == c0_0) = true then
  some (s_.Mti == c1_0)
 else
  some false
def slices_IndexFunc_impl_Slot_impl_slotAt_1_l0 (s_ : List Slot) (f0_0 : ByteArray) (f1_0 : ByteArray) : List Slot → List Slot → Option (Lo Unit Int)
  | [], p1 =>
   some (.out ())
  | x1 :: t1, p1 =>
   (impl_slotAt_1 x1 f0_0 f1_0).bind fun r1 =>
   if r1 = true then
    some (.ret (p1.length : Int))
   else
    slices_IndexFunc_impl_Slot_impl_slotAt_1_l0 s_ f0_0 f1_0 t1 (p1 ++ [x1])
def slices_IndexFunc_impl_Slot_impl_slotAt_1 (s_ : List Slot) (f0_0 : ByteArray) (f1_0 : ByteArray) : Option (Int) :=
 if (capOk s_.length) = true then
  (slices_IndexFunc_impl_Slot_impl_slotAt_1_l0 s_ f0_0 f1_0 s_ []).bind fun r2 =>
  Lo.elim r2 (fun s1 =>
   some (-1)) (fun s2 =>
   some s2)
 else none
def impl_slotAt (l : List Slot) (trace : ByteArray) (mti : ByteArray) : Option (Int) :=
 (slices_IndexFunc_impl_Slot_impl_slotAt_1 l trace mti).bind fun r1 =>
 some r1
def impl_SlotsOk_l0 (l : List Slot) : List Slot → List Slot → Option (Lo Unit Unit)
  | [], p1 =>
   some (.out ())
  | x1 :: t1, p1 =>
   (impl_SlotOk x1).bind fun r1 =>
   if r1 = true then
    (impl_slotAt l x1.Trace x1.Mti).bind fun r2 =>
    if (r2 != (p1.length : Int)) = true then
     some (.ret ())
    else
     impl_SlotsOk_l0 l t1 (p1 ++ [x1])
   else
    some (.ret ())
def impl_SlotsOk (l : List Slot) : Option (Bool) :=
 if (capOk l.length) = true then
  (impl_SlotsOk_l0 l l []).bind fun r3 =>
  Lo.elim r3 (fun s1 =>
   some (decide ((l.length : Int) ≤ 6))) (fun s2 =>
   some false)
 else none
def impl_AddSat (a : Int) (b : Int) : Option (Int) :=
 if (decide ((i64 (4611686018427387904 - (imax 0 (imin b 4611686018427387904)))) < (imax 0 (imin a 4611686018427387904)))) = true then
  some 4611686018427387904
 else
  some (i64 ((imax 0 (imin a 4611686018427387904)) + (imax 0 (imin b 4611686018427387904))))
def impl_Stored_l0 (l : List Hold) : List Hold → Int → Option (Int)
  | [], v1 =>
   some v1
  | x1 :: t1, v1 =>
   (impl_AddSat v1 x1.Amount).bind fun r1 =>
   impl_Stored_l0 l t1 r1
def impl_Stored (l : List Hold) : Option (Int) :=
 if (capOk l.length) = true then
  (impl_Stored_l0 l l 0).bind fun r2 =>
  some r2
 else none
def impl_AcctOk (a : Acct) : Option (Bool) :=
 (impl_AcctIdOk a.Id).bind fun r1 =>
 if r1 = true then
  (impl_within a.Limit 0 9007199254740992).bind fun r2 =>
  if r2 = true then
   (impl_within a.Most 0 1000).bind fun r3 =>
   if r3 = true then
    (impl_within a.MostSum 0 9007199254740992).bind fun r4 =>
    if r4 = true then
     (impl_isMoney a.Posted).bind fun r5 =>
     if r5 = true then
      (impl_HoldsOk a.Holds).bind fun r6 =>
      if r6 = true then
       (impl_RingOk a.Ring).bind fun r7 =>
       if r7 = true then
        (impl_SlotsOk a.Slots).bind fun r8 =>
        if r8 = true then
         (impl_Stored a.Holds).bind fun r9 =>
         (impl_AddSat a.Posted r9).bind fun r10 =>
         some (decide (r10 ≤ a.Limit))
        else
         some false
       else
        some false
      else
       some false
     else
      some false
    else
     some false
   else
    some false
  else
   some false
 else
  some false
def impl_shifted_l0 (l : List Int) (by_ : Int) : List Int → List Int → (List Int) → Option ((List Int))
  | [], p1, v1 =>
   some v1
  | x1 :: t1, p1, v1 =>
   if (decide (by_ ≤ (p1.length : Int))) = true then
    if (decide (0 ≤ (i64 ((p1.length : Int) - by_)))) = true then
     (l[(i64 ((p1.length : Int) - by_)).toNat]?).bind fun x2 =>
     (v1[(p1.length : Int).toNat]?).bind fun x3 =>
     impl_shifted_l0 l by_ t1 (p1 ++ [x1]) (v1.set ((p1.length : Int).toNat) x2)
    else none
   else
    impl_shifted_l0 l by_ t1 (p1 ++ [x1]) v1
def impl_shifted (l : List Int) (by_ : Int) : Option ((List Int)) :=
 if (decide (0 ≤ (l.length : Int))) = true then
  if (capOk (l.length : Int).toNat) = true then
   if (capOk l.length) = true then
    (impl_shifted_l0 l by_ l [] (List.replicate ((l.length : Int).toNat) 0)).bind fun r1 =>
    some r1
   else none
  else none
 else none
def impl_RingRoll (r_ : Ring) (now : Int) : Option (Ring) :=
 (impl_Ring_copied r_).bind fun r1 =>
 (impl_RingOk r_).bind fun r2 =>
 if r2 = true then
  (impl_isTime now).bind fun r3 =>
  if r3 = true then
   if (decide (r_.Span ≠ 0)) = true then
    if (decide ((i64 (Int.tdiv now r_.Span)) ≤ r_.Head)) = true then
     some r1
    else
     (impl_shifted r_.Counts (i64 ((i64 (Int.tdiv now r_.Span)) - r_.Head))).bind fun r4 =>
     (impl_shifted r_.Sums (i64 ((i64 (Int.tdiv now r_.Span)) - r_.Head))).bind fun r5 =>
     some (Ring.mk r_.Span (i64 (Int.tdiv now r_.Span)) r4 r5)
   else none
  else
   some r1
 else
  some r1
theorem tf (b : Bool) : b = true ∨ b = false := by cases b <;> simp
theorem l01In_val (n lo hi : Int) : spec_l01In n lo hi = some (decide (lo ≤ n) && decide (n ≤ hi)) := by
  unfold spec_l01In
  by_cases h : lo ≤ n <;> simp [h]
theorem within_val (n lo hi : Int) : impl_within n lo hi = some (decide (lo ≤ n) && decide (n ≤ hi)) := by
  unfold impl_within
  by_cases h : lo ≤ n <;> simp [h]
def time (n : Int) : Bool := decide (0 ≤ n) && decide (n ≤ 1000000000)
theorem l06Time_val (n : Int) : spec_l06Time n = some (time n) := by unfold spec_l06Time; rw [l01In_val]; rfl
theorem isTime_val (n : Int) : impl_isTime n = some (time n) := by unfold impl_isTime; rw [within_val]; rfl
def money (n : Int) : Bool := decide (0 ≤ n) && decide (n ≤ 4611686018427387904)
theorem l01Money_val (n : Int) : spec_l01Money n = some (money n) := by
  unfold spec_l01Money money
  by_cases h : 0 ≤ n <;> simp [h]
theorem isMoney_val (n : Int) : impl_isMoney n = some (money n) := by unfold impl_isMoney; rw [within_val]; rfl
theorem spec_Digits_l0_tot (s : ByteArray) (hs : s.size ≤ 4000000) : ∀ (n : Nat) (v : Int), 0 ≤ v → v ≤ s.size → (s.size : Int) - v < n →
    ∃ y, spec_Digits_l0 s n v = some y ∧ impl_Digits_l0 s n v = some y ∧ ∀ u, y = .out u → ∀ i : Int, v ≤ i → i < s.size → 48 ≤ sAt s i ∧ sAt s i ≤ 57
  | 0, v, h0, hv, hn => by exfalso; omega
  | n + 1, v, h0, hv, hn => by
    unfold spec_Digits_l0 impl_Digits_l0
    by_cases h1 : v < (s.size : Int)
    · by_cases h2 : sAt s v < 48
      · exact ⟨.ret (), by simp [h1, h0, h2], by simp [h1, h0, h2], fun u e => by cases e⟩
      · by_cases h3 : 57 < sAt s v
        · exact ⟨.ret (), by simp [h1, h0, h2, h3], by simp [h1, h0, h2, h3], fun u e => by cases e⟩
        · have hi : i64 (v + 1) = v + 1 := i64_nn (by omega) (by omega)
          obtain ⟨y, e1, e2, e3⟩ := spec_Digits_l0_tot s hs n (v + 1) (by omega) (by omega) (by omega)
          refine ⟨y, by simp [h1, h0, h2, h3, hi, e1], by simp [h1, h0, h2, h3, hi, e2], fun u e i hv hi' => ?_⟩
          by_cases hiv : i = v
          · subst hiv; omega
          · exact e3 u e i (by omega) hi'
    · exact ⟨.out (), by simp [h1], by simp [h1], fun u _ i hv hi => by omega⟩
theorem beq_empty (s : ByteArray) : (s == bs []) = decide (s.size = 0) := by
  rw [beqB]
  by_cases h : s.size = 0
  · have : s = bs [] := by
      rcases s with ⟨d⟩
      have hd : d.size = 0 := h
      have : d = #[] := Array.eq_empty_of_size_eq_zero hd
      subst this; rfl
    rw [decide_eq_true h, decide_eq_true this]
  · rw [decide_eq_false h, decide_eq_false (fun e => h (by rw [e]; rfl))]
theorem Digits_tot (s : ByteArray) (hs : s.size ≤ 4000000) : ∃ b, spec_Digits s = some b ∧ impl_Digits s = some b ∧ (b = true → 0 < s.size ∧ ∀ i : Int, 0 ≤ i → i < s.size → 48 ≤ sAt s i ∧ sAt s i ≤ 57) := by
  obtain ⟨y, e1, e2, e3⟩ := spec_Digits_l0_tot s hs FUEL 0 (by omega) (by omega) (by unfold FUEL; omega)
  unfold spec_Digits impl_Digits
  rw [e1, e2]
  cases y with
  | ret u => exact ⟨false, rfl, rfl, fun h => by cases h⟩
  | out u =>
    refine ⟨decide (0 < (s.size : Int)), rfl, ?_, fun h => ⟨by have := of_decide_eq_true h; omega, fun i h0 hi => e3 u rfl i h0 hi⟩⟩
    simp only [Option.bind_some, Lo.elim, beq_empty]
    congr 1
    by_cases h : s.size = 0
    · simp [h]
    · rw [decide_eq_false h, decide_eq_true (show (0 : Int) < s.size by omega)]; rfl
theorem Luhn_l0_tot (s : ByteArray) (hs : s.size ≤ 4000000) (hd : ∀ i : Int, 0 ≤ i → i < s.size → 48 ≤ sAt s i ∧ sAt s i ≤ 57) : ∀ (n : Nat) (v w : Int) (b : Bool) (k : Int), k + 1 < n → -1 ≤ k → k < s.size → 0 ≤ v → v + 9 * (k + 1) ≤ 100000000 → w = v % 10 →
    ∃ y, impl_Luhn_l0 s n v b k = some y ∧ spec_Luhn_l0 s n w b k = some (y % 10) ∧ 0 ≤ y ∧ y ≤ 100000000
  | 0, v, w, b, k, hn, hk, hks, hv, hb, hw => by
    exfalso; omega
  | n + 1, v, w, b, k, hn, hk, hks, hv, hb, hw => by
    unfold impl_Luhn_l0 spec_Luhn_l0
    by_cases h0 : 0 ≤ k
    · obtain ⟨d1, d2⟩ := hd k h0 hks
      have hk1 : i64 (k - 1) = k - 1 := i64_of (by omega) (by omega)
      have hu : u8 (sAt s k - 48) = sAt s k - 48 := u8_of (by omega) (by omega)
      have hi : i64 (sAt s k - 48) = sAt s k - 48 := i64_of (by omega) (by omega)
      have hi2 : i64 (sAt s k) = sAt s k := i64_of (by omega) (by omega)
      have hi3 : i64 ((sAt s k - 48) * 2) = (sAt s k - 48) * 2 := i64_of (by omega) (by omega)
      have hi4 : i64 (2 * (sAt s k - 48)) = (sAt s k - 48) * 2 := by rw [Int.mul_comm]; exact hi3
      have hd0 : 0 ≤ sAt s k - 48 ∧ sAt s k - 48 ≤ 9 := by omega
      simp only [hk1, hu, hi2, hi, hi3, hi4]
      generalize sAt s k - 48 = d at *
      obtain ⟨g0, g9⟩ := hd0
      have hm : ∀ x, 0 ≤ x → x ≤ 9 → i64 (v + x) = v + x ∧ i64 (w + x) = w + x ∧ Int.tmod (w + x) 10 = (v + x) % 10 := fun x hx hx9 => by
        refine ⟨i64_of (by omega) (by omega), i64_of (by omega) (by omega), ?_⟩
        rw [tmod10 (by omega)]; omega
      by_cases hb' : b = true
      · by_cases h9 : 9 < d * 2
        · have h9' : i64 (d * 2 - 9) = d * 2 - 9 := i64_of (by omega) (by omega)
          obtain ⟨m1, m2, m3⟩ := hm (d * 2 - 9) (by omega) (by omega)
          obtain ⟨y, e1, e2, e3⟩ := Luhn_l0_tot s hs hd n (v + (d * 2 - 9)) ((v + (d * 2 - 9)) % 10) (!b) (k - 1) (by omega) (by omega) (by omega) (by omega) (by omega) rfl
          exact ⟨y, by simp only [h0, hks, hb', h9, h9', m1, m2, m3, decide_true, if_true]; rw [hb'] at e1; exact e1, by simp only [h0, hks, hb', h9, h9', m1, m2, m3, decide_true, if_true]; rw [hb'] at e2; exact e2, e3⟩
        · obtain ⟨m1, m2, m3⟩ := hm (d * 2) (by omega) (by omega)
          obtain ⟨y, e1, e2, e3⟩ := Luhn_l0_tot s hs hd n (v + d * 2) ((v + d * 2) % 10) (!b) (k - 1) (by omega) (by omega) (by omega) (by omega) (by omega) rfl
          exact ⟨y, by simp only [h0, hks, hb', h9, m1, m2, m3, decide_true, decide_false, if_true, Bool.false_eq_true, if_false]; rw [hb'] at e1; exact e1, by simp only [h0, hks, hb', h9, m1, m2, m3, decide_true, decide_false, if_true, Bool.false_eq_true, if_false]; rw [hb'] at e2; exact e2, e3⟩
      · have hbf : b = false := by simpa using hb'
        obtain ⟨m1, m2, m3⟩ := hm d (by omega) (by omega)
        obtain ⟨y, e1, e2, e3⟩ := Luhn_l0_tot s hs hd n (v + d) ((v + d) % 10) (!b) (k - 1) (by omega) (by omega) (by omega) (by omega) (by omega) rfl
        exact ⟨y, by simp only [h0, hks, hbf, m1, m2, m3, decide_true, if_true, Bool.false_eq_true, if_false]; rw [hbf] at e1; exact e1, by simp only [h0, hks, hbf, m1, m2, m3, decide_true, if_true, Bool.false_eq_true, if_false]; rw [hbf] at e2; exact e2, e3⟩
    · exact ⟨v, by simp [h0], by simp [h0, hw], hv, by omega⟩
theorem Luhn_tot (s : ByteArray) (hs : s.size ≤ 4000000) : ∃ y, spec_Luhn s = some y ∧ impl_Luhn s = some y := by
  obtain ⟨b, e1, e2, e3⟩ := Digits_tot s hs
  unfold spec_Luhn impl_Luhn
  rw [e1, e2]
  cases b with
  | false => exact ⟨-1, rfl, rfl⟩
  | true =>
    obtain ⟨hp, hd⟩ := e3 rfl
    have hi : i64 ((s.size : Int) - 1) = (s.size : Int) - 1 := i64_of (by omega) (by omega)
    obtain ⟨y, q1, q2, q3, q4⟩ := Luhn_l0_tot s hs hd FUEL 0 0 true ((s.size : Int) - 1) (by unfold FUEL; omega) (by omega) (by omega) (by omega) (by omega) rfl
    refine ⟨Int.tmod (i64 (10 - y % 10)) 10, ?_, ?_⟩
    · simp only [Option.bind_some, if_true, hi, q2]
    · simp only [Option.bind_some, if_true, hi, q1, tmod10 q3]
theorem LuhnOk_eq (s : ByteArray) (hs : s.size ≤ 4000000) : ∃ y, spec_LuhnOk s = some y ∧ impl_LuhnOk s = some y := by
  obtain ⟨b, e1, e2, e3⟩ := Digits_tot s hs
  unfold spec_LuhnOk impl_LuhnOk
  have hi : i64 ((s.size : Int) - 1) = (s.size : Int) - 1 := i64_of (by omega) (by omega)
  rw [e1, e2, hi]
  by_cases h2 : (s.size : Int) < 2
  · have h1 : ¬ 1 ≤ (s.size : Int) - 1 := by omega
    refine ⟨false, ?_, by simp [h1]⟩
    cases b <;> simp [h2]
  · have h1 : 1 ≤ (s.size : Int) - 1 := by omega
    cases b with
    | false => exact ⟨false, by simp, by simp [h1]⟩
    | true =>
      obtain ⟨hp, hd⟩ := e3 rfl
      obtain ⟨d1, d2⟩ := hd ((s.size : Int) - 1) (by omega) (by omega)
      obtain ⟨y, q1, q2⟩ := Luhn_tot (s.extract 0 ((s.size : Int) - 1).toNat) (by simp; omega)
      have c1 : (0 : Int) ≤ (s.size : Int) - 1 := by omega
      have c2 : (s.size : Int) - 1 ≤ s.size := by omega
      have c3 : (s.size : Int) - 1 < s.size := by omega
      have hu : u8 (sAt s ((s.size : Int) - 1) - 48) = sAt s ((s.size : Int) - 1) - 48 := u8_of (by omega) (by omega)
      have hi2 : i64 (sAt s ((s.size : Int) - 1)) = sAt s ((s.size : Int) - 1) := i64_of (by omega) (by omega)
      refine ⟨y == i64 (sAt s ((s.size : Int) - 1) - 48), ?_, ?_⟩
      · simp only [Option.bind_some, if_true, h2, decide_false, Bool.false_eq_true, if_false, c1, c2, c3, decide_true, q1, hi2]
      · simp only [Option.bind_some, if_true, h1, c1, c2, c3, decide_true, q2, hu]
theorem AcctIdOk_eq (s : ByteArray) : ∃ y, spec_AcctIdOk s = some y ∧ impl_AcctIdOk s = some y ∧ (y = true → s.size ≤ 19) := by
  unfold spec_AcctIdOk impl_AcctIdOk
  by_cases h : (s.size : Int) ≤ 19
  · obtain ⟨y, e1, e2⟩ := LuhnOk_eq s (by omega)
    exact ⟨y, by simp [h, e1], by simp [h, e2], fun _ => by omega⟩
  · exact ⟨false, by simp [h], by simp [h], fun e => by cases e⟩
theorem HoldIdOk_l0_eq : ∀ (s : ByteArray) (n : Nat) (v : Int), impl_HoldIdOk_l0 s n v = spec_HoldIdOk_l0 s n v
  | s, 0, v => rfl
  | s, n + 1, v => by unfold impl_HoldIdOk_l0 spec_HoldIdOk_l0; simp only [HoldIdOk_l0_eq s n]
theorem HoldIdOk_l0_tot (s : ByteArray) (hs : s.size ≤ 4000000) : ∀ (n : Nat) (v : Int), 0 ≤ v → v ≤ s.size → (s.size : Int) - v < n → ∃ y, spec_HoldIdOk_l0 s n v = some y
  | 0, v, h0, hv, hn => by exfalso; omega
  | n + 1, v, h0, hv, hn => by
    unfold spec_HoldIdOk_l0
    by_cases h1 : v < (s.size : Int)
    · have hi : i64 (v + 1) = v + 1 := i64_nn (by omega) (by omega)
      obtain ⟨y, e⟩ := HoldIdOk_l0_tot s hs n (v + 1) (by omega) (by omega) (by omega)
      simp only [h1, h0, decide_true, if_true, hi, e]
      repeat' split
      all_goals exact ⟨_, rfl⟩
    · exact ⟨.out (), by simp [h1]⟩
theorem bytesLess_flip : ∀ a b : List UInt8, Op.bytesLess b a = !(Op.bytesLess a b || a == b)
  | [], [] => rfl
  | [], _ :: _ => rfl
  | _ :: _, [] => rfl
  | a :: x, b :: y => by
    have ih := bytesLess_flip x y
    unfold Op.bytesLess
    rw [ih]
    by_cases h1 : a < b
    · have h2 : ¬ b < a := by have := UInt8.lt_iff_toNat_lt.1 h1; intro h; have := UInt8.lt_iff_toNat_lt.1 h; omega
      have h3 : ¬ b = a := by intro e; subst e; exact h2 h1
      simp [h1, h2, h3]
    · by_cases h2 : b < a
      · have h3 : ¬ a = b := by intro e; subst e; exact h1 h2
        have h4 : ¬ b = a := fun e => h3 e.symm
        simp [h1, h2, h3]
      · have h3 : a = b := by
          apply UInt8.toNat_inj.1
          have := mt UInt8.lt_iff_toNat_lt.2 h1
          have := mt UInt8.lt_iff_toNat_lt.2 h2
          omega
        subst h3
        simp [h1]
theorem less_flip (a b : ByteArray) : Op.bytesLess b.toList a.toList = !(Op.bytesLess a.toList b.toList || (a == b)) := by
  rw [beq_toListBytes]; exact bytesLess_flip _ _
theorem HoldIdOk_tot (s : ByteArray) (hs : s.size ≤ 4000000) : ∃ y, spec_HoldIdOk s = some y ∧ impl_HoldIdOk s = some y ∧ (y = true → s.size ≤ 6) := by
  obtain ⟨y, e⟩ := HoldIdOk_l0_tot s hs FUEL 0 (by omega) (by omega) (by unfold FUEL; omega)
  unfold spec_HoldIdOk impl_HoldIdOk
  rw [HoldIdOk_l0_eq, e]
  cases y with
  | ret u => exact ⟨false, rfl, rfl, fun h => by cases h⟩
  | out u =>
    refine ⟨decide ((1 : Int) ≤ s.size) && decide ((s.size : Int) ≤ 6), ?_, ?_, fun h => ?_⟩
    · simp only [Option.bind_some, Lo.elim, l01In_val]
    · simp only [Option.bind_some, Lo.elim, within_val]
    · simp only [Bool.and_eq_true, decide_eq_true_eq] at h; omega
theorem HoldOk_tot (h : Hold) (hs : h.Id.size ≤ 4000000) : ∃ y, spec_HoldOk h = some y ∧ impl_HoldOk h = some y ∧ (y = true → h.Id.size ≤ 6 ∧ 1 ≤ h.Amount ∧ h.Amount ≤ 9007199254740992 ∧ time h.Due = true) := by
  obtain ⟨y, e1, e2, e3⟩ := HoldIdOk_tot h.Id hs
  unfold spec_HoldOk impl_HoldOk
  rw [e1, e2]
  cases y with
  | false => exact ⟨false, rfl, rfl, fun e => by cases e⟩
  | true =>
    simp only [Option.bind_some, if_true, l01In_val, within_val, l06Time_val, isTime_val]
    by_cases ha : (decide (1 ≤ h.Amount) && decide (h.Amount ≤ 9007199254740992)) = true
    · rw [ha]
      refine ⟨time h.Due, rfl, rfl, fun ht => ⟨e3 rfl, ?_⟩⟩
      simp only [Bool.and_eq_true, decide_eq_true_eq] at ha
      exact ⟨ha.1, ha.2, ht⟩
    · have : (decide (1 ≤ h.Amount) && decide (h.Amount ≤ 9007199254740992)) = false := by simpa using ha
      rw [this]
      exact ⟨false, rfl, rfl, fun e => by cases e⟩
theorem HoldsOk_l0_tot (l : List Hold) (hl : l.length ≤ 274877906944) : ∀ (t p : List Hold), l = p ++ t → (∀ h ∈ t, h.Id.size ≤ 4000000) →
    ∃ y, spec_HoldsOk_l0 l t p = some y ∧ impl_HoldsOk_l0 l t p = some y ∧ ∀ u, y = .out u → ∀ h ∈ t, h.Id.size ≤ 6 ∧ 1 ≤ h.Amount ∧ h.Amount ≤ 9007199254740992 ∧ time h.Due = true
  | [], p, e, hs => ⟨.out (), rfl, rfl, fun _ _ h hh => by simp at hh⟩
  | x :: t, p, e, hs => by
    obtain ⟨y, e1, e2, e3⟩ := HoldOk_tot x (hs x (by simp))
    obtain ⟨z, f1, f2, f3⟩ := HoldsOk_l0_tot l hl t (p ++ [x]) (by rw [e]; simp) (fun h hh => hs h (by simp [hh]))
    unfold spec_HoldsOk_l0 impl_HoldsOk_l0
    rw [e1, e2]
    have f3' : y = true → ∀ u, z = .out u → ∀ h ∈ x :: t, h.Id.size ≤ 6 ∧ 1 ≤ h.Amount ∧ h.Amount ≤ 9007199254740992 ∧ time h.Due = true := fun hy u hz h hh => by
      rcases List.mem_cons.1 hh with rfl | hh
      · exact e3 hy
      · exact f3 u hz h hh
    cases y with
    | false => exact ⟨.ret (), rfl, rfl, fun u e => by cases e⟩
    | true =>
      simp only [Option.bind_some, if_true]
      by_cases hp : (0 : Int) < (p.length : Int)
      · have hpl : p.length ≤ l.length := by rw [e]; simp
        have hi : i64 ((p.length : Int) - 1) = (p.length : Int) - 1 := i64_of (by omega) (by omega)
        have hn : ((p.length : Int) - 1).toNat < l.length := by rw [e]; simp; omega
        have hg : l[((p.length : Int) - 1).toNat]? = some l[((p.length : Int) - 1).toNat] := List.getElem?_eq_getElem hn
        have h1 : (0 : Int) ≤ (p.length : Int) - 1 := by omega
        simp only [hp, hi, h1, decide_true, if_true, hg, Option.bind_some, less_flip x.Id]
        by_cases hb : (Op.bytesLess x.Id.toList l[((p.length : Int) - 1).toNat].Id.toList || x.Id == l[((p.length : Int) - 1).toNat].Id) = true
        · rw [hb]
          exact ⟨.ret (), by simp, by simp, fun u e => by cases e⟩
        · have hb' : (Op.bytesLess x.Id.toList l[((p.length : Int) - 1).toNat].Id.toList || x.Id == l[((p.length : Int) - 1).toNat].Id) = false := by simpa using hb
          rw [hb']
          exact ⟨z, by simpa using f1, by simpa using f2, f3' rfl⟩
      · simp only [hp, decide_false, Bool.false_eq_true, if_false]
        exact ⟨z, f1, f2, f3' rfl⟩
theorem HoldsOk_tot (l : List Hold) (hl : l.length ≤ 274877906944) (hs : ∀ h ∈ l, h.Id.size ≤ 4000000) : ∃ y, spec_HoldsOk l = some y ∧ impl_HoldsOk l = some y ∧ (y = true → l.length ≤ 4 ∧ ∀ h ∈ l, h.Id.size ≤ 6 ∧ 1 ≤ h.Amount ∧ h.Amount ≤ 9007199254740992 ∧ time h.Due = true) := by
  obtain ⟨y, e1, e2, e3⟩ := HoldsOk_l0_tot l hl l [] rfl hs
  unfold spec_HoldsOk impl_HoldsOk
  rw [capOk_of hl, e1, e2]
  cases y with
  | ret u => exact ⟨false, rfl, rfl, fun e => by cases e⟩
  | out u => exact ⟨decide ((l.length : Int) ≤ 4), rfl, rfl, fun h => ⟨by have := of_decide_eq_true h; omega, e3 u rfl⟩⟩
theorem Concat_val (a b : List Int) (ha : a.length ≤ 100000000000) (hb : b.length ≤ 100000000000) : slices_Concat_int [a, b] = some (a ++ b) := by
  have h1 : i64 (0 + (a.length : Int)) = (a.length : Int) := by rw [Int.zero_add]; exact i64_of (by omega) (by omega)
  have h2 : i64 ((a.length : Int) + (b.length : Int)) = (a.length : Int) + (b.length : Int) := i64_of (by omega) (by omega)
  have n1 : ¬ (a.length : Int) < 0 := by omega
  have n2 : ¬ (a.length : Int) + (b.length : Int) < 0 := by omega
  have hg : slices_Grow_int_nil ((a.length : Int) + (b.length : Int)) = some [] := by
    unfold slices_Grow_int_nil
    have h3 : i64 ((a.length : Int) + (b.length : Int) - 0) = (a.length : Int) + (b.length : Int) := by rw [Int.sub_zero]; exact h2
    rw [h3]
    have hc : capOk ((a.length : Int) + (b.length : Int)).toNat = true := capOk_of (by omega)
    rw [hc]
    simp [n2]
  unfold slices_Concat_int
  have c0 : capOk [a, b].length = true := rfl
  have cA : capOk (([] : List Int).length + a.length) = true := capOk_of (by simp; omega)
  have cB : capOk ((([] : List Int) ++ a).length + b.length) = true := capOk_of (by simp; omega)
  simp only [c0, if_true, slices_Concat_int_l0, h1, h2, n1, n2, decide_false, Bool.false_eq_true, if_false, Option.bind_some, hg, slices_Concat_int_l1, cA, cB]
  simp
theorem impl_RingOk_l0_val (r : Ring) (c : List Int) : ∀ t : List Int, impl_RingOk_l0 r c t = some (if t.all money = true then .out () else .ret ())
  | [] => rfl
  | x :: t => by
    unfold impl_RingOk_l0
    rw [isMoney_val, impl_RingOk_l0_val r c t]
    cases h : money x <;> simp [h]
theorem spec_RingOk_l0_val (r : Ring) : ∀ (t p : List Int), r.Counts = p ++ t → r.Sums.length = r.Counts.length → spec_RingOk_l0 r t p = some (if (t.all money && (r.Sums.drop p.length).all money) = true then .out () else .ret ())
  | [], p, e, hl => by
    have : r.Sums.drop p.length = [] := List.drop_eq_nil_of_le (by rw [hl, e]; simp)
    rw [this]; rfl
  | x :: t, p, e, hl => by
    have hlt : p.length < r.Sums.length := by rw [hl, e]; simp
    have hd : r.Sums.drop p.length = r.Sums[p.length] :: r.Sums.drop (p.length + 1) := List.drop_eq_getElem_cons hlt
    have ih := spec_RingOk_l0_val r t (p ++ [x]) (by rw [e]; simp) hl
    unfold spec_RingOk_l0
    rw [l01Money_val]
    have hg : r.Sums[((p.length : Int)).toNat]? = some r.Sums[p.length] := by simp [hlt]
    rw [hg, hd, ih]
    simp only [Option.bind_some, l01Money_val, List.length_append, List.length_cons, List.length_nil, Nat.zero_add, List.all_cons]
    by_cases h : money x = true <;> by_cases h2 : money r.Sums[p.length] = true <;> simp [h, h2]
theorem RingOk_tot (r : Ring) (hc : r.Counts.length ≤ 100000000000) (hs : r.Sums.length ≤ 100000000000) : ∃ y, spec_RingOk r = some y ∧ impl_RingOk r = some y ∧ (y = true → r.Sums.length = r.Counts.length ∧ r.Counts.length ≤ 8 ∧ 1 ≤ r.Counts.length ∧ 1 ≤ r.Span ∧ r.Span ≤ 1000 ∧ time r.Head = true ∧ r.Counts.all money = true ∧ r.Sums.all money = true) := by
  unfold spec_RingOk impl_RingOk
  rw [Concat_val _ _ hc hs]
  have cc : capOk (r.Counts ++ r.Sums).length = true := capOk_of (by simp; omega)
  have cd : capOk r.Counts.length = true := capOk_of (by omega)
  simp only [Option.bind_some, cc, cd, if_true, impl_RingOk_l0_val, l01In_val, within_val, l06Time_val, isTime_val]
  by_cases h1 : (decide (1 ≤ r.Span) && decide (r.Span ≤ 1000)) = true
  · by_cases h2 : (decide ((1 : Int) ≤ r.Counts.length) && decide ((r.Counts.length : Int) ≤ 8)) = true
    · by_cases h3 : r.Sums.length = r.Counts.length
      · have h3' : ((r.Sums.length : Int) == (r.Counts.length : Int)) = true := by rw [h3]; simp
        have h3'' : ((r.Sums.length : Int) != (r.Counts.length : Int)) = false := by rw [h3]; simp
        rw [spec_RingOk_l0_val r r.Counts [] rfl h3]
        simp only [h1, h2, h3', h3'', if_true, Bool.false_eq_true, if_false, List.all_append, List.length_nil, List.drop_zero, Option.bind_some]
        refine ⟨(r.Counts.all money && r.Sums.all money) && time r.Head, ?_, ?_, fun h => ?_⟩
        · cases time r.Head <;> cases (r.Counts.all money && r.Sums.all money) <;> simp [Lo.elim]
        · cases time r.Head <;> cases (r.Counts.all money && r.Sums.all money) <;> simp [Lo.elim]
        · simp only [Bool.and_eq_true, decide_eq_true_eq] at h h1 h2
          exact ⟨h3, by omega, by omega, h1.1, h1.2, h.2, h.1.1, h.1.2⟩
      · have h3' : ((r.Sums.length : Int) == (r.Counts.length : Int)) = false := by
          rw [beq_eq_false_iff_ne]; omega
        have h3'' : ((r.Sums.length : Int) != (r.Counts.length : Int)) = true := by
          rw [bne_iff_ne]; omega
        refine ⟨false, by simp only [h1, h2, h3'', if_true], ?_, fun e => by cases e⟩
        simp only [h1, h2, h3', if_true, Bool.false_eq_true, if_false]
        cases (r.Counts ++ r.Sums).all money <;> rfl
    · have h2' : (decide ((1 : Int) ≤ r.Counts.length) && decide ((r.Counts.length : Int) ≤ 8)) = false := by simpa using h2
      refine ⟨false, by simp only [h1, h2', if_true, Bool.false_eq_true, if_false], ?_, fun e => by cases e⟩
      simp only [h1, h2', if_true, Bool.false_eq_true, if_false]
      cases (r.Counts ++ r.Sums).all money <;> rfl
  · have h1' : (decide (1 ≤ r.Span) && decide (r.Span ≤ 1000)) = false := by simpa using h1
    refine ⟨false, by simp only [h1', Bool.false_eq_true, if_false], ?_, fun e => by cases e⟩
    simp only [h1', Bool.false_eq_true, if_false]
    cases (r.Counts ++ r.Sums).all money <;> rfl
theorem isWide_val (s : ByteArray) (n : Int) (b : Bool) (h : impl_Digits s = some b) : impl_isWide s n = some (b && ((s.size : Int) == n)) := by
  unfold impl_isWide
  rw [h]
  cases b <;> rfl
theorem SlotOk_tot (s : Slot) (h1 : s.Trace.size ≤ 4000000) (h2 : s.Mti.size ≤ 4000000) : ∃ y, spec_SlotOk s = some y ∧ impl_SlotOk s = some y ∧ (y = true → s.Trace.size = 6 ∧ s.Mti.size = 4 ∧ s.Reply.length ≤ 200) := by
  obtain ⟨a, a1, a2, a3⟩ := Digits_tot s.Trace h1
  obtain ⟨b, b1, b2, b3⟩ := Digits_tot s.Mti h2
  unfold spec_SlotOk impl_SlotOk
  rw [a1, isWide_val _ _ _ a2, b1, isWide_val _ _ _ b2]
  cases a with
  | false => exact ⟨false, rfl, rfl, fun e => by cases e⟩
  | true =>
    simp only [Option.bind_some, if_true, Bool.true_and]
    by_cases c1 : ((s.Trace.size : Int) == 6) = true
    · simp only [c1, if_true]
      cases b with
      | false => exact ⟨false, rfl, rfl, fun e => by cases e⟩
      | true =>
        simp only [if_true, Bool.true_and]
        by_cases c2 : ((s.Mti.size : Int) == 4) = true
        · simp only [c2, if_true, l01In_val, within_val, Option.bind_some]
          refine ⟨_, rfl, rfl, fun h => ?_⟩
          simp only [Bool.and_eq_true, decide_eq_true_eq] at h
          have e1 := eq_of_beq c1
          have e2 := eq_of_beq c2
          exact ⟨by omega, by omega, by omega⟩
        · have c2' : ((s.Mti.size : Int) == 4) = false := by simpa using c2
          simp only [c2', Bool.false_eq_true, if_false]
          exact ⟨false, rfl, rfl, fun e => by cases e⟩
    · have c1' : ((s.Trace.size : Int) == 6) = false := by simpa using c1
      simp only [c1', Bool.false_eq_true, if_false]
      exact ⟨false, rfl, rfl, fun e => by cases e⟩
def slotIs (a b : ByteArray) (s : Slot) : Bool := (s.Trace == a) && (s.Mti == b)
theorem slotAt_1_val (s : Slot) (a b : ByteArray) : impl_slotAt_1 s a b = some (slotIs a b s) := by
  unfold impl_slotAt_1 slotIs
  cases (s.Trace == a) <;> rfl
theorem spec_SlotsOk_l1_val (l p : List Slot) (x : Slot) : ∀ t : List Slot, spec_SlotsOk_l1 l p x t = some (if t.any (slotIs x.Trace x.Mti) = true then .ret () else .out ())
  | [] => rfl
  | y :: t => by
    unfold spec_SlotsOk_l1
    rw [spec_SlotsOk_l1_val l p x t]
    simp only [List.any_cons]
    unfold slotIs
    by_cases h : (y.Trace == x.Trace) = true <;> by_cases h2 : (y.Mti == x.Mti) = true <;> simp [h, h2]
theorem slotAt_l0_val (l : List Slot) (a b : ByteArray) : ∀ t p : List Slot, slices_IndexFunc_impl_Slot_impl_slotAt_1_l0 l a b t p = some (match t.findIdx? (slotIs a b) with | some i => .ret ((p.length + i : Nat) : Int) | none => .out ())
  | [], p => rfl
  | y :: t, p => by
    unfold slices_IndexFunc_impl_Slot_impl_slotAt_1_l0
    rw [slotAt_1_val, slotAt_l0_val l a b t (p ++ [y])]
    simp only [Option.bind_some, List.findIdx?_cons]
    by_cases h : slotIs a b y = true
    · simp [h]
    · have h' : slotIs a b y = false := by simpa using h
      rw [h']
      simp only [Bool.false_eq_true, if_false]
      cases t.findIdx? (slotIs a b) with
      | none => rfl
      | some i => simp only [Option.map_some, List.length_append, List.length_cons, List.length_nil]; congr 3; omega
theorem slotAt_val (l : List Slot) (hl : l.length ≤ 274877906944) (a b : ByteArray) : impl_slotAt l a b = some (match l.findIdx? (slotIs a b) with | some i => (i : Int) | none => -1) := by
  unfold impl_slotAt slices_IndexFunc_impl_Slot_impl_slotAt_1
  rw [capOk_of hl, slotAt_l0_val]
  cases l.findIdx? (slotIs a b) with
  | none => rfl
  | some i => simp [Lo.elim]
theorem SlotsOk_l0_tot (l : List Slot) (hl : l.length ≤ 274877906944) : ∀ (t p : List Slot), l = p ++ t → (∀ s ∈ t, s.Trace.size ≤ 4000000 ∧ s.Mti.size ≤ 4000000) →
    ∃ y, spec_SlotsOk_l0 l t p = some y ∧ impl_SlotsOk_l0 l t p = some y ∧ ∀ u, y = .out u → ∀ s ∈ t, s.Trace.size = 6 ∧ s.Mti.size = 4 ∧ s.Reply.length ≤ 200
  | [], p, e, hs => ⟨.out (), rfl, rfl, fun _ _ h hh => by simp at hh⟩
  | x :: t, p, e, hs => by
    obtain ⟨y, e1, e2, e3⟩ := SlotOk_tot x (hs x (by simp)).1 (hs x (by simp)).2
    obtain ⟨z, f1, f2, f3⟩ := SlotsOk_l0_tot l hl t (p ++ [x]) (by rw [e]; simp) (fun h hh => hs h (by simp [hh]))
    unfold spec_SlotsOk_l0 impl_SlotsOk_l0
    rw [e1, e2]
    have f3' : y = true → ∀ u, z = .out u → ∀ s ∈ x :: t, s.Trace.size = 6 ∧ s.Mti.size = 4 ∧ s.Reply.length ≤ 200 := fun hy u hz h hh => by
      rcases List.mem_cons.1 hh with rfl | hh
      · exact e3 hy
      · exact f3 u hz h hh
    cases y with
    | false => exact ⟨.ret (), rfl, rfl, fun u e => by cases e⟩
    | true =>
      have htk : (l.take ((p.length : Int).toNat)).drop 0 = p := by rw [e]; simp
      have hple : (p.length : Int) ≤ (l.length : Int) := by rw [e]; simp; omega
      have h0 : (0 : Int) ≤ (p.length : Int) := by omega
      have hcp : capOk p.length = true := capOk_of (by omega)
      have hx : slotIs x.Trace x.Mti x = true := by unfold slotIs; rw [beqB, beqB]; simp
      simp only [Option.bind_some, if_true, h0, hple, decide_true, htk, hcp, spec_SlotsOk_l1_val, slotAt_val l hl]
      by_cases ha : p.any (slotIs x.Trace x.Mti) = true
      · have : ∃ i, l.findIdx? (slotIs x.Trace x.Mti) = some i ∧ i < p.length := by
          rw [e, List.findIdx?_append]
          cases hi : p.findIdx? (slotIs x.Trace x.Mti) with
          | none =>
            exfalso
            rw [List.findIdx?_eq_none_iff] at hi
            obtain ⟨s, hs1, hs2⟩ := List.any_eq_true.1 ha
            have := hi s hs1
            rw [hs2] at this
            cases this
          | some i => exact ⟨i, rfl, (List.findIdx?_eq_some_iff_getElem.1 hi).1⟩
        obtain ⟨i, hi, hlt⟩ := this
        rw [hi]
        have hne : ((i : Int) != (p.length : Int)) = true := by rw [bne_iff_ne]; omega
        simp only [ha, if_true, Lo.elim, hne]
        exact ⟨.ret (), rfl, rfl, fun u e => by cases e⟩
      · have ha' : p.any (slotIs x.Trace x.Mti) = false := by simpa using ha
        have hi : l.findIdx? (slotIs x.Trace x.Mti) = some p.length := by
          rw [e, List.findIdx?_append]
          have : p.findIdx? (slotIs x.Trace x.Mti) = none := by
            rw [List.findIdx?_eq_none_iff]
            intro s hs1
            have := List.any_eq_false.1 ha' s hs1
            simpa using this
          rw [this, List.findIdx?_cons, hx]
          simp
        rw [hi]
        have hne : ((p.length : Int) != (p.length : Int)) = false := by simp
        simp only [ha', hne, Bool.false_eq_true, if_false, Lo.elim]
        exact ⟨z, f1, f2, f3' rfl⟩
theorem SlotsOk_tot (l : List Slot) (hl : l.length ≤ 274877906944) (hs : ∀ s ∈ l, s.Trace.size ≤ 4000000 ∧ s.Mti.size ≤ 4000000) : ∃ y, spec_SlotsOk l = some y ∧ impl_SlotsOk l = some y ∧ (y = true → l.length ≤ 6 ∧ ∀ s ∈ l, s.Trace.size = 6 ∧ s.Mti.size = 4 ∧ s.Reply.length ≤ 200) := by
  obtain ⟨y, e1, e2, e3⟩ := SlotsOk_l0_tot l hl l [] rfl hs
  unfold spec_SlotsOk impl_SlotsOk
  rw [capOk_of hl, e1, e2]
  cases y with
  | ret u => exact ⟨false, rfl, rfl, fun e => by cases e⟩
  | out u => exact ⟨decide ((l.length : Int) ≤ 6), rfl, rfl, fun h => ⟨by have := of_decide_eq_true h; omega, e3 u rfl⟩⟩
def cl (x : Int) : Int := if x < 0 then 0 else if 4611686018427387904 < x then 4611686018427387904 else x
theorem cl_rng (x : Int) : 0 ≤ cl x ∧ cl x ≤ 4611686018427387904 := by unfold cl; split; omega; split <;> omega
theorem clamp_val (x : Int) : spec_l01Clamp x 0 4611686018427387904 = some (cl x) := by
  unfold spec_l01Clamp cl
  by_cases h : x < 0 <;> by_cases h2 : 4611686018427387904 < x <;> simp [h, h2]
theorem imax_cl (x : Int) : imax 0 (imin x 4611686018427387904) = cl x := by
  unfold imax imin cl
  by_cases h : x < 0 <;> by_cases h2 : 4611686018427387904 < x <;> simp [h, h2] <;> omega
def satAdd (a b : Int) : Int := if cl a + cl b ≤ 4611686018427387904 then cl a + cl b else 4611686018427387904
theorem AddSat_val (a b : Int) : spec_AddSat a b = some (satAdd a b) ∧ impl_AddSat a b = some (satAdd a b) := by
  obtain ⟨a1, a2⟩ := cl_rng a
  obtain ⟨b1, b2⟩ := cl_rng b
  have hi : i64 (4611686018427387904 - cl b) = 4611686018427387904 - cl b := i64_of (by omega) (by omega)
  have ma : money (cl a) = true := by simp [money, a1, a2]
  have mb : money (cl b) = true := by simp [money, b1, b2]
  unfold spec_AddSat impl_AddSat spec_AddMoney satAdd
  simp only [clamp_val, imax_cl, Option.bind_some, l01Money_val, ma, mb, if_true, hi]
  by_cases h : 4611686018427387904 - cl b < cl a
  · have h2 : ¬ cl a + cl b ≤ 4611686018427387904 := by omega
    simp [h, h2]
  · have h2 : cl a + cl b ≤ 4611686018427387904 := by omega
    have hj : i64 (cl a + cl b) = cl a + cl b := i64_of (by omega) (by omega)
    simp [h, h2, hj]
theorem Stored_l0_val (l : List Hold) : ∀ (t : List Hold) (v : Int), ∃ y, spec_Stored_l0 l t v = some y ∧ impl_Stored_l0 l t v = some y
  | [], v => ⟨v, rfl, rfl⟩
  | x :: t, v => by
    obtain ⟨y, e1, e2⟩ := Stored_l0_val l t (satAdd v x.Amount)
    unfold spec_Stored_l0 impl_Stored_l0
    rw [(AddSat_val _ _).1, (AddSat_val _ _).2]
    exact ⟨y, e1, e2⟩
theorem Stored_tot (l : List Hold) (hl : l.length ≤ 274877906944) : ∃ y, spec_Stored l = some y ∧ impl_Stored l = some y := by
  obtain ⟨y, e1, e2⟩ := Stored_l0_val l l 0
  unfold spec_Stored impl_Stored
  rw [capOk_of hl, e1, e2]
  exact ⟨y, rfl, rfl⟩
/-- Of a size that a law lets through. -/
def szHold (h : Hold) : Prop := h.Id.size ≤ 4000000
def szRing (r : Ring) : Prop := r.Counts.length ≤ 4000000 ∧ r.Sums.length ≤ 4000000
def szSlot (s : Slot) : Prop := s.Trace.size ≤ 4000000 ∧ s.Mti.size ≤ 4000000 ∧ s.Reply.length ≤ 4000000
def szAcct (a : Acct) : Prop := a.Id.size ≤ 4000000 ∧ (a.Holds.length ≤ 4000000 ∧ ∀ h ∈ a.Holds, szHold h) ∧ szRing a.Ring ∧ (a.Slots.length ≤ 4000000 ∧ ∀ s ∈ a.Slots, szSlot s)
theorem AcctOk_tot (a : Acct) (h : szAcct a) : ∃ y, spec_AcctOk a = some y ∧ impl_AcctOk a = some y ∧ (y = true → a.Holds.length ≤ 4 ∧ a.Slots.length ≤ 6) := by
  obtain ⟨h1, ⟨h2, h3⟩, ⟨h4, h5⟩, h6, h7⟩ := h
  obtain ⟨b1, p1, q1, r1⟩ := AcctIdOk_eq a.Id
  obtain ⟨b2, p2, q2, r2⟩ := HoldsOk_tot a.Holds (by omega) (fun x hx => by have := h3 x hx; unfold szHold at this; omega)
  obtain ⟨b3, p3, q3, r3⟩ := RingOk_tot a.Ring (by omega) (by omega)
  obtain ⟨b4, p4, q4, r4⟩ := SlotsOk_tot a.Slots (by omega) (fun x hx => by have := h7 x hx; unfold szSlot at this; omega)
  obtain ⟨s, p5, q5⟩ := Stored_tot a.Holds (by omega)
  obtain ⟨p6, q6⟩ := AddSat_val a.Posted s
  unfold spec_AcctOk impl_AcctOk
  simp only [p1, q1, p2, q2, p3, q3, p4, q4, p5, q5, p6, q6, l01In_val, within_val, l01Money_val, isMoney_val, Option.bind_some]
  cases b1 <;> simp only [Bool.false_eq_true, if_false, if_true]
  · exact ⟨_, rfl, rfl, fun e => by cases e⟩
  repeat' split
  all_goals first
    | exact ⟨_, rfl, rfl, fun e => by cases e⟩
    | (rename_i g1 g2 g3 g4; exact ⟨_, rfl, rfl, fun _ => ⟨(r2 (by assumption)).1, (r4 (by assumption)).1⟩⟩)
theorem Clone_int_val (l : List Int) (h : l.length ≤ 274877906944) : slices_Clone_int l = some l := by unfold slices_Clone_int; rw [capOk_of h]; rfl
theorem l08Copy_l0_val (l : List Slot) : ∀ (t v : List Slot), v.length + t.length ≤ 274877906944 → (∀ s ∈ t, s.Reply.length ≤ 4000000) → spec_l08Copy_l0 l t v = some (v ++ t)
  | [], v, _, _ => by simp [spec_l08Copy_l0]
  | x :: t, v, hl, hs => by
    unfold spec_l08Copy_l0
    have h1 : capOk (0 + x.Reply.length) = true := capOk_of (by have := hs x (by simp); omega)
    have h2 : capOk (v.length + 1) = true := capOk_of (by simp at hl; omega)
    rw [h1, h2, l08Copy_l0_val l t (v ++ [x]) (by simp at hl ⊢; omega) (fun s hs' => hs s (by simp [hs']))]
    simp
theorem wtSlot_reply (s : Slot) (h : wtSlot s ≤ 4000000) : s.Reply.length ≤ 4000000 := by rw [wtSlot_eq] at h; omega
theorem l08Copy_val (l : List Slot) (h : wtL wtSlot l ≤ 4000000) : spec_l08Copy l = some l := by
  have hl := wtL_len wtSlot l
  unfold spec_l08Copy
  rw [capOk_of (by omega), l08Copy_l0_val _ _ _ (by simp; omega) (fun s hs => wtSlot_reply s (by have := wtL_mem wtSlot l s hs; omega))]
  rfl
theorem Ring_copied_val (r : Ring) (h : wtRing r ≤ 4000000) : impl_Ring_copied r = some r := by
  rw [wtRing_eq] at h
  unfold impl_Ring_copied
  rw [Clone_int_val _ (by omega), Clone_int_val _ (by omega)]
  rfl
def holdIdOk (s : ByteArray) : Bool := (spec_HoldIdOk s).getD false
theorem HoldIdOk_val (s : ByteArray) (h : s.size ≤ 4000000) : spec_HoldIdOk s = some (holdIdOk s) ∧ impl_HoldIdOk s = some (holdIdOk s) := by
  obtain ⟨y, e1, e2, _⟩ := HoldIdOk_tot s h
  unfold holdIdOk
  rw [e1, e2]
  exact ⟨rfl, rfl⟩
/-- The list, later by so many places. -/
def sh (l : List Int) (d : Nat) (i : Nat) : Int := if d ≤ i then l.getD (i - d) 0 else 0
theorem shifted_l0_val (l : List Int) (d : Nat) (hd : d ≤ 2000000000) (hl : l.length ≤ 4000000) : ∀ (t p v : List Int), l = p ++ t → v.length = l.length → (∀ i, i < p.length → v[i]? = some (sh l d i)) → (∀ i, p.length ≤ i → i < l.length → v[i]? = some 0) →
    ∃ v', impl_shifted_l0 l (d : Int) t p v = some v' ∧ v'.length = l.length ∧ ∀ i, i < l.length → v'[i]? = some (sh l d i)
  | [], p, v, e, hv, h1, h2 => ⟨v, rfl, hv, fun i hi => h1 i (by rw [e] at hi; simpa using hi)⟩
  | x :: t, p, v, e, hv, h1, h2 => by
    have hpl : p.length < l.length := by rw [e]; simp
    unfold impl_shifted_l0
    have hg : v[p.length]? = some 0 := h2 p.length (Nat.le_refl _) hpl
    by_cases hc : d ≤ p.length
    · have hc' : (d : Int) ≤ (p.length : Int) := by omega
      have hi : i64 ((p.length : Int) - (d : Int)) = ((p.length - d : Nat) : Int) := by rw [i64_of (by omega) (by omega)]; omega
      have hx : l[p.length - d]? = some (l.getD (p.length - d) 0) := by
        rw [List.getElem?_eq_getElem (by omega), List.getD_eq_getElem?_getD, List.getElem?_eq_getElem (by omega)]; rfl
      simp only [hc', decide_true, if_true, hi, Int.natCast_nonneg, Int.toNat_natCast, hx, hg, Option.bind_some]
      refine shifted_l0_val l d hd hl t (p ++ [x]) _ (by rw [e]; simp) (by simp [hv]) (fun i hi => ?_) (fun i hi hil => ?_)
      · simp only [List.length_append, List.length_cons, List.length_nil] at hi
        by_cases hip : i = p.length
        · subst hip
          rw [List.getElem?_set_self (by omega)]
          simp [sh, hc]
        · rw [List.getElem?_set_ne (by omega)]
          exact h1 i (by omega)
      · simp only [List.length_append, List.length_cons, List.length_nil] at hi
        rw [List.getElem?_set_ne (by omega)]
        exact h2 i (by omega) hil
    · have hc' : ¬ (d : Int) ≤ (p.length : Int) := by omega
      simp only [hc', decide_false, Bool.false_eq_true, if_false]
      refine shifted_l0_val l d hd hl t (p ++ [x]) v (by rw [e]; simp) hv (fun i hi => ?_) (fun i hi hil => ?_)
      · simp only [List.length_append, List.length_cons, List.length_nil] at hi
        by_cases hip : i = p.length
        · subst hip
          rw [hg]
          simp [sh, hc]
        · exact h1 i (by omega)
      · simp only [List.length_append, List.length_cons, List.length_nil] at hi
        exact h2 i (by omega) hil
theorem shifted_val (l : List Int) (d : Nat) (hd : d ≤ 2000000000) (hl : l.length ≤ 4000000) : ∃ v, impl_shifted l (d : Int) = some v ∧ v.length = l.length ∧ ∀ i, i < l.length → v[i]? = some (sh l d i) := by
  obtain ⟨v, e1, e2, e3⟩ := shifted_l0_val l d hd hl l [] (List.replicate l.length 0) rfl (by simp) (fun i hi => by simp at hi) (fun i _ hi => by simp [hi])
  refine ⟨v, ?_, e2, e3⟩
  unfold impl_shifted
  simp only [Int.natCast_nonneg, decide_true, if_true, Int.toNat_natCast, capOk_of (show l.length ≤ 274877906944 by omega), e1, Option.bind_some]
theorem spec_RingRoll_l0_val (o r1 : Ring) (now : Int) (d : Nat) (hd : d ≤ 2000000000) (hD : i64 (i64 (Int.tdiv now o.Span) - o.Head) = (d : Int)) (hl : o.Counts.length ≤ 4000000) (hs : o.Sums.length = o.Counts.length) : ∀ (t p v w : List Int), o.Counts = p ++ t → v.length = o.Counts.length → w.length = o.Counts.length →
    (∀ i, i < p.length → v[i]? = some (sh o.Counts d i)) → (∀ i, i < p.length → w[i]? = some (sh o.Sums d i)) →
    ∃ v' w', spec_RingRoll_l0 o now r1 t p v w = some (v', w') ∧ v'.length = o.Counts.length ∧ w'.length = o.Counts.length ∧ (∀ i, i < o.Counts.length → v'[i]? = some (sh o.Counts d i)) ∧ ∀ i, i < o.Counts.length → w'[i]? = some (sh o.Sums d i)
  | [], p, v, w, e, hv, hw, h1, h2 => ⟨v, w, rfl, hv, hw, fun i hi => h1 i (by rw [e] at hi; simpa using hi), fun i hi => h2 i (by rw [e] at hi; simpa using hi)⟩
  | x :: t, p, v, w, e, hv, hw, h1, h2 => by
    have hpl : p.length < o.Counts.length := by rw [e]; simp
    have hgv : v[p.length]? = some v[p.length] := List.getElem?_eq_getElem (by omega)
    have hgw : w[p.length]? = some w[p.length] := List.getElem?_eq_getElem (by omega)
    unfold spec_RingRoll_l0
    rw [hD]
    by_cases hc : d ≤ p.length
    · have hc' : (d : Int) ≤ (p.length : Int) := by omega
      have hi : i64 ((p.length : Int) - (d : Int)) = ((p.length - d : Nat) : Int) := by rw [i64_of (by omega) (by omega)]; omega
      have hx : o.Counts[p.length - d]? = some (o.Counts.getD (p.length - d) 0) := by
        rw [List.getElem?_eq_getElem (by omega), List.getD_eq_getElem?_getD, List.getElem?_eq_getElem (by omega)]; rfl
      have hy : o.Sums[p.length - d]? = some (o.Sums.getD (p.length - d) 0) := by
        rw [List.getElem?_eq_getElem (by omega), List.getD_eq_getElem?_getD, List.getElem?_eq_getElem (by omega)]; rfl
      have hsv : (v.set p.length 0)[p.length]? = some 0 := List.getElem?_set_self (by omega)
      have hsw : (w.set p.length 0)[p.length]? = some 0 := List.getElem?_set_self (by omega)
      simp only [hc', decide_true, if_true, hi, Int.natCast_nonneg, Int.toNat_natCast, hx, hy, hgv, hgw, hsv, hsw, Option.bind_some, List.set_set]
      refine spec_RingRoll_l0_val o r1 now d hd hD hl hs t (p ++ [x]) _ _ (by rw [e]; simp) (by simp [hv]) (by simp [hw]) (fun i hi => ?_) (fun i hi => ?_)
      all_goals
        simp only [List.length_append, List.length_cons, List.length_nil] at hi
        by_cases hip : i = p.length
        · subst hip
          rw [List.getElem?_set_self (by omega)]
          simp [sh, hc]
        · rw [List.getElem?_set_ne (by omega)]
          first | exact h1 i (by omega) | exact h2 i (by omega)
    · have hc' : ¬ (d : Int) ≤ (p.length : Int) := by omega
      simp only [hc', decide_false, Bool.false_eq_true, if_false, Int.toNat_natCast, hgv, hgw, Option.bind_some]
      refine spec_RingRoll_l0_val o r1 now d hd hD hl hs t (p ++ [x]) _ _ (by rw [e]; simp) (by simp [hv]) (by simp [hw]) (fun i hi => ?_) (fun i hi => ?_)
      all_goals
        simp only [List.length_append, List.length_cons, List.length_nil] at hi
        by_cases hip : i = p.length
        · subst hip
          rw [List.getElem?_set_self (by omega)]
          simp [sh, hc]
        · rw [List.getElem?_set_ne (by omega)]
          first | exact h1 i (by omega) | exact h2 i (by omega)
theorem RingRoll_tot (r : Ring) (now : Int) (hw : wtRing r ≤ 4000000) : ∃ y, spec_RingRoll r now = some y ∧ impl_RingRoll r now = some y ∧ y.Counts.length = r.Counts.length ∧ y.Sums.length = r.Sums.length ∧
    (y = r ∨ ∃ (d : Nat) (c s : List Int), y = Ring.mk r.Span (now / r.Span) c s ∧ time now = true ∧ 1 ≤ r.Span ∧ c.length = r.Counts.length ∧ s.length = r.Counts.length ∧ r.Sums.length = r.Counts.length ∧ (∀ i, i < r.Counts.length → c[i]? = some (sh r.Counts d i)) ∧ ∀ i, i < r.Counts.length → s[i]? = some (sh r.Sums d i)) := by
  have h : szRing r := by rw [wtRing_eq] at hw; exact ⟨by omega, by omega⟩
  have hh := h
  obtain ⟨h1, h2⟩ := h
  obtain ⟨b, e1, e2, e3⟩ := RingOk_tot r (by omega) (by omega)
  have hcp : spec_l06Copy r = some r := by
    unfold spec_l06Copy
    rw [capOk_of (show 0 + r.Counts.length ≤ 274877906944 by omega), capOk_of (show 0 + r.Sums.length ≤ 274877906944 by omega)]
    rfl
  unfold spec_RingRoll impl_RingRoll
  simp only [hcp, Ring_copied_val r hw, e1, e2, l06Time_val, isTime_val, Option.bind_some]
  cases b with
  | false => exact ⟨r, rfl, rfl, rfl, rfl, .inl rfl⟩
  | true =>
    obtain ⟨q1, q2, q3, q4, q5, q6, _⟩ := e3 rfl
    simp only [if_true]
    by_cases ht : time now = true
    · have ht' := ht
      have qh := q6
      unfold time at ht' qh
      simp only [Bool.and_eq_true, decide_eq_true_eq] at ht' qh
      have hsp : r.Span ≠ 0 := by omega
      have hq : Int.tdiv now r.Span = now / r.Span := Int.tdiv_eq_ediv_of_nonneg ht'.1
      have hq0 : 0 ≤ now / r.Span := Int.ediv_nonneg ht'.1 (by omega)
      have hq1 : now / r.Span ≤ now := Int.ediv_le_self _ ht'.1
      have hqi : i64 (now / r.Span) = now / r.Span := i64_of (by omega) (by omega)
      by_cases hle : now / r.Span ≤ r.Head
      · exact ⟨r, by simp only [ht, hsp, hq, hqi, hle, ne_eq, not_false_eq_true, decide_true, if_true], by simp only [ht, hsp, hq, hqi, hle, ne_eq, not_false_eq_true, decide_true, if_true], rfl, rfl, .inl rfl⟩
      · have hdi : i64 (now / r.Span - r.Head) = (((now / r.Span - r.Head).toNat : Nat) : Int) := by rw [i64_of (by omega) (by omega)]; omega
        generalize hdd : (now / r.Span - r.Head).toNat = d at hdi
        have hd : d ≤ 2000000000 := by omega
        obtain ⟨c1, g1, g2, g3⟩ := shifted_val r.Counts d hd h1
        obtain ⟨s1, g4, g5, g6⟩ := shifted_val r.Sums d hd h2
        obtain ⟨c2, s2, k1, k2, k3, k4, k5⟩ := spec_RingRoll_l0_val r r now d hd (by rw [hq, hqi]; exact hdi) h1 q1 r.Counts [] r.Counts r.Sums rfl rfl q1 (fun i hi => by simp at hi) (fun i hi => by simp at hi)
        have hc : c1 = c2 := by
          apply List.ext_getElem?
          intro i
          by_cases hi : i < r.Counts.length
          · rw [g3 i hi, k4 i hi]
          · rw [List.getElem?_eq_none (by omega), List.getElem?_eq_none (by omega)]
        have hs : s1 = s2 := by
          apply List.ext_getElem?
          intro i
          by_cases hi : i < r.Counts.length
          · rw [g6 i (by omega), k5 i hi]
          · rw [List.getElem?_eq_none (by omega), List.getElem?_eq_none (by omega)]
        subst hc hs
        refine ⟨Ring.mk r.Span (now / r.Span) c1 s1, ?_, ?_, by show c1.length = _; omega, by show s1.length = _; omega, .inr ⟨d, c1, s1, rfl, ht, q4, g2, by omega, q1, g3, fun i hi => g6 i (by omega)⟩⟩
        · simp only [ht, hsp, hq, hqi, hle, ne_eq, not_false_eq_true, decide_true, decide_false, Bool.false_eq_true, if_true, if_false, capOk_of (show r.Counts.length ≤ 274877906944 by omega), k1, Option.bind_some]
        · simp only [ht, hsp, hq, hqi, hle, ne_eq, not_false_eq_true, decide_true, decide_false, Bool.false_eq_true, if_true, if_false, hdi, g1, g4, Option.bind_some]
    · have ht' : time now = false := by simpa using ht
      simp only [ht', Bool.false_eq_true, if_false]
      exact ⟨r, rfl, rfl, rfl, rfl, .inl rfl⟩
/-- The ring, rolled on. -/
def rolled (r : Ring) (now : Int) : Ring := (spec_RingRoll r now).getD r
theorem RingRoll_val (r : Ring) (now : Int) (h : wtRing r ≤ 4000000) : spec_RingRoll r now = some (rolled r now) ∧ impl_RingRoll r now = some (rolled r now) ∧ wtRing (rolled r now) = wtRing r := by
  obtain ⟨y, e1, e2, e3, e4, _⟩ := RingRoll_tot r now h
  unfold rolled
  rw [e1, e2]
  exact ⟨rfl, rfl, by rw [wtRing_eq, wtRing_eq]; show y.Counts.length + y.Sums.length = _; rw [e3, e4]⟩
theorem bstr_fold : ∀ (ns : List Int) (r : ByteArray), (ns.foldl (fun r n => r.push (UInt8.ofNat n.toNat)) r).data.toList = r.data.toList ++ ns.map (fun n => UInt8.ofNat n.toNat)
  | [], r => by simp
  | n :: ns, r => by
    rw [List.foldl_cons, bstr_fold ns]
    simp [ByteArray.push]
theorem bstr_list (ns : List Int) : (bstr ns).data.toList = ns.map (fun n => UInt8.ofNat n.toNat) := by
  unfold bstr
  rw [bstr_fold]; rfl
theorem byte_inj {a b : Int} (ha : 0 ≤ a ∧ a ≤ 255) (hb : 0 ≤ b ∧ b ≤ 255) (h : UInt8.ofNat a.toNat = UInt8.ofNat b.toNat) : a = b := by
  have := congrArg UInt8.toNat h
  simp at this
  omega
def cur (c : l01Cur) : Prop := 0 ≤ c.i ∧ c.i ≤ c.b.length ∧ c.b.length ≤ 1048576
theorem band255 (x : Int) : 0 ≤ band .i64 x 255 ∧ band .i64 x 255 ≤ 255 := by
  unfold band
  rw [BitVec.toNat_and]
  have h1 : (BitVec.ofInt IntKind.i64.bits 255).toNat = 255 := by decide
  rw [h1]
  have h2 : (BitVec.ofInt IntKind.i64.bits x).toNat &&& 255 ≤ 255 := Nat.and_le_right
  generalize (BitVec.ofInt IntKind.i64.bits x).toNat &&& 255 = y at h2
  have : IntKind.i64.wrap (y : Int) = y := i64_of (by omega) (by omega)
  rw [this]; omega
theorem Byte_tot (c : l01Cur) (h : cur c) : ∃ r c', spec_l01Byte c = some (r, c') ∧ cur c' ∧ 0 ≤ r ∧ r ≤ 255 := by
  obtain ⟨h1, h2, h3⟩ := h
  unfold spec_l01Byte
  by_cases hi : c.i < (c.b.length : Int)
  · have hx : c.b[c.i.toNat]? = some (c.b[c.i.toNat]'(by omega)) := List.getElem?_eq_getElem _
    simp only [hi, h1, decide_true, if_true, hx, Option.bind_some]
    have e : i64 (c.i + 1) = c.i + 1 := i64_of (by omega) (by omega)
    exact ⟨_, _, rfl, ⟨by show 0 ≤ i64 (c.i + 1); omega, by show i64 (c.i + 1) ≤ (c.b.length : Int); omega, h3⟩, band255 _⟩
  · simp only [hi, decide_false, Bool.false_eq_true, if_false]
    exact ⟨_, _, rfl, ⟨h1, h2, h3⟩, band255 _⟩
theorem Below_tot (c : l01Cur) (n : Int) (h : cur c) : ∃ r c', spec_l01Below c n = some (r, c') ∧ cur c' ∧ 0 ≤ r ∧ (0 < n → r < n) := by
  unfold spec_l01Below
  by_cases h0 : n ≤ 0
  · simp only [h0, decide_true, if_true]
    exact ⟨0, c, rfl, h, by omega, by omega⟩
  · have hn : n ≠ 0 := by omega
    have fin : ∀ x : Int, 0 ≤ x → 0 ≤ Int.tmod x n ∧ (0 < n → Int.tmod x n < n) := fun x hx => by
      rw [Int.tmod_eq_emod_of_nonneg hx]
      exact ⟨Int.emod_nonneg _ hn, fun hp => Int.emod_lt_of_pos _ hp⟩
    obtain ⟨r1, c1, e1, k1, a1, b1⟩ := Byte_tot c h
    by_cases h2 : n ≤ 256
    · simp only [h0, h2, hn, e1, decide_true, decide_false, Bool.false_eq_true, if_false, if_true, Option.bind_some, ne_eq, not_false_eq_true]
      exact ⟨_, _, rfl, k1, fin r1 a1⟩
    · obtain ⟨r2, c2, e2, k2, a2, b2⟩ := Byte_tot c1 k1
      obtain ⟨r3, c3, e3, k3, a3, b3⟩ := Byte_tot c2 k2
      obtain ⟨r4, c4, e4, k4, a4, b4⟩ := Byte_tot c3 k3
      simp only [h0, h2, hn, e1, e2, e3, e4, decide_true, decide_false, Bool.false_eq_true, if_false, if_true, Option.bind_some, ne_eq, not_false_eq_true]
      have q1 : i64 (r1 * 16777216) = r1 * 16777216 := i64_of (by omega) (by omega)
      have q2 : i64 (r2 * 65536) = r2 * 65536 := i64_of (by omega) (by omega)
      have q3 : i64 (r3 * 256) = r3 * 256 := i64_of (by omega) (by omega)
      rw [q1, q2, q3, i64_of (show -9223372036854775808 ≤ r1 * 16777216 + r2 * 65536 by omega) (by omega), i64_of (show -9223372036854775808 ≤ r1 * 16777216 + r2 * 65536 + r3 * 256 by omega) (by omega), i64_of (show -9223372036854775808 ≤ r1 * 16777216 + r2 * 65536 + r3 * 256 + r4 by omega) (by omega)]
      exact ⟨_, _, rfl, k4, fin _ (by omega)⟩
theorem Once_tot (c : l01Cur) (n : Int) (h : cur c) : ∃ r c', spec_l01Once c n = some (r, c') ∧ cur c' := by
  obtain ⟨r, c', e, k, _⟩ := Below_tot c n h
  unfold spec_l01Once
  rw [e]
  exact ⟨_, _, rfl, k⟩
theorem Str_tot (c : l01Cur) (l : List ByteArray) (h : cur c) (hl : 0 < l.length) (hm : l.length ≤ 1000000) : ∃ r c', spec_l01Str c l = some (r, c', l) ∧ cur c' ∧ r ∈ l := by
  obtain ⟨r, c', e, k, a, b⟩ := Below_tot c l.length h
  have b := b (by omega)
  unfold spec_l01Str
  have hx : l[r.toNat]? = some (l[r.toNat]'(by omega)) := List.getElem?_eq_getElem _
  simp only [e, a, hx, decide_true, if_true, Option.bind_some]
  exact ⟨_, _, rfl, k, List.getElem_mem _⟩
theorem Pick_tot (c : l01Cur) (l : List Int) (h : cur c) (hl : 0 < l.length) (hm : l.length ≤ 1000000) : ∃ r c', spec_l01Pick c l = some (r, c', l) ∧ cur c' ∧ r ∈ l := by
  obtain ⟨r, c', e, k, a, b⟩ := Below_tot c l.length h
  have b := b (by omega)
  unfold spec_l01Pick
  have hx : l[r.toNat]? = some (l[r.toNat]'(by omega)) := List.getElem?_eq_getElem _
  simp only [e, a, hx, decide_true, if_true, Option.bind_some]
  exact ⟨_, _, rfl, k, List.getElem_mem _⟩
theorem New_l0_tot (code : List Int) : ∀ (t p : List Int) (v : Int), ∃ y, spec_l01New_l0 code t p v = some y
  | [], p, v => ⟨v, rfl⟩
  | x :: t, p, v => by
    unfold spec_l01New_l0
    split
    · exact New_l0_tot code t _ _
    · exact ⟨_, rfl⟩
theorem New_tot (code : List Int) (h : code.length ≤ 1048576) : ∃ c, spec_l01New code = some c ∧ cur c := by
  obtain ⟨y, e⟩ := New_l0_tot code code [] (i64 (1539 + (code.length : Int)))
  unfold spec_l01New
  rw [capOk_of (by omega), e]
  exact ⟨_, rfl, by show (0 : Int) ≤ 0; omega, by show (0 : Int) ≤ _; omega, h⟩
theorem bytesLess_trans : ∀ a b c : List UInt8, Op.bytesLess a b = true → Op.bytesLess b c = true → Op.bytesLess a c = true
  | [], b, [], h1, h2 => by cases b <;> simp [Op.bytesLess] at h1 h2
  | [], b, z :: w, h1, h2 => rfl
  | x :: t, [], c, h1, h2 => by simp [Op.bytesLess] at h1
  | x :: t, y :: u, [], h1, h2 => by simp [Op.bytesLess] at h2
  | x :: t, y :: u, z :: w, h1, h2 => by
    have ih := bytesLess_trans t u w
    simp only [Op.bytesLess, Bool.or_eq_true, decide_eq_true_eq, Bool.and_eq_true, beq_iff_eq] at h1 h2 ⊢
    rcases h1 with h1 | ⟨rfl, h1⟩ <;> rcases h2 with h2 | ⟨rfl, h2⟩
    · left
      have h1 := UInt8.lt_iff_toNat_lt.1 h1
      have h2 := UInt8.lt_iff_toNat_lt.1 h2
      exact UInt8.lt_iff_toNat_lt.2 (by omega)
    · exact .inl h1
    · exact .inl h2
    · exact .inr ⟨rfl, ih h1 h2⟩
/-- Names in order. -/
def lessId (a b : ByteArray) : Prop := Op.bytesLess a.toList b.toList = true
theorem lessId_trans {a b c : ByteArray} (h : lessId a b) (h2 : lessId b c) : lessId a c := bytesLess_trans _ _ _ h h2
def holdP (h : Hold) : Prop := holdIdOk h.Id = true ∧ 1 ≤ h.Amount ∧ h.Amount ≤ 9007199254740992 ∧ time h.Due = true
def holdsP (l : List Hold) : Prop := l.length ≤ 4 ∧ (∀ h ∈ l, holdP h) ∧ l.Pairwise (fun x y => lessId x.Id y.Id)
theorem HoldOk_iff (h : Hold) (hs : h.Id.size ≤ 4000000) : ∃ b, spec_HoldOk h = some b ∧ impl_HoldOk h = some b ∧ (b = true ↔ holdP h) := by
  obtain ⟨e1, e2⟩ := HoldIdOk_val h.Id hs
  unfold spec_HoldOk impl_HoldOk holdP
  rw [e1, e2]
  simp only [Option.bind_some, l01In_val, within_val, l06Time_val, isTime_val]
  rcases tf (holdIdOk h.Id) with h1 | h1 <;> rcases tf (decide (1 ≤ h.Amount) && decide (h.Amount ≤ 9007199254740992)) with h2 | h2 <;> rw [h1] <;> simp only [h2, if_true, if_false, Bool.false_eq_true]
  · refine ⟨_, rfl, rfl, ?_⟩
    simp only [Bool.and_eq_true, decide_eq_true_eq] at h2
    simp [h2.1, h2.2]
  · refine ⟨_, rfl, rfl, ?_⟩
    simp only [Bool.and_eq_false_iff, decide_eq_false_iff_not] at h2
    simp only [Bool.false_eq_true, true_and, false_iff]
    omega
  · exact ⟨_, rfl, rfl, by simp⟩
  · exact ⟨_, rfl, rfl, by simp⟩
theorem HoldsOk_l0_iff (l : List Hold) (hl : l.length ≤ 4000000) : ∀ (t p : List Hold), l = p ++ t → (∀ h ∈ t, h.Id.size ≤ 4000000) → p.Pairwise (fun x y => lessId x.Id y.Id) →
    ∃ b : Bool, spec_HoldsOk_l0 l t p = some (if b = true then .out () else .ret ()) ∧ impl_HoldsOk_l0 l t p = some (if b = true then .out () else .ret ()) ∧ (b = true ↔ (∀ h ∈ t, holdP h) ∧ l.Pairwise (fun x y => lessId x.Id y.Id))
  | [], p, e, hs, hp => ⟨true, rfl, rfl, by simp [e, hp]⟩
  | x :: t, p, e, hs, hp => by
    obtain ⟨b, e1, e2, e3⟩ := HoldOk_iff x (hs x (by simp))
    unfold spec_HoldsOk_l0 impl_HoldsOk_l0
    rw [e1, e2]
    cases b with
    | false => exact ⟨false, rfl, rfl, by simp only [Bool.false_eq_true, false_iff]; intro h; have := e3.2 (h.1 x (by simp)); cases this⟩
    | true =>
      have hx := e3.1 rfl
      simp only [Option.bind_some, if_true]
      by_cases hpl : (0 : Int) < (p.length : Int)
      · have hpl2 : p.length ≤ l.length := by rw [e]; simp
        have hi : i64 ((p.length : Int) - 1) = (p.length : Int) - 1 := i64_of (by omega) (by omega)
        have hpn : p ≠ [] := by intro h; subst h; simp at hpl
        have hg : l[((p.length : Int) - 1).toNat]? = some (p.getLast hpn) := by
          have : ((p.length : Int) - 1).toNat = p.length - 1 := by omega
          rw [this, e, List.getElem?_append_left (by omega), List.getLast_eq_getElem, List.getElem?_eq_getElem]
        have h1 : (0 : Int) ≤ (p.length : Int) - 1 := by omega
        simp only [hpl, hi, h1, decide_true, if_true, hg, Option.bind_some, less_flip x.Id]
        have hfl := less_flip x.Id (p.getLast hpn).Id
        rcases tf (Op.bytesLess x.Id.toList (p.getLast hpn).Id.toList || x.Id == (p.getLast hpn).Id) with hb | hb
        · rw [hb] at hfl
          refine ⟨false, by simp [hb], by simp [hb], ?_⟩
          simp only [Bool.false_eq_true, false_iff]
          intro hh
          rw [e, List.pairwise_append] at hh
          have := hh.2.2.2 _ (List.getLast_mem hpn) x (by simp)
          unfold lessId at this
          rw [hfl] at this; cases this
        · rw [hb] at hfl
          have hless : lessId (p.getLast hpn).Id x.Id := hfl
          have hp2 : (p ++ [x]).Pairwise (fun x y => lessId x.Id y.Id) := by
            rw [List.pairwise_append]
            refine ⟨hp, by simp, fun a ha c hc => ?_⟩
            simp only [List.mem_singleton] at hc
            subst hc
            by_cases hal : a = p.getLast hpn
            · subst hal; exact hless
            · have : p = p.dropLast ++ [p.getLast hpn] := (List.dropLast_concat_getLast hpn).symm
              rw [this, List.pairwise_append] at hp
              rw [this, List.mem_append] at ha
              rcases ha with ha | ha
              · exact lessId_trans (hp.2.2 a ha _ (by simp)) hless
              · simp only [List.mem_singleton] at ha; exact absurd ha hal
          obtain ⟨b, f1, f2, f3⟩ := HoldsOk_l0_iff l hl t (p ++ [x]) (by rw [e]; simp) (fun h hh => hs h (by simp [hh])) hp2
          refine ⟨b, by simpa [hb] using f1, by simpa [hb] using f2, ?_⟩
          rw [f3]
          simp [hx]
      · have hp0 : p = [] := by
          cases p with
          | nil => rfl
          | cons a q => exfalso; simp at hpl
        subst hp0
        obtain ⟨b, f1, f2, f3⟩ := HoldsOk_l0_iff l hl t ([] ++ [x]) (by rw [e]; simp) (fun h hh => hs h (by simp [hh])) (by simp)
        refine ⟨b, by simpa using f1, by simpa using f2, ?_⟩
        rw [f3]
        simp [hx]
theorem HoldsOk_iff (l : List Hold) (hl : l.length ≤ 4000000) (hs : ∀ h ∈ l, h.Id.size ≤ 4000000) : ∃ b, spec_HoldsOk l = some b ∧ impl_HoldsOk l = some b ∧ (b = true ↔ holdsP l) := by
  obtain ⟨b, e1, e2, e3⟩ := HoldsOk_l0_iff l hl l [] rfl hs (by simp)
  unfold spec_HoldsOk impl_HoldsOk holdsP
  rw [capOk_of (by omega), e1, e2]
  cases b with
  | false => exact ⟨false, rfl, rfl, by simp only [Bool.false_eq_true, false_iff]; intro h; have := e3.2 ⟨h.2.1, h.2.2⟩; cases this⟩
  | true =>
    refine ⟨decide ((l.length : Int) ≤ 4), rfl, rfl, ?_⟩
    have := e3.1 rfl
    simp only [decide_eq_true_eq]
    constructor
    · intro h; exact ⟨by omega, this⟩
    · intro h; have := h.1; omega
def ringP (r : Ring) : Prop := r.Sums.length = r.Counts.length ∧ r.Counts.length ≤ 8 ∧ 1 ≤ r.Counts.length ∧ 1 ≤ r.Span ∧ r.Span ≤ 1000 ∧ time r.Head = true ∧ r.Counts.all money = true ∧ r.Sums.all money = true
theorem RingOk_of (r : Ring) (h : ringP r) : spec_RingOk r = some true := by
  obtain ⟨h1, h2, h3, h4, h5, h6, h7, h8⟩ := h
  have e1 : (decide (1 ≤ r.Span) && decide (r.Span ≤ 1000)) = true := by simp [h4, h5]
  have e2 : (decide ((1 : Int) ≤ (r.Counts.length : Int)) && decide ((r.Counts.length : Int) ≤ 8)) = true := by simp; omega
  have e3 : ((r.Sums.length : Int) != (r.Counts.length : Int)) = false := by rw [h1]; simp
  unfold spec_RingOk
  rw [spec_RingOk_l0_val r r.Counts [] rfl h1]
  simp only [l01In_val, l06Time_val, e1, e2, e3, h6, Option.bind_some, if_true, Bool.false_eq_true, if_false, capOk_of (show r.Counts.length ≤ 274877906944 by omega), List.length_nil, List.drop_zero, h7, h8, Bool.and_self]
  rfl
theorem RingOk_iff (r : Ring) (hc : r.Counts.length ≤ 4000000) (hs : r.Sums.length ≤ 4000000) : ∃ b, spec_RingOk r = some b ∧ impl_RingOk r = some b ∧ (b = true ↔ ringP r) := by
  obtain ⟨b, e1, e2, e3⟩ := RingOk_tot r (by omega) (by omega)
  refine ⟨b, e1, e2, fun h => e3 h, fun h => ?_⟩
  have := RingOk_of r h
  rw [this] at e1
  exact (Option.some.inj e1).symm
/-- The sum of the amounts. -/
def sumA : List Hold → Int
  | [] => 0
  | h :: t => h.Amount + sumA t
theorem satAdd_in {a b : Int} (ha : 0 ≤ a) (hb : 0 ≤ b) (h : a + b ≤ 4611686018427387904) : satAdd a b = a + b := by
  have e1 : cl a = a := by unfold cl; split; omega; split <;> omega
  have e2 : cl b = b := by unfold cl; split; omega; split <;> omega
  unfold satAdd
  rw [e1, e2, if_pos h]
def amtP (l : List Hold) : Prop := ∀ h ∈ l, 1 ≤ h.Amount ∧ h.Amount ≤ 9007199254740992
theorem sumA_rng : ∀ l : List Hold, amtP l → 0 ≤ sumA l ∧ sumA l ≤ 9007199254740992 * l.length
  | [], _ => by simp [sumA]
  | x :: t, h => by
    have h1 := h x (by simp)
    have h2 := sumA_rng t (fun y hy => h y (by simp [hy]))
    simp only [sumA, List.length_cons]; omega
theorem Stored_l0_sum (l : List Hold) : ∀ (t : List Hold) (v : Int), amtP t → 0 ≤ v → v + 9007199254740992 * t.length ≤ 4611686018427387904 → spec_Stored_l0 l t v = some (v + sumA t) ∧ impl_Stored_l0 l t v = some (v + sumA t)
  | [], v, _, _, _ => by simp [spec_Stored_l0, impl_Stored_l0, sumA]
  | x :: t, v, h, h0, hv => by
    have h1 := h x (by simp)
    simp only [List.length_cons] at hv
    have e : satAdd v x.Amount = v + x.Amount := satAdd_in h0 (by omega) (by omega)
    obtain ⟨q1, q2⟩ := Stored_l0_sum l t (v + x.Amount) (fun y hy => h y (by simp [hy])) (by omega) (by omega)
    unfold spec_Stored_l0 impl_Stored_l0
    rw [(AddSat_val _ _).1, (AddSat_val _ _).2, e, Option.bind_some, Option.bind_some, q1, q2]
    simp only [sumA]
    have : v + x.Amount + sumA t = v + (x.Amount + sumA t) := by omega
    rw [this]; exact ⟨rfl, rfl⟩
theorem Stored_sum (l : List Hold) (h : amtP l) (hl : l.length ≤ 100) : spec_Stored l = some (sumA l) ∧ impl_Stored l = some (sumA l) := by
  obtain ⟨q1, q2⟩ := Stored_l0_sum l l 0 h (by omega) (by omega)
  unfold spec_Stored impl_Stored
  rw [capOk_of (by omega), q1, q2]
  simp only [if_true, Option.bind_some]
  have : 0 + sumA l = sumA l := by omega
  rw [this]; exact ⟨rfl, rfl⟩
theorem holdsP_amt {l : List Hold} (h : holdsP l) : amtP l := fun x hx => ⟨(h.2.1 x hx).2.1, (h.2.1 x hx).2.2.1⟩
/-- A valid account. -/
def acctP (a : Acct) : Prop := spec_AcctIdOk a.Id = some true ∧ (0 ≤ a.Limit ∧ a.Limit ≤ 9007199254740992) ∧ (0 ≤ a.Most ∧ a.Most ≤ 1000) ∧ (0 ≤ a.MostSum ∧ a.MostSum ≤ 9007199254740992) ∧ money a.Posted = true ∧ holdsP a.Holds ∧ ringP a.Ring ∧ spec_SlotsOk a.Slots = some true ∧ a.Posted + sumA a.Holds ≤ a.Limit
theorem and_if (c : Bool) (d : Bool) : (if c = true then some d else some false : Option Bool) = some (c && d) := by cases c <;> rfl
theorem money_iff (n : Int) : money n = true ↔ 0 ≤ n ∧ n ≤ 4611686018427387904 := by unfold money; simp
theorem satAdd_le {a b l : Int} (ha : 0 ≤ a) (ha2 : a ≤ 4611686018427387904) (hb : 0 ≤ b) (hb2 : b ≤ 4611686018427387904) (hl : l < 4611686018427387904) : satAdd a b ≤ l ↔ a + b ≤ l := by
  have e1 : cl a = a := by unfold cl; split; omega; split <;> omega
  have e2 : cl b = b := by unfold cl; split; omega; split <;> omega
  unfold satAdd
  rw [e1, e2]
  split <;> omega
theorem AcctOk_bool (a : Acct) (h : szAcct a) : ∃ b1 b2 b3 b4 s, spec_AcctIdOk a.Id = some b1 ∧ (b2 = true ↔ holdsP a.Holds) ∧ (b3 = true ↔ ringP a.Ring) ∧ spec_SlotsOk a.Slots = some b4 ∧ spec_Stored a.Holds = some s ∧
    spec_AcctOk a = some (b1 && ((decide (0 ≤ a.Limit) && decide (a.Limit ≤ 9007199254740992)) && ((decide (0 ≤ a.Most) && decide (a.Most ≤ 1000)) && ((decide (0 ≤ a.MostSum) && decide (a.MostSum ≤ 9007199254740992)) && (money a.Posted && (b2 && (b3 && (b4 && decide (satAdd a.Posted s ≤ a.Limit))))))))) ∧
    impl_AcctOk a = spec_AcctOk a := by
  have hh := h
  obtain ⟨h1, ⟨h2, h3⟩, ⟨h4, h5⟩, h6, h7⟩ := h
  obtain ⟨b1, p1, q1, _⟩ := AcctIdOk_eq a.Id
  obtain ⟨b2, p2, q2, i2⟩ := HoldsOk_iff a.Holds (by omega) (fun x hx => by have := h3 x hx; unfold szHold at this; omega)
  obtain ⟨b3, p3, q3, i3⟩ := RingOk_iff a.Ring (by omega) (by omega)
  obtain ⟨b4, p4, q4, _⟩ := SlotsOk_tot a.Slots (by omega) (fun x hx => by have := h7 x hx; unfold szSlot at this; omega)
  obtain ⟨s, p5, q5⟩ := Stored_tot a.Holds (by omega)
  obtain ⟨p6, q6⟩ := AddSat_val a.Posted s
  obtain ⟨y, y1, y2, _⟩ := AcctOk_tot a hh
  refine ⟨b1, b2, b3, b4, s, p1, i2, i3, p4, p5, ?_, by rw [y1, y2]⟩
  unfold spec_AcctOk
  simp only [p1, p2, p3, p4, p5, p6, l01In_val, l01Money_val, Option.bind_some, and_if]
theorem AcctOk_iff (a : Acct) (h : szAcct a) : ∃ b, spec_AcctOk a = some b ∧ impl_AcctOk a = some b ∧ (b = true ↔ acctP a) := by
  obtain ⟨b1, b2, b3, b4, s, p1, i2, i3, p4, p5, e1, e2⟩ := AcctOk_bool a h
  refine ⟨_, e1, by rw [e2, e1], ?_⟩
  unfold acctP
  rw [p1, p4]
  simp only [Bool.and_eq_true, decide_eq_true_eq, Option.some.injEq]
  rw [i2, i3, money_iff]
  constructor
  · rintro ⟨g1, g2, g3, g4, g5, g6, g7, g8, g9⟩
    have hs := (Stored_sum a.Holds (holdsP_amt g6) (by have := g6.1; omega)).1
    rw [p5] at hs
    have hs := Option.some.inj hs
    have hr := sumA_rng _ (holdsP_amt g6)
    have hl := g6.1
    rw [hs, satAdd_le g5.1 g5.2 hr.1 (by omega) (by omega)] at g9
    exact ⟨g1, g2, g3, g4, g5, g6, g7, g8, g9⟩
  · rintro ⟨g1, g2, g3, g4, g5, g6, g7, g8, g9⟩
    have hs := (Stored_sum a.Holds (holdsP_amt g6) (by have := g6.1; omega)).1
    rw [p5] at hs
    have hs := Option.some.inj hs
    have hr := sumA_rng _ (holdsP_amt g6)
    have hl := g6.1
    refine ⟨g1, g2, g3, g4, g5, g6, g7, g8, ?_⟩
    rw [hs, satAdd_le g5.1 g5.2 hr.1 (by omega) (by omega)]
    exact g9
theorem sh_money (l : List Int) (d i : Nat) (h : l.all money = true) : money (sh l d i) = true := by
  unfold sh
  split
  · rw [List.getD_eq_getElem?_getD]
    cases hq : l[i - d]? with
    | none => rfl
    | some x => exact List.all_eq_true.1 h x (List.mem_of_getElem? hq)
  · rfl
theorem ringP_wt (r : Ring) (h : ringP r) : wtRing r ≤ 16 := by
  obtain ⟨h1, h2, _⟩ := h
  rw [wtRing_eq]; omega
theorem ringP_rolled (r : Ring) (now : Int) (h : ringP r) : ringP (rolled r now) := by
  obtain ⟨y, e1, e2, e3, e4, e5⟩ := RingRoll_tot r now (by have := ringP_wt r h; omega)
  unfold rolled
  rw [e1]
  show ringP y
  rcases e5 with rfl | ⟨d, c, s, rfl, ht, hsp, l1, l2, l3, g1, g2⟩
  · exact h
  · obtain ⟨h1, h2, h3, h4, h5, h6, h7, h8⟩ := h
    unfold time at ht
    simp only [Bool.and_eq_true, decide_eq_true_eq] at ht
    have hq0 : 0 ≤ now / r.Span := Int.ediv_nonneg ht.1 (by omega)
    have hq1 : now / r.Span ≤ now := Int.ediv_le_self _ ht.1
    refine ⟨by show s.length = c.length; omega, by show c.length ≤ 8; omega, by show 1 ≤ c.length; omega, h4, h5, ?_, ?_, ?_⟩
    · unfold time; simp only [Bool.and_eq_true, decide_eq_true_eq]; omega
    · rw [List.all_eq_true]
      intro x hx
      obtain ⟨i, hi, rfl⟩ := List.mem_iff_getElem.1 hx
      have hi2 : i < r.Counts.length := by have : i < c.length := hi; omega
      have := g1 i hi2
      rw [List.getElem?_eq_getElem (show i < c.length from hi)] at this
      show money c[i] = true
      rw [Option.some.inj this]
      exact sh_money _ _ _ h7
    · rw [List.all_eq_true]
      intro x hx
      obtain ⟨i, hi, rfl⟩ := List.mem_iff_getElem.1 hx
      have hi2 : i < r.Counts.length := by have : i < s.length := hi; omega
      have := g2 i hi2
      rw [List.getElem?_eq_getElem (show i < s.length from hi)] at this
      show money s[i] = true
      rw [Option.some.inj this]
      exact sh_money _ _ _ h8
theorem satAdd_money (a b : Int) : money (satAdd a b) = true := by
  obtain ⟨a1, a2⟩ := cl_rng a
  obtain ⟨b1, b2⟩ := cl_rng b
  rw [money_iff]
  unfold satAdd
  split <;> omega
/-- An amount is put into the first bucket. -/
def added (q : Ring) (amount : Int) : Ring := Ring.mk q.Span q.Head (q.Counts.set 0 (satAdd (q.Counts.getD 0 0) 1)) (q.Sums.set 0 (satAdd (q.Sums.getD 0 0) amount))
theorem all_set {l : List Int} {i : Nat} {x : Int} (h : l.all money = true) (hx : money x = true) : (l.set i x).all money = true := by
  rw [List.all_eq_true] at h ⊢
  intro y hy
  rcases List.mem_or_eq_of_mem_set hy with h1 | rfl
  · exact h y h1
  · exact hx
theorem ringP_added (q : Ring) (amount : Int) (h : ringP q) : ringP (added q amount) := by
  obtain ⟨h1, h2, h3, h4, h5, h6, h7, h8⟩ := h
  exact ⟨by simpa [added] using h1, by simpa [added] using h2, by simpa [added] using h3, h4, h5, h6, all_set h7 (satAdd_money _ _), all_set h8 (satAdd_money _ _)⟩
theorem first_of (q : Ring) (h : ringP q) : q.Counts[0]? = some (q.Counts.getD 0 0) ∧ q.Sums[0]? = some (q.Sums.getD 0 0) := by
  obtain ⟨h1, h2, h3, _⟩ := h
  constructor
  · rw [List.getD_eq_getElem?_getD, List.getElem?_eq_getElem (by omega)]; rfl
  · rw [List.getD_eq_getElem?_getD, List.getElem?_eq_getElem (by omega)]; rfl
theorem spec_RingAdd_val (r : Ring) (now amount : Int) (h : ringP r) (ht : time now = true) (hm : money amount = true) : spec_RingAdd r now amount = some (added (rolled r now) amount) := by
  have hq := ringP_rolled r now h
  obtain ⟨f1, f2⟩ := first_of _ hq
  unfold spec_RingAdd
  rw [RingOk_of r h, (RingRoll_val r now (by have := ringP_wt r h; omega)).1]
  simp only [Option.bind_some, if_true, l06Time_val, ht, l01Money_val, hm, f1, f2, (AddSat_val _ _).1]
  rfl
theorem l06Draw_l0_tot : ∀ (n : Nat) (b : List Int) (i h sp hd now k : Int) (cs ss : List Int), cur (l01Cur.mk b i h) → ringP (Ring.mk sp hd cs ss) → 0 ≤ now → now + 8 * k ≤ 1000000 → k < n → k ≤ 1000 → 0 ≤ k →
    ∃ b' i' h' sp' hd' cs' ss', spec_l06Draw_l0 n b i h sp hd now k cs ss = some (b', i', h', sp', hd', cs', ss') ∧ cur (l01Cur.mk b' i' h') ∧ ringP (Ring.mk sp' hd' cs' ss')
  | 0, b, i, h, sp, hd, now, k, cs, ss, hc, hr, h0, h1, hn, hk, hk0 => by omega
  | n + 1, b, i, h, sp, hd, now, k, cs, ss, hc, hr, h0, h1, hn, hk, hk0 => by
    unfold spec_l06Draw_l0
    by_cases h2 : 0 < k
    · obtain ⟨r5, c5, e5, k5, a5, b5⟩ := Below_tot _ 9 hc
      obtain ⟨r6, c6, e6, k6, a6, b6⟩ := Below_tot c5 90 k5
      have b5 := b5 (by omega)
      have b6 := b6 (by omega)
      have i1 : i64 (now + r5) = now + r5 := i64_of (by omega) (by omega)
      have i2 : i64 (1 + r6) = 1 + r6 := i64_of (by omega) (by omega)
      have i3 : i64 (k - 1) = k - 1 := i64_of (by omega) (by omega)
      have ht : time (now + r5) = true := by unfold time; simp only [Bool.and_eq_true, decide_eq_true_eq]; omega
      have hm : money (1 + r6) = true := by rw [money_iff]; omega
      have hp := ringP_added _ (1 + r6) (ringP_rolled _ (now + r5) hr)
      simp only [h2, decide_true, if_true, e5, e6, Option.bind_some, i1, i2, i3, spec_RingAdd_val _ _ _ hr ht hm]
      exact l06Draw_l0_tot n c6.b c6.i c6.h _ _ (now + r5) (k - 1) _ _ k6 hp (by omega) (by omega) (by omega) (by omega) (by omega)
    · simp only [h2, decide_false, Bool.false_eq_true, if_false]
      exact ⟨b, i, h, sp, hd, cs, ss, rfl, hc, hr⟩
theorem RingNew_val (b s : Int) (h1 : 1 ≤ b) (h2 : b ≤ 8) (h3 : 1 ≤ s) (h4 : s ≤ 1000) : spec_RingNew b s = some (Ring.mk s 0 (List.replicate b.toNat 0) (List.replicate b.toNat 0), true) ∧ ringP (Ring.mk s 0 (List.replicate b.toNat 0) (List.replicate b.toNat 0)) := by
  have e1 : (decide (1 ≤ b) && decide (b ≤ 8)) = true := by simp [h1, h2]
  have e2 : (decide (1 ≤ s) && decide (s ≤ 1000)) = true := by simp [h3, h4]
  constructor
  · unfold spec_RingNew
    simp only [l01In_val, e1, e2, Option.bind_some, if_true, show (0 : Int) ≤ b by omega, decide_true, capOk_of (show b.toNat ≤ 274877906944 by omega)]
  · have hm : (List.replicate b.toNat (0 : Int)).all money = true := by
      rw [List.all_eq_true]
      intro x hx
      rw [List.eq_of_mem_replicate hx]; rfl
    exact ⟨by simp, by simp; omega, by simp; omega, h3, h4, rfl, hm, hm⟩
theorem l06Draw_tot (c : l01Cur) (h : cur c) : ∃ r c', spec_l06Draw c = some (r, c') ∧ cur c' ∧ ringP r := by
  obtain ⟨r1, c1, e1, k1, a1, b1⟩ := Below_tot c 5 h
  obtain ⟨r2, c2, e2, k2, a2, b2⟩ := Below_tot c1 6 k1
  have b1 := b1 (by omega)
  have b2 := b2 (by omega)
  have i1 : i64 (1 + r1) = 1 + r1 := i64_of (by omega) (by omega)
  have i2 : i64 (1 + r2) = 1 + r2 := i64_of (by omega) (by omega)
  obtain ⟨v, hv⟩ := RingNew_val (1 + r1) (1 + r2) (by omega) (by omega) (by omega) (by omega)
  obtain ⟨r4, c4, e4, k4, a4, b4⟩ := Below_tot c2 5 k2
  have b4 := b4 (by omega)
  obtain ⟨b', i', h', sp', hd', cs', ss', q1, q2, q3⟩ := l06Draw_l0_tot FUEL c4.b c4.i c4.h (1 + r2) 0 0 r4 _ _ k4 hv (by omega) (by omega) (by unfold FUEL; omega) (by omega) (by omega)
  unfold spec_l06Draw
  simp only [e1, e2, e4, i1, i2, v, Option.bind_some, q1]
  exact ⟨_, _, rfl, q2, q3⟩
def holdL : List ByteArray := [bs [97], bs [98], bs [99], bs [104, 49], bs [122, 57]]
theorem l07IdE_tot (c : l01Cur) (h : cur c) : ∃ s c', spec_l07Id c = some (s, c') ∧ cur c' ∧ s ∈ holdL := by
  obtain ⟨r, c', e, k, m⟩ := Str_tot c holdL h (by decide) (by decide)
  unfold spec_l07Id
  rw [show spec_l01Str c [bs [97], bs [98], bs [99], bs [104, 49], bs [122, 57]] = some (r, c', holdL) from e]
  exact ⟨r, c', rfl, k, m⟩
theorem l07Hold_tot (c : l01Cur) (h : cur c) : ∃ s c', spec_l07Hold c = some (s, c') ∧ cur c' ∧ (s.Id.size ≤ 2 ∧ s.Amount ≤ 60 ∧ s.Id ∈ holdL) := by
  obtain ⟨r1, c1, e1, k1, a1⟩ := l07IdE_tot c h
  obtain ⟨r2, c2, e2, k2, a2, b2⟩ := Below_tot c1 60 k1
  obtain ⟨r3, c3, e3, k3, a3, b3⟩ := Below_tot c2 30 k2
  have hz : ∀ s ∈ holdL, s.size ≤ 2 := by decide
  unfold spec_l07Hold
  simp only [e1, e2, e3, Option.bind_some]
  have b2 := b2 (by omega)
  exact ⟨_, _, rfl, k3, hz r1 a1, by show i64 (1 + r2) ≤ 60; rw [i64_of (by omega) (by omega)]; omega, a1⟩
def id2 (l : List Hold) : Prop := ∀ x ∈ l, x.Id.size ≤ 2 ∧ x.Amount ≤ 60 ∧ x.Id ∈ holdL
theorem id2_app {l m : List Hold} (h : id2 l) (h2 : id2 m) : id2 (l ++ m) := fun x hx => by
  rcases List.mem_append.1 hx with hx | hx
  · exact h x hx
  · exact h2 x hx
theorem HoldPut_l0_tot (l : List Hold) (h : Hold) (hh : h.Id.size ≤ 2 ∧ h.Amount ≤ 60 ∧ h.Id ∈ holdL) : ∀ (t : List Hold) (b : Bool) (v : List Hold), id2 t → id2 v → v.length + 2 * t.length ≤ 1000 → ∃ b' y, spec_HoldPut_l0 l h t b v = some (b', y) ∧ id2 y ∧ y.length ≤ v.length + 2 * t.length
  | [], b, v, _, hv, _ => ⟨b, v, rfl, hv, by simp⟩
  | x :: t, b, v, ht, hv, hl => by
    simp only [List.length_cons] at hl
    have ht' : id2 t := fun y hy => ht y (by simp [hy])
    have hx : id2 [x] := fun y hy => by simp only [List.mem_singleton] at hy; rw [hy]; exact ht x (by simp)
    have hh' : id2 [h] := fun y hy => by simp only [List.mem_singleton] at hy; rw [hy]; exact hh
    have c1 : capOk (v.length + 1) = true := capOk_of (by omega)
    have c2 : capOk ((v ++ [h]).length + 1) = true := capOk_of (by simp; omega)
    have go : ∀ (b : Bool) (w : List Hold), id2 w → w.length ≤ v.length + 2 → ∃ b' y, spec_HoldPut_l0 l h t b w = some (b', y) ∧ id2 y ∧ y.length ≤ v.length + 2 * (t.length + 1) := fun b w hw hwl => by
      obtain ⟨b', y, e, f, g⟩ := HoldPut_l0_tot l h hh t b w ht' hw (by omega)
      exact ⟨b', y, e, f, by omega⟩
    unfold spec_HoldPut_l0
    rw [c1, c2]
    simp only [if_true, List.length_cons]
    split
    · split
      · exact go _ _ hv (by omega)
      · exact go _ _ (id2_app hv hx) (by simp)
    · split
      · split
        · exact go _ _ hv (by omega)
        · exact go _ _ (id2_app hv hx) (by simp)
      · split
        · exact go _ _ (id2_app hv hh') (by simp)
        · exact go _ _ (id2_app (id2_app hv hh') hx) (by simp)
theorem HoldPut_tot (l : List Hold) (h : Hold) (hl : l.length ≤ 100) (hi : id2 l) (hh : h.Id.size ≤ 2 ∧ h.Amount ≤ 60 ∧ h.Id ∈ holdL) : ∃ y b, spec_HoldPut l h = some (y, b) ∧ (b = true → holdsP y ∧ id2 y) := by
  obtain ⟨b1, e1, _, _⟩ := HoldsOk_iff l (by omega) (fun x hx => by have := hi x hx; omega)
  have hh' : id2 [h] := fun y hy => by simp only [List.mem_singleton] at hy; rw [hy]; exact hh
  unfold spec_HoldPut
  rw [e1, Option.bind_some]
  cases b1 with
  | false => exact ⟨_, _, rfl, fun h => by cases h⟩
  | true =>
    obtain ⟨b2, y, e2, f2, g2⟩ := HoldPut_l0_tot l h hh l false [] hi (fun x hx => by cases hx) (by simp; omega)
    simp only [List.length_nil] at g2
    simp only [if_true, capOk_of (show l.length ≤ 274877906944 by omega), e2, Option.bind_some, capOk_of (show y.length + 1 ≤ 274877906944 by omega)]
    obtain ⟨b3, e3, _, i3⟩ := HoldsOk_iff y (by omega) (fun x hx => by have := f2 x hx; omega)
    obtain ⟨b4, e4, _, i4⟩ := HoldsOk_iff (y ++ [h]) (by simp; omega) (fun x hx => by have := id2_app f2 hh' x hx; omega)
    simp only [e3, e4, Option.bind_some]
    cases b2 with
    | true => cases b3 with
      | true => exact ⟨_, _, rfl, fun _ => ⟨i3.1 rfl, f2⟩⟩
      | false => exact ⟨_, _, rfl, fun h => absurd h (by decide)⟩
    | false => cases b4 with
      | true => exact ⟨_, _, rfl, fun _ => ⟨i4.1 rfl, id2_app f2 hh'⟩⟩
      | false => exact ⟨_, _, rfl, fun h => absurd h (by decide)⟩
theorem l07Draw_l0_tot : ∀ (n : Nat) (b : List Int) (i h k : Int) (v : List Hold), cur (l01Cur.mk b i h) → holdsP v → id2 v → k < n → k ≤ 1000 → 0 ≤ k → ∃ b' i' h' y, spec_l07Draw_l0 n b i h k v = some (b', i', h', y) ∧ cur (l01Cur.mk b' i' h') ∧ holdsP y ∧ id2 y
  | 0, b, i, h, k, v, hc, hp, hi, hn, hk, hk0 => by omega
  | n + 1, b, i, h, k, v, hc, hp, hi, hn, hk, hk0 => by
    unfold spec_l07Draw_l0
    by_cases h2 : 0 < k
    · obtain ⟨r2, c2, e2, k2, a2⟩ := l07Hold_tot _ hc
      obtain ⟨y, b3, e3, f3⟩ := HoldPut_tot v r2 (by have := hp.1; omega) hi a2
      have i3 : i64 (k - 1) = k - 1 := i64_of (by omega) (by omega)
      simp only [h2, decide_true, if_true, e2, e3, Option.bind_some, i3]
      cases b3 with
      | true => exact l07Draw_l0_tot n c2.b c2.i c2.h (k - 1) y k2 (f3 rfl).1 (f3 rfl).2 (by omega) (by omega) (by omega)
      | false => exact l07Draw_l0_tot n c2.b c2.i c2.h (k - 1) v k2 hp hi (by omega) (by omega) (by omega)
    · simp only [h2, decide_false, Bool.false_eq_true, if_false]
      exact ⟨b, i, h, v, rfl, hc, hp, hi⟩
theorem l07Draw_tot (c : l01Cur) (h : cur c) : ∃ l c', spec_l07Draw c = some (l, c') ∧ cur c' ∧ holdsP l ∧ id2 l := by
  obtain ⟨r1, c1, e1, k1, a1, b1⟩ := Below_tot c 4 h
  have b1 := b1 (by omega)
  obtain ⟨b', i', h', y, q1, q2, q3, q4⟩ := l07Draw_l0_tot FUEL c1.b c1.i c1.h r1 [] k1 ⟨by decide, fun x hx => (by cases hx), List.Pairwise.nil⟩ (fun x hx => by cases hx) (by unfold FUEL; omega) (by omega) (by omega)
  unfold spec_l07Draw
  simp only [e1, Option.bind_some, q1]
  exact ⟨_, _, rfl, q2, q3, q4⟩
theorem l01Bytes_l0_tot : ∀ (n : Nat) (b : List Int) (i h k : Int) (v : List Int), cur (l01Cur.mk b i h) → byB v → k < n → k ≤ 1000 → 0 ≤ k → v.length + k ≤ 100000 → ∃ b' i' h' y, spec_l01Bytes_l0 n b i h k v = some (b', i', h', y) ∧ cur (l01Cur.mk b' i' h') ∧ byB y ∧ (y.length : Int) = v.length + k
  | 0, b, i, h, k, v, hc, hp, hn, hk, hk0, hv => by omega
  | n + 1, b, i, h, k, v, hc, hp, hn, hk, hk0, hv => by
    unfold spec_l01Bytes_l0
    by_cases h2 : 0 < k
    · obtain ⟨r2, c2, e2, k2, a2, b2⟩ := Byte_tot _ hc
      have i3 : i64 (k - 1) = k - 1 := i64_of (by omega) (by omega)
      have hu : u8 r2 = r2 := u8_of a2 b2
      have hp2 : byB (v ++ [r2]) := fun x hx => by
        rcases List.mem_append.1 hx with hx | hx
        · exact hp x hx
        · simp only [List.mem_singleton] at hx; rw [hx]; exact ⟨a2, b2⟩
      simp only [h2, decide_true, if_true, e2, Option.bind_some, i3, hu, capOk_of (show v.length + 1 ≤ 274877906944 by omega)]
      obtain ⟨b', i', h', y, q1, q2, q3, q4⟩ := l01Bytes_l0_tot n c2.b c2.i c2.h (k - 1) (v ++ [r2]) k2 hp2 (by omega) (by omega) (by omega) (by simp; omega)
      exact ⟨b', i', h', y, q1, q2, q3, by rw [q4]; simp; omega⟩
    · simp only [h2, decide_false, Bool.false_eq_true, if_false]
      exact ⟨b, i, h, v, rfl, hc, hp, by omega⟩
/-- A slot as it is drawn. -/
def slotD (s : Slot) : Prop := s.Trace.size = 6 ∧ s.Mti.size = 4 ∧ s.Reply.length ≤ 200 ∧ byB s.Reply
theorem l08Slot_tot (c : l01Cur) (h : cur c) : ∃ s c', spec_l08Slot c = some (s, c') ∧ cur c' ∧ slotD s := by
  obtain ⟨r1, c1, e1, k1, m1⟩ := Str_tot c [bs [48, 48, 48, 48, 48, 49], bs [48, 48, 48, 48, 48, 50], bs [48, 48, 48, 48, 48, 51], bs [49, 50, 51, 52, 53, 54]] h (by decide) (by decide)
  obtain ⟨r2, c2, e2, k2, m2⟩ := Str_tot c1 [bs [48, 49, 48, 48], bs [48, 50, 50, 48], bs [48, 50, 48, 48]] k1 (by decide) (by decide)
  obtain ⟨r3, c3, e3, k3, a3, b3⟩ := Below_tot c2 4 k2
  have b3 := b3 (by omega)
  obtain ⟨b', i', h', y, q1, q2, q3, q4⟩ := l01Bytes_l0_tot FUEL c3.b c3.i c3.h r3 [] k3 (fun x hx => by cases hx) (by unfold FUEL; omega) (by omega) (by omega) (by simp; omega)
  have i3 : i64 ((3 : Int) + 1) = 4 := by decide
  have hy : y.length ≤ 4 := by simp at q4; omega
  have t1 : r1.size = 6 := by
    simp only [List.mem_cons, List.not_mem_nil, or_false] at m1
    rcases m1 with rfl | rfl | rfl | rfl <;> rfl
  have t2 : r2.size = 4 := by
    simp only [List.mem_cons, List.not_mem_nil, or_false] at m2
    rcases m2 with rfl | rfl | rfl <;> rfl
  unfold spec_l08Slot spec_l01Bytes
  simp only [e1, e2, i3, e3, q1, Option.bind_some, capOk_of (show y.length + 1 ≤ 274877906944 by omega), if_true]
  refine ⟨_, _, rfl, q2, t1, t2, by simp; omega, fun x hx => ?_⟩
  rcases List.mem_append.1 hx with hx | hx
  · exact q3 x hx
  · simp only [List.mem_singleton] at hx; rw [hx]; omega
theorem slotD_wt (l : List Slot) (h : ∀ s ∈ l, slotD s) : wtL wtSlot l ≤ 211 * l.length := wtL_bound wtSlot 210 l fun x hx => by
  obtain ⟨h1, h2, h3, _⟩ := h x hx
  rw [wtSlot_eq]; omega
theorem SlotPut_tot (l : List Slot) (s : Slot) (hl : l.length ≤ 100) (h : ∀ s ∈ l, slotD s) (hs : slotD s) : ∃ y b, spec_SlotPut l s = some (y, b) ∧ (b = true → spec_SlotsOk y = some true ∧ (∀ s ∈ y, slotD s) ∧ y.length ≤ 6) := by
  have h2 : ∀ x ∈ l ++ [s], slotD x := fun x hx => by
    rcases List.mem_append.1 hx with hx | hx
    · exact h x hx
    · simp only [List.mem_singleton] at hx; rw [hx]; exact hs
  have w1 := slotD_wt l h
  have w2 := slotD_wt (l ++ [s]) h2
  simp only [List.length_append, List.length_cons, List.length_nil] at w2
  obtain ⟨b, e, _, i⟩ := SlotsOk_tot (l ++ [s]) (by simp; omega) (fun x hx => by obtain ⟨h1, h2, _⟩ := h2 x hx; omega)
  unfold spec_SlotPut
  rw [l08Copy_val l (by omega), Option.bind_some, capOk_of (show l.length + 1 ≤ 274877906944 by omega), l08Copy_val (l ++ [s]) (by omega), Option.bind_some, e, Option.bind_some]
  cases b with
  | true => exact ⟨_, _, rfl, fun _ => ⟨e, h2, (i rfl).1⟩⟩
  | false => exact ⟨_, _, rfl, fun h => by cases h⟩
theorem l08Draw_l0_tot : ∀ (n : Nat) (b : List Int) (i h k : Int) (v : List Slot), cur (l01Cur.mk b i h) → spec_SlotsOk v = some true → (∀ s ∈ v, slotD s) → v.length ≤ 6 → k < n → k ≤ 1000 → 0 ≤ k → ∃ b' i' h' y, spec_l08Draw_l0 n b i h k v = some (b', i', h', y) ∧ cur (l01Cur.mk b' i' h') ∧ spec_SlotsOk y = some true ∧ (∀ s ∈ y, slotD s) ∧ y.length ≤ 6
  | 0, b, i, h, k, v, hc, hp, hi, hl, hn, hk, hk0 => by omega
  | n + 1, b, i, h, k, v, hc, hp, hi, hl, hn, hk, hk0 => by
    unfold spec_l08Draw_l0
    by_cases h2 : 0 < k
    · obtain ⟨r2, c2, e2, k2, a2⟩ := l08Slot_tot _ hc
      obtain ⟨y, b3, e3, f3⟩ := SlotPut_tot v r2 (by omega) hi a2
      have i3 : i64 (k - 1) = k - 1 := i64_of (by omega) (by omega)
      simp only [h2, decide_true, if_true, e2, e3, Option.bind_some, i3]
      cases b3 with
      | true => exact l08Draw_l0_tot n c2.b c2.i c2.h (k - 1) y k2 (f3 rfl).1 (f3 rfl).2.1 (f3 rfl).2.2 (by omega) (by omega) (by omega)
      | false => exact l08Draw_l0_tot n c2.b c2.i c2.h (k - 1) v k2 hp hi hl (by omega) (by omega) (by omega)
    · simp only [h2, decide_false, Bool.false_eq_true, if_false]
      exact ⟨b, i, h, v, rfl, hc, hp, hi, hl⟩
theorem l08Draw_tot (c : l01Cur) (h : cur c) : ∃ l c', spec_l08Draw c = some (l, c') ∧ cur c' ∧ spec_SlotsOk l = some true ∧ (∀ s ∈ l, slotD s) ∧ l.length ≤ 6 := by
  obtain ⟨r1, c1, e1, k1, a1, b1⟩ := Below_tot c 5 h
  have b1 := b1 (by omega)
  obtain ⟨b', i', h', y, q1, q2, q3⟩ := l08Draw_l0_tot FUEL c1.b c1.i c1.h r1 [] k1 rfl (fun x hx => by cases hx) (by decide) (by unfold FUEL; omega) (by omega) (by omega)
  unfold spec_l08Draw
  simp only [e1, Option.bind_some, q1]
  exact ⟨_, _, rfl, q2, q3⟩
/-- An account as it is drawn. -/
def acctD (a : Acct) : Prop := acctP a ∧ szAcct a ∧ ∀ s ∈ a.Slots, byB s.Reply
theorem acctD_mk (id : ByteArray) (limit posted most sum : Int) (hl : List Hold) (r : Ring) (sl : List Slot) (h1 : spec_AcctIdOk id = some true) (h2 : 0 ≤ limit ∧ limit ≤ 9007199254740992) (h3 : 0 ≤ most ∧ most ≤ 1000) (h4 : 0 ≤ sum ∧ sum ≤ 9007199254740992)
    (h5 : 0 ≤ posted) (h6 : holdsP hl) (h6' : id2 hl) (h7 : ringP r) (h8 : spec_SlotsOk sl = some true) (h9 : ∀ s ∈ sl, slotD s) (h10 : sl.length ≤ 6) (h11 : posted + sumA hl ≤ limit) : acctD (Acct.mk id limit posted most sum hl r sl) := by
  have hr := sumA_rng _ (holdsP_amt h6)
  obtain ⟨b, e, _, i⟩ := AcctIdOk_eq id
  rw [e] at h1
  have hid := i (Option.some.inj h1)
  refine ⟨⟨by rw [e, h1], h2, h3, h4, by rw [money_iff]; show 0 ≤ posted ∧ posted ≤ 4611686018427387904; omega, h6, h7, h8, h11⟩, ⟨by show id.size ≤ _; omega, ⟨by have := h6.1; show hl.length ≤ _; omega, fun x hx => by have := h6' x hx; show x.Id.size ≤ _; omega⟩, ⟨by have := h7.2.1; show r.Counts.length ≤ _; omega, by have := h7.1; have := h7.2.1; show r.Sums.length ≤ _; omega⟩, by show sl.length ≤ _; omega, fun x hx => ?_⟩, fun s hs => (h9 s hs).2.2.2⟩
  obtain ⟨q1, q2, q3, _⟩ := h9 x hx
  exact ⟨by omega, by omega, by omega⟩
theorem AcctNew_val (id : ByteArray) (limit most sum b s : Int) (h1 : spec_AcctIdOk id = some true) (h2 : 0 ≤ limit ∧ limit ≤ 9007199254740992) (h3 : 0 ≤ most ∧ most ≤ 1000) (h4 : 0 ≤ sum ∧ sum ≤ 9007199254740992) (hb : 1 ≤ b) (hb2 : b ≤ 8) (hs : 1 ≤ s) (hs2 : s ≤ 1000) :
    ∃ r, spec_AcctNew id limit most sum b s = some (Acct.mk id limit 0 most sum [] r [], true) := by
  obtain ⟨v, hv⟩ := RingNew_val b s hb hb2 hs hs2
  obtain ⟨hp, hz, _⟩ := acctD_mk id limit 0 most sum [] _ [] h1 h2 h3 h4 (by omega) ⟨by decide, fun x hx => (by cases hx), List.Pairwise.nil⟩ (fun x hx => by cases hx) hv rfl (fun x hx => by cases hx) (by decide) (by simp only [sumA]; omega)
  obtain ⟨b1, e1, _, i1⟩ := AcctOk_iff _ hz
  have := i1.2 hp
  subst this
  unfold spec_AcctNew
  rw [v, Option.bind_some]
  simp only [if_true, e1, Option.bind_some]
  exact ⟨_, rfl⟩
theorem l09Draw_tot (c : l01Cur) (id : ByteArray) (h : cur c) (hid : spec_AcctIdOk id = some true) : ∃ a c', spec_l09Draw c id = some (a, c') ∧ cur c' ∧ acctD a ∧ a.Id = id ∧ id2 a.Holds := by
  obtain ⟨r1, c1, e1, k1, m1⟩ := Pick_tot c [100, 200, 60, 0, 9007199254740992] h (by decide) (by decide)
  obtain ⟨r2, c2, e2, k2, m2⟩ := Pick_tot c1 [2, 3, 5, 1000] k1 (by decide) (by decide)
  obtain ⟨r3, c3, e3, k3, m3⟩ := Pick_tot c2 [60, 120, 1000, 9007199254740992] k2 (by decide) (by decide)
  obtain ⟨r4, c4, e4, k4, a4, b4⟩ := Below_tot c3 4 k3
  obtain ⟨r5, c5, e5, k5, a5, b5⟩ := Below_tot c4 5 k4
  have b4 := b4 (by omega)
  have b5 := b5 (by omega)
  have i4 : i64 (1 + r4) = 1 + r4 := i64_of (by omega) (by omega)
  have i5 : i64 (1 + r5) = 1 + r5 := i64_of (by omega) (by omega)
  simp only [List.mem_cons, List.not_mem_nil, or_false] at m1 m2 m3
  have hl : 0 ≤ r1 ∧ r1 ≤ 9007199254740992 := by omega
  have hm : 0 ≤ r2 ∧ r2 ≤ 1000 := by omega
  have hs : 0 ≤ r3 ∧ r3 ≤ 9007199254740992 := by omega
  clear m1 m2 m3
  obtain ⟨rg, e6⟩ := AcctNew_val id r1 r2 r3 (1 + r4) (1 + r5) hid hl hm hs (by omega) (by omega) (by omega) (by omega)
  obtain ⟨ring, c7, e7, k7, hring⟩ := l06Draw_tot c5 k5
  obtain ⟨hl8, c8, e8, k8, hh8, hi8⟩ := l07Draw_tot c7 k7
  have hsum := (Stored_sum hl8 (holdsP_amt hh8) (by have := hh8.1; omega)).1
  have hsum0 := (Stored_sum [] (fun x hx => by cases hx) (by decide)).1
  have hr8 := sumA_rng _ (holdsP_amt hh8)
  have hlen8 := hh8.1
  have e10 : spec_AddSat (sumA hl8) 0 = some (sumA hl8) := by rw [(AddSat_val _ _).1, satAdd_in hr8.1 (by omega) (by omega)]; congr 1; omega
  have good : ∀ (p : Int) (l : List Hold) (sl : List Slot), 0 ≤ p → holdsP l → id2 l → p + sumA l ≤ r1 → spec_SlotsOk sl = some true → (∀ s ∈ sl, slotD s) → sl.length ≤ 6 → acctD (Acct.mk id r1 p r2 r3 l ring sl) := fun p l sl hp hh hi hle s1 s2 s3 => acctD_mk id r1 p r2 r3 l ring sl hid hl hm hs hp hh hi hring s1 s2 s3 hle
  have slots : ∀ (c : l01Cur) (p : Int) (l : List Hold), cur c → 0 ≤ p → holdsP l → id2 l → p + sumA l ≤ r1 → ∃ a c', ((spec_l01Once c 3).bind fun r15 => if r15.1 = true then (spec_l08Draw r15.2).bind fun r16 => some (Acct.mk id r1 p r2 r3 l ring r16.1, r16.2) else some (Acct.mk id r1 p r2 r3 l ring [], r15.2)) = some (a, c') ∧ cur c' ∧ acctD a ∧ a.Id = id ∧ id2 a.Holds := fun c p l hc hp hh hi hle => by
    obtain ⟨b, c', e, k⟩ := Once_tot c 3 hc
    rw [e, Option.bind_some]
    cases b with
    | true =>
      obtain ⟨sl, c2, e2, k2, s1, s2, s3⟩ := l08Draw_tot c' k
      simp only [if_true, e2, Option.bind_some]
      exact ⟨_, _, rfl, k2, good p l sl hp hh hi hle s1 s2 s3, rfl, hi⟩
    | false =>
      simp only [Bool.false_eq_true, if_false]
      exact ⟨_, _, rfl, k, good p l [] hp hh hi hle rfl (fun s hs => by cases hs) (by decide), rfl, hi⟩
  have post : ∀ (c : l01Cur) (l : List Hold), cur c → holdsP l → id2 l → sumA l ≤ r1 → spec_Stored l = some (sumA l) → ∃ a c', ((spec_Stored l).bind fun r11 => if (decide (r11 < r1)) = true then (spec_l01Once c 2).bind fun r12 => if r12.1 = true then (spec_Stored l).bind fun r13 => (spec_l01Below r12.2 (i64 ((i64 (r1 - r13)) + 1))).bind fun r14 =>
        (spec_l01Once r14.2 3).bind fun r15 => if r15.1 = true then (spec_l08Draw r15.2).bind fun r16 => some (Acct.mk id r1 r14.1 r2 r3 l ring r16.1, r16.2) else some (Acct.mk id r1 r14.1 r2 r3 l ring [], r15.2)
      else (spec_l01Once r12.2 3).bind fun r17 => if r17.1 = true then (spec_l08Draw r17.2).bind fun r18 => some (Acct.mk id r1 0 r2 r3 l ring r18.1, r18.2) else some (Acct.mk id r1 0 r2 r3 l ring [], r17.2)
      else (spec_l01Once c 3).bind fun r19 => if r19.1 = true then (spec_l08Draw r19.2).bind fun r20 => some (Acct.mk id r1 0 r2 r3 l ring r20.1, r20.2) else some (Acct.mk id r1 0 r2 r3 l ring [], r19.2)) = some (a, c') ∧ cur c' ∧ acctD a ∧ a.Id = id ∧ id2 a.Holds := fun c l hc hh hi hle hst => by
    have hr := sumA_rng _ (holdsP_amt hh)
    simp only [hst, Option.bind_some]
    by_cases hlt : sumA l < r1
    · obtain ⟨b, c', e, k⟩ := Once_tot c 2 hc
      simp only [hlt, decide_true, if_true, e, Option.bind_some]
      cases b with
      | true =>
        have q1 : i64 (r1 - sumA l) = r1 - sumA l := i64_of (by omega) (by omega)
        have q2 : i64 (r1 - sumA l + 1) = r1 - sumA l + 1 := i64_of (by omega) (by omega)
        obtain ⟨p, c2, e2, k2, p1, p2⟩ := Below_tot c' (r1 - sumA l + 1) k
        have p2 := p2 (by omega)
        simp only [if_true, q1, q2, e2, Option.bind_some]
        exact slots c2 p l k2 p1 hh hi (by omega)
      | false =>
        simp only [Bool.false_eq_true, if_false]
        exact slots c' 0 l k (by omega) hh hi (by omega)
    · simp only [hlt, decide_false, Bool.false_eq_true, if_false]
      exact slots c 0 l hc (by omega) hh hi (by omega)
  unfold spec_l09Draw
  simp only [e1, e2, e3, e4, e5, i4, i5, e6, e7, e8, Option.bind_some]
  first
  | (rw [hsum, Option.bind_some, e10, Option.bind_some, ← hsum]
     by_cases hle : sumA hl8 ≤ r1
     · simp only [hle, decide_true, if_true]
       exact post c8 hl8 k8 hh8 hi8 hle hsum
     · simp only [hle, decide_false, Bool.false_eq_true, if_false]
       exact post c8 [] k8 ⟨by decide, fun x hx => (by cases hx), List.Pairwise.nil⟩ (fun x hx => by cases hx) (by simp only [sumA]; omega) hsum0)
  | (have j0 : ∃ l, spec_l09Draw_c0 (Acct.mk id r1 0 r2 r3 [] rg [], true) (ring, c7) (hl8, c8) = some l ∧ holdsP l ∧ id2 l ∧ sumA l ≤ r1 ∧ spec_Stored l = some (sumA l) := by
       unfold spec_l09Draw_c0
       simp only [hsum, Option.bind_some, e10]
       by_cases hle : sumA hl8 ≤ r1
       · simp only [hle, decide_true, if_true]
         exact ⟨hl8, rfl, hh8, hi8, hle, hsum⟩
       · simp only [hle, decide_false, Bool.false_eq_true, if_false]
         exact ⟨[], rfl, ⟨by decide, fun x hx => (by cases hx), List.Pairwise.nil⟩, (fun x hx => by cases hx), (by simp only [sumA]; omega), hsum0⟩
     obtain ⟨l, q0, hh, hi, hle, hst⟩ := j0
     have hr := sumA_rng _ (holdsP_amt hh)
     have j1 : ∃ c' p, spec_l09Draw_c1 (Acct.mk id r1 0 r2 r3 [] rg [], true) (ring, c7) (hl8, c8) l = some (l01Cur.b c', l01Cur.i c', l01Cur.h c', p) ∧ cur c' ∧ 0 ≤ p ∧ p + sumA l ≤ r1 := by
       unfold spec_l09Draw_c1
       simp only [hst, Option.bind_some]
       by_cases hlt : sumA l < r1
       · obtain ⟨b, c', e, k⟩ := Once_tot c8 2 k8
         simp only [hlt, decide_true, if_true, e, Option.bind_some]
         cases b with
         | true =>
           have q1 : i64 (r1 - sumA l) = r1 - sumA l := i64_of (by omega) (by omega)
           have q2 : i64 (r1 - sumA l + 1) = r1 - sumA l + 1 := i64_of (by omega) (by omega)
           obtain ⟨p, c2, e2, k2, p1, p2⟩ := Below_tot c' (r1 - sumA l + 1) k
           have p2 := p2 (by omega)
           simp only [if_true, q1, q2, e2, Option.bind_some]
           exact ⟨c2, p, rfl, k2, p1, by omega⟩
         | false =>
           simp only [Bool.false_eq_true, if_false]
           exact ⟨c', 0, rfl, k, by omega, by omega⟩
       · simp only [hlt, decide_false, Bool.false_eq_true, if_false]
         exact ⟨c8, 0, rfl, k8, by omega, by omega⟩
     obtain ⟨d1, p, q1, kd, p0, ple⟩ := j1
     have j2 : ∃ c' sl, spec_l09Draw_c2 (Acct.mk id r1 0 r2 r3 [] rg [], true) (ring, c7) l (d1.b, d1.i, d1.h, p) = some (l01Cur.b c', l01Cur.i c', l01Cur.h c', sl) ∧ cur c' ∧ spec_SlotsOk sl = some true ∧ (∀ s ∈ sl, slotD s) ∧ sl.length ≤ 6 := by
       obtain ⟨b, c', e, k⟩ := Once_tot (l01Cur.mk d1.b d1.i d1.h) 3 kd
       unfold spec_l09Draw_c2
       rw [e, Option.bind_some]
       cases b with
       | true =>
         obtain ⟨sl, c2, e2, k2, s1, s2, s3⟩ := l08Draw_tot c' k
         simp only [if_true, e2, Option.bind_some]
         exact ⟨c2, sl, rfl, k2, s1, s2, s3⟩
       | false =>
         simp only [Bool.false_eq_true, if_false]
         exact ⟨c', [], rfl, k, rfl, (fun s hs => by cases hs), (by decide)⟩
     obtain ⟨d2, sl, q2, kd2, s1, s2, s3⟩ := j2
     rw [q0, Option.bind_some, q1, Option.bind_some, q2, Option.bind_some]
     exact ⟨_, _, rfl, kd2, good p l sl p0 hh hi ple s1 s2 s3, rfl, hi⟩)
theorem acctD_holds {a : Acct} (h : acctD a) : holdsP a.Holds := h.1.2.2.2.2.2.1
theorem ba_ext {a b : ByteArray} (h : a.data.toList = b.data.toList) : a = b := by
  rcases a with ⟨⟨a⟩⟩
  rcases b with ⟨⟨b⟩⟩
  have h : a = b := h
  rw [h]
theorem ba_app (a b : ByteArray) : (a ++ b).data.toList = a.data.toList ++ b.data.toList := by
  rw [ByteArray.data_append, Array.toList_append]
theorem ba_size (a : ByteArray) : a.size = a.data.toList.length := by
  rcases a with ⟨⟨a⟩⟩
  rfl
/-- The text of a number; nothing where it is none. -/
def numT (n : Int) : ByteArray := if money n = true then ⟨(Lib.itoa n).toArray⟩ else ⟨#[]⟩
theorem decDigits_len : ∀ (m u : Nat), u < 10 ^ (m + 1) → (Lib.decDigits u).length ≤ m + 1
  | m, u, h => by
    rw [Lib.decDigits]
    split
    · simp
    · rename_i h10
      cases m with
      | zero => omega
      | succ m =>
        have := decDigits_len m (u / 10) (by rw [Nat.pow_succ] at h; omega)
        simp; omega
theorem money_bounds {n : Int} (h : money n = true) : 0 ≤ n ∧ n ≤ 4611686018427387904 := by
  unfold money at h
  simpa using h
theorem numT_size (n : Int) : (numT n).size ≤ 20 := by
  unfold numT
  split
  · rename_i h
    obtain ⟨h0, h1⟩ := money_bounds h
    rw [ba_size]
    simp only [Lib.itoa, show ¬ n < 0 by omega, if_false]
    exact decDigits_len 19 n.toNat (by omega)
  · simp [ByteArray.size]
theorem impl_NumText_val (n : Int) : impl_NumText n = some (numT n) := by
  unfold impl_NumText numT strconv_Itoa
  rw [isMoney_val, Option.bind_some]
  rcases tf (money n) with h | h
  · obtain ⟨g1, g2⟩ := money_bounds h
    simp [h, show -9223372036854775808 ≤ n by omega, show n ≤ 9223372036854775807 by omega]
  · simp only [h, Bool.false_eq_true, if_false]; rfl
theorem ba_nil_app (a : ByteArray) : bs [] ++ a = a := ba_ext (by rw [ba_app]; rfl)
theorem ba_app_nil (a : ByteArray) : a ++ bs [] = a := ba_ext (by rw [ba_app]; exact List.append_nil _)
theorem ba_assoc (a b c : ByteArray) : (a ++ b) ++ c = a ++ (b ++ c) := ba_ext (by simp only [ba_app, List.append_assoc])
def hexS : ByteArray := bs [48, 49, 50, 51, 52, 53, 54, 55, 56, 57, 97, 98, 99, 100, 101, 102]
def hexL (x : Int) : List Int := [sAt hexS (x / 16), sAt hexS (x % 16)]
theorem byte_shr (x : Int) (h : 0 ≤ x ∧ x ≤ 255) : bshr .u8 x 4 = x / 16 := by
  have key : ∀ n : Fin 256, bshr .u8 ((n.val : Nat) : Int) 4 = ((n.val : Nat) : Int) / 16 := by decide +kernel
  have := key ⟨x.toNat, by omega⟩
  have e : ((x.toNat : Nat) : Int) = x := by omega
  simpa [e] using this
theorem byte_and (x : Int) (h : 0 ≤ x ∧ x ≤ 255) : band .u8 x 15 = x % 16 := by
  have key : ∀ n : Fin 256, band .u8 ((n.val : Nat) : Int) 15 = ((n.val : Nat) : Int) % 16 := by decide +kernel
  have := key ⟨x.toNat, by omega⟩
  have e : ((x.toNat : Nat) : Int) = x := by omega
  simpa [e] using this
theorem bstr_size (a : List Int) : (bstr a).size = a.length := by rw [ba_size, bstr_list, List.length_map]
theorem impl_HexText_l0_val (b : List Int) : ∀ (t v : List Int), byB t → v.length + 2 * t.length ≤ 100000000 → impl_HexText_l0 b t v = some (v ++ t.flatMap hexL)
  | [], v, _, _ => by simp [impl_HexText_l0]
  | x :: t, v, hb, hv => by
    simp only [List.length_cons] at hv
    have hx := hb x (by simp)
    have ih := impl_HexText_l0_val b t (v ++ hexL x) (fun y hy => hb y (by simp [hy])) (by simp [hexL]; omega)
    have hs : (bs [48, 49, 50, 51, 52, 53, 54, 55, 56, 57, 97, 98, 99, 100, 101, 102]).size = 16 := rfl
    unfold impl_HexText_l0
    simp only [byte_shr x hx, byte_and x hx, hs, show (0 : Int) ≤ x / 16 by omega, show x / 16 < ((16 : Nat) : Int) by omega, show (0 : Int) ≤ x % 16 by omega, show x % 16 < ((16 : Nat) : Int) by omega, capOk_of (show v.length + 2 ≤ 274877906944 by omega), decide_true, if_true]
    rw [show [sAt (bs [48, 49, 50, 51, 52, 53, 54, 55, 56, 57, 97, 98, 99, 100, 101, 102]) (x / 16), sAt (bs [48, 49, 50, 51, 52, 53, 54, 55, 56, 57, 97, 98, 99, 100, 101, 102]) (x % 16)] = hexL x from rfl, ih, List.flatMap_cons, List.append_assoc]
def hexT (l : List Int) : ByteArray := bstr (l.flatMap hexL)
theorem hexT_size (l : List Int) : (hexT l).size = 2 * l.length := by
  unfold hexT
  rw [bstr_size]
  induction l with
  | nil => rfl
  | cons x t ih => rw [List.flatMap_cons, List.length_append, ih]; simp [hexL]; omega
theorem sbytes_len (s : ByteArray) : (sbytes s).length = s.size := by unfold sbytes; rw [List.length_map, ← ba_size]
theorem sAt_get (s : ByteArray) {i : Nat} (h : i < s.size) : (sbytes s)[i]? = some (sAt s (i : Int)) := by
  rcases s with ⟨⟨l⟩⟩
  have h : i < l.length := h
  simp [sbytes, sAt, h]
theorem sbytes_by (s : ByteArray) : byB (sbytes s) := fun b hb => by
  unfold sbytes at hb
  rw [List.mem_map] at hb
  obtain ⟨x, _, rfl⟩ := hb
  have := x.toNat_lt
  omega
theorem sbytes_bstr {l : List Int} (h : byB l) : sbytes (bstr l) = l := by
  unfold sbytes
  rw [bstr_list, List.map_map]
  conv => rhs; rw [← List.map_id l]
  apply List.map_congr_left
  intro x hx
  have := h x hx
  simp only [Function.comp, id]
  rw [UInt8.toNat_ofNat']
  omega
theorem sbytes_app (a b : ByteArray) : sbytes (a ++ b) = sbytes a ++ sbytes b := by unfold sbytes; rw [ba_app, List.map_append]
def digI (x : Int) : Bool := decide (48 ≤ x) && decide (x ≤ 57)
def prtI (x : Int) : Bool := decide (32 ≤ x) && decide (x ≤ 126)
def digB (s : ByteArray) : Bool := decide (0 < s.size) && (sbytes s).all digI
def prtB (s : ByteArray) : Bool := (sbytes s).all prtI
/-- A loop that looks at each byte. -/
theorem scan_loop {L : Nat → Int → Option (Lo Unit Unit)} (s : ByteArray) (hs : s.size ≤ 4000000) (lo hi : Int) (q : Int → Bool) (hq : ∀ x, q x = (decide (lo ≤ x) && decide (x ≤ hi)))
    (h1 : ∀ n v, L (n + 1) v = if (decide (v < (s.size : Int))) = true then if (decide (0 ≤ v)) = true then if (decide ((v : Int) < (s.size : Int))) = true then if (decide ((sAt s v) < lo)) = true then some (.ret ()) else if (decide (hi < (sAt s v))) = true then some (.ret ()) else L n (i64 (v + 1)) else none else none else some (.out ())) :
    ∀ (n v : Nat), v ≤ s.size → s.size - v < n → L n (v : Int) = some (if ((sbytes s).drop v).all q = true then .out () else .ret ())
  | 0, v, h, hn => by omega
  | n + 1, v, h, hn => by
    rw [h1]
    by_cases hv : v < s.size
    · have hl : v < (sbytes s).length := by rw [sbytes_len]; exact hv
      have hd : (sbytes s).drop v = sAt s v :: (sbytes s).drop (v + 1) := by
        have := sAt_get s hv
        rw [List.getElem?_eq_getElem hl] at this
        rw [List.drop_eq_getElem_cons hl, Option.some.inj this]
      have hi' : i64 ((v : Int) + 1) = ((v + 1 : Nat) : Int) := by rw [i64_of (by omega) (by omega)]; omega
      have ih := scan_loop s hs lo hi q hq h1 n (v + 1) (by omega) (by omega)
      rw [hd, List.all_cons, hq, hi', ih]
      simp only [show (v : Int) < (s.size : Int) by omega, show (0 : Int) ≤ (v : Int) by omega, decide_true, if_true]
      by_cases a : sAt s v < lo
      · simp [a, show ¬ lo ≤ sAt s v by omega]
      · by_cases b : hi < sAt s v
        · simp [a, b, show ¬ sAt s v ≤ hi by omega]
        · simp [a, b, show lo ≤ sAt s v by omega, show sAt s v ≤ hi by omega]
    · have : (sbytes s).drop v = [] := List.drop_eq_nil_of_le (by rw [sbytes_len]; omega)
      rw [this]
      simp [show ¬ (v : Int) < (s.size : Int) by omega]
theorem Digits_s (s : ByteArray) (hs : s.size ≤ 4000000) : spec_Digits s = some (digB s) := by
  have e1 : spec_Digits_l0 s FUEL 0 = some (if (sbytes s).all digI = true then .out () else .ret ()) := scan_loop (L := spec_Digits_l0 s) s hs 48 57 digI (fun _ => rfl) (fun _ _ => rfl) FUEL 0 (by omega) (by unfold FUEL; omega)
  unfold spec_Digits digB
  rw [e1]
  cases (sbytes s).all digI with
  | false => simp [Lo.elim]
  | true =>
    by_cases h : s.size = 0
    · simp [Lo.elim, h]
    · simp [Lo.elim, h, show (0 : Int) < (s.size : Int) by omega, show 0 < s.size by omega]
theorem Printable_s (s : ByteArray) (hs : s.size ≤ 4000000) : spec_Printable s = some (prtB s) := by
  have e1 : spec_Printable_l0 s FUEL 0 = some (if (sbytes s).all prtI = true then .out () else .ret ()) := scan_loop (L := spec_Printable_l0 s) s hs 32 126 prtI (fun _ => rfl) (fun _ _ => rfl) FUEL 0 (by omega) (by unfold FUEL; omega)
  unfold spec_Printable prtB
  rw [e1]
  cases (sbytes s).all prtI <;> simp [Lo.elim]
def frow (no : Int) : Int × Int :=
  if (no == 2) = true then (3, 19) else if (no == 3) = true then (1, 6) else if (no == 4) = true then (1, 12) else if (no == 7) = true then (1, 10) else if (no == 11) = true then (1, 6) else if (no == 14) = true then (1, 4) else if (no == 37) = true then (2, 12) else if (no == 38) = true then (2, 6) else if (no == 39) = true then (2, 2) else if (no == 41) = true then (2, 8) else if (no == 48) = true then (5, 60) else if (no == 49) = true then (1, 3) else if (no == 54) = true then (5, 60) else if (no == 95) = true then (2, 12) else if (no == 102) = true then (4, 20) else if (no == 103) = true then (4, 20) else (0, 0)
def fkind (no : Int) : Int := (frow no).1
def fsize (no : Int) : Int := (frow no).2
def noCases : List Int := [2, 3, 4, 7, 11, 14, 37, 38, 39, 41, 48, 49, 54, 95, 102, 103]
theorem frow_none {no : Int} (h : no ∉ noCases) : frow no = (0, 0) := by
  unfold noCases at h
  simp only [List.mem_cons, List.not_mem_nil, or_false, not_or] at h
  obtain ⟨h2, h3, h4, h7, h11, h14, h37, h38, h39, h41, h48, h49, h54, h95, h102, h103⟩ := h
  have b2 : (no == 2) = false := beq_false_of_ne h2
  have b3 : (no == 3) = false := beq_false_of_ne h3
  have b4 : (no == 4) = false := beq_false_of_ne h4
  have b7 : (no == 7) = false := beq_false_of_ne h7
  have b11 : (no == 11) = false := beq_false_of_ne h11
  have b14 : (no == 14) = false := beq_false_of_ne h14
  have b37 : (no == 37) = false := beq_false_of_ne h37
  have b38 : (no == 38) = false := beq_false_of_ne h38
  have b39 : (no == 39) = false := beq_false_of_ne h39
  have b41 : (no == 41) = false := beq_false_of_ne h41
  have b48 : (no == 48) = false := beq_false_of_ne h48
  have b49 : (no == 49) = false := beq_false_of_ne h49
  have b54 : (no == 54) = false := beq_false_of_ne h54
  have b95 : (no == 95) = false := beq_false_of_ne h95
  have b102 : (no == 102) = false := beq_false_of_ne h102
  have b103 : (no == 103) = false := beq_false_of_ne h103
  unfold frow
  simp only [b2, b3, b4, b7, b11, b14, b37, b38, b39, b41, b48, b49, b54, b95, b102, b103, Bool.false_eq_true, if_false]
theorem Row_k (no : Int) : spec_FieldKind no = some (fkind no) := by
  by_cases h : no ∈ noCases
  · have key : ∀ no ∈ noCases, spec_FieldKind no = some (fkind no) := by decide +kernel
    exact key no h
  · have hz := frow_none h
    unfold fkind
    rw [hz]
    unfold noCases at h
    simp only [List.mem_cons, List.not_mem_nil, or_false, not_or] at h
    obtain ⟨h2, h3, h4, h7, h11, h14, h37, h38, h39, h41, h48, h49, h54, h95, h102, h103⟩ := h
    have b2 : (no == 2) = false := beq_false_of_ne h2
    have b3 : (no == 3) = false := beq_false_of_ne h3
    have b4 : (no == 4) = false := beq_false_of_ne h4
    have b7 : (no == 7) = false := beq_false_of_ne h7
    have b11 : (no == 11) = false := beq_false_of_ne h11
    have b14 : (no == 14) = false := beq_false_of_ne h14
    have b37 : (no == 37) = false := beq_false_of_ne h37
    have b38 : (no == 38) = false := beq_false_of_ne h38
    have b39 : (no == 39) = false := beq_false_of_ne h39
    have b41 : (no == 41) = false := beq_false_of_ne h41
    have b48 : (no == 48) = false := beq_false_of_ne h48
    have b49 : (no == 49) = false := beq_false_of_ne h49
    have b54 : (no == 54) = false := beq_false_of_ne h54
    have b95 : (no == 95) = false := beq_false_of_ne h95
    have b102 : (no == 102) = false := beq_false_of_ne h102
    have b103 : (no == 103) = false := beq_false_of_ne h103
    unfold spec_FieldKind
    simp only [b2, b3, b4, b7, b11, b14, b37, b38, b39, b41, b48, b49, b54, b95, b102, b103, Bool.false_eq_true, if_false]
theorem Row_s (no : Int) : spec_FieldSize no = some (fsize no) := by
  by_cases h : no ∈ noCases
  · have key : ∀ no ∈ noCases, spec_FieldSize no = some (fsize no) := by decide +kernel
    exact key no h
  · have hz := frow_none h
    unfold fsize
    rw [hz]
    unfold noCases at h
    simp only [List.mem_cons, List.not_mem_nil, or_false, not_or] at h
    obtain ⟨h2, h3, h4, h7, h11, h14, h37, h38, h39, h41, h48, h49, h54, h95, h102, h103⟩ := h
    have b2 : (no == 2) = false := beq_false_of_ne h2
    have b3 : (no == 3) = false := beq_false_of_ne h3
    have b4 : (no == 4) = false := beq_false_of_ne h4
    have b7 : (no == 7) = false := beq_false_of_ne h7
    have b11 : (no == 11) = false := beq_false_of_ne h11
    have b14 : (no == 14) = false := beq_false_of_ne h14
    have b37 : (no == 37) = false := beq_false_of_ne h37
    have b38 : (no == 38) = false := beq_false_of_ne h38
    have b39 : (no == 39) = false := beq_false_of_ne h39
    have b41 : (no == 41) = false := beq_false_of_ne h41
    have b48 : (no == 48) = false := beq_false_of_ne h48
    have b49 : (no == 49) = false := beq_false_of_ne h49
    have b54 : (no == 54) = false := beq_false_of_ne h54
    have b95 : (no == 95) = false := beq_false_of_ne h95
    have b102 : (no == 102) = false := beq_false_of_ne h102
    have b103 : (no == 103) = false := beq_false_of_ne h103
    unfold spec_FieldSize
    simp only [b2, b3, b4, b7, b11, b14, b37, b38, b39, b41, b48, b49, b54, b95, b102, b103, Bool.false_eq_true, if_false]
theorem Row_b (no : Int) : fkind no = 0 ∧ fsize no = 0 ∨ 1 ≤ fkind no ∧ fkind no ≤ 5 ∧ 2 ≤ fsize no ∧ fsize no ≤ 60 := by
  by_cases h : no ∈ noCases
  · have key : ∀ no ∈ noCases, fkind no = 0 ∧ fsize no = 0 ∨ 1 ≤ fkind no ∧ fkind no ≤ 5 ∧ 2 ≤ fsize no ∧ fsize no ≤ 60 := by decide +kernel
    exact key no h
  · have hz := frow_none h
    exact .inl ⟨by unfold fkind; rw [hz], by unfold fsize; rw [hz]⟩
def fok (no : Int) (s : ByteArray) : Bool :=
  if (fkind no == 1) = true then digB s && ((s.size : Int) == fsize no) else if (fkind no == 2) = true then prtB s && ((s.size : Int) == fsize no) else
  if (fkind no == 3) = true then digB s && decide ((s.size : Int) ≤ fsize no) else if ((fkind no == 4) || (fkind no == 5)) = true then prtB s && (decide (1 ≤ (s.size : Int)) && decide ((s.size : Int) ≤ fsize no)) else false
theorem digB_pos {s : ByteArray} (h : digB s = true) : 1 ≤ s.size := by
  unfold digB at h
  simp only [Bool.and_eq_true, decide_eq_true_eq] at h
  omega
theorem FieldOk_s (no : Int) (s : ByteArray) (hs : s.size ≤ 4000000) : spec_FieldOk no s = some (fok no s) := by
  have hd : digB s = true → decide (1 ≤ (s.size : Int)) = true := fun h => decide_eq_true (by have := digB_pos h; omega)
  unfold spec_FieldOk fok
  rw [Row_s no, Option.bind_some]
  unfold spec_FieldOk_c0
  rw [Row_k no, Option.bind_some]
  unfold spec_FieldOk_c1
  simp only [Digits_s s hs, Printable_s s hs, l01In_val, Option.bind_some]
  generalize fkind no = k
  generalize fsize no = n
  rcases tf (k == 1) with a1 | a1
  · rcases tf (digB s) with x | x <;> simp [a1, x, Lo.elim]
  · rcases tf (k == 2) with a2 | a2
    · rcases tf (prtB s) with x | x <;> simp [a1, a2, x, Lo.elim]
    · rcases tf (k == 3) with a3 | a3
      · rcases tf (digB s) with x | x
        · have := hd x
          rw [decide_eq_true_eq] at this
          simp [a1, a2, a3, x, this, Lo.elim]
        · simp [a1, a2, a3, x, Lo.elim]
      · rcases tf (k == 4) with a4 | a4
        · rcases tf (prtB s) with x | x <;> simp [a1, a2, a3, a4, x, Lo.elim]
        · rcases tf (k == 5) with a5 | a5
          · rcases tf (prtB s) with x | x <;> simp [a1, a2, a3, a4, a5, x, Lo.elim]
          · simp [a1, a2, a3, a4, a5, Lo.elim]
def msgL : Option Int → List Field → Bool
  | _, [] => true
  | p, f :: t => fok f.No f.Text && (match p with | none => true | some k => decide (k < f.No)) && msgL (some f.No) t
def msgB (m : Msg) : Bool := digB m.Mti && ((m.Mti.size : Int) == 4) && msgL none m.List
/-- What comes ahead of place v. -/
def prevNo (l : List Field) : Nat → Option Int
  | 0 => none
  | v + 1 => l[v]?.map (·.No)
theorem MsgOk_l0_s (m : Msg) (hl : m.List.length ≤ 4000000) (hm : ∀ f ∈ m.List, f.Text.size ≤ 4000000) : ∀ (n v : Nat), v ≤ m.List.length → m.List.length - v < n →
    spec_MsgOk_l0 m n (v : Int) = some (if msgL (prevNo m.List v) (m.List.drop v) = true then .out () else .ret ())
  | 0, v, h, hn => by omega
  | n + 1, v, h, hn => by
    unfold spec_MsgOk_l0
    unfold spec_MsgOk_c3
    by_cases hv : v < m.List.length
    · have f1 := FieldOk_s m.List[v].No m.List[v].Text (hm _ (List.getElem_mem hv))
      have hi' : i64 ((v : Int) + 1) = ((v + 1 : Nat) : Int) := by rw [i64_of (by omega) (by omega)]; omega
      have i1 := MsgOk_l0_s m hl hm n (v + 1) (by omega) (by omega)
      have hp : prevNo m.List (v + 1) = some m.List[v].No := by simp [prevNo, hv]
      rw [hp] at i1
      have hg : m.List[((v : Int)).toNat]? = some m.List[v] := by rw [Int.toNat_natCast]; exact List.getElem?_eq_getElem hv
      unfold spec_MsgOk_c4
      rw [List.drop_eq_getElem_cons hv]
      simp only [show (v : Int) < (m.List.length : Int) by omega, show (0 : Int) ≤ (v : Int) by omega, decide_true, if_true, Option.bind_some, Lo.elim, hg, f1, hi', i1, msgL]
      rcases tf (fok m.List[v].No m.List[v].Text) with x | x
      · cases v with
        | zero => simp [x, prevNo]
        | succ u =>
          have hu : u < m.List.length := by omega
          have h1 : i64 (((u + 1 : Nat) : Int) - 1) = (u : Int) := by rw [i64_of (by omega) (by omega)]; omega
          have hg1 : m.List[((u : Int)).toNat]? = some m.List[u] := by rw [Int.toNat_natCast]; exact List.getElem?_eq_getElem hu
          have hp1 : prevNo m.List (u + 1) = some m.List[u].No := by simp [prevNo, hu]
          simp only [x, if_true, show (0 : Int) < ((u + 1 : Nat) : Int) by omega, decide_true, h1, show (0 : Int) ≤ (u : Int) by omega, hg1, Option.bind_some, hp1]
          by_cases q : m.List[u + 1].No ≤ m.List[u].No
          · simp [q, show ¬ m.List[u].No < m.List[u + 1].No by omega]
          · simp [q, show m.List[u].No < m.List[u + 1].No by omega]
      · simp [x]
    · have : m.List.drop v = [] := List.drop_eq_nil_of_le (by omega)
      rw [this]
      simp [show ¬ (v : Int) < (m.List.length : Int) by omega, Lo.elim, msgL]
theorem MsgOk_s (m : Msg) (h0 : m.Mti.size ≤ 4000000) (hl : m.List.length ≤ 4000000) (hm : ∀ f ∈ m.List, f.Text.size ≤ 4000000) : spec_MsgOk m = some (msgB m) := by
  have e1 : spec_MsgOk_l0 m FUEL 0 = some (if msgL none m.List = true then .out () else .ret ()) := MsgOk_l0_s m hl hm FUEL 0 (by omega) (by unfold FUEL; omega)
  unfold spec_MsgOk msgB spec_MsgOk_c0
  rw [Digits_s m.Mti h0, e1]
  simp only [Option.bind_some]
  rcases tf (digB m.Mti) with x | x <;> rcases tf ((m.Mti.size : Int) == 4) with y | y <;> rcases tf (msgL none m.List) with z | z <;> simp [x, y, z, Lo.elim, bne]
theorem index_one (c b : UInt8) (l : List UInt8) : Lib.index (b :: l) [c] = if b = c then 0 else if Lib.index l [c] = -1 then -1 else Lib.index l [c] + 1 := by
  rw [Lib.index]
  by_cases h : b = c
  · subst h; simp
  · have : ¬ c = b := fun e => h e.symm
    simp [h, this]
theorem split_one (c : UInt8) : ∀ l : List UInt8, (c ∉ l ∧ Lib.index l [c] = -1) ∨ ∃ p t, l = p ++ c :: t ∧ c ∉ p ∧ Lib.index l [c] = (p.length : Nat)
  | [] => .inl ⟨by simp, rfl⟩
  | b :: l => by
    rw [index_one]
    by_cases h : b = c
    · subst h; exact .inr ⟨[], l, rfl, by simp, by simp⟩
    · rcases split_one c l with ⟨h1, h2⟩ | ⟨p, t, h1, h2, h3⟩
      · exact .inl ⟨by simp [h1, Ne.symm h], by simp [h, h2]⟩
      · refine .inr ⟨b :: p, t, by rw [h1]; rfl, by simp [h2, Ne.symm h], ?_⟩
        rw [h3]
        simp only [h, if_false, List.length_cons]
        rw [if_neg (by omega)]
        omega
theorem digI_iff {x : Int} : digI x = true ↔ 48 ≤ x ∧ x ≤ 57 := by unfold digI; simp
theorem bits_arith {v : Nat} (h1 : 1 ≤ v) (h2 : v ≤ 64) : i64 ((v : Int) - 1) = ((v - 1 : Nat) : Int) ∧ Int.tdiv ((v - 1 : Nat) : Int) 8 = (((v - 1) / 8 : Nat) : Int) ∧ Int.tmod ((v - 1 : Nat) : Int) 8 = (((v - 1) % 8 : Nat) : Int) ∧ i64 (((v - 1) / 8 : Nat) : Int) = (((v - 1) / 8 : Nat) : Int) ∧ i64 (7 - (((v - 1) % 8 : Nat) : Int)) = 7 - (((v - 1) % 8 : Nat) : Int) := by
  refine ⟨by rw [i64_of (by omega) (by omega)]; omega, ?_, ?_, i64_of (by omega) (by omega), i64_of (by omega) (by omega)⟩
  · rw [Int.tdiv_eq_ediv_of_nonneg (by omega)]; omega
  · rw [Int.tmod_eq_emod_of_nonneg (by omega)]; omega
theorem kinds (no : Int) : fkind no = 0 ∨ fkind no = 1 ∨ fkind no = 2 ∨ fkind no = 3 ∨ fkind no = 4 ∨ fkind no = 5 := by
  have h := Row_b no
  omega
def pcs (c : UInt8) : List UInt8 → List (List UInt8)
  | [] => [[]]
  | b :: t => if b = c then [] :: pcs c t else match pcs c t with
    | [] => [[b]]
    | p :: r => (b :: p) :: r
theorem pcs_none {c : UInt8} : ∀ {l : List UInt8}, c ∉ l → pcs c l = [l]
  | [], _ => rfl
  | b :: t, h => by
    have h1 : ¬ b = c := fun e => h (by rw [e]; simp)
    have h2 : c ∉ t := fun e => h (List.mem_cons_of_mem _ e)
    rw [pcs, if_neg h1, pcs_none h2]
theorem pcs_hit {c : UInt8} (t : List UInt8) : ∀ {p : List UInt8}, c ∉ p → pcs c (p ++ c :: t) = p :: pcs c t
  | [], _ => by rw [List.nil_append, pcs, if_pos rfl]
  | b :: p, h => by
    have h1 : ¬ b = c := fun e => h (by rw [e]; simp)
    have h2 : c ∉ p := fun e => h (List.mem_cons_of_mem _ e)
    rw [List.cons_append, pcs, if_neg h1, pcs_hit t h2]
theorem pcs_splitK (c : UInt8) : ∀ (n : Nat) (l : List UInt8), l.length ≤ n → Lib.splitK [c] 0 (Lib.count l [c]) l = pcs c l
  | n, l, hn => by
    rcases split_one c l with ⟨h1, h2⟩ | ⟨p, t, h1, h2, h3⟩
    · rw [Lib.count_miss h2, pcs_none h1]; rfl
    · have hl : l.length = p.length + 1 + t.length := by rw [h1]; simp; omega
      cases n with
      | zero => omega
      | succ n =>
        have hd : l.drop (p.length + [c].length) = t := by
          rw [h1, show p ++ c :: t = (p ++ [c]) ++ t by simp]
          exact List.drop_left' (by simp)
        have ht : l.take (p.length + 0) = p := by rw [h1]; exact List.take_left' (by simp)
        have hm : ¬ (Lib.index l [c] == -1) = true := fun e => by have := beq_iff_eq.1 e; omega
        have he : (Lib.index l [c]).toNat = p.length := by omega
        rw [Lib.count_hit (by simp) h3, Nat.add_comm, Lib.splitK, if_neg hm, he, hd, ht, pcs_splitK c n t (by omega)]
        conv => rhs; rw [h1, pcs_hit t h2]
def mkB (l : List UInt8) : ByteArray := ⟨l.toArray⟩
theorem mkB_data (s : ByteArray) : mkB s.data.toList = s := by rcases s with ⟨⟨l⟩⟩; rfl
theorem mkB_size (l : List UInt8) : (mkB l).size = l.length := rfl
def pcsB (c : UInt8) (s : ByteArray) : List ByteArray := (pcs c s.data.toList).map mkB
theorem splitP_val (c : UInt8) (s : ByteArray) : splitP s (bs [c]) = pcsB c s := by
  unfold splitP pcsB
  have h : (Lib.splitB (bs [c]) 0 (Lib.countB s (bs [c])) s).map (·.data.toList) = pcs c s.data.toList := by
    rw [Lib.splitB_data]
    exact pcs_splitK c _ _ (Nat.le_refl _)
  rw [← h, List.map_map]
  conv => lhs; rw [← List.map_id (Lib.splitB (bs [c]) 0 (Lib.countB s (bs [c])) s)]
  apply List.map_congr_left
  intro x _
  exact (mkB_data x).symm
theorem pcs_wt (c : UInt8) : ∀ (n : Nat) (l : List UInt8), l.length ≤ n → wtL (fun s : ByteArray => s.size) ((pcs c l).map mkB) ≤ l.length + 1
  | n, l, hn => by
    rcases split_one c l with ⟨h1, h2⟩ | ⟨p, t, h1, h2, h3⟩
    · rw [pcs_none h1]
      simp only [List.map_cons, List.map_nil, wtL, mkB_size]; omega
    · have hl : l.length = p.length + 1 + t.length := by rw [h1]; simp; omega
      cases n with
      | zero => omega
      | succ n =>
        have := pcs_wt c n t (by omega)
        conv => lhs; rw [h1, pcs_hit t h2]
        simp only [List.map_cons, wtL, mkB_size]; omega
theorem pcsB_wt (c : UInt8) (s : ByteArray) : wtL (fun s : ByteArray => s.size) (pcsB c s) ≤ s.size + 1 := by
  have := pcs_wt c _ s.data.toList (Nat.le_refl _)
  rw [← ba_size] at this
  exact this
theorem strings_Split_val (s : ByteArray) (hs : s.size ≤ 4000000) (c : UInt8) : strings_Split s (bs [c]) = some (pcsB c s) := by
  have h1 : (bs [c]).size = 1 := rfl
  have h2 := pcsB_wt c s
  have h3 := wtL_len (fun s : ByteArray => s.size) (pcsB c s)
  unfold strings_Split
  rw [splitP_val, h1, if_pos]
  simp only [Bool.and_eq_true, decide_eq_true_eq]
  omega
/-- A text cut at its first blank. -/
theorem Cut_one (s : ByteArray) (hs : s.size ≤ 4000000) : strings_Cut s (bs [32]) = some (cutP s (bs [32])) := by
  unfold strings_Cut
  rw [if_pos (decide_eq_true (by omega))]
theorem cutP_hit {s : ByteArray} {p t : List UInt8} (h : s.data.toList = p ++ 32 :: t) (hp : (32 : UInt8) ∉ p) : cutP s (bs [32]) = (mkB p, mkB t, true) := by
  have hi : Lib.index s.data.toList (bs [32]).data.toList = (p.length : Nat) := by
    rcases split_one 32 s.data.toList with ⟨h1, h2⟩ | ⟨q, u, h1, h2, h3⟩
    · exact absurd (by rw [h]; simp) h1
    · have : pcs 32 s.data.toList = p :: pcs 32 t := by rw [h, pcs_hit t hp]
      rw [h1, pcs_hit u h2] at this
      simp only [List.cons.injEq] at this
      rw [← this.1]; exact h3
  unfold cutP Lib.cut
  have e1 : s.data.toList.take p.length = p := by rw [h]; exact List.take_left' rfl
  have e2 : s.data.toList.drop (p.length + 1) = t := by
    rw [h, show p ++ 32 :: t = (p ++ [32]) ++ t by simp]
    exact List.drop_left' (by simp)
  simp only [hi, Int.natCast_nonneg, if_true, Int.toNat_natCast, show (bs [32]).data.toList.length = 1 from rfl, e1, e2]
  rfl
def tnum (s : ByteArray) : Int × Bool := match Lib.atoiAll s.data.toList with
  | .ok v => if (money v && (numT v == s)) = true then (v, true) else (0, false)
  | _ => (0, false)
theorem impl_TextNum_val (s : ByteArray) (hs : s.size ≤ 4000000) : impl_TextNum s = some (tnum s) := by
  unfold impl_TextNum tnum
  rw [if_pos (decide_eq_true (by omega))]
  cases hv : Lib.atoiAll s.data.toList with
  | ok v =>
    simp only [isMoney_val, Option.bind_some]
    rcases tf (money v) with q | q
    · simp only [q, if_true, impl_NumText_val, Option.bind_some, Bool.true_and]
      rcases tf (numT v == s) with p | p <;> simp only [p, if_true, Bool.false_eq_true, if_false]
    · simp only [q, Bool.false_eq_true, if_false, Bool.false_and]
  | «syntax» => rfl
  | range => rfl
def hx (x : Int) : Int := idxbP hexS x
theorem fok_kinds {no : Int} {s : ByteArray} (h : fok no s = true) : 1 ≤ s.size ∧ s.size ≤ 60 ∧ fkind no ≠ 0 ∧ ((fkind no = 1 ∨ fkind no = 3) → digB s = true ∧ (fkind no = 1 → (s.size : Int) = fsize no) ∧ (s.size : Int) ≤ fsize no) ∧
    ((fkind no = 2 ∨ fkind no = 4 ∨ fkind no = 5) → prtB s = true ∧ (fkind no = 2 → (s.size : Int) = fsize no) ∧ (s.size : Int) ≤ fsize no) ∧ (fkind no = 1 → s.size ≤ 12) ∧ (fkind no = 3 → s.size ≤ 19) := by
  have hb := Row_b no
  have h12 : fkind no = 1 → fsize no ≤ 12 := fun hk => by
    by_cases hm : no ∈ noCases
    · have key : ∀ n ∈ noCases, fkind n = 1 → fsize n ≤ 12 := by decide +kernel
      exact key no hm hk
    · have := frow_none hm
      unfold fkind at hk
      rw [this] at hk
      cases hk
  have h19 : fkind no = 3 → fsize no ≤ 19 := fun hk => by
    by_cases hm : no ∈ noCases
    · have key : ∀ n ∈ noCases, fkind n = 3 → fsize n ≤ 19 := by decide +kernel
      exact key no hm hk
    · have := frow_none hm
      unfold fkind at hk
      rw [this] at hk
      cases hk
  unfold fok at h
  rcases kinds no with k | k | k | k | k | k
  · rw [k] at h
    exact absurd h (by simp)
  · rw [k] at h
    simp at h
    have := digB_pos h.1
    refine ⟨by omega, by omega, by omega, fun _ => ⟨h.1, fun _ => h.2, by omega⟩, fun hh => by omega, fun _ => by have := h12 k; omega, fun hh => by omega⟩
  · rw [k] at h
    simp at h
    refine ⟨by omega, by omega, by omega, fun hh => by omega, fun _ => ⟨h.1, fun _ => h.2, by omega⟩, fun hh => by omega, fun hh => by omega⟩
  · rw [k] at h
    simp at h
    have := digB_pos h.1
    refine ⟨by omega, by omega, by omega, fun _ => ⟨h.1, fun hh => by omega, h.2⟩, fun hh => by omega, fun hh => by omega, fun _ => by have := h19 k; omega⟩
  · rw [k] at h
    simp at h
    refine ⟨by omega, by omega, by omega, fun hh => by omega, fun _ => ⟨h.1, fun hh => by omega, h.2.2⟩, fun hh => by omega, fun hh => by omega⟩
  · rw [k] at h
    simp at h
    refine ⟨by omega, by omega, by omega, fun hh => by omega, fun _ => ⟨h.1, fun hh => by omega, h.2.2⟩, fun hh => by omega, fun hh => by omega⟩
def ascI (v : Int) : List Int → Prop
  | [] => True
  | x :: t => v ≤ x ∧ ascI (x + 1) t
theorem ascI_ge : ∀ {l : List Int} {v : Int}, ascI v l → ∀ x ∈ l, v ≤ x
  | x :: t, v, h, y, hy => by
    rcases List.mem_cons.1 hy with rfl | hy
    · exact h.1
    · have := ascI_ge h.2 y hy
      have := h.1
      omega
theorem bit_or (b : Int) (hb : 0 ≤ b ∧ b ≤ 255) (i j : Nat) (hi : i < 8) (hj : j < 8) : (bor .u8 b (bshr .u8 128 (i : Int)) / 2 ^ (7 - j) % 2 == 1) = (decide (i = j) || (b / 2 ^ (7 - j) % 2 == 1)) ∧ 0 ≤ bor .u8 b (bshr .u8 128 (i : Int)) ∧ bor .u8 b (bshr .u8 128 (i : Int)) ≤ 255 := by
  have key : ∀ (n : Fin 256) (i j : Fin 8), (bor .u8 ((n.val : Nat) : Int) (bshr .u8 128 ((i.val : Nat) : Int)) / 2 ^ (7 - j.val) % 2 == 1) = (decide (i.val = j.val) || (((n.val : Nat) : Int) / 2 ^ (7 - j.val) % 2 == 1)) ∧ 0 ≤ bor .u8 ((n.val : Nat) : Int) (bshr .u8 128 ((i.val : Nat) : Int)) ∧ bor .u8 ((n.val : Nat) : Int) (bshr .u8 128 ((i.val : Nat) : Int)) ≤ 255 := by decide +kernel
  have := key ⟨b.toNat, by omega⟩ ⟨i, hi⟩ ⟨j, hj⟩
  have e : ((b.toNat : Nat) : Int) = b := by omega
  simpa only [e] using this
/-- The fields' numbers rise. -/
theorem msgL_asc : ∀ {l : List Field} {p : Option Int}, msgL p l = true → (∀ f ∈ l, fok f.No f.Text = true) ∧ ascI (match p with | none => 0 | some k => k + 1) (l.map (·.No))
  | [], p, _ => ⟨fun _ h => (by cases h), trivial⟩
  | f :: t, p, h => by
    unfold msgL at h
    simp only [Bool.and_eq_true] at h
    obtain ⟨⟨h1, h2⟩, h3⟩ := h
    obtain ⟨i1, i2⟩ := msgL_asc h3
    have hk := (fok_kinds h1).2.2.1
    refine ⟨fun g hg => ?_, ?_⟩
    · rcases List.mem_cons.1 hg with rfl | hg
      · exact h1
      · exact i1 g hg
    · rw [List.map_cons]
      refine ⟨?_, i2⟩
      cases p with
      | none =>
        have : 2 ≤ f.No := by
          by_cases hm : f.No ∈ noCases
          · have key : ∀ n ∈ noCases, 2 ≤ n := by decide
            exact key _ hm
          · have := frow_none hm
            unfold fkind at hk
            rw [this] at hk
            exact absurd rfl hk
        show (0 : Int) ≤ f.No
        omega
      | some k => 
        simp only [decide_eq_true_eq] at h2
        show k + 1 ≤ f.No
        omega
theorem Row_b3 (no : Int) (h : no ∈ noCases) : fkind no ≠ 0 := by
  have key : ∀ n ∈ noCases, fkind n ≠ 0 := by decide
  exact key no h
def okc (k x : Int) : Bool := if ((k == 1) || (k == 3)) = true then digI x else prtI x
theorem text_loop {L : Nat → List Int → Int → Int → ByteArray → Option (ByteArray × List Int × Int × Int)} (k : Int) (T : Nat) (hT : T ≤ 1000) (h0 : ∀ n b i h w, L (n + 1) b i h w =
   if (decide ((w.size : Int) < (T : Int))) = true then
   if (k == 1) = true then
   (spec_l01Below (l01Cur.mk b i h) 10).bind fun r5 =>
   if (decide (w.size + (bstr [u8 (i64 (48 + r5.1))]).size ≤ 9223372036854775807)) = true then
   L n r5.2.b r5.2.i r5.2.h (w ++ (bstr [u8 (i64 (48 + r5.1))]))
   else none
   else
   if (k == 3) = true then
   (spec_l01Below (l01Cur.mk b i h) 10).bind fun r6 =>
   if (decide (w.size + (bstr [u8 (i64 (48 + r6.1))]).size ≤ 9223372036854775807)) = true then
   L n r6.2.b r6.2.i r6.2.h (w ++ (bstr [u8 (i64 (48 + r6.1))]))
   else none
   else
   (spec_l01Str (l01Cur.mk b i h) [bs [97], bs [98], bs [55], bs [32], bs [126]]).bind fun r7 =>
   if (decide (w.size + r7.1.size ≤ 9223372036854775807)) = true then
   L n r7.2.1.b r7.2.1.i r7.2.1.h (w ++ r7.1)
   else none
   else
   some (w, b, i, h)) : ∀ (n : Nat) (b : List Int) (i h : Int) (w : ByteArray), cur (l01Cur.mk b i h) → w.size ≤ T → T - w.size < n → (∀ x ∈ sbytes w, okc k x = true) → ∃ y b' i' h', L n b i h w = some (y, b', i', h') ∧ cur (l01Cur.mk b' i' h') ∧ y.size = T ∧ ∀ x ∈ sbytes y, okc k x = true
  | 0, b, i, h, w, _, _, hf, _ => by omega
  | n + 1, b, i, h, w, hc, hw, hf, hk => by
    rw [h0]
    by_cases hs : w.size < T
    · have step : ∀ (c : l01Cur) (z : ByteArray), cur c → z.size = 1 → (∀ x ∈ sbytes z, okc k x = true) → ∃ y b' i' h', L n c.b c.i c.h (w ++ z) = some (y, b', i', h') ∧ cur (l01Cur.mk b' i' h') ∧ y.size = T ∧ ∀ x ∈ sbytes y, okc k x = true := fun c z hc hz hx =>
        text_loop k T hT h0 n c.b c.i c.h (w ++ z) hc (by rw [size_app]; omega) (by rw [size_app]; omega) (fun x hx2 => by
          rw [sbytes_app] at hx2
          rcases List.mem_append.1 hx2 with h | h
          · exact hk x h
          · exact hx x h)
      simp only [show (w.size : Int) < (T : Int) by omega, decide_true, if_true]
      obtain ⟨r, c1, e1, k1, a1, b1⟩ := Below_tot _ 10 hc
      have b1 := b1 (by omega)
      have hdig : (bstr [u8 (i64 (48 + r))]).size = 1 := rfl
      have hcc : w.size + (bstr [u8 (i64 (48 + r))]).size ≤ 9223372036854775807 := by rw [hdig]; omega
      have hds : sbytes (bstr [u8 (i64 (48 + r))]) = [48 + r] := by
        rw [i64_of (by omega) (by omega), u8_of (by omega) (by omega)]
        exact sbytes_bstr (fun x hx => by simp at hx; omega)
      rcases tf (k == 1) with q1 | q1
      · simp only [q1, if_true, e1, Option.bind_some, hcc, decide_true]
        exact step c1 _ k1 rfl (fun x hx => by
          rw [hds] at hx
          simp at hx
          unfold okc
          rw [if_pos (by rw [q1]; rfl)]
          exact digI_iff.2 (by omega))
      · rcases tf (k == 3) with q3 | q3
        · simp only [q1, q3, if_true, Bool.false_eq_true, if_false, e1, Option.bind_some, hcc, decide_true]
          exact step c1 _ k1 rfl (fun x hx => by
            rw [hds] at hx
            simp at hx
            unfold okc
            rw [if_pos (by rw [q3, Bool.or_true])]
            exact digI_iff.2 (by omega))
        · obtain ⟨s, c2, e2, k2, m2⟩ := Str_tot _ [bs [97], bs [98], bs [55], bs [32], bs [126]] hc (by decide) (by decide)
          have hz : s.size = 1 ∧ ∀ x ∈ sbytes s, prtI x = true := by
            have key : ∀ s ∈ [bs [97], bs [98], bs [55], bs [32], bs [126]], s.size = 1 ∧ ∀ x ∈ sbytes s, prtI x = true := by decide +kernel
            exact key s m2
          have hcs : w.size + s.size ≤ 9223372036854775807 := by omega
          simp only [q1, q3, Bool.false_eq_true, if_false, e2, Option.bind_some, hcs, decide_true, if_true]
          exact step c2 s k2 hz.1 (fun x hx => by
            unfold okc
            rw [if_neg (by rw [q1, q3]; simp)]
            exact hz.2 x hx)
    · simp only [show ¬ (w.size : Int) < (T : Int) by omega, decide_false, Bool.false_eq_true, if_false]
      exact ⟨w, b, i, h, rfl, hc, by omega, hk⟩
theorem l03Text_tot (c : l01Cur) (no : Int) (h : cur c) (hn : fkind no ≠ 0) : ∃ s c', spec_l03Text c no = some (s, c') ∧ cur c' ∧ fok no s = true := by
  have hb := Row_b no
  have hF : ∀ (s : ByteArray) (T : Nat), 1 ≤ T → (T : Int) ≤ fsize no → (fkind no = 1 ∨ fkind no = 2 → (T : Int) = fsize no) → s.size = T → (∀ x ∈ sbytes s, okc (fkind no) x = true) → fok no s = true := fun s T h1 h2 h3 h4 h5 => by
    unfold fok digB prtB
    rcases kinds no with k | k | k | k | k | k
    · exact absurd k hn
    · rw [k] at h5 ⊢
      have := h3 (.inl k)
      simp only [show ((1 : Int) == 1) = true from rfl, if_true]
      rw [h4, decide_eq_true (show 0 < T by omega), show (sbytes s).all digI = true from List.all_eq_true.2 (fun x hx => h5 x hx), ← this]
      simp
    · rw [k] at h5 ⊢
      have := h3 (.inr k)
      simp only [show ((2 : Int) == 1) = false from rfl, show ((2 : Int) == 2) = true from rfl, if_true, Bool.false_eq_true, if_false]
      rw [h4, show (sbytes s).all prtI = true from List.all_eq_true.2 (fun x hx => h5 x hx), ← this]
      simp
    · rw [k] at h5 ⊢
      simp only [show ((3 : Int) == 1) = false from rfl, show ((3 : Int) == 2) = false from rfl, show ((3 : Int) == 3) = true from rfl, if_true, Bool.false_eq_true, if_false]
      rw [h4, decide_eq_true (show 0 < T by omega), show (sbytes s).all digI = true from List.all_eq_true.2 (fun x hx => h5 x hx), decide_eq_true h2]
      rfl
    · rw [k] at h5 ⊢
      simp only [show ((4 : Int) == 1) = false from rfl, show ((4 : Int) == 2) = false from rfl, show ((4 : Int) == 3) = false from rfl, show ((4 : Int) == 4) = true from rfl, Bool.true_or, if_true, Bool.false_eq_true, if_false]
      rw [h4, show (sbytes s).all prtI = true from List.all_eq_true.2 (fun x hx => h5 x hx), decide_eq_true h2, decide_eq_true (show (1 : Int) ≤ (T : Int) by omega)]
      rfl
    · rw [k] at h5 ⊢
      simp only [show ((5 : Int) == 1) = false from rfl, show ((5 : Int) == 2) = false from rfl, show ((5 : Int) == 3) = false from rfl, show ((5 : Int) == 4) = false from rfl, show ((5 : Int) == 5) = true from rfl, Bool.false_or, if_true, Bool.false_eq_true, if_false]
      rw [h4, show (sbytes s).all prtI = true from List.all_eq_true.2 (fun x hx => h5 x hx), decide_eq_true h2, decide_eq_true (show (1 : Int) ≤ (T : Int) by omega)]
      rfl
  have he : ∀ x ∈ sbytes (bs []), okc (fkind no) x = true := fun x hx => by cases hx
  unfold spec_l03Text
  rw [Row_s, Row_k]
  simp only [Option.bind_some]
  by_cases hv : fkind no = 3 ∨ fkind no = 4 ∨ fkind no = 5
  · have hw : ∃ w, spec_l03Width (fkind no) = some w ∧ 0 < w := by
      rcases hv with k | k | k <;> rw [k]
      · exact ⟨2, rfl, by decide⟩
      · exact ⟨2, rfl, by decide⟩
      · exact ⟨3, rfl, by decide⟩
    obtain ⟨w, w1, w2⟩ := hw
    obtain ⟨r, c1, e1, k1, a1, b1⟩ := Below_tot c (fsize no) h
    have b1 := b1 (by omega)
    obtain ⟨T, hT⟩ : ∃ T : Nat, 1 + r = (T : Int) := ⟨(1 + r).toNat, by omega⟩
    have eT : i64 (1 + r) = (T : Int) := by rw [i64_of (by omega) (by omega), hT]
    obtain ⟨y, b', i', h', y1, y2, y3, y4⟩ := text_loop (L := spec_l03Text_l0 (fkind no) (r, c1)) (fkind no) T (by omega) (fun n b i h w => by rw [← eT]; rfl) FUEL c1.b c1.i c1.h (bs []) k1 (by show 0 ≤ T; omega) (by show T - 0 < FUEL; unfold FUEL; omega) he
    simp only [w1, w2, Option.bind_some, decide_true, if_true, e1, y1]
    exact ⟨y, _, rfl, y2, hF y T (by omega) (by omega) (fun hh => by omega) y3 y4⟩
  · have w1 : spec_l03Width (fkind no) = some 0 := by
      rcases kinds no with k | k | k | k | k | k
      · exact absurd k hn
      · rw [k]; rfl
      · rw [k]; rfl
      · exact absurd (.inl k) hv
      · exact absurd (.inr (.inl k)) hv
      · exact absurd (.inr (.inr k)) hv
    obtain ⟨T, hT⟩ : ∃ T : Nat, fsize no = (T : Int) := ⟨(fsize no).toNat, by omega⟩
    obtain ⟨y, b', i', h', y1, y2, y3, y4⟩ := text_loop (L := spec_l03Text_l1 (fsize no) (fkind no)) (fkind no) T (by omega) (fun n b i h w => by rw [← hT]; rfl) FUEL c.b c.i c.h (bs []) h (by show 0 ≤ T; omega) (by show T - 0 < FUEL; unfold FUEL; omega) he
    simp only [w1, Option.bind_some, show ¬ (0 : Int) < 0 by omega, decide_false, Bool.false_eq_true, if_false, y1]
    exact ⟨y, _, rfl, y2, hF y T (by omega) (by omega) (fun _ => hT.symm) y3 y4⟩
theorem FieldNos_val : spec_FieldNos = some noCases := by decide +kernel
theorem msgL_snoc {f : Field} (hf : fok f.No f.Text = true) : ∀ {l : List Field} {p : Option Int}, msgL p l = true → (∀ g ∈ l, g.No < f.No) → (∀ k, p = some k → k < f.No) → msgL p (l ++ [f]) = true
  | [], p, _, _, hp => by
    rw [List.nil_append]
    unfold msgL
    cases p with
    | none => simp [hf, msgL]
    | some k => simp [hf, hp k rfl, msgL]
  | g :: t, p, h, hl, hp => by
    rw [List.cons_append]
    unfold msgL at h ⊢
    simp only [Bool.and_eq_true] at h ⊢
    exact ⟨h.1, msgL_snoc hf h.2 (fun z hz => hl z (by simp [hz])) (fun k hk => by
      have := hl g (by simp)
      injection hk with hk
      omega)⟩
theorem l04Draw_l0_tot (r1 : ByteArray × l01Cur × List ByteArray) (r2 : List Int) : ∀ (t : List Int) (b : List Int) (i h : Int) (w : List Field), cur (l01Cur.mk b i h) → (∀ x ∈ t, x ∈ noCases) → t.Pairwise (fun x y => x < y) → msgL none w = true → (∀ g ∈ w, ∀ x ∈ t, g.No < x) → w.length + t.length ≤ 1000 →
    ∃ b' i' h' y, spec_l04Draw_l0 r1 r2 t b i h w = some (b', i', h', y) ∧ cur (l01Cur.mk b' i' h') ∧ msgL none y = true ∧ y.length ≤ w.length + t.length
  | [], b, i, h, w, hc, _, _, hm, _, _ => ⟨b, i, h, w, rfl, hc, hm, by simp⟩
  | x :: t, b, i, h, w, hc, hx, hp, hm, hl, hw => by
    obtain ⟨q, c1, e1, k1⟩ := Once_tot _ 3 hc
    have hk := Row_b3 x (hx x (by simp))
    have hp2 := List.pairwise_cons.1 hp
    simp only [List.length_cons] at hw
    unfold spec_l04Draw_l0
    rw [e1]
    simp only [Option.bind_some]
    cases q with
    | false =>
      obtain ⟨b', i', h', y, y1, y2, y3, y4⟩ := l04Draw_l0_tot r1 r2 t c1.b c1.i c1.h w k1 (fun z hz => hx z (by simp [hz])) hp2.2 hm (fun g hg z hz => hl g hg z (by simp [hz])) (by omega)
      exact ⟨b', i', h', y, y1, y2, y3, by simp only [List.length_cons]; omega⟩
    | true =>
      obtain ⟨s, c2, e2, k2, fo⟩ := l03Text_tot c1 x k1 hk
      simp only [if_true, e2, Option.bind_some, capOk_of (show w.length + 1 ≤ 274877906944 by omega)]
      obtain ⟨b', i', h', y, y1, y2, y3, y4⟩ := l04Draw_l0_tot r1 r2 t c2.b c2.i c2.h (w ++ [⟨x, s⟩]) k2 (fun z hz => hx z (by simp [hz])) hp2.2
        (msgL_snoc (f := ⟨x, s⟩) fo hm (fun g hg => hl g hg x (by simp)) (fun k hk => by cases hk)) (fun g hg z hz => by
          rcases List.mem_append.1 hg with hg | hg
          · exact hl g hg z (by simp [hz])
          · simp only [List.mem_singleton] at hg
            subst hg
            exact hp2.1 z hz) (by simp; omega)
      exact ⟨b', i', h', y, y1, y2, y3, by simp only [List.length_append, List.length_cons, List.length_nil] at y4 ⊢; omega⟩
def mtiL : List ByteArray := [bs [48, 49, 48, 48], bs [48, 50, 48, 48], bs [48, 50, 50, 48], bs [48, 49, 49, 48], bs [48, 56, 48, 48], bs [49, 50, 51, 52], bs [48, 48, 48, 48]]
theorem l04Draw_tot (c : l01Cur) (h : cur c) : ∃ m c', spec_l04Draw c = some (m, c') ∧ cur c' ∧ msgB m = true ∧ m.Mti ∈ mtiL ∧ m.List.length ≤ 16 := by
  obtain ⟨s, c1, e1, k1, m1⟩ := Str_tot c mtiL h (by decide) (by decide)
  have hp : noCases.Pairwise (fun x y => x < y) := by decide
  obtain ⟨b', i', h', y, y1, y2, y3, y4⟩ := l04Draw_l0_tot (s, c1, mtiL) noCases noCases c1.b c1.i c1.h [] k1 (fun x hx => hx) hp rfl (fun g hg => by cases hg) (by decide)
  have hmti : ∀ s ∈ mtiL, digB s = true ∧ s.size = 4 := by decide +kernel
  obtain ⟨d1, d2⟩ := hmti s m1
  unfold spec_l04Draw
  show ∃ m c', ((spec_l01Str c mtiL).bind _) = _ ∧ _
  rw [e1, Option.bind_some, FieldNos_val, Option.bind_some, if_pos (show capOk noCases.length = true from rfl), y1]
  have hn : noCases.length = 16 := rfl
  have y5 : y.length ≤ 16 := by simp only [List.length_nil] at y4; omega
  refine ⟨⟨s, y⟩, _, rfl, y2, ?_, m1, y5⟩
  unfold msgB
  rw [y3, d1, d2]; rfl
def opB (op : Int) : Bool := decide (1 ≤ op) && decide (op ≤ 8)
theorem op_cases {op : Int} (h : opB op = true) : op = 1 ∨ op = 2 ∨ op = 3 ∨ op = 4 ∨ op = 5 ∨ op = 6 ∨ op = 7 ∨ op = 8 := by
  unfold opB at h
  simp only [Bool.and_eq_true, decide_eq_true_eq] at h
  omega
def mtiT (op : Int) : ByteArray := if opB op = true then [bs [], bs [48, 49, 48, 48], bs [48, 49, 48, 48], bs [48, 50, 50, 48], bs [48, 50, 50, 48], bs [48, 50, 50, 48], bs [48, 50, 48, 48], bs [48, 49, 48, 48], bs [48, 50, 48, 48]].getD op.toNat (bs []) else bs []
def holdB (op : Int) : Bool := opB op && decide (op < 7)
def amtB (op : Int) : Bool := decide (1 ≤ op) && decide (op ≤ 4)
theorem l11Op_val (op : Int) : spec_l11Op op = some (opB op) := by unfold spec_l11Op; rw [l01In_val]; rfl
theorem l11Hold_val (op : Int) : spec_l11Hold op = some (holdB op) := by
  unfold spec_l11Hold holdB
  rw [l11Op_val]
  rcases tf (opB op) with h | h <;> simp [h]
theorem l11Amount_val (op : Int) : spec_l11Amount op = some (amtB op) := by unfold spec_l11Amount; rw [l01In_val]; rfl
theorem spec_OpMti_val (op : Int) : spec_OpMti op = some (mtiT op) := by
  rcases tf (opB op) with h | h
  · rcases op_cases h with rfl | rfl | rfl | rfl | rfl | rfl | rfl | rfl <;> decide +kernel
  · unfold spec_OpMti mtiT
    rw [l11Op_val, h]
    rfl
theorem isWide6_val (s : ByteArray) (hs : s.size ≤ 4000000) (n : Int) : ∃ d, spec_Digits s = some d ∧ impl_isWide s n = some (d && !((s.size : Int) != n)) := by
  obtain ⟨d, e1, e2, _⟩ := Digits_tot s hs
  refine ⟨d, e1, ?_⟩
  unfold impl_isWide
  simp only [e2, Option.bind_some]
  rcases tf d with h | h
  · rcases tf ((s.size : Int) == n) with q | q <;> simp [h, q, bne]
  · simp [h]
/-- What makes a request valid. -/
structure RqB where
  a : Bool
  d : Bool
  h : Bool
  o : Bool
def rqOk (q : Req) (r : RqB) : Bool :=
  (opB q.Op && ((q.Mti == mtiT q.Op) && (r.a && (r.d && !((q.Trace.size : Int) != 6))))) &&
  ((if holdB q.Op = true then r.h else (q.Hold == bs [])) && ((if amtB q.Op = true then (decide (0 ≤ q.Amount) && decide (q.Amount ≤ 999999999999)) else (q.Amount == 0)) &&
    ((if (q.Op == 1) = true then (decide (0 ≤ q.Ttl) && decide (q.Ttl ≤ 9999)) else (q.Ttl == 0)) && (if (q.Op == 6) = true then r.o else (q.Other == bs [])))))
def rqB (q : Req) : RqB := ⟨(spec_AcctIdOk q.Acct).getD false, (spec_Digits q.Trace).getD false, (spec_HoldIdOk q.Hold).getD false, (spec_AcctIdOk q.Other).getD false⟩
theorem ReqOk_s (q : Req) (h1 : q.Trace.size ≤ 4000000) (h2 : q.Hold.size ≤ 4000000) : spec_ReqOk q = some (rqOk q (rqB q)) := by
  obtain ⟨a, a1, a2, _⟩ := AcctIdOk_eq q.Acct
  obtain ⟨o, o1, o2, _⟩ := AcctIdOk_eq q.Other
  obtain ⟨d, d1, d2⟩ := isWide6_val q.Trace h1 6
  obtain ⟨h, t1, t2, _⟩ := HoldIdOk_tot q.Hold h2
  have hr : rqB q = ⟨a, d, h, o⟩ := by unfold rqB; rw [a1, d1, t1, o1]; rfl
  rw [hr]
  have c0 : spec_ReqOk_c0 q = some (if (opB q.Op && ((q.Mti == mtiT q.Op) && (a && (d && !((q.Trace.size : Int) != 6))))) = true then .out () else .ret ()) := by
    unfold spec_ReqOk_c0
    simp only [l11Op_val, spec_OpMti_val, a1, d1, Option.bind_some]
    rcases tf (opB q.Op) with x1 | x1 <;> rcases tf (q.Mti == mtiT q.Op) with x2 | x2 <;> rcases tf a with x3 | x3 <;> rcases tf d with x4 | x4 <;> rcases tf ((q.Trace.size : Int) != 6) with x5 | x5 <;> simp only [x1, x2, x3, x4, x5, if_true, if_false, Bool.false_eq_true, Bool.and_true, Bool.and_false, Bool.true_and, Bool.false_and, Bool.not_true, Bool.not_false]
  have c1 : spec_ReqOk_c1 q = some (if (if holdB q.Op = true then h else (q.Hold == bs [])) = true then .out () else .ret ()) := by
    unfold spec_ReqOk_c1
    simp only [l11Hold_val, t1, Option.bind_some]
    rcases tf (holdB q.Op) with x1 | x1 <;> rcases tf h with x2 | x2 <;> rcases tf (q.Hold == bs []) with x3 | x3 <;> simp only [x1, x2, x3, if_true, if_false, Bool.false_eq_true]
  have c2 : spec_ReqOk_c2 q = some (if (if amtB q.Op = true then (decide (0 ≤ q.Amount) && decide (q.Amount ≤ 999999999999)) else (q.Amount == 0)) = true then .out () else .ret ()) := by
    unfold spec_ReqOk_c2
    simp only [l11Amount_val, l01In_val, Option.bind_some, bne]
    rcases tf (amtB q.Op) with x1 | x1 <;> rcases tf (decide (0 ≤ q.Amount) && decide (q.Amount ≤ 999999999999)) with x2 | x2 <;> rcases tf (q.Amount == 0) with x3 | x3 <;> simp only [x1, x2, x3, if_true, if_false, Bool.false_eq_true, Bool.not_true, Bool.not_false]
  have c3 : spec_ReqOk_c3 q = some (if (if (q.Op == 1) = true then (decide (0 ≤ q.Ttl) && decide (q.Ttl ≤ 9999)) else (q.Ttl == 0)) = true then .out () else .ret ()) := by
    unfold spec_ReqOk_c3
    simp only [l01In_val, Option.bind_some, bne]
    rcases tf (q.Op == 1) with x1 | x1 <;> rcases tf (decide (0 ≤ q.Ttl) && decide (q.Ttl ≤ 9999)) with x2 | x2 <;> rcases tf (q.Ttl == 0) with x3 | x3 <;> simp only [x1, x2, x3, if_true, if_false, Bool.false_eq_true, Bool.not_true, Bool.not_false]
  unfold spec_ReqOk rqOk
  rw [c0, c1, c2, c3, o1]
  generalize (opB q.Op && ((q.Mti == mtiT q.Op) && (a && (d && !((q.Trace.size : Int) != 6))))) = y0
  generalize (if holdB q.Op = true then h else (q.Hold == bs [])) = y1
  generalize (if amtB q.Op = true then (decide (0 ≤ q.Amount) && decide (q.Amount ≤ 999999999999)) else (q.Amount == 0)) = y2
  generalize (if (q.Op == 1) = true then (decide (0 ≤ q.Ttl) && decide (q.Ttl ≤ 9999)) else (q.Ttl == 0)) = y3
  cases y0 <;> cases y1 <;> cases y2 <;> cases y3 <;> simp only [if_true, if_false, Bool.false_eq_true, Option.bind_some, Lo.elim, Bool.and_true, Bool.and_false, Bool.true_and, Bool.false_and]
  rcases tf (q.Op == 6) with x1 | x1 <;> cases o <;> simp [x1, bne]
def codeT (op : Int) : ByteArray := if opB op = true then [bs [], bs [48, 48], bs [48, 50], bs [48, 49], bs [48, 48], bs [50, 48], bs [52, 48], bs [51, 49], bs [57, 48]].getD op.toNat (bs []) else bs []
theorem spec_OpCode_val (op : Int) : spec_OpCode op = some (codeT op) := by
  rcases tf (opB op) with h | h
  · rcases op_cases h with rfl | rfl | rfl | rfl | rfl | rfl | rfl | rfl <;> decide +kernel
  · unfold spec_OpCode codeT
    rw [l11Op_val, h]
    rfl
def reqOkG (q : Req) : Bool := rqOk q (rqB q)
abbrev K3 := ByteArray × ByteArray × ByteArray
def k3 (q : Req) : K3 := (q.Acct, q.Trace, q.Mti)
def idsE : List ByteArray := [bs [49, 56], bs [50, 54], bs [51, 52], bs [52, 50], bs [53, 57], bs [54, 55]]
def acctE (a : Acct) : Prop := acctD a ∧ id2 a.Holds ∧ a.Id ∈ idsE
theorem idsE_ok : ∀ x ∈ idsE, spec_AcctIdOk x = some true := by
  intro x hx
  simp only [idsE, List.mem_cons, List.not_mem_nil, or_false] at hx
  rcases hx with rfl | rfl | rfl | rfl | rfl | rfl <;> kernel_rfl
theorem l12DrawE_l0 : ∀ (m N : Nat) (k : Nat) (b : List Int) (i h : Int) (v : List Acct), cur (l01Cur.mk b i h) → k + m = 6 → m < N → v.length ≤ k → (∀ a ∈ v, acctE a) →
    ∃ b' i' h' y, spec_l12Draw_l0 N b i h (k : Int) v = some (b', i', h', y) ∧ cur (l01Cur.mk b' i' h') ∧ y.length ≤ 6 ∧ (∀ a ∈ y, acctE a)
  | m, 0, k, b, i, h, v, _, _, hN, _, _ => by omega
  | 0, N + 1, k, b, i, h, v, hc, hk, hN, hl, hd => by
    refine ⟨b, i, h, v, ?_, hc, by omega, hd⟩
    unfold spec_l12Draw_l0
    rw [if_neg (by simp; omega)]
  | m + 1, N + 1, k, b, i, h, v, hc, hk, hN, hl, hd => by
    have hk6 : k < idsE.length := by show k < 6; omega
    have hg : idsE[k]? = some idsE[k] := List.getElem?_eq_getElem hk6
    have hin : idsE[k] ∈ idsE := List.getElem_mem hk6
    have hok := idsE_ok _ hin
    generalize idsE[k] = id at hg hok hin
    have hi : i64 ((k : Int) + 1) = ((k + 1 : Nat) : Int) := by rw [i64_of (by omega) (by omega)]; omega
    obtain ⟨r, c1, e1, k1⟩ := Once_tot (l01Cur.mk b i h) 3 hc
    unfold spec_l12Draw_l0
    rw [if_pos (decide_eq_true (show (k : Int) < 6 by omega)), if_pos (decide_eq_true (Int.natCast_nonneg k)), Int.toNat_natCast, show [bs [49, 56], bs [50, 54], bs [51, 52], bs [52, 50], bs [53, 57], bs [54, 55]][k]? = some id from hg, Option.bind_some, e1, Option.bind_some]
    cases r with
    | true =>
      rw [if_pos rfl, hi]
      exact l12DrawE_l0 m N (k + 1) _ _ _ v k1 (by omega) (by omega) (by omega) hd
    | false =>
      obtain ⟨a, c2, e2, k2, d2, q2, i2⟩ := l09Draw_tot c1 id k1 hok
      rw [if_neg (by simp), e2, Option.bind_some, capOk_of (show v.length + 1 ≤ 274877906944 by omega), if_pos rfl, hi]
      refine l12DrawE_l0 m N (k + 1) _ _ _ (v ++ [a]) k2 (by omega) (by omega) (by simp; omega) (fun x hx => ?_)
      rcases List.mem_append.1 hx with hx | hx
      · exact hd x hx
      · rw [List.mem_singleton.1 hx]; exact ⟨d2, i2, by rw [q2]; exact hin⟩
def tracesE : List ByteArray := [bs [48, 48, 48, 48, 48, 49], bs [48, 48, 48, 48, 48, 50], bs [48, 48, 48, 48, 48, 51], bs [48, 48, 48, 48, 48, 52], bs [48, 48, 48, 48, 48, 53], bs [48, 48, 48, 48, 48, 54], bs [48, 48, 48, 48, 48, 55], bs [48, 48, 48, 48, 48, 56]]
/-- What a request drawn is. -/
def reqP (q : Req) : Prop := opB q.Op = true ∧ q.Mti = mtiT q.Op ∧ q.Acct ∈ idsE ∧ q.Trace ∈ tracesE ∧ (if holdB q.Op = true then q.Hold ∈ holdL else q.Hold = bs []) ∧
  (if amtB q.Op = true then 0 ≤ q.Amount ∧ q.Amount ≤ 100 else q.Amount = 0) ∧ (if (q.Op == 1) = true then 0 ≤ q.Ttl ∧ q.Ttl ≤ 25 else q.Ttl = 0) ∧ (if (q.Op == 6) = true then q.Other ∈ idsE else q.Other = bs [])
theorem l09Id_tot (c : l01Cur) (h : cur c) : ∃ s c', spec_l09Id c = some (s, c') ∧ cur c' ∧ s ∈ idsE := by
  obtain ⟨s, c1, e, k, m⟩ := Str_tot c idsE h (by decide) (by decide)
  unfold spec_l09Id
  rw [show spec_l01Str c [bs [49, 56], bs [50, 54], bs [51, 52], bs [52, 50], bs [53, 57], bs [54, 55]] = some (s, c1, idsE) from e]
  exact ⟨s, c1, rfl, k, m⟩
theorem l11Trace_tot (c : l01Cur) (h : cur c) : ∃ s c', spec_l11Trace c = some (s, c') ∧ cur c' ∧ s ∈ tracesE := by
  obtain ⟨s, c1, e, k, m⟩ := Str_tot c tracesE h (by decide) (by decide)
  unfold spec_l11Trace
  rw [show spec_l01Str c [bs [48, 48, 48, 48, 48, 49], bs [48, 48, 48, 48, 48, 50], bs [48, 48, 48, 48, 48, 51], bs [48, 48, 48, 48, 48, 52], bs [48, 48, 48, 48, 48, 53], bs [48, 48, 48, 48, 48, 54], bs [48, 48, 48, 48, 48, 55], bs [48, 48, 48, 48, 48, 56]] = some (s, c1, tracesE) from e]
  exact ⟨s, c1, rfl, k, m⟩
theorem l11Draw_tot (c : l01Cur) (h : cur c) : ∃ q c', spec_l11Draw c = some (q, c') ∧ cur c' ∧ reqP q := by
  obtain ⟨r1, c1, e1, k1, a1, b1⟩ := Below_tot c 8 h
  have b1 := b1 (by omega)
  have j0 : ∃ op c2, spec_l11Draw_c0 (r1, c1) = some (op, l01Cur.b c2, l01Cur.i c2, l01Cur.h c2) ∧ cur c2 ∧ opB op = true := by
    obtain ⟨q, c2, e2, k2⟩ := Once_tot c1 3 k1
    unfold spec_l11Draw_c0
    rw [e2, Option.bind_some]
    cases q with
    | true => exact ⟨1, c2, rfl, k2, rfl⟩
    | false =>
      have e : i64 (1 + r1) = 1 + r1 := i64_of (by omega) (by omega)
      exact ⟨1 + r1, c2, by simp [e], k2, by unfold opB; simp; omega⟩
  obtain ⟨op, c2, f0, k2, hop⟩ := j0
  obtain ⟨id, c3, e3, k3, hid⟩ := l09Id_tot (l01Cur.mk c2.b c2.i c2.h) k2
  obtain ⟨tr, c4, e4, k4, ht1⟩ := l11Trace_tot c3 k3
  have j1 : ∃ c5 hd, spec_l11Draw_c1 (op, c2.b, c2.i, c2.h) (mtiT op) (id, c3) (tr, c4) = some (l01Cur.b c5, l01Cur.i c5, l01Cur.h c5, hd) ∧ cur c5 ∧ (if holdB op = true then hd ∈ holdL else hd = bs []) := by
    unfold spec_l11Draw_c1
    rw [l11Hold_val, Option.bind_some]
    rcases tf (holdB op) with u | u
    · obtain ⟨s, c5, e5, k5, z1⟩ := l07IdE_tot c4 k4
      simp only [u, if_true, e5, Option.bind_some]
      exact ⟨c5, s, rfl, k5, z1⟩
    · simp only [u, Bool.false_eq_true, if_false]
      exact ⟨c4, _, rfl, k4, rfl⟩
  obtain ⟨c5, hd, f1, k5, hhd⟩ := j1
  have j2 : ∃ c6 am, spec_l11Draw_c2 (op, c2.b, c2.i, c2.h) (mtiT op) (id, c3) (tr, c4) (c5.b, c5.i, c5.h, hd) = some (l01Cur.b c6, l01Cur.i c6, l01Cur.h c6, am) ∧ cur c6 ∧ (if amtB op = true then 0 ≤ am ∧ am ≤ 100 else am = 0) := by
    unfold spec_l11Draw_c2
    rw [l11Amount_val, Option.bind_some]
    rcases tf (amtB op) with u | u
    · obtain ⟨n, c6, e6, k6, z1, z2⟩ := Below_tot (l01Cur.mk c5.b c5.i c5.h) 50 k5
      have z2 := z2 (by omega)
      simp only [u, if_true, e6, Option.bind_some]
      exact ⟨c6, n, rfl, k6, z1, by omega⟩
    · simp only [u, Bool.false_eq_true, if_false]
      exact ⟨c5, _, rfl, k5, rfl⟩
  obtain ⟨c6, am, f2, k6, ham⟩ := j2
  have j3 : ∃ c7 tt, spec_l11Draw_c3 (op, c2.b, c2.i, c2.h) (mtiT op) (id, c3) (tr, c4) (c5.b, c5.i, c5.h, hd) (c6.b, c6.i, c6.h, am) = some (l01Cur.b c7, l01Cur.i c7, l01Cur.h c7, tt) ∧ cur c7 ∧ (if (op == 1) = true then 0 ≤ tt ∧ tt ≤ 25 else tt = 0) := by
    unfold spec_l11Draw_c3
    rcases tf (op == 1) with u | u
    · obtain ⟨n, c7, e7, k7, z1, z2⟩ := Below_tot (l01Cur.mk c6.b c6.i c6.h) 25 k6
      have z2 := z2 (by omega)
      simp only [u, if_true, e7, Option.bind_some]
      exact ⟨c7, n, rfl, k7, z1, by omega⟩
    · simp only [u, Bool.false_eq_true, if_false]
      exact ⟨c6, _, rfl, k6, rfl⟩
  obtain ⟨c7, tt, f3, k7, htt⟩ := j3
  have j4 : ∃ c8 ot, spec_l11Draw_c4 (op, c2.b, c2.i, c2.h) (mtiT op) (id, c3) (tr, c4) (c5.b, c5.i, c5.h, hd) (c6.b, c6.i, c6.h, am) (c7.b, c7.i, c7.h, tt) = some (l01Cur.b c8, l01Cur.i c8, l01Cur.h c8, ot) ∧ cur c8 ∧ (if (op == 6) = true then ot ∈ idsE else ot = bs []) := by
    unfold spec_l11Draw_c4
    rcases tf (op == 6) with u | u
    · obtain ⟨s, c8, e8, k8, z⟩ := l09Id_tot (l01Cur.mk c7.b c7.i c7.h) k7
      simp only [u, if_true, e8, Option.bind_some]
      exact ⟨c8, s, rfl, k8, z⟩
    · simp only [u, Bool.false_eq_true, if_false]
      exact ⟨c7, _, rfl, k7, rfl⟩
  obtain ⟨c8, ot, f4, k8, hot⟩ := j4
  unfold spec_l11Draw
  simp only [e1, f0, Option.bind_some, spec_OpMti_val, e3, e4, f1, f2, f3, f4]
  exact ⟨_, c8, rfl, k8, hop, rfl, hid, ht1, hhd, ham, htt, hot⟩
theorem l12Req_c2_tot (r1 : Req × l01Cur) (x1 : Acct) (c : l01Cur) (ot : ByteArray) (hq : reqP r1.1) (hx : acctE x1) (h : cur c) : ∃ c' hd am, spec_l12Req_c2 r1 x1 (c.b, c.i, c.h, ot) = some (l01Cur.b c', l01Cur.i c', l01Cur.h c', hd, am) ∧ cur c' ∧ (if holdB r1.1.Op = true then hd ∈ holdL else hd = bs []) ∧ (if amtB r1.1.Op = true then 0 ≤ am ∧ am ≤ 100 else am = 0) := by
  obtain ⟨g1, g2, g3, g4, g5, g6, g7, g8⟩ := hq
  have same : ∃ c' hd am, (some (c.b, c.i, c.h, r1.1.Hold, r1.1.Amount) : Option (List Int × Int × Int × ByteArray × Int)) = some (l01Cur.b c', l01Cur.i c', l01Cur.h c', hd, am) ∧ cur c' ∧ (if holdB r1.1.Op = true then hd ∈ holdL else hd = bs []) ∧ (if amtB r1.1.Op = true then 0 ≤ am ∧ am ≤ 100 else am = 0) := ⟨c, _, _, rfl, h, g5, g6⟩
  unfold spec_l12Req_c2
  rw [l11Hold_val, Option.bind_some]
  rcases tf (holdB r1.1.Op) with u | u
  · rcases tf (r1.1.Op != 1) with v | v
    · by_cases hl : 0 < x1.Holds.length
      · obtain ⟨w, c1, e1, k1⟩ := Once_tot c 4 h
        have e1 : spec_l01Once (l01Cur.mk c.b c.i c.h) 4 = some (w, c1) := e1
        simp only [u, v, if_true, show (0 : Int) < (x1.Holds.length : Int) by omega, decide_true, e1, Option.bind_some]
        cases w with
        | true =>
          simp only [if_true]
          exact ⟨c1, _, _, rfl, k1, by have := g5; rw [u] at this; exact this, g6⟩
        | false =>
          obtain ⟨n, c2, e2, k2, a2, b2⟩ := Below_tot c1 (x1.Holds.length : Int) k1
          have b2 := b2 (by omega)
          have hg : x1.Holds[n.toNat]? = some (x1.Holds[n.toNat]'(by omega)) := List.getElem?_eq_getElem _
          have hmem : (x1.Holds[n.toNat]'(by omega)) ∈ x1.Holds := List.getElem_mem _
          have hp := (acctD_holds hx.1).2.1 _ hmem
          have hi := hx.2.1 _ hmem
          simp only [Bool.false_eq_true, if_false, e2, Option.bind_some, a2, decide_true, if_true, hg, l11Amount_val]
          generalize x1.Holds[n.toNat] = x3 at *
          rcases tf (amtB r1.1.Op) with am | am
          · obtain ⟨y, c3, e3, k3⟩ := Once_tot c2 2 k2
            simp only [am, if_true, e3, Option.bind_some]
            cases y with
            | true =>
              have ea : i64 (x3.Amount + 1) = x3.Amount + 1 := i64_of (by have := hp.2.1; omega) (by omega)
              obtain ⟨z, c4, e4, k4, a4, b4⟩ := Below_tot c3 (x3.Amount + 1) k3
              have b4 := b4 (by have := hp.2.1; omega)
              have ez : i64 (1 + z) = 1 + z := i64_of (by omega) (by omega)
              simp only [if_true, ea, e4, Option.bind_some, ez]
              exact ⟨c4, _, _, rfl, k4, hi.2.2, by omega, by omega⟩
            | false =>
              simp only [Bool.false_eq_true, if_false]
              exact ⟨c3, _, _, rfl, k3, hi.2.2, by have := g6; rw [am] at this; exact this⟩
          · simp only [am, Bool.false_eq_true, if_false]
            exact ⟨c2, _, _, rfl, k2, hi.2.2, by have := g6; rw [am] at this; exact this⟩
      · simp only [u, v, if_true, show ¬ (0 : Int) < (x1.Holds.length : Int) by omega, decide_false, Bool.false_eq_true, if_false]
        rw [u] at same; exact same
    · simp only [u, v, if_true, Bool.false_eq_true, if_false]
      rw [u] at same; exact same
  · simp only [u, Bool.false_eq_true, if_false]
    rw [u] at same; exact same
theorem l12Req_tot (c : l01Cur) (b : Book) (h : cur c) (hb : ∀ a ∈ b.Accts, acctE a) (hl : b.Accts.length ≤ 6) : ∃ q c', spec_l12Req c b = some (q, c') ∧ cur c' ∧ reqP q := by
  obtain ⟨q, c1, e1, k1, hq⟩ := l11Draw_tot c h
  unfold spec_l12Req
  rw [e1, Option.bind_some]
  unfold spec_l12Req_c0
  by_cases h0 : b.Accts.length = 0
  · have : ((b.Accts.length : Int) == 0) = true := by rw [h0]; rfl
    simp only [this, if_true, Option.bind_some, Lo.elim]
    exact ⟨q, _, rfl, k1, hq⟩
  · have : ((b.Accts.length : Int) == 0) = false := beq_false_of_ne (by omega)
    obtain ⟨w, c2, e2, k2⟩ := Once_tot c1 10 k1
    simp only [this, Bool.false_eq_true, if_false, e2, Option.bind_some]
    cases w with
    | true =>
      simp only [if_true, Option.bind_some, Lo.elim]
      exact ⟨q, _, rfl, k2, hq⟩
    | false =>
      obtain ⟨n, c3, e3, k3, a3, b3⟩ := Below_tot (l01Cur.mk c2.b c2.i c2.h) (b.Accts.length : Int) k2
      have b3 := b3 (by omega)
      have hg : b.Accts[n.toNat]? = some (b.Accts[n.toNat]'(by omega)) := List.getElem?_eq_getElem _
      have hx := hb _ (List.getElem_mem (show n.toNat < b.Accts.length by omega))
      simp only [Bool.false_eq_true, if_false, Option.bind_some, Lo.elim, e3, a3, decide_true, if_true, hg]
      generalize b.Accts[n.toNat] = x1 at *
      obtain ⟨g1, g2, g3, g4, g5, g6, g7, g8⟩ := hq
      have j1 : ∃ c4 ot, spec_l12Req_c1 b (q, c1) (n, c3) x1 = some (l01Cur.b c4, l01Cur.i c4, l01Cur.h c4, ot) ∧ cur c4 ∧ (if (q.Op == 6) = true then ot ∈ idsE else ot = bs []) := by
        unfold spec_l12Req_c1
        rcases tf (q.Op == 6) with u | u
        · obtain ⟨z, c4, e4, k4, a4, b4⟩ := Below_tot c3 (b.Accts.length : Int) k3
          have b4 := b4 (by omega)
          have hg2 : b.Accts[z.toNat]? = some (b.Accts[z.toNat]'(by omega)) := List.getElem?_eq_getElem _
          have hx2 := hb _ (List.getElem_mem (show z.toNat < b.Accts.length by omega))
          simp only [u, if_true, e4, Option.bind_some, a4, decide_true, hg2]
          exact ⟨c4, _, rfl, k4, hx2.2.2⟩
        · simp only [u, Bool.false_eq_true, if_false]
          exact ⟨c3, _, rfl, k3, by have := g8; rw [u] at this; exact this⟩
      obtain ⟨c4, ot, f1, k4, hot⟩ := j1
      obtain ⟨c5, hd, am, f2, k5, hhd, ham⟩ := l12Req_c2_tot (q, c1) x1 c4 ot ⟨g1, g2, g3, g4, g5, g6, g7, g8⟩ hx k4
      simp only [f1, f2, Option.bind_some]
      exact ⟨_, _, rfl, k5, g1, g2, hx.2.2, g4, hhd, ham, g7, hot⟩
/-- Amount and time of a request drawn are small. -/
theorem reqP_nums {q : Req} (h : reqP q) : ∃ a t : Nat, q.Amount = (a : Int) ∧ q.Ttl = (t : Int) ∧ a ≤ 100 ∧ t ≤ 25 := by
  obtain ⟨g1, g2, g3, g4, g5, g6, g7, g8⟩ := h
  have h6 : 0 ≤ q.Amount ∧ q.Amount ≤ 100 := by
    rcases tf (amtB q.Op) with u | u
    · rw [u] at g6; exact g6
    · rw [u] at g6; have : q.Amount = 0 := g6; omega
  have h7 : 0 ≤ q.Ttl ∧ q.Ttl ≤ 25 := by
    rcases tf (q.Op == 1) with u | u
    · rw [u] at g7; exact g7
    · rw [u] at g7; have : q.Ttl = 0 := g7; omega
  exact ⟨q.Amount.toNat, q.Ttl.toNat, by omega, by omega, by omega, by omega⟩
theorem hold_or {q : Req} (h : reqP q) : q.Hold ∈ holdL ∨ q.Hold = bs [] := by
  obtain ⟨g1, g2, g3, g4, g5, g6, g7, g8⟩ := h
  rcases tf (holdB q.Op) with u | u
  · rw [u] at g5; exact .inl g5
  · rw [u] at g5; exact .inr g5
def insB {α : Type} (lt : α → α → Bool) (b : α) : List α → List α
  | [] => [b]
  | x :: l => if lt b x = true then b :: x :: l else x :: insB lt b l
def mgB {α : Type} (lt : α → α → Bool) (A B : List α) : List α := B.foldl (fun acc b => insB lt b acc) A
/-- A list whose blocks of k are sorted. -/
inductive Bs {α : Type} (lt : α → α → Bool) (k : Nat) : List α → List α → Prop
  | last (L : List α) (h : L.length ≤ k) : Bs lt k L (mgB lt [] L)
  | cons (A L M : List α) (h : A.length = k) (r : Bs lt k L M) : Bs lt k (A ++ L) (mgB lt [] A ++ M)
theorem Bs.nil {α : Type} {lt : α → α → Bool} (k : Nat) : Bs lt k [] [] := Bs.last [] (by simp)
def smM (n : Nat) (m : Msg) : Prop := m.Mti.size ≤ 1000 ∧ m.List.length ≤ n ∧ ∀ f ∈ m.List, f.Text.size ≤ 1000
theorem smM_le {n k : Nat} {m : Msg} (h : smM n m) (hk : n ≤ k) : smM k m := ⟨h.1, Nat.le_trans h.2.1 hk, h.2.2⟩
theorem smM_0 (n : Nat) : smM n (Msg.mk ByteArray.empty []) := ⟨by decide, by simp, by simp⟩
theorem evMsgOk {n : Nat} {m : Msg} (h : smM n m) (hn : n ≤ 100000) : spec_MsgOk m = some (msgB m) := MsgOk_s m (by have := h.1; omega) (by have := h.2.1; omega) (fun f hf => by have := h.2.2 f hf; omega)
theorem fl_app {w : List Field} {f : Field} (hw : ∀ g ∈ w, g.Text.size ≤ 1000) (hf : f.Text.size ≤ 1000) : ∀ g ∈ w ++ [f], g.Text.size ≤ 1000 := fun g hg => by
  rcases List.mem_append.1 hg with hg | hg
  · exact hw g hg
  · rw [List.mem_singleton.1 hg]; exact hf
theorem evWith_l0 (o : Msg) (no : Int) (s : ByteArray) (hs : s.size ≤ 1000) : ∀ (t : List Field) (b : Bool) (w : List Field), (∀ f ∈ t, f.Text.size ≤ 1000) → (∀ f ∈ w, f.Text.size ≤ 1000) → w.length + 2 * t.length ≤ 1000000 →
    ∃ b' y, spec_WithField_l0 o no s t b w = some (b', y) ∧ y.length ≤ w.length + 2 * t.length ∧ ∀ f ∈ y, f.Text.size ≤ 1000
  | [], b, w, _, hw, _ => ⟨b, w, rfl, by simp, hw⟩
  | x :: t, b, w, ht, hw, hl => by
    simp only [List.length_cons] at hl ⊢
    have hx := ht x (by simp)
    have fin : ∀ b w', (∀ f ∈ w', f.Text.size ≤ 1000) → w'.length ≤ w.length + 2 → ∃ b' y, spec_WithField_l0 o no s t b w' = some (b', y) ∧ y.length ≤ w.length + 2 * (t.length + 1) ∧ ∀ f ∈ y, f.Text.size ≤ 1000 := fun b w' h1 h2 => by
      obtain ⟨b', y, e1, e2, e3⟩ := evWith_l0 o no s hs t b w' (fun f hf => ht f (by simp [hf])) h1 (by omega)
      exact ⟨b', y, e1, by omega, e3⟩
    unfold spec_WithField_l0
    have hl1 : w.length + 1 ≤ 274877906944 := by omega
    have hl2 : (w ++ [Field.mk no s]).length + 1 ≤ 274877906944 := by simp; omega
    have n1 := fl_app hw hx
    have n2 := fl_app (f := Field.mk no s) hw hs
    have n3 := fl_app n2 hx
    rcases tf (x.No != no) with q | q <;> rcases tf (decide (no ≤ x.No)) with p | p <;> cases b <;> simp only [q, p, Bool.false_eq_true, if_true, if_false, capOk_of hl1, capOk_of hl2]
    all_goals first | exact fin _ _ hw (by omega) | exact fin _ _ n1 (by simp) | exact fin _ _ n2 (by simp) | exact fin _ _ n3 (by simp)
theorem evWith {n : Nat} {m : Msg} (h : smM n m) (hn : n ≤ 100000) (no : Int) (s : ByteArray) (hs : s.size ≤ 1000) : ∃ m' b, spec_WithField m no s = some (m', b) ∧ smM (2 * n + 1) m' := by
  have h2 := h.2.1
  obtain ⟨b, y, e1, e2, e3⟩ := evWith_l0 m no s hs m.List false [] h.2.2 (by simp) (by simp; omega)
  simp only [List.length_nil] at e2
  unfold spec_WithField
  rw [evMsgOk h hn, FieldOk_s no s (by omega), e1]
  have z := smM_0 (2 * n + 1)
  simp only [Option.bind_some, capOk_of (show m.List.length ≤ 274877906944 by omega), capOk_of (show y.length + 1 ≤ 274877906944 by omega)]
  rcases tf (msgB m) with q | q
  · rcases tf (fok no s) with p | p
    · simp only [q, p, if_true]
      cases b with
      | true => exact ⟨_, _, rfl, h.1, by show y.length ≤ _; omega, e3⟩
      | false => exact ⟨_, _, rfl, h.1, by show (y ++ [_]).length ≤ _; simp; omega, fl_app e3 hs⟩
    · simp only [q, p, if_true, Bool.false_eq_true, if_false]; exact ⟨_, _, rfl, z⟩
  · simp only [q, Bool.false_eq_true, if_false]; exact ⟨_, _, rfl, z⟩
theorem evWithout_l0 (m : Msg) (no : Int) : ∀ (t w : List Field), (∀ f ∈ t, f.Text.size ≤ 1000) → (∀ f ∈ w, f.Text.size ≤ 1000) → w.length + t.length ≤ 1000000 → ∃ y, spec_WithoutField_l0 m no t w = some y ∧ y.length ≤ w.length + t.length ∧ ∀ f ∈ y, f.Text.size ≤ 1000
  | [], w, _, hw, _ => ⟨w, rfl, by simp, hw⟩
  | x :: t, w, ht, hw, hl => by
    simp only [List.length_cons] at hl ⊢
    unfold spec_WithoutField_l0
    rcases tf (x.No != no) with q | q
    · simp only [q, if_true, capOk_of (show w.length + 1 ≤ 274877906944 by omega)]
      obtain ⟨y, e1, e2, e3⟩ := evWithout_l0 m no t (w ++ [x]) (fun f hf => ht f (by simp [hf])) (fl_app hw (ht x (by simp))) (by simp; omega)
      exact ⟨y, e1, by simp at e2; omega, e3⟩
    · simp only [q, Bool.false_eq_true, if_false]
      obtain ⟨y, e1, e2, e3⟩ := evWithout_l0 m no t w (fun f hf => ht f (by simp [hf])) hw (by omega)
      exact ⟨y, e1, by omega, e3⟩
theorem evWithout {n : Nat} {m : Msg} (h : smM n m) (hn : n ≤ 100000) (no : Int) : ∃ m', spec_WithoutField m no = some m' ∧ smM n m' := by
  have h2 := h.2.1
  obtain ⟨y, e1, e2, e3⟩ := evWithout_l0 m no m.List [] h.2.2 (by simp) (by simp; omega)
  simp only [List.length_nil] at e2
  unfold spec_WithoutField
  simp only [capOk_of (show m.List.length ≤ 274877906944 by omega), if_true, e1, Option.bind_some]
  exact ⟨_, rfl, h.1, by show y.length ≤ n; omega, e3⟩
theorem evWide (n : Nat) (h : n ≤ 100) : (∃ w, spec_Wide (n : Int) 12 = some w ∧ w.size ≤ 1000) ∧ ∃ w, spec_Wide (n : Int) 4 = some w ∧ w.size ≤ 1000 := by
  have key : ∀ n : Fin 101, ((spec_Wide ((n.val : Nat) : Int) 12).any fun w => decide (w.size ≤ 1000)) = true ∧ ((spec_Wide ((n.val : Nat) : Int) 4).any fun w => decide (w.size ≤ 1000)) = true := by decide +kernel
  have k := key ⟨n, by omega⟩
  simp only [Option.any_eq_true, decide_eq_true_eq] at k
  exact k
theorem evFit (s : ByteArray) (h : s ∈ holdL ∨ s = bs []) : ∃ w, spec_FieldFit 38 s = some w ∧ w.size ≤ 1000 := by
  have key : ∀ s ∈ holdL ++ [bs []], ((spec_FieldFit 38 s).any fun w => decide (w.size ≤ 1000)) = true := by decide +kernel
  have k := key s (by rcases h with h | h <;> simp [h])
  simp only [Option.any_eq_true, decide_eq_true_eq] at k
  exact k
theorem evCode (op : Int) (h : opB op = true) : (codeT op).size = 2 ∧ (mtiT op).size = 4 := by
  rcases op_cases h with rfl | rfl | rfl | rfl | rfl | rfl | rfl | rfl <;> decide +kernel
theorem evIds : (∀ s ∈ idsE, s.size = 2) ∧ (∀ s ∈ tracesE, s.size = 6) ∧ (∀ s ∈ holdL, s.size ≤ 2) := by decide +kernel
theorem evReqMsg (q : Req) (h : reqP q) : ∃ m b, spec_ReqMsg q = some (m, b) ∧ smM 300 m := by
  obtain ⟨a, t, ha, ht, a1, t1⟩ := reqP_nums h
  obtain ⟨⟨wa, ea, sa⟩, _⟩ := evWide a a1
  obtain ⟨_, wt, et, st⟩ := evWide t (by omega)
  obtain ⟨fh, ef, sf⟩ := evFit q.Hold (hold_or h)
  have hho := hold_or h
  obtain ⟨g1, g2, g3, g4, g5, g6, g7, g8⟩ := h
  obtain ⟨i1, i2, i3⟩ := evIds
  obtain ⟨c1, c2⟩ := evCode q.Op g1
  have s2 := i1 _ g3
  have s11 := i2 _ g4
  have s103 : q.Other.size ≤ 1000 := by
    rcases tf (q.Op == 6) with u | u
    · rw [u] at g8; have := i1 _ g8; omega
    · rw [u] at g8
      have g8 : q.Other = bs [] := g8
      rw [g8]; decide
  have sh : q.Hold.size ≤ 1000 := by
    rcases hho with h | h
    · have := i3 _ h; omega
    · rw [h]; decide
  have tail1 : ∀ (m : Msg) (n : Nat), smM n m → n ≤ 140 → ∃ m' b, (if (q.Op == 6) = true then (spec_WithField m 103 q.Other).bind fun r => some (r.1, true) else some (m, true)) = some (m', b) ∧ smM 300 m' := fun m n hm hn => by
    rcases tf (q.Op == 6) with u | u
    · obtain ⟨m', b, e, k⟩ := evWith hm (by omega) 103 q.Other s103
      simp only [u, if_true, e, Option.bind_some]
      exact ⟨_, _, rfl, smM_le k (by omega)⟩
    · simp only [u, Bool.false_eq_true, if_false]
      exact ⟨_, _, rfl, smM_le hm (by omega)⟩
  have tail2 : ∀ (m : Msg) (n : Nat), smM n m → n ≤ 65 → ∃ m' b, (if (q.Op == 1) = true then
       (spec_Wide q.Ttl 4).bind fun r12 =>
       (spec_WithField m 14 r12).bind fun r13 =>
       if (q.Op == 6) = true then
       (spec_WithField r13.1 103 q.Other).bind fun r14 =>
       some (r14.1, true)
       else
       some (r13.1, true)
       else
       if (q.Op == 6) = true then
       (spec_WithField m 103 q.Other).bind fun r15 =>
       some (r15.1, true)
       else
       some (m, true)) = some (m', b) ∧ smM 300 m' := fun m n hm hn => by
    rcases tf (q.Op == 1) with u | u
    · obtain ⟨m', b, e, k⟩ := evWith hm (by omega) 14 wt st
      simp only [u, if_true, ht, et, e, Option.bind_some]
      exact tail1 m' _ k (by omega)
    · simp only [u, Bool.false_eq_true, if_false]
      exact tail1 m _ hm (by omega)
  have tail3 : ∀ (m : Msg) (n : Nat), smM n m → n ≤ 31 → ∃ m' b, ((spec_l11Amount q.Op).bind fun r9 =>
       if r9 = true then
       (spec_Wide q.Amount 12).bind fun r10 =>
       (spec_WithField m 4 r10).bind fun r11 =>
       if (q.Op == 1) = true then
       (spec_Wide q.Ttl 4).bind fun r12 =>
       (spec_WithField r11.1 14 r12).bind fun r13 =>
       if (q.Op == 6) = true then
       (spec_WithField r13.1 103 q.Other).bind fun r14 =>
       some (r14.1, true)
       else
       some (r13.1, true)
       else
       if (q.Op == 6) = true then
       (spec_WithField r11.1 103 q.Other).bind fun r15 =>
       some (r15.1, true)
       else
       some (r11.1, true)
       else
       if (q.Op == 1) = true then
       (spec_Wide q.Ttl 4).bind fun r16 =>
       (spec_WithField m 14 r16).bind fun r17 =>
       if (q.Op == 6) = true then
       (spec_WithField r17.1 103 q.Other).bind fun r18 =>
       some (r18.1, true)
       else
       some (r17.1, true)
       else
       if (q.Op == 6) = true then
       (spec_WithField m 103 q.Other).bind fun r19 =>
       some (r19.1, true)
       else
       some (m, true)) = some (m', b) ∧ smM 300 m' := fun m n hm hn => by
    rw [l11Amount_val, Option.bind_some]
    rcases tf (amtB q.Op) with u | u
    · obtain ⟨m', b, e, k⟩ := evWith hm (by omega) 4 wa sa
      rw [u, if_pos rfl, ha, ea, Option.bind_some, e, Option.bind_some]
      exact tail2 m' _ k (by omega)
    · rw [u, if_neg (by simp)]
      exact tail2 m _ hm (by omega)
  have z : smM 0 (Msg.mk q.Mti []) := ⟨by rw [g2, c2]; decide, by simp, by simp⟩
  obtain ⟨m1, b1, e1, k1⟩ := evWith z (by omega) 2 q.Acct (by omega)
  have hc : (codeT q.Op ++ bs [48, 48, 48, 48]).size = 6 := by rw [size_app, c1]; rfl
  obtain ⟨m2, b2, e2, k2⟩ := evWith k1 (by omega) 3 (codeT q.Op ++ bs [48, 48, 48, 48]) (by omega)
  obtain ⟨m3, b3, e3, k3⟩ := evWith k2 (by omega) 11 q.Trace (by omega)
  obtain ⟨m4, b4, e4, k4⟩ := evWith k3 (by omega) 38 fh sf
  have hcc : (codeT q.Op).size + (bs [48, 48, 48, 48]).size ≤ 9223372036854775807 := by rw [← size_app, hc]; decide
  unfold spec_ReqMsg
  rw [show spec_ReqOk q = some (reqOkG q) from ReqOk_s q (by omega) (by omega), Option.bind_some]
  rcases tf (reqOkG q) with u | u
  · rw [u, if_pos rfl, e1, Option.bind_some, spec_OpCode_val, Option.bind_some, if_pos (decide_eq_true hcc), e2, Option.bind_some, e3, Option.bind_some, l11Hold_val, Option.bind_some]
    rcases tf (holdB q.Op) with v | v
    · rw [v, if_pos rfl, ef, Option.bind_some, e4, Option.bind_some]
      exact tail3 m4 _ k4 (by omega)
    · rw [v, if_neg (by simp)]
      exact tail3 m3 _ k3 (by omega)
  · rw [u, if_neg (by simp)]
    exact ⟨_, _, rfl, smM_0 _⟩
theorem u8_rng (x : Int) : 0 ≤ u8 x ∧ u8 x ≤ 255 := by
  unfold u8 IntKind.wrap
  simp [IntKind.bits, IntKind.signed]
  omega
theorem evPut_loop {L : Nat → Int → List Int → Option (List Int)} (N : Nat) (hN : N ≤ 4000000) (g : Int → Int) (hg : ∀ v, 0 ≤ g v ∧ g v ≤ 255) (h0 : ∀ n v w, L (n + 1) v w = if (decide (v < (N : Int))) = true then
     if (decide (0 ≤ v)) = true then
     if (decide ((v : Int) < (N : Int))) = true then
     if (decide (0 ≤ i64 (v + 1))) = true then
     if (decide ((i64 (v + 1) : Int) < (N : Int))) = true then
     if (capOk (w.length + 1)) = true then
     L n (i64 (v + 2)) (w ++ [g v])
     else none
     else none
     else none
     else none
     else none
     else
     some w) : ∀ (n v : Nat) (w : List Int), v ≤ N → (N - v) % 2 = 0 → N - v < n → w.length + N ≤ 100000000 + v → byB w → ∃ y, L n (v : Int) w = some y ∧ byB y ∧ 2 * y.length = 2 * w.length + (N - v)
  | 0, v, w, _, _, hf, _, _ => by omega
  | n + 1, v, w, h, hp, hf, hw, hb => by
    rw [h0]
    by_cases hv : v < N
    · have hi' : i64 ((v : Int) + 1) = ((v + 1 : Nat) : Int) := by rw [i64_of (by omega) (by omega)]; omega
      have hi2 : i64 ((v : Int) + 2) = ((v + 2 : Nat) : Int) := by rw [i64_of (by omega) (by omega)]; omega
      obtain ⟨y, e1, e2, e3⟩ := evPut_loop N hN g hg h0 n (v + 2) (w ++ [g (v : Int)]) (by omega) (by omega) (by omega) (by simp; omega) (fun b hb' => by
        rcases List.mem_append.1 hb' with hb' | hb'
        · exact hb b hb'
        · rw [List.mem_singleton.1 hb']; exact hg _)
      simp only [hi', hi2, show (v : Int) < (N : Int) by omega, show (0 : Int) ≤ (v : Int) by omega, show (0 : Int) ≤ ((v + 1 : Nat) : Int) by omega, show ((v + 1 : Nat) : Int) < (N : Int) by omega, decide_true, if_true, capOk_of (show w.length + 1 ≤ 274877906944 by omega)]
      exact ⟨y, e1, e2, by simp at e3; omega⟩
    · simp only [show ¬ (v : Int) < (N : Int) by omega, decide_false, Bool.false_eq_true, if_false]
      exact ⟨w, rfl, hb, by omega⟩
theorem evBcd (s : ByteArray) (hd : digB s = true) (hs : s.size ≤ 38) : ∃ y, spec_PutBcd s = some (y, true) ∧ byB y ∧ y.length = (s.size + 1) / 2 := by
  have hm : Int.tmod (s.size : Int) 2 = (s.size : Int) % 2 := Int.tmod_eq_emod_of_nonneg (by omega)
  unfold spec_PutBcd
  rw [Digits_s s (by omega), hm, hd]
  simp only [Option.bind_some, if_true, show ¬ (38 : Int) < (s.size : Int) by omega, decide_false, Bool.false_eq_true, if_false]
  by_cases hp : s.size % 2 = 1
  · have q1 : ((s.size : Int) % 2 == 1) = true := by rw [beq_iff_eq]; omega
    have hz : (bs [48] ++ s).size = s.size + 1 := by rw [size_app]; show 1 + s.size = _; omega
    obtain ⟨y, e1, e2, e3⟩ := evPut_loop (L := spec_PutBcd_l0 s) (bs [48] ++ s).size (by omega) (fun v => u8 (i64 ((i64 ((i64 ((i64 ((i64 (sAt ((bs [48]) ++ s) v)) - 48)) * 16)) + (i64 (sAt ((bs [48]) ++ s) (i64 (v + 1)))))) - 48))) (fun v => u8_rng _) (fun _ _ _ => rfl) FUEL 0 [] (by omega) (by omega) (by unfold FUEL; omega) (by rw [hz]; simp; omega) (fun b hb => by cases hb)
    have e1 : spec_PutBcd_l0 s FUEL 0 [] = some y := e1
    have hc : (bs [48]).size + s.size ≤ 9223372036854775807 := by show 1 + s.size ≤ _; omega
    simp only [q1, if_true, hc, decide_true, e1, Option.bind_some]
    simp only [List.length_nil] at e3
    exact ⟨y, rfl, e2, by omega⟩
  · have q1 : ((s.size : Int) % 2 == 1) = false := beq_false_of_ne (by omega)
    obtain ⟨y, e1, e2, e3⟩ := evPut_loop (L := spec_PutBcd_l1 s) s.size (by omega) (fun v => u8 (i64 ((i64 ((i64 ((i64 ((i64 (sAt s v)) - 48)) * 16)) + (i64 (sAt s (i64 (v + 1)))))) - 48))) (fun v => u8_rng _) (fun _ _ _ => rfl) FUEL 0 [] (by omega) (by omega) (by unfold FUEL; omega) (by simp; omega) (fun b hb => by cases hb)
    have e1 : spec_PutBcd_l1 s FUEL 0 [] = some y := e1
    simp only [q1, Bool.false_eq_true, if_false, e1, Option.bind_some]
    simp only [List.length_nil] at e3
    exact ⟨y, rfl, e2, by omega⟩
theorem evLen (n : Nat) (h : n ≤ 60) : (∃ y, spec_PutLen (n : Int) 2 = some y ∧ byB y.1 ∧ y.1.length ≤ 1) ∧ ∃ y, spec_PutLen (n : Int) 3 = some y ∧ byB y.1 ∧ y.1.length ≤ 2 := by
  have key : ∀ n : Fin 61, ((spec_PutLen ((n.val : Nat) : Int) 2).any fun y => (y.1.all fun b => decide (0 ≤ b ∧ b ≤ 255)) && decide (y.1.length ≤ 1)) = true ∧ ((spec_PutLen ((n.val : Nat) : Int) 3).any fun y => (y.1.all fun b => decide (0 ≤ b ∧ b ≤ 255)) && decide (y.1.length ≤ 2)) = true := by decide +kernel
  have k := key ⟨n, by omega⟩
  simp only [Option.any_eq_true, Bool.and_eq_true, List.all_eq_true, decide_eq_true_eq] at k
  obtain ⟨⟨y, e1, e2, e3⟩, ⟨z, f1, f2, f3⟩⟩ := k
  exact ⟨⟨y, e1, e2, e3⟩, ⟨z, f1, f2, f3⟩⟩
/-- At most so many bytes are written for a field. -/
def fldN (no : Int) : Nat := (if (fkind no == 1) = true then (fsize no + 1) / 2 else if (fkind no == 2) = true then fsize no else if (fkind no == 3) = true then 1 + (fsize no + 1) / 2 else if (fkind no == 4) = true then 1 + fsize no else 2 + fsize no).toNat
theorem byB_app {a b : List Int} (ha : byB a) (hb : byB b) : byB (a ++ b) := fun x hx => (List.mem_append.1 hx).elim (ha x) (hb x)
theorem evField (no : Int) (s : ByteArray) (h : fok no s = true) : ∃ y, spec_PutField no s = some (y, true) ∧ byB y ∧ y.length ≤ fldN no := by
  obtain ⟨f1, f2, f3, f4, f5, f6, f7⟩ := fok_kinds h
  obtain ⟨⟨p, p1, p2, p3⟩, ⟨r, r1, r2, r3⟩⟩ := evLen s.size f2
  have hsl := sbytes_len s
  have hsb := sbytes_by s
  unfold spec_PutField fldN
  rw [FieldOk_s no s (by omega), h, Row_k]
  simp only [Option.bind_some, if_true, show s.size ≤ 9223372036854775807 by omega, decide_true]
  rcases kinds no with k | k | k | k | k | k
  · exact absurd k f3
  · obtain ⟨y, e1, e2, e3⟩ := evBcd s (f4 (.inl k)).1 (by have := f6 k; omega)
    have := (f4 (.inl k)).2.1 k
    rw [k, show spec_l03Width 1 = some 0 from rfl]
    simp only [Option.bind_some, show ¬ (0 : Int) < 0 by omega, decide_false, Bool.false_eq_true, if_false, show ((1 : Int) == 1) = true from rfl, if_true, e1, capOk_of (show 0 + y.length ≤ 274877906944 by omega)]
    exact ⟨_, rfl, e2, by omega⟩
  · have := (f5 (.inl k)).2.1 k
    rw [k, show spec_l03Width 2 = some 0 from rfl]
    simp only [Option.bind_some, show ¬ (0 : Int) < 0 by omega, decide_false, Bool.false_eq_true, if_false, show ((2 : Int) == 1) = false from rfl, show ((2 : Int) == 3) = false from rfl, show ((2 : Int) == 2) = true from rfl, if_true, capOk_of (show 0 + (sbytes s).length ≤ 274877906944 by omega)]
    exact ⟨_, rfl, hsb, by omega⟩
  · obtain ⟨y, e1, e2, e3⟩ := evBcd s (f4 (.inr k)).1 (by have := f7 k; omega)
    have := (f4 (.inr k)).2.2
    rw [k, show spec_l03Width 3 = some 2 from rfl]
    simp only [Option.bind_some, show (0 : Int) < 2 by omega, decide_true, p1, Bool.false_eq_true, if_false, show ((3 : Int) == 1) = false from rfl, show ((3 : Int) == 2) = false from rfl, show ((3 : Int) == 3) = true from rfl, if_true, e1, capOk_of (show p.1.length + y.length ≤ 274877906944 by omega)]
    exact ⟨_, rfl, byB_app p2 e2, by rw [List.length_append]; omega⟩
  · have := (f5 (.inr (.inl k))).2.2
    rw [k, show spec_l03Width 4 = some 2 from rfl]
    simp only [Option.bind_some, show (0 : Int) < 2 by omega, decide_true, p1, Bool.false_eq_true, if_false, show ((4 : Int) == 1) = false from rfl, show ((4 : Int) == 2) = false from rfl, show ((4 : Int) == 3) = false from rfl, show ((4 : Int) == 4) = true from rfl, if_true, capOk_of (show p.1.length + (sbytes s).length ≤ 274877906944 by omega)]
    exact ⟨_, rfl, byB_app p2 hsb, by rw [List.length_append]; omega⟩
  · have := (f5 (.inr (.inr k))).2.2
    rw [k, show spec_l03Width 5 = some 3 from rfl]
    simp only [Option.bind_some, show (0 : Int) < 3 by omega, decide_true, r1, Bool.false_eq_true, if_false, show ((5 : Int) == 1) = false from rfl, show ((5 : Int) == 2) = false from rfl, show ((5 : Int) == 3) = false from rfl, show ((5 : Int) == 4) = false from rfl, if_true, capOk_of (show r.1.length + (sbytes s).length ≤ 274877906944 by omega)]
    exact ⟨_, rfl, byB_app r2 hsb, by rw [List.length_append]; omega⟩
theorem evBits_l0 (L : List Int) : ∀ (t r : List Int), r.length = 8 → byB r → ∃ y, spec_PutBits_l0 L t r = some y ∧ y.length = 8 ∧ byB y
  | [], r, h1, h2 => ⟨r, rfl, h1, h2⟩
  | x :: t, r, h1, h2 => by
    unfold spec_PutBits_l0
    rw [l01In_val, Option.bind_some]
    rcases tf (decide ((1 : Int) ≤ x) && decide (x ≤ 64)) with q | q
    · have q' := q
      simp only [Bool.and_eq_true, decide_eq_true_eq] at q'
      obtain ⟨v, rfl⟩ : ∃ v : Nat, x = (v : Int) := ⟨x.toNat, by omega⟩
      obtain ⟨e1, e2, e3, e4, _⟩ := bits_arith (v := v) (by omega) (by omega)
      have hq : (v - 1) / 8 < r.length := by omega
      have hg : r[(v - 1) / 8]? = some r[(v - 1) / 8] := List.getElem?_eq_getElem hq
      have hxb := h2 _ (List.getElem_mem hq)
      have hor := bit_or r[(v - 1) / 8] hxb ((v - 1) % 8) 0 (by omega) (by omega)
      simp only [q, if_true, e1, e2, e3, e4, Int.natCast_nonneg, decide_true, Int.toNat_natCast, hg, Option.bind_some, show ¬ (((v - 1) % 8 : Nat) : Int) < 0 by omega, not_false_eq_true]
      exact evBits_l0 L t _ (by rw [List.length_set]; exact h1) (fun y hy => by
        rcases List.mem_or_eq_of_mem_set hy with hy | rfl
        · exact h2 y hy
        · exact hor.2)
    · simp only [q, Bool.false_eq_true, if_false]
      exact evBits_l0 L t r h1 h2
theorem evBits (l : List Int) (hl : l.length ≤ 100000) : ∃ y, spec_PutBits l = some y ∧ y.length = 8 ∧ byB y := by
  obtain ⟨y, e1, e2⟩ := evBits_l0 l l (List.replicate 8 0) (by simp) (fun b hb => by rw [List.mem_replicate] at hb; omega)
  unfold spec_PutBits
  simp only [Nat.zero_le, decide_true, if_true, show capOk 8 = true from rfl, capOk_of (show l.length ≤ 274877906944 by omega), e1, Option.bind_some]
  exact ⟨y, rfl, e2⟩
def sumC : List Int → Nat
  | [] => 0
  | x :: t => fldN x + sumC t
theorem sumC_erase : ∀ {N : List Int} {x : Int}, x ∈ N → sumC N = fldN x + sumC (N.erase x)
  | y :: N, x, h => by
    by_cases e : y = x
    · subst e; rw [List.erase_cons_head]; rfl
    · rw [List.erase_cons_tail (by simpa using e)]
      have h' : x ∈ N := (List.mem_cons.1 h).resolve_left (fun e' => e e'.symm)
      have := sumC_erase h'
      simp only [sumC]; omega
theorem sumC_le : ∀ (l N : List Int), l.Nodup → (∀ x ∈ l, x ∈ N) → sumC l ≤ sumC N
  | [], N, _, _ => Nat.zero_le _
  | x :: t, N, hd, hs => by
    have hd2 := List.nodup_cons.1 hd
    rw [sumC_erase (hs x (by simp))]
    have := sumC_le t (N.erase x) hd2.2 (fun y hy => (List.mem_erase_of_ne (fun e => hd2.1 (by rw [← e]; exact hy))).2 (hs y (by simp [hy])))
    simp only [sumC]; omega
theorem asc_nodup : ∀ {l : List Int} {v : Int}, ascI v l → l.Nodup
  | [], _, _ => List.nodup_nil
  | x :: t, v, h => List.nodup_cons.2 ⟨fun hm => by have := ascI_ge h.2 _ hm; omega, asc_nodup h.2⟩
theorem fok_no {no : Int} {s : ByteArray} (h : fok no s = true) : no ∈ noCases := by
  by_cases hm : no ∈ noCases
  · exact hm
  · have := frow_none hm
    exact absurd (show fkind no = 0 by unfold fkind; rw [this]) (fok_kinds h).2.2.1
theorem evBody {L : List Field → List Int → Option (List Int)} (h0 : ∀ v, L [] v = some v) (h1 : ∀ x t v, L (x :: t) v = (spec_PutField x.No x.Text).bind fun r => if (capOk (v.length + r.1.length)) = true then L t (v ++ r.1) else none) : ∀ (t : List Field) (v : List Int), (∀ f ∈ t, fok f.No f.Text = true) → byB v → v.length + sumC (t.map (·.No)) ≤ 1000000 → ∃ y, L t v = some y ∧ byB y ∧ v.length ≤ y.length ∧ y.length ≤ v.length + sumC (t.map (·.No))
  | [], v, _, hb, _ => ⟨v, h0 v, hb, Nat.le_refl _, by simp⟩
  | x :: t, v, ht, hb, hv => by
    simp only [List.map_cons, sumC] at hv ⊢
    obtain ⟨y, e1, e2, e3⟩ := evField x.No x.Text (ht x (by simp))
    obtain ⟨z, f1, f2, f3, f4⟩ := evBody h0 h1 t (v ++ y) (fun f hf => ht f (by simp [hf])) (byB_app hb e2) (by rw [List.length_append]; omega)
    rw [List.length_append] at f3 f4
    rw [h1, e1]
    simp only [Option.bind_some, capOk_of (show v.length + y.length ≤ 274877906944 by omega), if_true]
    exact ⟨z, f1, f2, by omega, by omega⟩
theorem evEnc_l0 (o : Msg) : ∀ (t : List Field) (a b : List Int), a.length + t.length ≤ 100000 → b.length + t.length ≤ 100000 → ∃ a' b', spec_Encode_l0 o t a b = some (a', b') ∧ a'.length ≤ a.length + t.length ∧ b'.length ≤ b.length + t.length
  | [], a, b, _, _ => ⟨a, b, rfl, by simp, by simp⟩
  | x :: t, a, b, ha, hb => by
    simp only [List.length_cons] at ha hb ⊢
    unfold spec_Encode_l0
    rcases tf (decide (64 < x.No)) with q | q
    · simp only [q, if_true, capOk_of (show b.length + 1 ≤ 274877906944 by omega)]
      obtain ⟨a', b', e1, e2, e3⟩ := evEnc_l0 o t a (b ++ [i64 (x.No - 64)]) (by omega) (by simp; omega)
      exact ⟨a', b', e1, by omega, by simp at e3; omega⟩
    · simp only [q, Bool.false_eq_true, if_false, capOk_of (show a.length + 1 ≤ 274877906944 by omega), if_true]
      obtain ⟨a', b', e1, e2, e3⟩ := evEnc_l0 o t (a ++ [x.No]) b (by simp; omega) (by omega)
      exact ⟨a', b', e1, by simp at e2; omega, by omega⟩
theorem evEncode {n : Nat} {m : Msg} (h : smM n m) (hn : n ≤ 10000) : ∃ b k, spec_Encode m = some (b, k) ∧ byB b ∧ b.length ≤ 290 ∧ (msgB m = true → 10 ≤ b.length) := by
  have h2 := h.2.1
  unfold spec_Encode
  rw [evMsgOk h (by omega), Option.bind_some]
  rcases tf (msgB m) with q | q
  · have q' := q
    unfold msgB at q'
    simp only [Bool.and_eq_true, beq_iff_eq] at q'
    obtain ⟨a1, a2⟩ := msgL_asc q'.2
    have hsum : sumC (m.List.map (·.No)) ≤ 260 := by
      have := sumC_le _ noCases (asc_nodup a2) (fun x hx => by
        obtain ⟨f, hf, rfl⟩ := List.mem_map.1 hx
        exact fok_no (a1 f hf))
      have hc : sumC noCases ≤ 260 := by decide +kernel
      omega
    obtain ⟨lo, hi, e1, e2, e3⟩ := evEnc_l0 m m.List [] [] (by simp; omega) (by simp; omega)
    simp only [List.length_nil] at e2 e3
    obtain ⟨mt, f1, f2, f3⟩ := evBcd m.Mti q'.1.1 (by omega)
    have f3 : mt.length = 2 := by omega
    obtain ⟨b1, g1, g2, g3⟩ := evBits (lo ++ [1]) (by simp; omega)
    obtain ⟨b2, i1, i2, i3⟩ := evBits hi (by omega)
    obtain ⟨b3, j1, j2, j3⟩ := evBits lo (by omega)
    obtain ⟨y, y1, y2, y3, y4⟩ := evBody (L := spec_Encode_l1 m) (fun _ => rfl) (fun _ _ _ => rfl) m.List ((mt ++ b1) ++ b2) a1 (byB_app (byB_app f2 g3) i3) (by simp; omega)
    obtain ⟨z, z1, z2, z3, z4⟩ := evBody (L := spec_Encode_l2 m) (fun _ => rfl) (fun _ _ _ => rfl) m.List (mt ++ b3) a1 (byB_app f2 j3) (by simp; omega)
    simp only [List.length_append] at y3 y4 z3 z4
    simp only [q, if_true, capOk_of (show m.List.length ≤ 274877906944 by omega), e1, Option.bind_some, f1, capOk_of (show lo.length + 1 ≤ 274877906944 by omega), g1, i1, j1, capOk_of (show mt.length + b1.length ≤ 274877906944 by omega), capOk_of (show (mt ++ b1).length + b2.length ≤ 274877906944 by rw [List.length_append]; omega), capOk_of (show mt.length + b3.length ≤ 274877906944 by omega), y1, z1]
    rcases tf (decide (0 < (hi.length : Int))) with p | p
    · simp only [p, if_true]
      exact ⟨_, _, rfl, y2, by omega, fun _ => by omega⟩
    · simp only [p, Bool.false_eq_true, if_false]
      exact ⟨_, _, rfl, z2, by omega, fun _ => by omega⟩
  · simp only [q, Bool.false_eq_true, if_false]
    exact ⟨_, _, rfl, fun b hb => by (cases hb), by simp, fun hh => by cases hh⟩
theorem evText (c : l01Cur) (no : Int) (h : cur c) : ∃ s c', spec_l03Text c no = some (s, c') ∧ cur c' ∧ s.size ≤ 1000 := by
  by_cases hn : fkind no = 0
  · have hs : fsize no = 0 := by have := Row_b no; omega
    have e1 : spec_l03Text_l1 0 0 FUEL c.b c.i c.h (bs []) = some (bs [], c.b, c.i, c.h) := by
      have e : FUEL = 4194303 + 1 := rfl
      rw [e]
      unfold spec_l03Text_l1
      rw [if_neg (by simp)]
    unfold spec_l03Text
    rw [Row_s, Row_k, hn, hs, Option.bind_some, Option.bind_some, show spec_l03Width 0 = some 0 from rfl, Option.bind_some, if_neg (by simp), e1]
    exact ⟨_, _, rfl, h, by show (bs []).size ≤ 1000; decide⟩
  · obtain ⟨s, c', e, k, f⟩ := l03Text_tot c no h hn
    exact ⟨s, c', e, k, by have := (fok_kinds f).2.1; omega⟩
theorem evNear (c : l01Cur) (lo hi : Int) (h : cur c) : ∃ r c', spec_l01Near c lo hi = some (r, c') ∧ cur c' := by
  obtain ⟨r, c1, e1, k1, _, _⟩ := Below_tot c 12 h
  unfold spec_l01Near
  rw [e1, Option.bind_some]
  obtain ⟨p, c2, e2, k2, _⟩ := Pick_tot c1 [0, 1, (-1), 2, 7, 99, 1000, 4611686018427387903, 4611686018427387904, 4611686018427387905, 9007199254740992, 9223372036854775807, (-9223372036854775808), 1000000000] k1 (by decide) (by decide)
  obtain ⟨n, c3, e3, k3, _, _⟩ := Below_tot c1 60000 k1
  obtain ⟨n4, c4, e4, k4, _, _⟩ := Below_tot c1 (i64 ((i64 (hi - lo)) + 1)) k1
  unfold spec_l01Raw
  simp only [e2, e3, e4, Option.bind_some]
  repeat' split
  all_goals first | exact ⟨_, _, rfl, k1⟩ | exact ⟨_, _, rfl, k2⟩ | exact ⟨_, _, rfl, k3⟩ | exact ⟨_, _, rfl, k4⟩
theorem evNo (c : l01Cur) (h : cur c) : ∃ r c', spec_l03No c = some (r, c') ∧ cur c' := by
  obtain ⟨r, c1, e1, k1⟩ := Once_tot c 10 h
  obtain ⟨n, c2, e2, k2⟩ := evNear c1 1 128 k1
  obtain ⟨p, c3, e3, k3, _⟩ := Pick_tot c1 [2, 3, 4, 7, 11, 14, 37, 38, 39, 41, 48, 49, 54, 95, 102, 103] k1 (by decide) (by decide)
  unfold spec_l03No
  rw [e1, Option.bind_some]
  simp only [e2, e3, Option.bind_some]
  cases r with
  | true => exact ⟨_, _, rfl, k2⟩
  | false => exact ⟨_, _, rfl, k3⟩
theorem evMsg (c : l01Cur) (h : cur c) : ∃ m c', spec_l11Msg c = some (m, c') ∧ cur c' ∧ smM 2000 m := by
  obtain ⟨q, c1, e1, k1, hq⟩ := l11Draw_tot c h
  obtain ⟨m, b, e2, s2⟩ := evReqMsg q hq
  obtain ⟨r3, c3, e3, k3, _, _⟩ := Below_tot c1 10 k1
  unfold spec_l11Msg
  simp only [e1, e2, e3, Option.bind_some]
  have s2' : smM 2000 m := smM_le s2 (by omega)
  have hT : (bs [84, 69, 82, 77, 48, 48, 48, 49]).size ≤ 1000 := by decide
  rcases tf (r3 == 0) with a0 | a0
  · obtain ⟨p, c4, e4, k4, _⟩ := Pick_tot c3 [2, 3, 4, 11, 14, 38, 103] k3 (by decide) (by decide)
    obtain ⟨m5, e5, s5⟩ := evWithout s2 (by omega) p
    simp only [a0, if_true, e4, e5, Option.bind_some]
    exact ⟨_, _, rfl, k4, smM_le s5 (by omega)⟩
  · rcases tf (r3 == 1) with a1 | a1
    · obtain ⟨n, c4, e4, k4⟩ := evNo c3 k3
      obtain ⟨t, c5, e5, k5, s5⟩ := evText c4 n k4
      obtain ⟨m6, b6, e6, s6⟩ := evWith s2 (by omega) n t s5
      simp only [a0, a1, Bool.false_eq_true, if_false, if_true, e4, e5, e6, Option.bind_some]
      cases b6 with
      | true => exact ⟨_, _, rfl, k5, smM_le s6 (by omega)⟩
      | false => exact ⟨_, _, rfl, k5, s2'⟩
    · rcases tf (r3 == 2) with a2 | a2
      · obtain ⟨s, c4, e4, k4, m4⟩ := Str_tot c3 [bs [48, 56, 48, 48], bs [48, 49, 49, 48], bs [48, 50, 48, 48], bs [48, 49, 48, 48]] k3 (by decide) (by decide)
        have hs : s.size ≤ 1000 := by
          simp only [List.mem_cons, List.not_mem_nil, or_false] at m4
          rcases m4 with rfl | rfl | rfl | rfl <;> decide
        simp only [a0, a1, a2, Bool.false_eq_true, if_false, if_true, e4, Option.bind_some]
        exact ⟨_, _, rfl, k4, hs, s2'.2.1, s2'.2.2⟩
      · rcases tf (r3 == 3) with a3 | a3
        · obtain ⟨p, c4, e4, k4, _⟩ := Pick_tot c3 [7, 37, 41, 49] k3 (by decide) (by decide)
          obtain ⟨m5, b5, e5, s5⟩ := evWith s2 (by omega) p (bs []) (by decide)
          obtain ⟨m6, b6, e6, s6⟩ := evWith s5 (by omega) 41 (bs [84, 69, 82, 77, 48, 48, 48, 49]) hT
          obtain ⟨m7, b7, e7, s7⟩ := evWith s2 (by omega) 41 (bs [84, 69, 82, 77, 48, 48, 48, 49]) hT
          simp only [a0, a1, a2, a3, Bool.false_eq_true, if_false, if_true, e4, e5, e6, e7, Option.bind_some]
          cases b5 with
          | true => cases b6 with
            | true => exact ⟨_, _, rfl, k4, smM_le s6 (by omega)⟩
            | false => exact ⟨_, _, rfl, k4, smM_le s5 (by omega)⟩
          | false => cases b7 with
            | true => exact ⟨_, _, rfl, k4, smM_le s7 (by omega)⟩
            | false => exact ⟨_, _, rfl, k4, s2'⟩
        · simp only [a0, a1, a2, a3, Bool.false_eq_true, if_false]
          exact ⟨_, _, rfl, k3, s2'⟩
theorem byB_set {b : List Int} (h : byB b) (i : Nat) (x : Int) : byB (b.set i (u8 x)) := fun y hy => by
  rcases List.mem_or_eq_of_mem_set hy with hy | rfl
  · exact h y hy
  · exact u8_rng x
theorem evBytes (c : l01Cur) (h : cur c) : ∃ b c', spec_l04Bytes c = some (b, c') ∧ cur c' ∧ byB b ∧ b.length ≤ 300 := by
  obtain ⟨m, c1, e1, k1, m1, m2, m3⟩ := l04Draw_tot c h
  have hmti : ∀ s ∈ mtiL, s.size ≤ 1000 := by decide +kernel
  have m1' := m1
  unfold msgB at m1'
  simp only [Bool.and_eq_true] at m1'
  have sm : smM 16 m := ⟨hmti _ m2, m3, fun f hf => by have := (fok_kinds ((msgL_asc m1'.2).1 f hf)).2.1; omega⟩
  obtain ⟨b, k, e2, b1, b2, b3⟩ := evEncode sm (by omega)
  have b3 := b3 m1
  obtain ⟨r3, c3, e3, k3, _, _⟩ := Below_tot c1 8 k1
  unfold spec_l04Bytes
  simp only [e1, e2, e3, Option.bind_some]
  rcases tf (r3 == 0) with a0 | a0
  · have i1 : i64 ((b.length : Int) + 1) = (b.length : Int) + 1 := i64_of (by omega) (by omega)
    obtain ⟨r4, c4, e4, k4, x4, y4⟩ := Below_tot c3 ((b.length : Int) + 1) k3
    have y4 := y4 (by omega)
    simp only [a0, if_true, i1, e4, Option.bind_some, x4, show r4 ≤ (b.length : Int) by omega, decide_true]
    exact ⟨_, _, rfl, k4, fun x hx => b1 x (List.mem_of_mem_take hx), by simp; omega⟩
  · rcases tf (r3 == 1) with a1 | a1
    · obtain ⟨r5, c5, e5, k5, x5, y5⟩ := Below_tot c3 (b.length : Int) k3
      have y5 := y5 (by omega)
      obtain ⟨r6, c6, e6, k6, _, _⟩ := Byte_tot c5 k5
      have hg : b[r5.toNat]? = some (b[r5.toNat]'(by omega)) := List.getElem?_eq_getElem _
      simp only [a0, a1, Bool.false_eq_true, if_false, if_true, e5, e6, Option.bind_some, x5, decide_true, hg]
      exact ⟨_, _, rfl, k6, byB_set b1 _ _, by simp; omega⟩
    · rcases tf (r3 == 2) with a2 | a2
      · obtain ⟨r5, c5, e5, k5, x5, y5⟩ := Below_tot c3 8 k3
        have y5 := y5 (by omega)
        obtain ⟨r6, c6, e6, k6, _, _⟩ := Byte_tot c5 k5
        have i1 : i64 (2 + r5) = 2 + r5 := i64_of (by omega) (by omega)
        have hg : b[(2 + r5).toNat]? = some (b[(2 + r5).toNat]'(by omega)) := List.getElem?_eq_getElem _
        simp only [a0, a1, a2, Bool.false_eq_true, if_false, if_true, e5, e6, Option.bind_some, i1, show (0 : Int) ≤ 2 + r5 by omega, decide_true, hg]
        exact ⟨_, _, rfl, k6, byB_set b1 _ _, by simp; omega⟩
      · rcases tf (r3 == 3) with a3 | a3
        · obtain ⟨r6, c6, e6, k6, _, _⟩ := Byte_tot c3 k3
          simp only [a0, a1, a2, a3, Bool.false_eq_true, if_false, if_true, e6, Option.bind_some, capOk_of (show b.length + 1 ≤ 274877906944 by omega)]
          exact ⟨_, _, rfl, k6, byB_app b1 (fun x hx => by rw [List.mem_singleton.1 hx]; exact u8_rng _), by simp; omega⟩
        · simp only [a0, a1, a2, a3, Bool.false_eq_true, if_false]
          exact ⟨_, _, rfl, k3, b1, by omega⟩
theorem evData (c : l01Cur) (b : Book) (h : cur c) (hb : ∀ a ∈ b.Accts, acctE a) (hl : b.Accts.length ≤ 6) : ∃ d c', spec_l12Data c b = some (d, c') ∧ cur c' ∧ byB d ∧ d.length ≤ 300 := by
  obtain ⟨r1, c1, e1, k1⟩ := Once_tot c 14 h
  obtain ⟨d2, c2, e2, k2, x2, y2⟩ := evBytes c1 k1
  obtain ⟨r3, c3, e3, k3⟩ := Once_tot c1 14 k1
  obtain ⟨m4, c4, e4, k4, s4⟩ := evMsg c3 k3
  obtain ⟨d5, b5, e5, x5, y5, _⟩ := evEncode s4 (by omega)
  obtain ⟨q6, c6, e6, k6, hq⟩ := l12Req_tot c3 b k3 hb hl
  obtain ⟨m7, b7, e7, s7⟩ := evReqMsg q6 hq
  obtain ⟨r8, c8, e8, k8⟩ := Once_tot c6 4 k6
  obtain ⟨m9, b9, e9, s9⟩ := evWith s7 (by omega) 41 (bs [84, 69, 82, 77, 48, 48, 48, 49]) (by decide)
  have last : ∀ (d : List Int), byB d → d.length ≤ 290 → ∃ d' c', ((spec_l01Once c8 20).bind fun r11 =>
     if r11.1 = true then
     if (decide (0 < (d.length : Int))) = true then
     (spec_l01Below r11.2 (d.length : Int)).bind fun r12 =>
     (spec_l01Byte r12.2).bind fun r13 =>
     if (decide (0 ≤ r12.1)) = true then
     (d[r12.1.toNat]?).bind fun x1 =>
     some ((d.set r12.1.toNat (u8 r13.1)), r13.2)
     else none
     else
     some (d, r11.2)
     else
     some (d, r11.2)) = some (d', c') ∧ cur c' ∧ byB d' ∧ d'.length ≤ 300 := fun d hd1 hd2 => by
    obtain ⟨r, c9, f1, g1⟩ := Once_tot c8 20 k8
    rw [f1, Option.bind_some]
    cases r with
    | false => exact ⟨_, _, rfl, g1, hd1, by omega⟩
    | true =>
      rw [if_pos rfl]
      by_cases h0 : d.length = 0
      · rw [if_neg (by rw [decide_eq_true_eq]; omega)]
        exact ⟨_, _, rfl, g1, hd1, by omega⟩
      · obtain ⟨n, c10, f2, g2, a2, b2⟩ := Below_tot c9 (d.length : Int) g1
        have b2 := b2 (by omega)
        obtain ⟨y, c11, f3, g3, _, _⟩ := Byte_tot c10 g2
        have hg : d[n.toNat]? = some (d[n.toNat]'(by omega)) := List.getElem?_eq_getElem _
        rw [if_pos (decide_eq_true (by omega))]
        simp only [f2, f3, Option.bind_some, a2, decide_true, if_true, hg]
        exact ⟨_, _, rfl, g3, byB_set hd1 _ _, by simp; omega⟩
  unfold spec_l12Data
  rw [e1, Option.bind_some]
  cases r1 with
  | true =>
    rw [if_pos rfl, e2, Option.bind_some]
    exact ⟨_, _, rfl, k2, x2, y2⟩
  | false =>
    rw [if_neg (by simp), e3, Option.bind_some]
    cases r3 with
    | true =>
      rw [if_pos rfl, e4, Option.bind_some, e5, Option.bind_some]
      exact ⟨_, _, rfl, k4, x5, by show d5.length ≤ 300; omega⟩
    | false =>
      rw [if_neg (by simp), e6, Option.bind_some, e7, Option.bind_some, e8, Option.bind_some]
      cases r8 with
      | true =>
        obtain ⟨d, b10, f1, f2, f3, _⟩ := evEncode s9 (by omega)
        rw [if_pos rfl, e9, Option.bind_some, f1, Option.bind_some]
        exact last d f2 f3
      | false =>
        obtain ⟨d, b10, f1, f2, f3, _⟩ := evEncode s7 (by omega)
        rw [if_neg (by simp), f1, Option.bind_some]
        exact last d f2 f3
/-- An event as it is drawn. -/
def evP (e : Event) : Prop := (e.Kind = 1 ∧ e.K = 0 ∧ byB e.Data ∧ e.Data.length ≤ 300) ∨ (e.Kind = 2 ∧ 0 ≤ e.K ∧ e.K ≤ 11 ∧ e.Data = []) ∨ (e.Kind = 3 ∧ 1 ≤ e.K ∧ e.K ≤ 100 ∧ e.Data = [])
theorem evEvent (c : l01Cur) (b : Book) (h : cur c) (hb : ∀ a ∈ b.Accts, acctE a) (hl : b.Accts.length ≤ 6) : ∃ e c', spec_l17Event c b = some (e, c') ∧ cur c' ∧ evP e := by
  obtain ⟨r1, c1, e1, k1, _, _⟩ := Below_tot c 9 h
  obtain ⟨d, c2, e2, k2, x2, y2⟩ := evData c1 b k1 hb hl
  obtain ⟨n4, c4, e4, k4, x4, y4⟩ := Below_tot c1 5 k1
  obtain ⟨n5, c5, e5, k5, x5, y5⟩ := Below_tot c1 6 k1
  have y4 := y4 (by omega)
  have y5 := y5 (by omega)
  have i4 : i64 (1 + n4) = 1 + n4 := i64_of (by omega) (by omega)
  unfold spec_l17Event
  simp only [e1, e2, e4, e5, i4, Option.bind_some]
  have w1 : evP ⟨1, 0, d⟩ := .inl ⟨rfl, rfl, x2, y2⟩
  have w3 : evP ⟨3, 1 + n4, []⟩ := .inr (.inr ⟨rfl, by show 1 ≤ 1 + n4; omega, by show 1 + n4 ≤ 100; omega, rfl⟩)
  have w2 : evP ⟨2, n5, []⟩ := .inr (.inl ⟨rfl, x5, by show n5 ≤ 11; omega, rfl⟩)
  repeat' split
  all_goals first | exact ⟨_, _, rfl, k2, w1⟩ | exact ⟨_, _, rfl, k4, w3⟩ | exact ⟨_, _, rfl, k5, w2⟩
theorem evP_app {l : List Event} {e : Event} (h : ∀ x ∈ l, evP x) (he : evP e) : ∀ x ∈ l ++ [e], evP x := fun x hx => by
  rcases List.mem_append.1 hx with hx | hx
  · exact h x hx
  · rw [List.mem_singleton.1 hx]; exact he
theorem evs_l0 (b : Book) (most : Int) (hb : ∀ a ∈ b.Accts, acctE a) (hl : b.Accts.length ≤ 6) : ∀ (n : Nat) (v : List Int) (i h k : Int) (w : List Event), cur (l01Cur.mk v i h) → k < n → k ≤ 1000 → 0 ≤ k → w.length + k ≤ 100000 → (∀ x ∈ w, evP x) →
    ∃ v' i' h' y, spec_l17Events_l0 b most n v i h k w = some (v', i', h', y) ∧ cur (l01Cur.mk v' i' h') ∧ (∀ x ∈ y, evP x) ∧ (y.length : Int) = w.length + k
  | 0, v, i, h, k, w, hc, hn, hk, hk0, hv, hw => by omega
  | n + 1, v, i, h, k, w, hc, hn, hk, hk0, hv, hw => by
    unfold spec_l17Events_l0
    by_cases h2 : 0 < k
    · obtain ⟨d, c2, e2, k2, x2, y2⟩ := evData _ b hc hb hl
      have i3 : i64 (k - 1) = k - 1 := i64_of (by omega) (by omega)
      simp only [h2, decide_true, if_true, e2, Option.bind_some, i3, capOk_of (show w.length + 1 ≤ 274877906944 by omega)]
      obtain ⟨v', i', h', y, q1, q2, q3, q4⟩ := evs_l0 b most hb hl n c2.b c2.i c2.h (k - 1) (w ++ [⟨1, 0, d⟩]) k2 (by omega) (by omega) (by omega) (by simp; omega) (evP_app hw (.inl ⟨rfl, rfl, x2, y2⟩))
      exact ⟨v', i', h', y, q1, q2, q3, by rw [q4]; simp; omega⟩
    · simp only [h2, decide_false, Bool.false_eq_true, if_false]
      exact ⟨v, i, h, w, rfl, hc, hw, by omega⟩
theorem evs_l1 (b : Book) (hb : ∀ a ∈ b.Accts, acctE a) (hl : b.Accts.length ≤ 6) : ∀ (n : Nat) (v : List Int) (i h k : Int) (w : List Event), cur (l01Cur.mk v i h) → k < n → k ≤ 1000 → 0 ≤ k → w.length + k ≤ 100000 → (∀ x ∈ w, evP x) →
    ∃ v' i' h' y, spec_l17Events_l1 b n v i h k w = some (v', i', h', y) ∧ cur (l01Cur.mk v' i' h') ∧ (∀ x ∈ y, evP x) ∧ (y.length : Int) = w.length + k
  | 0, v, i, h, k, w, hc, hn, hk, hk0, hv, hw => by omega
  | n + 1, v, i, h, k, w, hc, hn, hk, hk0, hv, hw => by
    unfold spec_l17Events_l1
    by_cases h2 : 0 < k
    · obtain ⟨e, c2, e2, k2, x2⟩ := evEvent _ b hc hb hl
      have i3 : i64 (k - 1) = k - 1 := i64_of (by omega) (by omega)
      simp only [h2, decide_true, if_true, e2, Option.bind_some, i3, capOk_of (show w.length + 1 ≤ 274877906944 by omega)]
      obtain ⟨v', i', h', y, q1, q2, q3, q4⟩ := evs_l1 b hb hl n c2.b c2.i c2.h (k - 1) (w ++ [e]) k2 (by omega) (by omega) (by omega) (by simp; omega) (evP_app hw x2)
      exact ⟨v', i', h', y, q1, q2, q3, by rw [q4]; simp; omega⟩
    · simp only [h2, decide_false, Bool.false_eq_true, if_false]
      exact ⟨v, i, h, w, rfl, hc, hw, by omega⟩
theorem evMake (code : List Int) (h : code.length ≤ 1048576) : ∃ l, spec_MakeEvents code = some l ∧ (∀ x ∈ l, evP x) ∧ l.length ≤ 20 := by
  obtain ⟨c, e, k⟩ := New_tot code h
  obtain ⟨b', i', h', y, e2, k2, hl, hd⟩ := l12DrawE_l0 6 FUEL 0 c.b c.i c.h [] k rfl (by unfold FUEL; omega) (by simp) (by simp)
  have e2 : spec_l12Draw_l0 FUEL c.b c.i c.h 0 [] = some (b', i', h', y) := e2
  obtain ⟨n, c3, e3, k3, x3, y3⟩ := Below_tot (l01Cur.mk b' i' h') 5 k2
  have y3 := y3 (by omega)
  obtain ⟨v', j', g', w, f1, f2, f3, f4⟩ := evs_l0 ⟨y⟩ 12 hd hl FUEL c3.b c3.i c3.h n [] k3 (by unfold FUEL; omega) (by omega) x3 (by simp; omega) (by simp)
  obtain ⟨m, c5, e5, k5, x5, y5⟩ := Below_tot (l01Cur.mk v' j' g') 13 f2
  have y5 := y5 (by omega)
  simp only [List.length_nil] at f4
  obtain ⟨v6, j6, g6, z, z1, z2, z3, z4⟩ := evs_l1 ⟨y⟩ hd hl FUEL c5.b c5.i c5.h m w k5 (by unfold FUEL; omega) (by omega) x5 (by omega) f3
  unfold spec_MakeEvents spec_l12Draw spec_l17Events
  simp only [e, e2, e3, f1, show i64 ((12 : Int) + 1) = 13 from by decide, e5, z1, Option.bind_some]
  exact ⟨z, rfl, z3, by omega⟩
theorem hx_back {x : Int} (h : 0 ≤ x ∧ x ≤ 15) : hx (sAt hexS x) = x ∧ 0 ≤ sAt hexS x ∧ sAt hexS x ≤ 255 ∧ sAt hexS x ≠ 10 := by
  have key : ∀ n : Fin 16, hx (sAt hexS ((n.val : Nat) : Int)) = ((n.val : Nat) : Int) ∧ 0 ≤ sAt hexS ((n.val : Nat) : Int) ∧ sAt hexS ((n.val : Nat) : Int) ≤ 255 ∧ sAt hexS ((n.val : Nat) : Int) ≠ 10 := by decide +kernel
  have := key ⟨x.toNat, by omega⟩
  have e : ((x.toNat : Nat) : Int) = x := by omega
  simpa only [e] using this
theorem hexL_mem {l : List Int} (hb : byB l) : ∀ x ∈ l.flatMap hexL, 0 ≤ x ∧ x ≤ 255 ∧ x ≠ 10 := fun x h => by
  rw [List.mem_flatMap] at h
  obtain ⟨y, hy, hx⟩ := h
  have hyb := hb y hy
  simp only [hexL, List.mem_cons, List.not_mem_nil, or_false] at hx
  rcases hx with rfl | rfl
  · exact (hx_back (by omega)).2
  · exact (hx_back (by omega)).2
theorem evHexText (l : List Int) (hb : byB l) (h : l.length ≤ 300) : impl_HexText l = some (hexT l) := by
  unfold impl_HexText
  rw [impl_HexText_l0_val l l [] hb (by simp; omega), capOk_of (by omega), if_pos rfl, Option.bind_some, List.nil_append]
  rfl
theorem evHex_l0 (s : ByteArray) (hs : s.size ≤ 4000000) : ∀ (t : List Int) (fuel v : Nat) (w : List Int), byB t → (sbytes s).drop v = t.flatMap hexL → t.length < fuel → w.length + t.length ≤ 100000 → impl_TextHex_l0 s fuel (v : Int) w = some (.out (w ++ t))
  | t, 0, v, w, _, _, hf, _ => by omega
  | [], fuel + 1, v, w, _, hd, _, _ => by
    have h := congrArg List.length hd
    rw [List.length_drop, sbytes_len] at h
    simp only [List.flatMap_nil, List.length_nil] at h
    unfold impl_TextHex_l0
    rw [if_neg (by rw [decide_eq_true_eq]; omega), List.append_nil]
  | x :: t, fuel + 1, v, w, hb, hd, hf, hw => by
    simp only [List.length_cons] at hf hw
    have hx' := hb x (by simp)
    rw [List.flatMap_cons] at hd
    have hl : v + 2 ≤ s.size := by
      have h := congrArg List.length hd
      rw [List.length_drop, List.length_append, sbytes_len] at h
      have : (hexL x).length = 2 := rfl
      omega
    have g0 : sAt s (v : Int) = sAt hexS (x / 16) := by
      have h := sAt_get s (i := v) (by omega)
      have h2 : (sbytes s)[v]? = ((sbytes s).drop v)[0]? := by rw [List.getElem?_drop]; rfl
      rw [h2, hd] at h
      exact (Option.some.inj h).symm
    have g1 : sAt s ((v + 1 : Nat) : Int) = sAt hexS (x % 16) := by
      have h := sAt_get s (i := v + 1) (by omega)
      have h2 : (sbytes s)[v + 1]? = ((sbytes s).drop v)[1]? := by rw [List.getElem?_drop]
      rw [h2, hd] at h
      exact (Option.some.inj h).symm
    have hd2 : (sbytes s).drop (v + 2) = t.flatMap hexL := by rw [← List.drop_drop, hd]; rfl
    obtain ⟨a1, _, _, _⟩ := hx_back (x := x / 16) (by omega)
    obtain ⟨b1, _, _, _⟩ := hx_back (x := x % 16) (by omega)
    have hi' : i64 ((v : Int) + 1) = ((v + 1 : Nat) : Int) := by rw [i64_of (by omega) (by omega)]; omega
    have hi2 : i64 ((v : Int) + 2) = ((v + 2 : Nat) : Int) := by rw [i64_of (by omega) (by omega)]; omega
    have ib : ∀ z, strings_IndexByte (bs [48, 49, 50, 51, 52, 53, 54, 55, 56, 57, 97, 98, 99, 100, 101, 102]) z = some (hx z) := fun z => rfl
    have e1 : i64 (16 * (x / 16)) = 16 * (x / 16) := i64_of (by omega) (by omega)
    have e2 : i64 (16 * (x / 16) + x % 16) = x := by rw [i64_of (by omega) (by omega)]; omega
    have e3 : u8 x = x := u8_of (by omega) (by omega)
    have ih := evHex_l0 s hs t fuel (v + 2) (w ++ [x]) (fun y hy => hb y (by simp [hy])) hd2 (by omega) (by simp; omega)
    unfold impl_TextHex_l0
    simp only [hi', hi2, show (v : Int) < (s.size : Int) by omega, show (0 : Int) ≤ (v : Int) by omega, show (0 : Int) ≤ ((v + 1 : Nat) : Int) by omega, show ((v + 1 : Nat) : Int) < (s.size : Int) by omega, decide_true, if_true, g0, g1, ib, a1, b1, Option.bind_some,
      show ¬ x / 16 < 0 by omega, show ¬ x % 16 < 0 by omega, decide_false, Bool.false_eq_true, if_false, capOk_of (show w.length + 1 ≤ 274877906944 by omega), e1, e2, e3, ih, List.append_assoc]
    rfl
theorem evHex (l : List Int) (hb : byB l) (h : l.length ≤ 300) : impl_TextHex (hexT l) = some (l, true) := by
  have hz := hexT_size l
  have hm : Int.tmod ((hexT l).size : Int) 2 = 0 := by rw [Int.tmod_eq_emod_of_nonneg (by omega)]; omega
  have hsb : sbytes (hexT l) = l.flatMap hexL := sbytes_bstr (fun x hx => by have := hexL_mem hb x hx; omega)
  have L := evHex_l0 (hexT l) (by omega) l FUEL 0 [] hb (by rw [List.drop_zero]; exact hsb) (by unfold FUEL; omega) (by simp; omega)
  have L : impl_TextHex_l0 (hexT l) FUEL 0 [] = some (.out l) := L
  unfold impl_TextHex
  rw [hm, L]
  rfl
theorem evNum (n : Int) (h : 0 ≤ n ∧ n ≤ 100) : tnum (numT n) = (n, true) ∧ (10 : UInt8) ∉ (numT n).data.toList := by
  have key : ∀ n : Fin 101, tnum (numT ((n.val : Nat) : Int)) = (((n.val : Nat) : Int), true) ∧ (10 : UInt8) ∉ (numT ((n.val : Nat) : Int)).data.toList := by decide +kernel
  have := key ⟨n.toNat, by omega⟩
  have e : ((n.toNat : Nat) : Int) = n := by omega
  simpa only [e] using this
theorem hexT_line {l : List Int} (hb : byB l) : (10 : UInt8) ∉ (hexT l).data.toList := fun h => by
  unfold hexT at h
  rw [bstr_list, List.mem_map] at h
  obtain ⟨x, hx, e⟩ := h
  have hm := hexL_mem hb x hx
  have := byte_inj (a := x) (b := 10) (by omega) (by omega) (by rw [e]; rfl)
  omega
def arriveS : ByteArray := bs [97, 114, 114, 105, 118, 101, 32]
def pickS : ByteArray := bs [112, 105, 99, 107, 32]
def passS : ByteArray := bs [112, 97, 115, 115, 32]
def evT (e : Event) : ByteArray := if (e.Kind == 1) = true then arriveS ++ hexT e.Data else if (e.Kind == 2) = true then pickS ++ numT e.K else passS ++ numT e.K
/-- What is told of an event's line. -/
def lineP (e : Event) (s : ByteArray) : Prop := impl_EventText e = some s ∧ impl_TextEvent s = some (e, true) ∧ (10 : UInt8) ∉ s.data.toList ∧ s.size ≤ 700 ∧ 1 ≤ s.size ∧ (sAt s 0 == 35) = false
theorem ne_empty {s : ByteArray} (h : 1 ≤ s.size) : (s == bs []) = false := by
  rw [beqB, decide_eq_false_iff_not]
  intro e
  rw [e] at h
  have : (bs []).size = 0 := rfl
  omega
theorem head_s (p : List UInt8) (b : UInt8) (r : ByteArray) : sAt (bs (b :: p) ++ r) 0 = (b.toNat : Int) := by
  have h := sAt_get (bs (b :: p) ++ r) (i := 0) (by rw [size_app]; show 0 < (p.length + 1) + _; omega)
  rw [sbytes_app] at h
  exact (Option.some.inj h).symm
theorem cut_word (p : List UInt8) (r : ByteArray) (hp : (32 : UInt8) ∉ p) : cutP (bs (p ++ [32]) ++ r) (bs [32]) = (bs p, r, true) := by
  rw [cutP_hit (s := bs (p ++ [32]) ++ r) (p := p) (t := r.data.toList) (by rw [ba_app]; show (p ++ [32]) ++ _ = _; simp) hp, mkB_data]
  rfl
theorem evLine (e : Event) (h : evP e) : lineP e (evT e) := by
  obtain ⟨k, n, d⟩ := e
  rcases h with ⟨h1, h2, h3, h4⟩ | ⟨h1, h2, h3, h4⟩ | ⟨h1, h2, h3, h4⟩
  · have h1 : k = 1 := h1
    have h2 : n = 0 := h2
    subst h1 h2
    have h3 : byB d := h3
    have h4 : d.length ≤ 300 := h4
    have hz := hexT_size d
    have hs : (arriveS ++ hexT d).size = 7 + 2 * d.length := by rw [size_app, hz]; rfl
    have e1 : impl_EventText ⟨1, 0, d⟩ = some (arriveS ++ hexT d) := by
      unfold impl_EventText impl_EventOk
      simp only [show ((1 : Int) == 1) = true from rfl, show ((0 : Int) == 0) = true from rfl, if_true, Option.bind_some, show (d.length : Int) ≤ 300 by omega, decide_true, evHexText d h3 h4, show (bs [97, 114, 114, 105, 118, 101, 32]).size + (hexT d).size ≤ 9223372036854775807 from by rw [hz]; show 7 + _ ≤ _; omega]
      rfl
    refine ⟨e1, ?_, ?_, by show (arriveS ++ hexT d).size ≤ 700; omega, by show 1 ≤ (arriveS ++ hexT d).size; omega, ?_⟩
    · show impl_TextEvent (arriveS ++ hexT d) = _
      unfold impl_TextEvent
      rw [Cut_one _ (by omega), show cutP (arriveS ++ hexT d) (bs [32]) = _ from cut_word [97, 114, 114, 105, 118, 101] (hexT d) (by decide), Option.bind_some]
      unfold impl_TextEvent_c0
      rw [if_pos (by rfl), evHex d h3 h4, Option.bind_some, Option.bind_some]
      unfold impl_TextEvent_c1
      rw [ne_empty (by omega), if_neg (by simp), e1, Option.bind_some, if_pos (by rw [beqB]; exact decide_eq_true rfl)]
      rfl
    · show (10 : UInt8) ∉ (arriveS ++ hexT d).data.toList
      rw [ba_app, List.mem_append]
      exact fun hh => hh.elim (by decide) (hexT_line h3)
    · show (sAt (bs (97 :: [114, 114, 105, 118, 101, 32]) ++ hexT d) 0 == 35) = false
      rw [head_s]; rfl
  · have h1 : k = 2 := h1
    have h4 : d = [] := h4
    subst h1 h4
    have h2 : 0 ≤ n := h2
    have h3 : n ≤ 11 := h3
    obtain ⟨t1, t2⟩ := evNum n (by omega)
    have hz := numT_size n
    have hs : (pickS ++ numT n).size = 5 + (numT n).size := by rw [size_app]; rfl
    have e1 : impl_EventText ⟨2, n, []⟩ = some (pickS ++ numT n) := by
      unfold impl_EventText impl_EventOk
      simp only [show ((2 : Int) == 1) = false from rfl, show ((2 : Int) == 2) = true from rfl, Bool.false_eq_true, if_false, if_true, within_val, Option.bind_some, h2, h3, decide_true, Bool.and_self, List.length_nil, impl_NumText_val, show (bs [112, 105, 99, 107, 32]).size + (numT n).size ≤ 9223372036854775807 from by show 5 + _ ≤ _; omega]
      rfl
    refine ⟨e1, ?_, ?_, by show (pickS ++ numT n).size ≤ 700; omega, by show 1 ≤ (pickS ++ numT n).size; omega, ?_⟩
    · show impl_TextEvent (pickS ++ numT n) = _
      unfold impl_TextEvent
      rw [Cut_one _ (by omega), show cutP (pickS ++ numT n) (bs [32]) = _ from cut_word [112, 105, 99, 107] (numT n) (by decide), Option.bind_some]
      unfold impl_TextEvent_c0
      rw [if_neg (show ¬ (bs [112, 105, 99, 107] == bs [97, 114, 114, 105, 118, 101]) = true by decide), if_pos (by rfl), impl_TextNum_val _ (by show (numT n).size ≤ _; omega), Option.bind_some, Option.bind_some]
      unfold impl_TextEvent_c1
      rw [show tnum (bs [112, 105, 99, 107], numT n, true).2.1 = (n, true) from t1, ne_empty (by omega), if_neg (by simp), e1, Option.bind_some, if_pos (by rw [beqB]; exact decide_eq_true rfl)]
      rfl
    · show (10 : UInt8) ∉ (pickS ++ numT n).data.toList
      rw [ba_app, List.mem_append]
      exact fun hh => hh.elim (by decide) t2
    · show (sAt (bs (112 :: [105, 99, 107, 32]) ++ numT n) 0 == 35) = false
      rw [head_s]; rfl
  · have h1 : k = 3 := h1
    have h4 : d = [] := h4
    subst h1 h4
    have h2 : 1 ≤ n := h2
    have h3 : n ≤ 100 := h3
    obtain ⟨t1, t2⟩ := evNum n (by omega)
    have hz := numT_size n
    have hs : (passS ++ numT n).size = 5 + (numT n).size := by rw [size_app]; rfl
    have e1 : impl_EventText ⟨3, n, []⟩ = some (passS ++ numT n) := by
      unfold impl_EventText impl_EventOk
      simp only [show ((3 : Int) == 1) = false from rfl, show ((3 : Int) == 2) = false from rfl, show ((3 : Int) == 3) = true from rfl, Bool.false_eq_true, if_false, if_true, within_val, Option.bind_some, h2, show n ≤ 1000 by omega, decide_true, Bool.and_self, List.length_nil, impl_NumText_val, show (bs [112, 97, 115, 115, 32]).size + (numT n).size ≤ 9223372036854775807 from by show 5 + _ ≤ _; omega]
      rfl
    refine ⟨e1, ?_, ?_, by show (passS ++ numT n).size ≤ 700; omega, by show 1 ≤ (passS ++ numT n).size; omega, ?_⟩
    · show impl_TextEvent (passS ++ numT n) = _
      unfold impl_TextEvent
      rw [Cut_one _ (by omega), show cutP (passS ++ numT n) (bs [32]) = _ from cut_word [112, 97, 115, 115] (numT n) (by decide), Option.bind_some]
      unfold impl_TextEvent_c0
      rw [if_neg (show ¬ (bs [112, 97, 115, 115] == bs [97, 114, 114, 105, 118, 101]) = true by decide), if_neg (show ¬ (bs [112, 97, 115, 115] == bs [112, 105, 99, 107]) = true by decide), if_pos (by rfl), impl_TextNum_val _ (by show (numT n).size ≤ _; omega), Option.bind_some, Option.bind_some]
      unfold impl_TextEvent_c1
      rw [show tnum (bs [112, 97, 115, 115], numT n, true).2.1 = (n, true) from t1, ne_empty (by omega), if_neg (by simp), e1, Option.bind_some, if_pos (by rw [beqB]; exact decide_eq_true rfl)]
      rfl
    · show (10 : UInt8) ∉ (passS ++ numT n).data.toList
      rw [ba_app, List.mem_append]
      exact fun hh => hh.elim (by decide) t2
    · show (sAt (bs (112 :: [97, 115, 115, 32]) ++ numT n) 0 == 35) = false
      rw [head_s]; rfl
def evsT : List Event → ByteArray
  | [] => bs []
  | e :: t => (evT e ++ bs [10]) ++ evsT t
theorem evsT_size : ∀ t : List Event, (∀ x ∈ t, evP x) → (evsT t).size ≤ 701 * t.length
  | [], _ => by decide
  | e :: t, h => by
    have ih := evsT_size t (fun x hx => h x (by simp [hx]))
    have := (evLine e (h e (by simp))).2.2.2.1
    have s1 : (bs [10]).size = 1 := rfl
    unfold evsT
    rw [size_app, size_app, s1, List.length_cons]
    omega
theorem evs_text_l0 (l : List Event) : ∀ (t : List Event) (v : ByteArray), (∀ x ∈ t, evP x) → v.size + 701 * t.length ≤ 100000000 → impl_EventsText_l0 l t v = some (.out (v ++ evsT t))
  | [], v, _, _ => by unfold impl_EventsText_l0 evsT; rw [ba_app_nil]
  | e :: t, v, h, hv => by
    simp only [List.length_cons] at hv
    obtain ⟨e1, e2, e3, e4, e5, e6⟩ := evLine e (h e (by simp))
    have s1 : (bs [10]).size = 1 := rfl
    have ih := evs_text_l0 l t (v ++ (evT e ++ bs [10])) (fun x hx => h x (by simp [hx])) (by rw [size_app, size_app, s1]; omega)
    unfold impl_EventsText_l0
    rw [e1, Option.bind_some, ne_empty e5, if_neg (by simp), if_pos (decide_eq_true (by rw [s1]; omega)), if_pos (decide_eq_true (by rw [size_app, s1]; omega)), ih, ba_assoc]
    rfl
theorem evs_text (l : List Event) (h : ∀ x ∈ l, evP x) (hl : l.length ≤ 1000) : impl_EventsText l = some (evsT l) := by
  unfold impl_EventsText
  rw [capOk_of (by omega), if_pos rfl, evs_text_l0 l l (bs []) h (by show 0 + _ ≤ _; omega), ba_nil_app]
  rfl
theorem evs_pcs : ∀ (t : List Event) (tl : List UInt8), (∀ x ∈ t, evP x) → pcs 10 ((evsT t).data.toList ++ tl) = t.map (fun e => (evT e).data.toList) ++ pcs 10 tl
  | [], tl, _ => rfl
  | e :: t, tl, h => by
    have ih := evs_pcs t tl (fun x hx => h x (by simp [hx]))
    obtain ⟨_, _, e3, _⟩ := evLine e (h e (by simp))
    unfold evsT
    rw [ba_app, ba_app, show ((evT e).data.toList ++ (bs [10]).data.toList ++ (evsT t).data.toList) ++ tl = (evT e).data.toList ++ 10 :: ((evsT t).data.toList ++ tl) from by show ((_ ++ [10]) ++ _) ++ _ = _; simp, pcs_hit _ e3, ih]
    rfl
theorem evs_map (t : List Event) : (t.map (fun e => (evT e).data.toList)).map mkB = t.map evT := by
  rw [List.map_map]
  apply List.map_congr_left
  intro x _
  exact mkB_data _
theorem Lines_i (s : ByteArray) (hs : s.size ≤ 4000000) (L : List ByteArray) (x : ByteArray) (h : pcsB 10 s = L ++ [x]) : impl_Lines s = some (if (x == bs []) = true then L else L ++ [x]) := by
  have h1 := strings_Split_val s hs 10
  have h2 := pcsB_wt 10 s
  have h3 := wtL_len (fun s : ByteArray => s.size) (pcsB 10 s)
  rw [h] at h1 h3 h2
  have hl : (L ++ [x]).length = L.length + 1 := by simp
  rw [hl] at h3
  have e : i64 (((L ++ [x]).length : Int) - 1) = (L.length : Int) := by rw [hl, i64_of (by omega) (by omega)]; omega
  unfold impl_Lines
  rw [h1, Option.bind_some, e]
  have hg : (L ++ [x])[L.length]? = some x := by simp
  simp only [Int.natCast_nonneg, decide_true, if_true, Int.toNat_natCast, hg, Option.bind_some, show (L.length : Int) ≤ ((L ++ [x]).length : Int) by rw [hl]; omega]
  rcases tf (x == bs []) with q | q
  · simp only [q, if_true, List.take_left']
  · simp only [q, Bool.false_eq_true, if_false]
theorem read_evs (r : List ByteArray) : ∀ (t : List Event) (tl p : List ByteArray) (w : List Event), (∀ x ∈ t, evP x) → w.length + t.length ≤ 100000 → impl_ReadEvents_l0 r (t.map evT ++ tl) p w = impl_ReadEvents_l0 r tl (p ++ t.map evT) (w ++ t)
  | [], tl, p, w, _, _ => by simp
  | e :: t, tl, p, w, h, hw => by
    simp only [List.length_cons] at hw
    obtain ⟨e1, e2, e3, e4, e5, e6⟩ := evLine e (h e (by simp))
    have ih := read_evs r t tl (p ++ [evT e]) (w ++ [e]) (fun x hx => h x (by simp [hx])) (by simp; omega)
    rw [List.map_cons, List.cons_append]
    conv => lhs; unfold impl_ReadEvents_l0
    simp only [ne_empty e5, Bool.false_eq_true, if_false, Nat.le_refl, decide_true, if_true, show (0 : Int) < ((evT e).size : Int) by omega, e6, e2, Option.bind_some, capOk_of (show w.length + 1 ≤ 274877906944 by omega), ih, List.append_assoc]
    rfl
theorem read_so (l : List Event) (h : ∀ x ∈ l, evP x) (hl : l.length ≤ 1000) : impl_ReadEvents (bs [35, 32, 115, 111, 10, 10] ++ evsT l) = some (l, 0) := by
  have hz := evsT_size l h
  have hs : (bs [35, 32, 115, 111, 10, 10] ++ evsT l).size = 6 + (evsT l).size := by rw [size_app]; rfl
  have hp : pcsB 10 (bs [35, 32, 115, 111, 10, 10] ++ evsT l) = ([bs [35, 32, 115, 111], bs []] ++ l.map evT) ++ [bs []] := by
    have := evs_pcs l [] h
    rw [List.append_nil] at this
    unfold pcsB
    rw [ba_app, show (bs [35, 32, 115, 111, 10, 10]).data.toList ++ (evsT l).data.toList = [35, 32, 115, 111] ++ 10 :: ([] ++ 10 :: (evsT l).data.toList) from rfl, pcs_hit _ (by decide), pcs_hit _ (by simp), this, List.map_cons, List.map_cons, List.map_append, evs_map]
    rfl
  have hL := Lines_i _ (by omega) _ _ hp
  rw [if_pos (by rfl)] at hL
  have hR := fun r => read_evs r l [] [bs [35, 32, 115, 111], bs []] [] h (by simp; omega)
  unfold impl_ReadEvents
  rw [hL, Option.bind_some, capOk_of (by simp; omega), if_pos rfl]
  have h2 : ∀ r, impl_ReadEvents_l0 r ([bs [35, 32, 115, 111], bs []] ++ l.map evT) [] [] = impl_ReadEvents_l0 r (l.map evT ++ []) [bs [35, 32, 115, 111], bs []] [] := fun r => by
    rw [List.append_nil]
    rfl
  rw [h2, hR]
  rfl
theorem read_what (l : List Event) (h : ∀ x ∈ l, evP x) (hl : l.length ≤ 1000) : impl_ReadEvents (evsT l ++ bs [119, 104, 97, 116]) = some ([], (l.length : Int) + 1) := by
  have hz := evsT_size l h
  have hs : (evsT l ++ bs [119, 104, 97, 116]).size = (evsT l).size + 4 := by rw [size_app]; rfl
  have hp : pcsB 10 (evsT l ++ bs [119, 104, 97, 116]) = l.map evT ++ [bs [119, 104, 97, 116]] := by
    have := evs_pcs l (bs [119, 104, 97, 116]).data.toList h
    unfold pcsB
    rw [ba_app, this, List.map_append, evs_map, pcs_none (by decide)]
    rfl
  have hL := Lines_i _ (by omega) _ _ hp
  rw [if_neg (by decide)] at hL
  have hR := fun r => read_evs r l [bs [119, 104, 97, 116]] [] [] h (by simp; omega)
  have hw : impl_TextEvent (bs [119, 104, 97, 116]) = some (⟨0, 0, []⟩, false) := by kernel_rfl
  unfold impl_ReadEvents
  rw [hL, Option.bind_some, capOk_of (by simp; omega), if_pos rfl, hR, List.nil_append, List.nil_append]
  unfold impl_ReadEvents_l0
  have i1 : i64 (((l.map evT).length : Int) + 1) = (l.length : Int) + 1 := by rw [List.length_map, i64_of (by omega) (by omega)]
  rw [if_neg (by decide), if_pos (by decide), if_pos (by decide), if_neg (by decide), hw, Option.bind_some, if_neg (by simp), i1]
  rfl
theorem law_evs (l : List Event) (h : ∀ x ∈ l, evP x) : ∀ t p : List Event, l = p ++ t → laws_FnEvents_l0 l t p l l = some (.out l)
  | [], p, _ => rfl
  | e :: t, p, he => by
    have g : l[p.length]? = some e := by rw [he]; simp
    obtain ⟨e1, _⟩ := evLine e (h e (by rw [he]; simp))
    have ih := law_evs l h t (p ++ [e]) (by rw [he]; simp)
    have hset : l.set p.length e = l := by rw [he]; simp
    unfold laws_FnEvents_l0
    rw [Int.toNat_natCast, g]
    simp only [Option.bind_some, bne_self_eq_false, Bool.false_eq_true, if_false, e1, show (bstr e.Data == bstr e.Data) = true from by rw [beqB]; exact decide_eq_true rfl, show (evT e == evT e) = true from by rw [beqB]; exact decide_eq_true rfl, if_true, hset, ih]
namespace Pure
theorem FnEvents (o : List Int) (h0 : W22 o) : laws_FnEvents o = some true := by
  unfold laws_FnEvents
  by_cases s1 : (1048576 : Int) < (o.length : Int)
  · simp only [s1, decide_true, if_true]
  simp only [s1, decide_false, Bool.false_eq_true, if_false]
  obtain ⟨l, e1, hl, hn⟩ := evMake o (by omega)
  have hz := evsT_size l hl
  have e2 := evs_text l hl (by omega)
  have e3 := read_so l hl (by omega)
  have e4 := read_what l hl (by omega)
  have e5 := law_evs l hl l [] rfl
  have c1 : (bs [35, 32, 115, 111, 10, 10]).size + (evsT l).size ≤ 9223372036854775807 := by show 6 + _ ≤ _; omega
  have c2 : (evsT l).size + (bs [119, 104, 97, 116]).size ≤ 9223372036854775807 := by show _ + 4 ≤ _; omega
  have i1 : i64 ((l.length : Int) + 1) = (l.length : Int) + 1 := i64_of (by omega) (by omega)
  simp only [e1, e2, e3, e4, e5, c1, c2, i1, Option.bind_some, decide_true, if_true, bne_self_eq_false, Bool.false_eq_true, if_false, capOk_of (show l.length ≤ 274877906944 by omega), Lo.elim, beq_self_eq_true]
end Pure
end Go.Proofs.YtdahdpnkppknfaaGreatDoorM
