/- Laws of the plain functions. No condition. -/
import Derived.Test.YtaaiikopnadkeaaPD
import Derived.Laws.StructEq
namespace Go.Proofs.YtaaiikopnadkeaaM
set_option linter.unusedVariables false
set_option linter.unusedSimpArgs false
set_option maxRecDepth 100000
/-! copies, live holds -/
theorem l08Copy_l0_val (l : List Slot) : ∀ (t v : List Slot), v.length + t.length ≤ 274877906944 → (∀ s ∈ t, szSlot s) → spec_l08Copy_l0 l t v = some (v ++ t)
  | [], v, _, _ => by simp [spec_l08Copy_l0]
  | x :: t, v, hl, hs => by
    unfold spec_l08Copy_l0
    have h1 : capOk (0 + x.Reply.length) = true := capOk_of (by have := (hs x (by simp)).2.2; omega)
    have h2 : capOk (v.length + 1) = true := capOk_of (by simp at hl; omega)
    rw [h1, h2, l08Copy_l0_val l t (v ++ [x]) (by simp at hl ⊢; omega) (fun s hs' => hs s (by simp [hs']))]
    simp
theorem l09Copy_val (a : Acct) (h : szAcct a) : spec_l09Copy a = some a := by
  obtain ⟨h1, ⟨h2, h3⟩, ⟨h4, h5⟩, h6, h7⟩ := h
  unfold spec_l09Copy spec_l06Copy spec_l08Copy
  rw [capOk_of (show 0 + a.Holds.length ≤ 274877906944 by omega), capOk_of (show 0 + a.Ring.Counts.length ≤ 274877906944 by omega), capOk_of (show 0 + a.Ring.Sums.length ≤ 274877906944 by omega), capOk_of (show a.Slots.length ≤ 274877906944 by omega), l08Copy_l0_val _ _ _ (by simp; omega) h7]
  rfl
theorem Clone_int_val (l : List Int) (h : l.length ≤ 274877906944) : slices_Clone_int l = some l := by unfold slices_Clone_int; rw [capOk_of h]; rfl
theorem Clone_byte_val (l : List Int) (h : l.length ≤ 274877906944) : slices_Clone_byte l = some l := by unfold slices_Clone_byte; rw [capOk_of h]; rfl
theorem Clone_Hold_val (l : List Hold) (h : l.length ≤ 274877906944) : slices_Clone_impl_Hold l = some l := by unfold slices_Clone_impl_Hold; rw [capOk_of h]; rfl
theorem copySlots_l0_val (l : List Slot) : ∀ (t v : List Slot), v.length + t.length ≤ 274877906944 → (∀ s ∈ t, szSlot s) → impl_copySlots_l0 l t v = some (v ++ t)
  | [], v, _, _ => by simp [impl_copySlots_l0]
  | x :: t, v, hl, hs => by
    unfold impl_copySlots_l0
    have h2 : capOk (v.length + 1) = true := capOk_of (by simp at hl; omega)
    rw [Clone_byte_val _ (by have := (hs x (by simp)).2.2; omega), Option.bind_some, h2, copySlots_l0_val l t _ (by simp at hl ⊢; omega) (fun s hs' => hs s (by simp [hs']))]
    simp
theorem Ring_copied_val (r : Ring) (h : szRing r) : impl_Ring_copied r = some r := by
  unfold impl_Ring_copied
  rw [Clone_int_val _ (by have := h.1; omega), Clone_int_val _ (by have := h.2; omega)]
  rfl
theorem Acct_copied_val (a : Acct) (h : szAcct a) : impl_Acct_copied a = some a := by
  obtain ⟨h1, ⟨h2, h3⟩, h45, h6, h7⟩ := h
  unfold impl_Acct_copied impl_copySlots
  rw [Clone_Hold_val _ (by omega), Ring_copied_val _ h45, capOk_of (show a.Slots.length ≤ 274877906944 by omega), copySlots_l0_val _ _ _ (by simp; omega) h7]
  rfl
def live (now : Int) (h : Hold) : Bool := decide (now < h.Due)
theorem LiveOnes_1_val (h : Hold) (now : Int) : impl_LiveOnes_1 h now = some (!live now h) := rfl
theorem spec_LiveOnes_l0_val (l : List Hold) (now : Int) : ∀ t v : List Hold, v.length + t.length ≤ 274877906944 → spec_LiveOnes_l0 l now t v = some (v ++ t.filter (live now))
  | [], v, _ => by simp [spec_LiveOnes_l0]
  | x :: t, v, hl => by
    have h2 : capOk (v.length + 1) = true := capOk_of (by simp at hl; omega)
    unfold spec_LiveOnes_l0
    have : spec_Live x now = some (live now x) := rfl
    rw [this, Option.bind_some, h2]
    by_cases h : live now x = true
    · rw [spec_LiveOnes_l0_val l now t (v ++ [x]) (by simp at hl ⊢; omega)]
      simp [h, List.filter_cons]
    · have h' : live now x = false := by simpa using h
      rw [spec_LiveOnes_l0_val l now t v (by simp at hl ⊢; omega)]
      simp [h', List.filter_cons]
theorem spec_LiveOnes_val (l : List Hold) (now : Int) (h : l.length ≤ 274877906944) : spec_LiveOnes l now = some (l.filter (live now)) := by
  unfold spec_LiveOnes
  rw [capOk_of h, spec_LiveOnes_l0_val _ _ _ _ (by simpa using h)]
  rfl
theorem IndexHold_l0_val (s : List Hold) (now : Int) : ∀ t p : List Hold, slices_IndexFunc_impl_Hold_128_l0 s now t p = some (match t.findIdx? (fun h => !live now h) with | some i => .ret ((p.length + i : Nat) : Int) | none => .out ())
  | [], p => rfl
  | y :: t, p => by
    unfold slices_IndexFunc_impl_Hold_128_l0
    rw [LiveOnes_1_val, IndexHold_l0_val s now t (p ++ [y])]
    simp only [Option.bind_some, List.findIdx?_cons]
    cases h : live now y with
    | false => simp
    | true =>
      simp only [Bool.not_true, Bool.false_eq_true, if_false]
      cases t.findIdx? (fun h => !live now h) with
      | none => rfl
      | some i => simp only [Option.map_some, List.length_append, List.length_cons, List.length_nil]; congr 3; omega
theorem DeleteHold_l0_val (now : Int) (s : List Hold) (hs : s.length ≤ 4000000) : ∀ (n v1 v2 : Nat) (v3 : List Hold), v1 ≤ v2 → v2 ≤ s.length → v3.length = s.length → v3.take v1 = (s.take v2).filter (live now) → v3.drop v2 = s.drop v2 → s.length - v2 < n →
    ∃ (k : Nat) (v' : List Hold), slices_DeleteFunc_impl_Hold_128_l0 now n (v1 : Int) (v2 : Int) v3 = some ((k : Int), v') ∧ k ≤ v'.length ∧ v'.length ≤ s.length ∧ v'.take k = s.filter (live now)
  | 0, v1, v2, v3, h1, h2, h3, h4, h5, hn => by omega
  | n + 1, v1, v2, v3, h1, h2, h3, h4, h5, hn => by
    unfold slices_DeleteFunc_impl_Hold_128_l0
    by_cases hlt : v2 < s.length
    · have hv : v2 < v3.length := by omega
      have hx : v3[v2]? = s[v2]? := by
        have e1 : (v3.drop v2)[0]? = (s.drop v2)[0]? := by rw [h5]
        rw [List.getElem?_drop, List.getElem?_drop] at e1
        simpa using e1
      have hsx : s[v2]? = some s[v2] := List.getElem?_eq_getElem hlt
      rw [hsx] at hx
      generalize hxe : s[v2] = x at *
      have hi2 : i64 ((v2 : Int) + 1) = ((v2 + 1 : Nat) : Int) := by rw [i64_of (by omega) (by omega)]; omega
      have hi1 : i64 ((v1 : Int) + 1) = ((v1 + 1 : Nat) : Int) := by rw [i64_of (by omega) (by omega)]; omega
      have hc1 : ((v2 : Int) < (v3.length : Int)) := by omega
      have htk : s.take (v2 + 1) = s.take v2 ++ [x] := by rw [List.take_add_one, hsx]; rfl
      have hd3 : v3.drop (v2 + 1) = s.drop (v2 + 1) := by rw [← List.drop_drop, ← List.drop_drop, h5]
      simp only [hc1, decide_true, if_true, Int.natCast_nonneg, Int.toNat_natCast, hx, Option.bind_some, LiveOnes_1_val, hi1, hi2]
      cases hlx : live now x with
      | false =>
        obtain ⟨k, v', q1, q2⟩ := DeleteHold_l0_val now s hs n v1 (v2 + 1) v3 (by omega) (by omega) h3 (by rw [h4, htk, List.filter_append]; simp [hlx]) hd3 (by omega)
        exact ⟨k, v', by simpa using q1, q2⟩
      | true =>
        have hv1 : v1 < v3.length := by omega
        have hg1 : v3[v1]? = some v3[v1] := List.getElem?_eq_getElem hv1
        obtain ⟨k, v', q1, q2⟩ := DeleteHold_l0_val now s hs n (v1 + 1) (v2 + 1) (v3.set v1 x) (by omega) (by omega) (by simp [h3]) (by
          rw [htk, List.filter_append, List.take_add_one, List.take_set_of_le (by omega)]
          simp [hlx, h4, hv1]) (by rw [List.drop_set_of_lt (by omega)]; exact hd3) (by omega)
        exact ⟨k, v', by simpa [hg1] using q1, q2⟩
    · have hc1 : ¬ ((v2 : Int) < (v3.length : Int)) := by omega
      have : v2 = s.length := by omega
      subst this
      refine ⟨v1, v3, by simp [hc1], by omega, by omega, by rw [h4, List.take_length]⟩
theorem impl_LiveOnes_val (l : List Hold) (now : Int) (h : l.length ≤ 4000000) : impl_LiveOnes l now = some (l.filter (live now)) := by
  unfold impl_LiveOnes slices_DeleteFunc_impl_Hold_128 slices_IndexFunc_impl_Hold_128
  rw [Clone_Hold_val _ (by omega)]
  simp only [Option.bind_some, capOk_of (show l.length ≤ 274877906944 by omega), if_true, IndexHold_l0_val]
  cases hi : l.findIdx? (fun h => !live now h) with
  | none =>
    rw [List.findIdx?_eq_none_iff] at hi
    have : l.filter (live now) = l := List.filter_eq_self.2 fun x hx => by simpa using hi x hx
    simp [Lo.elim, this]
  | some i =>
    obtain ⟨hlt, hp, hb⟩ := List.findIdx?_eq_some_iff_getElem.1 hi
    have hne : (((0 + i : Nat) : Int) == -1) = false := by rw [beq_eq_false_iff_ne]; omega
    have hi1 : i64 (((0 + i : Nat) : Int) + 1) = ((i + 1 : Nat) : Int) := by rw [i64_of (by omega) (by omega)]; omega
    have hz : ((0 + i : Nat) : Int) = (i : Int) := by omega
    have hpre : (l.take i).filter (live now) = l.take i := List.filter_eq_self.2 fun x hx => by
      obtain ⟨j, hj, rfl⟩ := List.mem_iff_getElem.1 hx
      simp only [List.length_take] at hj
      have := hb j (by omega)
      rw [List.getElem_take]
      simpa using this
    obtain ⟨k, v', q1, q2, q3, q4⟩ := DeleteHold_l0_val now l h FUEL i (i + 1) l (by omega) (by omega) rfl (by
      rw [List.take_add_one, List.filter_append, hpre, List.getElem?_eq_getElem hlt]
      have : live now l[i] = false := by simpa using hp
      simp [this]) rfl (by unfold FUEL; omega)
    simp only [Lo.elim, List.length_nil, Option.bind_some, hne, Bool.false_eq_true, if_false, hi1]
    rw [hz, q1]
    have hk : ((k : Int) ≤ (v'.length : Int)) := by omega
    have hlen : (v'.take k ++ (List.replicate (v'.length - k) (Hold.mk ByteArray.empty 0 0) ++ v'.drop (k + (v'.length - k)))).length = v'.length := by simp; omega
    have htk : (v'.take k ++ (List.replicate (v'.length - k) (Hold.mk ByteArray.empty 0 0) ++ v'.drop (k + (v'.length - k)))).take k = v'.take k := by
      rw [List.take_append_of_le_length (by simp; omega), List.take_take, Nat.min_self]
    simp only [Option.bind_some, Int.natCast_nonneg, decide_true, if_true, hk, Int.toNat_natCast, hlen, htk]
    exact congrArg some q4
theorem AcctSwept_val (a : Acct) (now : Int) (h : szAcct a) : ∃ y, spec_AcctSwept a now = some y ∧ impl_AcctSwept a now = some y ∧ szAcct y := by
  obtain ⟨b, e1, e2, e3⟩ := AcctOk_tot a h
  have hh := h
  obtain ⟨h1, ⟨h2, h3⟩, h45, h6, h7⟩ := h
  unfold spec_AcctSwept impl_AcctSwept
  rw [l09Copy_val a hh, Acct_copied_val a hh, e1, e2]
  simp only [Option.bind_some, l06Time_val, isTime_val, spec_LiveOnes_val _ _ (show a.Holds.length ≤ 274877906944 by omega), impl_LiveOnes_val _ _ (show a.Holds.length ≤ 4000000 by omega)]
  cases b with
  | false => exact ⟨a, rfl, rfl, hh⟩
  | true =>
    simp only [if_true]
    cases time now with
    | false => exact ⟨a, rfl, rfl, hh⟩
    | true => exact ⟨_, rfl, rfl, h1, ⟨Nat.le_trans (List.length_filter_le _ _) h2, fun x hx => h3 x (List.mem_filter.1 hx).1⟩, h45, h6, h7⟩
theorem zero_sz : szAcct (Acct.mk ByteArray.empty 0 0 0 0 [] (Ring.mk 0 0 [] []) []) := by
  refine ⟨by decide, ⟨by decide, fun x hx => by cases hx⟩, ⟨by decide, by decide⟩, by decide, fun x hx => by cases hx⟩
theorem Sweep_val (a : Acct) (now : Int) (h : szAcct a) : ∃ y, spec_Sweep a now = some y ∧ impl_Sweep a now = some y ∧ szAcct y.1 := by
  obtain ⟨b, e1, e2, e3⟩ := AcctOk_tot a h
  obtain ⟨y, f1, f2, f3⟩ := AcctSwept_val a now h
  unfold spec_Sweep impl_Sweep impl_begin
  rw [e1, e2, f1, f2, l06Time_val, isTime_val]
  cases b with
  | false => exact ⟨_, rfl, rfl, zero_sz⟩
  | true =>
    cases time now with
    | false => exact ⟨_, rfl, rfl, zero_sz⟩
    | true => exact ⟨_, rfl, rfl, f3⟩
end Go.Proofs.YtaaiikopnadkeaaM
