/- Laws of the plain functions. No condition. -/
import Derived.Test.YtaaiikopnadkeaaPG
import Derived.Laws.StructEq
namespace Go.Proofs.YtaaiikopnadkeaaM
set_option linter.unusedVariables false
set_option linter.unusedSimpArgs false
set_option maxRecDepth 100000
/-! marks -/
theorem bstr_one (n : Int) : (bstr [n]).size = 1 := rfl
theorem size_app (a b : ByteArray) : (a ++ b).size = a.size + b.size := ByteArray.size_append
theorem markText_l0_tot : ∀ (n N : Nat) (v : Int) (s : ByteArray), 0 ≤ v → v ≤ 9223372036854775807 → v < 10 ^ n → n < N → s.size + n ≤ 1000 → ∃ y, laws_markText_l0 N v s = some y ∧ y.size ≤ 1000
  | n, 0, v, s, h0, hm, hv, hN, hs => by omega
  | 0, N + 1, v, s, h0, hm, hv, hN, hs => by
    have : v = 0 := by simp at hv; omega
    subst this
    exact ⟨s, by simp [laws_markText_l0], by omega⟩
  | n + 1, N + 1, v, s, h0, hm, hv, hN, hs => by
    unfold laws_markText_l0
    by_cases h : 0 < v
    · have hd : Int.tdiv v 10 = v / 10 := Int.tdiv_eq_ediv_of_nonneg h0
      have hp : (10 : Int) ^ (n + 1) = 10 ^ n * 10 := by rw [Int.pow_succ]
      have hlt : v / 10 < 10 ^ n := by rw [hp] at hv; omega
      have hi : i64 (v / 10) = v / 10 := i64_of (by omega) (by omega)
      have hz : (bstr [u8 (i64 (48 + (Int.tmod v 10)))]).size = 1 := bstr_one _
      obtain ⟨y, e, e2⟩ := markText_l0_tot n N (v / 10) (bstr [u8 (i64 (48 + (Int.tmod v 10)))] ++ s) (by omega) (by omega) hlt (by omega) (by rw [size_app, hz]; omega)
      refine ⟨y, ?_, e2⟩
      have hc : (bstr [u8 (i64 (48 + (Int.tmod v 10)))]).size + s.size ≤ 9223372036854775807 := by rw [hz]; omega
      simp only [h, decide_true, if_true, hc, hd, hi]
      exact e
    · exact ⟨s, by simp [h], by omega⟩
theorem markText_tot (k : Int) (hm : k ≤ 9223372036854775807) : ∃ y, laws_markText k = some y := by
  unfold laws_markText
  by_cases h : k ≤ 0
  · exact ⟨_, by simp only [h, decide_true, if_true]; rfl⟩
  · obtain ⟨y, e, e2⟩ := markText_l0_tot 20 FUEL k (bs []) (by omega) hm (by omega) (by unfold FUEL; omega) (by decide)
    simp only [h, decide_false, Bool.false_eq_true, if_false, e, Option.bind_some]
    have hc : (bs [109]).size + y.size ≤ 9223372036854775807 := by
      have : (bs [109]).size = 1 := rfl
      omega
    exact ⟨_, by rw [decide_eq_true hc]; rfl⟩
theorem after_set {α : Type} {v v' : List α} {i : Nat} {x : α} (h : v'.take (i + 1) = (v.set i x).take (i + 1)) (hl : v'.length = v.length) (hi : i < v.length) : v'.drop i = x :: v'.drop (i + 1) ∧ v'.take i = v.take i := by
  have hx : v'[i]? = some x := by
    have e : (v'.take (i + 1))[i]? = ((v.set i x).take (i + 1))[i]? := by rw [h]
    rw [List.getElem?_take, List.getElem?_take, if_pos (by omega), if_pos (by omega)] at e
    rw [e]; simp [hi]
  have hx' : v'[i]'(by omega) = x := by
    have := List.getElem?_eq_getElem (l := v') (i := i) (by omega)
    rw [this] at hx
    exact Option.some.inj hx
  refine ⟨by rw [List.drop_eq_getElem_cons (by omega), hx'], ?_⟩
  have e : (v'.take (i + 1)).take i = ((v.set i x).take (i + 1)).take i := by rw [h]
  rw [List.take_take, List.take_take, Nat.min_eq_left (by omega), List.take_set_of_le (Nat.le_refl _)] at e
  exact e
theorem markIntS_l0_val : ∀ (n : Nat) (k : Int) (i : Nat) (v : List Int), i ≤ v.length → v.length ≤ 1048576 → 0 ≤ k → k + (v.length - i : Nat) ≤ 4611686018427387904 → v.length - i < n →
    ∃ v' : List Int, laws_markIntS_l0 n k (i : Int) v = some (k + (v.length - i : Nat), v') ∧ v'.length = v.length ∧ v'.take i = v.take i ∧ ∀ b, laws_heldIntS_l0 b (v'.drop i) k = some (.out (k + (v.length - i : Nat)))
  | 0, k, i, v, hi, hl, h0, hk, hn => by omega
  | n + 1, k, i, v, hi, hl, h0, hk, hn => by
    unfold laws_markIntS_l0
    by_cases h : i < v.length
    · have hc : (i : Int) < (v.length : Int) := by omega
      have hk1 : i64 (k + 1) = k + 1 := i64_of (by omega) (by omega)
      have hi1 : i64 ((i : Int) + 1) = ((i + 1 : Nat) : Int) := by rw [i64_of (by omega) (by omega)]; omega
      have hg : v[i]? = some v[i] := List.getElem?_eq_getElem h
      have hsl : (v.set i k).length = v.length := List.length_set
      obtain ⟨v', e1, e2, e3, e4⟩ := markIntS_l0_val n (k + 1) (i + 1) (v.set i k) (by omega) (by omega) (by omega) (by rw [hsl]; omega) (by rw [hsl]; omega)
      rw [hsl] at e1 e2 e4
      obtain ⟨q1, q2⟩ := after_set e3 e2 h
      have hsum : k + 1 + ((v.length - (i + 1) : Nat) : Int) = k + (v.length - i : Nat) := by omega
      rw [hsum] at e1 e4
      refine ⟨v', ?_, e2, q2, fun b => ?_⟩
      · simp only [hc, decide_true, if_true, Int.natCast_nonneg, Int.toNat_natCast, hg, Option.bind_some, hk1, hi1]
        exact e1
      · rw [q1]
        unfold laws_heldIntS_l0
        simp only [bne_rfl, Bool.false_eq_true, if_false, hk1]
        exact e4 b
    · have hc : ¬ (i : Int) < (v.length : Int) := by omega
      have hz : k + ((v.length - i : Nat) : Int) = k := by omega
      refine ⟨v, by simp only [hc, decide_false, Bool.false_eq_true, if_false, hz], rfl, rfl, fun b => ?_⟩
      rw [List.drop_eq_nil_of_le (by omega), hz]
      rfl
theorem markIntS_val (v : List Int) (k : Int) (hl : v.length ≤ 1048576) (h0 : 0 ≤ k) (hk : k + v.length ≤ 4611686018427387904) :
    ∃ v' : List Int, laws_markIntS v k = some (k + v.length, v') ∧ v'.length = v.length ∧ laws_heldIntS v' k = some (k + v.length) := by
  obtain ⟨v', e1, e2, e3, e4⟩ := markIntS_l0_val FUEL k 0 v (by omega) hl h0 (by simpa using hk) (by unfold FUEL; omega)
  have e4 := e4 v'
  simp only [Nat.sub_zero, List.drop_zero] at e1 e4
  refine ⟨v', ?_, e2, ?_⟩
  · unfold laws_markIntS
    have : ((0 : Nat) : Int) = 0 := rfl
    rw [this] at e1
    rw [e1]; rfl
  · unfold laws_heldIntS
    rw [capOk_of (by omega), e4]; rfl
theorem markByteS_l0_val : ∀ (n : Nat) (k : Int) (i : Nat) (v : List Int), i ≤ v.length → v.length ≤ 1048576 → 0 ≤ k → k + (v.length - i : Nat) ≤ 4611686018427387904 → v.length - i < n →
    ∃ v' : List Int, laws_markByteS_l0 n k (i : Int) v = some (k + (v.length - i : Nat), v') ∧ v'.length = v.length ∧ v'.take i = v.take i ∧ ∀ b, laws_heldByteS_l0 b (v'.drop i) k = some (.out (k + (v.length - i : Nat)))
  | 0, k, i, v, hi, hl, h0, hk, hn => by omega
  | n + 1, k, i, v, hi, hl, h0, hk, hn => by
    unfold laws_markByteS_l0
    by_cases h : i < v.length
    · have hc : (i : Int) < (v.length : Int) := by omega
      have hk1 : i64 (k + 1) = k + 1 := i64_of (by omega) (by omega)
      have hi1 : i64 ((i : Int) + 1) = ((i + 1 : Nat) : Int) := by rw [i64_of (by omega) (by omega)]; omega
      have hg : v[i]? = some v[i] := List.getElem?_eq_getElem h
      have hsl : (v.set i (u8 k)).length = v.length := List.length_set
      obtain ⟨v', e1, e2, e3, e4⟩ := markByteS_l0_val n (k + 1) (i + 1) (v.set i (u8 k)) (by omega) (by omega) (by omega) (by rw [hsl]; omega) (by rw [hsl]; omega)
      rw [hsl] at e1 e2 e4
      obtain ⟨q1, q2⟩ := after_set e3 e2 h
      have hsum : k + 1 + ((v.length - (i + 1) : Nat) : Int) = k + (v.length - i : Nat) := by omega
      rw [hsum] at e1 e4
      refine ⟨v', ?_, e2, q2, fun b => ?_⟩
      · simp only [hc, decide_true, if_true, Int.natCast_nonneg, Int.toNat_natCast, hg, Option.bind_some, hk1, hi1]
        exact e1
      · rw [q1]
        unfold laws_heldByteS_l0
        simp only [bne_rfl, Bool.false_eq_true, if_false, hk1]
        exact e4 b
    · have hc : ¬ (i : Int) < (v.length : Int) := by omega
      have hz : k + ((v.length - i : Nat) : Int) = k := by omega
      refine ⟨v, by simp only [hc, decide_false, Bool.false_eq_true, if_false, hz], rfl, rfl, fun b => ?_⟩
      rw [List.drop_eq_nil_of_le (by omega), hz]
      rfl
theorem markByteS_val (v : List Int) (k : Int) (hl : v.length ≤ 1048576) (h0 : 0 ≤ k) (hk : k + v.length ≤ 4611686018427387904) :
    ∃ v' : List Int, laws_markByteS v k = some (k + v.length, v') ∧ v'.length = v.length ∧ laws_heldByteS v' k = some (k + v.length) := by
  obtain ⟨v', e1, e2, e3, e4⟩ := markByteS_l0_val FUEL k 0 v (by omega) hl h0 (by simpa using hk) (by unfold FUEL; omega)
  have e4 := e4 v'
  simp only [Nat.sub_zero, List.drop_zero] at e1 e4
  refine ⟨v', ?_, e2, ?_⟩
  · unfold laws_markByteS
    have : ((0 : Nat) : Int) = 0 := rfl
    rw [this] at e1
    rw [e1]; rfl
  · unfold laws_heldByteS
    rw [capOk_of (by omega), e4]; rfl
theorem markHoldS_l0_val : ∀ (n : Nat) (k : Int) (i : Nat) (v : List Hold), i ≤ v.length → v.length ≤ 1048576 → 0 ≤ k → k + 3 * (v.length - i : Nat) ≤ 4611686018427387904 → v.length - i < n →
    ∃ v' : List Hold, laws_markHoldS_l0 n k (i : Int) v = some (k + 3 * (v.length - i : Nat), v') ∧ v'.length = v.length ∧ v'.take i = v.take i ∧ ∀ b, laws_heldHoldS_l0 b (v'.drop i) k = some (.out (k + 3 * (v.length - i : Nat)))
  | 0, k, i, v, hi, hl, h0, hk, hn => by omega
  | n + 1, k, i, v, hi, hl, h0, hk, hn => by
    unfold laws_markHoldS_l0
    by_cases h : i < v.length
    · have hc : (i : Int) < (v.length : Int) := by omega
      have hk1 : i64 (k + 1) = k + 1 := i64_of (by omega) (by omega)
      have hk2 : i64 (k + 1 + 1) = k + 2 := by rw [i64_of (by omega) (by omega)]; omega
      have hk3 : i64 (k + 2 + 1) = k + 3 := by rw [i64_of (by omega) (by omega)]; omega
      have hi1 : i64 ((i : Int) + 1) = ((i + 1 : Nat) : Int) := by rw [i64_of (by omega) (by omega)]; omega
      obtain ⟨m, hm⟩ := markText_tot k (by omega)
      have hg : v[i]? = some v[i] := List.getElem?_eq_getElem h
      have hsl : (v.set i (Hold.mk m (k + 1) (k + 2))).length = v.length := List.length_set
      obtain ⟨v', e1, e2, e3, e4⟩ := markHoldS_l0_val n (k + 3) (i + 1) (v.set i (Hold.mk m (k + 1) (k + 2))) (by omega) (by omega) (by omega) (by rw [hsl]; omega) (by rw [hsl]; omega)
      rw [hsl] at e1 e2 e4
      obtain ⟨q1, q2⟩ := after_set e3 e2 h
      have hsum : k + 3 + 3 * ((v.length - (i + 1) : Nat) : Int) = k + 3 * (v.length - i : Nat) := by omega
      rw [hsum] at e1 e4
      refine ⟨v', ?_, e2, q2, fun b => ?_⟩
      · simp only [hc, decide_true, if_true, Int.natCast_nonneg, Int.toNat_natCast, hm, hg, Option.bind_some, hk1, hk2, hk3, hi1, List.getElem?_set_self h, List.set_set, List.length_set]
        exact e1
      · rw [q1]
        unfold laws_heldHoldS_l0
        simp only [hm, Option.bind_some, beq_rfl, if_true, hk1, hk2, hk3, bne_rfl, Bool.false_eq_true, if_false]
        exact e4 b
    · have hc : ¬ (i : Int) < (v.length : Int) := by omega
      have hz : k + 3 * ((v.length - i : Nat) : Int) = k := by omega
      refine ⟨v, by simp only [hc, decide_false, Bool.false_eq_true, if_false, hz], rfl, rfl, fun b => ?_⟩
      rw [List.drop_eq_nil_of_le (by omega), hz]
      rfl
theorem markHoldS_val (v : List Hold) (k : Int) (hl : v.length ≤ 1048576) (h0 : 0 ≤ k) (hk : k + 3 * v.length ≤ 4611686018427387904) :
    ∃ v' : List Hold, laws_markHoldS v k = some (k + 3 * v.length, v') ∧ v'.length = v.length ∧ laws_heldHoldS v' k = some (k + 3 * v.length) := by
  obtain ⟨v', e1, e2, e3, e4⟩ := markHoldS_l0_val FUEL k 0 v (by omega) hl h0 (by simpa using hk) (by unfold FUEL; omega)
  have e4 := e4 v'
  simp only [Nat.sub_zero, List.drop_zero] at e1 e4
  refine ⟨v', ?_, e2, ?_⟩
  · unfold laws_markHoldS
    have : ((0 : Nat) : Int) = 0 := rfl
    rw [this] at e1
    rw [e1]; rfl
  · unfold laws_heldHoldS
    rw [capOk_of (by omega), e4]; rfl
theorem markSlotS_l0_val : ∀ (n : Nat) (k : Int) (i : Nat) (v : List Slot), i ≤ v.length → v.length ≤ 1048576 → (∀ s ∈ v.drop i, szSlot s) → 0 ≤ k → k + 1048578 * (v.length - i : Nat) ≤ 4611686018427387904 → v.length - i < n →
    ∃ (k' : Int) (v' : List Slot), laws_markSlotS_l0 n k (i : Int) v = some (k', v') ∧ k ≤ k' ∧ k' ≤ k + 1048578 * (v.length - i : Nat) ∧ v'.length = v.length ∧ v'.take i = v.take i ∧ ∀ b, laws_heldSlotS_l0 b (v'.drop i) k = some (.out k')
  | 0, k, i, v, hi, hl, hs, h0, hk, hn => by omega
  | n + 1, k, i, v, hi, hl, hs, h0, hk, hn => by
    unfold laws_markSlotS_l0
    by_cases h : i < v.length
    · have hc : (i : Int) < (v.length : Int) := by omega
      have hk1 : i64 (k + 1) = k + 1 := i64_of (by omega) (by omega)
      have hk2 : i64 (k + 1 + 1) = k + 2 := by rw [i64_of (by omega) (by omega)]; omega
      have hi1 : i64 ((i : Int) + 1) = ((i + 1 : Nat) : Int) := by rw [i64_of (by omega) (by omega)]; omega
      obtain ⟨m, hm⟩ := markText_tot k (by omega)
      obtain ⟨m2, hm2⟩ := markText_tot (k + 1) (by omega)
      have hg : v[i]? = some v[i] := List.getElem?_eq_getElem h
      have hsz : szSlot v[i] := hs v[i] (by rw [List.drop_eq_getElem_cons h]; exact List.mem_cons_self)
      have hr := hsz.2.2
      obtain ⟨rp, b1, b2, b3⟩ := markByteS_val v[i].Reply (k + 2) hr (by omega) (by omega)
      have hsl : (v.set i (Slot.mk m m2 rp)).length = v.length := List.length_set
      obtain ⟨k', v', e1, e1', e1'', e2, e3, e4⟩ := markSlotS_l0_val n (k + 2 + v[i].Reply.length) (i + 1) (v.set i (Slot.mk m m2 rp)) (by omega) (by omega) (fun s hs' => by
        rw [List.drop_set_of_lt (by omega)] at hs'
        exact hs s (by rw [List.drop_eq_getElem_cons h]; exact List.mem_cons_of_mem _ hs')) (by omega) (by rw [hsl]; omega) (by rw [hsl]; omega)
      rw [hsl] at e1'' e2
      obtain ⟨q1, q2⟩ := after_set e3 e2 h
      refine ⟨k', v', ?_, by omega, by omega, e2, q2, fun b => ?_⟩
      · simp only [hc, decide_true, if_true, Int.natCast_nonneg, Int.toNat_natCast, hm, hg, Option.bind_some, hk1, hm2, hk2, b1, hi1]
        exact e1
      · rw [q1]
        unfold laws_heldSlotS_l0
        have hnn : ¬ (k + 2 + (v[i].Reply.length : Int)) < 0 := by omega
        simp only [hm, hm2, Option.bind_some, beq_rfl, if_true, hk1, hk2, b3, hnn, decide_false, Bool.false_eq_true, if_false]
        exact e4 b
    · have hc : ¬ (i : Int) < (v.length : Int) := by omega
      refine ⟨k, v, by simp only [hc, decide_false, Bool.false_eq_true, if_false], by omega, by omega, rfl, rfl, fun b => ?_⟩
      rw [List.drop_eq_nil_of_le (by omega)]
      rfl
theorem markSlotS_val (v : List Slot) (k : Int) (hl : v.length ≤ 1048576) (hs : ∀ s ∈ v, szSlot s) (h0 : 0 ≤ k) (hk : k ≤ 1000000000) :
    ∃ (k' : Int) (v' : List Slot), laws_markSlotS v k = some (k', v') ∧ k ≤ k' ∧ v'.length = v.length ∧ laws_heldSlotS v' k = some k' := by
  obtain ⟨k', v', e1, e1', _, e2, e3, e4⟩ := markSlotS_l0_val FUEL k 0 v (by omega) hl (by simpa using hs) h0 (by omega) (by unfold FUEL; omega)
  have e4 := e4 v'
  simp only [List.drop_zero] at e4
  refine ⟨k', v', ?_, e1', e2, ?_⟩
  · unfold laws_markSlotS
    have : ((0 : Nat) : Int) = 0 := rfl
    rw [this] at e1
    rw [e1]; rfl
  · unfold laws_heldSlotS
    rw [capOk_of (by omega), e4]; rfl
theorem markRing_val (r : Ring) (k : Int) (h : szRing r) (h0 : 0 ≤ k) (hk : k ≤ 100000000) :
    ∃ c s, laws_markRing r k = some (k + r.Counts.length + r.Sums.length, c, s) ∧ c.length = r.Counts.length ∧ s.length = r.Sums.length ∧ ∀ a b, laws_heldRing (Ring.mk a b c s) k = some (k + r.Counts.length + r.Sums.length) := by
  obtain ⟨h1, h2⟩ := h
  obtain ⟨c, e1, e2, e3⟩ := markIntS_val r.Counts k h1 h0 (by omega)
  obtain ⟨s, f1, f2, f3⟩ := markIntS_val r.Sums (k + r.Counts.length) h2 (by omega) (by omega)
  refine ⟨c, s, ?_, e2, f2, fun a b => ?_⟩
  · unfold laws_markRing
    rw [e1, Option.bind_some, f1]; rfl
  · unfold laws_heldRing
    have n1 : ¬ (k + (r.Counts.length : Int)) < 0 := by omega
    have n2 : ¬ (k + (r.Counts.length : Int) + (r.Sums.length : Int)) < 0 := by omega
    simp only [e3, f3, Option.bind_some, n1, n2, decide_false, Bool.false_eq_true, if_false]
theorem markAcct_val (a : Acct) (h : szAcct a) : ∃ k hs c s sl, laws_markAcct a 1 = some (k, hs, c, s, sl) ∧ 1 ≤ k ∧ ∀ i l p m ms sp hd, laws_heldAcct (Acct.mk i l p m ms hs (Ring.mk sp hd c s) sl) 1 = some k := by
  obtain ⟨h1, ⟨h2, h3⟩, h45, h6, h7⟩ := h
  obtain ⟨hs, e1, e2, e3⟩ := markHoldS_val a.Holds 1 h2 (by omega) (by omega)
  obtain ⟨c, s, f1, f2, f3, f4⟩ := markRing_val a.Ring (1 + 3 * a.Holds.length) h45 (by omega) (by omega)
  have b1 := h45.1
  have b2 := h45.2
  obtain ⟨k, sl, g1, g2, g3, g4⟩ := markSlotS_val a.Slots (1 + 3 * a.Holds.length + a.Ring.Counts.length + a.Ring.Sums.length) h6 h7 (by omega) (by omega)
  refine ⟨k, hs, c, s, sl, ?_, by omega, fun i l p m ms sp hd => ?_⟩
  · unfold laws_markAcct
    rw [e1, Option.bind_some, f1, Option.bind_some, g1]; rfl
  · unfold laws_heldAcct
    have n1 : ¬ (1 + 3 * (a.Holds.length : Int)) < 0 := by omega
    have n2 : ¬ (1 + 3 * (a.Holds.length : Int) + a.Ring.Counts.length + a.Ring.Sums.length) < 0 := by omega
    have n3 : ¬ k < 0 := by omega
    simp only [e3, f4, g4, Option.bind_some, n1, n2, n3, decide_false, Bool.false_eq_true, if_false]
end Go.Proofs.YtaaiikopnadkeaaM
