/- Laws of the plain functions. No condition. -/
import Derived.Test.YtephmimhaokhlaaGreatDnOp
import Derived.Laws.StructEq
namespace Go.Proofs.YtephmimhaokhlaaGreatM
set_option linter.unusedVariables false
set_option linter.unusedSimpArgs false
set_option maxRecDepth 100000
theorem i64_of {x : Int} (h : -9223372036854775808 ≤ x) (h2 : x ≤ 9223372036854775807) : i64 x = x := by unfold i64; rw [IntKind.wrap_i64]; omega
theorem i64_nn {x : Int} (h : 0 ≤ x) (h2 : x ≤ 9223372036854775807) : i64 x = x := i64_of (by omega) h2
theorem u8_of {x : Int} (h : 0 ≤ x) (h2 : x ≤ 255) : u8 x = x := by unfold u8 IntKind.wrap; simp [IntKind.bits, IntKind.signed]; omega
theorem sAt_nn (s : ByteArray) (i : Int) : 0 ≤ sAt s i := by unfold sAt; omega
theorem sAt_le (s : ByteArray) (i : Int) : sAt s i ≤ 255 := by unfold sAt; have := (s.data.getD i.toNat 0).toNat_lt; omega
theorem capOk_of {n : Nat} (h : n ≤ 274877906944) : capOk n = true := decide_eq_true h
theorem beqB (a b : ByteArray) : (a == b) = decide (a = b) := by
  rcases a with ⟨a⟩
  rcases b with ⟨b⟩
  have h1 : ((⟨a⟩ : ByteArray) == ⟨b⟩) = (a == b) := rfl
  rw [h1]
  by_cases h : a = b
  · subst h; simp
  · have h2 : ¬ ((⟨a⟩ : ByteArray) = ⟨b⟩) := fun e => h (by cases e; rfl)
    rw [decide_eq_false h2]
    simpa using h
theorem tmod10 {x : Int} (h : 0 ≤ x) : Int.tmod x 10 = x % 10 := Int.tmod_eq_emod_of_nonneg h
theorem beq_rfl (s : ByteArray) : (s == s) = true := by rw [beqB]; simp
theorem bne_rfl (n : Int) : (n != n) = false := by simp
theorem mid_get {α : Type} {a p t : List α} {x : α} (e : a = p ++ x :: t) : a[((p.length : Int)).toNat]? = some x := by rw [e]; simp
theorem bstr_one (n : Int) : (bstr [n]).size = 1 := rfl
theorem size_app (a b : ByteArray) : (a ++ b).size = a.size + b.size := ByteArray.size_append
theorem markText_l0_tot : ∀ (n N : Nat) (v : Int) (s : ByteArray), 0 ≤ v → v ≤ 9223372036854775807 → v < 10 ^ n → n < N → s.size + n ≤ 1000 → ∃ y, laws_markText_l0 N v s = some y ∧ y.size ≤ 1000
  | n, 0, v, s, h0, hm, hv, hN, hs => by omega
  | 0, N + 1, v, s, h0, hm, hv, hN, hs => by
    have : v = 0 := by simp at hv; omega
    subst this
    exact ⟨s, by simp [laws_markText_l0], by omega⟩
  | n + 1, N + 1, v, s, h0, hm, hv, hN, hs => by
    unfold laws_markText_l0
    by_cases h : 0 < v
    · have hd : Int.tdiv v 10 = v / 10 := Int.tdiv_eq_ediv_of_nonneg h0
      have hp : (10 : Int) ^ (n + 1) = 10 ^ n * 10 := by rw [Int.pow_succ]
      have hlt : v / 10 < 10 ^ n := by rw [hp] at hv; omega
      have hi : i64 (v / 10) = v / 10 := i64_of (by omega) (by omega)
      have hz : (bstr [u8 (i64 (48 + (Int.tmod v 10)))]).size = 1 := bstr_one _
      obtain ⟨y, e, e2⟩ := markText_l0_tot n N (v / 10) (bstr [u8 (i64 (48 + (Int.tmod v 10)))] ++ s) (by omega) (by omega) hlt (by omega) (by rw [size_app, hz]; omega)
      refine ⟨y, ?_, e2⟩
      have hc : (bstr [u8 (i64 (48 + (Int.tmod v 10)))]).size + s.size ≤ 9223372036854775807 := by rw [hz]; omega
      simp only [h, decide_true, if_true, hc, hd, hi]
      exact e
    · exact ⟨s, by simp [h], by omega⟩
theorem markText_tot (k : Int) (hm : k ≤ 9223372036854775807) : ∃ y, laws_markText k = some y := by
  unfold laws_markText
  by_cases h : k ≤ 0
  · exact ⟨_, by simp only [h, decide_true, if_true]; rfl⟩
  · obtain ⟨y, e, e2⟩ := markText_l0_tot 20 FUEL k (bs []) (by omega) hm (by omega) (by unfold FUEL; omega) (by decide)
    simp only [h, decide_false, Bool.false_eq_true, if_false, e, Option.bind_some]
    have hc : (bs [109]).size + y.size ≤ 9223372036854775807 := by
      have : (bs [109]).size = 1 := rfl
      omega
    exact ⟨_, by rw [decide_eq_true hc]; rfl⟩
theorem after_set {α : Type} {v v' : List α} {i : Nat} {x : α} (h : v'.take (i + 1) = (v.set i x).take (i + 1)) (hl : v'.length = v.length) (hi : i < v.length) : v'.drop i = x :: v'.drop (i + 1) ∧ v'.take i = v.take i := by
  have hx : v'[i]? = some x := by
    have e : (v'.take (i + 1))[i]? = ((v.set i x).take (i + 1))[i]? := by rw [h]
    rw [List.getElem?_take, List.getElem?_take, if_pos (by omega), if_pos (by omega)] at e
    rw [e]; simp [hi]
  have hx' : v'[i]'(by omega) = x := by
    have := List.getElem?_eq_getElem (l := v') (i := i) (by omega)
    rw [this] at hx
    exact Option.some.inj hx
  refine ⟨by rw [List.drop_eq_getElem_cons (by omega), hx'], ?_⟩
  have e : (v'.take (i + 1)).take i = ((v.set i x).take (i + 1)).take i := by rw [h]
  rw [List.take_take, List.take_take, Nat.min_eq_left (by omega), List.take_set_of_le (Nat.le_refl _)] at e
  exact e
/-- The weight of a list: its length, and its elements' weights. -/
def wtL {α : Type} (f : α → Nat) : List α → Nat
  | [] => 0
  | x :: t => 1 + f x + wtL f t
def wtS {α : Type} (f : α → Nat) : List α → Nat
  | [] => 0
  | x :: t => f x + wtS f t
theorem wtL_eq {α : Type} (f : α → Nat) : ∀ l : List α, wtL f l = l.length + wtS f l
  | [] => rfl
  | x :: t => by simp only [wtL, wtS, List.length_cons]; rw [wtL_eq f t]; omega
theorem wtL_len {α : Type} (f : α → Nat) (l : List α) : l.length ≤ wtL f l := by rw [wtL_eq]; omega
theorem wtL_mem {α : Type} (f : α → Nat) : ∀ (l : List α) (x : α), x ∈ l → f x + 1 ≤ wtL f l
  | y :: t, x, h => by
    simp only [wtL]
    rcases List.mem_cons.1 h with rfl | h
    · omega
    · have := wtL_mem f t x h; omega
theorem wtL_filter {α : Type} (f : α → Nat) (q : α → Bool) : ∀ l : List α, wtL f (l.filter q) ≤ wtL f l
  | [] => by simp [wtL]
  | x :: t => by
    have := wtL_filter f q t
    rw [List.filter_cons]
    split <;> simp only [wtL] <;> omega
def wtHold (a : Hold) : Nat := a.Id.size
theorem wtHold_eq (a : Hold) : wtHold a = a.Id.size := rfl
theorem eqHold_rfl (a : Hold) (h : wtHold a ≤ 4000000) : laws_eqHold a a = some true := by
  rw [wtHold_eq] at h
  unfold laws_eqHold
  simp only [beq_rfl, bne_rfl, Bool.false_eq_true, if_false, if_true, Option.bind_some]
theorem eqHoldS_l0_rfl (a : List Hold) : ∀ t p : List Hold, a = p ++ t → (∀ s ∈ t, wtHold s ≤ 4000000) → laws_eqHoldS_l0 a a t p = some (.out ())
  | [], p, e, _ => rfl
  | x :: t, p, e, hs => by
    unfold laws_eqHoldS_l0
    rw [mid_get e, Option.bind_some, eqHold_rfl x (hs x (by simp)), Option.bind_some]
    simpa using eqHoldS_l0_rfl a t (p ++ [x]) (by rw [e]; simp) (fun s hs' => hs s (by simp [hs']))
theorem eqHoldS_rfl (a : List Hold) (h : wtL wtHold a ≤ 4000000) : laws_eqHoldS a a = some true := by
  have hl : a.length ≤ 4000000 := (by have := wtL_len wtHold a; omega)
  unfold laws_eqHoldS
  rw [eqHoldS_l0_rfl a a [] rfl (fun s hs => by have := wtL_mem wtHold a s hs; omega), capOk_of (show a.length ≤ 274877906944 by omega)]
  simp only [bne_rfl, Bool.false_eq_true, if_false, if_true]
  rfl
theorem markHoldS_l0_val : ∀ (n : Nat) (k : Int) (i : Nat) (v : List Hold), i ≤ v.length → v.length ≤ 4000000 → wtL wtHold (v.drop i) ≤ 4000000 → 0 ≤ k → k + 16 * (wtL wtHold (v.drop i) : Nat) ≤ 1000000000000 → v.length - i < n →
    ∃ (k' : Int) (v' : List Hold), laws_markHoldS_l0 n k (i : Int) v = some (k', v') ∧ k ≤ k' ∧ k' ≤ k + 16 * (wtL wtHold (v.drop i) : Nat) ∧ v'.length = v.length ∧ v'.take i = v.take i ∧ ∀ b, laws_heldHoldS_l0 b (v'.drop i) k = some (.out k')
  | 0, k, i, v, hi, hl, hw, h0, hk, hn => by omega
  | n + 1, k, i, v, hi, hl, hw, h0, hk, hn => by
    unfold laws_markHoldS_l0
    by_cases h : i < v.length
    · have hc : (i : Int) < (v.length : Int) := by omega
      have hi1 : i64 ((i : Int) + 1) = ((i + 1 : Nat) : Int) := by rw [i64_of (by omega) (by omega)]; omega
      have hg : v[i]? = some v[i] := List.getElem?_eq_getElem h
      have hd : wtL wtHold (v.drop i) = 1 + wtHold v[i] + wtL wtHold (v.drop (i + 1)) := by rw [List.drop_eq_getElem_cons h]; rfl
      have hx := wtHold_eq v[i]
      obtain ⟨t0, ht0⟩ := markText_tot (k) (by omega)
      have i0 : i64 (k + 1) = k + 1 := i64_of (by omega) (by omega)
      have i1 : i64 (k + 1 + 1) = k + 1 + 1 := i64_of (by omega) (by omega)
      have i2 : i64 (k + 1 + 1 + 1) = k + 1 + 1 + 1 := i64_of (by omega) (by omega)
      have hsl : (v.set i (Hold.mk t0 (k + 1) (k + 1 + 1))).length = v.length := List.length_set
      have hsd : (v.set i (Hold.mk t0 (k + 1) (k + 1 + 1))).drop (i + 1) = v.drop (i + 1) := List.drop_set_of_lt (by omega)
      obtain ⟨k', v', e1, e1', e1'', e2, e3, e4⟩ := markHoldS_l0_val n (k + 1 + 1 + 1) (i + 1) (v.set i (Hold.mk t0 (k + 1) (k + 1 + 1))) (by rw [hsl]; omega) (by rw [hsl]; omega) (by rw [hsd]; omega) (by omega) (by rw [hsd]; omega) (by rw [hsl]; omega)
      rw [hsl] at e2
      rw [hsd] at e1''
      obtain ⟨p1, p2⟩ := after_set e3 e2 h
      refine ⟨k', v', ?_, by omega, by omega, e2, p2, fun b => ?_⟩
      · simp only [hc, decide_true, if_true, Int.natCast_nonneg, Int.toNat_natCast, hg, Option.bind_some, ht0, i0, i1, i2, hi1, List.getElem?_set_self h, List.set_set, List.length_set]
        exact e1
      · rw [p1]
        unfold laws_heldHoldS_l0
        simp only [ht0, i0, i1, i2, Option.bind_some, beq_rfl, bne_rfl, if_true, decide_false, Bool.false_eq_true, if_false]
        exact e4 b
    · have hc : ¬ (i : Int) < (v.length : Int) := by omega
      refine ⟨k, v, by simp only [hc, decide_false, Bool.false_eq_true, if_false], by omega, by omega, rfl, rfl, fun b => ?_⟩
      rw [List.drop_eq_nil_of_le (by omega)]
      rfl
theorem markHoldS_val (v : List Hold) (k : Int) (h : wtL wtHold v ≤ 4000000) (h0 : 0 ≤ k) (hk : k + 16 * (wtL wtHold v : Nat) ≤ 1000000000000) :
    ∃ (k' : Int) (v' : List Hold), laws_markHoldS v k = some (k', v') ∧ k ≤ k' ∧ k' ≤ k + 16 * (wtL wtHold v : Nat) ∧ v'.length = v.length ∧ laws_heldHoldS v' k = some k' := by
  have hl : v.length ≤ 4000000 := (by have := wtL_len wtHold v; omega)
  obtain ⟨k', v', e1, e1', e1'', e2, e3, e4⟩ := markHoldS_l0_val FUEL k 0 v (by omega) hl (by simpa using h) h0 (by simpa using hk) (by unfold FUEL; omega)
  have e4 := e4 v'
  simp only [List.drop_zero] at e4 e1''
  refine ⟨k', v', ?_, e1', e1'', e2, ?_⟩
  · unfold laws_markHoldS
    have : ((0 : Nat) : Int) = 0 := rfl
    rw [this] at e1
    rw [e1]; rfl
  · unfold laws_heldHoldS
    rw [capOk_of (by omega), e4]; rfl
theorem eqIntS_l0_rfl (a : List Int) : ∀ t p : List Int, a = p ++ t → laws_eqIntS_l0 a a t p = some (.out ())
  | [], p, e => rfl
  | x :: t, p, e => by
    unfold laws_eqIntS_l0
    rw [mid_get e, Option.bind_some]
    simp only [bne_rfl, beq_rfl, Bool.false_eq_true, if_false, if_true]
    exact eqIntS_l0_rfl a t (p ++ [x]) (by rw [e]; simp)
theorem eqIntS_rfl (a : List Int) (h : a.length ≤ 4000000) : laws_eqIntS a a = some true := by
  have hl : a.length ≤ 4000000 := h
  unfold laws_eqIntS
  rw [eqIntS_l0_rfl a a [] rfl, capOk_of (show a.length ≤ 274877906944 by omega)]
  simp only [bne_rfl, Bool.false_eq_true, if_false, if_true]
  rfl
theorem markIntS_l0_val : ∀ (n : Nat) (k : Int) (i : Nat) (v : List Int), i ≤ v.length → v.length ≤ 4000000 → (v.drop i).length ≤ 4000000 → 0 ≤ k → k + 16 * ((v.drop i).length : Nat) ≤ 1000000000000 → v.length - i < n →
    ∃ (k' : Int) (v' : List Int), laws_markIntS_l0 n k (i : Int) v = some (k', v') ∧ k ≤ k' ∧ k' ≤ k + 16 * ((v.drop i).length : Nat) ∧ v'.length = v.length ∧ v'.take i = v.take i ∧ ∀ b, laws_heldIntS_l0 b (v'.drop i) k = some (.out k')
  | 0, k, i, v, hi, hl, hw, h0, hk, hn => by omega
  | n + 1, k, i, v, hi, hl, hw, h0, hk, hn => by
    unfold laws_markIntS_l0
    by_cases h : i < v.length
    · have hc : (i : Int) < (v.length : Int) := by omega
      have hi1 : i64 ((i : Int) + 1) = ((i + 1 : Nat) : Int) := by rw [i64_of (by omega) (by omega)]; omega
      have hg : v[i]? = some v[i] := List.getElem?_eq_getElem h
      have hd : (v.drop i).length = 1 + (v.drop (i + 1)).length := by rw [List.length_drop, List.length_drop]; omega
      have i0 : i64 (k + 1) = k + 1 := i64_of (by omega) (by omega)
      have hsl : (v.set i (k)).length = v.length := List.length_set
      have hsd : (v.set i (k)).drop (i + 1) = v.drop (i + 1) := List.drop_set_of_lt (by omega)
      obtain ⟨k', v', e1, e1', e1'', e2, e3, e4⟩ := markIntS_l0_val n (k + 1) (i + 1) (v.set i (k)) (by rw [hsl]; omega) (by rw [hsl]; omega) (by rw [hsd]; omega) (by omega) (by rw [hsd]; omega) (by rw [hsl]; omega)
      rw [hsl] at e2
      rw [hsd] at e1''
      obtain ⟨p1, p2⟩ := after_set e3 e2 h
      refine ⟨k', v', ?_, by omega, by omega, e2, p2, fun b => ?_⟩
      · simp only [hc, decide_true, if_true, Int.natCast_nonneg, Int.toNat_natCast, hg, Option.bind_some, i0, hi1, List.getElem?_set_self h, List.set_set, List.length_set]
        exact e1
      · rw [p1]
        unfold laws_heldIntS_l0
        simp only [i0, Option.bind_some, beq_rfl, bne_rfl, if_true, decide_false, Bool.false_eq_true, if_false]
        exact e4 b
    · have hc : ¬ (i : Int) < (v.length : Int) := by omega
      refine ⟨k, v, by simp only [hc, decide_false, Bool.false_eq_true, if_false], by omega, by omega, rfl, rfl, fun b => ?_⟩
      rw [List.drop_eq_nil_of_le (by omega)]
      rfl
theorem markIntS_val (v : List Int) (k : Int) (h : v.length ≤ 4000000) (h0 : 0 ≤ k) (hk : k + 16 * (v.length : Nat) ≤ 1000000000000) :
    ∃ (k' : Int) (v' : List Int), laws_markIntS v k = some (k', v') ∧ k ≤ k' ∧ k' ≤ k + 16 * (v.length : Nat) ∧ v'.length = v.length ∧ laws_heldIntS v' k = some k' := by
  have hl : v.length ≤ 4000000 := h
  obtain ⟨k', v', e1, e1', e1'', e2, e3, e4⟩ := markIntS_l0_val FUEL k 0 v (by omega) hl (by simpa using h) h0 (by simpa using hk) (by unfold FUEL; omega)
  have e4 := e4 v'
  simp only [List.drop_zero] at e4 e1''
  refine ⟨k', v', ?_, e1', e1'', e2, ?_⟩
  · unfold laws_markIntS
    have : ((0 : Nat) : Int) = 0 := rfl
    rw [this] at e1
    rw [e1]; rfl
  · unfold laws_heldIntS
    rw [capOk_of (by omega), e4]; rfl
def wtRing (a : Ring) : Nat := a.Counts.length + a.Sums.length
theorem wtRing_eq (a : Ring) : wtRing a = a.Counts.length + a.Sums.length := rfl
theorem eqRing_rfl (a : Ring) (h : wtRing a ≤ 4000000) : laws_eqRing a a = some true := by
  rw [wtRing_eq] at h
  unfold laws_eqRing
  simp only [eqIntS_rfl a.Counts (by omega), eqIntS_rfl a.Sums (by omega), beq_rfl, bne_rfl, Bool.false_eq_true, if_false, if_true, Option.bind_some]
theorem eqByteS_l0_rfl (a : List Int) : ∀ t p : List Int, a = p ++ t → laws_eqByteS_l0 a a t p = some (.out ())
  | [], p, e => rfl
  | x :: t, p, e => by
    unfold laws_eqByteS_l0
    rw [mid_get e, Option.bind_some]
    simp only [bne_rfl, beq_rfl, Bool.false_eq_true, if_false, if_true]
    exact eqByteS_l0_rfl a t (p ++ [x]) (by rw [e]; simp)
theorem eqByteS_rfl (a : List Int) (h : a.length ≤ 4000000) : laws_eqByteS a a = some true := by
  have hl : a.length ≤ 4000000 := h
  unfold laws_eqByteS
  rw [eqByteS_l0_rfl a a [] rfl, capOk_of (show a.length ≤ 274877906944 by omega)]
  simp only [bne_rfl, Bool.false_eq_true, if_false, if_true]
  rfl
theorem markByteS_l0_val : ∀ (n : Nat) (k : Int) (i : Nat) (v : List Int), i ≤ v.length → v.length ≤ 4000000 → (v.drop i).length ≤ 4000000 → 0 ≤ k → k + 16 * ((v.drop i).length : Nat) ≤ 1000000000000 → v.length - i < n →
    ∃ (k' : Int) (v' : List Int), laws_markByteS_l0 n k (i : Int) v = some (k', v') ∧ k ≤ k' ∧ k' ≤ k + 16 * ((v.drop i).length : Nat) ∧ v'.length = v.length ∧ v'.take i = v.take i ∧ ∀ b, laws_heldByteS_l0 b (v'.drop i) k = some (.out k')
  | 0, k, i, v, hi, hl, hw, h0, hk, hn => by omega
  | n + 1, k, i, v, hi, hl, hw, h0, hk, hn => by
    unfold laws_markByteS_l0
    by_cases h : i < v.length
    · have hc : (i : Int) < (v.length : Int) := by omega
      have hi1 : i64 ((i : Int) + 1) = ((i + 1 : Nat) : Int) := by rw [i64_of (by omega) (by omega)]; omega
      have hg : v[i]? = some v[i] := List.getElem?_eq_getElem h
      have hd : (v.drop i).length = 1 + (v.drop (i + 1)).length := by rw [List.length_drop, List.length_drop]; omega
      have i0 : i64 (k + 1) = k + 1 := i64_of (by omega) (by omega)
      have hsl : (v.set i (u8 (k))).length = v.length := List.length_set
      have hsd : (v.set i (u8 (k))).drop (i + 1) = v.drop (i + 1) := List.drop_set_of_lt (by omega)
      obtain ⟨k', v', e1, e1', e1'', e2, e3, e4⟩ := markByteS_l0_val n (k + 1) (i + 1) (v.set i (u8 (k))) (by rw [hsl]; omega) (by rw [hsl]; omega) (by rw [hsd]; omega) (by omega) (by rw [hsd]; omega) (by rw [hsl]; omega)
      rw [hsl] at e2
      rw [hsd] at e1''
      obtain ⟨p1, p2⟩ := after_set e3 e2 h
      refine ⟨k', v', ?_, by omega, by omega, e2, p2, fun b => ?_⟩
      · simp only [hc, decide_true, if_true, Int.natCast_nonneg, Int.toNat_natCast, hg, Option.bind_some, i0, hi1, List.getElem?_set_self h, List.set_set, List.length_set]
        exact e1
      · rw [p1]
        unfold laws_heldByteS_l0
        simp only [i0, Option.bind_some, beq_rfl, bne_rfl, if_true, decide_false, Bool.false_eq_true, if_false]
        exact e4 b
    · have hc : ¬ (i : Int) < (v.length : Int) := by omega
      refine ⟨k, v, by simp only [hc, decide_false, Bool.false_eq_true, if_false], by omega, by omega, rfl, rfl, fun b => ?_⟩
      rw [List.drop_eq_nil_of_le (by omega)]
      rfl
theorem markByteS_val (v : List Int) (k : Int) (h : v.length ≤ 4000000) (h0 : 0 ≤ k) (hk : k + 16 * (v.length : Nat) ≤ 1000000000000) :
    ∃ (k' : Int) (v' : List Int), laws_markByteS v k = some (k', v') ∧ k ≤ k' ∧ k' ≤ k + 16 * (v.length : Nat) ∧ v'.length = v.length ∧ laws_heldByteS v' k = some k' := by
  have hl : v.length ≤ 4000000 := h
  obtain ⟨k', v', e1, e1', e1'', e2, e3, e4⟩ := markByteS_l0_val FUEL k 0 v (by omega) hl (by simpa using h) h0 (by simpa using hk) (by unfold FUEL; omega)
  have e4 := e4 v'
  simp only [List.drop_zero] at e4 e1''
  refine ⟨k', v', ?_, e1', e1'', e2, ?_⟩
  · unfold laws_markByteS
    have : ((0 : Nat) : Int) = 0 := rfl
    rw [this] at e1
    rw [e1]; rfl
  · unfold laws_heldByteS
    rw [capOk_of (by omega), e4]; rfl
def wtSlot (a : Slot) : Nat := a.Trace.size + a.Mti.size + a.Reply.length
theorem wtSlot_eq (a : Slot) : wtSlot a = a.Trace.size + a.Mti.size + a.Reply.length := rfl
theorem eqSlot_rfl (a : Slot) (h : wtSlot a ≤ 4000000) : laws_eqSlot a a = some true := by
  rw [wtSlot_eq] at h
  unfold laws_eqSlot
  simp only [eqByteS_rfl a.Reply (by omega), beq_rfl, bne_rfl, Bool.false_eq_true, if_false, if_true, Option.bind_some]
theorem eqSlotS_l0_rfl (a : List Slot) : ∀ t p : List Slot, a = p ++ t → (∀ s ∈ t, wtSlot s ≤ 4000000) → laws_eqSlotS_l0 a a t p = some (.out ())
  | [], p, e, _ => rfl
  | x :: t, p, e, hs => by
    unfold laws_eqSlotS_l0
    rw [mid_get e, Option.bind_some, eqSlot_rfl x (hs x (by simp)), Option.bind_some]
    simpa using eqSlotS_l0_rfl a t (p ++ [x]) (by rw [e]; simp) (fun s hs' => hs s (by simp [hs']))
theorem eqSlotS_rfl (a : List Slot) (h : wtL wtSlot a ≤ 4000000) : laws_eqSlotS a a = some true := by
  have hl : a.length ≤ 4000000 := (by have := wtL_len wtSlot a; omega)
  unfold laws_eqSlotS
  rw [eqSlotS_l0_rfl a a [] rfl (fun s hs => by have := wtL_mem wtSlot a s hs; omega), capOk_of (show a.length ≤ 274877906944 by omega)]
  simp only [bne_rfl, Bool.false_eq_true, if_false, if_true]
  rfl
theorem markSlotS_l0_val : ∀ (n : Nat) (k : Int) (i : Nat) (v : List Slot), i ≤ v.length → v.length ≤ 4000000 → wtL wtSlot (v.drop i) ≤ 4000000 → 0 ≤ k → k + 16 * (wtL wtSlot (v.drop i) : Nat) ≤ 1000000000000 → v.length - i < n →
    ∃ (k' : Int) (v' : List Slot), laws_markSlotS_l0 n k (i : Int) v = some (k', v') ∧ k ≤ k' ∧ k' ≤ k + 16 * (wtL wtSlot (v.drop i) : Nat) ∧ v'.length = v.length ∧ v'.take i = v.take i ∧ ∀ b, laws_heldSlotS_l0 b (v'.drop i) k = some (.out k')
  | 0, k, i, v, hi, hl, hw, h0, hk, hn => by omega
  | n + 1, k, i, v, hi, hl, hw, h0, hk, hn => by
    unfold laws_markSlotS_l0
    by_cases h : i < v.length
    · have hc : (i : Int) < (v.length : Int) := by omega
      have hi1 : i64 ((i : Int) + 1) = ((i + 1 : Nat) : Int) := by rw [i64_of (by omega) (by omega)]; omega
      have hg : v[i]? = some v[i] := List.getElem?_eq_getElem h
      have hd : wtL wtSlot (v.drop i) = 1 + wtSlot v[i] + wtL wtSlot (v.drop (i + 1)) := by rw [List.drop_eq_getElem_cons h]; rfl
      have hx := wtSlot_eq v[i]
      obtain ⟨t0, ht0⟩ := markText_tot (k) (by omega)
      have i0 : i64 (k + 1) = k + 1 := i64_of (by omega) (by omega)
      obtain ⟨t1, ht1⟩ := markText_tot (k + 1) (by omega)
      have i1 : i64 (k + 1 + 1) = k + 1 + 1 := i64_of (by omega) (by omega)
      obtain ⟨k2, y2, m2, g2, b2, q2, d2⟩ := markByteS_val v[i].Reply (k + 1 + 1) (by omega) (by omega) (by omega)
      have hsl : (v.set i (Slot.mk t0 t1 y2)).length = v.length := List.length_set
      have hsd : (v.set i (Slot.mk t0 t1 y2)).drop (i + 1) = v.drop (i + 1) := List.drop_set_of_lt (by omega)
      obtain ⟨k', v', e1, e1', e1'', e2, e3, e4⟩ := markSlotS_l0_val n (k2) (i + 1) (v.set i (Slot.mk t0 t1 y2)) (by rw [hsl]; omega) (by rw [hsl]; omega) (by rw [hsd]; omega) (by omega) (by rw [hsd]; omega) (by rw [hsl]; omega)
      rw [hsl] at e2
      rw [hsd] at e1''
      obtain ⟨p1, p2⟩ := after_set e3 e2 h
      refine ⟨k', v', ?_, by omega, by omega, e2, p2, fun b => ?_⟩
      · simp only [hc, decide_true, if_true, Int.natCast_nonneg, Int.toNat_natCast, hg, Option.bind_some, ht0, i0, ht1, i1, m2, hi1, List.getElem?_set_self h, List.set_set, List.length_set]
        exact e1
      · rw [p1]
        unfold laws_heldSlotS_l0
        simp only [ht0, i0, ht1, i1, d2, show ¬ k2 < 0 by omega, Option.bind_some, beq_rfl, bne_rfl, if_true, decide_false, Bool.false_eq_true, if_false]
        exact e4 b
    · have hc : ¬ (i : Int) < (v.length : Int) := by omega
      refine ⟨k, v, by simp only [hc, decide_false, Bool.false_eq_true, if_false], by omega, by omega, rfl, rfl, fun b => ?_⟩
      rw [List.drop_eq_nil_of_le (by omega)]
      rfl
theorem markSlotS_val (v : List Slot) (k : Int) (h : wtL wtSlot v ≤ 4000000) (h0 : 0 ≤ k) (hk : k + 16 * (wtL wtSlot v : Nat) ≤ 1000000000000) :
    ∃ (k' : Int) (v' : List Slot), laws_markSlotS v k = some (k', v') ∧ k ≤ k' ∧ k' ≤ k + 16 * (wtL wtSlot v : Nat) ∧ v'.length = v.length ∧ laws_heldSlotS v' k = some k' := by
  have hl : v.length ≤ 4000000 := (by have := wtL_len wtSlot v; omega)
  obtain ⟨k', v', e1, e1', e1'', e2, e3, e4⟩ := markSlotS_l0_val FUEL k 0 v (by omega) hl (by simpa using h) h0 (by simpa using hk) (by unfold FUEL; omega)
  have e4 := e4 v'
  simp only [List.drop_zero] at e4 e1''
  refine ⟨k', v', ?_, e1', e1'', e2, ?_⟩
  · unfold laws_markSlotS
    have : ((0 : Nat) : Int) = 0 := rfl
    rw [this] at e1
    rw [e1]; rfl
  · unfold laws_heldSlotS
    rw [capOk_of (by omega), e4]; rfl
def wtAcct (a : Acct) : Nat := a.Id.size + wtL wtHold a.Holds + wtRing a.Ring + wtL wtSlot a.Slots
theorem wtAcct_eq (a : Acct) : wtAcct a = a.Id.size + wtL wtHold a.Holds + wtRing a.Ring + wtL wtSlot a.Slots := rfl
theorem eqAcct_rfl (a : Acct) (h : wtAcct a ≤ 4000000) : laws_eqAcct a a = some true := by
  rw [wtAcct_eq] at h
  unfold laws_eqAcct
  simp only [eqHoldS_rfl a.Holds (by omega), eqRing_rfl a.Ring (by omega), eqSlotS_rfl a.Slots (by omega), beq_rfl, bne_rfl, Bool.false_eq_true, if_false, if_true, Option.bind_some]
theorem eqAcctS_l0_rfl (a : List Acct) : ∀ t p : List Acct, a = p ++ t → (∀ s ∈ t, wtAcct s ≤ 4000000) → laws_eqAcctS_l0 a a t p = some (.out ())
  | [], p, e, _ => rfl
  | x :: t, p, e, hs => by
    unfold laws_eqAcctS_l0
    rw [mid_get e, Option.bind_some, eqAcct_rfl x (hs x (by simp)), Option.bind_some]
    simpa using eqAcctS_l0_rfl a t (p ++ [x]) (by rw [e]; simp) (fun s hs' => hs s (by simp [hs']))
theorem eqAcctS_rfl (a : List Acct) (h : wtL wtAcct a ≤ 4000000) : laws_eqAcctS a a = some true := by
  have hl : a.length ≤ 4000000 := (by have := wtL_len wtAcct a; omega)
  unfold laws_eqAcctS
  rw [eqAcctS_l0_rfl a a [] rfl (fun s hs => by have := wtL_mem wtAcct a s hs; omega), capOk_of (show a.length ≤ 274877906944 by omega)]
  simp only [bne_rfl, Bool.false_eq_true, if_false, if_true]
  rfl
theorem markAcctS_l0_val : ∀ (n : Nat) (k : Int) (i : Nat) (v : List Acct), i ≤ v.length → v.length ≤ 4000000 → wtL wtAcct (v.drop i) ≤ 4000000 → 0 ≤ k → k + 16 * (wtL wtAcct (v.drop i) : Nat) ≤ 1000000000000 → v.length - i < n →
    ∃ (k' : Int) (v' : List Acct), laws_markAcctS_l0 n k (i : Int) v = some (k', v') ∧ k ≤ k' ∧ k' ≤ k + 16 * (wtL wtAcct (v.drop i) : Nat) ∧ v'.length = v.length ∧ v'.take i = v.take i ∧ ∀ b, laws_heldAcctS_l0 b (v'.drop i) k = some (.out k')
  | 0, k, i, v, hi, hl, hw, h0, hk, hn => by omega
  | n + 1, k, i, v, hi, hl, hw, h0, hk, hn => by
    unfold laws_markAcctS_l0
    by_cases h : i < v.length
    · have hc : (i : Int) < (v.length : Int) := by omega
      have hi1 : i64 ((i : Int) + 1) = ((i + 1 : Nat) : Int) := by rw [i64_of (by omega) (by omega)]; omega
      have hg : v[i]? = some v[i] := List.getElem?_eq_getElem h
      have hd : wtL wtAcct (v.drop i) = 1 + wtAcct v[i] + wtL wtAcct (v.drop (i + 1)) := by rw [List.drop_eq_getElem_cons h]; rfl
      have hx := wtAcct_eq v[i]
      have hx0 := wtRing_eq v[i].Ring
      obtain ⟨t0, ht0⟩ := markText_tot (k) (by omega)
      have i0 : i64 (k + 1) = k + 1 := i64_of (by omega) (by omega)
      have i1 : i64 (k + 1 + 1) = k + 1 + 1 := i64_of (by omega) (by omega)
      have i2 : i64 (k + 1 + 1 + 1) = k + 1 + 1 + 1 := i64_of (by omega) (by omega)
      have i3 : i64 (k + 1 + 1 + 1 + 1) = k + 1 + 1 + 1 + 1 := i64_of (by omega) (by omega)
      have i4 : i64 (k + 1 + 1 + 1 + 1 + 1) = k + 1 + 1 + 1 + 1 + 1 := i64_of (by omega) (by omega)
      obtain ⟨k5, y5, m5, g5, b5, q5, d5⟩ := markHoldS_val v[i].Holds (k + 1 + 1 + 1 + 1 + 1) (by omega) (by omega) (by omega)
      have i6 : i64 (k5 + 1) = k5 + 1 := i64_of (by omega) (by omega)
      have i7 : i64 (k5 + 1 + 1) = k5 + 1 + 1 := i64_of (by omega) (by omega)
      obtain ⟨k8, y8, m8, g8, b8, q8, d8⟩ := markIntS_val v[i].Ring.Counts (k5 + 1 + 1) (by omega) (by omega) (by omega)
      obtain ⟨k9, y9, m9, g9, b9, q9, d9⟩ := markIntS_val v[i].Ring.Sums (k8) (by omega) (by omega) (by omega)
      obtain ⟨k10, y10, m10, g10, b10, q10, d10⟩ := markSlotS_val v[i].Slots (k9) (by omega) (by omega) (by omega)
      have hsl : (v.set i (Acct.mk t0 (k + 1) (k + 1 + 1) (k + 1 + 1 + 1) (k + 1 + 1 + 1 + 1) y5 (Ring.mk (k5) (k5 + 1) y8 y9) y10)).length = v.length := List.length_set
      have hsd : (v.set i (Acct.mk t0 (k + 1) (k + 1 + 1) (k + 1 + 1 + 1) (k + 1 + 1 + 1 + 1) y5 (Ring.mk (k5) (k5 + 1) y8 y9) y10)).drop (i + 1) = v.drop (i + 1) := List.drop_set_of_lt (by omega)
      obtain ⟨k', v', e1, e1', e1'', e2, e3, e4⟩ := markAcctS_l0_val n (k10) (i + 1) (v.set i (Acct.mk t0 (k + 1) (k + 1 + 1) (k + 1 + 1 + 1) (k + 1 + 1 + 1 + 1) y5 (Ring.mk (k5) (k5 + 1) y8 y9) y10)) (by rw [hsl]; omega) (by rw [hsl]; omega) (by rw [hsd]; omega) (by omega) (by rw [hsd]; omega) (by rw [hsl]; omega)
      rw [hsl] at e2
      rw [hsd] at e1''
      obtain ⟨p1, p2⟩ := after_set e3 e2 h
      refine ⟨k', v', ?_, by omega, by omega, e2, p2, fun b => ?_⟩
      · simp only [hc, decide_true, if_true, Int.natCast_nonneg, Int.toNat_natCast, hg, Option.bind_some, ht0, i0, i1, i2, i3, i4, m5, i6, i7, m8, m9, m10, hi1, List.getElem?_set_self h, List.set_set, List.length_set]
        exact e1
      · rw [p1]
        unfold laws_heldAcctS_l0
        simp only [ht0, i0, i1, i2, i3, i4, i6, i7, d5, show ¬ k5 < 0 by omega, d8, show ¬ k8 < 0 by omega, d9, show ¬ k9 < 0 by omega, d10, show ¬ k10 < 0 by omega, Option.bind_some, beq_rfl, bne_rfl, if_true, decide_false, Bool.false_eq_true, if_false]
        exact e4 b
    · have hc : ¬ (i : Int) < (v.length : Int) := by omega
      refine ⟨k, v, by simp only [hc, decide_false, Bool.false_eq_true, if_false], by omega, by omega, rfl, rfl, fun b => ?_⟩
      rw [List.drop_eq_nil_of_le (by omega)]
      rfl
theorem markAcctS_val (v : List Acct) (k : Int) (h : wtL wtAcct v ≤ 4000000) (h0 : 0 ≤ k) (hk : k + 16 * (wtL wtAcct v : Nat) ≤ 1000000000000) :
    ∃ (k' : Int) (v' : List Acct), laws_markAcctS v k = some (k', v') ∧ k ≤ k' ∧ k' ≤ k + 16 * (wtL wtAcct v : Nat) ∧ v'.length = v.length ∧ laws_heldAcctS v' k = some k' := by
  have hl : v.length ≤ 4000000 := (by have := wtL_len wtAcct v; omega)
  obtain ⟨k', v', e1, e1', e1'', e2, e3, e4⟩ := markAcctS_l0_val FUEL k 0 v (by omega) hl (by simpa using h) h0 (by simpa using hk) (by unfold FUEL; omega)
  have e4 := e4 v'
  simp only [List.drop_zero] at e4 e1''
  refine ⟨k', v', ?_, e1', e1'', e2, ?_⟩
  · unfold laws_markAcctS
    have : ((0 : Nat) : Int) = 0 := rfl
    rw [this] at e1
    rw [e1]; rfl
  · unfold laws_heldAcctS
    rw [capOk_of (by omega), e4]; rfl
def wtBook (a : Book) : Nat := wtL wtAcct a.Accts
theorem wtBook_eq (a : Book) : wtBook a = wtL wtAcct a.Accts := rfl
theorem eqBook_rfl (a : Book) (h : wtBook a ≤ 4000000) : laws_eqBook a a = some true := by
  rw [wtBook_eq] at h
  unfold laws_eqBook
  simp only [eqAcctS_rfl a.Accts (by omega), beq_rfl, bne_rfl, Bool.false_eq_true, if_false, if_true, Option.bind_some]
theorem markBook_val (a : Book) (k : Int) (h : wtBook a ≤ 4000000) (h0 : 0 ≤ k) (hk : k + 16 * (wtBook a : Nat) ≤ 1000000000000) : ∃ (k' : Int) (l0 : List Acct), laws_markBook a k = some (k', l0) ∧ k ≤ k' ∧ k' ≤ k + 16 * (wtBook a : Nat) ∧ l0.length = a.Accts.length ∧ laws_heldBook (Book.mk l0) k = some k' := by
  rw [wtBook_eq] at *
  obtain ⟨k0, y0, m0, g0, b0, q0, d0⟩ := markAcctS_val a.Accts k (by omega) (by omega) (by omega)
  refine ⟨k0, y0, ?_, by omega, by omega, q0, ?_⟩
  · unfold laws_markBook
    simp only [m0, Option.bind_some]
  · unfold laws_heldBook
    simp only [d0, Option.bind_some, show ¬ k0 < 0 by omega, decide_false, Bool.false_eq_true, if_false]
def wtStripe (a : Stripe) : Nat := wtL wtAcct a.Accts
theorem wtStripe_eq (a : Stripe) : wtStripe a = wtL wtAcct a.Accts := rfl
theorem eqStripe_rfl (a : Stripe) (h : wtStripe a ≤ 4000000) : laws_eqStripe a a = some true := by
  rw [wtStripe_eq] at h
  unfold laws_eqStripe
  simp only [eqAcctS_rfl a.Accts (by omega), beq_rfl, bne_rfl, Bool.false_eq_true, if_false, if_true, Option.bind_some]
theorem eqStripeS_l0_rfl (a : List Stripe) : ∀ t p : List Stripe, a = p ++ t → (∀ s ∈ t, wtStripe s ≤ 4000000) → laws_eqStripeS_l0 a a t p = some (.out ())
  | [], p, e, _ => rfl
  | x :: t, p, e, hs => by
    unfold laws_eqStripeS_l0
    rw [mid_get e, Option.bind_some, eqStripe_rfl x (hs x (by simp)), Option.bind_some]
    simpa using eqStripeS_l0_rfl a t (p ++ [x]) (by rw [e]; simp) (fun s hs' => hs s (by simp [hs']))
theorem eqStripeS_rfl (a : List Stripe) (h : wtL wtStripe a ≤ 4000000) : laws_eqStripeS a a = some true := by
  have hl : a.length ≤ 4000000 := (by have := wtL_len wtStripe a; omega)
  unfold laws_eqStripeS
  rw [eqStripeS_l0_rfl a a [] rfl (fun s hs => by have := wtL_mem wtStripe a s hs; omega), capOk_of (show a.length ≤ 274877906944 by omega)]
  simp only [bne_rfl, Bool.false_eq_true, if_false, if_true]
  rfl
theorem markStripeS_l0_val : ∀ (n : Nat) (k : Int) (i : Nat) (v : List Stripe), i ≤ v.length → v.length ≤ 4000000 → wtL wtStripe (v.drop i) ≤ 4000000 → 0 ≤ k → k + 16 * (wtL wtStripe (v.drop i) : Nat) ≤ 1000000000000 → v.length - i < n →
    ∃ (k' : Int) (v' : List Stripe), laws_markStripeS_l0 n k (i : Int) v = some (k', v') ∧ k ≤ k' ∧ k' ≤ k + 16 * (wtL wtStripe (v.drop i) : Nat) ∧ v'.length = v.length ∧ v'.take i = v.take i ∧ ∀ b, laws_heldStripeS_l0 b (v'.drop i) k = some (.out k')
  | 0, k, i, v, hi, hl, hw, h0, hk, hn => by omega
  | n + 1, k, i, v, hi, hl, hw, h0, hk, hn => by
    unfold laws_markStripeS_l0
    by_cases h : i < v.length
    · have hc : (i : Int) < (v.length : Int) := by omega
      have hi1 : i64 ((i : Int) + 1) = ((i + 1 : Nat) : Int) := by rw [i64_of (by omega) (by omega)]; omega
      have hg : v[i]? = some v[i] := List.getElem?_eq_getElem h
      have hd : wtL wtStripe (v.drop i) = 1 + wtStripe v[i] + wtL wtStripe (v.drop (i + 1)) := by rw [List.drop_eq_getElem_cons h]; rfl
      have hx := wtStripe_eq v[i]
      have i0 : i64 (k + 1) = k + 1 := i64_of (by omega) (by omega)
      obtain ⟨k1, y1, m1, g1, b1, q1, d1⟩ := markAcctS_val v[i].Accts (k + 1) (by omega) (by omega) (by omega)
      have hsl : (v.set i (Stripe.mk (k) y1)).length = v.length := List.length_set
      have hsd : (v.set i (Stripe.mk (k) y1)).drop (i + 1) = v.drop (i + 1) := List.drop_set_of_lt (by omega)
      obtain ⟨k', v', e1, e1', e1'', e2, e3, e4⟩ := markStripeS_l0_val n (k1) (i + 1) (v.set i (Stripe.mk (k) y1)) (by rw [hsl]; omega) (by rw [hsl]; omega) (by rw [hsd]; omega) (by omega) (by rw [hsd]; omega) (by rw [hsl]; omega)
      rw [hsl] at e2
      rw [hsd] at e1''
      obtain ⟨p1, p2⟩ := after_set e3 e2 h
      refine ⟨k', v', ?_, by omega, by omega, e2, p2, fun b => ?_⟩
      · simp only [hc, decide_true, if_true, Int.natCast_nonneg, Int.toNat_natCast, hg, Option.bind_some, i0, m1, hi1, List.getElem?_set_self h, List.set_set, List.length_set]
        exact e1
      · rw [p1]
        unfold laws_heldStripeS_l0
        simp only [i0, d1, show ¬ k1 < 0 by omega, Option.bind_some, beq_rfl, bne_rfl, if_true, decide_false, Bool.false_eq_true, if_false]
        exact e4 b
    · have hc : ¬ (i : Int) < (v.length : Int) := by omega
      refine ⟨k, v, by simp only [hc, decide_false, Bool.false_eq_true, if_false], by omega, by omega, rfl, rfl, fun b => ?_⟩
      rw [List.drop_eq_nil_of_le (by omega)]
      rfl
theorem markStripeS_val (v : List Stripe) (k : Int) (h : wtL wtStripe v ≤ 4000000) (h0 : 0 ≤ k) (hk : k + 16 * (wtL wtStripe v : Nat) ≤ 1000000000000) :
    ∃ (k' : Int) (v' : List Stripe), laws_markStripeS v k = some (k', v') ∧ k ≤ k' ∧ k' ≤ k + 16 * (wtL wtStripe v : Nat) ∧ v'.length = v.length ∧ laws_heldStripeS v' k = some k' := by
  have hl : v.length ≤ 4000000 := (by have := wtL_len wtStripe v; omega)
  obtain ⟨k', v', e1, e1', e1'', e2, e3, e4⟩ := markStripeS_l0_val FUEL k 0 v (by omega) hl (by simpa using h) h0 (by simpa using hk) (by unfold FUEL; omega)
  have e4 := e4 v'
  simp only [List.drop_zero] at e4 e1''
  refine ⟨k', v', ?_, e1', e1'', e2, ?_⟩
  · unfold laws_markStripeS
    have : ((0 : Nat) : Int) = 0 := rfl
    rw [this] at e1
    rw [e1]; rfl
  · unfold laws_heldStripeS
    rw [capOk_of (by omega), e4]; rfl
def wtTask (a : Task) : Nat := a.Data.length + a.Set.length + a.Reply.length
theorem wtTask_eq (a : Task) : wtTask a = a.Data.length + a.Set.length + a.Reply.length := rfl
theorem eqTask_rfl (a : Task) (h : wtTask a ≤ 4000000) : laws_eqTask a a = some true := by
  rw [wtTask_eq] at h
  unfold laws_eqTask
  simp only [eqByteS_rfl a.Data (by omega), eqIntS_rfl a.Set (by omega), eqByteS_rfl a.Reply (by omega), beq_rfl, bne_rfl, Bool.false_eq_true, if_false, if_true, Option.bind_some]
theorem eqTaskS_l0_rfl (a : List Task) : ∀ t p : List Task, a = p ++ t → (∀ s ∈ t, wtTask s ≤ 4000000) → laws_eqTaskS_l0 a a t p = some (.out ())
  | [], p, e, _ => rfl
  | x :: t, p, e, hs => by
    unfold laws_eqTaskS_l0
    rw [mid_get e, Option.bind_some, eqTask_rfl x (hs x (by simp)), Option.bind_some]
    simpa using eqTaskS_l0_rfl a t (p ++ [x]) (by rw [e]; simp) (fun s hs' => hs s (by simp [hs']))
theorem eqTaskS_rfl (a : List Task) (h : wtL wtTask a ≤ 4000000) : laws_eqTaskS a a = some true := by
  have hl : a.length ≤ 4000000 := (by have := wtL_len wtTask a; omega)
  unfold laws_eqTaskS
  rw [eqTaskS_l0_rfl a a [] rfl (fun s hs => by have := wtL_mem wtTask a s hs; omega), capOk_of (show a.length ≤ 274877906944 by omega)]
  simp only [bne_rfl, Bool.false_eq_true, if_false, if_true]
  rfl
theorem markTaskS_l0_val : ∀ (n : Nat) (k : Int) (i : Nat) (v : List Task), i ≤ v.length → v.length ≤ 4000000 → wtL wtTask (v.drop i) ≤ 4000000 → 0 ≤ k → k + 16 * (wtL wtTask (v.drop i) : Nat) ≤ 1000000000000 → v.length - i < n →
    ∃ (k' : Int) (v' : List Task), laws_markTaskS_l0 n k (i : Int) v = some (k', v') ∧ k ≤ k' ∧ k' ≤ k + 16 * (wtL wtTask (v.drop i) : Nat) ∧ v'.length = v.length ∧ v'.take i = v.take i ∧ ∀ b, laws_heldTaskS_l0 b (v'.drop i) k = some (.out k')
  | 0, k, i, v, hi, hl, hw, h0, hk, hn => by omega
  | n + 1, k, i, v, hi, hl, hw, h0, hk, hn => by
    unfold laws_markTaskS_l0
    by_cases h : i < v.length
    · have hc : (i : Int) < (v.length : Int) := by omega
      have hi1 : i64 ((i : Int) + 1) = ((i + 1 : Nat) : Int) := by rw [i64_of (by omega) (by omega)]; omega
      have hg : v[i]? = some v[i] := List.getElem?_eq_getElem h
      have hd : wtL wtTask (v.drop i) = 1 + wtTask v[i] + wtL wtTask (v.drop (i + 1)) := by rw [List.drop_eq_getElem_cons h]; rfl
      have hx := wtTask_eq v[i]
      obtain ⟨k0, y0, m0, g0, b0, q0, d0⟩ := markByteS_val v[i].Data (k) (by omega) (by omega) (by omega)
      have i1 : i64 (k0 + 1) = k0 + 1 := i64_of (by omega) (by omega)
      obtain ⟨k2, y2, m2, g2, b2, q2, d2⟩ := markIntS_val v[i].Set (k0 + 1) (by omega) (by omega) (by omega)
      have i3 : i64 (k2 + 1) = k2 + 1 := i64_of (by omega) (by omega)
      have i4 : i64 (k2 + 1 + 1) = k2 + 1 + 1 := i64_of (by omega) (by omega)
      have i5 : i64 (k2 + 1 + 1 + 1) = k2 + 1 + 1 + 1 := i64_of (by omega) (by omega)
      have i6 : i64 (k2 + 1 + 1 + 1 + 1) = k2 + 1 + 1 + 1 + 1 := i64_of (by omega) (by omega)
      have i7 : i64 (k2 + 1 + 1 + 1 + 1 + 1) = k2 + 1 + 1 + 1 + 1 + 1 := i64_of (by omega) (by omega)
      obtain ⟨k8, y8, m8, g8, b8, q8, d8⟩ := markByteS_val v[i].Reply (k2 + 1 + 1 + 1 + 1 + 1) (by omega) (by omega) (by omega)
      have hsl : (v.set i (Task.mk y0 (k0) y2 (k2) (k2 + 1) (k2 + 1 + 1) (k2 + 1 + 1 + 1) (k2 + 1 + 1 + 1 + 1) y8)).length = v.length := List.length_set
      have hsd : (v.set i (Task.mk y0 (k0) y2 (k2) (k2 + 1) (k2 + 1 + 1) (k2 + 1 + 1 + 1) (k2 + 1 + 1 + 1 + 1) y8)).drop (i + 1) = v.drop (i + 1) := List.drop_set_of_lt (by omega)
      obtain ⟨k', v', e1, e1', e1'', e2, e3, e4⟩ := markTaskS_l0_val n (k8) (i + 1) (v.set i (Task.mk y0 (k0) y2 (k2) (k2 + 1) (k2 + 1 + 1) (k2 + 1 + 1 + 1) (k2 + 1 + 1 + 1 + 1) y8)) (by rw [hsl]; omega) (by rw [hsl]; omega) (by rw [hsd]; omega) (by omega) (by rw [hsd]; omega) (by rw [hsl]; omega)
      rw [hsl] at e2
      rw [hsd] at e1''
      obtain ⟨p1, p2⟩ := after_set e3 e2 h
      refine ⟨k', v', ?_, by omega, by omega, e2, p2, fun b => ?_⟩
      · simp only [hc, decide_true, if_true, Int.natCast_nonneg, Int.toNat_natCast, hg, Option.bind_some, m0, i1, m2, i3, i4, i5, i6, i7, m8, hi1, List.getElem?_set_self h, List.set_set, List.length_set]
        exact e1
      · rw [p1]
        unfold laws_heldTaskS_l0
        simp only [i1, i3, i4, i5, i6, i7, d0, show ¬ k0 < 0 by omega, d2, show ¬ k2 < 0 by omega, d8, show ¬ k8 < 0 by omega, Option.bind_some, beq_rfl, bne_rfl, if_true, decide_false, Bool.false_eq_true, if_false]
        exact e4 b
    · have hc : ¬ (i : Int) < (v.length : Int) := by omega
      refine ⟨k, v, by simp only [hc, decide_false, Bool.false_eq_true, if_false], by omega, by omega, rfl, rfl, fun b => ?_⟩
      rw [List.drop_eq_nil_of_le (by omega)]
      rfl
theorem markTaskS_val (v : List Task) (k : Int) (h : wtL wtTask v ≤ 4000000) (h0 : 0 ≤ k) (hk : k + 16 * (wtL wtTask v : Nat) ≤ 1000000000000) :
    ∃ (k' : Int) (v' : List Task), laws_markTaskS v k = some (k', v') ∧ k ≤ k' ∧ k' ≤ k + 16 * (wtL wtTask v : Nat) ∧ v'.length = v.length ∧ laws_heldTaskS v' k = some k' := by
  have hl : v.length ≤ 4000000 := (by have := wtL_len wtTask v; omega)
  obtain ⟨k', v', e1, e1', e1'', e2, e3, e4⟩ := markTaskS_l0_val FUEL k 0 v (by omega) hl (by simpa using h) h0 (by simpa using hk) (by unfold FUEL; omega)
  have e4 := e4 v'
  simp only [List.drop_zero] at e4 e1''
  refine ⟨k', v', ?_, e1', e1'', e2, ?_⟩
  · unfold laws_markTaskS
    have : ((0 : Nat) : Int) = 0 := rfl
    rw [this] at e1
    rw [e1]; rfl
  · unfold laws_heldTaskS
    rw [capOk_of (by omega), e4]; rfl
def wtWorld (a : World) : Nat := wtL wtStripe a.Stripes + wtL wtTask a.Tasks
theorem wtWorld_eq (a : World) : wtWorld a = wtL wtStripe a.Stripes + wtL wtTask a.Tasks := rfl
theorem eqWorld_rfl (a : World) (h : wtWorld a ≤ 4000000) : laws_eqWorld a a = some true := by
  rw [wtWorld_eq] at h
  unfold laws_eqWorld
  simp only [eqStripeS_rfl a.Stripes (by omega), eqTaskS_rfl a.Tasks (by omega), beq_rfl, bne_rfl, Bool.false_eq_true, if_false, if_true, Option.bind_some]
theorem markWorld_val (a : World) (k : Int) (h : wtWorld a ≤ 4000000) (h0 : 0 ≤ k) (hk : k + 16 * (wtWorld a : Nat) ≤ 1000000000000) : ∃ (k' : Int) (l0 : List Stripe) (l1 : List Task), laws_markWorld a k = some (k', l0, l1) ∧ k ≤ k' ∧ k' ≤ k + 16 * (wtWorld a : Nat) ∧ l0.length = a.Stripes.length ∧ l1.length = a.Tasks.length ∧ ∀ (z0 : Int) (z1 : Int), laws_heldWorld (World.mk l0 z0 z1 l1) k = some k' := by
  rw [wtWorld_eq] at *
  obtain ⟨k0, y0, m0, g0, b0, q0, d0⟩ := markStripeS_val a.Stripes k (by omega) (by omega) (by omega)
  obtain ⟨k1, y1, m1, g1, b1, q1, d1⟩ := markTaskS_val a.Tasks k0 (by omega) (by omega) (by omega)
  refine ⟨k1, y0, y1, ?_, by omega, by omega, q0, q1, fun z0 z1 => ?_⟩
  · unfold laws_markWorld
    simp only [m0, m1, Option.bind_some]
  · unfold laws_heldWorld
    simp only [d0, d1, Option.bind_some, show ¬ k0 < 0 by omega, show ¬ k1 < 0 by omega, decide_false, Bool.false_eq_true, if_false]
def wtDesk (a : Desk) : Nat := wtBook a.Book + wtWorld a.World
theorem wtDesk_eq (a : Desk) : wtDesk a = wtBook a.Book + wtWorld a.World := rfl
theorem eqDesk_rfl (a : Desk) (h : wtDesk a ≤ 4000000) : laws_eqDesk a a = some true := by
  rw [wtDesk_eq] at h
  unfold laws_eqDesk
  simp only [eqBook_rfl a.Book (by omega), eqWorld_rfl a.World (by omega), beq_rfl, bne_rfl, Bool.false_eq_true, if_false, if_true, Option.bind_some]
theorem markDesk_val (a : Desk) (k : Int) (h : wtDesk a ≤ 4000000) (h0 : 0 ≤ k) (hk : k + 16 * (wtDesk a : Nat) ≤ 1000000000000) : ∃ (k' : Int) (l0 : List Acct) (l1 : List Stripe) (l2 : List Task), laws_markDesk a k = some (k', l0, l1, l2) ∧ k ≤ k' ∧ k' ≤ k + 16 * (wtDesk a : Nat) ∧ l0.length = a.Book.Accts.length ∧ l1.length = a.World.Stripes.length ∧ l2.length = a.World.Tasks.length ∧ ∀ (z0 : Int) (z1 : Int) (z2 : Int), laws_heldDesk (Desk.mk (Book.mk l0) z0 (World.mk l1 z1 z2 l2)) k = some k' := by
  rw [wtDesk_eq] at *
  obtain ⟨k0, y0, m0, g0, b0, q0, d0⟩ := markBook_val a.Book k (by omega) (by omega) (by omega)
  obtain ⟨k1, y1, y2, m1, g1, b1, q1, q2, d1⟩ := markWorld_val a.World k0 (by omega) (by omega) (by omega)
  refine ⟨k1, y0, y1, y2, ?_, by omega, by omega, q0, q1, q2, fun z0 z1 z2 => ?_⟩
  · unfold laws_markDesk
    simp only [m0, m1, Option.bind_some]
  · unfold laws_heldDesk
    simp only [d0, d1, Option.bind_some, show ¬ k0 < 0 by omega, show ¬ k1 < 0 by omega, decide_false, Bool.false_eq_true, if_false]
theorem tf (b : Bool) : b = true ∨ b = false := by cases b <;> simp
theorem l01In_val (n lo hi : Int) : spec_l01In n lo hi = some (decide (lo ≤ n) && decide (n ≤ hi)) := by
  unfold spec_l01In
  by_cases h : lo ≤ n <;> simp [h]
theorem within_val (n lo hi : Int) : impl_within n lo hi = some (decide (lo ≤ n) && decide (n ≤ hi)) := l01In_val n lo hi
def time (n : Int) : Bool := decide (0 ≤ n) && decide (n ≤ 1000000000)
theorem l06Time_val (n : Int) : spec_l06Time n = some (time n) := by unfold spec_l06Time; rw [l01In_val]; rfl
theorem isTime_val (n : Int) : impl_isTime n = some (time n) := by unfold impl_isTime; rw [within_val]; rfl
def money (n : Int) : Bool := decide (0 ≤ n) && decide (n ≤ 4611686018427387904)
theorem l01Money_val (n : Int) : spec_l01Money n = some (money n) := by
  unfold spec_l01Money money
  by_cases h : 0 ≤ n <;> simp [h]
theorem isMoney_val (n : Int) : impl_isMoney n = some (money n) := by unfold impl_isMoney; rw [within_val]; rfl
theorem spec_Digits_l0_tot (s : ByteArray) (hs : s.size ≤ 4000000) : ∀ (n : Nat) (v : Int), 0 ≤ v → v ≤ s.size → (s.size : Int) - v < n →
    ∃ y, spec_Digits_l0 s n v = some y ∧ impl_Digits_l0 s n v = some y ∧ ∀ u, y = .out u → ∀ i : Int, v ≤ i → i < s.size → 48 ≤ sAt s i ∧ sAt s i ≤ 57
  | 0, v, h0, hv, hn => by exfalso; omega
  | n + 1, v, h0, hv, hn => by
    unfold spec_Digits_l0 impl_Digits_l0
    by_cases h1 : v < (s.size : Int)
    · by_cases h2 : sAt s v < 48
      · exact ⟨.ret (), by simp [h1, h0, h2], by simp [h1, h0, h2], fun u e => by cases e⟩
      · by_cases h3 : 57 < sAt s v
        · exact ⟨.ret (), by simp [h1, h0, h2, h3], by simp [h1, h0, h2, h3], fun u e => by cases e⟩
        · have hi : i64 (v + 1) = v + 1 := i64_nn (by omega) (by omega)
          obtain ⟨y, e1, e2, e3⟩ := spec_Digits_l0_tot s hs n (v + 1) (by omega) (by omega) (by omega)
          refine ⟨y, by simp [h1, h0, h2, h3, hi, e1], by simp [h1, h0, h2, h3, hi, e2], fun u e i hv hi' => ?_⟩
          by_cases hiv : i = v
          · subst hiv; omega
          · exact e3 u e i (by omega) hi'
    · exact ⟨.out (), by simp [h1], by simp [h1], fun u _ i hv hi => by omega⟩
theorem beq_empty (s : ByteArray) : (s == bs []) = decide (s.size = 0) := by
  rw [beqB]
  by_cases h : s.size = 0
  · have : s = bs [] := by
      rcases s with ⟨d⟩
      have hd : d.size = 0 := h
      have : d = #[] := Array.eq_empty_of_size_eq_zero hd
      subst this; rfl
    rw [decide_eq_true h, decide_eq_true this]
  · rw [decide_eq_false h, decide_eq_false (fun e => h (by rw [e]; rfl))]
theorem Digits_tot (s : ByteArray) (hs : s.size ≤ 4000000) : ∃ b, spec_Digits s = some b ∧ impl_Digits s = some b ∧ (b = true → 0 < s.size ∧ ∀ i : Int, 0 ≤ i → i < s.size → 48 ≤ sAt s i ∧ sAt s i ≤ 57) := by
  obtain ⟨y, e1, e2, e3⟩ := spec_Digits_l0_tot s hs FUEL 0 (by omega) (by omega) (by unfold FUEL; omega)
  unfold spec_Digits impl_Digits
  rw [e1, e2]
  cases y with
  | ret u => exact ⟨false, rfl, rfl, fun h => by cases h⟩
  | out u =>
    refine ⟨decide (0 < (s.size : Int)), rfl, ?_, fun h => ⟨by have := of_decide_eq_true h; omega, fun i h0 hi => e3 u rfl i h0 hi⟩⟩
    simp only [Option.bind_some, Lo.elim, beq_empty]
    congr 1
    by_cases h : s.size = 0
    · simp [h]
    · rw [decide_eq_false h, decide_eq_true (show (0 : Int) < s.size by omega)]; rfl
theorem Luhn_l0_tot (s : ByteArray) (hs : s.size ≤ 4000000) (hd : ∀ i : Int, 0 ≤ i → i < s.size → 48 ≤ sAt s i ∧ sAt s i ≤ 57) : ∀ (n : Nat) (v w : Int) (b : Bool) (k : Int), k + 1 < n → -1 ≤ k → k < s.size → 0 ≤ v → v + 9 * (k + 1) ≤ 100000000 → w = v % 10 →
    ∃ y, impl_Luhn_l0 s n v b k = some y ∧ spec_Luhn_l0 s n w b k = some (y % 10) ∧ 0 ≤ y ∧ y ≤ 100000000
  | 0, v, w, b, k, hn, hk, hks, hv, hb, hw => by
    exfalso; omega
  | n + 1, v, w, b, k, hn, hk, hks, hv, hb, hw => by
    unfold impl_Luhn_l0 spec_Luhn_l0
    by_cases h0 : 0 ≤ k
    · obtain ⟨d1, d2⟩ := hd k h0 hks
      have hk1 : i64 (k - 1) = k - 1 := i64_of (by omega) (by omega)
      have hu : u8 (sAt s k - 48) = sAt s k - 48 := u8_of (by omega) (by omega)
      have hi : i64 (sAt s k - 48) = sAt s k - 48 := i64_of (by omega) (by omega)
      have hi2 : i64 (sAt s k) = sAt s k := i64_of (by omega) (by omega)
      have hi3 : i64 ((sAt s k - 48) * 2) = (sAt s k - 48) * 2 := i64_of (by omega) (by omega)
      have hi4 : i64 (2 * (sAt s k - 48)) = (sAt s k - 48) * 2 := by rw [Int.mul_comm]; exact hi3
      have hd0 : 0 ≤ sAt s k - 48 ∧ sAt s k - 48 ≤ 9 := by omega
      simp only [hk1, hu, hi2, hi, hi3, hi4]
      generalize sAt s k - 48 = d at *
      obtain ⟨g0, g9⟩ := hd0
      have hm : ∀ x, 0 ≤ x → x ≤ 9 → i64 (v + x) = v + x ∧ i64 (w + x) = w + x ∧ Int.tmod (w + x) 10 = (v + x) % 10 := fun x hx hx9 => by
        refine ⟨i64_of (by omega) (by omega), i64_of (by omega) (by omega), ?_⟩
        rw [tmod10 (by omega)]; omega
      by_cases hb' : b = true
      · by_cases h9 : 9 < d * 2
        · have h9' : i64 (d * 2 - 9) = d * 2 - 9 := i64_of (by omega) (by omega)
          obtain ⟨m1, m2, m3⟩ := hm (d * 2 - 9) (by omega) (by omega)
          obtain ⟨y, e1, e2, e3⟩ := Luhn_l0_tot s hs hd n (v + (d * 2 - 9)) ((v + (d * 2 - 9)) % 10) (!b) (k - 1) (by omega) (by omega) (by omega) (by omega) (by omega) rfl
          exact ⟨y, by simp only [h0, hks, hb', h9, h9', m1, m2, m3, decide_true, if_true]; rw [hb'] at e1; exact e1, by simp only [h0, hks, hb', h9, h9', m1, m2, m3, decide_true, if_true]; rw [hb'] at e2; exact e2, e3⟩
        · obtain ⟨m1, m2, m3⟩ := hm (d * 2) (by omega) (by omega)
          obtain ⟨y, e1, e2, e3⟩ := Luhn_l0_tot s hs hd n (v + d * 2) ((v + d * 2) % 10) (!b) (k - 1) (by omega) (by omega) (by omega) (by omega) (by omega) rfl
          exact ⟨y, by simp only [h0, hks, hb', h9, m1, m2, m3, decide_true, decide_false, if_true, Bool.false_eq_true, if_false]; rw [hb'] at e1; exact e1, by simp only [h0, hks, hb', h9, m1, m2, m3, decide_true, decide_false, if_true, Bool.false_eq_true, if_false]; rw [hb'] at e2; exact e2, e3⟩
      · have hbf : b = false := by simpa using hb'
        obtain ⟨m1, m2, m3⟩ := hm d (by omega) (by omega)
        obtain ⟨y, e1, e2, e3⟩ := Luhn_l0_tot s hs hd n (v + d) ((v + d) % 10) (!b) (k - 1) (by omega) (by omega) (by omega) (by omega) (by omega) rfl
        exact ⟨y, by simp only [h0, hks, hbf, m1, m2, m3, decide_true, if_true, Bool.false_eq_true, if_false]; rw [hbf] at e1; exact e1, by simp only [h0, hks, hbf, m1, m2, m3, decide_true, if_true, Bool.false_eq_true, if_false]; rw [hbf] at e2; exact e2, e3⟩
    · exact ⟨v, by simp [h0], by simp [h0, hw], hv, by omega⟩
theorem Luhn_tot (s : ByteArray) (hs : s.size ≤ 4000000) : ∃ y, spec_Luhn s = some y ∧ impl_Luhn s = some y := by
  obtain ⟨b, e1, e2, e3⟩ := Digits_tot s hs
  unfold spec_Luhn impl_Luhn
  rw [e1, e2]
  cases b with
  | false => exact ⟨-1, rfl, rfl⟩
  | true =>
    obtain ⟨hp, hd⟩ := e3 rfl
    have hi : i64 ((s.size : Int) - 1) = (s.size : Int) - 1 := i64_of (by omega) (by omega)
    obtain ⟨y, q1, q2, q3, q4⟩ := Luhn_l0_tot s hs hd FUEL 0 0 true ((s.size : Int) - 1) (by unfold FUEL; omega) (by omega) (by omega) (by omega) (by omega) rfl
    refine ⟨Int.tmod (i64 (10 - y % 10)) 10, ?_, ?_⟩
    · simp only [Option.bind_some, if_true, hi, q2]
    · simp only [Option.bind_some, if_true, hi, q1, tmod10 q3]
theorem LuhnOk_eq (s : ByteArray) (hs : s.size ≤ 4000000) : ∃ y, spec_LuhnOk s = some y ∧ impl_LuhnOk s = some y := by
  obtain ⟨b, e1, e2, e3⟩ := Digits_tot s hs
  unfold spec_LuhnOk impl_LuhnOk
  have hi : i64 ((s.size : Int) - 1) = (s.size : Int) - 1 := i64_of (by omega) (by omega)
  rw [e1, e2, hi]
  by_cases h2 : (s.size : Int) < 2
  · have h1 : ¬ 1 ≤ (s.size : Int) - 1 := by omega
    refine ⟨false, ?_, by simp [h1]⟩
    cases b <;> simp [h2]
  · have h1 : 1 ≤ (s.size : Int) - 1 := by omega
    cases b with
    | false => exact ⟨false, by simp, by simp [h1]⟩
    | true =>
      obtain ⟨hp, hd⟩ := e3 rfl
      obtain ⟨d1, d2⟩ := hd ((s.size : Int) - 1) (by omega) (by omega)
      obtain ⟨y, q1, q2⟩ := Luhn_tot (s.extract 0 ((s.size : Int) - 1).toNat) (by simp; omega)
      have c1 : (0 : Int) ≤ (s.size : Int) - 1 := by omega
      have c2 : (s.size : Int) - 1 ≤ s.size := by omega
      have c3 : (s.size : Int) - 1 < s.size := by omega
      have hu : u8 (sAt s ((s.size : Int) - 1) - 48) = sAt s ((s.size : Int) - 1) - 48 := u8_of (by omega) (by omega)
      have hi2 : i64 (sAt s ((s.size : Int) - 1)) = sAt s ((s.size : Int) - 1) := i64_of (by omega) (by omega)
      refine ⟨y == i64 (sAt s ((s.size : Int) - 1) - 48), ?_, ?_⟩
      · simp only [Option.bind_some, if_true, h2, decide_false, Bool.false_eq_true, if_false, c1, c2, c3, decide_true, q1, hi2]
      · simp only [Option.bind_some, if_true, h1, c1, c2, c3, decide_true, q2, hu]
theorem AcctIdOk_eq (s : ByteArray) : ∃ y, spec_AcctIdOk s = some y ∧ impl_AcctIdOk s = some y ∧ (y = true → s.size ≤ 19) := by
  unfold spec_AcctIdOk impl_AcctIdOk
  by_cases h : (s.size : Int) ≤ 19
  · obtain ⟨y, e1, e2⟩ := LuhnOk_eq s (by omega)
    exact ⟨y, by simp [h, e1], by simp [h, e2], fun _ => by omega⟩
  · exact ⟨false, by simp [h], by simp [h], fun e => by cases e⟩
theorem HoldIdOk_l0_eq : ∀ (s : ByteArray) (n : Nat) (v : Int), impl_HoldIdOk_l0 s n v = spec_HoldIdOk_l0 s n v
  | s, 0, v => rfl
  | s, n + 1, v => by unfold impl_HoldIdOk_l0 spec_HoldIdOk_l0; simp only [HoldIdOk_l0_eq s n]
theorem HoldIdOk_l0_tot (s : ByteArray) (hs : s.size ≤ 4000000) : ∀ (n : Nat) (v : Int), 0 ≤ v → v ≤ s.size → (s.size : Int) - v < n → ∃ y, spec_HoldIdOk_l0 s n v = some y
  | 0, v, h0, hv, hn => by exfalso; omega
  | n + 1, v, h0, hv, hn => by
    unfold spec_HoldIdOk_l0
    by_cases h1 : v < (s.size : Int)
    · have hi : i64 (v + 1) = v + 1 := i64_nn (by omega) (by omega)
      obtain ⟨y, e⟩ := HoldIdOk_l0_tot s hs n (v + 1) (by omega) (by omega) (by omega)
      simp only [h1, h0, decide_true, if_true, hi, e]
      repeat' split
      all_goals exact ⟨_, rfl⟩
    · exact ⟨.out (), by simp [h1]⟩
theorem bytesLess_flip : ∀ a b : List UInt8, Op.bytesLess b a = !(Op.bytesLess a b || a == b)
  | [], [] => rfl
  | [], _ :: _ => rfl
  | _ :: _, [] => rfl
  | a :: x, b :: y => by
    have ih := bytesLess_flip x y
    unfold Op.bytesLess
    rw [ih]
    by_cases h1 : a < b
    · have h2 : ¬ b < a := by have := UInt8.lt_iff_toNat_lt.1 h1; intro h; have := UInt8.lt_iff_toNat_lt.1 h; omega
      have h3 : ¬ b = a := by intro e; subst e; exact h2 h1
      simp [h1, h2, h3]
    · by_cases h2 : b < a
      · have h3 : ¬ a = b := by intro e; subst e; exact h1 h2
        have h4 : ¬ b = a := fun e => h3 e.symm
        simp [h1, h2, h3]
      · have h3 : a = b := by
          apply UInt8.toNat_inj.1
          have := mt UInt8.lt_iff_toNat_lt.2 h1
          have := mt UInt8.lt_iff_toNat_lt.2 h2
          omega
        subst h3
        simp [h1]
theorem less_flip (a b : ByteArray) : Op.bytesLess b.toList a.toList = !(Op.bytesLess a.toList b.toList || (a == b)) := by
  rw [beq_toListBytes]; exact bytesLess_flip _ _
theorem HoldIdOk_tot (s : ByteArray) (hs : s.size ≤ 4000000) : ∃ y, spec_HoldIdOk s = some y ∧ impl_HoldIdOk s = some y ∧ (y = true → s.size ≤ 6) := by
  obtain ⟨y, e⟩ := HoldIdOk_l0_tot s hs FUEL 0 (by omega) (by omega) (by unfold FUEL; omega)
  unfold spec_HoldIdOk impl_HoldIdOk
  rw [HoldIdOk_l0_eq, e]
  cases y with
  | ret u => exact ⟨false, rfl, rfl, fun h => by cases h⟩
  | out u =>
    refine ⟨decide ((1 : Int) ≤ s.size) && decide ((s.size : Int) ≤ 6), ?_, ?_, fun h => ?_⟩
    · simp only [Option.bind_some, Lo.elim, l01In_val]
    · simp only [Option.bind_some, Lo.elim, within_val]
    · simp only [Bool.and_eq_true, decide_eq_true_eq] at h; omega
theorem HoldOk_tot (h : Hold) (hs : h.Id.size ≤ 4000000) : ∃ y, spec_HoldOk h = some y ∧ impl_HoldOk h = some y ∧ (y = true → h.Id.size ≤ 6 ∧ 1 ≤ h.Amount ∧ h.Amount ≤ 9007199254740992 ∧ time h.Due = true) := by
  obtain ⟨y, e1, e2, e3⟩ := HoldIdOk_tot h.Id hs
  unfold spec_HoldOk impl_HoldOk
  rw [e1, e2]
  cases y with
  | false => exact ⟨false, rfl, rfl, fun e => by cases e⟩
  | true =>
    simp only [Option.bind_some, if_true, l01In_val, within_val, l06Time_val, isTime_val]
    by_cases ha : (decide (1 ≤ h.Amount) && decide (h.Amount ≤ 9007199254740992)) = true
    · rw [ha]
      refine ⟨time h.Due, rfl, rfl, fun ht => ⟨e3 rfl, ?_⟩⟩
      simp only [Bool.and_eq_true, decide_eq_true_eq] at ha
      exact ⟨ha.1, ha.2, ht⟩
    · have : (decide (1 ≤ h.Amount) && decide (h.Amount ≤ 9007199254740992)) = false := by simpa using ha
      rw [this]
      exact ⟨false, rfl, rfl, fun e => by cases e⟩
theorem HoldsOk_l0_tot (l : List Hold) (hl : l.length ≤ 274877906944) : ∀ (t p : List Hold), l = p ++ t → (∀ h ∈ t, h.Id.size ≤ 4000000) →
    ∃ y, spec_HoldsOk_l0 l t p = some y ∧ impl_HoldsOk_l0 l t p = some y ∧ ∀ u, y = .out u → ∀ h ∈ t, h.Id.size ≤ 6 ∧ 1 ≤ h.Amount ∧ h.Amount ≤ 9007199254740992 ∧ time h.Due = true
  | [], p, e, hs => ⟨.out (), rfl, rfl, fun _ _ h hh => by simp at hh⟩
  | x :: t, p, e, hs => by
    obtain ⟨y, e1, e2, e3⟩ := HoldOk_tot x (hs x (by simp))
    obtain ⟨z, f1, f2, f3⟩ := HoldsOk_l0_tot l hl t (p ++ [x]) (by rw [e]; simp) (fun h hh => hs h (by simp [hh]))
    unfold spec_HoldsOk_l0 impl_HoldsOk_l0
    rw [e1, e2]
    have f3' : y = true → ∀ u, z = .out u → ∀ h ∈ x :: t, h.Id.size ≤ 6 ∧ 1 ≤ h.Amount ∧ h.Amount ≤ 9007199254740992 ∧ time h.Due = true := fun hy u hz h hh => by
      rcases List.mem_cons.1 hh with rfl | hh
      · exact e3 hy
      · exact f3 u hz h hh
    cases y with
    | false => exact ⟨.ret (), rfl, rfl, fun u e => by cases e⟩
    | true =>
      simp only [Option.bind_some, if_true]
      by_cases hp : (0 : Int) < (p.length : Int)
      · have hpl : p.length ≤ l.length := by rw [e]; simp
        have hi : i64 ((p.length : Int) - 1) = (p.length : Int) - 1 := i64_of (by omega) (by omega)
        have hn : ((p.length : Int) - 1).toNat < l.length := by rw [e]; simp; omega
        have hg : l[((p.length : Int) - 1).toNat]? = some l[((p.length : Int) - 1).toNat] := List.getElem?_eq_getElem hn
        have h1 : (0 : Int) ≤ (p.length : Int) - 1 := by omega
        simp only [hp, hi, h1, decide_true, if_true, hg, Option.bind_some, less_flip x.Id]
        by_cases hb : (Op.bytesLess x.Id.toList l[((p.length : Int) - 1).toNat].Id.toList || x.Id == l[((p.length : Int) - 1).toNat].Id) = true
        · rw [hb]
          exact ⟨.ret (), by simp, by simp, fun u e => by cases e⟩
        · have hb' : (Op.bytesLess x.Id.toList l[((p.length : Int) - 1).toNat].Id.toList || x.Id == l[((p.length : Int) - 1).toNat].Id) = false := by simpa using hb
          rw [hb']
          exact ⟨z, by simpa using f1, by simpa using f2, f3' rfl⟩
      · simp only [hp, decide_false, Bool.false_eq_true, if_false]
        exact ⟨z, f1, f2, f3' rfl⟩
theorem HoldsOk_tot (l : List Hold) (hl : l.length ≤ 274877906944) (hs : ∀ h ∈ l, h.Id.size ≤ 4000000) : ∃ y, spec_HoldsOk l = some y ∧ impl_HoldsOk l = some y ∧ (y = true → l.length ≤ 4 ∧ ∀ h ∈ l, h.Id.size ≤ 6 ∧ 1 ≤ h.Amount ∧ h.Amount ≤ 9007199254740992 ∧ time h.Due = true) := by
  obtain ⟨y, e1, e2, e3⟩ := HoldsOk_l0_tot l hl l [] rfl hs
  unfold spec_HoldsOk impl_HoldsOk
  rw [capOk_of hl, e1, e2]
  cases y with
  | ret u => exact ⟨false, rfl, rfl, fun e => by cases e⟩
  | out u => exact ⟨decide ((l.length : Int) ≤ 4), rfl, rfl, fun h => ⟨by have := of_decide_eq_true h; omega, e3 u rfl⟩⟩
theorem Concat_val (a b : List Int) (ha : a.length ≤ 100000000000) (hb : b.length ≤ 100000000000) : slices_Concat_int [a, b] = some (a ++ b) := by
  have h1 : i64 (0 + (a.length : Int)) = (a.length : Int) := by rw [Int.zero_add]; exact i64_of (by omega) (by omega)
  have h2 : i64 ((a.length : Int) + (b.length : Int)) = (a.length : Int) + (b.length : Int) := i64_of (by omega) (by omega)
  have n1 : ¬ (a.length : Int) < 0 := by omega
  have n2 : ¬ (a.length : Int) + (b.length : Int) < 0 := by omega
  have hg : slices_Grow_int_nil ((a.length : Int) + (b.length : Int)) = some [] := by
    unfold slices_Grow_int_nil
    have h3 : i64 ((a.length : Int) + (b.length : Int) - 0) = (a.length : Int) + (b.length : Int) := by rw [Int.sub_zero]; exact h2
    rw [h3]
    have hc : capOk ((a.length : Int) + (b.length : Int)).toNat = true := capOk_of (by omega)
    rw [hc]
    simp [n2]
  unfold slices_Concat_int
  have c0 : capOk [a, b].length = true := rfl
  have cA : capOk (([] : List Int).length + a.length) = true := capOk_of (by simp; omega)
  have cB : capOk ((([] : List Int) ++ a).length + b.length) = true := capOk_of (by simp; omega)
  simp only [c0, if_true, slices_Concat_int_l0, h1, h2, n1, n2, decide_false, Bool.false_eq_true, if_false, Option.bind_some, hg, slices_Concat_int_l1, cA, cB]
  simp
theorem impl_RingOk_l0_val (r : Ring) (c : List Int) : ∀ t : List Int, impl_RingOk_l0 r c t = some (if t.all money = true then .out () else .ret ())
  | [] => rfl
  | x :: t => by
    unfold impl_RingOk_l0
    rw [isMoney_val, impl_RingOk_l0_val r c t]
    cases h : money x <;> simp [h]
theorem spec_RingOk_l0_val (r : Ring) : ∀ (t p : List Int), r.Counts = p ++ t → r.Sums.length = r.Counts.length → spec_RingOk_l0 r t p = some (if (t.all money && (r.Sums.drop p.length).all money) = true then .out () else .ret ())
  | [], p, e, hl => by
    have : r.Sums.drop p.length = [] := List.drop_eq_nil_of_le (by rw [hl, e]; simp)
    rw [this]; rfl
  | x :: t, p, e, hl => by
    have hlt : p.length < r.Sums.length := by rw [hl, e]; simp
    have hd : r.Sums.drop p.length = r.Sums[p.length] :: r.Sums.drop (p.length + 1) := List.drop_eq_getElem_cons hlt
    have ih := spec_RingOk_l0_val r t (p ++ [x]) (by rw [e]; simp) hl
    unfold spec_RingOk_l0
    rw [l01Money_val]
    have hg : r.Sums[((p.length : Int)).toNat]? = some r.Sums[p.length] := by simp [hlt]
    rw [hg, hd, ih]
    simp only [Option.bind_some, l01Money_val, List.length_append, List.length_cons, List.length_nil, Nat.zero_add, List.all_cons]
    by_cases h : money x = true <;> by_cases h2 : money r.Sums[p.length] = true <;> simp [h, h2]
theorem RingOk_tot (r : Ring) (hc : r.Counts.length ≤ 100000000000) (hs : r.Sums.length ≤ 100000000000) : ∃ y, spec_RingOk r = some y ∧ impl_RingOk r = some y ∧ (y = true → r.Sums.length = r.Counts.length ∧ r.Counts.length ≤ 8 ∧ 1 ≤ r.Counts.length ∧ 1 ≤ r.Span ∧ r.Span ≤ 1000 ∧ time r.Head = true ∧ r.Counts.all money = true ∧ r.Sums.all money = true) := by
  unfold spec_RingOk impl_RingOk
  rw [Concat_val _ _ hc hs]
  have cc : capOk (r.Counts ++ r.Sums).length = true := capOk_of (by simp; omega)
  have cd : capOk r.Counts.length = true := capOk_of (by omega)
  simp only [Option.bind_some, cc, cd, if_true, impl_RingOk_l0_val, l01In_val, within_val, l06Time_val, isTime_val]
  by_cases h1 : (decide (1 ≤ r.Span) && decide (r.Span ≤ 1000)) = true
  · by_cases h2 : (decide ((1 : Int) ≤ r.Counts.length) && decide ((r.Counts.length : Int) ≤ 8)) = true
    · by_cases h3 : r.Sums.length = r.Counts.length
      · have h3' : ((r.Sums.length : Int) == (r.Counts.length : Int)) = true := by rw [h3]; simp
        have h3'' : ((r.Sums.length : Int) != (r.Counts.length : Int)) = false := by rw [h3]; simp
        rw [spec_RingOk_l0_val r r.Counts [] rfl h3]
        simp only [h1, h2, h3', h3'', if_true, Bool.false_eq_true, if_false, List.all_append, List.length_nil, List.drop_zero, Option.bind_some]
        refine ⟨(r.Counts.all money && r.Sums.all money) && time r.Head, ?_, ?_, fun h => ?_⟩
        · cases time r.Head <;> cases (r.Counts.all money && r.Sums.all money) <;> simp [Lo.elim]
        · cases time r.Head <;> cases (r.Counts.all money && r.Sums.all money) <;> simp [Lo.elim]
        · simp only [Bool.and_eq_true, decide_eq_true_eq] at h h1 h2
          exact ⟨h3, by omega, by omega, h1.1, h1.2, h.2, h.1.1, h.1.2⟩
      · have h3' : ((r.Sums.length : Int) == (r.Counts.length : Int)) = false := by
          rw [beq_eq_false_iff_ne]; omega
        have h3'' : ((r.Sums.length : Int) != (r.Counts.length : Int)) = true := by
          rw [bne_iff_ne]; omega
        refine ⟨false, by simp only [h1, h2, h3'', if_true], ?_, fun e => by cases e⟩
        simp only [h1, h2, h3', if_true, Bool.false_eq_true, if_false]
        cases (r.Counts ++ r.Sums).all money <;> rfl
    · have h2' : (decide ((1 : Int) ≤ r.Counts.length) && decide ((r.Counts.length : Int) ≤ 8)) = false := by simpa using h2
      refine ⟨false, by simp only [h1, h2', if_true, Bool.false_eq_true, if_false], ?_, fun e => by cases e⟩
      simp only [h1, h2', if_true, Bool.false_eq_true, if_false]
      cases (r.Counts ++ r.Sums).all money <;> rfl
  · have h1' : (decide (1 ≤ r.Span) && decide (r.Span ≤ 1000)) = false := by simpa using h1
    refine ⟨false, by simp only [h1', Bool.false_eq_true, if_false], ?_, fun e => by cases e⟩
    simp only [h1', Bool.false_eq_true, if_false]
    cases (r.Counts ++ r.Sums).all money <;> rfl
theorem isWide_val (s : ByteArray) (n : Int) (b : Bool) (h : impl_Digits s = some b) : impl_isWide s n = some (b && ((s.size : Int) == n)) := by
  unfold impl_isWide
  rw [h]
  cases b <;> rfl
theorem SlotOk_tot (s : Slot) (h1 : s.Trace.size ≤ 4000000) (h2 : s.Mti.size ≤ 4000000) : ∃ y, spec_SlotOk s = some y ∧ impl_SlotOk s = some y ∧ (y = true → s.Trace.size = 6 ∧ s.Mti.size = 4 ∧ s.Reply.length ≤ 200) := by
  obtain ⟨a, a1, a2, a3⟩ := Digits_tot s.Trace h1
  obtain ⟨b, b1, b2, b3⟩ := Digits_tot s.Mti h2
  unfold spec_SlotOk impl_SlotOk
  rw [a1, isWide_val _ _ _ a2, b1, isWide_val _ _ _ b2]
  cases a with
  | false => exact ⟨false, rfl, rfl, fun e => by cases e⟩
  | true =>
    simp only [Option.bind_some, if_true, Bool.true_and]
    by_cases c1 : ((s.Trace.size : Int) == 6) = true
    · simp only [c1, if_true]
      cases b with
      | false => exact ⟨false, rfl, rfl, fun e => by cases e⟩
      | true =>
        simp only [if_true, Bool.true_and]
        by_cases c2 : ((s.Mti.size : Int) == 4) = true
        · simp only [c2, if_true, l01In_val, within_val, Option.bind_some]
          refine ⟨_, rfl, rfl, fun h => ?_⟩
          simp only [Bool.and_eq_true, decide_eq_true_eq] at h
          have e1 := eq_of_beq c1
          have e2 := eq_of_beq c2
          exact ⟨by omega, by omega, by omega⟩
        · have c2' : ((s.Mti.size : Int) == 4) = false := by simpa using c2
          simp only [c2', Bool.false_eq_true, if_false]
          exact ⟨false, rfl, rfl, fun e => by cases e⟩
    · have c1' : ((s.Trace.size : Int) == 6) = false := by simpa using c1
      simp only [c1', Bool.false_eq_true, if_false]
      exact ⟨false, rfl, rfl, fun e => by cases e⟩
def slotIs (a b : ByteArray) (s : Slot) : Bool := (s.Trace == a) && (s.Mti == b)
theorem slotAt_1_val (s : Slot) (a b : ByteArray) : impl_slotAt_1 s a b = some (slotIs a b s) := by
  unfold impl_slotAt_1 slotIs
  cases (s.Trace == a) <;> rfl
theorem spec_SlotsOk_l1_val (l p : List Slot) (x : Slot) : ∀ t : List Slot, spec_SlotsOk_l1 l p x t = some (if t.any (slotIs x.Trace x.Mti) = true then .ret () else .out ())
  | [] => rfl
  | y :: t => by
    unfold spec_SlotsOk_l1
    rw [spec_SlotsOk_l1_val l p x t]
    simp only [List.any_cons]
    unfold slotIs
    by_cases h : (y.Trace == x.Trace) = true <;> by_cases h2 : (y.Mti == x.Mti) = true <;> simp [h, h2]
theorem slotAt_l0_val (l : List Slot) (a b : ByteArray) : ∀ t p : List Slot, slices_IndexFunc_impl_Slot_impl_slotAt_1_l0 l a b t p = some (match t.findIdx? (slotIs a b) with | some i => .ret ((p.length + i : Nat) : Int) | none => .out ())
  | [], p => rfl
  | y :: t, p => by
    unfold slices_IndexFunc_impl_Slot_impl_slotAt_1_l0
    rw [slotAt_1_val, slotAt_l0_val l a b t (p ++ [y])]
    simp only [Option.bind_some, List.findIdx?_cons]
    by_cases h : slotIs a b y = true
    · simp [h]
    · have h' : slotIs a b y = false := by simpa using h
      rw [h']
      simp only [Bool.false_eq_true, if_false]
      cases t.findIdx? (slotIs a b) with
      | none => rfl
      | some i => simp only [Option.map_some, List.length_append, List.length_cons, List.length_nil]; congr 3; omega
theorem slotAt_val (l : List Slot) (hl : l.length ≤ 274877906944) (a b : ByteArray) : impl_slotAt l a b = some (match l.findIdx? (slotIs a b) with | some i => (i : Int) | none => -1) := by
  unfold impl_slotAt slices_IndexFunc_impl_Slot_impl_slotAt_1
  rw [capOk_of hl, slotAt_l0_val]
  cases l.findIdx? (slotIs a b) with
  | none => rfl
  | some i => simp [Lo.elim]
theorem SlotsOk_l0_tot (l : List Slot) (hl : l.length ≤ 274877906944) : ∀ (t p : List Slot), l = p ++ t → (∀ s ∈ t, s.Trace.size ≤ 4000000 ∧ s.Mti.size ≤ 4000000) →
    ∃ y, spec_SlotsOk_l0 l t p = some y ∧ impl_SlotsOk_l0 l t p = some y ∧ ∀ u, y = .out u → ∀ s ∈ t, s.Trace.size = 6 ∧ s.Mti.size = 4 ∧ s.Reply.length ≤ 200
  | [], p, e, hs => ⟨.out (), rfl, rfl, fun _ _ h hh => by simp at hh⟩
  | x :: t, p, e, hs => by
    obtain ⟨y, e1, e2, e3⟩ := SlotOk_tot x (hs x (by simp)).1 (hs x (by simp)).2
    obtain ⟨z, f1, f2, f3⟩ := SlotsOk_l0_tot l hl t (p ++ [x]) (by rw [e]; simp) (fun h hh => hs h (by simp [hh]))
    unfold spec_SlotsOk_l0 impl_SlotsOk_l0
    rw [e1, e2]
    have f3' : y = true → ∀ u, z = .out u → ∀ s ∈ x :: t, s.Trace.size = 6 ∧ s.Mti.size = 4 ∧ s.Reply.length ≤ 200 := fun hy u hz h hh => by
      rcases List.mem_cons.1 hh with rfl | hh
      · exact e3 hy
      · exact f3 u hz h hh
    cases y with
    | false => exact ⟨.ret (), rfl, rfl, fun u e => by cases e⟩
    | true =>
      have htk : (l.take ((p.length : Int).toNat)).drop 0 = p := by rw [e]; simp
      have hple : (p.length : Int) ≤ (l.length : Int) := by rw [e]; simp; omega
      have h0 : (0 : Int) ≤ (p.length : Int) := by omega
      have hcp : capOk p.length = true := capOk_of (by omega)
      have hx : slotIs x.Trace x.Mti x = true := by unfold slotIs; rw [beqB, beqB]; simp
      simp only [Option.bind_some, if_true, h0, hple, decide_true, htk, hcp, spec_SlotsOk_l1_val, slotAt_val l hl]
      by_cases ha : p.any (slotIs x.Trace x.Mti) = true
      · have : ∃ i, l.findIdx? (slotIs x.Trace x.Mti) = some i ∧ i < p.length := by
          rw [e, List.findIdx?_append]
          cases hi : p.findIdx? (slotIs x.Trace x.Mti) with
          | none =>
            exfalso
            rw [List.findIdx?_eq_none_iff] at hi
            obtain ⟨s, hs1, hs2⟩ := List.any_eq_true.1 ha
            have := hi s hs1
            rw [hs2] at this
            cases this
          | some i => exact ⟨i, rfl, (List.findIdx?_eq_some_iff_getElem.1 hi).1⟩
        obtain ⟨i, hi, hlt⟩ := this
        rw [hi]
        have hne : ((i : Int) != (p.length : Int)) = true := by rw [bne_iff_ne]; omega
        simp only [ha, if_true, Lo.elim, hne]
        exact ⟨.ret (), rfl, rfl, fun u e => by cases e⟩
      · have ha' : p.any (slotIs x.Trace x.Mti) = false := by simpa using ha
        have hi : l.findIdx? (slotIs x.Trace x.Mti) = some p.length := by
          rw [e, List.findIdx?_append]
          have : p.findIdx? (slotIs x.Trace x.Mti) = none := by
            rw [List.findIdx?_eq_none_iff]
            intro s hs1
            have := List.any_eq_false.1 ha' s hs1
            simpa using this
          rw [this, List.findIdx?_cons, hx]
          simp
        rw [hi]
        have hne : ((p.length : Int) != (p.length : Int)) = false := by simp
        simp only [ha', hne, Bool.false_eq_true, if_false, Lo.elim]
        exact ⟨z, f1, f2, f3' rfl⟩
theorem SlotsOk_tot (l : List Slot) (hl : l.length ≤ 274877906944) (hs : ∀ s ∈ l, s.Trace.size ≤ 4000000 ∧ s.Mti.size ≤ 4000000) : ∃ y, spec_SlotsOk l = some y ∧ impl_SlotsOk l = some y ∧ (y = true → l.length ≤ 6 ∧ ∀ s ∈ l, s.Trace.size = 6 ∧ s.Mti.size = 4 ∧ s.Reply.length ≤ 200) := by
  obtain ⟨y, e1, e2, e3⟩ := SlotsOk_l0_tot l hl l [] rfl hs
  unfold spec_SlotsOk impl_SlotsOk
  rw [capOk_of hl, e1, e2]
  cases y with
  | ret u => exact ⟨false, rfl, rfl, fun e => by cases e⟩
  | out u => exact ⟨decide ((l.length : Int) ≤ 6), rfl, rfl, fun h => ⟨by have := of_decide_eq_true h; omega, e3 u rfl⟩⟩
def cl (x : Int) : Int := if x < 0 then 0 else if 4611686018427387904 < x then 4611686018427387904 else x
theorem cl_rng (x : Int) : 0 ≤ cl x ∧ cl x ≤ 4611686018427387904 := by unfold cl; split; omega; split <;> omega
theorem clamp_val (x : Int) : spec_l01Clamp x 0 4611686018427387904 = some (cl x) := by
  unfold spec_l01Clamp cl
  by_cases h : x < 0 <;> by_cases h2 : 4611686018427387904 < x <;> simp [h, h2]
theorem imax_cl (x : Int) : imax 0 (imin x 4611686018427387904) = cl x := by
  unfold imax imin cl
  by_cases h : x < 0 <;> by_cases h2 : 4611686018427387904 < x <;> simp [h, h2] <;> omega
def satAdd (a b : Int) : Int := if cl a + cl b ≤ 4611686018427387904 then cl a + cl b else 4611686018427387904
theorem AddSat_val (a b : Int) : spec_AddSat a b = some (satAdd a b) ∧ impl_AddSat a b = some (satAdd a b) := by
  obtain ⟨a1, a2⟩ := cl_rng a
  obtain ⟨b1, b2⟩ := cl_rng b
  have hi : i64 (4611686018427387904 - cl b) = 4611686018427387904 - cl b := i64_of (by omega) (by omega)
  have ma : money (cl a) = true := by simp [money, a1, a2]
  have mb : money (cl b) = true := by simp [money, b1, b2]
  unfold spec_AddSat impl_AddSat spec_AddMoney satAdd
  simp only [clamp_val, imax_cl, Option.bind_some, l01Money_val, ma, mb, if_true, hi]
  by_cases h : 4611686018427387904 - cl b < cl a
  · have h2 : ¬ cl a + cl b ≤ 4611686018427387904 := by omega
    simp [h, h2]
  · have h2 : cl a + cl b ≤ 4611686018427387904 := by omega
    have hj : i64 (cl a + cl b) = cl a + cl b := i64_of (by omega) (by omega)
    simp [h, h2, hj]
theorem Stored_l0_val (l : List Hold) : ∀ (t : List Hold) (v : Int), ∃ y, spec_Stored_l0 l t v = some y ∧ impl_Stored_l0 l t v = some y
  | [], v => ⟨v, rfl, rfl⟩
  | x :: t, v => by
    obtain ⟨y, e1, e2⟩ := Stored_l0_val l t (satAdd v x.Amount)
    unfold spec_Stored_l0 impl_Stored_l0
    rw [(AddSat_val _ _).1, (AddSat_val _ _).2]
    exact ⟨y, e1, e2⟩
theorem Stored_tot (l : List Hold) (hl : l.length ≤ 274877906944) : ∃ y, spec_Stored l = some y ∧ impl_Stored l = some y := by
  obtain ⟨y, e1, e2⟩ := Stored_l0_val l l 0
  unfold spec_Stored impl_Stored
  rw [capOk_of hl, e1, e2]
  exact ⟨y, rfl, rfl⟩
/-- Of a size that a law lets through. -/
def szHold (h : Hold) : Prop := h.Id.size ≤ 4000000
def szRing (r : Ring) : Prop := r.Counts.length ≤ 4000000 ∧ r.Sums.length ≤ 4000000
def szSlot (s : Slot) : Prop := s.Trace.size ≤ 4000000 ∧ s.Mti.size ≤ 4000000 ∧ s.Reply.length ≤ 4000000
def szAcct (a : Acct) : Prop := a.Id.size ≤ 4000000 ∧ (a.Holds.length ≤ 4000000 ∧ ∀ h ∈ a.Holds, szHold h) ∧ szRing a.Ring ∧ (a.Slots.length ≤ 4000000 ∧ ∀ s ∈ a.Slots, szSlot s)
theorem AcctOk_tot (a : Acct) (h : szAcct a) : ∃ y, spec_AcctOk a = some y ∧ impl_AcctOk a = some y ∧ (y = true → a.Holds.length ≤ 4 ∧ a.Slots.length ≤ 6) := by
  obtain ⟨h1, ⟨h2, h3⟩, ⟨h4, h5⟩, h6, h7⟩ := h
  obtain ⟨b1, p1, q1, r1⟩ := AcctIdOk_eq a.Id
  obtain ⟨b2, p2, q2, r2⟩ := HoldsOk_tot a.Holds (by omega) (fun x hx => by have := h3 x hx; unfold szHold at this; omega)
  obtain ⟨b3, p3, q3, r3⟩ := RingOk_tot a.Ring (by omega) (by omega)
  obtain ⟨b4, p4, q4, r4⟩ := SlotsOk_tot a.Slots (by omega) (fun x hx => by have := h7 x hx; unfold szSlot at this; omega)
  obtain ⟨s, p5, q5⟩ := Stored_tot a.Holds (by omega)
  obtain ⟨p6, q6⟩ := AddSat_val a.Posted s
  unfold spec_AcctOk impl_AcctOk
  simp only [p1, q1, p2, q2, p3, q3, p4, q4, p5, q5, p6, q6, l01In_val, within_val, l01Money_val, isMoney_val, Option.bind_some]
  cases b1 <;> simp only [Bool.false_eq_true, if_false, if_true]
  · exact ⟨_, rfl, rfl, fun e => by cases e⟩
  repeat' split
  all_goals first
    | exact ⟨_, rfl, rfl, fun e => by cases e⟩
    | (rename_i g1 g2 g3 g4; exact ⟨_, rfl, rfl, fun _ => ⟨(r2 (by assumption)).1, (r4 (by assumption)).1⟩⟩)
theorem Clone_int_val (l : List Int) (h : l.length ≤ 274877906944) : slices_Clone_int l = some l := by unfold slices_Clone_int; rw [capOk_of h]; rfl
theorem Clone_byte_val (l : List Int) (h : l.length ≤ 274877906944) : slices_Clone_byte l = some l := by unfold slices_Clone_byte; rw [capOk_of h]; rfl
theorem Clone_Hold_val (l : List Hold) (h : l.length ≤ 274877906944) : slices_Clone_impl_Hold l = some l := by unfold slices_Clone_impl_Hold; rw [capOk_of h]; rfl
theorem l08Copy_l0_val (l : List Slot) : ∀ (t v : List Slot), v.length + t.length ≤ 274877906944 → (∀ s ∈ t, s.Reply.length ≤ 4000000) → spec_l08Copy_l0 l t v = some (v ++ t)
  | [], v, _, _ => by simp [spec_l08Copy_l0]
  | x :: t, v, hl, hs => by
    unfold spec_l08Copy_l0
    have h1 : capOk (0 + x.Reply.length) = true := capOk_of (by have := hs x (by simp); omega)
    have h2 : capOk (v.length + 1) = true := capOk_of (by simp at hl; omega)
    rw [h1, h2, l08Copy_l0_val l t (v ++ [x]) (by simp at hl ⊢; omega) (fun s hs' => hs s (by simp [hs']))]
    simp
theorem wtSlot_reply (s : Slot) (h : wtSlot s ≤ 4000000) : s.Reply.length ≤ 4000000 := by rw [wtSlot_eq] at h; omega
theorem l08Copy_val (l : List Slot) (h : wtL wtSlot l ≤ 4000000) : spec_l08Copy l = some l := by
  have hl := wtL_len wtSlot l
  unfold spec_l08Copy
  rw [capOk_of (by omega), l08Copy_l0_val _ _ _ (by simp; omega) (fun s hs => wtSlot_reply s (by have := wtL_mem wtSlot l s hs; omega))]
  rfl
theorem l06Copy_val (r : Ring) (h : wtRing r ≤ 4000000) : spec_l06Copy r = some r := by
  rw [wtRing_eq] at h
  unfold spec_l06Copy
  rw [capOk_of (show 0 + r.Counts.length ≤ 274877906944 by omega), capOk_of (show 0 + r.Sums.length ≤ 274877906944 by omega)]
  rfl
theorem l09Copy_val (a : Acct) (h : wtAcct a ≤ 4000000) : spec_l09Copy a = some a := by
  rw [wtAcct_eq] at h
  have hl := wtL_len wtHold a.Holds
  unfold spec_l09Copy
  rw [capOk_of (show 0 + a.Holds.length ≤ 274877906944 by omega), l06Copy_val _ (by omega), l08Copy_val _ (by omega)]
  rfl
theorem copySlots_l0_val (l : List Slot) : ∀ (t v : List Slot), v.length + t.length ≤ 274877906944 → (∀ s ∈ t, s.Reply.length ≤ 4000000) → impl_copySlots_l0 l t v = some (v ++ t)
  | [], v, _, _ => by simp [impl_copySlots_l0]
  | x :: t, v, hl, hs => by
    unfold impl_copySlots_l0
    have h2 : capOk (v.length + 1) = true := capOk_of (by simp at hl; omega)
    rw [Clone_byte_val _ (by have := hs x (by simp); omega), Option.bind_some, h2, copySlots_l0_val l t _ (by simp at hl ⊢; omega) (fun s hs' => hs s (by simp [hs']))]
    simp
theorem copySlots_val (l : List Slot) (h : wtL wtSlot l ≤ 4000000) : impl_copySlots l = some l := by
  have hl := wtL_len wtSlot l
  unfold impl_copySlots
  rw [capOk_of (by omega), copySlots_l0_val _ _ _ (by simp; omega) (fun s hs => wtSlot_reply s (by have := wtL_mem wtSlot l s hs; omega))]
  rfl
theorem Ring_copied_val (r : Ring) (h : wtRing r ≤ 4000000) : impl_Ring_copied r = some r := by
  rw [wtRing_eq] at h
  unfold impl_Ring_copied
  rw [Clone_int_val _ (by omega), Clone_int_val _ (by omega)]
  rfl
theorem Acct_copied_val (a : Acct) (h : wtAcct a ≤ 4000000) : impl_Acct_copied a = some a := by
  rw [wtAcct_eq] at h
  have hl := wtL_len wtHold a.Holds
  unfold impl_Acct_copied
  rw [Clone_Hold_val _ (by omega), Ring_copied_val _ (by omega), copySlots_val _ (by omega)]
  rfl
/-- Each account of a list is small. -/
def okAs (l : List Acct) : Prop := ∀ x ∈ l, wtAcct x ≤ 4000000
theorem okAs_of {l : List Acct} (h : wtL wtAcct l ≤ 4000000) : okAs l := fun x hx => by have := wtL_mem wtAcct l x hx; omega
theorem okAs_tail {x : Acct} {l : List Acct} (h : okAs (x :: l)) : okAs l := fun y hy => h y (by simp [hy])
theorem ofInt_nat (n : Nat) (a : Int) (h0 : 0 ≤ a) : BitVec.ofInt n a = BitVec.ofNat n a.toNat := by
  obtain ⟨m, rfl⟩ := Int.eq_ofNat_of_zero_le h0
  apply BitVec.eq_of_toNat_eq
  simp [BitVec.toNat_ofInt]
theorem bxor_nat (k : IntKind) (a b : Int) (h0 : 0 ≤ a) (h1 : 0 ≤ b) (ha : a.toNat < 2 ^ k.bits) (hb : b.toNat < 2 ^ k.bits) : bxor k a b = k.wrap ((a.toNat ^^^ b.toNat : Nat) : Int) := by
  unfold bxor
  rw [ofInt_nat _ _ h0, ofInt_nat _ _ h1, BitVec.toNat_xor, BitVec.toNat_ofNat, BitVec.toNat_ofNat, Nat.mod_eq_of_lt ha, Nat.mod_eq_of_lt hb]
theorem band_nat (k : IntKind) (a b : Int) (h0 : 0 ≤ a) (h1 : 0 ≤ b) (ha : a.toNat < 2 ^ k.bits) (hb : b.toNat < 2 ^ k.bits) : band k a b = k.wrap ((a.toNat &&& b.toNat : Nat) : Int) := by
  unfold band
  rw [ofInt_nat _ _ h0, ofInt_nat _ _ h1, BitVec.toNat_and, BitVec.toNat_ofNat, BitVec.toNat_ofNat, Nat.mod_eq_of_lt ha, Nat.mod_eq_of_lt hb]
theorem u32_val (x : Int) : u32 x = x % 4294967296 := by
  unfold u32 IntKind.wrap
  simp [IntKind.bits, IntKind.signed]
theorem Fnv_step (v c : Int) (h0 : 0 ≤ v) (h1 : v < 4294967296) (c0 : 0 ≤ c) (c1 : c ≤ 255) :
    ∃ y, band .i64 (i64 ((bxor .i64 v (i64 c)) * 16777619)) 4294967295 = y ∧ u32 ((bxor .u32 v (u32 c)) * 16777619) = y ∧ 0 ≤ y ∧ y < 4294967296 := by
  have hc : i64 c = c := i64_of (by omega) (by omega)
  have hu : u32 c = c := by rw [u32_val]; omega
  have hx : v.toNat ^^^ c.toNat < 2 ^ 32 := Nat.xor_lt_two_pow (by omega) (by omega)
  rw [hc, hu]
  rw [bxor_nat .i64 v c h0 c0 (by simp [IntKind.bits]; omega) (by simp [IntKind.bits]; omega), bxor_nat .u32 v c h0 c0 (by simp [IntKind.bits]; omega) (by simp [IntKind.bits]; omega)]
  generalize v.toNat ^^^ c.toNat = x at hx
  have e1 : IntKind.i64.wrap (x : Int) = x := i64_of (by omega) (by omega)
  have e2 : IntKind.u32.wrap (x : Int) = x := by show u32 (x : Int) = x; rw [u32_val]; omega
  rw [e1, e2]
  have e3 : i64 ((x : Int) * 16777619) = (x : Int) * 16777619 := i64_of (by omega) (by omega)
  rw [e3, band_nat .i64 _ _ (by omega) (by omega) (by simp [IntKind.bits]; omega) (by simp [IntKind.bits])]
  have e4 : ((x : Int) * 16777619).toNat &&& (4294967295 : Int).toNat = (x * 16777619) % 4294967296 := by
    have : (4294967295 : Int).toNat = 2 ^ 32 - 1 := rfl
    rw [this, Nat.and_two_pow_sub_one_eq_mod]
    have : ((x : Int) * 16777619).toNat = x * 16777619 := by omega
    rw [this]
  rw [e4]
  refine ⟨_, rfl, ?_, ?_, ?_⟩
  · rw [u32_val]
    have : IntKind.i64.wrap ((x * 16777619 % 4294967296 : Nat) : Int) = ((x * 16777619 % 4294967296 : Nat) : Int) := i64_of (by omega) (by omega)
    rw [this]; omega
  · have : IntKind.i64.wrap ((x * 16777619 % 4294967296 : Nat) : Int) = ((x * 16777619 % 4294967296 : Nat) : Int) := i64_of (by omega) (by omega)
    rw [this]; omega
  · have : IntKind.i64.wrap ((x * 16777619 % 4294967296 : Nat) : Int) = ((x * 16777619 % 4294967296 : Nat) : Int) := i64_of (by omega) (by omega)
    rw [this]; omega
theorem Fnv_l0_tot (s : ByteArray) (hs : s.size ≤ 4000000) : ∀ (n : Nat) (h v : Int), 0 ≤ v → v ≤ s.size → (s.size : Int) - v < n → 0 ≤ h → h < 4294967296 →
    ∃ y, spec_Fnv_l0 s n h v = some y ∧ impl_Fnv_l0 s n h v = some y ∧ 0 ≤ y ∧ y < 4294967296
  | 0, h, v, h0, hv, hn, _, _ => by exfalso; omega
  | n + 1, h, v, h0, hv, hn, g0, g1 => by
    unfold spec_Fnv_l0 impl_Fnv_l0
    by_cases h1 : v < (s.size : Int)
    · obtain ⟨z, e1, e2, z0, z1⟩ := Fnv_step h (sAt s v) g0 g1 (sAt_nn s v) (sAt_le s v)
      have hi : i64 (v + 1) = v + 1 := i64_of (by omega) (by omega)
      obtain ⟨y, f1, f2, f3⟩ := Fnv_l0_tot s hs n z (v + 1) (by omega) (by omega) (by omega) z0 z1
      exact ⟨y, by simp only [h1, h0, decide_true, if_true, e1, hi]; exact f1, by simp only [h1, h0, decide_true, if_true, e2, hi]; exact f2, f3⟩
    · exact ⟨h, by simp [h1], by simp [h1], g0, g1⟩
theorem Fnv_tot (s : ByteArray) (hs : s.size ≤ 4000000) : ∃ y, spec_Fnv s = some y ∧ impl_Fnv s = some y ∧ 0 ≤ y ∧ y < 4294967296 := by
  obtain ⟨y, e1, e2, h0, h1⟩ := Fnv_l0_tot s hs FUEL 2166136261 0 (by omega) (by omega) (by unfold FUEL; omega) (by omega) (by omega)
  have hi : i64 y = y := i64_of (by omega) (by omega)
  unfold spec_Fnv impl_Fnv
  rw [e1, e2, Option.bind_some, Option.bind_some, hi]
  exact ⟨y, rfl, rfl, h0, h1⟩
theorem StripeNo_tot (s : ByteArray) (n : Int) (hs : s.size ≤ 4000000) : ∃ y, spec_StripeNo s n = some y ∧ impl_StripeNo s n = some y ∧ 0 ≤ y ∧ (1 ≤ n → y < n) := by
  obtain ⟨y, e1, e2, h0, h1⟩ := Fnv_tot s hs
  unfold spec_StripeNo impl_StripeNo
  by_cases h : n < 1
  · exact ⟨0, by simp [h], by simp [h], by omega, fun h2 => by omega⟩
  · have hn : n ≠ 0 := by omega
    refine ⟨Int.tmod y n, by simp only [h, hn, e1, decide_false, Bool.false_eq_true, if_false, Option.bind_some, ne_eq, not_false_eq_true, decide_true, if_true], by simp only [h, hn, e2, decide_false, Bool.false_eq_true, if_false, Option.bind_some, ne_eq, not_false_eq_true, decide_true, if_true], ?_, fun _ => ?_⟩
    · rw [Int.tmod_eq_emod_of_nonneg h0]; exact Int.emod_nonneg _ hn
    · rw [Int.tmod_eq_emod_of_nonneg h0]; exact Int.emod_lt_of_pos _ (by omega)
theorem szAcct_of (a : Acct) (h : wtAcct a ≤ 4000000) : szAcct a := by
  rw [wtAcct_eq, wtRing_eq] at h
  have h1 := wtL_len wtHold a.Holds
  have h2 := wtL_len wtSlot a.Slots
  refine ⟨by omega, ⟨by omega, fun x hx => ?_⟩, ⟨by omega, by omega⟩, by omega, fun x hx => ?_⟩
  · have := wtL_mem wtHold a.Holds x hx
    rw [wtHold_eq] at this
    unfold szHold; omega
  · have := wtL_mem wtSlot a.Slots x hx
    rw [wtSlot_eq] at this
    refine ⟨by omega, by omega, by omega⟩
/-- Is the account valid? -/
def acctOk (a : Acct) : Bool := (spec_AcctOk a).getD false
theorem AcctOk_val (a : Acct) (h : wtAcct a ≤ 4000000) : spec_AcctOk a = some (acctOk a) ∧ impl_AcctOk a = some (acctOk a) := by
  obtain ⟨b, e1, e2, e3⟩ := AcctOk_tot a (szAcct_of a h)
  unfold acctOk
  rw [e1, e2]
  exact ⟨rfl, rfl⟩
theorem BookOk_l0_tot (b : Book) (hl : b.Accts.length ≤ 4000000) : ∀ (t p : List Acct), b.Accts = p ++ t → okAs t →
    ∃ y, spec_BookOk_l0 b t p = some y ∧ impl_BookOk_l0 b t p = some y
  | [], p, e, hs => ⟨.out (), rfl, rfl⟩
  | x :: t, p, e, hs => by
    obtain ⟨a1, a2⟩ := AcctOk_val x (hs x (by simp))
    obtain ⟨z, f1, f2⟩ := BookOk_l0_tot b hl t (p ++ [x]) (by rw [e]; simp) (okAs_tail hs)
    unfold spec_BookOk_l0 impl_BookOk_l0
    rw [a1, a2]
    cases acctOk x with
    | false => exact ⟨.ret (), rfl, rfl⟩
    | true =>
      simp only [Option.bind_some, if_true]
      by_cases hp : (0 : Int) < (p.length : Int)
      · have hpl : p.length ≤ b.Accts.length := by rw [e]; simp
        have hi : i64 ((p.length : Int) - 1) = (p.length : Int) - 1 := i64_of (by omega) (by omega)
        have hn : ((p.length : Int) - 1).toNat < b.Accts.length := by rw [e]; simp; omega
        have hg : b.Accts[((p.length : Int) - 1).toNat]? = some b.Accts[((p.length : Int) - 1).toNat] := List.getElem?_eq_getElem hn
        have h1 : (0 : Int) ≤ (p.length : Int) - 1 := by omega
        simp only [hp, hi, h1, decide_true, if_true, hg, Option.bind_some, less_flip x.Id]
        by_cases hb : (Op.bytesLess x.Id.toList b.Accts[((p.length : Int) - 1).toNat].Id.toList || x.Id == b.Accts[((p.length : Int) - 1).toNat].Id) = true
        · rw [hb]
          exact ⟨.ret (), by simp, by simp⟩
        · have hb' : (Op.bytesLess x.Id.toList b.Accts[((p.length : Int) - 1).toNat].Id.toList || x.Id == b.Accts[((p.length : Int) - 1).toNat].Id) = false := by simpa using hb
          rw [hb']
          exact ⟨z, by simpa using f1, by simpa using f2⟩
      · simp only [hp, decide_false, Bool.false_eq_true, if_false]
        exact ⟨z, f1, f2⟩
def bookOk (b : Book) : Bool := (spec_BookOk b).getD false
theorem BookOk_val (b : Book) (h : wtL wtAcct b.Accts ≤ 4000000) : spec_BookOk b = some (bookOk b) ∧ impl_BookOk b = some (bookOk b) := by
  have hl := wtL_len wtAcct b.Accts
  obtain ⟨y, e1, e2⟩ := BookOk_l0_tot b (by omega) b.Accts [] rfl (okAs_of h)
  unfold bookOk spec_BookOk impl_BookOk
  rw [capOk_of (show b.Accts.length ≤ 274877906944 by omega), e1, e2]
  cases y <;> exact ⟨rfl, rfl⟩
/-- The stripe of a name. -/
def sno (id : ByteArray) (n : Int) : Int := (spec_StripeNo id n).getD 0
theorem sno_val (id : ByteArray) (n : Int) (h : id.size ≤ 4000000) : spec_StripeNo id n = some (sno id n) ∧ impl_StripeNo id n = some (sno id n) ∧ 0 ≤ sno id n ∧ (1 ≤ n → sno id n < n) := by
  obtain ⟨y, e1, e2, h0, h1⟩ := StripeNo_tot id n h
  unfold sno
  rw [e1, e2]
  exact ⟨rfl, rfl, h0, h1⟩
def smallId (a : Acct) : Prop := wtAcct a ≤ 4000000
theorem smallId_id {a : Acct} (h : smallId a) : a.Id.size ≤ 4000000 := by
  unfold smallId at h
  rw [wtAcct_eq] at h; omega
def inS (n k : Int) (a : Acct) : Bool := sno a.Id n == k
theorem spec_Spread_l1_val (b : Book) (n k : Int) (v : List Stripe) : ∀ (t w : List Acct), (∀ x ∈ t, smallId x) → w.length + t.length ≤ 274877906944 → spec_Spread_l1 b n k v t w = some (w ++ t.filter (inS n k))
  | [], w, _, _ => by simp [spec_Spread_l1]
  | x :: t, w, hs, hl => by
    simp only [List.length_cons] at hl
    have hx := hs x (by simp)
    have ih := fun w h => spec_Spread_l1_val b n k v t w (fun y hy => hs y (by simp [hy])) h
    unfold spec_Spread_l1
    rw [(sno_val x.Id n (smallId_id hx)).1, Option.bind_some, List.filter_cons]
    rcases tf (inS n k x) with q | q
    · have q' : (sno x.Id n == k) = true := q
      simp only [q, q', if_true, l09Copy_val x hx, Option.bind_some, capOk_of (show w.length + 1 ≤ 274877906944 by omega)]
      rw [ih (w ++ [x]) (by simp; omega)]; simp
    · have q' : (sno x.Id n == k) = false := q
      simp only [q, q', Bool.false_eq_true, if_false]
      rw [ih w (by omega)]
/-- The stripes from k on. -/
def stripesFrom (l : List Acct) (n : Int) : Nat → Int → List Stripe
  | 0, _ => []
  | m + 1, k => Stripe.mk (-1) (l.filter (inS n k)) :: stripesFrom l n m (k + 1)
theorem spec_Spread_l0_val (b : Book) (n : Int) (hs : ∀ x ∈ b.Accts, smallId x) (hl : b.Accts.length ≤ 4000000) : ∀ (m N : Nat) (k : Int) (v : List Stripe), (m : Int) = n - k → m < N → 0 ≤ k → n ≤ 100 → v.length + m ≤ 1000 → spec_Spread_l0 b n N k v = some (v ++ stripesFrom b.Accts n m k)
  | m, 0, k, v, hm, hN, h0, hn, hv => by omega
  | 0, N + 1, k, v, hm, hN, h0, hn, hv => by
    have : ¬ k < n := by omega
    unfold spec_Spread_l0
    simp [this, stripesFrom]
  | m + 1, N + 1, k, v, hm, hN, h0, hn, hv => by
    have hk : k < n := by omega
    have hi : i64 (k + 1) = k + 1 := i64_of (by omega) (by omega)
    unfold spec_Spread_l0
    simp only [hk, decide_true, if_true, capOk_of (show b.Accts.length ≤ 274877906944 by omega), spec_Spread_l1_val b n k v b.Accts [] hs (by simp; omega), Option.bind_some, capOk_of (show v.length + 1 ≤ 274877906944 by omega), hi, List.nil_append]
    rw [spec_Spread_l0_val b n hs hl m N (k + 1) _ (by omega) (by omega) (by omega) hn (by simp; omega)]
    simp [stripesFrom]
theorem impl_Spread_l0_val (b : Book) (n : Int) : ∀ (m N : Nat) (k : Int) (v : List Stripe), (m : Int) = n - k → m < N → 0 ≤ k → n ≤ 100 → v.length + m ≤ 1000 → impl_Spread_l0 b n N k v = some (v ++ List.replicate m (Stripe.mk (-1) []))
  | m, 0, k, v, hm, hN, h0, hn, hv => by omega
  | 0, N + 1, k, v, hm, hN, h0, hn, hv => by
    have : ¬ k < n := by omega
    unfold impl_Spread_l0
    simp [this]
  | m + 1, N + 1, k, v, hm, hN, h0, hn, hv => by
    have hk : k < n := by omega
    have hi : i64 (k + 1) = k + 1 := i64_of (by omega) (by omega)
    unfold impl_Spread_l0
    simp only [hk, decide_true, if_true, capOk_of (show v.length + 1 ≤ 274877906944 by omega), hi]
    rw [impl_Spread_l0_val b n m N (k + 1) _ (by omega) (by omega) (by omega) hn (by simp; omega)]
    simp [List.replicate_succ]
theorem stripesFrom_len (l : List Acct) (n : Int) : ∀ (m : Nat) (k : Int), (stripesFrom l n m k).length = m
  | 0, _ => rfl
  | m + 1, k => by simp [stripesFrom, stripesFrom_len l n m]
theorem stripesFrom_get (l : List Acct) (n : Int) : ∀ (m : Nat) (k : Int) (i : Nat), i < m → (stripesFrom l n m k)[i]? = some (Stripe.mk (-1) (l.filter (inS n (k + i))))
  | 0, _, i, h => by omega
  | m + 1, k, 0, h => by simp [stripesFrom]
  | m + 1, k, i + 1, h => by
    simp only [stripesFrom, List.getElem?_cons_succ]
    rw [stripesFrom_get l n m (k + 1) i (by omega)]
    have : k + 1 + (i : Int) = k + ((i + 1 : Nat) : Int) := by omega
    rw [this]
theorem impl_Spread_l1_val (b : Book) (n : Int) (m : Nat) (hm : (m : Int) = n) (h1 : 1 ≤ n) (hl : b.Accts.length ≤ 4000000) : ∀ (t p : List Acct) (v : List Stripe), b.Accts = p ++ t → (∀ x ∈ t, smallId x) → v = stripesFrom p n m 0 → impl_Spread_l1 b n t v = some (stripesFrom b.Accts n m 0)
  | [], p, v, e, _, hv => by simp [impl_Spread_l1, hv, e]
  | x :: t, p, v, e, hs, hv => by
    have hx := hs x (by simp)
    obtain ⟨_, e2, h0, hlt⟩ := sno_val x.Id n (smallId_id hx)
    have hlt := hlt h1
    have hpl : p.length + 1 ≤ b.Accts.length := by rw [e]; simp
    have hg : v[(sno x.Id n).toNat]? = some (Stripe.mk (-1) (p.filter (inS n (sno x.Id n)))) := by
      rw [hv, stripesFrom_get p n m 0 _ (by omega)]
      have : (0 : Int) + ((sno x.Id n).toNat : Int) = sno x.Id n := by omega
      rw [this]
    have hfl : (p.filter (inS n (sno x.Id n))).length ≤ p.length := List.length_filter_le _ _
    unfold impl_Spread_l1
    simp only [e2, h0, decide_true, if_true, hg, Acct_copied_val x hx, Option.bind_some, capOk_of (show (p.filter (inS n (sno x.Id n))).length + 1 ≤ 274877906944 by omega)]
    refine impl_Spread_l1_val b n m hm h1 hl t (p ++ [x]) _ (by rw [e]; simp) (fun y hy => hs y (by simp [hy])) ?_
    apply List.ext_getElem?
    intro i
    by_cases hi : i < m
    · rw [stripesFrom_get _ n m 0 i hi, List.getElem?_set, hv, stripesFrom_len]
      by_cases hk : (sno x.Id n).toNat = i
      · subst hk
        rw [if_pos rfl, if_pos (by omega)]
        have h3 : (0 : Int) + ((sno x.Id n).toNat : Int) = sno x.Id n := by omega
        have h4 : inS n (sno x.Id n) x = true := by unfold inS; simp
        rw [h3, List.filter_append, List.filter_cons, h4]
        simp
      · rw [if_neg hk, stripesFrom_get p n m 0 i hi]
        have h4 : inS n (0 + (i : Int)) x = false := by unfold inS; rw [beq_eq_false_iff_ne]; omega
        rw [List.filter_append, List.filter_cons, h4]
        simp
    · rw [List.getElem?_eq_none (by rw [List.length_set, hv, stripesFrom_len]; omega), List.getElem?_eq_none (by rw [stripesFrom_len]; omega)]
theorem stripesFrom_nil (n : Int) : ∀ (m : Nat) (k : Int), List.replicate m (Stripe.mk (-1) []) = stripesFrom [] n m k
  | 0, _ => rfl
  | m + 1, k => by simp [stripesFrom, List.replicate_succ, stripesFrom_nil n m (k + 1)]
theorem wt_inS (l : List Acct) (n : Int) : ∀ (m : Nat) (k : Int), wtL wtStripe (stripesFrom l n m k) ≤ m + wtL wtAcct (l.filter (fun a => decide (k ≤ sno a.Id n) && decide (sno a.Id n < k + m)))
  | 0, k => by simp [stripesFrom, wtL]
  | m + 1, k => by
    have ih := wt_inS l n m (k + 1)
    simp only [stripesFrom, wtL, wtStripe_eq]
    have hsplit : ∀ l : List Acct, wtL wtAcct (l.filter (inS n k)) + wtL wtAcct (l.filter (fun a => decide (k + 1 ≤ sno a.Id n) && decide (sno a.Id n < k + 1 + (m : Int)))) ≤ wtL wtAcct (l.filter (fun a => decide (k ≤ sno a.Id n) && decide (sno a.Id n < k + ((m + 1 : Nat) : Int)))) := fun l => by
      induction l with
      | nil => simp [wtL]
      | cons x t ih =>
        simp only [List.filter_cons]
        by_cases h1 : sno x.Id n = k
        · have q1 : inS n k x = true := by unfold inS; simp [h1]
          have q2 : (decide (k + 1 ≤ sno x.Id n) && decide (sno x.Id n < k + 1 + (m : Int))) = false := by simp; omega
          have q3 : (decide (k ≤ sno x.Id n) && decide (sno x.Id n < k + ((m + 1 : Nat) : Int))) = true := by simp; omega
          simp only [q1, q2, q3, if_true, if_false, Bool.false_eq_true, wtL]; omega
        · have q1 : inS n k x = false := by unfold inS; rw [beq_eq_false_iff_ne]; exact h1
          have q2 : (decide (k + 1 ≤ sno x.Id n) && decide (sno x.Id n < k + 1 + (m : Int))) = (decide (k ≤ sno x.Id n) && decide (sno x.Id n < k + ((m + 1 : Nat) : Int))) := by
            congr 1 <;> rw [decide_eq_decide] <;> omega
          rw [q2]
          rcases tf (decide (k ≤ sno x.Id n) && decide (sno x.Id n < k + ((m + 1 : Nat) : Int))) with q3 | q3 <;> simp only [q1, q3, if_true, if_false, Bool.false_eq_true, wtL] <;> omega
    have := hsplit l
    omega
theorem Spread_val' (b : Book) (n : Int) (h : wtL wtAcct b.Accts ≤ 1048576) : ∃ y, spec_Spread b n = some y ∧ impl_Spread b n = some y ∧ wtL wtStripe y ≤ 4000000 := by
  have hl := wtL_len wtAcct b.Accts
  have hs : ∀ x ∈ b.Accts, smallId x := okAs_of (by omega)
  have hz : wtL wtStripe ([] : List Stripe) ≤ 4000000 := by simp [wtL]
  unfold spec_Spread impl_Spread
  rw [(BookOk_val b (by omega)).1, (BookOk_val b (by omega)).2]
  simp only [Option.bind_some, l01In_val, within_val]
  cases bookOk b with
  | false => exact ⟨[], rfl, rfl, hz⟩
  | true =>
    simp only [if_true]
    by_cases h1 : 1 ≤ n
    · by_cases h2 : n ≤ 5
      · have hb : (decide (1 ≤ n) && decide (n ≤ 5)) = true := by simp [h1, h2]
        obtain ⟨m, hm⟩ : ∃ m : Nat, (m : Int) = n := ⟨n.toNat, by omega⟩
        simp only [hb, if_true]
        rw [spec_Spread_l0_val b n hs (by omega) m FUEL 0 [] (by omega) (by unfold FUEL; omega) (by omega) (by omega) (by simp; omega), impl_Spread_l0_val b n m FUEL 0 [] (by omega) (by unfold FUEL; omega) (by omega) (by omega) (by simp; omega)]
        simp only [Option.bind_some, List.nil_append, capOk_of (show b.Accts.length ≤ 274877906944 by omega), if_true]
        rw [impl_Spread_l1_val b n m hm h1 (by omega) b.Accts [] _ rfl hs (stripesFrom_nil n m 0)]
        refine ⟨_, rfl, rfl, ?_⟩
        have h3 := wt_inS b.Accts n m 0
        have h4 := wtL_filter wtAcct (fun a : Acct => decide (0 ≤ sno a.Id n) && decide (sno a.Id n < 0 + (m : Int))) b.Accts
        omega
      · have hb : (decide (1 ≤ n) && decide (n ≤ 5)) = false := by simp [h2]
        simp only [hb, Bool.false_eq_true, if_false]
        exact ⟨[], rfl, rfl, hz⟩
    · have hb : (decide (1 ≤ n) && decide (n ≤ 5)) = false := by simp [h1]
      simp only [hb, Bool.false_eq_true, if_false]
      exact ⟨[], rfl, rfl, hz⟩
theorem DeskNew_val (n : Int) (hn : Wi .i64 n) : ∃ y, spec_DeskNew n = some y ∧ impl_DeskNew n = some y ∧ wtDesk y.1 ≤ 4000000 := by
  obtain ⟨y, e1, e2, hw⟩ := Spread_val' (Book.mk []) n (by simp [wtL])
  have hz : wtDesk (Desk.mk (Book.mk []) 0 (World.mk [] 0 0 [])) ≤ 4000000 := by rw [wtDesk_eq, wtBook_eq, wtWorld_eq]; simp [wtL]
  unfold spec_DeskNew impl_DeskNew spec_WorldNew impl_WorldNew
  rw [e1, e2]
  simp only [Option.bind_some]
  rcases tf ((y.length : Int) == 0) with q | q
  · simp only [q, if_true, Bool.false_eq_true, if_false, Option.bind_some]
    exact ⟨_, rfl, rfl, hz⟩
  · simp only [q, if_true, Bool.false_eq_true, if_false, Option.bind_some]
    refine ⟨_, rfl, rfl, ?_⟩
    rw [wtDesk_eq, wtBook_eq, wtWorld_eq]
    simp only [wtL]
    omega
namespace Pure
theorem FnExactDeskNew (aN : Int) (h0 : Wi .i64 aN) : laws_FnExactDeskNew aN = some true := by
  unfold laws_FnExactDeskNew
  obtain ⟨y, f1, f2, f3⟩ := DeskNew_val aN h0
  have z0 := f3
  obtain ⟨k1, l1_0, l1_1, l1_2, m1, u1, b1, q1_0, q1_1, q1_2, d1⟩ := markDesk_val y.1 1 (by omega) (by omega) (by omega)
  simp only [f1, f2, eqDesk_rfl _ z0, m1, show ¬ k1 < 0 by omega, d1, Option.bind_some, decide_true, decide_false, Bool.false_eq_true, if_true, if_false, bne_rfl, beq_rfl, beq_self_eq_true]
end Pure
end Go.Proofs.YtephmimhaokhlaaGreatM
