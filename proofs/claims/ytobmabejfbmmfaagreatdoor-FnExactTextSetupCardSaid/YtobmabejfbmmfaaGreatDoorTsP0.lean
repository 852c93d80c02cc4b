/- Laws of the plain functions. No condition. -/
import Derived.Test.YtobmabejfbmmfaaGreatDoorTsOp
import Derived.Laws.StructEq
namespace Go.Proofs.YtobmabejfbmmfaaGreatDoorM
set_option linter.unusedVariables false
set_option linter.unusedSimpArgs false
set_option maxRecDepth 100000
theorem i64_of {x : Int} (h : -9223372036854775808 ≤ x) (h2 : x ≤ 9223372036854775807) : i64 x = x := by unfold i64; rw [IntKind.wrap_i64]; omega
theorem i64_nn {x : Int} (h : 0 ≤ x) (h2 : x ≤ 9223372036854775807) : i64 x = x := i64_of (by omega) h2
theorem u8_of {x : Int} (h : 0 ≤ x) (h2 : x ≤ 255) : u8 x = x := by unfold u8 IntKind.wrap; simp [IntKind.bits, IntKind.signed]; omega
theorem capOk_of {n : Nat} (h : n ≤ 274877906944) : capOk n = true := decide_eq_true h
theorem beqB (a b : ByteArray) : (a == b) = decide (a = b) := by
  rcases a with ⟨a⟩
  rcases b with ⟨b⟩
  have h1 : ((⟨a⟩ : ByteArray) == ⟨b⟩) = (a == b) := rfl
  rw [h1]
  by_cases h : a = b
  · subst h; simp
  · have h2 : ¬ ((⟨a⟩ : ByteArray) = ⟨b⟩) := fun e => h (by cases e; rfl)
    rw [decide_eq_false h2]
    simpa using h
theorem tmod10 {x : Int} (h : 0 ≤ x) : Int.tmod x 10 = x % 10 := Int.tmod_eq_emod_of_nonneg h
theorem beq_rfl (s : ByteArray) : (s == s) = true := by rw [beqB]; simp
theorem bne_rfl (n : Int) : (n != n) = false := by simp
theorem mid_get {α : Type} {a p t : List α} {x : α} (e : a = p ++ x :: t) : a[((p.length : Int)).toNat]? = some x := by rw [e]; simp
theorem bstr_one (n : Int) : (bstr [n]).size = 1 := rfl
theorem size_app (a b : ByteArray) : (a ++ b).size = a.size + b.size := ByteArray.size_append
theorem markText_l0_tot : ∀ (n N : Nat) (v : Int) (s : ByteArray), 0 ≤ v → v ≤ 9223372036854775807 → v < 10 ^ n → n < N → s.size + n ≤ 1000 → ∃ y, laws_markText_l0 N v s = some y ∧ y.size ≤ 1000
  | n, 0, v, s, h0, hm, hv, hN, hs => by omega
  | 0, N + 1, v, s, h0, hm, hv, hN, hs => by
    have : v = 0 := by simp at hv; omega
    subst this
    exact ⟨s, by simp [laws_markText_l0], by omega⟩
  | n + 1, N + 1, v, s, h0, hm, hv, hN, hs => by
    unfold laws_markText_l0
    by_cases h : 0 < v
    · have hd : Int.tdiv v 10 = v / 10 := Int.tdiv_eq_ediv_of_nonneg h0
      have hp : (10 : Int) ^ (n + 1) = 10 ^ n * 10 := by rw [Int.pow_succ]
      have hlt : v / 10 < 10 ^ n := by rw [hp] at hv; omega
      have hi : i64 (v / 10) = v / 10 := i64_of (by omega) (by omega)
      have hz : (bstr [u8 (i64 (48 + (Int.tmod v 10)))]).size = 1 := bstr_one _
      obtain ⟨y, e, e2⟩ := markText_l0_tot n N (v / 10) (bstr [u8 (i64 (48 + (Int.tmod v 10)))] ++ s) (by omega) (by omega) hlt (by omega) (by rw [size_app, hz]; omega)
      refine ⟨y, ?_, e2⟩
      have hc : (bstr [u8 (i64 (48 + (Int.tmod v 10)))]).size + s.size ≤ 9223372036854775807 := by rw [hz]; omega
      simp only [h, decide_true, if_true, hc, hd, hi]
      exact e
    · exact ⟨s, by simp [h], by omega⟩
theorem markText_tot (k : Int) (hm : k ≤ 9223372036854775807) : ∃ y, laws_markText k = some y := by
  unfold laws_markText
  by_cases h : k ≤ 0
  · exact ⟨_, by simp only [h, decide_true, if_true]; rfl⟩
  · obtain ⟨y, e, e2⟩ := markText_l0_tot 20 FUEL k (bs []) (by omega) hm (by omega) (by unfold FUEL; omega) (by decide)
    simp only [h, decide_false, Bool.false_eq_true, if_false, e, Option.bind_some]
    have hc : (bs [109]).size + y.size ≤ 9223372036854775807 := by
      have : (bs [109]).size = 1 := rfl
      omega
    exact ⟨_, by rw [decide_eq_true hc]; rfl⟩
theorem after_set {α : Type} {v v' : List α} {i : Nat} {x : α} (h : v'.take (i + 1) = (v.set i x).take (i + 1)) (hl : v'.length = v.length) (hi : i < v.length) : v'.drop i = x :: v'.drop (i + 1) ∧ v'.take i = v.take i := by
  have hx : v'[i]? = some x := by
    have e : (v'.take (i + 1))[i]? = ((v.set i x).take (i + 1))[i]? := by rw [h]
    rw [List.getElem?_take, List.getElem?_take, if_pos (by omega), if_pos (by omega)] at e
    rw [e]; simp [hi]
  have hx' : v'[i]'(by omega) = x := by
    have := List.getElem?_eq_getElem (l := v') (i := i) (by omega)
    rw [this] at hx
    exact Option.some.inj hx
  refine ⟨by rw [List.drop_eq_getElem_cons (by omega), hx'], ?_⟩
  have e : (v'.take (i + 1)).take i = ((v.set i x).take (i + 1)).take i := by rw [h]
  rw [List.take_take, List.take_take, Nat.min_eq_left (by omega), List.take_set_of_le (Nat.le_refl _)] at e
  exact e
def byB (l : List Int) : Prop := ∀ b ∈ l, 0 ≤ b ∧ b ≤ 255
/-- The weight of a list: its length, and its elements' weights. -/
def wtL {α : Type} (f : α → Nat) : List α → Nat
  | [] => 0
  | x :: t => 1 + f x + wtL f t
def wtS {α : Type} (f : α → Nat) : List α → Nat
  | [] => 0
  | x :: t => f x + wtS f t
theorem wtL_eq {α : Type} (f : α → Nat) : ∀ l : List α, wtL f l = l.length + wtS f l
  | [] => rfl
  | x :: t => by simp only [wtL, wtS, List.length_cons]; rw [wtL_eq f t]; omega
theorem wtL_len {α : Type} (f : α → Nat) (l : List α) : l.length ≤ wtL f l := by rw [wtL_eq]; omega
theorem wtL_mem {α : Type} (f : α → Nat) : ∀ (l : List α) (x : α), x ∈ l → f x + 1 ≤ wtL f l
  | y :: t, x, h => by
    simp only [wtL]
    rcases List.mem_cons.1 h with rfl | h
    · omega
    · have := wtL_mem f t x h; omega
theorem wtL_bound {α : Type} (f : α → Nat) (k : Nat) : ∀ (l : List α), (∀ x ∈ l, f x ≤ k) → wtL f l ≤ (k + 1) * l.length
  | [], _ => by simp [wtL]
  | x :: t, h => by
    have h1 := wtL_bound f k t (fun y hy => h y (by simp [hy]))
    have h2 := h x (by simp)
    simp only [wtL, List.length_cons, Nat.mul_succ]
    omega
def wtHold (a : Hold) : Nat := a.Id.size
theorem wtHold_eq (a : Hold) : wtHold a = a.Id.size := rfl
theorem eqHold_rfl (a : Hold) (h : wtHold a ≤ 4000000) : laws_eqHold a a = some true := by
  rw [wtHold_eq] at h
  unfold laws_eqHold
  simp only [beq_rfl, bne_rfl, Bool.false_eq_true, if_false, if_true, Option.bind_some]
theorem eqHoldS_l0_rfl (a : List Hold) : ∀ t p : List Hold, a = p ++ t → (∀ s ∈ t, wtHold s ≤ 4000000) → laws_eqHoldS_l0 a a t p = some (.out ())
  | [], p, e, _ => rfl
  | x :: t, p, e, hs => by
    unfold laws_eqHoldS_l0
    rw [mid_get e, Option.bind_some, eqHold_rfl x (hs x (by simp)), Option.bind_some]
    simpa using eqHoldS_l0_rfl a t (p ++ [x]) (by rw [e]; simp) (fun s hs' => hs s (by simp [hs']))
theorem eqHoldS_rfl (a : List Hold) (h : wtL wtHold a ≤ 4000000) : laws_eqHoldS a a = some true := by
  have hl : a.length ≤ 4000000 := (by have := wtL_len wtHold a; omega)
  unfold laws_eqHoldS
  rw [eqHoldS_l0_rfl a a [] rfl (fun s hs => by have := wtL_mem wtHold a s hs; omega), capOk_of (show a.length ≤ 274877906944 by omega)]
  simp only [bne_rfl, Bool.false_eq_true, if_false, if_true]
  rfl
theorem markHoldS_l0_val : ∀ (n : Nat) (k : Int) (i : Nat) (v : List Hold), i ≤ v.length → v.length ≤ 4000000 → wtL wtHold (v.drop i) ≤ 4000000 → 0 ≤ k → k + 16 * (wtL wtHold (v.drop i) : Nat) ≤ 1000000000000 → v.length - i < n →
    ∃ (k' : Int) (v' : List Hold), laws_markHoldS_l0 n k (i : Int) v = some (k', v') ∧ k ≤ k' ∧ k' ≤ k + 16 * (wtL wtHold (v.drop i) : Nat) ∧ v'.length = v.length ∧ v'.take i = v.take i ∧ ∀ b, laws_heldHoldS_l0 b (v'.drop i) k = some (.out k')
  | 0, k, i, v, hi, hl, hw, h0, hk, hn => by omega
  | n + 1, k, i, v, hi, hl, hw, h0, hk, hn => by
    unfold laws_markHoldS_l0
    by_cases h : i < v.length
    · have hc : (i : Int) < (v.length : Int) := by omega
      have hi1 : i64 ((i : Int) + 1) = ((i + 1 : Nat) : Int) := by rw [i64_of (by omega) (by omega)]; omega
      have hg : v[i]? = some v[i] := List.getElem?_eq_getElem h
      have hd : wtL wtHold (v.drop i) = 1 + wtHold v[i] + wtL wtHold (v.drop (i + 1)) := by rw [List.drop_eq_getElem_cons h]; rfl
      have hx := wtHold_eq v[i]
      obtain ⟨t0, ht0⟩ := markText_tot (k) (by omega)
      have i0 : i64 (k + 1) = k + 1 := i64_of (by omega) (by omega)
      have i1 : i64 (k + 1 + 1) = k + 1 + 1 := i64_of (by omega) (by omega)
      have i2 : i64 (k + 1 + 1 + 1) = k + 1 + 1 + 1 := i64_of (by omega) (by omega)
      have hsl : (v.set i (Hold.mk t0 (k + 1) (k + 1 + 1))).length = v.length := List.length_set
      have hsd : (v.set i (Hold.mk t0 (k + 1) (k + 1 + 1))).drop (i + 1) = v.drop (i + 1) := List.drop_set_of_lt (by omega)
      obtain ⟨k', v', e1, e1', e1'', e2, e3, e4⟩ := markHoldS_l0_val n (k + 1 + 1 + 1) (i + 1) (v.set i (Hold.mk t0 (k + 1) (k + 1 + 1))) (by rw [hsl]; omega) (by rw [hsl]; omega) (by rw [hsd]; omega) (by omega) (by rw [hsd]; omega) (by rw [hsl]; omega)
      rw [hsl] at e2
      rw [hsd] at e1''
      obtain ⟨p1, p2⟩ := after_set e3 e2 h
      refine ⟨k', v', ?_, by omega, by omega, e2, p2, fun b => ?_⟩
      · simp only [hc, decide_true, if_true, Int.natCast_nonneg, Int.toNat_natCast, hg, Option.bind_some, ht0, i0, i1, i2, hi1, List.getElem?_set_self h, List.set_set, List.length_set]
        exact e1
      · rw [p1]
        unfold laws_heldHoldS_l0
        simp only [ht0, i0, i1, i2, Option.bind_some, beq_rfl, bne_rfl, if_true, decide_false, Bool.false_eq_true, if_false]
        exact e4 b
    · have hc : ¬ (i : Int) < (v.length : Int) := by omega
      refine ⟨k, v, by simp only [hc, decide_false, Bool.false_eq_true, if_false], by omega, by omega, rfl, rfl, fun b => ?_⟩
      rw [List.drop_eq_nil_of_le (by omega)]
      rfl
theorem markHoldS_val (v : List Hold) (k : Int) (h : wtL wtHold v ≤ 4000000) (h0 : 0 ≤ k) (hk : k + 16 * (wtL wtHold v : Nat) ≤ 1000000000000) :
    ∃ (k' : Int) (v' : List Hold), laws_markHoldS v k = some (k', v') ∧ k ≤ k' ∧ k' ≤ k + 16 * (wtL wtHold v : Nat) ∧ v'.length = v.length ∧ laws_heldHoldS v' k = some k' := by
  have hl : v.length ≤ 4000000 := (by have := wtL_len wtHold v; omega)
  obtain ⟨k', v', e1, e1', e1'', e2, e3, e4⟩ := markHoldS_l0_val FUEL k 0 v (by omega) hl (by simpa using h) h0 (by simpa using hk) (by unfold FUEL; omega)
  have e4 := e4 v'
  simp only [List.drop_zero] at e4 e1''
  refine ⟨k', v', ?_, e1', e1'', e2, ?_⟩
  · unfold laws_markHoldS
    have : ((0 : Nat) : Int) = 0 := rfl
    rw [this] at e1
    rw [e1]; rfl
  · unfold laws_heldHoldS
    rw [capOk_of (by omega), e4]; rfl
theorem eqIntS_l0_rfl (a : List Int) : ∀ t p : List Int, a = p ++ t → laws_eqIntS_l0 a a t p = some (.out ())
  | [], p, e => rfl
  | x :: t, p, e => by
    unfold laws_eqIntS_l0
    rw [mid_get e, Option.bind_some]
    simp only [bne_rfl, beq_rfl, Bool.false_eq_true, if_false, if_true]
    exact eqIntS_l0_rfl a t (p ++ [x]) (by rw [e]; simp)
theorem eqIntS_rfl (a : List Int) (h : a.length ≤ 4000000) : laws_eqIntS a a = some true := by
  have hl : a.length ≤ 4000000 := h
  unfold laws_eqIntS
  rw [eqIntS_l0_rfl a a [] rfl, capOk_of (show a.length ≤ 274877906944 by omega)]
  simp only [bne_rfl, Bool.false_eq_true, if_false, if_true]
  rfl
theorem markIntS_l0_val : ∀ (n : Nat) (k : Int) (i : Nat) (v : List Int), i ≤ v.length → v.length ≤ 4000000 → (v.drop i).length ≤ 4000000 → 0 ≤ k → k + 16 * ((v.drop i).length : Nat) ≤ 1000000000000 → v.length - i < n →
    ∃ (k' : Int) (v' : List Int), laws_markIntS_l0 n k (i : Int) v = some (k', v') ∧ k ≤ k' ∧ k' ≤ k + 16 * ((v.drop i).length : Nat) ∧ v'.length = v.length ∧ v'.take i = v.take i ∧ ∀ b, laws_heldIntS_l0 b (v'.drop i) k = some (.out k')
  | 0, k, i, v, hi, hl, hw, h0, hk, hn => by omega
  | n + 1, k, i, v, hi, hl, hw, h0, hk, hn => by
    unfold laws_markIntS_l0
    by_cases h : i < v.length
    · have hc : (i : Int) < (v.length : Int) := by omega
      have hi1 : i64 ((i : Int) + 1) = ((i + 1 : Nat) : Int) := by rw [i64_of (by omega) (by omega)]; omega
      have hg : v[i]? = some v[i] := List.getElem?_eq_getElem h
      have hd : (v.drop i).length = 1 + (v.drop (i + 1)).length := by rw [List.length_drop, List.length_drop]; omega
      have i0 : i64 (k + 1) = k + 1 := i64_of (by omega) (by omega)
      have hsl : (v.set i (k)).length = v.length := List.length_set
      have hsd : (v.set i (k)).drop (i + 1) = v.drop (i + 1) := List.drop_set_of_lt (by omega)
      obtain ⟨k', v', e1, e1', e1'', e2, e3, e4⟩ := markIntS_l0_val n (k + 1) (i + 1) (v.set i (k)) (by rw [hsl]; omega) (by rw [hsl]; omega) (by rw [hsd]; omega) (by omega) (by rw [hsd]; omega) (by rw [hsl]; omega)
      rw [hsl] at e2
      rw [hsd] at e1''
      obtain ⟨p1, p2⟩ := after_set e3 e2 h
      refine ⟨k', v', ?_, by omega, by omega, e2, p2, fun b => ?_⟩
      · simp only [hc, decide_true, if_true, Int.natCast_nonneg, Int.toNat_natCast, hg, Option.bind_some, i0, hi1, List.getElem?_set_self h, List.set_set, List.length_set]
        exact e1
      · rw [p1]
        unfold laws_heldIntS_l0
        simp only [i0, Option.bind_some, beq_rfl, bne_rfl, if_true, decide_false, Bool.false_eq_true, if_false]
        exact e4 b
    · have hc : ¬ (i : Int) < (v.length : Int) := by omega
      refine ⟨k, v, by simp only [hc, decide_false, Bool.false_eq_true, if_false], by omega, by omega, rfl, rfl, fun b => ?_⟩
      rw [List.drop_eq_nil_of_le (by omega)]
      rfl
theorem markIntS_val (v : List Int) (k : Int) (h : v.length ≤ 4000000) (h0 : 0 ≤ k) (hk : k + 16 * (v.length : Nat) ≤ 1000000000000) :
    ∃ (k' : Int) (v' : List Int), laws_markIntS v k = some (k', v') ∧ k ≤ k' ∧ k' ≤ k + 16 * (v.length : Nat) ∧ v'.length = v.length ∧ laws_heldIntS v' k = some k' := by
  have hl : v.length ≤ 4000000 := h
  obtain ⟨k', v', e1, e1', e1'', e2, e3, e4⟩ := markIntS_l0_val FUEL k 0 v (by omega) hl (by simpa using h) h0 (by simpa using hk) (by unfold FUEL; omega)
  have e4 := e4 v'
  simp only [List.drop_zero] at e4 e1''
  refine ⟨k', v', ?_, e1', e1'', e2, ?_⟩
  · unfold laws_markIntS
    have : ((0 : Nat) : Int) = 0 := rfl
    rw [this] at e1
    rw [e1]; rfl
  · unfold laws_heldIntS
    rw [capOk_of (by omega), e4]; rfl
def wtRing (a : Ring) : Nat := a.Counts.length + a.Sums.length
theorem wtRing_eq (a : Ring) : wtRing a = a.Counts.length + a.Sums.length := rfl
theorem eqRing_rfl (a : Ring) (h : wtRing a ≤ 4000000) : laws_eqRing a a = some true := by
  rw [wtRing_eq] at h
  unfold laws_eqRing
  simp only [eqIntS_rfl a.Counts (by omega), eqIntS_rfl a.Sums (by omega), beq_rfl, bne_rfl, Bool.false_eq_true, if_false, if_true, Option.bind_some]
theorem markRing_val (a : Ring) (k : Int) (h : wtRing a ≤ 4000000) (h0 : 0 ≤ k) (hk : k + 16 * (wtRing a : Nat) ≤ 1000000000000) : ∃ (k' : Int) (l0 : List Int) (l1 : List Int), laws_markRing a k = some (k', l0, l1) ∧ k ≤ k' ∧ k' ≤ k + 16 * (wtRing a : Nat) ∧ l0.length = a.Counts.length ∧ l1.length = a.Sums.length ∧ ∀ (z0 : Int) (z1 : Int), laws_heldRing (Ring.mk z0 z1 l0 l1) k = some k' := by
  rw [wtRing_eq] at *
  obtain ⟨k0, y0, m0, g0, b0, q0, d0⟩ := markIntS_val a.Counts k (by omega) (by omega) (by omega)
  obtain ⟨k1, y1, m1, g1, b1, q1, d1⟩ := markIntS_val a.Sums k0 (by omega) (by omega) (by omega)
  refine ⟨k1, y0, y1, ?_, by omega, by omega, q0, q1, fun z0 z1 => ?_⟩
  · unfold laws_markRing
    simp only [m0, m1, Option.bind_some]
  · unfold laws_heldRing
    simp only [d0, d1, Option.bind_some, show ¬ k0 < 0 by omega, show ¬ k1 < 0 by omega, decide_false, Bool.false_eq_true, if_false]
theorem eqByteS_l0_rfl (a : List Int) : ∀ t p : List Int, a = p ++ t → laws_eqByteS_l0 a a t p = some (.out ())
  | [], p, e => rfl
  | x :: t, p, e => by
    unfold laws_eqByteS_l0
    rw [mid_get e, Option.bind_some]
    simp only [bne_rfl, beq_rfl, Bool.false_eq_true, if_false, if_true]
    exact eqByteS_l0_rfl a t (p ++ [x]) (by rw [e]; simp)
theorem eqByteS_rfl (a : List Int) (h : a.length ≤ 4000000) : laws_eqByteS a a = some true := by
  have hl : a.length ≤ 4000000 := h
  unfold laws_eqByteS
  rw [eqByteS_l0_rfl a a [] rfl, capOk_of (show a.length ≤ 274877906944 by omega)]
  simp only [bne_rfl, Bool.false_eq_true, if_false, if_true]
  rfl
theorem markByteS_l0_val : ∀ (n : Nat) (k : Int) (i : Nat) (v : List Int), i ≤ v.length → v.length ≤ 4000000 → (v.drop i).length ≤ 4000000 → 0 ≤ k → k + 16 * ((v.drop i).length : Nat) ≤ 1000000000000 → v.length - i < n →
    ∃ (k' : Int) (v' : List Int), laws_markByteS_l0 n k (i : Int) v = some (k', v') ∧ k ≤ k' ∧ k' ≤ k + 16 * ((v.drop i).length : Nat) ∧ v'.length = v.length ∧ v'.take i = v.take i ∧ ∀ b, laws_heldByteS_l0 b (v'.drop i) k = some (.out k')
  | 0, k, i, v, hi, hl, hw, h0, hk, hn => by omega
  | n + 1, k, i, v, hi, hl, hw, h0, hk, hn => by
    unfold laws_markByteS_l0
    by_cases h : i < v.length
    · have hc : (i : Int) < (v.length : Int) := by omega
      have hi1 : i64 ((i : Int) + 1) = ((i + 1 : Nat) : Int) := by rw [i64_of (by omega) (by omega)]; omega
      have hg : v[i]? = some v[i] := List.getElem?_eq_getElem h
      have hd : (v.drop i).length = 1 + (v.drop (i + 1)).length := by rw [List.length_drop, List.length_drop]; omega
      have i0 : i64 (k + 1) = k + 1 := i64_of (by omega) (by omega)
      have hsl : (v.set i (u8 (k))).length = v.length := List.length_set
      have hsd : (v.set i (u8 (k))).drop (i + 1) = v.drop (i + 1) := List.drop_set_of_lt (by omega)
      obtain ⟨k', v', e1, e1', e1'', e2, e3, e4⟩ := markByteS_l0_val n (k + 1) (i + 1) (v.set i (u8 (k))) (by rw [hsl]; omega) (by rw [hsl]; omega) (by rw [hsd]; omega) (by omega) (by rw [hsd]; omega) (by rw [hsl]; omega)
      rw [hsl] at e2
      rw [hsd] at e1''
      obtain ⟨p1, p2⟩ := after_set e3 e2 h
      refine ⟨k', v', ?_, by omega, by omega, e2, p2, fun b => ?_⟩
      · simp only [hc, decide_true, if_true, Int.natCast_nonneg, Int.toNat_natCast, hg, Option.bind_some, i0, hi1, List.getElem?_set_self h, List.set_set, List.length_set]
        exact e1
      · rw [p1]
        unfold laws_heldByteS_l0
        simp only [i0, Option.bind_some, beq_rfl, bne_rfl, if_true, decide_false, Bool.false_eq_true, if_false]
        exact e4 b
    · have hc : ¬ (i : Int) < (v.length : Int) := by omega
      refine ⟨k, v, by simp only [hc, decide_false, Bool.false_eq_true, if_false], by omega, by omega, rfl, rfl, fun b => ?_⟩
      rw [List.drop_eq_nil_of_le (by omega)]
      rfl
theorem markByteS_val (v : List Int) (k : Int) (h : v.length ≤ 4000000) (h0 : 0 ≤ k) (hk : k + 16 * (v.length : Nat) ≤ 1000000000000) :
    ∃ (k' : Int) (v' : List Int), laws_markByteS v k = some (k', v') ∧ k ≤ k' ∧ k' ≤ k + 16 * (v.length : Nat) ∧ v'.length = v.length ∧ laws_heldByteS v' k = some k' := by
  have hl : v.length ≤ 4000000 := h
  obtain ⟨k', v', e1, e1', e1'', e2, e3, e4⟩ := markByteS_l0_val FUEL k 0 v (by omega) hl (by simpa using h) h0 (by simpa using hk) (by unfold FUEL; omega)
  have e4 := e4 v'
  simp only [List.drop_zero] at e4 e1''
  refine ⟨k', v', ?_, e1', e1'', e2, ?_⟩
  · unfold laws_markByteS
    have : ((0 : Nat) : Int) = 0 := rfl
    rw [this] at e1
    rw [e1]; rfl
  · unfold laws_heldByteS
    rw [capOk_of (by omega), e4]; rfl
def wtSlot (a : Slot) : Nat := a.Trace.size + a.Mti.size + a.Reply.length
theorem wtSlot_eq (a : Slot) : wtSlot a = a.Trace.size + a.Mti.size + a.Reply.length := rfl
def bySlot (a : Slot) : Prop := byB a.Reply
theorem eqSlot_rfl (a : Slot) (h : wtSlot a ≤ 4000000) : laws_eqSlot a a = some true := by
  rw [wtSlot_eq] at h
  unfold laws_eqSlot
  simp only [eqByteS_rfl a.Reply (by omega), beq_rfl, bne_rfl, Bool.false_eq_true, if_false, if_true, Option.bind_some]
theorem eqSlotS_l0_rfl (a : List Slot) : ∀ t p : List Slot, a = p ++ t → (∀ s ∈ t, wtSlot s ≤ 4000000) → laws_eqSlotS_l0 a a t p = some (.out ())
  | [], p, e, _ => rfl
  | x :: t, p, e, hs => by
    unfold laws_eqSlotS_l0
    rw [mid_get e, Option.bind_some, eqSlot_rfl x (hs x (by simp)), Option.bind_some]
    simpa using eqSlotS_l0_rfl a t (p ++ [x]) (by rw [e]; simp) (fun s hs' => hs s (by simp [hs']))
theorem eqSlotS_rfl (a : List Slot) (h : wtL wtSlot a ≤ 4000000) : laws_eqSlotS a a = some true := by
  have hl : a.length ≤ 4000000 := (by have := wtL_len wtSlot a; omega)
  unfold laws_eqSlotS
  rw [eqSlotS_l0_rfl a a [] rfl (fun s hs => by have := wtL_mem wtSlot a s hs; omega), capOk_of (show a.length ≤ 274877906944 by omega)]
  simp only [bne_rfl, Bool.false_eq_true, if_false, if_true]
  rfl
theorem markSlotS_l0_val : ∀ (n : Nat) (k : Int) (i : Nat) (v : List Slot), i ≤ v.length → v.length ≤ 4000000 → wtL wtSlot (v.drop i) ≤ 4000000 → 0 ≤ k → k + 16 * (wtL wtSlot (v.drop i) : Nat) ≤ 1000000000000 → v.length - i < n →
    ∃ (k' : Int) (v' : List Slot), laws_markSlotS_l0 n k (i : Int) v = some (k', v') ∧ k ≤ k' ∧ k' ≤ k + 16 * (wtL wtSlot (v.drop i) : Nat) ∧ v'.length = v.length ∧ v'.take i = v.take i ∧ ∀ b, laws_heldSlotS_l0 b (v'.drop i) k = some (.out k')
  | 0, k, i, v, hi, hl, hw, h0, hk, hn => by omega
  | n + 1, k, i, v, hi, hl, hw, h0, hk, hn => by
    unfold laws_markSlotS_l0
    by_cases h : i < v.length
    · have hc : (i : Int) < (v.length : Int) := by omega
      have hi1 : i64 ((i : Int) + 1) = ((i + 1 : Nat) : Int) := by rw [i64_of (by omega) (by omega)]; omega
      have hg : v[i]? = some v[i] := List.getElem?_eq_getElem h
      have hd : wtL wtSlot (v.drop i) = 1 + wtSlot v[i] + wtL wtSlot (v.drop (i + 1)) := by rw [List.drop_eq_getElem_cons h]; rfl
      have hx := wtSlot_eq v[i]
      obtain ⟨t0, ht0⟩ := markText_tot (k) (by omega)
      have i0 : i64 (k + 1) = k + 1 := i64_of (by omega) (by omega)
      obtain ⟨t1, ht1⟩ := markText_tot (k + 1) (by omega)
      have i1 : i64 (k + 1 + 1) = k + 1 + 1 := i64_of (by omega) (by omega)
      obtain ⟨k2, y2, m2, g2, b2, q2, d2⟩ := markByteS_val v[i].Reply (k + 1 + 1) (by omega) (by omega) (by omega)
      have hsl : (v.set i (Slot.mk t0 t1 y2)).length = v.length := List.length_set
      have hsd : (v.set i (Slot.mk t0 t1 y2)).drop (i + 1) = v.drop (i + 1) := List.drop_set_of_lt (by omega)
      obtain ⟨k', v', e1, e1', e1'', e2, e3, e4⟩ := markSlotS_l0_val n (k2) (i + 1) (v.set i (Slot.mk t0 t1 y2)) (by rw [hsl]; omega) (by rw [hsl]; omega) (by rw [hsd]; omega) (by omega) (by rw [hsd]; omega) (by rw [hsl]; omega)
      rw [hsl] at e2
      rw [hsd] at e1''
      obtain ⟨p1, p2⟩ := after_set e3 e2 h
      refine ⟨k', v', ?_, by omega, by omega, e2, p2, fun b => ?_⟩
      · simp only [hc, decide_true, if_true, Int.natCast_nonneg, Int.toNat_natCast, hg, Option.bind_some, ht0, i0, ht1, i1, m2, hi1, List.getElem?_set_self h, List.set_set, List.length_set]
        exact e1
      · rw [p1]
        unfold laws_heldSlotS_l0
        simp only [ht0, i0, ht1, i1, d2, show ¬ k2 < 0 by omega, Option.bind_some, beq_rfl, bne_rfl, if_true, decide_false, Bool.false_eq_true, if_false]
        exact e4 b
    · have hc : ¬ (i : Int) < (v.length : Int) := by omega
      refine ⟨k, v, by simp only [hc, decide_false, Bool.false_eq_true, if_false], by omega, by omega, rfl, rfl, fun b => ?_⟩
      rw [List.drop_eq_nil_of_le (by omega)]
      rfl
theorem markSlotS_val (v : List Slot) (k : Int) (h : wtL wtSlot v ≤ 4000000) (h0 : 0 ≤ k) (hk : k + 16 * (wtL wtSlot v : Nat) ≤ 1000000000000) :
    ∃ (k' : Int) (v' : List Slot), laws_markSlotS v k = some (k', v') ∧ k ≤ k' ∧ k' ≤ k + 16 * (wtL wtSlot v : Nat) ∧ v'.length = v.length ∧ laws_heldSlotS v' k = some k' := by
  have hl : v.length ≤ 4000000 := (by have := wtL_len wtSlot v; omega)
  obtain ⟨k', v', e1, e1', e1'', e2, e3, e4⟩ := markSlotS_l0_val FUEL k 0 v (by omega) hl (by simpa using h) h0 (by simpa using hk) (by unfold FUEL; omega)
  have e4 := e4 v'
  simp only [List.drop_zero] at e4 e1''
  refine ⟨k', v', ?_, e1', e1'', e2, ?_⟩
  · unfold laws_markSlotS
    have : ((0 : Nat) : Int) = 0 := rfl
    rw [this] at e1
    rw [e1]; rfl
  · unfold laws_heldSlotS
    rw [capOk_of (by omega), e4]; rfl
def wtAcct (a : Acct) : Nat := a.Id.size + wtL wtHold a.Holds + wtRing a.Ring + wtL wtSlot a.Slots
theorem wtAcct_eq (a : Acct) : wtAcct a = a.Id.size + wtL wtHold a.Holds + wtRing a.Ring + wtL wtSlot a.Slots := rfl
def byAcct (a : Acct) : Prop := ∀ x ∈ a.Slots, bySlot x
theorem eqAcct_rfl (a : Acct) (h : wtAcct a ≤ 4000000) : laws_eqAcct a a = some true := by
  rw [wtAcct_eq] at h
  unfold laws_eqAcct
  simp only [eqHoldS_rfl a.Holds (by omega), eqRing_rfl a.Ring (by omega), eqSlotS_rfl a.Slots (by omega), beq_rfl, bne_rfl, Bool.false_eq_true, if_false, if_true, Option.bind_some]
theorem markAcct_val (a : Acct) (k : Int) (h : wtAcct a ≤ 4000000) (h0 : 0 ≤ k) (hk : k + 16 * (wtAcct a : Nat) ≤ 1000000000000) : ∃ (k' : Int) (l0 : List Hold) (l1 : List Int) (l2 : List Int) (l3 : List Slot), laws_markAcct a k = some (k', l0, l1, l2, l3) ∧ k ≤ k' ∧ k' ≤ k + 16 * (wtAcct a : Nat) ∧ l0.length = a.Holds.length ∧ l1.length = a.Ring.Counts.length ∧ l2.length = a.Ring.Sums.length ∧ l3.length = a.Slots.length ∧ ∀ (z0 : ByteArray) (z1 : Int) (z2 : Int) (z3 : Int) (z4 : Int) (z5 : Int) (z6 : Int), laws_heldAcct (Acct.mk z0 z1 z2 z3 z4 l0 (Ring.mk z5 z6 l1 l2) l3) k = some k' := by
  rw [wtAcct_eq] at *
  obtain ⟨k0, y0, m0, g0, b0, q0, d0⟩ := markHoldS_val a.Holds k (by omega) (by omega) (by omega)
  obtain ⟨k1, y1, y2, m1, g1, b1, q1, q2, d1⟩ := markRing_val a.Ring k0 (by omega) (by omega) (by omega)
  obtain ⟨k2, y3, m2, g2, b2, q3, d2⟩ := markSlotS_val a.Slots k1 (by omega) (by omega) (by omega)
  refine ⟨k2, y0, y1, y2, y3, ?_, by omega, by omega, q0, q1, q2, q3, fun z0 z1 z2 z3 z4 z5 z6 => ?_⟩
  · unfold laws_markAcct
    simp only [m0, m1, m2, Option.bind_some]
  · unfold laws_heldAcct
    simp only [d0, d1, d2, Option.bind_some, show ¬ k0 < 0 by omega, show ¬ k1 < 0 by omega, show ¬ k2 < 0 by omega, decide_false, Bool.false_eq_true, if_false]
theorem tf (b : Bool) : b = true ∨ b = false := by cases b <;> simp
def all2 {α β : Type} (q : α → β → Bool) : List α → List β → Bool
  | [], _ => true
  | x :: t, y :: u => q x y && all2 q t u
  | _ :: _, [] => false
theorem all2_iff {α : Type} (q : α → α → Bool) (hq : ∀ x y, q x y = true ↔ x = y) : ∀ (a b : List α), a.length = b.length → (all2 q a b = true ↔ a = b)
  | [], [], _ => by simp [all2]
  | x :: t, y :: u, h => by
    simp only [List.length_cons, Nat.add_right_cancel_iff] at h
    simp only [all2, Bool.and_eq_true, hq, all2_iff q hq t u h, List.cons.injEq]
  | [], y :: u, h => by simp at h
  | x :: t, [], h => by simp at h
theorem pair_loop {α β : Type} {L : List α → List α → Option (Lo Unit Unit)} (b : List β) (Qx : α → Prop) (Qy : β → Prop) (q : α → β → Bool) (h0 : ∀ p, L [] p = some (.out ()))
    (h1 : ∀ x t p y, b[p.length]? = some y → Qx x → Qy y → L (x :: t) p = if q x y = true then L t (p ++ [x]) else some (.ret ())) (hy : ∀ y ∈ b, Qy y) :
    ∀ (t p : List α), (∀ x ∈ t, Qx x) → p.length + t.length ≤ b.length → L t p = some (if all2 q t (b.drop p.length) = true then .out () else .ret ())
  | [], p, _, _ => by rw [h0]; simp [all2]
  | x :: t, p, hx, h => by
    simp only [List.length_cons] at h
    have hlt : p.length < b.length := by omega
    rw [h1 x t p b[p.length] (List.getElem?_eq_getElem hlt) (hx x (by simp)) (hy _ (List.getElem_mem hlt)), List.drop_eq_getElem_cons hlt]
    have ih := pair_loop b Qx Qy q h0 h1 hy t (p ++ [x]) (fun z hz => hx z (by simp [hz])) (by simp; omega)
    simp only [List.length_append, List.length_cons, List.length_nil, Nat.zero_add] at ih
    simp only [all2]
    rcases tf (q x b[p.length]) with hq | hq
    · simp only [hq, if_true, Bool.true_and]; exact ih
    · simp [hq]
theorem lo_bool (c : Bool) : ((some (if c = true then Lo.out () else Lo.ret ()) : Option (Lo Unit Unit)).bind fun r => Lo.elim r (fun _ => some true) (fun _ => some false)) = some c := by cases c <;> rfl
/-- Two lists alike. -/
def listEq {α : Type} (q : α → α → Bool) (a b : List α) : Bool := !((a.length : Int) != (b.length : Int)) && all2 q a b
/-- A comparison of two lists: lengths first, then pair by pair. -/
theorem pair_main {α : Type} {L : List α → List α → Option (Lo Unit Unit)} (a b : List α) (Q : α → Prop) (q : α → α → Bool) (h0 : ∀ p, L [] p = some (.out ()))
    (h1 : ∀ x t p y, b[p.length]? = some y → Q x → Q y → L (x :: t) p = if q x y = true then L t (p ++ [x]) else some (.ret ())) (hx : ∀ x ∈ a, Q x) (hy : ∀ y ∈ b, Q y) (hl : a.length ≤ 274877906944) :
    (if ((a.length : Int) != (b.length : Int)) = true then some false else (if (capOk a.length) = true then (L a []).bind fun r => Lo.elim r (fun _ => some true) (fun _ => some false) else none)) = some (listEq q a b) := by
  unfold listEq
  by_cases h : a.length = b.length
  · have h2 : ((a.length : Int) != (b.length : Int)) = false := by rw [h]; simp
    rw [h2, capOk_of hl, pair_loop b Q Q q h0 h1 hy a [] hx (by simp; omega)]
    simp only [Bool.false_eq_true, if_false, if_true, lo_bool]
    rfl
  · have h2 : ((a.length : Int) != (b.length : Int)) = true := by rw [bne_iff_ne]; omega
    rw [h2]; rfl
theorem l01In_val (n lo hi : Int) : spec_l01In n lo hi = some (decide (lo ≤ n) && decide (n ≤ hi)) := by
  unfold spec_l01In
  by_cases h : lo ≤ n <;> simp [h]
theorem within_val (n lo hi : Int) : impl_within n lo hi = some (decide (lo ≤ n) && decide (n ≤ hi)) := by
  unfold impl_within
  by_cases h : lo ≤ n <;> simp [h]
def time (n : Int) : Bool := decide (0 ≤ n) && decide (n ≤ 1000000000)
theorem l06Time_val (n : Int) : spec_l06Time n = some (time n) := by unfold spec_l06Time; rw [l01In_val]; rfl
theorem isTime_val (n : Int) : impl_isTime n = some (time n) := by unfold impl_isTime; rw [within_val]; rfl
def money (n : Int) : Bool := decide (0 ≤ n) && decide (n ≤ 4611686018427387904)
theorem l01Money_val (n : Int) : spec_l01Money n = some (money n) := by
  unfold spec_l01Money money
  by_cases h : 0 ≤ n <;> simp [h]
theorem isMoney_val (n : Int) : impl_isMoney n = some (money n) := by unfold impl_isMoney; rw [within_val]; rfl
theorem spec_Digits_l0_tot (s : ByteArray) (hs : s.size ≤ 4000000) : ∀ (n : Nat) (v : Int), 0 ≤ v → v ≤ s.size → (s.size : Int) - v < n →
    ∃ y, spec_Digits_l0 s n v = some y ∧ impl_Digits_l0 s n v = some y ∧ ∀ u, y = .out u → ∀ i : Int, v ≤ i → i < s.size → 48 ≤ sAt s i ∧ sAt s i ≤ 57
  | 0, v, h0, hv, hn => by exfalso; omega
  | n + 1, v, h0, hv, hn => by
    unfold spec_Digits_l0 impl_Digits_l0
    by_cases h1 : v < (s.size : Int)
    · by_cases h2 : sAt s v < 48
      · exact ⟨.ret (), by simp [h1, h0, h2], by simp [h1, h0, h2], fun u e => by cases e⟩
      · by_cases h3 : 57 < sAt s v
        · exact ⟨.ret (), by simp [h1, h0, h2, h3], by simp [h1, h0, h2, h3], fun u e => by cases e⟩
        · have hi : i64 (v + 1) = v + 1 := i64_nn (by omega) (by omega)
          obtain ⟨y, e1, e2, e3⟩ := spec_Digits_l0_tot s hs n (v + 1) (by omega) (by omega) (by omega)
          refine ⟨y, by simp [h1, h0, h2, h3, hi, e1], by simp [h1, h0, h2, h3, hi, e2], fun u e i hv hi' => ?_⟩
          by_cases hiv : i = v
          · subst hiv; omega
          · exact e3 u e i (by omega) hi'
    · exact ⟨.out (), by simp [h1], by simp [h1], fun u _ i hv hi => by omega⟩
theorem beq_empty (s : ByteArray) : (s == bs []) = decide (s.size = 0) := by
  rw [beqB]
  by_cases h : s.size = 0
  · have : s = bs [] := by
      rcases s with ⟨d⟩
      have hd : d.size = 0 := h
      have : d = #[] := Array.eq_empty_of_size_eq_zero hd
      subst this; rfl
    rw [decide_eq_true h, decide_eq_true this]
  · rw [decide_eq_false h, decide_eq_false (fun e => h (by rw [e]; rfl))]
theorem Digits_tot (s : ByteArray) (hs : s.size ≤ 4000000) : ∃ b, spec_Digits s = some b ∧ impl_Digits s = some b ∧ (b = true → 0 < s.size ∧ ∀ i : Int, 0 ≤ i → i < s.size → 48 ≤ sAt s i ∧ sAt s i ≤ 57) := by
  obtain ⟨y, e1, e2, e3⟩ := spec_Digits_l0_tot s hs FUEL 0 (by omega) (by omega) (by unfold FUEL; omega)
  unfold spec_Digits impl_Digits
  rw [e1, e2]
  cases y with
  | ret u => exact ⟨false, rfl, rfl, fun h => by cases h⟩
  | out u =>
    refine ⟨decide (0 < (s.size : Int)), rfl, ?_, fun h => ⟨by have := of_decide_eq_true h; omega, fun i h0 hi => e3 u rfl i h0 hi⟩⟩
    simp only [Option.bind_some, Lo.elim, beq_empty]
    congr 1
    by_cases h : s.size = 0
    · simp [h]
    · rw [decide_eq_false h, decide_eq_true (show (0 : Int) < s.size by omega)]; rfl
theorem Luhn_l0_tot (s : ByteArray) (hs : s.size ≤ 4000000) (hd : ∀ i : Int, 0 ≤ i → i < s.size → 48 ≤ sAt s i ∧ sAt s i ≤ 57) : ∀ (n : Nat) (v w : Int) (b : Bool) (k : Int), k + 1 < n → -1 ≤ k → k < s.size → 0 ≤ v → v + 9 * (k + 1) ≤ 100000000 → w = v % 10 →
    ∃ y, impl_Luhn_l0 s n v b k = some y ∧ spec_Luhn_l0 s n w b k = some (y % 10) ∧ 0 ≤ y ∧ y ≤ 100000000
  | 0, v, w, b, k, hn, hk, hks, hv, hb, hw => by
    exfalso; omega
  | n + 1, v, w, b, k, hn, hk, hks, hv, hb, hw => by
    unfold impl_Luhn_l0 spec_Luhn_l0
    by_cases h0 : 0 ≤ k
    · obtain ⟨d1, d2⟩ := hd k h0 hks
      have hk1 : i64 (k - 1) = k - 1 := i64_of (by omega) (by omega)
      have hu : u8 (sAt s k - 48) = sAt s k - 48 := u8_of (by omega) (by omega)
      have hi : i64 (sAt s k - 48) = sAt s k - 48 := i64_of (by omega) (by omega)
      have hi2 : i64 (sAt s k) = sAt s k := i64_of (by omega) (by omega)
      have hi3 : i64 ((sAt s k - 48) * 2) = (sAt s k - 48) * 2 := i64_of (by omega) (by omega)
      have hi4 : i64 (2 * (sAt s k - 48)) = (sAt s k - 48) * 2 := by rw [Int.mul_comm]; exact hi3
      have hd0 : 0 ≤ sAt s k - 48 ∧ sAt s k - 48 ≤ 9 := by omega
      simp only [hk1, hu, hi2, hi, hi3, hi4]
      generalize sAt s k - 48 = d at *
      obtain ⟨g0, g9⟩ := hd0
      have hm : ∀ x, 0 ≤ x → x ≤ 9 → i64 (v + x) = v + x ∧ i64 (w + x) = w + x ∧ Int.tmod (w + x) 10 = (v + x) % 10 := fun x hx hx9 => by
        refine ⟨i64_of (by omega) (by omega), i64_of (by omega) (by omega), ?_⟩
        rw [tmod10 (by omega)]; omega
      by_cases hb' : b = true
      · by_cases h9 : 9 < d * 2
        · have h9' : i64 (d * 2 - 9) = d * 2 - 9 := i64_of (by omega) (by omega)
          obtain ⟨m1, m2, m3⟩ := hm (d * 2 - 9) (by omega) (by omega)
          obtain ⟨y, e1, e2, e3⟩ := Luhn_l0_tot s hs hd n (v + (d * 2 - 9)) ((v + (d * 2 - 9)) % 10) (!b) (k - 1) (by omega) (by omega) (by omega) (by omega) (by omega) rfl
          exact ⟨y, by simp only [h0, hks, hb', h9, h9', m1, m2, m3, decide_true, if_true]; rw [hb'] at e1; exact e1, by simp only [h0, hks, hb', h9, h9', m1, m2, m3, decide_true, if_true]; rw [hb'] at e2; exact e2, e3⟩
        · obtain ⟨m1, m2, m3⟩ := hm (d * 2) (by omega) (by omega)
          obtain ⟨y, e1, e2, e3⟩ := Luhn_l0_tot s hs hd n (v + d * 2) ((v + d * 2) % 10) (!b) (k - 1) (by omega) (by omega) (by omega) (by omega) (by omega) rfl
          exact ⟨y, by simp only [h0, hks, hb', h9, m1, m2, m3, decide_true, decide_false, if_true, Bool.false_eq_true, if_false]; rw [hb'] at e1; exact e1, by simp only [h0, hks, hb', h9, m1, m2, m3, decide_true, decide_false, if_true, Bool.false_eq_true, if_false]; rw [hb'] at e2; exact e2, e3⟩
      · have hbf : b = false := by simpa using hb'
        obtain ⟨m1, m2, m3⟩ := hm d (by omega) (by omega)
        obtain ⟨y, e1, e2, e3⟩ := Luhn_l0_tot s hs hd n (v + d) ((v + d) % 10) (!b) (k - 1) (by omega) (by omega) (by omega) (by omega) (by omega) rfl
        exact ⟨y, by simp only [h0, hks, hbf, m1, m2, m3, decide_true, if_true, Bool.false_eq_true, if_false]; rw [hbf] at e1; exact e1, by simp only [h0, hks, hbf, m1, m2, m3, decide_true, if_true, Bool.false_eq_true, if_false]; rw [hbf] at e2; exact e2, e3⟩
    · exact ⟨v, by simp [h0], by simp [h0, hw], hv, by omega⟩
theorem Luhn_tot (s : ByteArray) (hs : s.size ≤ 4000000) : ∃ y, spec_Luhn s = some y ∧ impl_Luhn s = some y := by
  obtain ⟨b, e1, e2, e3⟩ := Digits_tot s hs
  unfold spec_Luhn impl_Luhn
  rw [e1, e2]
  cases b with
  | false => exact ⟨-1, rfl, rfl⟩
  | true =>
    obtain ⟨hp, hd⟩ := e3 rfl
    have hi : i64 ((s.size : Int) - 1) = (s.size : Int) - 1 := i64_of (by omega) (by omega)
    obtain ⟨y, q1, q2, q3, q4⟩ := Luhn_l0_tot s hs hd FUEL 0 0 true ((s.size : Int) - 1) (by unfold FUEL; omega) (by omega) (by omega) (by omega) (by omega) rfl
    refine ⟨Int.tmod (i64 (10 - y % 10)) 10, ?_, ?_⟩
    · simp only [Option.bind_some, if_true, hi, q2]
    · simp only [Option.bind_some, if_true, hi, q1, tmod10 q3]
theorem LuhnOk_eq (s : ByteArray) (hs : s.size ≤ 4000000) : ∃ y, spec_LuhnOk s = some y ∧ impl_LuhnOk s = some y := by
  obtain ⟨b, e1, e2, e3⟩ := Digits_tot s hs
  unfold spec_LuhnOk impl_LuhnOk
  have hi : i64 ((s.size : Int) - 1) = (s.size : Int) - 1 := i64_of (by omega) (by omega)
  rw [e1, e2, hi]
  by_cases h2 : (s.size : Int) < 2
  · have h1 : ¬ 1 ≤ (s.size : Int) - 1 := by omega
    refine ⟨false, ?_, by simp [h1]⟩
    cases b <;> simp [h2]
  · have h1 : 1 ≤ (s.size : Int) - 1 := by omega
    cases b with
    | false => exact ⟨false, by simp, by simp [h1]⟩
    | true =>
      obtain ⟨hp, hd⟩ := e3 rfl
      obtain ⟨d1, d2⟩ := hd ((s.size : Int) - 1) (by omega) (by omega)
      obtain ⟨y, q1, q2⟩ := Luhn_tot (s.extract 0 ((s.size : Int) - 1).toNat) (by simp; omega)
      have c1 : (0 : Int) ≤ (s.size : Int) - 1 := by omega
      have c2 : (s.size : Int) - 1 ≤ s.size := by omega
      have c3 : (s.size : Int) - 1 < s.size := by omega
      have hu : u8 (sAt s ((s.size : Int) - 1) - 48) = sAt s ((s.size : Int) - 1) - 48 := u8_of (by omega) (by omega)
      have hi2 : i64 (sAt s ((s.size : Int) - 1)) = sAt s ((s.size : Int) - 1) := i64_of (by omega) (by omega)
      refine ⟨y == i64 (sAt s ((s.size : Int) - 1) - 48), ?_, ?_⟩
      · simp only [Option.bind_some, if_true, h2, decide_false, Bool.false_eq_true, if_false, c1, c2, c3, decide_true, q1, hi2]
      · simp only [Option.bind_some, if_true, h1, c1, c2, c3, decide_true, q2, hu]
theorem AcctIdOk_eq (s : ByteArray) : ∃ y, spec_AcctIdOk s = some y ∧ impl_AcctIdOk s = some y ∧ (y = true → s.size ≤ 19) := by
  unfold spec_AcctIdOk impl_AcctIdOk
  by_cases h : (s.size : Int) ≤ 19
  · obtain ⟨y, e1, e2⟩ := LuhnOk_eq s (by omega)
    exact ⟨y, by simp [h, e1], by simp [h, e2], fun _ => by omega⟩
  · exact ⟨false, by simp [h], by simp [h], fun e => by cases e⟩
theorem HoldIdOk_l0_eq : ∀ (s : ByteArray) (n : Nat) (v : Int), impl_HoldIdOk_l0 s n v = spec_HoldIdOk_l0 s n v
  | s, 0, v => rfl
  | s, n + 1, v => by unfold impl_HoldIdOk_l0 spec_HoldIdOk_l0; simp only [HoldIdOk_l0_eq s n]
theorem HoldIdOk_l0_tot (s : ByteArray) (hs : s.size ≤ 4000000) : ∀ (n : Nat) (v : Int), 0 ≤ v → v ≤ s.size → (s.size : Int) - v < n → ∃ y, spec_HoldIdOk_l0 s n v = some y
  | 0, v, h0, hv, hn => by exfalso; omega
  | n + 1, v, h0, hv, hn => by
    unfold spec_HoldIdOk_l0
    by_cases h1 : v < (s.size : Int)
    · have hi : i64 (v + 1) = v + 1 := i64_nn (by omega) (by omega)
      obtain ⟨y, e⟩ := HoldIdOk_l0_tot s hs n (v + 1) (by omega) (by omega) (by omega)
      simp only [h1, h0, decide_true, if_true, hi, e]
      repeat' split
      all_goals exact ⟨_, rfl⟩
    · exact ⟨.out (), by simp [h1]⟩
theorem bytesLess_flip : ∀ a b : List UInt8, Op.bytesLess b a = !(Op.bytesLess a b || a == b)
  | [], [] => rfl
  | [], _ :: _ => rfl
  | _ :: _, [] => rfl
  | a :: x, b :: y => by
    have ih := bytesLess_flip x y
    unfold Op.bytesLess
    rw [ih]
    by_cases h1 : a < b
    · have h2 : ¬ b < a := by have := UInt8.lt_iff_toNat_lt.1 h1; intro h; have := UInt8.lt_iff_toNat_lt.1 h; omega
      have h3 : ¬ b = a := by intro e; subst e; exact h2 h1
      simp [h1, h2, h3]
    · by_cases h2 : b < a
      · have h3 : ¬ a = b := by intro e; subst e; exact h1 h2
        have h4 : ¬ b = a := fun e => h3 e.symm
        simp [h1, h2, h3]
      · have h3 : a = b := by
          apply UInt8.toNat_inj.1
          have := mt UInt8.lt_iff_toNat_lt.2 h1
          have := mt UInt8.lt_iff_toNat_lt.2 h2
          omega
        subst h3
        simp [h1]
theorem less_flip (a b : ByteArray) : Op.bytesLess b.toList a.toList = !(Op.bytesLess a.toList b.toList || (a == b)) := by
  rw [beq_toListBytes]; exact bytesLess_flip _ _
theorem HoldIdOk_tot (s : ByteArray) (hs : s.size ≤ 4000000) : ∃ y, spec_HoldIdOk s = some y ∧ impl_HoldIdOk s = some y ∧ (y = true → s.size ≤ 6) := by
  obtain ⟨y, e⟩ := HoldIdOk_l0_tot s hs FUEL 0 (by omega) (by omega) (by unfold FUEL; omega)
  unfold spec_HoldIdOk impl_HoldIdOk
  rw [HoldIdOk_l0_eq, e]
  cases y with
  | ret u => exact ⟨false, rfl, rfl, fun h => by cases h⟩
  | out u =>
    refine ⟨decide ((1 : Int) ≤ s.size) && decide ((s.size : Int) ≤ 6), ?_, ?_, fun h => ?_⟩
    · simp only [Option.bind_some, Lo.elim, l01In_val]
    · simp only [Option.bind_some, Lo.elim, within_val]
    · simp only [Bool.and_eq_true, decide_eq_true_eq] at h; omega
theorem HoldOk_tot (h : Hold) (hs : h.Id.size ≤ 4000000) : ∃ y, spec_HoldOk h = some y ∧ impl_HoldOk h = some y ∧ (y = true → h.Id.size ≤ 6 ∧ 1 ≤ h.Amount ∧ h.Amount ≤ 9007199254740992 ∧ time h.Due = true) := by
  obtain ⟨y, e1, e2, e3⟩ := HoldIdOk_tot h.Id hs
  unfold spec_HoldOk impl_HoldOk
  rw [e1, e2]
  cases y with
  | false => exact ⟨false, rfl, rfl, fun e => by cases e⟩
  | true =>
    simp only [Option.bind_some, if_true, l01In_val, within_val, l06Time_val, isTime_val]
    by_cases ha : (decide (1 ≤ h.Amount) && decide (h.Amount ≤ 9007199254740992)) = true
    · rw [ha]
      refine ⟨time h.Due, rfl, rfl, fun ht => ⟨e3 rfl, ?_⟩⟩
      simp only [Bool.and_eq_true, decide_eq_true_eq] at ha
      exact ⟨ha.1, ha.2, ht⟩
    · have : (decide (1 ≤ h.Amount) && decide (h.Amount ≤ 9007199254740992)) = false := by simpa using ha
      rw [this]
      exact ⟨false, rfl, rfl, fun e => by cases e⟩
theorem HoldsOk_l0_tot (l : List Hold) (hl : l.length ≤ 274877906944) : ∀ (t p : List Hold), l = p ++ t → (∀ h ∈ t, h.Id.size ≤ 4000000) →
    ∃ y, spec_HoldsOk_l0 l t p = some y ∧ impl_HoldsOk_l0 l t p = some y ∧ ∀ u, y = .out u → ∀ h ∈ t, h.Id.size ≤ 6 ∧ 1 ≤ h.Amount ∧ h.Amount ≤ 9007199254740992 ∧ time h.Due = true
  | [], p, e, hs => ⟨.out (), rfl, rfl, fun _ _ h hh => by simp at hh⟩
  | x :: t, p, e, hs => by
    obtain ⟨y, e1, e2, e3⟩ := HoldOk_tot x (hs x (by simp))
    obtain ⟨z, f1, f2, f3⟩ := HoldsOk_l0_tot l hl t (p ++ [x]) (by rw [e]; simp) (fun h hh => hs h (by simp [hh]))
    unfold spec_HoldsOk_l0 impl_HoldsOk_l0
    rw [e1, e2]
    have f3' : y = true → ∀ u, z = .out u → ∀ h ∈ x :: t, h.Id.size ≤ 6 ∧ 1 ≤ h.Amount ∧ h.Amount ≤ 9007199254740992 ∧ time h.Due = true := fun hy u hz h hh => by
      rcases List.mem_cons.1 hh with rfl | hh
      · exact e3 hy
      · exact f3 u hz h hh
    cases y with
    | false => exact ⟨.ret (), rfl, rfl, fun u e => by cases e⟩
    | true =>
      simp only [Option.bind_some, if_true]
      by_cases hp : (0 : Int) < (p.length : Int)
      · have hpl : p.length ≤ l.length := by rw [e]; simp
        have hi : i64 ((p.length : Int) - 1) = (p.length : Int) - 1 := i64_of (by omega) (by omega)
        have hn : ((p.length : Int) - 1).toNat < l.length := by rw [e]; simp; omega
        have hg : l[((p.length : Int) - 1).toNat]? = some l[((p.length : Int) - 1).toNat] := List.getElem?_eq_getElem hn
        have h1 : (0 : Int) ≤ (p.length : Int) - 1 := by omega
        simp only [hp, hi, h1, decide_true, if_true, hg, Option.bind_some, less_flip x.Id]
        by_cases hb : (Op.bytesLess x.Id.toList l[((p.length : Int) - 1).toNat].Id.toList || x.Id == l[((p.length : Int) - 1).toNat].Id) = true
        · rw [hb]
          exact ⟨.ret (), by simp, by simp, fun u e => by cases e⟩
        · have hb' : (Op.bytesLess x.Id.toList l[((p.length : Int) - 1).toNat].Id.toList || x.Id == l[((p.length : Int) - 1).toNat].Id) = false := by simpa using hb
          rw [hb']
          exact ⟨z, by simpa using f1, by simpa using f2, f3' rfl⟩
      · simp only [hp, decide_false, Bool.false_eq_true, if_false]
        exact ⟨z, f1, f2, f3' rfl⟩
theorem HoldsOk_tot (l : List Hold) (hl : l.length ≤ 274877906944) (hs : ∀ h ∈ l, h.Id.size ≤ 4000000) : ∃ y, spec_HoldsOk l = some y ∧ impl_HoldsOk l = some y ∧ (y = true → l.length ≤ 4 ∧ ∀ h ∈ l, h.Id.size ≤ 6 ∧ 1 ≤ h.Amount ∧ h.Amount ≤ 9007199254740992 ∧ time h.Due = true) := by
  obtain ⟨y, e1, e2, e3⟩ := HoldsOk_l0_tot l hl l [] rfl hs
  unfold spec_HoldsOk impl_HoldsOk
  rw [capOk_of hl, e1, e2]
  cases y with
  | ret u => exact ⟨false, rfl, rfl, fun e => by cases e⟩
  | out u => exact ⟨decide ((l.length : Int) ≤ 4), rfl, rfl, fun h => ⟨by have := of_decide_eq_true h; omega, e3 u rfl⟩⟩
theorem Concat_val (a b : List Int) (ha : a.length ≤ 100000000000) (hb : b.length ≤ 100000000000) : slices_Concat_int [a, b] = some (a ++ b) := by
  have h1 : i64 (0 + (a.length : Int)) = (a.length : Int) := by rw [Int.zero_add]; exact i64_of (by omega) (by omega)
  have h2 : i64 ((a.length : Int) + (b.length : Int)) = (a.length : Int) + (b.length : Int) := i64_of (by omega) (by omega)
  have n1 : ¬ (a.length : Int) < 0 := by omega
  have n2 : ¬ (a.length : Int) + (b.length : Int) < 0 := by omega
  have hg : slices_Grow_int_nil ((a.length : Int) + (b.length : Int)) = some [] := by
    unfold slices_Grow_int_nil
    have h3 : i64 ((a.length : Int) + (b.length : Int) - 0) = (a.length : Int) + (b.length : Int) := by rw [Int.sub_zero]; exact h2
    rw [h3]
    have hc : capOk ((a.length : Int) + (b.length : Int)).toNat = true := capOk_of (by omega)
    rw [hc]
    simp [n2]
  unfold slices_Concat_int
  have c0 : capOk [a, b].length = true := rfl
  have cA : capOk (([] : List Int).length + a.length) = true := capOk_of (by simp; omega)
  have cB : capOk ((([] : List Int) ++ a).length + b.length) = true := capOk_of (by simp; omega)
  simp only [c0, if_true, slices_Concat_int_l0, h1, h2, n1, n2, decide_false, Bool.false_eq_true, if_false, Option.bind_some, hg, slices_Concat_int_l1, cA, cB]
  simp
theorem impl_RingOk_l0_val (r : Ring) (c : List Int) : ∀ t : List Int, impl_RingOk_l0 r c t = some (if t.all money = true then .out () else .ret ())
  | [] => rfl
  | x :: t => by
    unfold impl_RingOk_l0
    rw [isMoney_val, impl_RingOk_l0_val r c t]
    cases h : money x <;> simp [h]
theorem spec_RingOk_l0_val (r : Ring) : ∀ (t p : List Int), r.Counts = p ++ t → r.Sums.length = r.Counts.length → spec_RingOk_l0 r t p = some (if (t.all money && (r.Sums.drop p.length).all money) = true then .out () else .ret ())
  | [], p, e, hl => by
    have : r.Sums.drop p.length = [] := List.drop_eq_nil_of_le (by rw [hl, e]; simp)
    rw [this]; rfl
  | x :: t, p, e, hl => by
    have hlt : p.length < r.Sums.length := by rw [hl, e]; simp
    have hd : r.Sums.drop p.length = r.Sums[p.length] :: r.Sums.drop (p.length + 1) := List.drop_eq_getElem_cons hlt
    have ih := spec_RingOk_l0_val r t (p ++ [x]) (by rw [e]; simp) hl
    unfold spec_RingOk_l0
    rw [l01Money_val]
    have hg : r.Sums[((p.length : Int)).toNat]? = some r.Sums[p.length] := by simp [hlt]
    rw [hg, hd, ih]
    simp only [Option.bind_some, l01Money_val, List.length_append, List.length_cons, List.length_nil, Nat.zero_add, List.all_cons]
    by_cases h : money x = true <;> by_cases h2 : money r.Sums[p.length] = true <;> simp [h, h2]
theorem RingOk_tot (r : Ring) (hc : r.Counts.length ≤ 100000000000) (hs : r.Sums.length ≤ 100000000000) : ∃ y, spec_RingOk r = some y ∧ impl_RingOk r = some y ∧ (y = true → r.Sums.length = r.Counts.length ∧ r.Counts.length ≤ 8 ∧ 1 ≤ r.Counts.length ∧ 1 ≤ r.Span ∧ r.Span ≤ 1000 ∧ time r.Head = true ∧ r.Counts.all money = true ∧ r.Sums.all money = true) := by
  unfold spec_RingOk impl_RingOk
  rw [Concat_val _ _ hc hs]
  have cc : capOk (r.Counts ++ r.Sums).length = true := capOk_of (by simp; omega)
  have cd : capOk r.Counts.length = true := capOk_of (by omega)
  simp only [Option.bind_some, cc, cd, if_true, impl_RingOk_l0_val, l01In_val, within_val, l06Time_val, isTime_val]
  by_cases h1 : (decide (1 ≤ r.Span) && decide (r.Span ≤ 1000)) = true
  · by_cases h2 : (decide ((1 : Int) ≤ r.Counts.length) && decide ((r.Counts.length : Int) ≤ 8)) = true
    · by_cases h3 : r.Sums.length = r.Counts.length
      · have h3' : ((r.Sums.length : Int) == (r.Counts.length : Int)) = true := by rw [h3]; simp
        have h3'' : ((r.Sums.length : Int) != (r.Counts.length : Int)) = false := by rw [h3]; simp
        rw [spec_RingOk_l0_val r r.Counts [] rfl h3]
        simp only [h1, h2, h3', h3'', if_true, Bool.false_eq_true, if_false, List.all_append, List.length_nil, List.drop_zero, Option.bind_some]
        refine ⟨(r.Counts.all money && r.Sums.all money) && time r.Head, ?_, ?_, fun h => ?_⟩
        · cases time r.Head <;> cases (r.Counts.all money && r.Sums.all money) <;> simp [Lo.elim]
        · cases time r.Head <;> cases (r.Counts.all money && r.Sums.all money) <;> simp [Lo.elim]
        · simp only [Bool.and_eq_true, decide_eq_true_eq] at h h1 h2
          exact ⟨h3, by omega, by omega, h1.1, h1.2, h.2, h.1.1, h.1.2⟩
      · have h3' : ((r.Sums.length : Int) == (r.Counts.length : Int)) = false := by
          rw [beq_eq_false_iff_ne]; omega
        have h3'' : ((r.Sums.length : Int) != (r.Counts.length : Int)) = true := by
          rw [bne_iff_ne]; omega
        refine ⟨false, by simp only [h1, h2, h3'', if_true], ?_, fun e => by cases e⟩
        simp only [h1, h2, h3', if_true, Bool.false_eq_true, if_false]
        cases (r.Counts ++ r.Sums).all money <;> rfl
    · have h2' : (decide ((1 : Int) ≤ r.Counts.length) && decide ((r.Counts.length : Int) ≤ 8)) = false := by simpa using h2
      refine ⟨false, by simp only [h1, h2', if_true, Bool.false_eq_true, if_false], ?_, fun e => by cases e⟩
      simp only [h1, h2', if_true, Bool.false_eq_true, if_false]
      cases (r.Counts ++ r.Sums).all money <;> rfl
  · have h1' : (decide (1 ≤ r.Span) && decide (r.Span ≤ 1000)) = false := by simpa using h1
    refine ⟨false, by simp only [h1', Bool.false_eq_true, if_false], ?_, fun e => by cases e⟩
    simp only [h1', Bool.false_eq_true, if_false]
    cases (r.Counts ++ r.Sums).all money <;> rfl
theorem isWide_val (s : ByteArray) (n : Int) (b : Bool) (h : impl_Digits s = some b) : impl_isWide s n = some (b && ((s.size : Int) == n)) := by
  unfold impl_isWide
  rw [h]
  cases b <;> rfl
theorem SlotOk_tot (s : Slot) (h1 : s.Trace.size ≤ 4000000) (h2 : s.Mti.size ≤ 4000000) : ∃ y, spec_SlotOk s = some y ∧ impl_SlotOk s = some y ∧ (y = true → s.Trace.size = 6 ∧ s.Mti.size = 4 ∧ s.Reply.length ≤ 200) := by
  obtain ⟨a, a1, a2, a3⟩ := Digits_tot s.Trace h1
  obtain ⟨b, b1, b2, b3⟩ := Digits_tot s.Mti h2
  unfold spec_SlotOk impl_SlotOk
  rw [a1, isWide_val _ _ _ a2, b1, isWide_val _ _ _ b2]
  cases a with
  | false => exact ⟨false, rfl, rfl, fun e => by cases e⟩
  | true =>
    simp only [Option.bind_some, if_true, Bool.true_and]
    by_cases c1 : ((s.Trace.size : Int) == 6) = true
    · simp only [c1, if_true]
      cases b with
      | false => exact ⟨false, rfl, rfl, fun e => by cases e⟩
      | true =>
        simp only [if_true, Bool.true_and]
        by_cases c2 : ((s.Mti.size : Int) == 4) = true
        · simp only [c2, if_true, l01In_val, within_val, Option.bind_some]
          refine ⟨_, rfl, rfl, fun h => ?_⟩
          simp only [Bool.and_eq_true, decide_eq_true_eq] at h
          have e1 := eq_of_beq c1
          have e2 := eq_of_beq c2
          exact ⟨by omega, by omega, by omega⟩
        · have c2' : ((s.Mti.size : Int) == 4) = false := by simpa using c2
          simp only [c2', Bool.false_eq_true, if_false]
          exact ⟨false, rfl, rfl, fun e => by cases e⟩
    · have c1' : ((s.Trace.size : Int) == 6) = false := by simpa using c1
      simp only [c1', Bool.false_eq_true, if_false]
      exact ⟨false, rfl, rfl, fun e => by cases e⟩
def slotIs (a b : ByteArray) (s : Slot) : Bool := (s.Trace == a) && (s.Mti == b)
theorem slotAt_1_val (s : Slot) (a b : ByteArray) : impl_slotAt_1 s a b = some (slotIs a b s) := by
  unfold impl_slotAt_1 slotIs
  cases (s.Trace == a) <;> rfl
theorem spec_SlotsOk_l1_val (l p : List Slot) (x : Slot) : ∀ t : List Slot, spec_SlotsOk_l1 l p x t = some (if t.any (slotIs x.Trace x.Mti) = true then .ret () else .out ())
  | [] => rfl
  | y :: t => by
    unfold spec_SlotsOk_l1
    rw [spec_SlotsOk_l1_val l p x t]
    simp only [List.any_cons]
    unfold slotIs
    by_cases h : (y.Trace == x.Trace) = true <;> by_cases h2 : (y.Mti == x.Mti) = true <;> simp [h, h2]
theorem slotAt_l0_val (l : List Slot) (a b : ByteArray) : ∀ t p : List Slot, slices_IndexFunc_impl_Slot_impl_slotAt_1_l0 l a b t p = some (match t.findIdx? (slotIs a b) with | some i => .ret ((p.length + i : Nat) : Int) | none => .out ())
  | [], p => rfl
  | y :: t, p => by
    unfold slices_IndexFunc_impl_Slot_impl_slotAt_1_l0
    rw [slotAt_1_val, slotAt_l0_val l a b t (p ++ [y])]
    simp only [Option.bind_some, List.findIdx?_cons]
    by_cases h : slotIs a b y = true
    · simp [h]
    · have h' : slotIs a b y = false := by simpa using h
      rw [h']
      simp only [Bool.false_eq_true, if_false]
      cases t.findIdx? (slotIs a b) with
      | none => rfl
      | some i => simp only [Option.map_some, List.length_append, List.length_cons, List.length_nil]; congr 3; omega
theorem slotAt_val (l : List Slot) (hl : l.length ≤ 274877906944) (a b : ByteArray) : impl_slotAt l a b = some (match l.findIdx? (slotIs a b) with | some i => (i : Int) | none => -1) := by
  unfold impl_slotAt slices_IndexFunc_impl_Slot_impl_slotAt_1
  rw [capOk_of hl, slotAt_l0_val]
  cases l.findIdx? (slotIs a b) with
  | none => rfl
  | some i => simp [Lo.elim]
theorem SlotsOk_l0_tot (l : List Slot) (hl : l.length ≤ 274877906944) : ∀ (t p : List Slot), l = p ++ t → (∀ s ∈ t, s.Trace.size ≤ 4000000 ∧ s.Mti.size ≤ 4000000) →
    ∃ y, spec_SlotsOk_l0 l t p = some y ∧ impl_SlotsOk_l0 l t p = some y ∧ ∀ u, y = .out u → ∀ s ∈ t, s.Trace.size = 6 ∧ s.Mti.size = 4 ∧ s.Reply.length ≤ 200
  | [], p, e, hs => ⟨.out (), rfl, rfl, fun _ _ h hh => by simp at hh⟩
  | x :: t, p, e, hs => by
    obtain ⟨y, e1, e2, e3⟩ := SlotOk_tot x (hs x (by simp)).1 (hs x (by simp)).2
    obtain ⟨z, f1, f2, f3⟩ := SlotsOk_l0_tot l hl t (p ++ [x]) (by rw [e]; simp) (fun h hh => hs h (by simp [hh]))
    unfold spec_SlotsOk_l0 impl_SlotsOk_l0
    rw [e1, e2]
    have f3' : y = true → ∀ u, z = .out u → ∀ s ∈ x :: t, s.Trace.size = 6 ∧ s.Mti.size = 4 ∧ s.Reply.length ≤ 200 := fun hy u hz h hh => by
      rcases List.mem_cons.1 hh with rfl | hh
      · exact e3 hy
      · exact f3 u hz h hh
    cases y with
    | false => exact ⟨.ret (), rfl, rfl, fun u e => by cases e⟩
    | true =>
      have htk : (l.take ((p.length : Int).toNat)).drop 0 = p := by rw [e]; simp
      have hple : (p.length : Int) ≤ (l.length : Int) := by rw [e]; simp; omega
      have h0 : (0 : Int) ≤ (p.length : Int) := by omega
      have hcp : capOk p.length = true := capOk_of (by omega)
      have hx : slotIs x.Trace x.Mti x = true := by unfold slotIs; rw [beqB, beqB]; simp
      simp only [Option.bind_some, if_true, h0, hple, decide_true, htk, hcp, spec_SlotsOk_l1_val, slotAt_val l hl]
      by_cases ha : p.any (slotIs x.Trace x.Mti) = true
      · have : ∃ i, l.findIdx? (slotIs x.Trace x.Mti) = some i ∧ i < p.length := by
          rw [e, List.findIdx?_append]
          cases hi : p.findIdx? (slotIs x.Trace x.Mti) with
          | none =>
            exfalso
            rw [List.findIdx?_eq_none_iff] at hi
            obtain ⟨s, hs1, hs2⟩ := List.any_eq_true.1 ha
            have := hi s hs1
            rw [hs2] at this
            cases this
          | some i => exact ⟨i, rfl, (List.findIdx?_eq_some_iff_getElem.1 hi).1⟩
        obtain ⟨i, hi, hlt⟩ := this
        rw [hi]
        have hne : ((i : Int) != (p.length : Int)) = true := by rw [bne_iff_ne]; omega
        simp only [ha, if_true, Lo.elim, hne]
        exact ⟨.ret (), rfl, rfl, fun u e => by cases e⟩
      · have ha' : p.any (slotIs x.Trace x.Mti) = false := by simpa using ha
        have hi : l.findIdx? (slotIs x.Trace x.Mti) = some p.length := by
          rw [e, List.findIdx?_append]
          have : p.findIdx? (slotIs x.Trace x.Mti) = none := by
            rw [List.findIdx?_eq_none_iff]
            intro s hs1
            have := List.any_eq_false.1 ha' s hs1
            simpa using this
          rw [this, List.findIdx?_cons, hx]
          simp
        rw [hi]
        have hne : ((p.length : Int) != (p.length : Int)) = false := by simp
        simp only [ha', hne, Bool.false_eq_true, if_false, Lo.elim]
        exact ⟨z, f1, f2, f3' rfl⟩
theorem SlotsOk_tot (l : List Slot) (hl : l.length ≤ 274877906944) (hs : ∀ s ∈ l, s.Trace.size ≤ 4000000 ∧ s.Mti.size ≤ 4000000) : ∃ y, spec_SlotsOk l = some y ∧ impl_SlotsOk l = some y ∧ (y = true → l.length ≤ 6 ∧ ∀ s ∈ l, s.Trace.size = 6 ∧ s.Mti.size = 4 ∧ s.Reply.length ≤ 200) := by
  obtain ⟨y, e1, e2, e3⟩ := SlotsOk_l0_tot l hl l [] rfl hs
  unfold spec_SlotsOk impl_SlotsOk
  rw [capOk_of hl, e1, e2]
  cases y with
  | ret u => exact ⟨false, rfl, rfl, fun e => by cases e⟩
  | out u => exact ⟨decide ((l.length : Int) ≤ 6), rfl, rfl, fun h => ⟨by have := of_decide_eq_true h; omega, e3 u rfl⟩⟩
def cl (x : Int) : Int := if x < 0 then 0 else if 4611686018427387904 < x then 4611686018427387904 else x
theorem cl_rng (x : Int) : 0 ≤ cl x ∧ cl x ≤ 4611686018427387904 := by unfold cl; split; omega; split <;> omega
theorem clamp_val (x : Int) : spec_l01Clamp x 0 4611686018427387904 = some (cl x) := by
  unfold spec_l01Clamp cl
  by_cases h : x < 0 <;> by_cases h2 : 4611686018427387904 < x <;> simp [h, h2]
theorem imax_cl (x : Int) : imax 0 (imin x 4611686018427387904) = cl x := by
  unfold imax imin cl
  by_cases h : x < 0 <;> by_cases h2 : 4611686018427387904 < x <;> simp [h, h2] <;> omega
def satAdd (a b : Int) : Int := if cl a + cl b ≤ 4611686018427387904 then cl a + cl b else 4611686018427387904
theorem AddSat_val (a b : Int) : spec_AddSat a b = some (satAdd a b) ∧ impl_AddSat a b = some (satAdd a b) := by
  obtain ⟨a1, a2⟩ := cl_rng a
  obtain ⟨b1, b2⟩ := cl_rng b
  have hi : i64 (4611686018427387904 - cl b) = 4611686018427387904 - cl b := i64_of (by omega) (by omega)
  have ma : money (cl a) = true := by simp [money, a1, a2]
  have mb : money (cl b) = true := by simp [money, b1, b2]
  unfold spec_AddSat impl_AddSat spec_AddMoney satAdd
  simp only [clamp_val, imax_cl, Option.bind_some, l01Money_val, ma, mb, if_true, hi]
  by_cases h : 4611686018427387904 - cl b < cl a
  · have h2 : ¬ cl a + cl b ≤ 4611686018427387904 := by omega
    simp [h, h2]
  · have h2 : cl a + cl b ≤ 4611686018427387904 := by omega
    have hj : i64 (cl a + cl b) = cl a + cl b := i64_of (by omega) (by omega)
    simp [h, h2, hj]
theorem Stored_l0_val (l : List Hold) : ∀ (t : List Hold) (v : Int), ∃ y, spec_Stored_l0 l t v = some y ∧ impl_Stored_l0 l t v = some y
  | [], v => ⟨v, rfl, rfl⟩
  | x :: t, v => by
    obtain ⟨y, e1, e2⟩ := Stored_l0_val l t (satAdd v x.Amount)
    unfold spec_Stored_l0 impl_Stored_l0
    rw [(AddSat_val _ _).1, (AddSat_val _ _).2]
    exact ⟨y, e1, e2⟩
theorem Stored_tot (l : List Hold) (hl : l.length ≤ 274877906944) : ∃ y, spec_Stored l = some y ∧ impl_Stored l = some y := by
  obtain ⟨y, e1, e2⟩ := Stored_l0_val l l 0
  unfold spec_Stored impl_Stored
  rw [capOk_of hl, e1, e2]
  exact ⟨y, rfl, rfl⟩
/-- Of a size that a law lets through. -/
def szHold (h : Hold) : Prop := h.Id.size ≤ 4000000
def szRing (r : Ring) : Prop := r.Counts.length ≤ 4000000 ∧ r.Sums.length ≤ 4000000
def szSlot (s : Slot) : Prop := s.Trace.size ≤ 4000000 ∧ s.Mti.size ≤ 4000000 ∧ s.Reply.length ≤ 4000000
def szAcct (a : Acct) : Prop := a.Id.size ≤ 4000000 ∧ (a.Holds.length ≤ 4000000 ∧ ∀ h ∈ a.Holds, szHold h) ∧ szRing a.Ring ∧ (a.Slots.length ≤ 4000000 ∧ ∀ s ∈ a.Slots, szSlot s)
theorem AcctOk_tot (a : Acct) (h : szAcct a) : ∃ y, spec_AcctOk a = some y ∧ impl_AcctOk a = some y ∧ (y = true → a.Holds.length ≤ 4 ∧ a.Slots.length ≤ 6) := by
  obtain ⟨h1, ⟨h2, h3⟩, ⟨h4, h5⟩, h6, h7⟩ := h
  obtain ⟨b1, p1, q1, r1⟩ := AcctIdOk_eq a.Id
  obtain ⟨b2, p2, q2, r2⟩ := HoldsOk_tot a.Holds (by omega) (fun x hx => by have := h3 x hx; unfold szHold at this; omega)
  obtain ⟨b3, p3, q3, r3⟩ := RingOk_tot a.Ring (by omega) (by omega)
  obtain ⟨b4, p4, q4, r4⟩ := SlotsOk_tot a.Slots (by omega) (fun x hx => by have := h7 x hx; unfold szSlot at this; omega)
  obtain ⟨s, p5, q5⟩ := Stored_tot a.Holds (by omega)
  obtain ⟨p6, q6⟩ := AddSat_val a.Posted s
  unfold spec_AcctOk impl_AcctOk
  simp only [p1, q1, p2, q2, p3, q3, p4, q4, p5, q5, p6, q6, l01In_val, within_val, l01Money_val, isMoney_val, Option.bind_some]
  cases b1 <;> simp only [Bool.false_eq_true, if_false, if_true]
  · exact ⟨_, rfl, rfl, fun e => by cases e⟩
  repeat' split
  all_goals first
    | exact ⟨_, rfl, rfl, fun e => by cases e⟩
    | (rename_i g1 g2 g3 g4; exact ⟨_, rfl, rfl, fun _ => ⟨(r2 (by assumption)).1, (r4 (by assumption)).1⟩⟩)
theorem szAcct_of (a : Acct) (h : wtAcct a ≤ 4000000) : szAcct a := by
  rw [wtAcct_eq, wtRing_eq] at h
  have h1 := wtL_len wtHold a.Holds
  have h2 := wtL_len wtSlot a.Slots
  refine ⟨by omega, ⟨by omega, fun x hx => ?_⟩, ⟨by omega, by omega⟩, by omega, fun x hx => ?_⟩
  · have := wtL_mem wtHold a.Holds x hx
    rw [wtHold_eq] at this
    unfold szHold; omega
  · have := wtL_mem wtSlot a.Slots x hx
    rw [wtSlot_eq] at this
    refine ⟨by omega, by omega, by omega⟩
theorem holds_len (a : Acct) (h : wtAcct a ≤ 4000000) : a.Holds.length ≤ 4000000 := by
  rw [wtAcct_eq] at h
  have := wtL_len wtHold a.Holds
  omega
def holdIdOk (s : ByteArray) : Bool := (spec_HoldIdOk s).getD false
theorem HoldIdOk_val (s : ByteArray) (h : s.size ≤ 4000000) : spec_HoldIdOk s = some (holdIdOk s) ∧ impl_HoldIdOk s = some (holdIdOk s) := by
  obtain ⟨y, e1, e2, _⟩ := HoldIdOk_tot s h
  unfold holdIdOk
  rw [e1, e2]
  exact ⟨rfl, rfl⟩
theorem bstr_fold : ∀ (ns : List Int) (r : ByteArray), (ns.foldl (fun r n => r.push (UInt8.ofNat n.toNat)) r).data.toList = r.data.toList ++ ns.map (fun n => UInt8.ofNat n.toNat)
  | [], r => by simp
  | n :: ns, r => by
    rw [List.foldl_cons, bstr_fold ns]
    simp [ByteArray.push]
theorem bstr_list (ns : List Int) : (bstr ns).data.toList = ns.map (fun n => UInt8.ofNat n.toNat) := by
  unfold bstr
  rw [bstr_fold]; rfl
theorem byte_inj {a b : Int} (ha : 0 ≤ a ∧ a ≤ 255) (hb : 0 ≤ b ∧ b ≤ 255) (h : UInt8.ofNat a.toNat = UInt8.ofNat b.toNat) : a = b := by
  have := congrArg UInt8.toNat h
  simp at this
  omega
theorem bstr_eq {a b : List Int} (ha : byB a) (hb : byB b) (h : bstr a = bstr b) : a = b := by
  have h2 : a.map (fun n => UInt8.ofNat n.toNat) = b.map (fun n => UInt8.ofNat n.toNat) := by rw [← bstr_list, ← bstr_list, h]
  clear h
  induction a generalizing b with
  | nil => cases b with
    | nil => rfl
    | cons y u => simp at h2
  | cons x t ih => cases b with
    | nil => simp at h2
    | cons y u =>
      simp only [List.map_cons, List.cons.injEq] at h2
      rw [byte_inj (ha x (by simp)) (hb y (by simp)) h2.1, ih (fun z hz => ha z (by simp [hz])) (fun z hz => hb z (by simp [hz])) h2.2]
theorem listEq_int (a b : List Int) : listEq (fun x y : Int => x == y) a b = decide (a = b) := by
  unfold listEq
  by_cases h : a.length = b.length
  · have h2 : ((a.length : Int) != (b.length : Int)) = false := by rw [h]; simp
    rw [h2]
    have := all2_iff (fun x y : Int => x == y) (fun x y => beq_iff_eq) a b h
    cases hq : all2 (fun x y : Int => x == y) a b with
    | true => simp [this.1 hq]
    | false => simp only [Bool.not_false, Bool.true_and]; symm; rw [decide_eq_false_iff_not]; intro e; rw [this.2 e] at hq; cases hq
  · have h2 : ((a.length : Int) != (b.length : Int)) = true := by rw [bne_iff_ne]; omega
    rw [h2]
    simp only [Bool.not_true, Bool.false_and]
    symm; rw [decide_eq_false_iff_not]; intro e; exact h (by rw [e])
theorem bstr_beq {a b : List Int} (ha : byB a) (hb : byB b) : (bstr a == bstr b) = decide (a = b) := by
  rw [beqB]
  by_cases h : a = b
  · rw [h]; simp
  · have : ¬ bstr a = bstr b := fun e => h (bstr_eq ha hb e)
    simp [h, this]
theorem Equal_int_val (a b : List Int) (h : a.length ≤ 4000000) : slices_Equal_int a b = some (decide (a = b)) := by
  unfold slices_Equal_int
  rw [pair_main (L := slices_Equal_int_l0 a b) a b (fun _ => True) (fun x y => x == y) (fun _ => rfl) (fun x t p y hy _ _ => by
    show ((b[((p.length : Int)).toNat]?).bind _) = _
    rw [Int.toNat_natCast, hy]
    by_cases hq : x = y <;> simp [hq]) (fun _ _ => trivial) (fun _ _ => trivial) (by omega), listEq_int]
theorem Equal_byte_val (a b : List Int) (h : a.length ≤ 4000000) : slices_Equal_byte a b = some (decide (a = b)) := by
  unfold slices_Equal_byte
  rw [pair_main (L := slices_Equal_byte_l0 a b) a b (fun _ => True) (fun x y => x == y) (fun _ => rfl) (fun x t p y hy _ _ => by
    show ((b[((p.length : Int)).toNat]?).bind _) = _
    rw [Int.toNat_natCast, hy]
    by_cases hq : x = y <;> simp [hq]) (fun _ _ => trivial) (fun _ _ => trivial) (by omega), listEq_int]
def holdEq (x y : Hold) : Bool := (x.Id == y.Id) && ((x.Amount == y.Amount) && ((x.Due == y.Due) && true))
def slotEq (x y : Slot) : Bool := (x.Trace == y.Trace) && ((x.Mti == y.Mti) && decide (x.Reply = y.Reply))
def ringEq (x y : Ring) : Bool := (x.Span == y.Span) && ((x.Head == y.Head) && (decide (x.Counts = y.Counts) && decide (x.Sums = y.Sums)))
def okSlot (s : Slot) : Prop := s.Reply.length ≤ 4000000 ∧ byB s.Reply
theorem spec_SlotsSame_val (a b : List Slot) (ha : ∀ s ∈ a, okSlot s) (hb : ∀ s ∈ b, okSlot s) (h : a.length ≤ 4000000) : spec_SlotsSame a b = some (listEq slotEq a b) := by
  unfold spec_SlotsSame
  exact pair_main (L := spec_SlotsSame_l0 a b) a b okSlot slotEq (fun _ => rfl) (fun x t p y hy hx hz => by
    show ((b[((p.length : Int)).toNat]?).bind _) = _
    rw [Int.toNat_natCast, hy]
    simp only [Option.bind_some, bstr_beq hx.2 hz.2, slotEq]
    rcases tf (x.Trace == y.Trace) with h1 | h1 <;> rcases tf (x.Mti == y.Mti) with h2 | h2 <;> rcases tf (decide (x.Reply = y.Reply)) with h3 | h3 <;> simp [h1, h2, h3]) ha hb (by omega)
theorem impl_SlotsSame_val (a b : List Slot) (ha : ∀ s ∈ a, okSlot s) (hb : ∀ s ∈ b, okSlot s) (h : a.length ≤ 4000000) : impl_SlotsSame a b = some (listEq slotEq a b) := by
  unfold impl_SlotsSame slices_EqualFunc_impl_Slot_impl_SlotsSame_1
  rw [pair_main (L := slices_EqualFunc_impl_Slot_impl_SlotsSame_1_l0 a b) a b okSlot slotEq (fun _ => rfl) (fun x t p y hy hx hz => by
    show ((b[((p.length : Int)).toNat]?).bind _) = _
    rw [Int.toNat_natCast, hy]
    simp only [Option.bind_some, impl_SlotsSame_1, Equal_byte_val _ _ hx.1, slotEq]
    rcases tf (x.Trace == y.Trace) with h1 | h1 <;> rcases tf (x.Mti == y.Mti) with h2 | h2 <;> rcases tf (decide (x.Reply = y.Reply)) with h3 | h3 <;> simp [h1, h2, h3]) ha hb (by omega)]
  rfl
theorem Equal_Hold_val (a b : List Hold) (h : a.length ≤ 4000000) : slices_Equal_impl_Hold a b = some (listEq holdEq a b) := by
  unfold slices_Equal_impl_Hold
  exact pair_main (L := slices_Equal_impl_Hold_l0 a b) a b (fun _ => True) holdEq (fun _ => rfl) (fun x t p y hy _ _ => by
    show ((b[((p.length : Int)).toNat]?).bind _) = _
    rw [Int.toNat_natCast, hy]; rfl) (fun _ _ => trivial) (fun _ _ => trivial) (by omega)
theorem impl_ringSame_val (a b : Ring) (h : wtRing a ≤ 4000000) : impl_ringSame a b = some (ringEq a b) := by
  rw [wtRing_eq] at h
  unfold impl_ringSame ringEq
  rw [Equal_int_val _ _ (by omega), Equal_int_val _ _ (by omega)]
  cases (a.Span == b.Span) <;> cases (a.Head == b.Head) <;> cases decide (a.Counts = b.Counts) <;> cases decide (a.Sums = b.Sums) <;> rfl
theorem ints_loop {L : List Int → List Int → Option (Lo Unit Unit)} (b : List Int) (h0 : ∀ p, L [] p = some (.out ()))
    (h1 : ∀ x t p, L (x :: t) p = (b[((p.length : Int)).toNat]?).bind fun y => if (x != y) = true then some (.ret ()) else L t (p ++ [x])) (a : List Int) (h : a.length = b.length) : L a [] = some (if decide (a = b) = true then .out () else .ret ()) := by
  rw [pair_loop b (fun _ => True) (fun _ => True) (fun x y => x == y) h0 (fun x t p y hy _ _ => by
    rw [h1, Int.toNat_natCast, hy]
    by_cases hq : x = y <;> simp [hq]) (fun _ _ => trivial) a [] (fun _ _ => trivial) (by simp; omega), List.length_nil, List.drop_zero]
  have h2 := listEq_int a b
  unfold listEq at h2
  have h3 : ((a.length : Int) != (b.length : Int)) = false := by rw [h]; simp
  rw [h3] at h2
  simp only [Bool.not_false, Bool.true_and] at h2
  rw [h2]
theorem spec_l06Same_val (a b : Ring) (h : wtRing a ≤ 4000000) : spec_l06Same a b = some (ringEq a b) := by
  rw [wtRing_eq] at h
  unfold spec_l06Same ringEq
  rw [capOk_of (show a.Counts.length ≤ 274877906944 by omega), capOk_of (show a.Sums.length ≤ 274877906944 by omega)]
  have b1 : (a.Span != b.Span) = !(a.Span == b.Span) := rfl
  have b2 : (a.Head != b.Head) = !(a.Head == b.Head) := rfl
  rw [b1, b2]
  cases (a.Span == b.Span) with
  | false => rfl
  | true =>
    cases (a.Head == b.Head) with
    | false => rfl
    | true =>
      simp only [Bool.not_true, Bool.false_eq_true, if_false, if_true, Bool.true_and]
      by_cases h1 : a.Counts.length = b.Counts.length
      · have e1 : ((a.Counts.length : Int) != (b.Counts.length : Int)) = false := by rw [h1]; simp
        rw [e1, ints_loop (L := spec_l06Same_l0 a b) b.Counts (fun _ => rfl) (fun _ _ _ => rfl) a.Counts h1]
        by_cases h2 : a.Sums.length = b.Sums.length
        · have e2 : ((a.Sums.length : Int) != (b.Sums.length : Int)) = false := by rw [h2]; simp
          rw [e2, ints_loop (L := spec_l06Same_l1 a b) b.Sums (fun _ => rfl) (fun _ _ _ => rfl) a.Sums h2]
          cases decide (a.Counts = b.Counts) <;> cases decide (a.Sums = b.Sums) <;> rfl
        · have e2 : ((a.Sums.length : Int) != (b.Sums.length : Int)) = true := by rw [bne_iff_ne]; omega
          have e3 : decide (a.Sums = b.Sums) = false := by rw [decide_eq_false_iff_not]; intro e; exact h2 (by rw [e])
          rw [e2, e3]; simp
      · have e1 : ((a.Counts.length : Int) != (b.Counts.length : Int)) = true := by rw [bne_iff_ne]; omega
        have e3 : decide (a.Counts = b.Counts) = false := by rw [decide_eq_false_iff_not]; intro e; exact h1 (by rw [e])
        rw [e1, e3]; simp
def okA (a : Acct) : Prop := wtAcct a ≤ 4000000 ∧ ∀ s ∈ a.Slots, byB s.Reply
theorem okA_slots {a : Acct} (h : okA a) : a.Slots.length ≤ 4000000 ∧ ∀ s ∈ a.Slots, okSlot s := by
  obtain ⟨h1, h2⟩ := h
  rw [wtAcct_eq] at h1
  have := wtL_len wtSlot a.Slots
  refine ⟨by omega, fun s hs => ⟨?_, h2 s hs⟩⟩
  have h3 := wtL_mem wtSlot a.Slots s hs
  rw [wtSlot_eq] at h3
  omega
def acctEq (a b : Acct) : Bool := (a.Id == b.Id) && ((a.Limit == b.Limit) && ((a.Posted == b.Posted) && ((a.Most == b.Most) && ((a.MostSum == b.MostSum) && (listEq holdEq a.Holds b.Holds && (ringEq a.Ring b.Ring && listEq slotEq a.Slots b.Slots))))))
theorem impl_AcctSame_val (a b : Acct) (ha : okA a) (hb : okA b) : impl_AcctSame a b = some (acctEq a b) := by
  have h1 := ha.1
  rw [wtAcct_eq] at h1
  unfold impl_AcctSame acctEq
  rw [Equal_Hold_val _ _ (holds_len a ha.1), impl_ringSame_val _ _ (by omega), impl_SlotsSame_val _ _ (okA_slots ha).2 (okA_slots hb).2 (okA_slots ha).1]
  cases (a.Id == b.Id) <;> cases (a.Limit == b.Limit) <;> cases (a.Posted == b.Posted) <;> cases (a.Most == b.Most) <;> cases (a.MostSum == b.MostSum) <;> cases listEq holdEq a.Holds b.Holds <;> cases ringEq a.Ring b.Ring <;> rfl
theorem spec_AcctSame_val (a b : Acct) (ha : okA a) (hb : okA b) : spec_AcctSame a b = some (acctEq a b) := by
  have h1 := ha.1
  rw [wtAcct_eq] at h1
  have hl := holds_len a ha.1
  unfold spec_AcctSame acctEq
  rw [spec_l06Same_val _ _ (by omega), spec_SlotsSame_val _ _ (okA_slots ha).2 (okA_slots hb).2 (okA_slots ha).1]
  have b1 : (a.Limit != b.Limit) = !(a.Limit == b.Limit) := rfl
  have b2 : (a.Posted != b.Posted) = !(a.Posted == b.Posted) := rfl
  have b3 : (a.Most != b.Most) = !(a.Most == b.Most) := rfl
  have b4 : (a.MostSum != b.MostSum) = !(a.MostSum == b.MostSum) := rfl
  rw [b1, b2, b3, b4]
  have hp := pair_main (L := spec_AcctSame_l0 a b) a.Holds b.Holds (fun _ => True) holdEq (fun _ => rfl) (fun x t p y hy _ _ => by
    show ((b.Holds[((p.length : Int)).toNat]?).bind _) = _
    rw [Int.toNat_natCast, hy]; rfl) (fun _ _ => trivial) (fun _ _ => trivial) (by omega)
  rw [capOk_of (show a.Holds.length ≤ 274877906944 by omega)] at hp ⊢
  simp only [if_true] at hp ⊢
  cases (a.Id == b.Id) with
  | false => rfl
  | true =>
    cases (a.Limit == b.Limit) with
    | false => rfl
    | true => cases (a.Posted == b.Posted) with
      | false => rfl
      | true => cases (a.Most == b.Most) with
        | false => rfl
        | true => cases (a.MostSum == b.MostSum) with
          | false => rfl
          | true =>
            simp only [Bool.not_true, Bool.false_eq_true, if_false, if_true, Bool.true_and]
            by_cases hq : ((a.Holds.length : Int) != (b.Holds.length : Int)) = true
            · have : listEq holdEq a.Holds b.Holds = false := by unfold listEq; rw [hq]; rfl
              rw [hq, this]; rfl
            · have hq' : ((a.Holds.length : Int) != (b.Holds.length : Int)) = false := by simpa using hq
              rw [hq'] at hp ⊢
              simp only [Bool.false_eq_true, if_false] at hp ⊢
              cases hz : spec_AcctSame_l0 a b a.Holds [] with
              | none => rw [hz] at hp; cases hp
              | some z =>
                rw [hz] at hp
                simp only [Option.bind_some] at hp ⊢
                cases z with
                | out u =>
                  have : listEq holdEq a.Holds b.Holds = true := (Option.some.inj hp).symm
                  rw [this]
                  simp only [Lo.elim, Option.bind_some, Bool.true_and]
                  cases ringEq a.Ring b.Ring <;> rfl
                | ret u =>
                  have : listEq holdEq a.Holds b.Holds = false := (Option.some.inj hp).symm
                  rw [this]; rfl
theorem bytesLess_trans : ∀ a b c : List UInt8, Op.bytesLess a b = true → Op.bytesLess b c = true → Op.bytesLess a c = true
  | [], b, [], h1, h2 => by cases b <;> simp [Op.bytesLess] at h1 h2
  | [], b, z :: w, h1, h2 => rfl
  | x :: t, [], c, h1, h2 => by simp [Op.bytesLess] at h1
  | x :: t, y :: u, [], h1, h2 => by simp [Op.bytesLess] at h2
  | x :: t, y :: u, z :: w, h1, h2 => by
    have ih := bytesLess_trans t u w
    simp only [Op.bytesLess, Bool.or_eq_true, decide_eq_true_eq, Bool.and_eq_true, beq_iff_eq] at h1 h2 ⊢
    rcases h1 with h1 | ⟨rfl, h1⟩ <;> rcases h2 with h2 | ⟨rfl, h2⟩
    · left
      have h1 := UInt8.lt_iff_toNat_lt.1 h1
      have h2 := UInt8.lt_iff_toNat_lt.1 h2
      exact UInt8.lt_iff_toNat_lt.2 (by omega)
    · exact .inl h1
    · exact .inl h2
    · exact .inr ⟨rfl, ih h1 h2⟩
/-- Names in order. -/
def lessId (a b : ByteArray) : Prop := Op.bytesLess a.toList b.toList = true
theorem lessId_trans {a b c : ByteArray} (h : lessId a b) (h2 : lessId b c) : lessId a c := bytesLess_trans _ _ _ h h2
def holdP (h : Hold) : Prop := holdIdOk h.Id = true ∧ 1 ≤ h.Amount ∧ h.Amount ≤ 9007199254740992 ∧ time h.Due = true
def holdsP (l : List Hold) : Prop := l.length ≤ 4 ∧ (∀ h ∈ l, holdP h) ∧ l.Pairwise (fun x y => lessId x.Id y.Id)
theorem HoldOk_iff (h : Hold) (hs : h.Id.size ≤ 4000000) : ∃ b, spec_HoldOk h = some b ∧ impl_HoldOk h = some b ∧ (b = true ↔ holdP h) := by
  obtain ⟨e1, e2⟩ := HoldIdOk_val h.Id hs
  unfold spec_HoldOk impl_HoldOk holdP
  rw [e1, e2]
  simp only [Option.bind_some, l01In_val, within_val, l06Time_val, isTime_val]
  rcases tf (holdIdOk h.Id) with h1 | h1 <;> rcases tf (decide (1 ≤ h.Amount) && decide (h.Amount ≤ 9007199254740992)) with h2 | h2 <;> rw [h1] <;> simp only [h2, if_true, if_false, Bool.false_eq_true]
  · refine ⟨_, rfl, rfl, ?_⟩
    simp only [Bool.and_eq_true, decide_eq_true_eq] at h2
    simp [h2.1, h2.2]
  · refine ⟨_, rfl, rfl, ?_⟩
    simp only [Bool.and_eq_false_iff, decide_eq_false_iff_not] at h2
    simp only [Bool.false_eq_true, true_and, false_iff]
    omega
  · exact ⟨_, rfl, rfl, by simp⟩
  · exact ⟨_, rfl, rfl, by simp⟩
theorem HoldsOk_l0_iff (l : List Hold) (hl : l.length ≤ 4000000) : ∀ (t p : List Hold), l = p ++ t → (∀ h ∈ t, h.Id.size ≤ 4000000) → p.Pairwise (fun x y => lessId x.Id y.Id) →
    ∃ b : Bool, spec_HoldsOk_l0 l t p = some (if b = true then .out () else .ret ()) ∧ impl_HoldsOk_l0 l t p = some (if b = true then .out () else .ret ()) ∧ (b = true ↔ (∀ h ∈ t, holdP h) ∧ l.Pairwise (fun x y => lessId x.Id y.Id))
  | [], p, e, hs, hp => ⟨true, rfl, rfl, by simp [e, hp]⟩
  | x :: t, p, e, hs, hp => by
    obtain ⟨b, e1, e2, e3⟩ := HoldOk_iff x (hs x (by simp))
    unfold spec_HoldsOk_l0 impl_HoldsOk_l0
    rw [e1, e2]
    cases b with
    | false => exact ⟨false, rfl, rfl, by simp only [Bool.false_eq_true, false_iff]; intro h; have := e3.2 (h.1 x (by simp)); cases this⟩
    | true =>
      have hx := e3.1 rfl
      simp only [Option.bind_some, if_true]
      by_cases hpl : (0 : Int) < (p.length : Int)
      · have hpl2 : p.length ≤ l.length := by rw [e]; simp
        have hi : i64 ((p.length : Int) - 1) = (p.length : Int) - 1 := i64_of (by omega) (by omega)
        have hpn : p ≠ [] := by intro h; subst h; simp at hpl
        have hg : l[((p.length : Int) - 1).toNat]? = some (p.getLast hpn) := by
          have : ((p.length : Int) - 1).toNat = p.length - 1 := by omega
          rw [this, e, List.getElem?_append_left (by omega), List.getLast_eq_getElem, List.getElem?_eq_getElem]
        have h1 : (0 : Int) ≤ (p.length : Int) - 1 := by omega
        simp only [hpl, hi, h1, decide_true, if_true, hg, Option.bind_some, less_flip x.Id]
        have hfl := less_flip x.Id (p.getLast hpn).Id
        rcases tf (Op.bytesLess x.Id.toList (p.getLast hpn).Id.toList || x.Id == (p.getLast hpn).Id) with hb | hb
        · rw [hb] at hfl
          refine ⟨false, by simp [hb], by simp [hb], ?_⟩
          simp only [Bool.false_eq_true, false_iff]
          intro hh
          rw [e, List.pairwise_append] at hh
          have := hh.2.2.2 _ (List.getLast_mem hpn) x (by simp)
          unfold lessId at this
          rw [hfl] at this; cases this
        · rw [hb] at hfl
          have hless : lessId (p.getLast hpn).Id x.Id := hfl
          have hp2 : (p ++ [x]).Pairwise (fun x y => lessId x.Id y.Id) := by
            rw [List.pairwise_append]
            refine ⟨hp, by simp, fun a ha c hc => ?_⟩
            simp only [List.mem_singleton] at hc
            subst hc
            by_cases hal : a = p.getLast hpn
            · subst hal; exact hless
            · have : p = p.dropLast ++ [p.getLast hpn] := (List.dropLast_concat_getLast hpn).symm
              rw [this, List.pairwise_append] at hp
              rw [this, List.mem_append] at ha
              rcases ha with ha | ha
              · exact lessId_trans (hp.2.2 a ha _ (by simp)) hless
              · simp only [List.mem_singleton] at ha; exact absurd ha hal
          obtain ⟨b, f1, f2, f3⟩ := HoldsOk_l0_iff l hl t (p ++ [x]) (by rw [e]; simp) (fun h hh => hs h (by simp [hh])) hp2
          refine ⟨b, by simpa [hb] using f1, by simpa [hb] using f2, ?_⟩
          rw [f3]
          simp [hx]
      · have hp0 : p = [] := by
          cases p with
          | nil => rfl
          | cons a q => exfalso; simp at hpl
        subst hp0
        obtain ⟨b, f1, f2, f3⟩ := HoldsOk_l0_iff l hl t ([] ++ [x]) (by rw [e]; simp) (fun h hh => hs h (by simp [hh])) (by simp)
        refine ⟨b, by simpa using f1, by simpa using f2, ?_⟩
        rw [f3]
        simp [hx]
theorem HoldsOk_iff (l : List Hold) (hl : l.length ≤ 4000000) (hs : ∀ h ∈ l, h.Id.size ≤ 4000000) : ∃ b, spec_HoldsOk l = some b ∧ impl_HoldsOk l = some b ∧ (b = true ↔ holdsP l) := by
  obtain ⟨b, e1, e2, e3⟩ := HoldsOk_l0_iff l hl l [] rfl hs (by simp)
  unfold spec_HoldsOk impl_HoldsOk holdsP
  rw [capOk_of (by omega), e1, e2]
  cases b with
  | false => exact ⟨false, rfl, rfl, by simp only [Bool.false_eq_true, false_iff]; intro h; have := e3.2 ⟨h.2.1, h.2.2⟩; cases this⟩
  | true =>
    refine ⟨decide ((l.length : Int) ≤ 4), rfl, rfl, ?_⟩
    have := e3.1 rfl
    simp only [decide_eq_true_eq]
    constructor
    · intro h; exact ⟨by omega, this⟩
    · intro h; have := h.1; omega
def ringP (r : Ring) : Prop := r.Sums.length = r.Counts.length ∧ r.Counts.length ≤ 8 ∧ 1 ≤ r.Counts.length ∧ 1 ≤ r.Span ∧ r.Span ≤ 1000 ∧ time r.Head = true ∧ r.Counts.all money = true ∧ r.Sums.all money = true
theorem RingOk_of (r : Ring) (h : ringP r) : spec_RingOk r = some true := by
  obtain ⟨h1, h2, h3, h4, h5, h6, h7, h8⟩ := h
  have e1 : (decide (1 ≤ r.Span) && decide (r.Span ≤ 1000)) = true := by simp [h4, h5]
  have e2 : (decide ((1 : Int) ≤ (r.Counts.length : Int)) && decide ((r.Counts.length : Int) ≤ 8)) = true := by simp; omega
  have e3 : ((r.Sums.length : Int) != (r.Counts.length : Int)) = false := by rw [h1]; simp
  unfold spec_RingOk
  rw [spec_RingOk_l0_val r r.Counts [] rfl h1]
  simp only [l01In_val, l06Time_val, e1, e2, e3, h6, Option.bind_some, if_true, Bool.false_eq_true, if_false, capOk_of (show r.Counts.length ≤ 274877906944 by omega), List.length_nil, List.drop_zero, h7, h8, Bool.and_self]
  rfl
theorem RingOk_iff (r : Ring) (hc : r.Counts.length ≤ 4000000) (hs : r.Sums.length ≤ 4000000) : ∃ b, spec_RingOk r = some b ∧ impl_RingOk r = some b ∧ (b = true ↔ ringP r) := by
  obtain ⟨b, e1, e2, e3⟩ := RingOk_tot r (by omega) (by omega)
  refine ⟨b, e1, e2, fun h => e3 h, fun h => ?_⟩
  have := RingOk_of r h
  rw [this] at e1
  exact (Option.some.inj e1).symm
/-- The sum of the amounts. -/
def sumA : List Hold → Int
  | [] => 0
  | h :: t => h.Amount + sumA t
theorem satAdd_in {a b : Int} (ha : 0 ≤ a) (hb : 0 ≤ b) (h : a + b ≤ 4611686018427387904) : satAdd a b = a + b := by
  have e1 : cl a = a := by unfold cl; split; omega; split <;> omega
  have e2 : cl b = b := by unfold cl; split; omega; split <;> omega
  unfold satAdd
  rw [e1, e2, if_pos h]
def amtP (l : List Hold) : Prop := ∀ h ∈ l, 1 ≤ h.Amount ∧ h.Amount ≤ 9007199254740992
theorem sumA_rng : ∀ l : List Hold, amtP l → 0 ≤ sumA l ∧ sumA l ≤ 9007199254740992 * l.length
  | [], _ => by simp [sumA]
  | x :: t, h => by
    have h1 := h x (by simp)
    have h2 := sumA_rng t (fun y hy => h y (by simp [hy]))
    simp only [sumA, List.length_cons]; omega
theorem Stored_l0_sum (l : List Hold) : ∀ (t : List Hold) (v : Int), amtP t → 0 ≤ v → v + 9007199254740992 * t.length ≤ 4611686018427387904 → spec_Stored_l0 l t v = some (v + sumA t) ∧ impl_Stored_l0 l t v = some (v + sumA t)
  | [], v, _, _, _ => by simp [spec_Stored_l0, impl_Stored_l0, sumA]
  | x :: t, v, h, h0, hv => by
    have h1 := h x (by simp)
    simp only [List.length_cons] at hv
    have e : satAdd v x.Amount = v + x.Amount := satAdd_in h0 (by omega) (by omega)
    obtain ⟨q1, q2⟩ := Stored_l0_sum l t (v + x.Amount) (fun y hy => h y (by simp [hy])) (by omega) (by omega)
    unfold spec_Stored_l0 impl_Stored_l0
    rw [(AddSat_val _ _).1, (AddSat_val _ _).2, e, Option.bind_some, Option.bind_some, q1, q2]
    simp only [sumA]
    have : v + x.Amount + sumA t = v + (x.Amount + sumA t) := by omega
    rw [this]; exact ⟨rfl, rfl⟩
theorem Stored_sum (l : List Hold) (h : amtP l) (hl : l.length ≤ 100) : spec_Stored l = some (sumA l) ∧ impl_Stored l = some (sumA l) := by
  obtain ⟨q1, q2⟩ := Stored_l0_sum l l 0 h (by omega) (by omega)
  unfold spec_Stored impl_Stored
  rw [capOk_of (by omega), q1, q2]
  simp only [if_true, Option.bind_some]
  have : 0 + sumA l = sumA l := by omega
  rw [this]; exact ⟨rfl, rfl⟩
theorem holdsP_amt {l : List Hold} (h : holdsP l) : amtP l := fun x hx => ⟨(h.2.1 x hx).2.1, (h.2.1 x hx).2.2.1⟩
/-- A valid account. -/
def acctP (a : Acct) : Prop := spec_AcctIdOk a.Id = some true ∧ (0 ≤ a.Limit ∧ a.Limit ≤ 9007199254740992) ∧ (0 ≤ a.Most ∧ a.Most ≤ 1000) ∧ (0 ≤ a.MostSum ∧ a.MostSum ≤ 9007199254740992) ∧ money a.Posted = true ∧ holdsP a.Holds ∧ ringP a.Ring ∧ spec_SlotsOk a.Slots = some true ∧ a.Posted + sumA a.Holds ≤ a.Limit
theorem and_if (c : Bool) (d : Bool) : (if c = true then some d else some false : Option Bool) = some (c && d) := by cases c <;> rfl
theorem money_iff (n : Int) : money n = true ↔ 0 ≤ n ∧ n ≤ 4611686018427387904 := by unfold money; simp
theorem satAdd_le {a b l : Int} (ha : 0 ≤ a) (ha2 : a ≤ 4611686018427387904) (hb : 0 ≤ b) (hb2 : b ≤ 4611686018427387904) (hl : l < 4611686018427387904) : satAdd a b ≤ l ↔ a + b ≤ l := by
  have e1 : cl a = a := by unfold cl; split; omega; split <;> omega
  have e2 : cl b = b := by unfold cl; split; omega; split <;> omega
  unfold satAdd
  rw [e1, e2]
  split <;> omega
theorem AcctOk_bool (a : Acct) (h : szAcct a) : ∃ b1 b2 b3 b4 s, spec_AcctIdOk a.Id = some b1 ∧ (b2 = true ↔ holdsP a.Holds) ∧ (b3 = true ↔ ringP a.Ring) ∧ spec_SlotsOk a.Slots = some b4 ∧ spec_Stored a.Holds = some s ∧
    spec_AcctOk a = some (b1 && ((decide (0 ≤ a.Limit) && decide (a.Limit ≤ 9007199254740992)) && ((decide (0 ≤ a.Most) && decide (a.Most ≤ 1000)) && ((decide (0 ≤ a.MostSum) && decide (a.MostSum ≤ 9007199254740992)) && (money a.Posted && (b2 && (b3 && (b4 && decide (satAdd a.Posted s ≤ a.Limit))))))))) ∧
    impl_AcctOk a = spec_AcctOk a := by
  have hh := h
  obtain ⟨h1, ⟨h2, h3⟩, ⟨h4, h5⟩, h6, h7⟩ := h
  obtain ⟨b1, p1, q1, _⟩ := AcctIdOk_eq a.Id
  obtain ⟨b2, p2, q2, i2⟩ := HoldsOk_iff a.Holds (by omega) (fun x hx => by have := h3 x hx; unfold szHold at this; omega)
  obtain ⟨b3, p3, q3, i3⟩ := RingOk_iff a.Ring (by omega) (by omega)
  obtain ⟨b4, p4, q4, _⟩ := SlotsOk_tot a.Slots (by omega) (fun x hx => by have := h7 x hx; unfold szSlot at this; omega)
  obtain ⟨s, p5, q5⟩ := Stored_tot a.Holds (by omega)
  obtain ⟨p6, q6⟩ := AddSat_val a.Posted s
  obtain ⟨y, y1, y2, _⟩ := AcctOk_tot a hh
  refine ⟨b1, b2, b3, b4, s, p1, i2, i3, p4, p5, ?_, by rw [y1, y2]⟩
  unfold spec_AcctOk
  simp only [p1, p2, p3, p4, p5, p6, l01In_val, l01Money_val, Option.bind_some, and_if]
theorem AcctOk_iff (a : Acct) (h : szAcct a) : ∃ b, spec_AcctOk a = some b ∧ impl_AcctOk a = some b ∧ (b = true ↔ acctP a) := by
  obtain ⟨b1, b2, b3, b4, s, p1, i2, i3, p4, p5, e1, e2⟩ := AcctOk_bool a h
  refine ⟨_, e1, by rw [e2, e1], ?_⟩
  unfold acctP
  rw [p1, p4]
  simp only [Bool.and_eq_true, decide_eq_true_eq, Option.some.injEq]
  rw [i2, i3, money_iff]
  constructor
  · rintro ⟨g1, g2, g3, g4, g5, g6, g7, g8, g9⟩
    have hs := (Stored_sum a.Holds (holdsP_amt g6) (by have := g6.1; omega)).1
    rw [p5] at hs
    have hs := Option.some.inj hs
    have hr := sumA_rng _ (holdsP_amt g6)
    have hl := g6.1
    rw [hs, satAdd_le g5.1 g5.2 hr.1 (by omega) (by omega)] at g9
    exact ⟨g1, g2, g3, g4, g5, g6, g7, g8, g9⟩
  · rintro ⟨g1, g2, g3, g4, g5, g6, g7, g8, g9⟩
    have hs := (Stored_sum a.Holds (holdsP_amt g6) (by have := g6.1; omega)).1
    rw [p5] at hs
    have hs := Option.some.inj hs
    have hr := sumA_rng _ (holdsP_amt g6)
    have hl := g6.1
    refine ⟨g1, g2, g3, g4, g5, g6, g7, g8, ?_⟩
    rw [hs, satAdd_le g5.1 g5.2 hr.1 (by omega) (by omega)]
    exact g9
/-- What is valid is small. -/
theorem acctP_wt (a : Acct) (h : szAcct a) (hp : acctP a) : wtAcct a ≤ 2000 := by
  obtain ⟨g1, _, _, _, _, g6, g7, g8, _⟩ := hp
  obtain ⟨h1, ⟨h2, h3⟩, ⟨h4, h5⟩, h6, h7⟩ := h
  obtain ⟨b1, p1, _, i1⟩ := AcctIdOk_eq a.Id
  rw [p1] at g1
  have i1 := i1 (Option.some.inj g1)
  obtain ⟨b4, p4, _, i4⟩ := SlotsOk_tot a.Slots (by omega) (fun x hx => by have := h7 x hx; unfold szSlot at this; omega)
  rw [p4] at g8
  obtain ⟨j1, j2⟩ := i4 (Option.some.inj g8)
  have k1 : wtL wtHold a.Holds ≤ 7 * a.Holds.length := wtL_bound wtHold 6 a.Holds fun x hx => by
    have := (g6.2.1 x hx).1
    obtain ⟨y, e, _, i⟩ := HoldIdOk_tot x.Id (by have := h3 x hx; unfold szHold at this; omega)
    unfold holdIdOk at this
    rw [e] at this
    rw [wtHold_eq]
    exact i this
  have k2 : wtL wtSlot a.Slots ≤ 211 * a.Slots.length := wtL_bound wtSlot 210 a.Slots fun x hx => by
    have := j2 x hx
    rw [wtSlot_eq]; omega
  have := g6.1
  have := g7.1
  have := g7.2.1
  rw [wtAcct_eq, wtRing_eq]
  omega
theorem ba_ext {a b : ByteArray} (h : a.data.toList = b.data.toList) : a = b := by
  rcases a with ⟨⟨a⟩⟩
  rcases b with ⟨⟨b⟩⟩
  have h : a = b := h
  rw [h]
theorem ba_app (a b : ByteArray) : (a ++ b).data.toList = a.data.toList ++ b.data.toList := by
  rw [ByteArray.data_append, Array.toList_append]
theorem ba_size (a : ByteArray) : a.size = a.data.toList.length := by
  rcases a with ⟨⟨a⟩⟩
  rfl
/-- The text of a number; nothing where it is none. -/
def numT (n : Int) : ByteArray := if money n = true then ⟨(Lib.itoa n).toArray⟩ else ⟨#[]⟩
theorem decDigits_len : ∀ (m u : Nat), u < 10 ^ (m + 1) → (Lib.decDigits u).length ≤ m + 1
  | m, u, h => by
    rw [Lib.decDigits]
    split
    · simp
    · rename_i h10
      cases m with
      | zero => omega
      | succ m =>
        have := decDigits_len m (u / 10) (by rw [Nat.pow_succ] at h; omega)
        simp; omega
theorem money_bounds {n : Int} (h : money n = true) : 0 ≤ n ∧ n ≤ 4611686018427387904 := by
  unfold money at h
  simpa using h
theorem numT_size (n : Int) : (numT n).size ≤ 20 := by
  unfold numT
  split
  · rename_i h
    obtain ⟨h0, h1⟩ := money_bounds h
    rw [ba_size]
    simp only [Lib.itoa, show ¬ n < 0 by omega, if_false]
    exact decDigits_len 19 n.toNat (by omega)
  · simp [ByteArray.size]
theorem digit_data (u : Nat) : (bstr [u8 (i64 (48 + (Int.tmod (u : Int) 10)))]).data.toList = [UInt8.ofNat (48 + u % 10)] := by
  rw [bstr_list, tmod10 (by omega), i64_of (by omega) (by omega), u8_of (by omega) (by omega)]
  simp only [List.map_cons, List.map_nil]
  congr 2
theorem NumText_l0_val (N : Int) : ∀ (m fuel u : Nat) (acc : ByteArray), u < 10 ^ (m + 1) → m < fuel → u ≤ 4611686018427387904 → acc.size + m ≤ 1000 →
    ∃ (v : Nat) (w : ByteArray), spec_NumText_l0 N fuel (u : Int) acc = some ((v : Int), w) ∧ v ≤ 9 ∧ w.size ≤ acc.size + m ∧ UInt8.ofNat (48 + v) :: w.data.toList = Lib.decDigits u ++ acc.data.toList
  | m, 0, u, acc, _, h, _, _ => by omega
  | m, fuel + 1, u, acc, hu, hm, hb, ha => by
    unfold spec_NumText_l0
    rw [Lib.decDigits]
    by_cases h9 : u < 10
    · have : ¬ (9 : Int) < (u : Int) := by omega
      simp only [this, decide_false, Bool.false_eq_true, if_false]
      exact ⟨u, acc, rfl, by omega, by omega, by rw [dif_pos h9]; rfl⟩
    · cases m with
      | zero => omega
      | succ m =>
        have hd := digit_data u
        have hs : (bstr [u8 (i64 (48 + (Int.tmod (u : Int) 10)))]).size + acc.size ≤ 9223372036854775807 := by rw [bstr_one]; omega
        have hq : i64 (Int.tdiv (u : Int) 10) = ((u / 10 : Nat) : Int) := by rw [Int.tdiv_eq_ediv_of_nonneg (by omega), i64_of (by omega) (by omega)]; omega
        simp only [show (9 : Int) < (u : Int) by omega, decide_true, if_true, hs, hq]
        obtain ⟨v, w, e1, e2, e3, e4⟩ := NumText_l0_val N m fuel (u / 10) (bstr [u8 (i64 (48 + (Int.tmod (u : Int) 10)))] ++ acc) (by rw [Nat.pow_succ] at hu; omega) (by omega) (by omega) (by rw [size_app, bstr_one]; omega)
        refine ⟨v, w, e1, e2, by rw [size_app, bstr_one] at e3; omega, ?_⟩
        rw [e4, ba_app, hd, dif_neg h9]
        simp
theorem spec_NumText_val (n : Int) : spec_NumText n = some (numT n) := by
  unfold spec_NumText numT
  rw [l01Money_val, Option.bind_some]
  rcases tf (money n) with h | h
  · obtain ⟨h0, h1⟩ := money_bounds h
    obtain ⟨u, rfl⟩ : ∃ u : Nat, n = (u : Int) := ⟨n.toNat, by omega⟩
    obtain ⟨v, w, e1, e2, e3, e4⟩ := NumText_l0_val u 19 FUEL u (bs []) (by omega) (by unfold FUEL; omega) (by omega) (by decide)
    have hs : (bstr [u8 (i64 (48 + (v : Int)))]).size + w.size ≤ 9223372036854775807 := by
      have : (bs []).size = 0 := rfl
      rw [bstr_one]; omega
    simp only [h, if_true, e1, Option.bind_some, hs, decide_true]
    congr 1
    apply ba_ext
    rw [ba_app, bstr_list, i64_of (by omega) (by omega), u8_of (by omega) (by omega)]
    have e5 : (bs []).data.toList = [] := rfl
    rw [e5, List.append_nil] at e4
    simp only [List.map_cons, List.map_nil, List.cons_append, List.nil_append, Lib.itoa, show ¬ ((u : Int) < 0) by omega, if_false, Int.toNat_natCast, List.toList_toArray]
    rw [← e4]
    congr 2
  · simp only [h, Bool.false_eq_true, if_false]; rfl
theorem impl_NumText_val (n : Int) : impl_NumText n = some (numT n) := by
  unfold impl_NumText numT strconv_Itoa
  rw [isMoney_val, Option.bind_some]
  rcases tf (money n) with h | h
  · obtain ⟨g1, g2⟩ := money_bounds h
    simp [h, show -9223372036854775808 ≤ n by omega, show n ≤ 9223372036854775807 by omega]
  · simp only [h, Bool.false_eq_true, if_false]; rfl
/-- Texts one behind the other, sep between them. -/
def sepT (sep : ByteArray) : List ByteArray → ByteArray
  | [] => bs []
  | x :: t => x ++ t.foldr (fun y r => (sep ++ y) ++ r) (bs [])
theorem ba_app_nil (a : ByteArray) : a ++ bs [] = a := ba_ext (by rw [ba_app]; exact List.append_nil _)
theorem ba_assoc (a b c : ByteArray) : (a ++ b) ++ c = a ++ (b ++ c) := ba_ext (by simp only [ba_app, List.append_assoc])
theorem tail_data (sep : ByteArray) (l : List ByteArray) : (l.foldr (fun y r => (sep ++ y) ++ r) (bs [])).data.toList = Lib.joinTail sep.data.toList (l.map (·.data.toList)) := by
  induction l with
  | nil => rfl
  | cons x t ih =>
    simp only [List.foldr_cons, ba_app, ih, Lib.joinTail, List.map_cons, List.flatten_cons, List.append_assoc]
theorem joined_eq (sep : ByteArray) (l : List ByteArray) : joined l sep = sepT sep l := by
  apply ba_ext
  cases l with
  | nil => rfl
  | cons x t =>
    unfold joined sepT
    simp only [List.map_cons, Lib.join_cons, ba_app, tail_data, List.toList_toArray]
theorem sepT_size (sep : ByteArray) (hs : sep.size = 1) (l : List ByteArray) : (sepT sep l).size ≤ wtL (fun s : ByteArray => s.size) l := by
  have ht : ∀ t : List ByteArray, (t.foldr (fun y r => (sep ++ y) ++ r) (bs [])).size ≤ wtL (fun s : ByteArray => s.size) t := fun t => by
    induction t with
    | nil => exact Nat.le_refl 0
    | cons x t ih => simp only [List.foldr_cons, size_app, wtL]; omega
  cases l with
  | nil => exact Nat.le_refl 0
  | cons x t =>
    have := ht t
    simp only [sepT, size_app, wtL]; omega
theorem Join_val (sep : ByteArray) (hs : sep.size = 1) (l : List ByteArray) (h : wtL (fun s : ByteArray => s.size) l ≤ 140737488355328) : strings_Join l sep = some (sepT sep l) := by
  have h1 := wtL_len (fun s : ByteArray => s.size) l
  have h2 := sepT_size sep hs l
  unfold strings_Join
  rw [joined_eq]
  simp [show l.length ≤ 140737488355328 by omega, show (sepT sep l).size ≤ 140737488355328 by omega]
theorem bs1_size (c : UInt8) : (bs [c]).size = 1 := rfl
theorem RingNew_tot (b s : Int) : ∃ r ok, spec_RingNew b s = some (r, ok) ∧ impl_RingNew b s = some (r, ok) ∧ r.Counts.length ≤ 8 ∧ r.Sums.length ≤ 8 ∧ (ok = false → r.Counts.length = 0) := by
  unfold spec_RingNew impl_RingNew
  simp only [l01In_val, within_val, Option.bind_some]
  by_cases h1 : 1 ≤ b ∧ b ≤ 8
  · have e1 : (decide (1 ≤ b) && decide (b ≤ 8)) = true := by simp [h1]
    by_cases h2 : 1 ≤ s ∧ s ≤ 1000
    · have e2 : (decide (1 ≤ s) && decide (s ≤ 1000)) = true := by simp [h2]
      simp only [e1, e2, if_true, show (0 : Int) ≤ b by omega, decide_true, capOk_of (show b.toNat ≤ 274877906944 by omega)]
      exact ⟨_, _, rfl, rfl, by simp; omega, by simp; omega, fun h => by cases h⟩
    · have e2 : (decide (1 ≤ s) && decide (s ≤ 1000)) = false := by rw [Bool.and_eq_false_iff]; simp; omega
      simp only [e1, e2, if_true, Bool.false_eq_true, if_false]
      exact ⟨_, _, rfl, rfl, by simp, by simp, fun _ => rfl⟩
  · have e1 : (decide (1 ≤ b) && decide (b ≤ 8)) = false := by rw [Bool.and_eq_false_iff]; simp; omega
    simp only [e1, Bool.false_eq_true, if_false]
    exact ⟨_, _, rfl, rfl, by simp, by simp, fun _ => rfl⟩
theorem AcctNew_tot (id : ByteArray) (limit most sum b s : Int) (h : id.size ≤ 3000000) : ∃ y, spec_AcctNew id limit most sum b s = some y ∧ impl_AcctNew id limit most sum b s = some y ∧ okA y.1 := by
  obtain ⟨r, ok, e1, e2, h1, h2, h3⟩ := RingNew_tot b s
  have hw : wtAcct (Acct.mk id limit 0 most sum [] r []) ≤ 4000000 := by rw [wtAcct_eq, wtRing_eq]; simp only [wtL]; omega
  have hz : okA (Acct.mk ByteArray.empty 0 0 0 0 [] (Ring.mk 0 0 [] []) []) := ⟨by rw [wtAcct_eq, wtRing_eq]; simp [wtL], fun s hs => by cases hs⟩
  obtain ⟨c, p1, p2, p3⟩ := AcctOk_iff _ (szAcct_of _ hw)
  unfold spec_AcctNew impl_AcctNew
  rw [e1, e2]
  simp only [Option.bind_some, p1, p2]
  rcases tf ok with q | q
  · simp only [q, if_true]
    rcases tf c with q2 | q2
    · simp only [q2, if_true]
      exact ⟨_, rfl, rfl, hw, fun s hs => by cases hs⟩
    · simp only [q2, Bool.false_eq_true, if_false]
      exact ⟨_, rfl, rfl, hz⟩
  · have q2 : c = false := by
      rcases tf c with q2 | q2
      · have h4 := (p3.1 q2).2.2.2.2.2.2.1.2.2.1
        have h5 := h3 q
        have h4 : 1 ≤ r.Counts.length := h4
        omega
      · exact q2
    simp only [q, q2, Bool.false_eq_true, if_false]
    exact ⟨_, rfl, rfl, hz⟩
def numsT (l : List Int) (v : ByteArray) : ByteArray := l.foldl (fun v x => (v ++ bs [32]) ++ numT x) v
def setupN (a : Acct) : List Int := [a.Limit, a.Most, a.MostSum, (a.Ring.Counts.length : Int), a.Ring.Span]
theorem SetupText_l0_val (a : Acct) : ∀ (t p : List Int) (N : Nat) (v : ByteArray), setupN a = p ++ t → t.length < N → v.size + 21 * t.length ≤ 1000000000 → spec_SetupText_l0 a N v (p.length : Int) = some (numsT t v)
  | t, p, 0, v, _, h, _ => by omega
  | [], p, N + 1, v, e, _, _ => by
    have hl : p.length = 5 := by have := congrArg List.length e; simpa [setupN] using this.symm
    unfold spec_SetupText_l0
    simp only [hl, show ¬ ((5 : Nat) : Int) < 5 by omega, decide_false, Bool.false_eq_true, if_false]
    rfl
  | x :: t, p, N + 1, v, e, hN, hv => by
    simp only [List.length_cons] at hN hv
    have hl : p.length + (t.length + 1) = 5 := by have := congrArg List.length e; simpa [setupN] using this.symm
    have hx := mid_get e
    have h1 := numT_size x
    have ih := SetupText_l0_val a t (p ++ [x]) N ((v ++ bs [32]) ++ numT x) (by rw [e]; simp) (by omega) (by simp only [size_app, bs1_size]; omega)
    have hi : i64 ((p.length : Int) + 1) = ((p ++ [x]).length : Int) := by rw [i64_of (by omega) (by omega)]; simp
    have c1 : v.size + (bs [32]).size ≤ 9223372036854775807 := by rw [bs1_size]; omega
    have c2 : (v ++ bs [32]).size + (numT x).size ≤ 9223372036854775807 := by simp only [size_app, bs1_size]; omega
    unfold setupN at hx
    unfold spec_SetupText_l0
    simp only [show (p.length : Int) < 5 by omega, show (0 : Int) ≤ (p.length : Int) by omega, decide_true, if_true, hx, Option.bind_some, c1, spec_NumText_val, c2, hi]
    exact ih
theorem SetupText_val (a : Acct) (h : wtAcct a ≤ 1048576) (hb : byAcct a) : ∃ y, spec_SetupText a = some y ∧ impl_SetupText a = some y ∧ y.size ≤ 400000000 := by
  have hid : a.Id.size ≤ 1048576 := by rw [wtAcct_eq] at h; omega
  obtain ⟨y, e1, e2, e3⟩ := AcctNew_tot a.Id a.Limit a.Most a.MostSum (a.Ring.Counts.length : Int) a.Ring.Span (by omega)
  have ha : okA a := ⟨by omega, hb⟩
  have z : (bs []).size ≤ 400000000 := by decide
  have h0 : (bs [97, 99, 99, 111, 117, 110, 116, 32]).size = 8 := rfl
  have h0' : (bs [97, 99, 99, 111, 117, 110, 116]).size = 7 := rfl
  have g1 := numT_size a.Limit
  have g2 := numT_size a.Most
  have g3 := numT_size a.MostSum
  have g4 := numT_size (a.Ring.Counts.length : Int)
  have g5 := numT_size a.Ring.Span
  have c1 : (bs [97, 99, 99, 111, 117, 110, 116, 32]).size + a.Id.size ≤ 9223372036854775807 := by omega
  have hloop := SetupText_l0_val a (setupN a) [] FUEL (bs [97, 99, 99, 111, 117, 110, 116, 32] ++ a.Id) rfl (by show 5 < FUEL; unfold FUEL; omega) (by rw [size_app]; show _ + 21 * 5 ≤ _; omega)
  have hj := Join_val (bs [32]) rfl [bs [97, 99, 99, 111, 117, 110, 116], a.Id, numT a.Limit, numT a.Most, numT a.MostSum, numT (a.Ring.Counts.length : Int), numT a.Ring.Span] (by simp only [wtL]; omega)
  have hsz := sepT_size (bs [32]) rfl [bs [97, 99, 99, 111, 117, 110, 116], a.Id, numT a.Limit, numT a.Most, numT a.MostSum, numT (a.Ring.Counts.length : Int), numT a.Ring.Span]
  have heq : numsT (setupN a) (bs [97, 99, 99, 111, 117, 110, 116, 32] ++ a.Id) = sepT (bs [32]) [bs [97, 99, 99, 111, 117, 110, 116], a.Id, numT a.Limit, numT a.Most, numT a.MostSum, numT (a.Ring.Counts.length : Int), numT a.Ring.Span] := by
    have hp : bs [97, 99, 99, 111, 117, 110, 116, 32] = bs [97, 99, 99, 111, 117, 110, 116] ++ bs [32] := ba_ext (by rw [ba_app]; rfl)
    rw [hp]
    simp only [numsT, setupN, sepT, List.foldl_cons, List.foldl_nil, List.foldr_cons, List.foldr_nil, ba_app_nil, ba_assoc]
  unfold spec_SetupText impl_SetupText
  rw [e1, e2]
  simp only [Option.bind_some, spec_AcctSame_val a y.1 ha e3, impl_AcctSame_val a y.1 ha e3, impl_NumText_val, hj, c1, decide_true, if_true]
  have hloop : spec_SetupText_l0 a FUEL (bs [97, 99, 99, 111, 117, 110, 116, 32] ++ a.Id) 0 = _ := hloop
  rw [hloop, heq]
  simp only [wtL] at hsz
  rcases tf y.2 with q | q
  · rcases tf (acctEq a y.1) with q2 | q2
    · simp only [q, q2, if_true, Option.bind_some]
      exact ⟨_, rfl, rfl, by omega⟩
    · simp only [q, q2, if_true, Bool.false_eq_true, if_false]
      exact ⟨_, rfl, rfl, z⟩
  · simp only [q, Bool.false_eq_true, if_false]
    exact ⟨_, rfl, rfl, z⟩
theorem sbytes_len (s : ByteArray) : (sbytes s).length = s.size := by unfold sbytes; rw [List.length_map, ← ba_size]
theorem sAt_get (s : ByteArray) {i : Nat} (h : i < s.size) : (sbytes s)[i]? = some (sAt s (i : Int)) := by
  rcases s with ⟨⟨l⟩⟩
  have h : i < l.length := h
  simp [sbytes, sAt, h]
def digI (x : Int) : Bool := decide (48 ≤ x) && decide (x ≤ 57)
def digB (s : ByteArray) : Bool := decide (0 < s.size) && (sbytes s).all digI
/-- A loop that looks at each byte. -/
theorem scan_loop {L : Nat → Int → Option (Lo Unit Unit)} (s : ByteArray) (hs : s.size ≤ 4000000) (lo hi : Int) (q : Int → Bool) (hq : ∀ x, q x = (decide (lo ≤ x) && decide (x ≤ hi)))
    (h1 : ∀ n v, L (n + 1) v = if (decide (v < (s.size : Int))) = true then if (decide (0 ≤ v)) = true then if (decide ((v : Int) < (s.size : Int))) = true then if (decide ((sAt s v) < lo)) = true then some (.ret ()) else if (decide (hi < (sAt s v))) = true then some (.ret ()) else L n (i64 (v + 1)) else none else none else some (.out ())) :
    ∀ (n v : Nat), v ≤ s.size → s.size - v < n → L n (v : Int) = some (if ((sbytes s).drop v).all q = true then .out () else .ret ())
  | 0, v, h, hn => by omega
  | n + 1, v, h, hn => by
    rw [h1]
    by_cases hv : v < s.size
    · have hl : v < (sbytes s).length := by rw [sbytes_len]; exact hv
      have hd : (sbytes s).drop v = sAt s v :: (sbytes s).drop (v + 1) := by
        have := sAt_get s hv
        rw [List.getElem?_eq_getElem hl] at this
        rw [List.drop_eq_getElem_cons hl, Option.some.inj this]
      have hi' : i64 ((v : Int) + 1) = ((v + 1 : Nat) : Int) := by rw [i64_of (by omega) (by omega)]; omega
      have ih := scan_loop s hs lo hi q hq h1 n (v + 1) (by omega) (by omega)
      rw [hd, List.all_cons, hq, hi', ih]
      simp only [show (v : Int) < (s.size : Int) by omega, show (0 : Int) ≤ (v : Int) by omega, decide_true, if_true]
      by_cases a : sAt s v < lo
      · simp [a, show ¬ lo ≤ sAt s v by omega]
      · by_cases b : hi < sAt s v
        · simp [a, b, show ¬ sAt s v ≤ hi by omega]
        · simp [a, b, show lo ≤ sAt s v by omega, show sAt s v ≤ hi by omega]
    · have : (sbytes s).drop v = [] := List.drop_eq_nil_of_le (by rw [sbytes_len]; omega)
      rw [this]
      simp [show ¬ (v : Int) < (s.size : Int) by omega]
theorem Digits_s (s : ByteArray) (hs : s.size ≤ 4000000) : spec_Digits s = some (digB s) := by
  have e1 : spec_Digits_l0 s FUEL 0 = some (if (sbytes s).all digI = true then .out () else .ret ()) := scan_loop (L := spec_Digits_l0 s) s hs 48 57 digI (fun _ => rfl) (fun _ _ => rfl) FUEL 0 (by omega) (by unfold FUEL; omega)
  unfold spec_Digits digB
  rw [e1]
  cases (sbytes s).all digI with
  | false => simp [Lo.elim]
  | true =>
    by_cases h : s.size = 0
    · simp [Lo.elim, h]
    · simp [Lo.elim, h, show (0 : Int) < (s.size : Int) by omega, show 0 < s.size by omega]
theorem index_one (c b : UInt8) (l : List UInt8) : Lib.index (b :: l) [c] = if b = c then 0 else if Lib.index l [c] = -1 then -1 else Lib.index l [c] + 1 := by
  rw [Lib.index]
  by_cases h : b = c
  · subst h; simp
  · have : ¬ c = b := fun e => h e.symm
    simp [h, this]
theorem split_one (c : UInt8) : ∀ l : List UInt8, (c ∉ l ∧ Lib.index l [c] = -1) ∨ ∃ p t, l = p ++ c :: t ∧ c ∉ p ∧ Lib.index l [c] = (p.length : Nat)
  | [] => .inl ⟨by simp, rfl⟩
  | b :: l => by
    rw [index_one]
    by_cases h : b = c
    · subst h; exact .inr ⟨[], l, rfl, by simp, by simp⟩
    · rcases split_one c l with ⟨h1, h2⟩ | ⟨p, t, h1, h2, h3⟩
      · exact .inl ⟨by simp [h1, Ne.symm h], by simp [h, h2]⟩
      · refine .inr ⟨b :: p, t, by rw [h1]; rfl, by simp [h2, Ne.symm h], ?_⟩
        rw [h3]
        simp only [h, if_false, List.length_cons]
        rw [if_neg (by omega)]
        omega
theorem ba_extract (a : ByteArray) (i j : Nat) : (a.extract i j).data.toList = (a.data.toList.drop i).take (j - i) := by
  rw [ByteArray.data_extract, Array.toList_extract, List.extract_eq_take_drop]
def numF (n : Int) (l : List Int) : Int := l.foldl (fun n x => n * 10 + (x - 48)) n
def numL (l : List Int) : Int := numF 0 l
theorem numF_cons (n x : Int) (t : List Int) : numF n (x :: t) = numF (n * 10 + (x - 48)) t := rfl
theorem digI_iff {x : Int} : digI x = true ↔ 48 ≤ x ∧ x ≤ 57 := by unfold digI; simp
theorem digB_mem {s : ByteArray} (h : digB s = true) : 1 ≤ s.size ∧ ∀ x ∈ sbytes s, digI x = true := by
  unfold digB at h
  simp only [Bool.and_eq_true, decide_eq_true_eq, List.all_eq_true] at h
  exact ⟨by omega, h.2⟩
def pcs (c : UInt8) : List UInt8 → List (List UInt8)
  | [] => [[]]
  | b :: t => if b = c then [] :: pcs c t else match pcs c t with
    | [] => [[b]]
    | p :: r => (b :: p) :: r
theorem pcs_none {c : UInt8} : ∀ {l : List UInt8}, c ∉ l → pcs c l = [l]
  | [], _ => rfl
  | b :: t, h => by
    have h1 : ¬ b = c := fun e => h (by rw [e]; simp)
    have h2 : c ∉ t := fun e => h (List.mem_cons_of_mem _ e)
    rw [pcs, if_neg h1, pcs_none h2]
theorem pcs_hit {c : UInt8} (t : List UInt8) : ∀ {p : List UInt8}, c ∉ p → pcs c (p ++ c :: t) = p :: pcs c t
  | [], _ => by rw [List.nil_append, pcs, if_pos rfl]
  | b :: p, h => by
    have h1 : ¬ b = c := fun e => h (by rw [e]; simp)
    have h2 : c ∉ p := fun e => h (List.mem_cons_of_mem _ e)
    rw [List.cons_append, pcs, if_neg h1, pcs_hit t h2]
theorem pcs_splitK (c : UInt8) : ∀ (n : Nat) (l : List UInt8), l.length ≤ n → Lib.splitK [c] 0 (Lib.count l [c]) l = pcs c l
  | n, l, hn => by
    rcases split_one c l with ⟨h1, h2⟩ | ⟨p, t, h1, h2, h3⟩
    · rw [Lib.count_miss h2, pcs_none h1]; rfl
    · have hl : l.length = p.length + 1 + t.length := by rw [h1]; simp; omega
      cases n with
      | zero => omega
      | succ n =>
        have hd : l.drop (p.length + [c].length) = t := by
          rw [h1, show p ++ c :: t = (p ++ [c]) ++ t by simp]
          exact List.drop_left' (by simp)
        have ht : l.take (p.length + 0) = p := by rw [h1]; exact List.take_left' (by simp)
        have hm : ¬ (Lib.index l [c] == -1) = true := fun e => by have := beq_iff_eq.1 e; omega
        have he : (Lib.index l [c]).toNat = p.length := by omega
        rw [Lib.count_hit (by simp) h3, Nat.add_comm, Lib.splitK, if_neg hm, he, hd, ht, pcs_splitK c n t (by omega)]
        conv => rhs; rw [h1, pcs_hit t h2]
def mkB (l : List UInt8) : ByteArray := ⟨l.toArray⟩
theorem mkB_data (s : ByteArray) : mkB s.data.toList = s := by rcases s with ⟨⟨l⟩⟩; rfl
theorem mkB_size (l : List UInt8) : (mkB l).size = l.length := rfl
def pcsB (c : UInt8) (s : ByteArray) : List ByteArray := (pcs c s.data.toList).map mkB
theorem splitP_val (c : UInt8) (s : ByteArray) : splitP s (bs [c]) = pcsB c s := by
  unfold splitP pcsB
  have h : (Lib.splitB (bs [c]) 0 (Lib.countB s (bs [c])) s).map (·.data.toList) = pcs c s.data.toList := by
    rw [Lib.splitB_data]
    exact pcs_splitK c _ _ (Nat.le_refl _)
  rw [← h, List.map_map]
  conv => lhs; rw [← List.map_id (Lib.splitB (bs [c]) 0 (Lib.countB s (bs [c])) s)]
  apply List.map_congr_left
  intro x _
  exact (mkB_data x).symm
theorem extract_mk (s : ByteArray) (i j : Nat) : s.extract i j = mkB ((s.data.toList.drop i).take (j - i)) := ba_ext (by rw [ba_extract]; rfl)
theorem sAt_byte (s : ByteArray) {i : Nat} (h : i < s.data.toList.length) : sAt s (i : Int) = ((s.data.toList[i]).toNat : Int) := by
  rcases s with ⟨⟨l⟩⟩
  have h : i < l.length := h
  simp [sAt, h]
theorem l01Split_l0_val (s : ByteArray) (hs : s.size ≤ 4000000) (c : UInt8) : ∀ (fuel i a : Nat) (w : List ByteArray), a ≤ i → i ≤ s.size → s.size + 1 - i < fuel → c ∉ (s.data.toList.drop a).take (i - a) → w.length + (s.size - i) ≤ 100000000 →
    spec_l01Split_l0 s (c.toNat : Int) fuel (a : Int) (i : Int) w = some (w ++ (pcs c (s.data.toList.drop a)).map mkB)
  | 0, i, a, w, _, _, hf, _, _ => by omega
  | fuel + 1, i, a, w, hai, his, hf, hc, hw => by
    have hl : s.data.toList.length = s.size := (ba_size s).symm
    have hi' : i64 ((i : Int) + 1) = ((i + 1 : Nat) : Int) := by rw [i64_of (by omega) (by omega)]; omega
    unfold spec_l01Split_l0
    by_cases h : i < s.size
    · have hil : i < s.data.toList.length := by omega
      have hne : ((i : Int) == (s.size : Int)) = false := beq_false_of_ne (by omega)
      have hsp : s.data.toList.drop a = (s.data.toList.drop a).take (i - a) ++ s.data.toList[i] :: s.data.toList.drop (i + 1) := by
        conv => lhs; rw [← List.take_append_drop (i - a) (s.data.toList.drop a)]
        congr 1
        rw [List.drop_drop, show a + (i - a) = i by omega, List.drop_eq_getElem_cons hil]
      simp only [show (i : Int) ≤ (s.size : Int) by omega, hne, show (0 : Int) ≤ (i : Int) by omega, show (i : Int) < (s.size : Int) by omega, sAt_byte s hil, decide_true, if_true, Bool.false_eq_true, if_false]
      by_cases hb : s.data.toList[i] = c
      · have hq : (((s.data.toList[i]).toNat : Int) == (c.toNat : Int)) = true := by rw [hb]; simp
        simp only [hq, if_true, show (0 : Int) ≤ (a : Int) by omega, show (a : Int) ≤ (i : Int) by omega, decide_true, capOk_of (show w.length + 1 ≤ 274877906944 by omega), hi', Int.toNat_natCast]
        rw [l01Split_l0_val s hs c fuel (i + 1) (i + 1) (w ++ [s.extract a i]) (Nat.le_refl _) (by omega) (by omega) (by simp) (by simp; omega), extract_mk]
        conv => rhs; rw [hsp, hb, pcs_hit _ hc]
        simp
      · have hq : (((s.data.toList[i]).toNat : Int) == (c.toNat : Int)) = false := beq_false_of_ne (fun e => hb (UInt8.toNat_inj.1 (by omega)))
        simp only [hq, Bool.false_eq_true, if_false, hi']
        refine l01Split_l0_val s hs c fuel (i + 1) a w (by omega) (by omega) (by omega) ?_ (by omega)
        rw [show i + 1 - a = (i - a) + 1 by omega, List.take_add_one]
        have : (s.data.toList.drop a)[i - a]? = some s.data.toList[i] := by
          rw [List.getElem?_drop, show a + (i - a) = i by omega]; exact List.getElem?_eq_getElem hil
        rw [this]
        simp only [Option.toList_some, List.mem_append, List.mem_singleton, not_or]
        exact ⟨hc, fun e => hb e.symm⟩
    · have he : i = s.size := by omega
      subst he
      cases fuel with
      | zero => omega
      | succ m =>
        have hd : (s.data.toList.drop a).take (s.size - a) = s.data.toList.drop a := List.take_of_length_le (by rw [List.length_drop]; omega)
        rw [hd] at hc
        simp only [show (s.size : Int) ≤ (s.size : Int) from Int.le_refl _, beq_self_eq_true, show (0 : Int) ≤ (a : Int) by omega, show (a : Int) ≤ (s.size : Int) by omega, decide_true, if_true, capOk_of (show w.length + 1 ≤ 274877906944 by omega), hi', Int.toNat_natCast]
        unfold spec_l01Split_l0
        simp only [show ¬ ((s.size + 1 : Nat) : Int) ≤ (s.size : Int) by omega, decide_false, Bool.false_eq_true, if_false]
        rw [extract_mk, hd, pcs_none hc]
        rfl
theorem l01Split_val (s : ByteArray) (hs : s.size ≤ 4000000) (c : UInt8) : spec_l01Split s (c.toNat : Int) = some (pcsB c s) := by
  have h : spec_l01Split_l0 s (c.toNat : Int) FUEL 0 0 [] = some ([] ++ (pcs c (s.data.toList.drop 0)).map mkB) := l01Split_l0_val s hs c FUEL 0 0 [] (by omega) (by omega) (by unfold FUEL; omega) (by simp) (by simp; omega)
  unfold spec_l01Split
  rw [h]
  rfl
theorem pcs_wt (c : UInt8) : ∀ (n : Nat) (l : List UInt8), l.length ≤ n → wtL (fun s : ByteArray => s.size) ((pcs c l).map mkB) ≤ l.length + 1
  | n, l, hn => by
    rcases split_one c l with ⟨h1, h2⟩ | ⟨p, t, h1, h2, h3⟩
    · rw [pcs_none h1]
      simp only [List.map_cons, List.map_nil, wtL, mkB_size]; omega
    · have hl : l.length = p.length + 1 + t.length := by rw [h1]; simp; omega
      cases n with
      | zero => omega
      | succ n =>
        have := pcs_wt c n t (by omega)
        conv => lhs; rw [h1, pcs_hit t h2]
        simp only [List.map_cons, wtL, mkB_size]; omega
theorem pcsB_wt (c : UInt8) (s : ByteArray) : wtL (fun s : ByteArray => s.size) (pcsB c s) ≤ s.size + 1 := by
  have := pcs_wt c _ s.data.toList (Nat.le_refl _)
  rw [← ba_size] at this
  exact this
theorem strings_Split_val (s : ByteArray) (hs : s.size ≤ 4000000) (c : UInt8) : strings_Split s (bs [c]) = some (pcsB c s) := by
  have h1 : (bs [c]).size = 1 := rfl
  have h2 := pcsB_wt c s
  have h3 := wtL_len (fun s : ByteArray => s.size) (pcsB c s)
  unfold strings_Split
  rw [splitP_val, h1, if_pos]
  simp only [Bool.and_eq_true, decide_eq_true_eq]
  omega
theorem parse_digits2 : ∀ (l : List UInt8) (acc k : Nat), (∀ b ∈ l, digI (b.toNat : Int) = true) → acc < 10 ^ k → k + l.length ≤ 19 → ∃ u, Lib.parseUint10 acc l = .ok u ∧ (u : Int) = numF (acc : Int) (l.map fun b => (b.toNat : Int)) ∧ u < 10 ^ (k + l.length)
  | [], acc, k, _, h1, _ => ⟨acc, rfl, rfl, h1⟩
  | c :: r, acc, k, hd, h1, h2 => by
    have hx := digI_iff.1 (hd c (by simp))
    simp only [List.length_cons] at h2
    have hk : (10 : Nat) ^ k ≤ 10 ^ 18 := Nat.pow_le_pow_right (by decide) (by omega)
    have hk2 : (10 : Nat) ^ (k + 1) = 10 ^ k * 10 := Nat.pow_succ _ _
    obtain ⟨u, e1, e2, e3⟩ := parse_digits2 r (acc * 10 + (c.toNat - 48)) (k + 1) (fun b hb => hd b (by simp [hb])) (by omega) (by omega)
    refine ⟨u, ?_, ?_, by rw [List.length_cons, show k + (r.length + 1) = k + 1 + r.length by omega]; exact e3⟩
    · rw [Lib.parseUint10, if_pos (by omega), if_neg (by omega), if_neg (by omega), e1]
    · rw [List.map_cons, numF_cons, e2]
      congr 1
      omega
theorem atoi_digits2 (s : ByteArray) (h : digB s = true) (hs : s.size ≤ 19) : Lib.atoiAll s.data.toList = if 9223372036854775808 ≤ numL (sbytes s) then .range else .ok (numL (sbytes s)) := by
  obtain ⟨h1, h2⟩ := digB_mem h
  have hd : ∀ b ∈ s.data.toList, digI (b.toNat : Int) = true := fun b hb => h2 _ (by unfold sbytes; exact List.mem_map_of_mem hb)
  have hl : s.data.toList.length = s.size := (ba_size s).symm
  obtain ⟨u, e1, e2, e3⟩ := parse_digits2 s.data.toList 0 0 hd (by decide) (by omega)
  have e2 : (u : Int) = numL (sbytes s) := e2
  rw [← e2]
  cases hq : s.data.toList with
  | nil => rw [hq] at hl; simp at hl; omega
  | cons c r =>
    have hc := digI_iff.1 (hd c (by rw [hq]; simp))
    rw [hq] at e1
    unfold Lib.atoiAll
    simp only [show ¬ (c.toNat = 43 ∨ c.toNat = 45) by omega, if_false]
    unfold Lib.parseMag
    rw [if_neg (by simp), e1]
    by_cases hu : 9223372036854775808 ≤ u
    · simp only [show ¬ (c.toNat = 45) by omega, not_false_eq_true, true_and, hu, if_true, show (9223372036854775808 : Int) ≤ (u : Int) by omega]
    · simp only [show ¬ (c.toNat = 45) by omega, not_false_eq_true, true_and, false_and, if_false, hu, show ¬ (9223372036854775808 : Int) ≤ (u : Int) by omega]
theorem decDigits_dig (u : Nat) : ∀ b ∈ Lib.decDigits u, 48 ≤ b.toNat ∧ b.toNat ≤ 57 := by
  induction u using Nat.strongRecOn with
  | _ u ih =>
    rw [Lib.decDigits]
    split
    · intro b hb
      simp only [List.mem_singleton] at hb
      subst hb
      rw [UInt8.toNat_ofNat']
      omega
    · intro b hb
      rw [List.mem_append] at hb
      rcases hb with hb | hb
      · exact ih (u / 10) (by omega) b hb
      · simp only [List.mem_singleton] at hb
        subst hb
        rw [UInt8.toNat_ofNat']
        omega
theorem numT_dig {n : Int} (h : money n = true) : (numT n).data.toList = Lib.decDigits n.toNat ∧ (numT n).size ≤ 19 ∧ 1 ≤ (numT n).size := by
  obtain ⟨h0, h1⟩ := money_bounds h
  have e : (numT n).data.toList = Lib.decDigits n.toNat := by
    unfold numT Lib.itoa
    rw [if_pos h, if_neg (by omega)]
  refine ⟨e, ?_, ?_⟩
  · rw [ba_size, e]; exact decDigits_len 18 n.toNat (by omega)
  · rw [ba_size, e, Lib.decDigits]; split <;> simp
theorem numT_digB {n : Int} (h : money n = true) : digB (numT n) = true := by
  obtain ⟨e, _, e1⟩ := numT_dig h
  unfold digB
  rw [decide_eq_true (show 0 < (numT n).size by omega), Bool.true_and, List.all_eq_true]
  intro x hx
  unfold sbytes at hx
  rw [e, List.mem_map] at hx
  obtain ⟨b, hb, rfl⟩ := hx
  have := decDigits_dig n.toNat b hb
  exact digI_iff.2 (by omega)
def tnum (s : ByteArray) : Int × Bool := match Lib.atoiAll s.data.toList with
  | .ok v => if (money v && (numT v == s)) = true then (v, true) else (0, false)
  | _ => (0, false)
theorem impl_TextNum_val (s : ByteArray) (hs : s.size ≤ 4000000) : impl_TextNum s = some (tnum s) := by
  unfold impl_TextNum tnum
  rw [if_pos (decide_eq_true (by omega))]
  cases hv : Lib.atoiAll s.data.toList with
  | ok v =>
    simp only [isMoney_val, Option.bind_some]
    rcases tf (money v) with q | q
    · simp only [q, if_true, impl_NumText_val, Option.bind_some, Bool.true_and]
      rcases tf (numT v == s) with p | p <;> simp only [p, if_true, Bool.false_eq_true, if_false]
    · simp only [q, Bool.false_eq_true, if_false, Bool.false_and]
  | «syntax» => rfl
  | range => rfl
theorem numF_mono : ∀ (l : List Int) (n : Int), (∀ x ∈ l, digI x = true) → 0 ≤ n → n ≤ numF n l
  | [], n, _, h0 => Int.le_refl n
  | x :: t, n, hd, h0 => by
    have hx := digI_iff.1 (hd x (by simp))
    have := numF_mono t (n * 10 + (x - 48)) (fun y hy => hd y (by simp [hy])) (by omega)
    rw [numF_cons]
    omega
theorem spec_TextNum_l0_val (s : ByteArray) (hs : s.size ≤ 4000000) (hd : ∀ x ∈ sbytes s, digI x = true) : ∀ (fuel v : Nat) (n : Int), v ≤ s.size → s.size - v < fuel → 0 ≤ n → n ≤ 4611686018427387904 →
    spec_TextNum_l0 s fuel n (v : Int) = some (if numF n ((sbytes s).drop v) ≤ 4611686018427387904 then .out (numF n ((sbytes s).drop v)) else .ret ())
  | 0, v, n, _, hf, _, _ => by omega
  | fuel + 1, v, n, h, hf, h0, h1 => by
    unfold spec_TextNum_l0
    by_cases hv : v < s.size
    · have hl : v < (sbytes s).length := by rw [sbytes_len]; exact hv
      have hx := digI_iff.1 (hd _ (List.getElem_mem hl))
      have he : (sbytes s)[v] = sAt s (v : Int) := by
        have := sAt_get s hv
        rw [List.getElem?_eq_getElem hl] at this
        exact Option.some.inj this
      have hdr : ∀ x ∈ (sbytes s).drop (v + 1), digI x = true := fun x hx => hd x (List.mem_of_mem_drop hx)
      rw [List.drop_eq_getElem_cons hl, numF_cons, he]
      rw [he] at hx
      have hi' : i64 ((v : Int) + 1) = ((v + 1 : Nat) : Int) := by rw [i64_of (by omega) (by omega)]; omega
      generalize sAt s (v : Int) = x at *
      have e1 : i64 x = x := i64_of (by omega) (by omega)
      have e2 : i64 (x - 48) = x - 48 := i64_of (by omega) (by omega)
      have e3 : i64 (4611686018427387904 - (x - 48)) = 4611686018427387904 - (x - 48) := i64_of (by omega) (by omega)
      have e4 : Int.tdiv (4611686018427387904 - (x - 48)) 10 = (4611686018427387904 - (x - 48)) / 10 := Int.tdiv_eq_ediv_of_nonneg (by omega)
      have e5 : i64 ((4611686018427387904 - (x - 48)) / 10) = (4611686018427387904 - (x - 48)) / 10 := i64_of (by omega) (by omega)
      simp only [show (v : Int) < (s.size : Int) by omega, show (0 : Int) ≤ (v : Int) by omega, decide_true, if_true, e1, e2, e3, e4, e5]
      by_cases hc : (4611686018427387904 - (x - 48)) / 10 < n
      · have := numF_mono _ (n * 10 + (x - 48)) hdr (by omega)
        simp only [hc, decide_true, if_true]
        rw [if_neg (by omega)]
      · have e6 : i64 (n * 10) = n * 10 := i64_of (by omega) (by omega)
        have e7 : i64 (n * 10 + (x - 48)) = n * 10 + (x - 48) := i64_of (by omega) (by omega)
        simp only [hc, decide_false, Bool.false_eq_true, if_false, e6, e7, hi']
        exact spec_TextNum_l0_val s hs hd fuel (v + 1) (n * 10 + (x - 48)) (by omega) (by omega) (by omega) (by omega)
    · have : (sbytes s).drop v = [] := List.drop_eq_nil_of_le (by rw [sbytes_len]; omega)
      rw [this]
      simp only [show ¬ (v : Int) < (s.size : Int) by omega, decide_false, Bool.false_eq_true, if_false]
      rw [if_pos (show numF n [] ≤ _ from h1)]
      rfl
theorem tnum_off {s : ByteArray} (h : digB s = false ∨ 19 < s.size) : tnum s = (0, false) := by
  unfold tnum
  split
  · rename_i v hv
    rcases tf (money v && (numT v == s)) with q | q
    · simp only [Bool.and_eq_true, beqB, decide_eq_true_eq] at q
      have h1 := numT_digB q.1
      have h2 := (numT_dig q.1).2.1
      rw [q.2] at h1 h2
      rcases h with h | h
      · rw [h] at h1; cases h1
      · omega
    · simp only [q, Bool.false_eq_true, if_false]
  · rfl
theorem spec_TextNum_val (s : ByteArray) (hs : s.size ≤ 4000000) : spec_TextNum s = some (tnum s) := by
  have d1 := Digits_s s hs
  unfold spec_TextNum
  rw [d1, Option.bind_some]
  rcases tf (digB s) with x | x
  · by_cases h : s.size ≤ 19
    · have hd := (digB_mem x).2
      have L : spec_TextNum_l0 s FUEL 0 0 = some (if numL (sbytes s) ≤ 4611686018427387904 then .out (numL (sbytes s)) else .ret ()) := spec_TextNum_l0_val s hs hd FUEL 0 0 (by omega) (by unfold FUEL; omega) (by omega) (by omega)
      have hm := numF_mono (sbytes s) 0 hd (by omega)
      have ha := atoi_digits2 s x h
      unfold tnum
      rw [ha]
      simp only [x, if_true, show ¬ (19 : Int) < (s.size : Int) by omega, decide_false, Bool.false_eq_true, if_false, L, Option.bind_some]
      have hm : 0 ≤ numL (sbytes s) := hm
      generalize numL (sbytes s) = n at *
      by_cases hn : n ≤ 4611686018427387904
      · have hmo : money n = true := by unfold money; simp; omega
        rw [if_pos hn, if_neg (show ¬ 9223372036854775808 ≤ n by omega)]
        simp only [Lo.elim, spec_NumText_val, Option.bind_some, hmo, Bool.true_and]
        rcases tf (numT n == s) with q | q <;> simp only [q, if_true, Bool.false_eq_true, if_false]
      · have hmo : money n = false := by unfold money; simp; omega
        rw [if_neg hn]
        by_cases h9 : 9223372036854775808 ≤ n
        · rw [if_pos h9]; rfl
        · rw [if_neg h9]
          simp only [Lo.elim, hmo, Bool.false_and, Bool.false_eq_true, if_false]
    · rw [tnum_off (.inr (by omega))]
      simp only [x, if_true, show (19 : Int) < (s.size : Int) by omega, decide_true]
  · rw [tnum_off (.inl x)]
    simp only [x, Bool.false_eq_true, if_false]
theorem AcctNew_ok (id : ByteArray) (limit most sum b s : Int) (h : id.size ≤ 3000000) : ∃ y, spec_AcctNew id limit most sum b s = some y ∧ impl_AcctNew id limit most sum b s = some y ∧ okA y.1 ∧ (y.2 = true → wtAcct y.1 ≤ 2000) := by
  obtain ⟨r, ok, e1, e2, h1, h2, h3⟩ := RingNew_tot b s
  have hw : wtAcct (Acct.mk id limit 0 most sum [] r []) ≤ 4000000 := by rw [wtAcct_eq, wtRing_eq]; simp only [wtL]; omega
  have hz : okA (Acct.mk ByteArray.empty 0 0 0 0 [] (Ring.mk 0 0 [] []) []) := ⟨by rw [wtAcct_eq, wtRing_eq]; simp [wtL], fun s hs => by cases hs⟩
  obtain ⟨c, p1, p2, p3⟩ := AcctOk_iff _ (szAcct_of _ hw)
  unfold spec_AcctNew impl_AcctNew
  rw [e1, e2]
  simp only [Option.bind_some, p1, p2]
  rcases tf ok with q | q
  · simp only [q, if_true]
    rcases tf c with q2 | q2
    · simp only [q2, if_true]
      exact ⟨_, rfl, rfl, ⟨hw, fun s hs => by cases hs⟩, fun _ => acctP_wt _ (szAcct_of _ hw) (p3.1 q2)⟩
    · simp only [q2, Bool.false_eq_true, if_false]
      exact ⟨_, rfl, rfl, hz, fun h => by cases h⟩
  · have q2 : c = false := by
      rcases tf c with q2 | q2
      · have h4 := (p3.1 q2).2.2.2.2.2.2.1.2.2.1
        have h5 := h3 q
        have h4 : 1 ≤ r.Counts.length := h4
        omega
      · exact q2
    simp only [q, q2, Bool.false_eq_true, if_false]
    exact ⟨_, rfl, rfl, hz, fun h => by cases h⟩
theorem TS_step (s : ByteArray) (w : List ByteArray) (fuel v : Nat) (l : List Int) (x : ByteArray) (h : w[2 + v]? = some x) (hv : v + 2 < w.length) (hw : w.length ≤ 1000) (hx : x.size ≤ 4000000) (hl : l.length ≤ 1000) :
    spec_TextSetup_l0 s w (fuel + 1) (v : Int) l = spec_TextSetup_l0 s w fuel ((v + 1 : Nat) : Int) (l ++ [(tnum x).1]) := by
  have hi : i64 ((v : Int) + 1) = ((v + 1 : Nat) : Int) := by rw [i64_of (by omega) (by omega)]; omega
  conv => lhs; unfold spec_TextSetup_l0
  simp only [show (v : Int) < ((w.length - 2 : Nat) : Int) by omega, Int.natCast_nonneg, decide_true, if_true, Int.toNat_natCast, h, Option.bind_some, spec_TextNum_val x hx, capOk_of (show l.length + 1 ≤ 274877906944 by omega), hi]
theorem TS_end (s : ByteArray) (w : List ByteArray) (fuel v : Nat) (l : List Int) (h : w.length = v + 2) : spec_TextSetup_l0 s w (fuel + 1) (v : Int) l = some l := by
  unfold spec_TextSetup_l0
  simp only [show ¬ (v : Int) < ((w.length - 2 : Nat) : Int) by omega, decide_false, Bool.false_eq_true, if_false]
theorem TextSetup_loops (s x0 x1 x2 x3 x4 x5 x6 : ByteArray) (h2 : x2.size ≤ 4000000) (h3 : x3.size ≤ 4000000) (h4 : x4.size ≤ 4000000) (h5 : x5.size ≤ 4000000) (h6 : x6.size ≤ 4000000) :
    spec_TextSetup_l0 s [x0, x1, x2, x3, x4, x5, x6] FUEL 0 [] = some [(tnum x2).1, (tnum x3).1, (tnum x4).1, (tnum x5).1, (tnum x6).1] ∧
    impl_TextSetup_l0 s [x0, x1, x2, x3, x4, x5, x6] FUEL 0 0 0 0 0 0 0 2 = some (0, 0, (tnum x2).1, (tnum x3).1, (tnum x4).1, (tnum x5).1, (tnum x6).1) := by
  have hF : FUEL = (FUEL - 6) + 6 := rfl
  constructor
  · rw [hF]
    have s0 := TS_step s [x0, x1, x2, x3, x4, x5, x6] (FUEL - 6 + 5) 0 [] x2 rfl (by show 2 < 7; decide) (by show 7 ≤ 1000; decide) h2 (by decide)
    have s1 := TS_step s [x0, x1, x2, x3, x4, x5, x6] (FUEL - 6 + 4) 1 [(tnum x2).1] x3 rfl (by show 3 < 7; decide) (by show 7 ≤ 1000; decide) h3 (by show 1 ≤ 1000; decide)
    have s2 := TS_step s [x0, x1, x2, x3, x4, x5, x6] (FUEL - 6 + 3) 2 [(tnum x2).1, (tnum x3).1] x4 rfl (by show 4 < 7; decide) (by show 7 ≤ 1000; decide) h4 (by show 2 ≤ 1000; decide)
    have s3 := TS_step s [x0, x1, x2, x3, x4, x5, x6] (FUEL - 6 + 2) 3 [(tnum x2).1, (tnum x3).1, (tnum x4).1] x5 rfl (by show 5 < 7; decide) (by show 7 ≤ 1000; decide) h5 (by show 3 ≤ 1000; decide)
    have s4 := TS_step s [x0, x1, x2, x3, x4, x5, x6] (FUEL - 6 + 1) 4 [(tnum x2).1, (tnum x3).1, (tnum x4).1, (tnum x5).1] x6 rfl (by show 6 < 7; decide) (by show 7 ≤ 1000; decide) h6 (by show 4 ≤ 1000; decide)
    have s5 := TS_end s [x0, x1, x2, x3, x4, x5, x6] (FUEL - 6) 5 [(tnum x2).1, (tnum x3).1, (tnum x4).1, (tnum x5).1, (tnum x6).1] rfl
    exact s0.trans (s1.trans (s2.trans (s3.trans (s4.trans s5))))
  · rw [hF]
    have j2 : i64 (2 + 1) = 3 := by decide +kernel
    have j3 : i64 (3 + 1) = 4 := by decide +kernel
    have j4 : i64 (4 + 1) = 5 := by decide +kernel
    have j5 : i64 (5 + 1) = 6 := by decide +kernel
    have j6 : i64 (6 + 1) = 7 := by decide +kernel
    generalize FUEL - 6 = f
    have i2 : impl_TextSetup_l0 s [x0, x1, x2, x3, x4, x5, x6] (f + 6) 0 0 0 0 0 0 0 2 = impl_TextSetup_l0 s [x0, x1, x2, x3, x4, x5, x6] (f + 5) 0 0 (tnum x2).1 0 0 0 0 3 := by
      rw [impl_TextSetup_l0]
      show ((impl_TextNum x2).bind _) = _
      rw [impl_TextNum_val x2 h2, j2]; rfl
    have i3 : ∀ a, impl_TextSetup_l0 s [x0, x1, x2, x3, x4, x5, x6] (f + 5) 0 0 a 0 0 0 0 3 = impl_TextSetup_l0 s [x0, x1, x2, x3, x4, x5, x6] (f + 4) 0 0 a (tnum x3).1 0 0 0 4 := fun a => by
      rw [impl_TextSetup_l0]
      show ((impl_TextNum x3).bind _) = _
      rw [impl_TextNum_val x3 h3, j3]; rfl
    have i4 : ∀ a b, impl_TextSetup_l0 s [x0, x1, x2, x3, x4, x5, x6] (f + 4) 0 0 a b 0 0 0 4 = impl_TextSetup_l0 s [x0, x1, x2, x3, x4, x5, x6] (f + 3) 0 0 a b (tnum x4).1 0 0 5 := fun a b => by
      rw [impl_TextSetup_l0]
      show ((impl_TextNum x4).bind _) = _
      rw [impl_TextNum_val x4 h4, j4]; rfl
    have i5 : ∀ a b c, impl_TextSetup_l0 s [x0, x1, x2, x3, x4, x5, x6] (f + 3) 0 0 a b c 0 0 5 = impl_TextSetup_l0 s [x0, x1, x2, x3, x4, x5, x6] (f + 2) 0 0 a b c (tnum x5).1 0 6 := fun a b c => by
      rw [impl_TextSetup_l0]
      show ((impl_TextNum x5).bind _) = _
      rw [impl_TextNum_val x5 h5, j5]; rfl
    have i6 : ∀ a b c d, impl_TextSetup_l0 s [x0, x1, x2, x3, x4, x5, x6] (f + 2) 0 0 a b c d 0 6 = impl_TextSetup_l0 s [x0, x1, x2, x3, x4, x5, x6] (f + 1) 0 0 a b c d (tnum x6).1 7 := fun a b c d => by
      rw [impl_TextSetup_l0]
      show ((impl_TextNum x6).bind _) = _
      rw [impl_TextNum_val x6 h6, j6]; rfl
    have i7 : ∀ a b c d e, impl_TextSetup_l0 s [x0, x1, x2, x3, x4, x5, x6] (f + 1) 0 0 a b c d e 7 = some (0, 0, a, b, c, d, e) := fun a b c d e => by
      rw [impl_TextSetup_l0]; rfl
    rw [i2, i3, i4, i5, i6, i7]
theorem TextSetup_val (s : ByteArray) (hs : s.size ≤ 1048576) : ∃ y, spec_TextSetup s = some y ∧ impl_TextSetup s = some y ∧ wtAcct y.1 ≤ 4000000 := by
  have hc : spec_Cut s = some (pcsB 32 s) := by
    unfold spec_Cut
    rw [show spec_l01Split s 32 = some (pcsB 32 s) from l01Split_val s (by omega) 32]
    rfl
  have hc2 : impl_Cut s = some (pcsB 32 s) := by
    unfold impl_Cut
    rw [strings_Split_val _ (by omega), Option.bind_some]
  have hw := pcsB_wt 32 s
  have hz : wtAcct (Acct.mk ByteArray.empty 0 0 0 0 [] (Ring.mk 0 0 [] []) []) ≤ 4000000 := by rw [wtAcct_eq, wtRing_eq]; simp [wtL]
  unfold spec_TextSetup impl_TextSetup
  rw [hc, hc2, Option.bind_some, Option.bind_some]
  generalize pcsB 32 s = w at *
  by_cases hl : w.length = 7
  · match w, hl with
    | [x0, x1, x2, x3, x4, x5, x6], _ =>
      simp only [wtL] at hw
      obtain ⟨l1, l2⟩ := TextSetup_loops s x0 x1 x2 x3 x4 x5 x6 (by omega) (by omega) (by omega) (by omega) (by omega)
      obtain ⟨y, e1, e2, e3, e4⟩ := AcctNew_ok x1 (tnum x2).1 (tnum x3).1 (tnum x4).1 (tnum x5).1 (tnum x6).1 (by omega)
      have hn : ((([x0, x1, x2, x3, x4, x5, x6] : List ByteArray).length : Int) != 7) = false := rfl
      have hd : decide ((2 : Int) ≤ (([x0, x1, x2, x3, x4, x5, x6] : List ByteArray).length : Int)) = true := rfl
      simp only [hn, hd, l1, l2, Bool.false_eq_true, if_false, if_true, Option.bind_some, List.getElem?_cons_zero, List.getElem?_cons_succ, e1, e2]
      rcases tf y.2 with q | q
      · have hy := e4 q
        obtain ⟨t, f1, f2, _⟩ := SetupText_val y.1 (by omega) e3.2
        simp only [q, if_true, f1, f2, Option.bind_some]
        rcases tf (t == s) with p | p
        · simp only [p, if_true]
          exact ⟨_, rfl, rfl, e3.1⟩
        · simp only [p, Bool.false_eq_true, if_false]
          exact ⟨_, rfl, rfl, hz⟩
      · simp only [q, Bool.false_eq_true, if_false]
        exact ⟨_, rfl, rfl, hz⟩
  · have hn : ((w.length : Int) != 7) = true := by rw [bne_iff_ne]; omega
    simp only [hn, if_true]
    exact ⟨_, rfl, rfl, hz⟩
/-- A strict weak order. -/
def SwB {α : Type} (lt : α → α → Bool) : Prop := (∀ a b, lt a b = true → lt b a = false) ∧ ∀ a b c, lt a b = false → lt b c = false → lt a c = false
theorem SwB.trans {α : Type} {lt : α → α → Bool} (h : SwB lt) {a b c : α} (h1 : lt a b = true) (h2 : lt b c = true) : lt a c = true := by
  rcases hx : lt a c with _ | _
  · have := h.2 a c b hx (h.1 _ _ h2)
    rw [h1] at this; cases this
  · rfl
namespace Pure
theorem FnExactTextSetup (o : ByteArray) (h0 : Ws o) : laws_FnExactTextSetup o = some true := by
  unfold laws_FnExactTextSetup
  by_cases s1 : (1048576 : Int) < (o.size : Int)
  · simp only [s1, decide_true, decide_false, Bool.false_eq_true, if_true, if_false]
  simp only [s1, decide_true, decide_false, Bool.false_eq_true, if_true, if_false]
  obtain ⟨y, f1, f2, f3⟩ := TextSetup_val o (by omega)
  have z0 := f3
  obtain ⟨k1, l1_0, l1_1, l1_2, l1_3, m1, u1, b1, q1_0, q1_1, q1_2, q1_3, d1⟩ := markAcct_val y.1 1 (by omega) (by omega) (by omega)
  simp only [f1, f2, eqAcct_rfl _ z0, m1, show ¬ k1 < 0 by omega, d1, Option.bind_some, decide_true, decide_false, Bool.false_eq_true, if_true, if_false, bne_rfl, beq_rfl, beq_self_eq_true]
end Pure
end Go.Proofs.YtobmabejfbmmfaaGreatDoorM
