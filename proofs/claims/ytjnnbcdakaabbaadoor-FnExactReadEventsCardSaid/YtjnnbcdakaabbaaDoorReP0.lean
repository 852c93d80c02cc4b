/- Laws of the plain functions. No condition. -/
import Derived.Test.YtjnnbcdakaabbaaDoorReOp
import Derived.Laws.StructEq
namespace Go.Proofs.YtjnnbcdakaabbaaDoorM
set_option linter.unusedVariables false
set_option linter.unusedSimpArgs false
set_option maxRecDepth 100000
theorem i64_of {x : Int} (h : -9223372036854775808 ≤ x) (h2 : x ≤ 9223372036854775807) : i64 x = x := by unfold i64; rw [IntKind.wrap_i64]; omega
theorem u8_of {x : Int} (h : 0 ≤ x) (h2 : x ≤ 255) : u8 x = x := by unfold u8 IntKind.wrap; simp [IntKind.bits, IntKind.signed]; omega
theorem sAt_nn (s : ByteArray) (i : Int) : 0 ≤ sAt s i := by unfold sAt; omega
theorem sAt_le (s : ByteArray) (i : Int) : sAt s i ≤ 255 := by unfold sAt; have := (s.data.getD i.toNat 0).toNat_lt; omega
theorem capOk_of {n : Nat} (h : n ≤ 274877906944) : capOk n = true := decide_eq_true h
theorem beqB (a b : ByteArray) : (a == b) = decide (a = b) := by
  rcases a with ⟨a⟩
  rcases b with ⟨b⟩
  have h1 : ((⟨a⟩ : ByteArray) == ⟨b⟩) = (a == b) := rfl
  rw [h1]
  by_cases h : a = b
  · subst h; simp
  · have h2 : ¬ ((⟨a⟩ : ByteArray) = ⟨b⟩) := fun e => h (by cases e; rfl)
    rw [decide_eq_false h2]
    simpa using h
theorem tmod10 {x : Int} (h : 0 ≤ x) : Int.tmod x 10 = x % 10 := Int.tmod_eq_emod_of_nonneg h
theorem beq_rfl (s : ByteArray) : (s == s) = true := by rw [beqB]; simp
theorem bne_rfl (n : Int) : (n != n) = false := by simp
theorem mid_get {α : Type} {a p t : List α} {x : α} (e : a = p ++ x :: t) : a[((p.length : Int)).toNat]? = some x := by rw [e]; simp
theorem bstr_one (n : Int) : (bstr [n]).size = 1 := rfl
theorem size_app (a b : ByteArray) : (a ++ b).size = a.size + b.size := ByteArray.size_append
theorem after_set {α : Type} {v v' : List α} {i : Nat} {x : α} (h : v'.take (i + 1) = (v.set i x).take (i + 1)) (hl : v'.length = v.length) (hi : i < v.length) : v'.drop i = x :: v'.drop (i + 1) ∧ v'.take i = v.take i := by
  have hx : v'[i]? = some x := by
    have e : (v'.take (i + 1))[i]? = ((v.set i x).take (i + 1))[i]? := by rw [h]
    rw [List.getElem?_take, List.getElem?_take, if_pos (by omega), if_pos (by omega)] at e
    rw [e]; simp [hi]
  have hx' : v'[i]'(by omega) = x := by
    have := List.getElem?_eq_getElem (l := v') (i := i) (by omega)
    rw [this] at hx
    exact Option.some.inj hx
  refine ⟨by rw [List.drop_eq_getElem_cons (by omega), hx'], ?_⟩
  have e : (v'.take (i + 1)).take i = ((v.set i x).take (i + 1)).take i := by rw [h]
  rw [List.take_take, List.take_take, Nat.min_eq_left (by omega), List.take_set_of_le (Nat.le_refl _)] at e
  exact e
def byB (l : List Int) : Prop := ∀ b ∈ l, 0 ≤ b ∧ b ≤ 255
/-- The weight of a list: its length, and its elements' weights. -/
def wtL {α : Type} (f : α → Nat) : List α → Nat
  | [] => 0
  | x :: t => 1 + f x + wtL f t
def wtS {α : Type} (f : α → Nat) : List α → Nat
  | [] => 0
  | x :: t => f x + wtS f t
theorem wtL_eq {α : Type} (f : α → Nat) : ∀ l : List α, wtL f l = l.length + wtS f l
  | [] => rfl
  | x :: t => by simp only [wtL, wtS, List.length_cons]; rw [wtL_eq f t]; omega
theorem wtL_len {α : Type} (f : α → Nat) (l : List α) : l.length ≤ wtL f l := by rw [wtL_eq]; omega
theorem wtL_mem {α : Type} (f : α → Nat) : ∀ (l : List α) (x : α), x ∈ l → f x + 1 ≤ wtL f l
  | y :: t, x, h => by
    simp only [wtL]
    rcases List.mem_cons.1 h with rfl | h
    · omega
    · have := wtL_mem f t x h; omega
theorem wtL_app {α : Type} (f : α → Nat) : ∀ (l l2 : List α), wtL f (l ++ l2) = wtL f l + wtL f l2
  | [], l2 => by simp [wtL]
  | x :: t, l2 => by simp only [List.cons_append, wtL]; rw [wtL_app f t l2]; omega
theorem eqByteS_l0_rfl (a : List Int) : ∀ t p : List Int, a = p ++ t → laws_eqByteS_l0 a a t p = some (.out ())
  | [], p, e => rfl
  | x :: t, p, e => by
    unfold laws_eqByteS_l0
    rw [mid_get e, Option.bind_some]
    simp only [bne_rfl, beq_rfl, Bool.false_eq_true, if_false, if_true]
    exact eqByteS_l0_rfl a t (p ++ [x]) (by rw [e]; simp)
theorem eqByteS_rfl (a : List Int) (h : a.length ≤ 4000000) : laws_eqByteS a a = some true := by
  have hl : a.length ≤ 4000000 := h
  unfold laws_eqByteS
  rw [eqByteS_l0_rfl a a [] rfl, capOk_of (show a.length ≤ 274877906944 by omega)]
  simp only [bne_rfl, Bool.false_eq_true, if_false, if_true]
  rfl
theorem markByteS_l0_val : ∀ (n : Nat) (k : Int) (i : Nat) (v : List Int), i ≤ v.length → v.length ≤ 4000000 → (v.drop i).length ≤ 4000000 → 0 ≤ k → k + 16 * ((v.drop i).length : Nat) ≤ 1000000000000 → v.length - i < n →
    ∃ (k' : Int) (v' : List Int), laws_markByteS_l0 n k (i : Int) v = some (k', v') ∧ k ≤ k' ∧ k' ≤ k + 16 * ((v.drop i).length : Nat) ∧ v'.length = v.length ∧ v'.take i = v.take i ∧ ∀ b, laws_heldByteS_l0 b (v'.drop i) k = some (.out k')
  | 0, k, i, v, hi, hl, hw, h0, hk, hn => by omega
  | n + 1, k, i, v, hi, hl, hw, h0, hk, hn => by
    unfold laws_markByteS_l0
    by_cases h : i < v.length
    · have hc : (i : Int) < (v.length : Int) := by omega
      have hi1 : i64 ((i : Int) + 1) = ((i + 1 : Nat) : Int) := by rw [i64_of (by omega) (by omega)]; omega
      have hg : v[i]? = some v[i] := List.getElem?_eq_getElem h
      have hd : (v.drop i).length = 1 + (v.drop (i + 1)).length := by rw [List.length_drop, List.length_drop]; omega
      have i0 : i64 (k + 1) = k + 1 := i64_of (by omega) (by omega)
      have hsl : (v.set i (u8 (k))).length = v.length := List.length_set
      have hsd : (v.set i (u8 (k))).drop (i + 1) = v.drop (i + 1) := List.drop_set_of_lt (by omega)
      obtain ⟨k', v', e1, e1', e1'', e2, e3, e4⟩ := markByteS_l0_val n (k + 1) (i + 1) (v.set i (u8 (k))) (by rw [hsl]; omega) (by rw [hsl]; omega) (by rw [hsd]; omega) (by omega) (by rw [hsd]; omega) (by rw [hsl]; omega)
      rw [hsl] at e2
      rw [hsd] at e1''
      obtain ⟨p1, p2⟩ := after_set e3 e2 h
      refine ⟨k', v', ?_, by omega, by omega, e2, p2, fun b => ?_⟩
      · simp only [hc, decide_true, if_true, Int.natCast_nonneg, Int.toNat_natCast, hg, Option.bind_some, i0, hi1, List.getElem?_set_self h, List.set_set, List.length_set]
        exact e1
      · rw [p1]
        unfold laws_heldByteS_l0
        simp only [i0, Option.bind_some, beq_rfl, bne_rfl, if_true, decide_false, Bool.false_eq_true, if_false]
        exact e4 b
    · have hc : ¬ (i : Int) < (v.length : Int) := by omega
      refine ⟨k, v, by simp only [hc, decide_false, Bool.false_eq_true, if_false], by omega, by omega, rfl, rfl, fun b => ?_⟩
      rw [List.drop_eq_nil_of_le (by omega)]
      rfl
theorem markByteS_val (v : List Int) (k : Int) (h : v.length ≤ 4000000) (h0 : 0 ≤ k) (hk : k + 16 * (v.length : Nat) ≤ 1000000000000) :
    ∃ (k' : Int) (v' : List Int), laws_markByteS v k = some (k', v') ∧ k ≤ k' ∧ k' ≤ k + 16 * (v.length : Nat) ∧ v'.length = v.length ∧ laws_heldByteS v' k = some k' := by
  have hl : v.length ≤ 4000000 := h
  obtain ⟨k', v', e1, e1', e1'', e2, e3, e4⟩ := markByteS_l0_val FUEL k 0 v (by omega) hl (by simpa using h) h0 (by simpa using hk) (by unfold FUEL; omega)
  have e4 := e4 v'
  simp only [List.drop_zero] at e4 e1''
  refine ⟨k', v', ?_, e1', e1'', e2, ?_⟩
  · unfold laws_markByteS
    have : ((0 : Nat) : Int) = 0 := rfl
    rw [this] at e1
    rw [e1]; rfl
  · unfold laws_heldByteS
    rw [capOk_of (by omega), e4]; rfl
def wtEvent (a : Event) : Nat := a.Data.length
theorem wtEvent_eq (a : Event) : wtEvent a = a.Data.length := rfl
theorem eqEvent_rfl (a : Event) (h : wtEvent a ≤ 4000000) : laws_eqEvent a a = some true := by
  rw [wtEvent_eq] at h
  unfold laws_eqEvent
  simp only [eqByteS_rfl a.Data (by omega), beq_rfl, bne_rfl, Bool.false_eq_true, if_false, if_true, Option.bind_some]
theorem eqEventS_l0_rfl (a : List Event) : ∀ t p : List Event, a = p ++ t → (∀ s ∈ t, wtEvent s ≤ 4000000) → laws_eqEventS_l0 a a t p = some (.out ())
  | [], p, e, _ => rfl
  | x :: t, p, e, hs => by
    unfold laws_eqEventS_l0
    rw [mid_get e, Option.bind_some, eqEvent_rfl x (hs x (by simp)), Option.bind_some]
    simpa using eqEventS_l0_rfl a t (p ++ [x]) (by rw [e]; simp) (fun s hs' => hs s (by simp [hs']))
theorem eqEventS_rfl (a : List Event) (h : wtL wtEvent a ≤ 4000000) : laws_eqEventS a a = some true := by
  have hl : a.length ≤ 4000000 := (by have := wtL_len wtEvent a; omega)
  unfold laws_eqEventS
  rw [eqEventS_l0_rfl a a [] rfl (fun s hs => by have := wtL_mem wtEvent a s hs; omega), capOk_of (show a.length ≤ 274877906944 by omega)]
  simp only [bne_rfl, Bool.false_eq_true, if_false, if_true]
  rfl
theorem markEventS_l0_val : ∀ (n : Nat) (k : Int) (i : Nat) (v : List Event), i ≤ v.length → v.length ≤ 4000000 → wtL wtEvent (v.drop i) ≤ 4000000 → 0 ≤ k → k + 16 * (wtL wtEvent (v.drop i) : Nat) ≤ 1000000000000 → v.length - i < n →
    ∃ (k' : Int) (v' : List Event), laws_markEventS_l0 n k (i : Int) v = some (k', v') ∧ k ≤ k' ∧ k' ≤ k + 16 * (wtL wtEvent (v.drop i) : Nat) ∧ v'.length = v.length ∧ v'.take i = v.take i ∧ ∀ b, laws_heldEventS_l0 b (v'.drop i) k = some (.out k')
  | 0, k, i, v, hi, hl, hw, h0, hk, hn => by omega
  | n + 1, k, i, v, hi, hl, hw, h0, hk, hn => by
    unfold laws_markEventS_l0
    by_cases h : i < v.length
    · have hc : (i : Int) < (v.length : Int) := by omega
      have hi1 : i64 ((i : Int) + 1) = ((i + 1 : Nat) : Int) := by rw [i64_of (by omega) (by omega)]; omega
      have hg : v[i]? = some v[i] := List.getElem?_eq_getElem h
      have hd : wtL wtEvent (v.drop i) = 1 + wtEvent v[i] + wtL wtEvent (v.drop (i + 1)) := by rw [List.drop_eq_getElem_cons h]; rfl
      have hx := wtEvent_eq v[i]
      have i0 : i64 (k + 1) = k + 1 := i64_of (by omega) (by omega)
      have i1 : i64 (k + 1 + 1) = k + 1 + 1 := i64_of (by omega) (by omega)
      obtain ⟨k2, y2, m2, g2, b2, q2, d2⟩ := markByteS_val v[i].Data (k + 1 + 1) (by omega) (by omega) (by omega)
      have hsl : (v.set i (Event.mk (k) (k + 1) y2)).length = v.length := List.length_set
      have hsd : (v.set i (Event.mk (k) (k + 1) y2)).drop (i + 1) = v.drop (i + 1) := List.drop_set_of_lt (by omega)
      obtain ⟨k', v', e1, e1', e1'', e2, e3, e4⟩ := markEventS_l0_val n (k2) (i + 1) (v.set i (Event.mk (k) (k + 1) y2)) (by rw [hsl]; omega) (by rw [hsl]; omega) (by rw [hsd]; omega) (by omega) (by rw [hsd]; omega) (by rw [hsl]; omega)
      rw [hsl] at e2
      rw [hsd] at e1''
      obtain ⟨p1, p2⟩ := after_set e3 e2 h
      refine ⟨k', v', ?_, by omega, by omega, e2, p2, fun b => ?_⟩
      · simp only [hc, decide_true, if_true, Int.natCast_nonneg, Int.toNat_natCast, hg, Option.bind_some, i0, i1, m2, hi1, List.getElem?_set_self h, List.set_set, List.length_set]
        exact e1
      · rw [p1]
        unfold laws_heldEventS_l0
        simp only [i0, i1, d2, show ¬ k2 < 0 by omega, Option.bind_some, beq_rfl, bne_rfl, if_true, decide_false, Bool.false_eq_true, if_false]
        exact e4 b
    · have hc : ¬ (i : Int) < (v.length : Int) := by omega
      refine ⟨k, v, by simp only [hc, decide_false, Bool.false_eq_true, if_false], by omega, by omega, rfl, rfl, fun b => ?_⟩
      rw [List.drop_eq_nil_of_le (by omega)]
      rfl
theorem markEventS_val (v : List Event) (k : Int) (h : wtL wtEvent v ≤ 4000000) (h0 : 0 ≤ k) (hk : k + 16 * (wtL wtEvent v : Nat) ≤ 1000000000000) :
    ∃ (k' : Int) (v' : List Event), laws_markEventS v k = some (k', v') ∧ k ≤ k' ∧ k' ≤ k + 16 * (wtL wtEvent v : Nat) ∧ v'.length = v.length ∧ laws_heldEventS v' k = some k' := by
  have hl : v.length ≤ 4000000 := (by have := wtL_len wtEvent v; omega)
  obtain ⟨k', v', e1, e1', e1'', e2, e3, e4⟩ := markEventS_l0_val FUEL k 0 v (by omega) hl (by simpa using h) h0 (by simpa using hk) (by unfold FUEL; omega)
  have e4 := e4 v'
  simp only [List.drop_zero] at e4 e1''
  refine ⟨k', v', ?_, e1', e1'', e2, ?_⟩
  · unfold laws_markEventS
    have : ((0 : Nat) : Int) = 0 := rfl
    rw [this] at e1
    rw [e1]; rfl
  · unfold laws_heldEventS
    rw [capOk_of (by omega), e4]; rfl
theorem tf (b : Bool) : b = true ∨ b = false := by cases b <;> simp
theorem l01In_val (n lo hi : Int) : spec_l01In n lo hi = some (decide (lo ≤ n) && decide (n ≤ hi)) := by
  unfold spec_l01In
  by_cases h : lo ≤ n <;> simp [h]
theorem within_val (n lo hi : Int) : impl_within n lo hi = some (decide (lo ≤ n) && decide (n ≤ hi)) := by
  unfold impl_within
  by_cases h : lo ≤ n <;> simp [h]
def money (n : Int) : Bool := decide (0 ≤ n) && decide (n ≤ 4611686018427387904)
theorem l01Money_val (n : Int) : spec_l01Money n = some (money n) := by
  unfold spec_l01Money money
  by_cases h : 0 ≤ n <;> simp [h]
theorem isMoney_val (n : Int) : impl_isMoney n = some (money n) := by unfold impl_isMoney; rw [within_val]; rfl
theorem beq_empty (s : ByteArray) : (s == bs []) = decide (s.size = 0) := by
  rw [beqB]
  by_cases h : s.size = 0
  · have : s = bs [] := by
      rcases s with ⟨d⟩
      have hd : d.size = 0 := h
      have : d = #[] := Array.eq_empty_of_size_eq_zero hd
      subst this; rfl
    rw [decide_eq_true h, decide_eq_true this]
  · rw [decide_eq_false h, decide_eq_false (fun e => h (by rw [e]; rfl))]
theorem bstr_fold : ∀ (ns : List Int) (r : ByteArray), (ns.foldl (fun r n => r.push (UInt8.ofNat n.toNat)) r).data.toList = r.data.toList ++ ns.map (fun n => UInt8.ofNat n.toNat)
  | [], r => by simp
  | n :: ns, r => by
    rw [List.foldl_cons, bstr_fold ns]
    simp [ByteArray.push]
theorem bstr_list (ns : List Int) : (bstr ns).data.toList = ns.map (fun n => UInt8.ofNat n.toNat) := by
  unfold bstr
  rw [bstr_fold]; rfl
theorem byte_inj {a b : Int} (ha : 0 ≤ a ∧ a ≤ 255) (hb : 0 ≤ b ∧ b ≤ 255) (h : UInt8.ofNat a.toNat = UInt8.ofNat b.toNat) : a = b := by
  have := congrArg UInt8.toNat h
  simp at this
  omega
theorem ba_ext {a b : ByteArray} (h : a.data.toList = b.data.toList) : a = b := by
  rcases a with ⟨⟨a⟩⟩
  rcases b with ⟨⟨b⟩⟩
  have h : a = b := h
  rw [h]
theorem ba_app (a b : ByteArray) : (a ++ b).data.toList = a.data.toList ++ b.data.toList := by
  rw [ByteArray.data_append, Array.toList_append]
theorem ba_size (a : ByteArray) : a.size = a.data.toList.length := by
  rcases a with ⟨⟨a⟩⟩
  rfl
/-- The text of a number; nothing where it is none. -/
def numT (n : Int) : ByteArray := if money n = true then ⟨(Lib.itoa n).toArray⟩ else ⟨#[]⟩
theorem decDigits_len : ∀ (m u : Nat), u < 10 ^ (m + 1) → (Lib.decDigits u).length ≤ m + 1
  | m, u, h => by
    rw [Lib.decDigits]
    split
    · simp
    · rename_i h10
      cases m with
      | zero => omega
      | succ m =>
        have := decDigits_len m (u / 10) (by rw [Nat.pow_succ] at h; omega)
        simp; omega
theorem money_bounds {n : Int} (h : money n = true) : 0 ≤ n ∧ n ≤ 4611686018427387904 := by
  unfold money at h
  simpa using h
theorem numT_size (n : Int) : (numT n).size ≤ 20 := by
  unfold numT
  split
  · rename_i h
    obtain ⟨h0, h1⟩ := money_bounds h
    rw [ba_size]
    simp only [Lib.itoa, show ¬ n < 0 by omega, if_false]
    exact decDigits_len 19 n.toNat (by omega)
  · simp [ByteArray.size]
theorem digit_data (u : Nat) : (bstr [u8 (i64 (48 + (Int.tmod (u : Int) 10)))]).data.toList = [UInt8.ofNat (48 + u % 10)] := by
  rw [bstr_list, tmod10 (by omega), i64_of (by omega) (by omega), u8_of (by omega) (by omega)]
  simp only [List.map_cons, List.map_nil]
  congr 2
theorem NumText_l0_val (N : Int) : ∀ (m fuel u : Nat) (acc : ByteArray), u < 10 ^ (m + 1) → m < fuel → u ≤ 4611686018427387904 → acc.size + m ≤ 1000 →
    ∃ (v : Nat) (w : ByteArray), spec_NumText_l0 N fuel (u : Int) acc = some ((v : Int), w) ∧ v ≤ 9 ∧ w.size ≤ acc.size + m ∧ UInt8.ofNat (48 + v) :: w.data.toList = Lib.decDigits u ++ acc.data.toList
  | m, 0, u, acc, _, h, _, _ => by omega
  | m, fuel + 1, u, acc, hu, hm, hb, ha => by
    unfold spec_NumText_l0
    rw [Lib.decDigits]
    by_cases h9 : u < 10
    · have : ¬ (9 : Int) < (u : Int) := by omega
      simp only [this, decide_false, Bool.false_eq_true, if_false]
      exact ⟨u, acc, rfl, by omega, by omega, by rw [dif_pos h9]; rfl⟩
    · cases m with
      | zero => omega
      | succ m =>
        have hd := digit_data u
        have hs : (bstr [u8 (i64 (48 + (Int.tmod (u : Int) 10)))]).size + acc.size ≤ 9223372036854775807 := by rw [bstr_one]; omega
        have hq : i64 (Int.tdiv (u : Int) 10) = ((u / 10 : Nat) : Int) := by rw [Int.tdiv_eq_ediv_of_nonneg (by omega), i64_of (by omega) (by omega)]; omega
        simp only [show (9 : Int) < (u : Int) by omega, decide_true, if_true, hs, hq]
        obtain ⟨v, w, e1, e2, e3, e4⟩ := NumText_l0_val N m fuel (u / 10) (bstr [u8 (i64 (48 + (Int.tmod (u : Int) 10)))] ++ acc) (by rw [Nat.pow_succ] at hu; omega) (by omega) (by omega) (by rw [size_app, bstr_one]; omega)
        refine ⟨v, w, e1, e2, by rw [size_app, bstr_one] at e3; omega, ?_⟩
        rw [e4, ba_app, hd, dif_neg h9]
        simp
theorem spec_NumText_val (n : Int) : spec_NumText n = some (numT n) := by
  unfold spec_NumText numT
  rw [l01Money_val, Option.bind_some]
  rcases tf (money n) with h | h
  · obtain ⟨h0, h1⟩ := money_bounds h
    obtain ⟨u, rfl⟩ : ∃ u : Nat, n = (u : Int) := ⟨n.toNat, by omega⟩
    obtain ⟨v, w, e1, e2, e3, e4⟩ := NumText_l0_val u 19 FUEL u (bs []) (by omega) (by unfold FUEL; omega) (by omega) (by decide)
    have hs : (bstr [u8 (i64 (48 + (v : Int)))]).size + w.size ≤ 9223372036854775807 := by
      have : (bs []).size = 0 := rfl
      rw [bstr_one]; omega
    simp only [h, if_true, e1, Option.bind_some, hs, decide_true]
    congr 1
    apply ba_ext
    rw [ba_app, bstr_list, i64_of (by omega) (by omega), u8_of (by omega) (by omega)]
    have e5 : (bs []).data.toList = [] := rfl
    rw [e5, List.append_nil] at e4
    simp only [List.map_cons, List.map_nil, List.cons_append, List.nil_append, Lib.itoa, show ¬ ((u : Int) < 0) by omega, if_false, Int.toNat_natCast, List.toList_toArray]
    rw [← e4]
    congr 2
  · simp only [h, Bool.false_eq_true, if_false]; rfl
theorem impl_NumText_val (n : Int) : impl_NumText n = some (numT n) := by
  unfold impl_NumText numT strconv_Itoa
  rw [isMoney_val, Option.bind_some]
  rcases tf (money n) with h | h
  · obtain ⟨g1, g2⟩ := money_bounds h
    simp [h, show -9223372036854775808 ≤ n by omega, show n ≤ 9223372036854775807 by omega]
  · simp only [h, Bool.false_eq_true, if_false]; rfl
theorem ba_nil_app (a : ByteArray) : bs [] ++ a = a := ba_ext (by rw [ba_app]; rfl)
theorem ba_app_nil (a : ByteArray) : a ++ bs [] = a := ba_ext (by rw [ba_app]; exact List.append_nil _)
theorem ba_assoc (a b c : ByteArray) : (a ++ b) ++ c = a ++ (b ++ c) := ba_ext (by simp only [ba_app, List.append_assoc])
def hexS : ByteArray := bs [48, 49, 50, 51, 52, 53, 54, 55, 56, 57, 97, 98, 99, 100, 101, 102]
def hexL (x : Int) : List Int := [sAt hexS (x / 16), sAt hexS (x % 16)]
theorem byte_shr (x : Int) (h : 0 ≤ x ∧ x ≤ 255) : bshr .u8 x 4 = x / 16 := by
  have key : ∀ n : Fin 256, bshr .u8 ((n.val : Nat) : Int) 4 = ((n.val : Nat) : Int) / 16 := by decide +kernel
  have := key ⟨x.toNat, by omega⟩
  have e : ((x.toNat : Nat) : Int) = x := by omega
  simpa [e] using this
theorem byte_and (x : Int) (h : 0 ≤ x ∧ x ≤ 255) : band .u8 x 15 = x % 16 := by
  have key : ∀ n : Fin 256, band .u8 ((n.val : Nat) : Int) 15 = ((n.val : Nat) : Int) % 16 := by decide +kernel
  have := key ⟨x.toNat, by omega⟩
  have e : ((x.toNat : Nat) : Int) = x := by omega
  simpa [e] using this
theorem bstr_app (a b : List Int) : bstr (a ++ b) = bstr a ++ bstr b := ba_ext (by rw [ba_app, bstr_list, bstr_list, bstr_list, List.map_append])
theorem bstr_size (a : List Int) : (bstr a).size = a.length := by rw [ba_size, bstr_list, List.length_map]
theorem spec_HexText_l0_val (b : List Int) : ∀ (t : List Int) (v : ByteArray), byB t → v.size + 2 * t.length ≤ 100000000 → spec_HexText_l0 b t v = some (v ++ bstr (t.flatMap hexL))
  | [], v, _, _ => by simp only [spec_HexText_l0, List.flatMap_nil]; rw [show bstr [] = bs [] from rfl, ba_app_nil]
  | x :: t, v, hb, hv => by
    simp only [List.length_cons] at hv
    have hx := hb x (by simp)
    have ih := spec_HexText_l0_val b t (v ++ bstr (hexL x)) (fun y hy => hb y (by simp [hy])) (by rw [size_app, bstr_size]; simp [hexL]; omega)
    have e1 : i64 x = x := i64_of (by omega) (by omega)
    have e2 : Int.tdiv x 16 = x / 16 := Int.tdiv_eq_ediv_of_nonneg (by omega)
    have e3 : Int.tmod x 16 = x % 16 := Int.tmod_eq_emod_of_nonneg (by omega)
    have e4 : i64 (x / 16) = x / 16 := i64_of (by omega) (by omega)
    have hs : (bs [48, 49, 50, 51, 52, 53, 54, 55, 56, 57, 97, 98, 99, 100, 101, 102]).size = 16 := rfl
    have c1 : v.size + (bstr [sAt (bs [48, 49, 50, 51, 52, 53, 54, 55, 56, 57, 97, 98, 99, 100, 101, 102]) (x / 16), sAt (bs [48, 49, 50, 51, 52, 53, 54, 55, 56, 57, 97, 98, 99, 100, 101, 102]) (x % 16)]).size ≤ 9223372036854775807 := by rw [bstr_size]; simp only [List.length_cons, List.length_nil]; omega
    unfold spec_HexText_l0
    simp only [e1, e2, e3, e4, hs, show (0 : Int) ≤ x / 16 by omega, show x / 16 < ((16 : Nat) : Int) by omega, show (0 : Int) ≤ x % 16 by omega, show x % 16 < ((16 : Nat) : Int) by omega, c1, decide_true, if_true]
    rw [show bstr [sAt (bs [48, 49, 50, 51, 52, 53, 54, 55, 56, 57, 97, 98, 99, 100, 101, 102]) (x / 16), sAt (bs [48, 49, 50, 51, 52, 53, 54, 55, 56, 57, 97, 98, 99, 100, 101, 102]) (x % 16)] = bstr (hexL x) from rfl, ih, List.flatMap_cons, bstr_app, ba_assoc]
theorem impl_HexText_l0_val (b : List Int) : ∀ (t v : List Int), byB t → v.length + 2 * t.length ≤ 100000000 → impl_HexText_l0 b t v = some (v ++ t.flatMap hexL)
  | [], v, _, _ => by simp [impl_HexText_l0]
  | x :: t, v, hb, hv => by
    simp only [List.length_cons] at hv
    have hx := hb x (by simp)
    have ih := impl_HexText_l0_val b t (v ++ hexL x) (fun y hy => hb y (by simp [hy])) (by simp [hexL]; omega)
    have hs : (bs [48, 49, 50, 51, 52, 53, 54, 55, 56, 57, 97, 98, 99, 100, 101, 102]).size = 16 := rfl
    unfold impl_HexText_l0
    simp only [byte_shr x hx, byte_and x hx, hs, show (0 : Int) ≤ x / 16 by omega, show x / 16 < ((16 : Nat) : Int) by omega, show (0 : Int) ≤ x % 16 by omega, show x % 16 < ((16 : Nat) : Int) by omega, capOk_of (show v.length + 2 ≤ 274877906944 by omega), decide_true, if_true]
    rw [show [sAt (bs [48, 49, 50, 51, 52, 53, 54, 55, 56, 57, 97, 98, 99, 100, 101, 102]) (x / 16), sAt (bs [48, 49, 50, 51, 52, 53, 54, 55, 56, 57, 97, 98, 99, 100, 101, 102]) (x % 16)] = hexL x from rfl, ih, List.flatMap_cons, List.append_assoc]
def hexT (l : List Int) : ByteArray := bstr (l.flatMap hexL)
theorem hexT_size (l : List Int) : (hexT l).size = 2 * l.length := by
  unfold hexT
  rw [bstr_size]
  induction l with
  | nil => rfl
  | cons x t ih => rw [List.flatMap_cons, List.length_append, ih]; simp [hexL]; omega
theorem HexText_val (l : List Int) (hb : byB l) (h : l.length ≤ 4000000) : spec_HexText l = some (hexT l) ∧ impl_HexText l = some (hexT l) := by
  unfold spec_HexText impl_HexText
  rw [spec_HexText_l0_val l l (bs []) hb (by rw [show (bs []).size = 0 from rfl]; omega), impl_HexText_l0_val l l [] hb (by simp; omega), ba_nil_app]
  simp only [capOk_of (show l.length ≤ 274877906944 by omega), if_true, Option.bind_some, List.nil_append]
  exact ⟨rfl, rfl⟩
theorem EventOk_tot (e : Event) : ∃ b, spec_EventOk e = some b ∧ impl_EventOk e = some b := by
  unfold spec_EventOk impl_EventOk
  simp only [l01In_val, within_val, Option.bind_some]
  rcases tf (e.Kind == 1) with q | q
  · rcases tf (e.K == 0) with q2 | q2 <;> simp [q, q2]
  · rcases tf (e.Kind == 2) with q2 | q2
    · rcases tf (decide (0 ≤ e.K) && decide (e.K ≤ 11)) with q3 | q3 <;> simp only [q, q2, q3, if_true, if_false, Bool.false_eq_true] <;> exact ⟨_, rfl, rfl⟩
    · rcases tf (e.Kind == 3) with q4 | q4
      · rcases tf (decide (1 ≤ e.K) && decide (e.K ≤ 1000)) with q3 | q3 <;> simp only [q, q2, q3, q4, if_true, if_false, Bool.false_eq_true] <;> exact ⟨_, rfl, rfl⟩
      · simp only [q, q2, q4, if_false, Bool.false_eq_true]; exact ⟨_, rfl, rfl⟩
/-- The text of an event; nothing where it is none. -/
def eventT (e : Event) : ByteArray := (spec_EventText e).getD (bs [])
theorem EventText_at (e : Event) (h : e.Data.length ≤ 4000000) (hb : byB e.Data) : spec_EventText e = some (eventT e) ∧ impl_EventText e = some (eventT e) ∧ (eventT e).size ≤ 2 * e.Data.length + 30 := by
  obtain ⟨b, e1, e2⟩ := EventOk_tot e
  obtain ⟨x1, x2⟩ := HexText_val e.Data hb h
  have hz := hexT_size e.Data
  have hn := numT_size e.K
  have s1 : (bs [97, 114, 114, 105, 118, 101, 32]).size = 7 := rfl
  have s2 : (bs [112, 105, 99, 107, 32]).size = 5 := rfl
  have s3 : (bs [112, 97, 115, 115, 32]).size = 5 := rfl
  have c1 : (bs [97, 114, 114, 105, 118, 101, 32]).size + (hexT e.Data).size ≤ 9223372036854775807 := by omega
  have c2 : (bs [112, 105, 99, 107, 32]).size + (numT e.K).size ≤ 9223372036854775807 := by omega
  have c3 : (bs [112, 97, 115, 115, 32]).size + (numT e.K).size ≤ 9223372036854775807 := by omega
  have z : (bs []).size = 0 := rfl
  suffices hh : ∃ y, spec_EventText e = some y ∧ impl_EventText e = some y ∧ y.size ≤ 2 * e.Data.length + 30 by
    obtain ⟨y, p, q, r⟩ := hh
    unfold eventT
    rw [p]
    exact ⟨rfl, q, r⟩
  unfold spec_EventText impl_EventText
  rw [e1, e2, x1, x2]
  simp only [Option.bind_some, spec_NumText_val, impl_NumText_val, c1, c2, c3, decide_true, if_true]
  rcases tf b with q | q
  · rcases tf (e.Kind == 1) with q2 | q2
    · simp only [q, q2, if_true]
      exact ⟨_, rfl, rfl, by rw [size_app]; omega⟩
    · rcases tf (e.Kind == 2) with q3 | q3
      · simp only [q, q2, q3, if_true, if_false, Bool.false_eq_true]
        exact ⟨_, rfl, rfl, by rw [size_app]; omega⟩
      · simp only [q, q2, q3, if_true, if_false, Bool.false_eq_true]
        exact ⟨_, rfl, rfl, by rw [size_app]; omega⟩
  · simp only [q, if_false, Bool.false_eq_true]
    exact ⟨_, rfl, rfl, by omega⟩
theorem sbytes_len (s : ByteArray) : (sbytes s).length = s.size := by unfold sbytes; rw [List.length_map, ← ba_size]
theorem sAt_get (s : ByteArray) {i : Nat} (h : i < s.size) : (sbytes s)[i]? = some (sAt s (i : Int)) := by
  rcases s with ⟨⟨l⟩⟩
  have h : i < l.length := h
  simp [sbytes, sAt, h]
theorem sbytes_by (s : ByteArray) : byB (sbytes s) := fun b hb => by
  unfold sbytes at hb
  rw [List.mem_map] at hb
  obtain ⟨x, _, rfl⟩ := hb
  have := x.toNat_lt
  omega
def digI (x : Int) : Bool := decide (48 ≤ x) && decide (x ≤ 57)
def digB (s : ByteArray) : Bool := decide (0 < s.size) && (sbytes s).all digI
/-- A loop that looks at each byte. -/
theorem scan_loop {L : Nat → Int → Option (Lo Unit Unit)} (s : ByteArray) (hs : s.size ≤ 4000000) (lo hi : Int) (q : Int → Bool) (hq : ∀ x, q x = (decide (lo ≤ x) && decide (x ≤ hi)))
    (h1 : ∀ n v, L (n + 1) v = if (decide (v < (s.size : Int))) = true then if (decide (0 ≤ v)) = true then if (decide ((v : Int) < (s.size : Int))) = true then if (decide ((sAt s v) < lo)) = true then some (.ret ()) else if (decide (hi < (sAt s v))) = true then some (.ret ()) else L n (i64 (v + 1)) else none else none else some (.out ())) :
    ∀ (n v : Nat), v ≤ s.size → s.size - v < n → L n (v : Int) = some (if ((sbytes s).drop v).all q = true then .out () else .ret ())
  | 0, v, h, hn => by omega
  | n + 1, v, h, hn => by
    rw [h1]
    by_cases hv : v < s.size
    · have hl : v < (sbytes s).length := by rw [sbytes_len]; exact hv
      have hd : (sbytes s).drop v = sAt s v :: (sbytes s).drop (v + 1) := by
        have := sAt_get s hv
        rw [List.getElem?_eq_getElem hl] at this
        rw [List.drop_eq_getElem_cons hl, Option.some.inj this]
      have hi' : i64 ((v : Int) + 1) = ((v + 1 : Nat) : Int) := by rw [i64_of (by omega) (by omega)]; omega
      have ih := scan_loop s hs lo hi q hq h1 n (v + 1) (by omega) (by omega)
      rw [hd, List.all_cons, hq, hi', ih]
      simp only [show (v : Int) < (s.size : Int) by omega, show (0 : Int) ≤ (v : Int) by omega, decide_true, if_true]
      by_cases a : sAt s v < lo
      · simp [a, show ¬ lo ≤ sAt s v by omega]
      · by_cases b : hi < sAt s v
        · simp [a, b, show ¬ sAt s v ≤ hi by omega]
        · simp [a, b, show lo ≤ sAt s v by omega, show sAt s v ≤ hi by omega]
    · have : (sbytes s).drop v = [] := List.drop_eq_nil_of_le (by rw [sbytes_len]; omega)
      rw [this]
      simp [show ¬ (v : Int) < (s.size : Int) by omega]
theorem Digits_s (s : ByteArray) (hs : s.size ≤ 4000000) : spec_Digits s = some (digB s) := by
  have e1 : spec_Digits_l0 s FUEL 0 = some (if (sbytes s).all digI = true then .out () else .ret ()) := scan_loop (L := spec_Digits_l0 s) s hs 48 57 digI (fun _ => rfl) (fun _ _ => rfl) FUEL 0 (by omega) (by unfold FUEL; omega)
  unfold spec_Digits digB
  rw [e1]
  cases (sbytes s).all digI with
  | false => simp [Lo.elim]
  | true =>
    by_cases h : s.size = 0
    · simp [Lo.elim, h]
    · simp [Lo.elim, h, show (0 : Int) < (s.size : Int) by omega, show 0 < s.size by omega]
theorem index_one (c b : UInt8) (l : List UInt8) : Lib.index (b :: l) [c] = if b = c then 0 else if Lib.index l [c] = -1 then -1 else Lib.index l [c] + 1 := by
  rw [Lib.index]
  by_cases h : b = c
  · subst h; simp
  · have : ¬ c = b := fun e => h e.symm
    simp [h, this]
theorem split_one (c : UInt8) : ∀ l : List UInt8, (c ∉ l ∧ Lib.index l [c] = -1) ∨ ∃ p t, l = p ++ c :: t ∧ c ∉ p ∧ Lib.index l [c] = (p.length : Nat)
  | [] => .inl ⟨by simp, rfl⟩
  | b :: l => by
    rw [index_one]
    by_cases h : b = c
    · subst h; exact .inr ⟨[], l, rfl, by simp, by simp⟩
    · rcases split_one c l with ⟨h1, h2⟩ | ⟨p, t, h1, h2, h3⟩
      · exact .inl ⟨by simp [h1, Ne.symm h], by simp [h, h2]⟩
      · refine .inr ⟨b :: p, t, by rw [h1]; rfl, by simp [h2, Ne.symm h], ?_⟩
        rw [h3]
        simp only [h, if_false, List.length_cons]
        rw [if_neg (by omega)]
        omega
theorem ba_extract (a : ByteArray) (i j : Nat) : (a.extract i j).data.toList = (a.data.toList.drop i).take (j - i) := by
  rw [ByteArray.data_extract, Array.toList_extract, List.extract_eq_take_drop]
def numF (n : Int) (l : List Int) : Int := l.foldl (fun n x => n * 10 + (x - 48)) n
def numL (l : List Int) : Int := numF 0 l
theorem numF_cons (n x : Int) (t : List Int) : numF n (x :: t) = numF (n * 10 + (x - 48)) t := rfl
theorem digI_iff {x : Int} : digI x = true ↔ 48 ≤ x ∧ x ≤ 57 := by unfold digI; simp
theorem digB_mem {s : ByteArray} (h : digB s = true) : 1 ≤ s.size ∧ ∀ x ∈ sbytes s, digI x = true := by
  unfold digB at h
  simp only [Bool.and_eq_true, decide_eq_true_eq, List.all_eq_true] at h
  exact ⟨by omega, h.2⟩
def pcs (c : UInt8) : List UInt8 → List (List UInt8)
  | [] => [[]]
  | b :: t => if b = c then [] :: pcs c t else match pcs c t with
    | [] => [[b]]
    | p :: r => (b :: p) :: r
theorem pcs_none {c : UInt8} : ∀ {l : List UInt8}, c ∉ l → pcs c l = [l]
  | [], _ => rfl
  | b :: t, h => by
    have h1 : ¬ b = c := fun e => h (by rw [e]; simp)
    have h2 : c ∉ t := fun e => h (List.mem_cons_of_mem _ e)
    rw [pcs, if_neg h1, pcs_none h2]
theorem pcs_hit {c : UInt8} (t : List UInt8) : ∀ {p : List UInt8}, c ∉ p → pcs c (p ++ c :: t) = p :: pcs c t
  | [], _ => by rw [List.nil_append, pcs, if_pos rfl]
  | b :: p, h => by
    have h1 : ¬ b = c := fun e => h (by rw [e]; simp)
    have h2 : c ∉ p := fun e => h (List.mem_cons_of_mem _ e)
    rw [List.cons_append, pcs, if_neg h1, pcs_hit t h2]
theorem pcs_splitK (c : UInt8) : ∀ (n : Nat) (l : List UInt8), l.length ≤ n → Lib.splitK [c] 0 (Lib.count l [c]) l = pcs c l
  | n, l, hn => by
    rcases split_one c l with ⟨h1, h2⟩ | ⟨p, t, h1, h2, h3⟩
    · rw [Lib.count_miss h2, pcs_none h1]; rfl
    · have hl : l.length = p.length + 1 + t.length := by rw [h1]; simp; omega
      cases n with
      | zero => omega
      | succ n =>
        have hd : l.drop (p.length + [c].length) = t := by
          rw [h1, show p ++ c :: t = (p ++ [c]) ++ t by simp]
          exact List.drop_left' (by simp)
        have ht : l.take (p.length + 0) = p := by rw [h1]; exact List.take_left' (by simp)
        have hm : ¬ (Lib.index l [c] == -1) = true := fun e => by have := beq_iff_eq.1 e; omega
        have he : (Lib.index l [c]).toNat = p.length := by omega
        rw [Lib.count_hit (by simp) h3, Nat.add_comm, Lib.splitK, if_neg hm, he, hd, ht, pcs_splitK c n t (by omega)]
        conv => rhs; rw [h1, pcs_hit t h2]
theorem pcs_ne (c : UInt8) (l : List UInt8) : 1 ≤ (pcs c l).length := by
  rcases split_one c l with ⟨h1, h2⟩ | ⟨p, t, h1, h2, h3⟩
  · rw [pcs_none h1]; simp
  · rw [h1, pcs_hit t h2]; simp
def mkB (l : List UInt8) : ByteArray := ⟨l.toArray⟩
theorem mkB_data (s : ByteArray) : mkB s.data.toList = s := by rcases s with ⟨⟨l⟩⟩; rfl
theorem mkB_size (l : List UInt8) : (mkB l).size = l.length := rfl
def pcsB (c : UInt8) (s : ByteArray) : List ByteArray := (pcs c s.data.toList).map mkB
theorem splitP_val (c : UInt8) (s : ByteArray) : splitP s (bs [c]) = pcsB c s := by
  unfold splitP pcsB
  have h : (Lib.splitB (bs [c]) 0 (Lib.countB s (bs [c])) s).map (·.data.toList) = pcs c s.data.toList := by
    rw [Lib.splitB_data]
    exact pcs_splitK c _ _ (Nat.le_refl _)
  rw [← h, List.map_map]
  conv => lhs; rw [← List.map_id (Lib.splitB (bs [c]) 0 (Lib.countB s (bs [c])) s)]
  apply List.map_congr_left
  intro x _
  exact (mkB_data x).symm
theorem extract_mk (s : ByteArray) (i j : Nat) : s.extract i j = mkB ((s.data.toList.drop i).take (j - i)) := ba_ext (by rw [ba_extract]; rfl)
theorem sAt_byte (s : ByteArray) {i : Nat} (h : i < s.data.toList.length) : sAt s (i : Int) = ((s.data.toList[i]).toNat : Int) := by
  rcases s with ⟨⟨l⟩⟩
  have h : i < l.length := h
  simp [sAt, h]
theorem l01Split_l0_val (s : ByteArray) (hs : s.size ≤ 4000000) (c : UInt8) : ∀ (fuel i a : Nat) (w : List ByteArray), a ≤ i → i ≤ s.size → s.size + 1 - i < fuel → c ∉ (s.data.toList.drop a).take (i - a) → w.length + (s.size - i) ≤ 100000000 →
    spec_l01Split_l0 s (c.toNat : Int) fuel (a : Int) (i : Int) w = some (w ++ (pcs c (s.data.toList.drop a)).map mkB)
  | 0, i, a, w, _, _, hf, _, _ => by omega
  | fuel + 1, i, a, w, hai, his, hf, hc, hw => by
    have hl : s.data.toList.length = s.size := (ba_size s).symm
    have hi' : i64 ((i : Int) + 1) = ((i + 1 : Nat) : Int) := by rw [i64_of (by omega) (by omega)]; omega
    unfold spec_l01Split_l0
    by_cases h : i < s.size
    · have hil : i < s.data.toList.length := by omega
      have hne : ((i : Int) == (s.size : Int)) = false := beq_false_of_ne (by omega)
      have hsp : s.data.toList.drop a = (s.data.toList.drop a).take (i - a) ++ s.data.toList[i] :: s.data.toList.drop (i + 1) := by
        conv => lhs; rw [← List.take_append_drop (i - a) (s.data.toList.drop a)]
        congr 1
        rw [List.drop_drop, show a + (i - a) = i by omega, List.drop_eq_getElem_cons hil]
      simp only [show (i : Int) ≤ (s.size : Int) by omega, hne, show (0 : Int) ≤ (i : Int) by omega, show (i : Int) < (s.size : Int) by omega, sAt_byte s hil, decide_true, if_true, Bool.false_eq_true, if_false]
      by_cases hb : s.data.toList[i] = c
      · have hq : (((s.data.toList[i]).toNat : Int) == (c.toNat : Int)) = true := by rw [hb]; simp
        simp only [hq, if_true, show (0 : Int) ≤ (a : Int) by omega, show (a : Int) ≤ (i : Int) by omega, decide_true, capOk_of (show w.length + 1 ≤ 274877906944 by omega), hi', Int.toNat_natCast]
        rw [l01Split_l0_val s hs c fuel (i + 1) (i + 1) (w ++ [s.extract a i]) (Nat.le_refl _) (by omega) (by omega) (by simp) (by simp; omega), extract_mk]
        conv => rhs; rw [hsp, hb, pcs_hit _ hc]
        simp
      · have hq : (((s.data.toList[i]).toNat : Int) == (c.toNat : Int)) = false := beq_false_of_ne (fun e => hb (UInt8.toNat_inj.1 (by omega)))
        simp only [hq, Bool.false_eq_true, if_false, hi']
        refine l01Split_l0_val s hs c fuel (i + 1) a w (by omega) (by omega) (by omega) ?_ (by omega)
        rw [show i + 1 - a = (i - a) + 1 by omega, List.take_add_one]
        have : (s.data.toList.drop a)[i - a]? = some s.data.toList[i] := by
          rw [List.getElem?_drop, show a + (i - a) = i by omega]; exact List.getElem?_eq_getElem hil
        rw [this]
        simp only [Option.toList_some, List.mem_append, List.mem_singleton, not_or]
        exact ⟨hc, fun e => hb e.symm⟩
    · have he : i = s.size := by omega
      subst he
      cases fuel with
      | zero => omega
      | succ m =>
        have hd : (s.data.toList.drop a).take (s.size - a) = s.data.toList.drop a := List.take_of_length_le (by rw [List.length_drop]; omega)
        rw [hd] at hc
        simp only [show (s.size : Int) ≤ (s.size : Int) from Int.le_refl _, beq_self_eq_true, show (0 : Int) ≤ (a : Int) by omega, show (a : Int) ≤ (s.size : Int) by omega, decide_true, if_true, capOk_of (show w.length + 1 ≤ 274877906944 by omega), hi', Int.toNat_natCast]
        unfold spec_l01Split_l0
        simp only [show ¬ ((s.size + 1 : Nat) : Int) ≤ (s.size : Int) by omega, decide_false, Bool.false_eq_true, if_false]
        rw [extract_mk, hd, pcs_none hc]
        rfl
theorem l01Split_val (s : ByteArray) (hs : s.size ≤ 4000000) (c : UInt8) : spec_l01Split s (c.toNat : Int) = some (pcsB c s) := by
  have h : spec_l01Split_l0 s (c.toNat : Int) FUEL 0 0 [] = some ([] ++ (pcs c (s.data.toList.drop 0)).map mkB) := l01Split_l0_val s hs c FUEL 0 0 [] (by omega) (by omega) (by unfold FUEL; omega) (by simp) (by simp; omega)
  unfold spec_l01Split
  rw [h]
  rfl
theorem pcsB_len (c : UInt8) (s : ByteArray) : 1 ≤ (pcsB c s).length := by unfold pcsB; rw [List.length_map]; exact pcs_ne c _
theorem pcs_wt (c : UInt8) : ∀ (n : Nat) (l : List UInt8), l.length ≤ n → wtL (fun s : ByteArray => s.size) ((pcs c l).map mkB) ≤ l.length + 1
  | n, l, hn => by
    rcases split_one c l with ⟨h1, h2⟩ | ⟨p, t, h1, h2, h3⟩
    · rw [pcs_none h1]
      simp only [List.map_cons, List.map_nil, wtL, mkB_size]; omega
    · have hl : l.length = p.length + 1 + t.length := by rw [h1]; simp; omega
      cases n with
      | zero => omega
      | succ n =>
        have := pcs_wt c n t (by omega)
        conv => lhs; rw [h1, pcs_hit t h2]
        simp only [List.map_cons, wtL, mkB_size]; omega
theorem pcsB_wt (c : UInt8) (s : ByteArray) : wtL (fun s : ByteArray => s.size) (pcsB c s) ≤ s.size + 1 := by
  have := pcs_wt c _ s.data.toList (Nat.le_refl _)
  rw [← ba_size] at this
  exact this
theorem strings_Split_val (s : ByteArray) (hs : s.size ≤ 4000000) (c : UInt8) : strings_Split s (bs [c]) = some (pcsB c s) := by
  have h1 : (bs [c]).size = 1 := rfl
  have h2 := pcsB_wt c s
  have h3 := wtL_len (fun s : ByteArray => s.size) (pcsB c s)
  unfold strings_Split
  rw [splitP_val, h1, if_pos]
  simp only [Bool.and_eq_true, decide_eq_true_eq]
  omega
/-- The lines of a text. -/
def linesB (s : ByteArray) : List ByteArray := if ((pcsB 10 s).getLastD (bs []) == bs []) = true then (pcsB 10 s).take ((pcsB 10 s).length - 1) else pcsB 10 s
theorem Lines_val (s : ByteArray) (hs : s.size ≤ 4000000) : spec_Lines s = some (linesB s) ∧ impl_Lines s = some (linesB s) := by
  have h0 : spec_l01Split s 10 = some (pcsB 10 s) := l01Split_val s hs 10
  have h1 := strings_Split_val s hs 10
  have hl := pcsB_len 10 s
  have h2 := pcsB_wt 10 s
  have h3 := wtL_len (fun s : ByteArray => s.size) (pcsB 10 s)
  unfold spec_Lines impl_Lines linesB
  rw [h0, h1]
  generalize pcsB 10 s = r at *
  have e : i64 ((r.length : Int) - 1) = ((r.length - 1 : Nat) : Int) := by rw [i64_of (by omega) (by omega)]; omega
  have hg : r[r.length - 1]? = some (r.getLastD (bs [])) := by
    rw [← List.getLast?_eq_getElem?]
    cases r with
    | nil => simp at hl
    | cons x t => rw [List.getLastD_cons, List.getLast?_cons, List.getLastD_eq_getLast?]
  simp only [Option.bind_some, e, Int.natCast_nonneg, decide_true, if_true, Int.toNat_natCast, hg, show ((r.length - 1 : Nat) : Int) ≤ (r.length : Int) by omega]
  rcases tf (r.getLastD (bs []) == bs []) with q | q <;> simp only [q, if_true, Bool.false_eq_true, if_false, and_self]
theorem linesB_wt (s : ByteArray) : wtL (fun s : ByteArray => s.size) (linesB s) ≤ s.size + 1 := by
  have h := pcsB_wt 10 s
  unfold linesB
  split
  · have : ∀ (l : List ByteArray) (n : Nat), wtL (fun s : ByteArray => s.size) (l.take n) ≤ wtL (fun s : ByteArray => s.size) l := fun l => by
      induction l with
      | nil => intro n; simp
      | cons x t ih =>
        intro n
        cases n with
        | zero => simp [wtL]
        | succ n => have := ih n; simp only [List.take_succ_cons, wtL]; omega
    exact Nat.le_trans (this _ _) h
  · exact h
/-- A text cut at its first blank. -/
theorem Cut_one (s : ByteArray) (hs : s.size ≤ 4000000) : strings_Cut s (bs [32]) = some (cutP s (bs [32])) := by
  unfold strings_Cut
  rw [if_pos (decide_eq_true (by omega))]
theorem cutP_none {s : ByteArray} (h : (32 : UInt8) ∉ s.data.toList) : cutP s (bs [32]) = (s, bs [], false) := by
  rcases split_one 32 s.data.toList with ⟨h1, h2⟩ | ⟨p, t, h1, h2, h3⟩
  · have h2 : Lib.index s.data.toList (bs [32]).data.toList = -1 := h2
    unfold cutP Lib.cut
    simp only [h2, show ¬ (0 : Int) ≤ -1 by decide, if_false]
    rw [show (⟨s.data.toList.toArray⟩ : ByteArray) = s from mkB_data s]
    rfl
  · exact absurd (by rw [h1]; simp) h
theorem cutP_hit {s : ByteArray} {p t : List UInt8} (h : s.data.toList = p ++ 32 :: t) (hp : (32 : UInt8) ∉ p) : cutP s (bs [32]) = (mkB p, mkB t, true) := by
  have hi : Lib.index s.data.toList (bs [32]).data.toList = (p.length : Nat) := by
    rcases split_one 32 s.data.toList with ⟨h1, h2⟩ | ⟨q, u, h1, h2, h3⟩
    · exact absurd (by rw [h]; simp) h1
    · have : pcs 32 s.data.toList = p :: pcs 32 t := by rw [h, pcs_hit t hp]
      rw [h1, pcs_hit u h2] at this
      simp only [List.cons.injEq] at this
      rw [← this.1]; exact h3
  unfold cutP Lib.cut
  have e1 : s.data.toList.take p.length = p := by rw [h]; exact List.take_left' rfl
  have e2 : s.data.toList.drop (p.length + 1) = t := by
    rw [h, show p ++ 32 :: t = (p ++ [32]) ++ t by simp]
    exact List.drop_left' (by simp)
  simp only [hi, Int.natCast_nonneg, if_true, Int.toNat_natCast, show (bs [32]).data.toList.length = 1 from rfl, e1, e2]
  rfl
theorem parse_digits2 : ∀ (l : List UInt8) (acc k : Nat), (∀ b ∈ l, digI (b.toNat : Int) = true) → acc < 10 ^ k → k + l.length ≤ 19 → ∃ u, Lib.parseUint10 acc l = .ok u ∧ (u : Int) = numF (acc : Int) (l.map fun b => (b.toNat : Int)) ∧ u < 10 ^ (k + l.length)
  | [], acc, k, _, h1, _ => ⟨acc, rfl, rfl, h1⟩
  | c :: r, acc, k, hd, h1, h2 => by
    have hx := digI_iff.1 (hd c (by simp))
    simp only [List.length_cons] at h2
    have hk : (10 : Nat) ^ k ≤ 10 ^ 18 := Nat.pow_le_pow_right (by decide) (by omega)
    have hk2 : (10 : Nat) ^ (k + 1) = 10 ^ k * 10 := Nat.pow_succ _ _
    obtain ⟨u, e1, e2, e3⟩ := parse_digits2 r (acc * 10 + (c.toNat - 48)) (k + 1) (fun b hb => hd b (by simp [hb])) (by omega) (by omega)
    refine ⟨u, ?_, ?_, by rw [List.length_cons, show k + (r.length + 1) = k + 1 + r.length by omega]; exact e3⟩
    · rw [Lib.parseUint10, if_pos (by omega), if_neg (by omega), if_neg (by omega), e1]
    · rw [List.map_cons, numF_cons, e2]
      congr 1
      omega
theorem atoi_digits2 (s : ByteArray) (h : digB s = true) (hs : s.size ≤ 19) : Lib.atoiAll s.data.toList = if 9223372036854775808 ≤ numL (sbytes s) then .range else .ok (numL (sbytes s)) := by
  obtain ⟨h1, h2⟩ := digB_mem h
  have hd : ∀ b ∈ s.data.toList, digI (b.toNat : Int) = true := fun b hb => h2 _ (by unfold sbytes; exact List.mem_map_of_mem hb)
  have hl : s.data.toList.length = s.size := (ba_size s).symm
  obtain ⟨u, e1, e2, e3⟩ := parse_digits2 s.data.toList 0 0 hd (by decide) (by omega)
  have e2 : (u : Int) = numL (sbytes s) := e2
  rw [← e2]
  cases hq : s.data.toList with
  | nil => rw [hq] at hl; simp at hl; omega
  | cons c r =>
    have hc := digI_iff.1 (hd c (by rw [hq]; simp))
    rw [hq] at e1
    unfold Lib.atoiAll
    simp only [show ¬ (c.toNat = 43 ∨ c.toNat = 45) by omega, if_false]
    unfold Lib.parseMag
    rw [if_neg (by simp), e1]
    by_cases hu : 9223372036854775808 ≤ u
    · simp only [show ¬ (c.toNat = 45) by omega, not_false_eq_true, true_and, hu, if_true, show (9223372036854775808 : Int) ≤ (u : Int) by omega]
    · simp only [show ¬ (c.toNat = 45) by omega, not_false_eq_true, true_and, false_and, if_false, hu, show ¬ (9223372036854775808 : Int) ≤ (u : Int) by omega]
theorem decDigits_dig (u : Nat) : ∀ b ∈ Lib.decDigits u, 48 ≤ b.toNat ∧ b.toNat ≤ 57 := by
  induction u using Nat.strongRecOn with
  | _ u ih =>
    rw [Lib.decDigits]
    split
    · intro b hb
      simp only [List.mem_singleton] at hb
      subst hb
      rw [UInt8.toNat_ofNat']
      omega
    · intro b hb
      rw [List.mem_append] at hb
      rcases hb with hb | hb
      · exact ih (u / 10) (by omega) b hb
      · simp only [List.mem_singleton] at hb
        subst hb
        rw [UInt8.toNat_ofNat']
        omega
theorem numT_dig {n : Int} (h : money n = true) : (numT n).data.toList = Lib.decDigits n.toNat ∧ (numT n).size ≤ 19 ∧ 1 ≤ (numT n).size := by
  obtain ⟨h0, h1⟩ := money_bounds h
  have e : (numT n).data.toList = Lib.decDigits n.toNat := by
    unfold numT Lib.itoa
    rw [if_pos h, if_neg (by omega)]
  refine ⟨e, ?_, ?_⟩
  · rw [ba_size, e]; exact decDigits_len 18 n.toNat (by omega)
  · rw [ba_size, e, Lib.decDigits]; split <;> simp
theorem numT_digB {n : Int} (h : money n = true) : digB (numT n) = true := by
  obtain ⟨e, _, e1⟩ := numT_dig h
  unfold digB
  rw [decide_eq_true (show 0 < (numT n).size by omega), Bool.true_and, List.all_eq_true]
  intro x hx
  unfold sbytes at hx
  rw [e, List.mem_map] at hx
  obtain ⟨b, hb, rfl⟩ := hx
  have := decDigits_dig n.toNat b hb
  exact digI_iff.2 (by omega)
def tnum (s : ByteArray) : Int × Bool := match Lib.atoiAll s.data.toList with
  | .ok v => if (money v && (numT v == s)) = true then (v, true) else (0, false)
  | _ => (0, false)
theorem impl_TextNum_val (s : ByteArray) (hs : s.size ≤ 4000000) : impl_TextNum s = some (tnum s) := by
  unfold impl_TextNum tnum
  rw [if_pos (decide_eq_true (by omega))]
  cases hv : Lib.atoiAll s.data.toList with
  | ok v =>
    simp only [isMoney_val, Option.bind_some]
    rcases tf (money v) with q | q
    · simp only [q, if_true, impl_NumText_val, Option.bind_some, Bool.true_and]
      rcases tf (numT v == s) with p | p <;> simp only [p, if_true, Bool.false_eq_true, if_false]
    · simp only [q, Bool.false_eq_true, if_false, Bool.false_and]
  | «syntax» => rfl
  | range => rfl
theorem numF_mono : ∀ (l : List Int) (n : Int), (∀ x ∈ l, digI x = true) → 0 ≤ n → n ≤ numF n l
  | [], n, _, h0 => Int.le_refl n
  | x :: t, n, hd, h0 => by
    have hx := digI_iff.1 (hd x (by simp))
    have := numF_mono t (n * 10 + (x - 48)) (fun y hy => hd y (by simp [hy])) (by omega)
    rw [numF_cons]
    omega
theorem spec_TextNum_l0_val (s : ByteArray) (hs : s.size ≤ 4000000) (hd : ∀ x ∈ sbytes s, digI x = true) : ∀ (fuel v : Nat) (n : Int), v ≤ s.size → s.size - v < fuel → 0 ≤ n → n ≤ 4611686018427387904 →
    spec_TextNum_l0 s fuel n (v : Int) = some (if numF n ((sbytes s).drop v) ≤ 4611686018427387904 then .out (numF n ((sbytes s).drop v)) else .ret ())
  | 0, v, n, _, hf, _, _ => by omega
  | fuel + 1, v, n, h, hf, h0, h1 => by
    unfold spec_TextNum_l0
    by_cases hv : v < s.size
    · have hl : v < (sbytes s).length := by rw [sbytes_len]; exact hv
      have hx := digI_iff.1 (hd _ (List.getElem_mem hl))
      have he : (sbytes s)[v] = sAt s (v : Int) := by
        have := sAt_get s hv
        rw [List.getElem?_eq_getElem hl] at this
        exact Option.some.inj this
      have hdr : ∀ x ∈ (sbytes s).drop (v + 1), digI x = true := fun x hx => hd x (List.mem_of_mem_drop hx)
      rw [List.drop_eq_getElem_cons hl, numF_cons, he]
      rw [he] at hx
      have hi' : i64 ((v : Int) + 1) = ((v + 1 : Nat) : Int) := by rw [i64_of (by omega) (by omega)]; omega
      generalize sAt s (v : Int) = x at *
      have e1 : i64 x = x := i64_of (by omega) (by omega)
      have e2 : i64 (x - 48) = x - 48 := i64_of (by omega) (by omega)
      have e3 : i64 (4611686018427387904 - (x - 48)) = 4611686018427387904 - (x - 48) := i64_of (by omega) (by omega)
      have e4 : Int.tdiv (4611686018427387904 - (x - 48)) 10 = (4611686018427387904 - (x - 48)) / 10 := Int.tdiv_eq_ediv_of_nonneg (by omega)
      have e5 : i64 ((4611686018427387904 - (x - 48)) / 10) = (4611686018427387904 - (x - 48)) / 10 := i64_of (by omega) (by omega)
      simp only [show (v : Int) < (s.size : Int) by omega, show (0 : Int) ≤ (v : Int) by omega, decide_true, if_true, e1, e2, e3, e4, e5]
      by_cases hc : (4611686018427387904 - (x - 48)) / 10 < n
      · have := numF_mono _ (n * 10 + (x - 48)) hdr (by omega)
        simp only [hc, decide_true, if_true]
        rw [if_neg (by omega)]
      · have e6 : i64 (n * 10) = n * 10 := i64_of (by omega) (by omega)
        have e7 : i64 (n * 10 + (x - 48)) = n * 10 + (x - 48) := i64_of (by omega) (by omega)
        simp only [hc, decide_false, Bool.false_eq_true, if_false, e6, e7, hi']
        exact spec_TextNum_l0_val s hs hd fuel (v + 1) (n * 10 + (x - 48)) (by omega) (by omega) (by omega) (by omega)
    · have : (sbytes s).drop v = [] := List.drop_eq_nil_of_le (by rw [sbytes_len]; omega)
      rw [this]
      simp only [show ¬ (v : Int) < (s.size : Int) by omega, decide_false, Bool.false_eq_true, if_false]
      rw [if_pos (show numF n [] ≤ _ from h1)]
      rfl
theorem tnum_off {s : ByteArray} (h : digB s = false ∨ 19 < s.size) : tnum s = (0, false) := by
  unfold tnum
  split
  · rename_i v hv
    rcases tf (money v && (numT v == s)) with q | q
    · simp only [Bool.and_eq_true, beqB, decide_eq_true_eq] at q
      have h1 := numT_digB q.1
      have h2 := (numT_dig q.1).2.1
      rw [q.2] at h1 h2
      rcases h with h | h
      · rw [h] at h1; cases h1
      · omega
    · simp only [q, Bool.false_eq_true, if_false]
  · rfl
theorem spec_TextNum_val (s : ByteArray) (hs : s.size ≤ 4000000) : spec_TextNum s = some (tnum s) := by
  have d1 := Digits_s s hs
  unfold spec_TextNum
  rw [d1, Option.bind_some]
  rcases tf (digB s) with x | x
  · by_cases h : s.size ≤ 19
    · have hd := (digB_mem x).2
      have L : spec_TextNum_l0 s FUEL 0 0 = some (if numL (sbytes s) ≤ 4611686018427387904 then .out (numL (sbytes s)) else .ret ()) := spec_TextNum_l0_val s hs hd FUEL 0 0 (by omega) (by unfold FUEL; omega) (by omega) (by omega)
      have hm := numF_mono (sbytes s) 0 hd (by omega)
      have ha := atoi_digits2 s x h
      unfold tnum
      rw [ha]
      simp only [x, if_true, show ¬ (19 : Int) < (s.size : Int) by omega, decide_false, Bool.false_eq_true, if_false, L, Option.bind_some]
      have hm : 0 ≤ numL (sbytes s) := hm
      generalize numL (sbytes s) = n at *
      by_cases hn : n ≤ 4611686018427387904
      · have hmo : money n = true := by unfold money; simp; omega
        rw [if_pos hn, if_neg (show ¬ 9223372036854775808 ≤ n by omega)]
        simp only [Lo.elim, spec_NumText_val, Option.bind_some, hmo, Bool.true_and]
        rcases tf (numT n == s) with q | q <;> simp only [q, if_true, Bool.false_eq_true, if_false]
      · have hmo : money n = false := by unfold money; simp; omega
        rw [if_neg hn]
        by_cases h9 : 9223372036854775808 ≤ n
        · rw [if_pos h9]; rfl
        · rw [if_neg h9]
          simp only [Lo.elim, hmo, Bool.false_and, Bool.false_eq_true, if_false]
    · rw [tnum_off (.inr (by omega))]
      simp only [x, if_true, show (19 : Int) < (s.size : Int) by omega, decide_true]
  · rw [tnum_off (.inl x)]
    simp only [x, Bool.false_eq_true, if_false]
def hx (x : Int) : Int := idxbP hexS x
theorem l02Hex_val {x : Int} (h : 0 ≤ x ∧ x ≤ 255) : spec_l02Hex x = some (hx x) := by
  have key : ∀ n : Fin 256, spec_l02Hex ((n.val : Nat) : Int) = some (hx ((n.val : Nat) : Int)) := by decide +kernel
  have := key ⟨x.toNat, by omega⟩
  have e : ((x.toNat : Nat) : Int) = x := by omega
  simpa only [e] using this
theorem hx_le {x : Int} (h : 0 ≤ x ∧ x ≤ 255) : -1 ≤ hx x ∧ hx x ≤ 15 := by
  have key : ∀ n : Fin 256, -1 ≤ hx ((n.val : Nat) : Int) ∧ hx ((n.val : Nat) : Int) ≤ 15 := by decide +kernel
  have := key ⟨x.toNat, by omega⟩
  have e : ((x.toNat : Nat) : Int) = x := by omega
  simpa only [e] using this
def unhex : List Int → Option (List Int)
  | [] => some []
  | [_] => none
  | x :: y :: t => if (decide (hx x < 0) || decide (hx y < 0)) = true then none else (unhex t).map fun r => (16 * hx x + hx y) :: r
theorem TextHex_l0_val (s : ByteArray) (hs : s.size ≤ 4000000) : ∀ (fuel v : Nat) (w : List Int), v ≤ s.size → (s.size - v) % 2 = 0 → s.size - v < fuel → w.length + s.size ≤ 100000000 + v →
    spec_TextHex_l0 s fuel (v : Int) w = some (match unhex ((sbytes s).drop v) with | none => .ret () | some r => .out (w ++ r)) ∧ impl_TextHex_l0 s fuel (v : Int) w = some (match unhex ((sbytes s).drop v) with | none => .ret () | some r => .out (w ++ r))
  | 0, v, w, _, _, hf, _ => by omega
  | fuel + 1, v, w, h, hp, hf, hw => by
    unfold spec_TextHex_l0 impl_TextHex_l0
    by_cases hv : v < s.size
    · have hl : v + 1 < (sbytes s).length := by rw [sbytes_len]; omega
      have h0 : (sbytes s)[v] = sAt s (v : Int) := by
        have := sAt_get s hv
        rw [List.getElem?_eq_getElem (by omega)] at this
        exact Option.some.inj this
      have h1 : (sbytes s)[v + 1] = sAt s ((v + 1 : Nat) : Int) := by
        have := sAt_get s (i := v + 1) (by omega)
        rw [List.getElem?_eq_getElem hl] at this
        exact Option.some.inj this
      have hd : (sbytes s).drop v = sAt s (v : Int) :: sAt s ((v + 1 : Nat) : Int) :: (sbytes s).drop (v + 2) := by
        rw [List.drop_eq_getElem_cons (show v < (sbytes s).length by omega), h0, List.drop_eq_getElem_cons hl, h1]
      have hi' : i64 ((v : Int) + 1) = ((v + 1 : Nat) : Int) := by rw [i64_of (by omega) (by omega)]; omega
      have hi2 : i64 ((v : Int) + 2) = ((v + 2 : Nat) : Int) := by rw [i64_of (by omega) (by omega)]; omega
      have bx : 0 ≤ sAt s (v : Int) ∧ sAt s (v : Int) ≤ 255 := ⟨sAt_nn _ _, sAt_le _ _⟩
      have by' : 0 ≤ sAt s ((v + 1 : Nat) : Int) ∧ sAt s ((v + 1 : Nat) : Int) ≤ 255 := ⟨sAt_nn _ _, sAt_le _ _⟩
      rw [hd, unhex]
      have ib : ∀ z, strings_IndexByte (bs [48, 49, 50, 51, 52, 53, 54, 55, 56, 57, 97, 98, 99, 100, 101, 102]) z = some (hx z) := fun z => rfl
      simp only [show (v : Int) < (s.size : Int) by omega, show (0 : Int) ≤ (v : Int) by omega, hi', show (0 : Int) ≤ ((v + 1 : Nat) : Int) by omega, show ((v + 1 : Nat) : Int) < (s.size : Int) by omega, decide_true, if_true, l02Hex_val bx, l02Hex_val by', ib, Option.bind_some]
      have lx := hx_le bx
      have ly := hx_le by'
      generalize hx (sAt s (v : Int)) = a at *
      generalize hx (sAt s ((v + 1 : Nat) : Int)) = b at *
      by_cases ha : a < 0
      · simp [ha]
      · by_cases hb : b < 0
        · simp [ha, hb]
        · have e1 : i64 (16 * a) = 16 * a := i64_of (by omega) (by omega)
          have e2 : i64 (16 * a + b) = 16 * a + b := i64_of (by omega) (by omega)
          have e3 : u8 (16 * a + b) = 16 * a + b := u8_of (by omega) (by omega)
          obtain ⟨i1, i2⟩ := TextHex_l0_val s hs fuel (v + 2) (w ++ [16 * a + b]) (by omega) (by omega) (by omega) (by simp; omega)
          simp only [ha, hb, decide_false, Bool.false_eq_true, if_false, Bool.or_self, capOk_of (show w.length + 1 ≤ 274877906944 by omega), if_true, e1, e2, e3, hi2, i1, i2]
          cases unhex ((sbytes s).drop (v + 2)) with
          | none => simp
          | some r => simp
    · have : (sbytes s).drop v = [] := List.drop_eq_nil_of_le (by rw [sbytes_len]; omega)
      rw [this]
      simp [show ¬ (v : Int) < (s.size : Int) by omega, unhex]
theorem unhex_some : ∀ {l r : List Int}, byB l → unhex l = some r → byB r ∧ 2 * r.length = l.length
  | [], r, _, h => by
    obtain rfl := Option.some.inj h
    exact ⟨fun _ hb => (by cases hb), rfl⟩
  | [_], r, _, h => by cases h
  | x :: y :: t, r, hl, h => by
    rw [unhex] at h
    split at h
    · cases h
    · rename_i hc
      simp only [Bool.or_eq_true, decide_eq_true_eq, not_or] at hc
      rw [Option.map_eq_some_iff] at h
      obtain ⟨q, hq, rfl⟩ := h
      obtain ⟨g1, g2⟩ := unhex_some (fun z hz => hl z (by simp [hz])) hq
      have lx := hx_le (hl x (by simp))
      have ly := hx_le (hl y (by simp))
      refine ⟨fun z hz => ?_, by simp; omega⟩
      rcases List.mem_cons.1 hz with rfl | hz
      · omega
      · exact g1 z hz
def thex (s : ByteArray) : List Int × Bool := match unhex (sbytes s) with
  | none => ([], false)
  | some r => (r, true)
theorem TextHex_val (s : ByteArray) (hs : s.size ≤ 4000000) : spec_TextHex s = some (thex s) ∧ impl_TextHex s = some (thex s) := by
  have hm : Int.tmod (s.size : Int) 2 = (s.size : Int) % 2 := Int.tmod_eq_emod_of_nonneg (by omega)
  unfold spec_TextHex impl_TextHex thex
  rw [hm]
  by_cases hp : s.size % 2 = 0
  · obtain ⟨L1, L2⟩ := TextHex_l0_val s hs FUEL 0 [] (by omega) (by omega) (by unfold FUEL; omega) (by simp; omega)
    have L1 : spec_TextHex_l0 s FUEL 0 [] = some (match unhex (sbytes s) with | none => .ret () | some r => .out r) := by simpa using L1
    have L2 : impl_TextHex_l0 s FUEL 0 [] = some (match unhex (sbytes s) with | none => .ret () | some r => .out r) := by simpa using L2
    have hq : ((s.size : Int) % 2 == 1) = false := beq_false_of_ne (by omega)
    rw [L1, L2]
    simp only [hq, Bool.false_eq_true, if_false, Option.bind_some]
    cases unhex (sbytes s) with
    | none => exact ⟨rfl, rfl⟩
    | some r => exact ⟨rfl, rfl⟩
  · have hq : ((s.size : Int) % 2 == 1) = true := by rw [beq_iff_eq]; omega
    have hn : unhex (sbytes s) = none := by
      cases hu : unhex (sbytes s) with
      | none => rfl
      | some r =>
        have := (unhex_some (sbytes_by s) hu).2
        rw [sbytes_len] at this
        omega
    rw [hn]
    simp only [hq, if_true, and_self]
theorem thex_small (s : ByteArray) : byB (thex s).1 ∧ 2 * (thex s).1.length ≤ s.size := by
  unfold thex
  cases hu : unhex (sbytes s) with
  | none => exact ⟨fun _ hb => (by cases hb), by simp⟩
  | some r =>
    obtain ⟨g1, g2⟩ := unhex_some (sbytes_by s) hu
    rw [sbytes_len] at g2
    exact ⟨g1, by show 2 * r.length ≤ _; omega⟩
def blank1 (l : List UInt8) : Prop := ∃ p t, l = p ++ 32 :: t ∧ (32 : UInt8) ∉ p ∧ (32 : UInt8) ∉ t
theorem hexT_blank {l : List Int} (hb : byB l) : (32 : UInt8) ∉ (hexT l).data.toList := by
  unfold hexT
  rw [bstr_list]
  intro h
  rw [List.mem_map] at h
  obtain ⟨x, hx, e⟩ := h
  rw [List.mem_flatMap] at hx
  obtain ⟨y, hy, hx⟩ := hx
  have hyb := hb y hy
  have key : ∀ n : Fin 16, sAt hexS ((n.val : Nat) : Int) ≠ 32 ∧ 0 ≤ sAt hexS ((n.val : Nat) : Int) ∧ sAt hexS ((n.val : Nat) : Int) ≤ 255 := by decide +kernel
  have key2 : ∀ z : Int, 0 ≤ z → z ≤ 15 → UInt8.ofNat (sAt hexS z).toNat ≠ 32 := fun z h0 h1 hc => by
    have := key ⟨z.toNat, by omega⟩
    have ez : ((z.toNat : Nat) : Int) = z := by omega
    simp only [ez] at this
    have := byte_inj (a := sAt hexS z) (b := 32) (by omega) (by omega) (by rw [hc]; rfl)
    omega
  simp only [hexL, List.mem_cons, List.not_mem_nil, or_false] at hx
  rcases hx with rfl | rfl
  · exact key2 _ (by omega) (by omega) e
  · exact key2 _ (by omega) (by omega) e
theorem numT_blank (n : Int) : (32 : UInt8) ∉ (numT n).data.toList := by
  rcases tf (money n) with q | q
  · rw [(numT_dig q).1]
    intro h
    have := decDigits_dig n.toNat _ h
    exact absurd this.1 (by decide)
  · unfold numT
    rw [if_neg (by rw [q]; simp)]
    simp
theorem eventT_blank (e : Event) (hb : byB e.Data) (h : e.Data.length ≤ 4000000) : eventT e = bs [] ∨ blank1 (eventT e).data.toList := by
  obtain ⟨b, e1, e2⟩ := EventOk_tot e
  obtain ⟨x1, x2⟩ := HexText_val e.Data hb h
  have hz := hexT_size e.Data
  have hn := numT_size e.K
  have s1 : (bs [97, 114, 114, 105, 118, 101, 32]).size = 7 := rfl
  have s2 : (bs [112, 105, 99, 107, 32]).size = 5 := rfl
  have s3 : (bs [112, 97, 115, 115, 32]).size = 5 := rfl
  have c1 : (bs [97, 114, 114, 105, 118, 101, 32]).size + (hexT e.Data).size ≤ 9223372036854775807 := by omega
  have c2 : (bs [112, 105, 99, 107, 32]).size + (numT e.K).size ≤ 9223372036854775807 := by omega
  have c3 : (bs [112, 97, 115, 115, 32]).size + (numT e.K).size ≤ 9223372036854775807 := by omega
  unfold eventT spec_EventText
  rw [e1, x1]
  simp only [Option.bind_some, spec_NumText_val, c1, c2, c3, decide_true, if_true]
  rcases tf b with q | q
  · rcases tf (e.Kind == 1) with q2 | q2
    · simp only [q, q2, if_true, Option.getD_some]
      exact .inr ⟨[97, 114, 114, 105, 118, 101], (hexT e.Data).data.toList, by rw [ba_app]; rfl, by decide, hexT_blank hb⟩
    · rcases tf (e.Kind == 2) with q3 | q3
      · simp only [q, q2, q3, if_true, if_false, Bool.false_eq_true, Option.getD_some]
        exact .inr ⟨[112, 105, 99, 107], (numT e.K).data.toList, by rw [ba_app]; rfl, by decide, numT_blank _⟩
      · simp only [q, q2, q3, if_true, if_false, Bool.false_eq_true, Option.getD_some]
        exact .inr ⟨[112, 97, 115, 115], (numT e.K).data.toList, by rw [ba_app]; rfl, by decide, numT_blank _⟩
  · simp only [q, if_false, Bool.false_eq_true, Option.getD_some]
    exact .inl trivial
/-- The event of two words. -/
def evW (w r : ByteArray) : Event :=
  if (w == bs [97, 114, 114, 105, 118, 101]) = true then ⟨1, 0, (thex r).1⟩ else if (w == bs [112, 105, 99, 107]) = true then ⟨2, (tnum r).1, []⟩ else if (w == bs [112, 97, 115, 115]) = true then ⟨3, (tnum r).1, []⟩ else ⟨0, 0, []⟩
theorem evW_small (w r : ByteArray) : byB (evW w r).Data ∧ 2 * (evW w r).Data.length ≤ r.size := by
  unfold evW
  split
  · exact thex_small r
  · split
    · exact ⟨fun _ hb => (by cases hb), Nat.zero_le _⟩
    · split <;> exact ⟨fun _ hb => (by cases hb), Nat.zero_le _⟩
def noEv : Event := ⟨0, 0, []⟩
def tevF (s : ByteArray) : List ByteArray → Event × Bool
  | [w, r] => if (eventT (evW w r) == s) = true then (evW w r, true) else (noEv, false)
  | _ => (noEv, false)
/-- The event of a text. -/
def tev (s : ByteArray) : Event × Bool := tevF s (pcsB 32 s)
theorem pcsB_size {c : UInt8} {s x : ByteArray} (h : x ∈ pcsB c s) : x.size ≤ s.size := by
  have h1 := pcsB_wt c s
  have h2 := wtL_mem (fun s : ByteArray => s.size) (pcsB c s) x h
  omega
theorem spec_TextEvent_val (s : ByteArray) (hs : s.size ≤ 4000000) : spec_TextEvent s = some (tev s) := by
  have h0 : spec_l01Split s 32 = some (pcsB 32 s) := l01Split_val s hs 32
  unfold spec_TextEvent spec_Cut tev
  rw [h0]
  simp only [Option.bind_some]
  unfold spec_TextEvent_c0
  have hsz : ∀ x ∈ pcsB 32 s, x.size ≤ 4000000 := fun x hx => Nat.le_trans (pcsB_size hx) hs
  have hl := pcsB_len 32 s
  have hne : ∀ w r, pcsB 32 s = [w, r] → ¬ s = bs [] := fun w r hq e => by
    rw [e] at hq
    have : pcsB 32 (bs []) = [bs []] := rfl
    rw [this] at hq
    simp at hq
  generalize pcsB 32 s = l at *
  match l, hl, hsz, hne with
  | [w], _, _, _ => simp [Lo.elim, tevF, noEv]
  | w :: r :: x :: t, _, _, _ =>
    have : (((w :: r :: x :: t : List ByteArray).length : Int) != 2) = true := by
      rw [bne_iff_ne]; simp only [List.length_cons]; omega
    simp only [this, if_true, Option.bind_some, Lo.elim, tevF, noEv]
  | [w, r], _, hsz, hne =>
    have hr := hsz r (by simp)
    obtain ⟨g1, g2⟩ := evW_small w r
    have hne := hne w r rfl
    have hlen : ((([w, r] : List ByteArray).length : Int) != 2) = false := rfl
    have c1 : spec_TextEvent_c1 s [w, r] = some ((evW w r).Kind, (evW w r).K, (evW w r).Data) := by
      unfold spec_TextEvent_c1 evW
      simp only [List.getElem?_cons_zero, List.getElem?_cons_succ, Option.bind_some, (TextHex_val r hr).1, spec_TextNum_val r hr]
      rcases tf (w == bs [97, 114, 114, 105, 118, 101]) with a1 | a1
      · simp only [a1, if_true]
      · rcases tf (w == bs [112, 105, 99, 107]) with a2 | a2
        · simp only [a1, a2, if_true, Bool.false_eq_true, if_false]
        · rcases tf (w == bs [112, 97, 115, 115]) with a3 | a3 <;> simp only [a1, a2, a3, if_true, Bool.false_eq_true, if_false]
    simp only [hlen, Bool.false_eq_true, if_false, Option.bind_some, Lo.elim, c1, tevF]
    unfold spec_TextEvent_c2
    have hE : Event.mk (evW w r).Kind (evW w r).K (evW w r).Data = evW w r := rfl
    obtain ⟨t1, _, _⟩ := EventText_at (evW w r) (by omega) g1
    simp only [hE, t1, Option.bind_some]
    rcases tf (eventT (evW w r) == bs []) with q | q
    · have hns : (eventT (evW w r) == s) = false := by
        rw [beqB] at q ⊢
        rw [decide_eq_true_eq] at q
        rw [q, decide_eq_false_iff_not]
        exact fun e => hne e.symm
      simp only [q, hns, if_true, Bool.false_eq_true, if_false, Option.bind_some, noEv]
    · rcases tf (eventT (evW w r) == s) with p | p <;> simp only [q, p, if_true, Bool.false_eq_true, if_false, Option.bind_some, noEv]
theorem impl_TextEvent_val (s : ByteArray) (hs : s.size ≤ 4000000) : impl_TextEvent s = some (tev s) := by
  unfold impl_TextEvent tev
  rw [Cut_one s hs, Option.bind_some]
  have hc : ∀ w r f, r.size ≤ 4000000 → ((impl_TextEvent_c0 s (w, r, f)).bind fun r5 => (impl_TextEvent_c1 s r5).bind fun r7 => Lo.elim r7 (fun s1 => some ((Event.mk r5.1 r5.2.1 r5.2.2), true)) (fun s2 => some ((Event.mk 0 0 []), false)))
      = some (if (!(s == bs []) && (eventT (evW w r) == s)) = true then (evW w r, true) else (noEv, false)) := fun w r f hr => by
    obtain ⟨g1, g2⟩ := evW_small w r
    have c1 : impl_TextEvent_c0 s (w, r, f) = some ((evW w r).Kind, (evW w r).K, (evW w r).Data) := by
      unfold impl_TextEvent_c0 evW
      simp only [(TextHex_val r hr).2, impl_TextNum_val r hr, Option.bind_some]
      rcases tf (w == bs [97, 114, 114, 105, 118, 101]) with a1 | a1
      · simp only [a1, if_true]
      · rcases tf (w == bs [112, 105, 99, 107]) with a2 | a2
        · simp only [a1, a2, if_true, Bool.false_eq_true, if_false]
        · rcases tf (w == bs [112, 97, 115, 115]) with a3 | a3 <;> simp only [a1, a2, a3, if_true, Bool.false_eq_true, if_false]
    rw [c1, Option.bind_some]
    unfold impl_TextEvent_c1
    have hE : Event.mk (evW w r).Kind (evW w r).K (evW w r).Data = evW w r := rfl
    obtain ⟨_, t2, _⟩ := EventText_at (evW w r) (by omega) g1
    simp only [hE, t2, Option.bind_some]
    rcases tf (s == bs []) with q | q
    · simp only [q, if_true, Option.bind_some, Lo.elim, Bool.not_true, Bool.false_and, Bool.false_eq_true, if_false, noEv]
    · rcases tf (eventT (evW w r) == s) with p | p <;> simp only [q, p, if_true, Bool.false_eq_true, if_false, Option.bind_some, Lo.elim, Bool.not_false, Bool.true_and, noEv]
  have hb : ∀ w r, r.size ≤ s.size → ¬ blank1 s.data.toList → (!(s == bs []) && (eventT (evW w r) == s)) = false := fun w r hr hn => by
    obtain ⟨g1, g2⟩ := evW_small w r
    rcases tf (eventT (evW w r) == s) with p | p
    · have hp := p
      rw [beqB, decide_eq_true_eq] at hp
      rcases eventT_blank (evW w r) g1 (by omega) with h | h
      · rw [← hp, h]; rfl
      · rw [hp] at h; exact absurd h hn
    · rw [p, Bool.and_false]
  by_cases h32 : (32 : UInt8) ∈ s.data.toList
  · rcases split_one 32 s.data.toList with ⟨h1, _⟩ | ⟨p, t, h1, h2, _⟩
    · exact absurd h32 h1
    · have hts : (mkB t).size ≤ s.size := by rw [mkB_size, ba_size s, h1]; simp; omega
      rw [cutP_hit h1 h2]
      rw [hc (mkB p) (mkB t) true (Nat.le_trans hts hs)]
      by_cases ht : (32 : UInt8) ∈ t
      · have hn : ¬ blank1 s.data.toList := fun ⟨q, u, e1, e2, e3⟩ => by
          have a1 : pcs 32 s.data.toList = p :: pcs 32 t := by rw [h1, pcs_hit t h2]
          rw [e1, pcs_hit u e2, pcs_none e3] at a1
          simp only [List.cons.injEq] at a1
          rcases split_one 32 t with ⟨c1, _⟩ | ⟨p2, t2, c1, c2, _⟩
          · exact c1 ht
          · rw [c1, pcs_hit t2 c2] at a1
            have := pcs_ne 32 t2
            rw [← (List.cons.inj a1.2).2] at this
            simp at this
        rw [hb _ _ hts hn]
        have hf : tevF s (pcsB 32 s) = (noEv, false) := by
          cases hq : pcsB 32 s with
          | nil => rfl
          | cons a l =>
            match l, hq with
            | [], _ => rfl
            | [b], hq =>
              exfalso
              unfold pcsB at hq
              rw [h1, pcs_hit t h2] at hq
              rcases split_one 32 t with ⟨c1, _⟩ | ⟨p2, t2, c1, c2, _⟩
              · exact c1 ht
              · rw [c1, pcs_hit t2 c2] at hq
                have := pcs_ne 32 t2
                simp only [List.map_cons, List.cons.injEq, List.map_eq_nil_iff] at hq
                rw [hq.2.2] at this
                simp at this
            | b :: c :: l, _ => rfl
        rw [hf]
        rfl
      · have hp : pcsB 32 s = [mkB p, mkB t] := by
          unfold pcsB
          rw [h1, pcs_hit t h2, pcs_none ht]; rfl
        have hne : (s == bs []) = false := by
          rw [beqB, decide_eq_false_iff_not]
          intro e
          rw [e] at h1
          have h1 : ([] : List UInt8) = p ++ 32 :: t := h1
          simp at h1
        rw [hp, hne]
        simp only [tevF, Bool.not_false, Bool.true_and]
  · rw [cutP_none h32, hc s (bs []) false (by decide)]
    have hn : ¬ blank1 s.data.toList := fun ⟨q, u, e1, _, _⟩ => h32 (by rw [e1]; simp)
    rw [hb s (bs []) (Nat.zero_le _) hn]
    have hp : pcsB 32 s = [mkB s.data.toList] := by
      unfold pcsB
      rw [pcs_none h32]; rfl
    rw [hp]
    rfl
theorem tev_small (s : ByteArray) : byB (tev s).1.Data ∧ 2 * (tev s).1.Data.length ≤ s.size := by
  have h0 : byB noEv.Data ∧ 2 * noEv.Data.length ≤ s.size := ⟨fun _ hb => (by cases hb), Nat.zero_le _⟩
  unfold tev tevF
  split
  · rename_i w r hq
    obtain ⟨g1, g2⟩ := evW_small w r
    have : r.size ≤ s.size := pcsB_size (show r ∈ pcsB 32 s by rw [hq]; simp)
    split
    · exact ⟨g1, by show 2 * (evW w r).Data.length ≤ s.size; omega⟩
    · exact h0
  · exact h0
/-- What the lines before a fault tell. -/
def readL (w : List Event) (k : Nat) : List ByteArray → Lo (List Event) Int
  | [] => .out w
  | x :: t => if (x == bs []) = true then readL w (k + 1) t else if (sAt x 0 == 35) = true then readL w (k + 1) t else if (tev x).2 = true then readL (w ++ [(tev x).1]) (k + 1) t else .ret ((k : Int) + 1)
theorem ReadEvents_l0_val (r : List ByteArray) : ∀ (t p : List ByteArray) (w : List Event), (∀ x ∈ t, x.size ≤ 4000000) → p.length + t.length ≤ 100000000 → w.length + t.length ≤ 100000000 →
    spec_ReadEvents_l0 r t p w = some (readL w p.length t) ∧ impl_ReadEvents_l0 r t p w = some (readL w p.length t)
  | [], p, w, _, _, _ => ⟨rfl, rfl⟩
  | x :: t, p, w, hx, hp, hw => by
    have hxs := hx x (by simp)
    simp only [List.length_cons] at hp hw
    unfold spec_ReadEvents_l0 impl_ReadEvents_l0 readL
    have ih := fun w' hw' => ReadEvents_l0_val r t (p ++ [x]) w' (fun y hy => hx y (by simp [hy])) (by simp; omega) hw'
    simp only [List.length_append, List.length_cons, List.length_nil, Nat.zero_add] at ih
    rcases tf (x == bs []) with q | q
    · simp only [q, if_true]
      exact ih w (by omega)
    · have hz : (0 : Int) < (x.size : Int) := by
        rw [beq_empty, decide_eq_false_iff_not] at q
        omega
      simp only [q, Bool.false_eq_true, if_false, show (0 : Int) ≤ 0 from Int.le_refl 0, hz, decide_true, if_true, spec_TextEvent_val x hxs, impl_TextEvent_val x hxs, Option.bind_some]
      rcases tf (sAt x 0 == 35) with g | g
      · simp only [g, if_true]
        exact ih w (by omega)
      · simp only [g, Bool.false_eq_true, if_false]
        rcases tf (tev x).2 with u | u
        · simp only [u, if_true, capOk_of (show w.length + 1 ≤ 274877906944 by omega)]
          exact ih _ (by simp; omega)
        · have e : i64 ((p.length : Int) + 1) = (p.length : Int) + 1 := i64_of (by omega) (by omega)
          simp [u, e]
theorem readL_wt : ∀ (t : List ByteArray) (w : List Event) (k : Nat) (y : List Event), readL w k t = .out y → wtL wtEvent y ≤ wtL wtEvent w + wtL (fun s : ByteArray => s.size) t
  | [], w, k, y, h => by
    have : w = y := by injection h
    rw [this]; simp [wtL]
  | x :: t, w, k, y, h => by
    unfold readL at h
    simp only [wtL]
    split at h
    · have := readL_wt t w (k + 1) y h; omega
    · split at h
      · have := readL_wt t w (k + 1) y h; omega
      · split at h
        · have h1 := readL_wt t (w ++ [(tev x).1]) (k + 1) y h
          have h2 := tev_small x
          have h3 := wtL_app wtEvent w [(tev x).1]
          have h4 : wtL wtEvent [(tev x).1] = (tev x).1.Data.length + 1 := by simp only [wtL, wtEvent_eq]; omega
          omega
        · cases h
def readB (s : ByteArray) : List Event × Int := match readL [] 0 (linesB s) with
  | .out l => (l, 0)
  | .ret k => ([], k)
theorem ReadEvents_at (s : ByteArray) (h : s.size ≤ 4000000) : spec_ReadEvents s = some (readB s) ∧ impl_ReadEvents s = some (readB s) := by
  obtain ⟨l1, l2⟩ := Lines_val s h
  have hw := linesB_wt s
  have hl := wtL_len (fun s : ByteArray => s.size) (linesB s)
  obtain ⟨r1, r2⟩ := ReadEvents_l0_val (linesB s) (linesB s) [] [] (fun x hx => by have := wtL_mem (fun s : ByteArray => s.size) (linesB s) x hx; omega) (by simp; omega) (by simp; omega)
  have r1 : spec_ReadEvents_l0 (linesB s) (linesB s) [] [] = some (readL [] 0 (linesB s)) := r1
  have r2 : impl_ReadEvents_l0 (linesB s) (linesB s) [] [] = some (readL [] 0 (linesB s)) := r2
  unfold spec_ReadEvents impl_ReadEvents readB
  rw [l1, l2]
  simp only [Option.bind_some, capOk_of (show (linesB s).length ≤ 274877906944 by omega), if_true, r1, r2]
  cases readL [] 0 (linesB s) <;> exact ⟨rfl, rfl⟩
theorem ReadEvents_val (s : ByteArray) (h : s.size ≤ 1048576) : ∃ y, spec_ReadEvents s = some y ∧ impl_ReadEvents s = some y ∧ wtL wtEvent y.1 ≤ 4000000 := by
  obtain ⟨r1, r2⟩ := ReadEvents_at s (by omega)
  refine ⟨_, r1, r2, ?_⟩
  have hw := linesB_wt s
  unfold readB
  cases hr : readL [] 0 (linesB s) with
  | ret k => simp [wtL]
  | out l =>
    have := readL_wt _ _ _ _ hr
    simp only [wtL] at this
    show wtL wtEvent l ≤ 4000000
    omega
namespace Pure
theorem FnExactReadEvents (o : ByteArray) (h0 : Ws o) : laws_FnExactReadEvents o = some true := by
  unfold laws_FnExactReadEvents
  by_cases s1 : (1048576 : Int) < (o.size : Int)
  · simp only [s1, decide_true, decide_false, Bool.false_eq_true, if_true, if_false]
  simp only [s1, decide_true, decide_false, Bool.false_eq_true, if_true, if_false]
  obtain ⟨y, f1, f2, f3⟩ := ReadEvents_val o (by omega)
  have z0 := f3
  obtain ⟨k1, l1, m1, u1, b1, q1, d1⟩ := markEventS_val y.1 1 (by omega) (by omega) (by omega)
  simp only [f1, f2, eqEventS_rfl _ z0, m1, show ¬ k1 < 0 by omega, d1, Option.bind_some, decide_true, decide_false, Bool.false_eq_true, if_true, if_false, bne_rfl, beq_rfl, beq_self_eq_true]
end Pure
end Go.Proofs.YtjnnbcdakaabbaaDoorM
