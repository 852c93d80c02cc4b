/- Laws of the plain functions. No condition. -/
import Derived.Test.YtdcejeemommkfaaDoOp
import Derived.Laws.StructEq
namespace Go.Proofs.YtdcejeemommkfaaM
set_option linter.unusedVariables false
set_option linter.unusedSimpArgs false
set_option maxRecDepth 100000
theorem i64_of {x : Int} (h : -9223372036854775808 ≤ x) (h2 : x ≤ 9223372036854775807) : i64 x = x := by unfold i64; rw [IntKind.wrap_i64]; omega
theorem capOk_of {n : Nat} (h : n ≤ 274877906944) : capOk n = true := decide_eq_true h
theorem beqB (a b : ByteArray) : (a == b) = decide (a = b) := by
  rcases a with ⟨a⟩
  rcases b with ⟨b⟩
  have h1 : ((⟨a⟩ : ByteArray) == ⟨b⟩) = (a == b) := rfl
  rw [h1]
  by_cases h : a = b
  · subst h; simp
  · have h2 : ¬ ((⟨a⟩ : ByteArray) = ⟨b⟩) := fun e => h (by cases e; rfl)
    rw [decide_eq_false h2]
    simpa using h
theorem sub_val {left : Int} {n : Nat} (h0 : 0 ≤ left) (h1 : left ≤ 1048576) (hn : n ≤ 140737488351232) : i64 (left - (n : Int)) = left - n := i64_of (by omega) (by omega)
theorem set_take {α : Type} {v p : List α} {x : α} (hv : v.take p.length = p) (hl : p.length < v.length) : (v.set p.length x).take (p ++ [x]).length = p ++ [x] := by
  rw [List.length_append, List.length_cons, List.length_nil, List.take_add_one, List.take_set_of_le (Nat.le_refl _), hv]
  simp [hl]
theorem idx_some {α : Type} {v p : List α} (hl : p.length < v.length) : ∃ y, v[((p.length : Int)).toNat]? = some y := ⟨v[p.length], by simp [hl]⟩
theorem beq_rfl (s : ByteArray) : (s == s) = true := by rw [beqB]; simp
theorem bne_rfl (n : Int) : (n != n) = false := by simp
theorem mid_get {α : Type} {a p t : List α} {x : α} (e : a = p ++ x :: t) : a[((p.length : Int)).toNat]? = some x := by rw [e]; simp
theorem bstr_one (n : Int) : (bstr [n]).size = 1 := rfl
theorem size_app (a b : ByteArray) : (a ++ b).size = a.size + b.size := ByteArray.size_append
theorem markText_l0_tot : ∀ (n N : Nat) (v : Int) (s : ByteArray), 0 ≤ v → v ≤ 9223372036854775807 → v < 10 ^ n → n < N → s.size + n ≤ 1000 → ∃ y, laws_markText_l0 N v s = some y ∧ y.size ≤ 1000
  | n, 0, v, s, h0, hm, hv, hN, hs => by omega
  | 0, N + 1, v, s, h0, hm, hv, hN, hs => by
    have : v = 0 := by simp at hv; omega
    subst this
    exact ⟨s, by simp [laws_markText_l0], by omega⟩
  | n + 1, N + 1, v, s, h0, hm, hv, hN, hs => by
    unfold laws_markText_l0
    by_cases h : 0 < v
    · have hd : Int.tdiv v 10 = v / 10 := Int.tdiv_eq_ediv_of_nonneg h0
      have hp : (10 : Int) ^ (n + 1) = 10 ^ n * 10 := by rw [Int.pow_succ]
      have hlt : v / 10 < 10 ^ n := by rw [hp] at hv; omega
      have hi : i64 (v / 10) = v / 10 := i64_of (by omega) (by omega)
      have hz : (bstr [u8 (i64 (48 + (Int.tmod v 10)))]).size = 1 := bstr_one _
      obtain ⟨y, e, e2⟩ := markText_l0_tot n N (v / 10) (bstr [u8 (i64 (48 + (Int.tmod v 10)))] ++ s) (by omega) (by omega) hlt (by omega) (by rw [size_app, hz]; omega)
      refine ⟨y, ?_, e2⟩
      have hc : (bstr [u8 (i64 (48 + (Int.tmod v 10)))]).size + s.size ≤ 9223372036854775807 := by rw [hz]; omega
      simp only [h, decide_true, if_true, hc, hd, hi]
      exact e
    · exact ⟨s, by simp [h], by omega⟩
theorem markText_tot (k : Int) (hm : k ≤ 9223372036854775807) : ∃ y, laws_markText k = some y := by
  unfold laws_markText
  by_cases h : k ≤ 0
  · exact ⟨_, by simp only [h, decide_true, if_true]; rfl⟩
  · obtain ⟨y, e, e2⟩ := markText_l0_tot 20 FUEL k (bs []) (by omega) hm (by omega) (by unfold FUEL; omega) (by decide)
    simp only [h, decide_false, Bool.false_eq_true, if_false, e, Option.bind_some]
    have hc : (bs [109]).size + y.size ≤ 9223372036854775807 := by
      have : (bs [109]).size = 1 := rfl
      omega
    exact ⟨_, by rw [decide_eq_true hc]; rfl⟩
theorem after_set {α : Type} {v v' : List α} {i : Nat} {x : α} (h : v'.take (i + 1) = (v.set i x).take (i + 1)) (hl : v'.length = v.length) (hi : i < v.length) : v'.drop i = x :: v'.drop (i + 1) ∧ v'.take i = v.take i := by
  have hx : v'[i]? = some x := by
    have e : (v'.take (i + 1))[i]? = ((v.set i x).take (i + 1))[i]? := by rw [h]
    rw [List.getElem?_take, List.getElem?_take, if_pos (by omega), if_pos (by omega)] at e
    rw [e]; simp [hi]
  have hx' : v'[i]'(by omega) = x := by
    have := List.getElem?_eq_getElem (l := v') (i := i) (by omega)
    rw [this] at hx
    exact Option.some.inj hx
  refine ⟨by rw [List.drop_eq_getElem_cons (by omega), hx'], ?_⟩
  have e : (v'.take (i + 1)).take i = ((v.set i x).take (i + 1)).take i := by rw [h]
  rw [List.take_take, List.take_take, Nat.min_eq_left (by omega), List.take_set_of_le (Nat.le_refl _)] at e
  exact e
/-- The weight of a list: its length, and its elements' weights. -/
def wtL {α : Type} (f : α → Nat) : List α → Nat
  | [] => 0
  | x :: t => 1 + f x + wtL f t
def wtS {α : Type} (f : α → Nat) : List α → Nat
  | [] => 0
  | x :: t => f x + wtS f t
theorem wtL_eq {α : Type} (f : α → Nat) : ∀ l : List α, wtL f l = l.length + wtS f l
  | [] => rfl
  | x :: t => by simp only [wtL, wtS, List.length_cons]; rw [wtL_eq f t]; omega
theorem wtL_len {α : Type} (f : α → Nat) (l : List α) : l.length ≤ wtL f l := by rw [wtL_eq]; omega
theorem wtL_mem {α : Type} (f : α → Nat) : ∀ (l : List α) (x : α), x ∈ l → f x + 1 ≤ wtL f l
  | y :: t, x, h => by
    simp only [wtL]
    rcases List.mem_cons.1 h with rfl | h
    · omega
    · have := wtL_mem f t x h; omega
def wtHold (a : Hold) : Nat := a.Id.size
theorem wtHold_eq (a : Hold) : wtHold a = a.Id.size := rfl
theorem szHold_val (a : Hold) (left : Int) (hw : W226 a) (h0 : 0 ≤ left) (h1 : left ≤ 1048576) : ∃ r, laws_szHold a left = some r ∧ (0 ≤ r → r = left - (wtHold a : Nat)) := by
  unfold W226 at hw
  obtain ⟨w0, w1, w2⟩ := hw
  rw [wtHold_eq]
  unfold laws_szHold
  have b1 := w0
  unfold Ws at b1
  rw [sub_val (show 0 ≤ left by omega) (by omega) b1]
  by_cases c1 : (left - (a.Id.size : Int)) < 0
  · exact ⟨-1, by simp only [c1, decide_true, decide_false, Bool.false_eq_true, if_true, if_false, Option.bind_some], fun h => by omega⟩
  · simp only [c1, decide_true, decide_false, Bool.false_eq_true, if_true, if_false, Option.bind_some]
    exact ⟨_, rfl, fun _ => by omega⟩
theorem toHold_val (a : Hold) (h : wtHold a ≤ 4000000) : laws_toHold a = some a := by
  rw [wtHold_eq] at h
  unfold laws_toHold
  rfl
theorem eqHold_rfl (a : Hold) (h : wtHold a ≤ 4000000) : laws_eqHold a a = some true := by
  rw [wtHold_eq] at h
  unfold laws_eqHold
  simp only [beq_rfl, bne_rfl, Bool.false_eq_true, if_false, if_true, Option.bind_some]
theorem szHoldS_l0_val (a : List Hold) : ∀ (t : List Hold) (v : Int), 0 ≤ v → v ≤ 1048576 → (∀ x ∈ t, W226 x) → ∃ r, laws_szHoldS_l0 a t v = some r ∧ ∀ s, r = .out s → 0 ≤ s ∧ s = v - (wtS wtHold t : Nat)
  | [], v, h0, h1, _ => ⟨.out v, rfl, fun s e => by cases e; exact ⟨h0, by simp [wtS]⟩⟩
  | x :: t, v, h0, h1, hw => by
    obtain ⟨r, e1, e3⟩ := szHold_val x v (hw x (by simp)) h0 h1
    unfold laws_szHoldS_l0
    rw [e1, Option.bind_some]
    by_cases h : r < 0
    · exact ⟨.ret (), by simp [h], fun s e => by cases e⟩
    · have e3 := e3 (by omega)
      obtain ⟨z, f1, f2⟩ := szHoldS_l0_val a t r (by omega) (by omega) (fun y hy => hw y (by simp [hy]))
      refine ⟨z, by simp [h, f1], fun s e => ?_⟩
      obtain ⟨g1, g2⟩ := f2 s e
      exact ⟨g1, by rw [g2]; simp only [wtS]; omega⟩
theorem szHoldS_val (a : List Hold) (left : Int) (hw : W207 a) (h0 : 0 ≤ left) (h1 : left ≤ 1048576) : ∃ r, laws_szHoldS a left = some r ∧ (0 ≤ r → r = left - (wtL wtHold a : Nat)) := by
  unfold W207 Wl at hw
  have hl : a.length ≤ 140737488351232 := by have := hw.1; omega
  unfold laws_szHoldS
  rw [sub_val h0 h1 hl]
  by_cases h : left - (a.length : Int) < 0
  · exact ⟨-1, by simp [h], fun h => by omega⟩
  · obtain ⟨z, f1, f2⟩ := szHoldS_l0_val a a (left - a.length) (by omega) (by omega) hw.2
    simp only [h, decide_false, Bool.false_eq_true, if_false, capOk_of (show a.length ≤ 274877906944 by omega), if_true, f1, Option.bind_some]
    cases z with
    | ret u => exact ⟨-1, rfl, fun h => by omega⟩
    | out s =>
      obtain ⟨g1, g2⟩ := f2 s rfl
      exact ⟨s, rfl, fun _ => by rw [g2, wtL_eq]; omega⟩
theorem toHoldS_l0_val (a : List Hold) : ∀ (t p v : List Hold), a = p ++ t → (∀ s ∈ t, wtHold s ≤ 4000000) → v.length = a.length → v.take p.length = p → laws_toHoldS_l0 a t p v = some a
  | [], p, v, e, hs, hl, hv => by
    have : v = p := by rw [← hv, List.take_of_length_le (by rw [hl, e]; simp)]
    simp [laws_toHoldS_l0, this, e]
  | x :: t, p, v, e, hs, hl, hv => by
    have hlt : p.length < v.length := by rw [hl, e]; simp
    obtain ⟨y, hy⟩ := idx_some (v := v) hlt
    unfold laws_toHoldS_l0
    rw [toHold_val x (hs x (by simp)), Option.bind_some, hy, Option.bind_some, Int.toNat_natCast]
    exact toHoldS_l0_val a t (p ++ [x]) _ (by rw [e]; simp) (fun s hs' => hs s (by simp [hs'])) (by simp [hl]) (set_take hv hlt)
theorem toHoldS_val (a : List Hold) (h : wtL wtHold a ≤ 4000000) : laws_toHoldS a = some a := by
  have hl : a.length ≤ 4000000 := (by have := wtL_len wtHold a; omega)
  unfold laws_toHoldS
  simp only [Int.natCast_nonneg, decide_true, if_true, Int.toNat_natCast, capOk_of (show a.length ≤ 274877906944 by omega)]
  rw [toHoldS_l0_val a a [] _ rfl (fun s hs => by have := wtL_mem wtHold a s hs; omega) (by simp) rfl]
  rfl
theorem eqHoldS_l0_rfl (a : List Hold) : ∀ t p : List Hold, a = p ++ t → (∀ s ∈ t, wtHold s ≤ 4000000) → laws_eqHoldS_l0 a a t p = some (.out ())
  | [], p, e, _ => rfl
  | x :: t, p, e, hs => by
    unfold laws_eqHoldS_l0
    rw [mid_get e, Option.bind_some, eqHold_rfl x (hs x (by simp)), Option.bind_some]
    simpa using eqHoldS_l0_rfl a t (p ++ [x]) (by rw [e]; simp) (fun s hs' => hs s (by simp [hs']))
theorem eqHoldS_rfl (a : List Hold) (h : wtL wtHold a ≤ 4000000) : laws_eqHoldS a a = some true := by
  have hl : a.length ≤ 4000000 := (by have := wtL_len wtHold a; omega)
  unfold laws_eqHoldS
  rw [eqHoldS_l0_rfl a a [] rfl (fun s hs => by have := wtL_mem wtHold a s hs; omega), capOk_of (show a.length ≤ 274877906944 by omega)]
  simp only [bne_rfl, Bool.false_eq_true, if_false, if_true]
  rfl
theorem markHoldS_l0_val : ∀ (n : Nat) (k : Int) (i : Nat) (v : List Hold), i ≤ v.length → v.length ≤ 4000000 → wtL wtHold (v.drop i) ≤ 4000000 → 0 ≤ k → k + 16 * (wtL wtHold (v.drop i) : Nat) ≤ 1000000000000 → v.length - i < n →
    ∃ (k' : Int) (v' : List Hold), laws_markHoldS_l0 n k (i : Int) v = some (k', v') ∧ k ≤ k' ∧ k' ≤ k + 16 * (wtL wtHold (v.drop i) : Nat) ∧ v'.length = v.length ∧ v'.take i = v.take i
  | 0, k, i, v, hi, hl, hw, h0, hk, hn => by omega
  | n + 1, k, i, v, hi, hl, hw, h0, hk, hn => by
    unfold laws_markHoldS_l0
    by_cases h : i < v.length
    · have hc : (i : Int) < (v.length : Int) := by omega
      have hi1 : i64 ((i : Int) + 1) = ((i + 1 : Nat) : Int) := by rw [i64_of (by omega) (by omega)]; omega
      have hg : v[i]? = some v[i] := List.getElem?_eq_getElem h
      have hd : wtL wtHold (v.drop i) = 1 + wtHold v[i] + wtL wtHold (v.drop (i + 1)) := by rw [List.drop_eq_getElem_cons h]; rfl
      have hx := wtHold_eq v[i]
      obtain ⟨t0, ht0⟩ := markText_tot (k) (by omega)
      have i0 : i64 (k + 1) = k + 1 := i64_of (by omega) (by omega)
      have i1 : i64 (k + 1 + 1) = k + 1 + 1 := i64_of (by omega) (by omega)
      have i2 : i64 (k + 1 + 1 + 1) = k + 1 + 1 + 1 := i64_of (by omega) (by omega)
      have hsl : (v.set i (Hold.mk t0 (k + 1) (k + 1 + 1))).length = v.length := List.length_set
      have hsd : (v.set i (Hold.mk t0 (k + 1) (k + 1 + 1))).drop (i + 1) = v.drop (i + 1) := List.drop_set_of_lt (by omega)
      obtain ⟨k', v', e1, e1', e1'', e2, e3⟩ := markHoldS_l0_val n (k + 1 + 1 + 1) (i + 1) (v.set i (Hold.mk t0 (k + 1) (k + 1 + 1))) (by rw [hsl]; omega) (by rw [hsl]; omega) (by rw [hsd]; omega) (by omega) (by rw [hsd]; omega) (by rw [hsl]; omega)
      rw [hsl] at e2
      rw [hsd] at e1''
      obtain ⟨p1, p2⟩ := after_set e3 e2 h
      refine ⟨k', v', ?_, by omega, by omega, e2, p2⟩
      · simp only [hc, decide_true, if_true, Int.natCast_nonneg, Int.toNat_natCast, hg, Option.bind_some, ht0, i0, i1, i2, hi1, List.getElem?_set_self h, List.set_set, List.length_set]
        exact e1
    · have hc : ¬ (i : Int) < (v.length : Int) := by omega
      refine ⟨k, v, by simp only [hc, decide_false, Bool.false_eq_true, if_false], by omega, by omega, rfl, rfl⟩
theorem markHoldS_val (v : List Hold) (k : Int) (h : wtL wtHold v ≤ 4000000) (h0 : 0 ≤ k) (hk : k + 16 * (wtL wtHold v : Nat) ≤ 1000000000000) :
    ∃ (k' : Int) (v' : List Hold), laws_markHoldS v k = some (k', v') ∧ k ≤ k' ∧ k' ≤ k + 16 * (wtL wtHold v : Nat) ∧ v'.length = v.length := by
  have hl : v.length ≤ 4000000 := (by have := wtL_len wtHold v; omega)
  obtain ⟨k', v', e1, e1', e1'', e2, e3⟩ := markHoldS_l0_val FUEL k 0 v (by omega) hl (by simpa using h) h0 (by simpa using hk) (by unfold FUEL; omega)
  simp only [List.drop_zero] at e1''
  refine ⟨k', v', ?_, e1', e1'', e2⟩
  unfold laws_markHoldS
  have : ((0 : Nat) : Int) = 0 := rfl
  rw [this] at e1
  rw [e1]; rfl
theorem szIntS_val (a : List Int) (left : Int) (hw : W24 a) (h0 : 0 ≤ left) (h1 : left ≤ 1048576) : ∃ r, laws_szIntS a left = some r ∧ (0 ≤ r → r = left - (a.length : Nat)) := by
  unfold W24 Wl at hw
  have hl : a.length ≤ 140737488351232 := by have := hw.1; omega
  unfold laws_szIntS
  rw [sub_val h0 h1 hl]
  by_cases h : left - (a.length : Int) < 0
  · exact ⟨-1, by simp [h], fun h => by omega⟩
  · exact ⟨left - a.length, by simp [h], fun _ => rfl⟩
theorem toIntS_l0_val (a : List Int) : ∀ (t p v : List Int), a = p ++ t → v.length = a.length → v.take p.length = p → laws_toIntS_l0 a t p v = some a
  | [], p, v, e, hl, hv => by
    have : v = p := by rw [← hv, List.take_of_length_le (by rw [hl, e]; simp)]
    simp [laws_toIntS_l0, this, e]
  | x :: t, p, v, e, hl, hv => by
    have hlt : p.length < v.length := by rw [hl, e]; simp
    obtain ⟨y, hy⟩ := idx_some (v := v) hlt
    unfold laws_toIntS_l0
    rw [hy, Option.bind_some, Int.toNat_natCast]
    exact toIntS_l0_val a t (p ++ [x]) _ (by rw [e]; simp) (by simp [hl]) (set_take hv hlt)
theorem toIntS_val (a : List Int) (h : a.length ≤ 4000000) : laws_toIntS a = some a := by
  have hl : a.length ≤ 4000000 := h
  unfold laws_toIntS
  simp only [Int.natCast_nonneg, decide_true, if_true, Int.toNat_natCast, capOk_of (show a.length ≤ 274877906944 by omega)]
  rw [toIntS_l0_val a a [] _ rfl (by simp) rfl]
  rfl
theorem eqIntS_l0_rfl (a : List Int) : ∀ t p : List Int, a = p ++ t → laws_eqIntS_l0 a a t p = some (.out ())
  | [], p, e => rfl
  | x :: t, p, e => by
    unfold laws_eqIntS_l0
    rw [mid_get e, Option.bind_some]
    simp only [bne_rfl, beq_rfl, Bool.false_eq_true, if_false, if_true]
    exact eqIntS_l0_rfl a t (p ++ [x]) (by rw [e]; simp)
theorem eqIntS_rfl (a : List Int) (h : a.length ≤ 4000000) : laws_eqIntS a a = some true := by
  have hl : a.length ≤ 4000000 := h
  unfold laws_eqIntS
  rw [eqIntS_l0_rfl a a [] rfl, capOk_of (show a.length ≤ 274877906944 by omega)]
  simp only [bne_rfl, Bool.false_eq_true, if_false, if_true]
  rfl
theorem markIntS_l0_val : ∀ (n : Nat) (k : Int) (i : Nat) (v : List Int), i ≤ v.length → v.length ≤ 4000000 → (v.drop i).length ≤ 4000000 → 0 ≤ k → k + 16 * ((v.drop i).length : Nat) ≤ 1000000000000 → v.length - i < n →
    ∃ (k' : Int) (v' : List Int), laws_markIntS_l0 n k (i : Int) v = some (k', v') ∧ k ≤ k' ∧ k' ≤ k + 16 * ((v.drop i).length : Nat) ∧ v'.length = v.length ∧ v'.take i = v.take i
  | 0, k, i, v, hi, hl, hw, h0, hk, hn => by omega
  | n + 1, k, i, v, hi, hl, hw, h0, hk, hn => by
    unfold laws_markIntS_l0
    by_cases h : i < v.length
    · have hc : (i : Int) < (v.length : Int) := by omega
      have hi1 : i64 ((i : Int) + 1) = ((i + 1 : Nat) : Int) := by rw [i64_of (by omega) (by omega)]; omega
      have hg : v[i]? = some v[i] := List.getElem?_eq_getElem h
      have hd : (v.drop i).length = 1 + (v.drop (i + 1)).length := by rw [List.length_drop, List.length_drop]; omega
      have i0 : i64 (k + 1) = k + 1 := i64_of (by omega) (by omega)
      have hsl : (v.set i (k)).length = v.length := List.length_set
      have hsd : (v.set i (k)).drop (i + 1) = v.drop (i + 1) := List.drop_set_of_lt (by omega)
      obtain ⟨k', v', e1, e1', e1'', e2, e3⟩ := markIntS_l0_val n (k + 1) (i + 1) (v.set i (k)) (by rw [hsl]; omega) (by rw [hsl]; omega) (by rw [hsd]; omega) (by omega) (by rw [hsd]; omega) (by rw [hsl]; omega)
      rw [hsl] at e2
      rw [hsd] at e1''
      obtain ⟨p1, p2⟩ := after_set e3 e2 h
      refine ⟨k', v', ?_, by omega, by omega, e2, p2⟩
      · simp only [hc, decide_true, if_true, Int.natCast_nonneg, Int.toNat_natCast, hg, Option.bind_some, i0, hi1, List.getElem?_set_self h, List.set_set, List.length_set]
        exact e1
    · have hc : ¬ (i : Int) < (v.length : Int) := by omega
      refine ⟨k, v, by simp only [hc, decide_false, Bool.false_eq_true, if_false], by omega, by omega, rfl, rfl⟩
theorem markIntS_val (v : List Int) (k : Int) (h : v.length ≤ 4000000) (h0 : 0 ≤ k) (hk : k + 16 * (v.length : Nat) ≤ 1000000000000) :
    ∃ (k' : Int) (v' : List Int), laws_markIntS v k = some (k', v') ∧ k ≤ k' ∧ k' ≤ k + 16 * (v.length : Nat) ∧ v'.length = v.length := by
  have hl : v.length ≤ 4000000 := h
  obtain ⟨k', v', e1, e1', e1'', e2, e3⟩ := markIntS_l0_val FUEL k 0 v (by omega) hl (by simpa using h) h0 (by simpa using hk) (by unfold FUEL; omega)
  simp only [List.drop_zero] at e1''
  refine ⟨k', v', ?_, e1', e1'', e2⟩
  unfold laws_markIntS
  have : ((0 : Nat) : Int) = 0 := rfl
  rw [this] at e1
  rw [e1]; rfl
def wtRing (a : Ring) : Nat := a.Counts.length + a.Sums.length
theorem wtRing_eq (a : Ring) : wtRing a = a.Counts.length + a.Sums.length := rfl
theorem szRing_val (a : Ring) (left : Int) (hw : W208 a) (h0 : 0 ≤ left) (h1 : left ≤ 1048576) : ∃ r, laws_szRing a left = some r ∧ (0 ≤ r → r = left - (wtRing a : Nat)) := by
  unfold W208 at hw
  obtain ⟨w0, w1, w2, w3⟩ := hw
  rw [wtRing_eq]
  unfold laws_szRing
  obtain ⟨r1, e1, g1⟩ := szIntS_val a.Counts left w2 (by omega) (by omega)
  simp only [e1, decide_true, decide_false, Bool.false_eq_true, if_true, if_false, Option.bind_some]
  by_cases c1 : r1 < 0
  · exact ⟨-1, by simp only [c1, decide_true, decide_false, Bool.false_eq_true, if_true, if_false, Option.bind_some], fun h => by omega⟩
  · have g1 := g1 (by omega)
    simp only [c1, decide_true, decide_false, Bool.false_eq_true, if_true, if_false, Option.bind_some]
    obtain ⟨r2, e2, g2⟩ := szIntS_val a.Sums r1 w3 (by omega) (by omega)
    simp only [e2, decide_true, decide_false, Bool.false_eq_true, if_true, if_false, Option.bind_some]
    by_cases c2 : r2 < 0
    · exact ⟨-1, by simp only [c2, decide_true, decide_false, Bool.false_eq_true, if_true, if_false, Option.bind_some], fun h => by omega⟩
    · have g2 := g2 (by omega)
      simp only [c2, decide_true, decide_false, Bool.false_eq_true, if_true, if_false, Option.bind_some]
      exact ⟨_, rfl, fun _ => by omega⟩
theorem toRing_val (a : Ring) (h : wtRing a ≤ 4000000) : laws_toRing a = some a := by
  rw [wtRing_eq] at h
  unfold laws_toRing
  simp only [toIntS_val a.Counts (by omega), toIntS_val a.Sums (by omega), Option.bind_some]
theorem eqRing_rfl (a : Ring) (h : wtRing a ≤ 4000000) : laws_eqRing a a = some true := by
  rw [wtRing_eq] at h
  unfold laws_eqRing
  simp only [eqIntS_rfl a.Counts (by omega), eqIntS_rfl a.Sums (by omega), beq_rfl, bne_rfl, Bool.false_eq_true, if_false, if_true, Option.bind_some]
theorem szByteS_val (a : List Int) (left : Int) (hw : W22 a) (h0 : 0 ≤ left) (h1 : left ≤ 1048576) : ∃ r, laws_szByteS a left = some r ∧ (0 ≤ r → r = left - (a.length : Nat)) := by
  unfold W22 Wl at hw
  have hl : a.length ≤ 140737488351232 := by have := hw.1; omega
  unfold laws_szByteS
  rw [sub_val h0 h1 hl]
  by_cases h : left - (a.length : Int) < 0
  · exact ⟨-1, by simp [h], fun h => by omega⟩
  · exact ⟨left - a.length, by simp [h], fun _ => rfl⟩
theorem toByteS_l0_val (a : List Int) : ∀ (t p v : List Int), a = p ++ t → v.length = a.length → v.take p.length = p → laws_toByteS_l0 a t p v = some a
  | [], p, v, e, hl, hv => by
    have : v = p := by rw [← hv, List.take_of_length_le (by rw [hl, e]; simp)]
    simp [laws_toByteS_l0, this, e]
  | x :: t, p, v, e, hl, hv => by
    have hlt : p.length < v.length := by rw [hl, e]; simp
    obtain ⟨y, hy⟩ := idx_some (v := v) hlt
    unfold laws_toByteS_l0
    rw [hy, Option.bind_some, Int.toNat_natCast]
    exact toByteS_l0_val a t (p ++ [x]) _ (by rw [e]; simp) (by simp [hl]) (set_take hv hlt)
theorem toByteS_val (a : List Int) (h : a.length ≤ 4000000) : laws_toByteS a = some a := by
  have hl : a.length ≤ 4000000 := h
  unfold laws_toByteS
  simp only [Int.natCast_nonneg, decide_true, if_true, Int.toNat_natCast, capOk_of (show a.length ≤ 274877906944 by omega)]
  rw [toByteS_l0_val a a [] _ rfl (by simp) rfl]
  rfl
theorem eqByteS_l0_rfl (a : List Int) : ∀ t p : List Int, a = p ++ t → laws_eqByteS_l0 a a t p = some (.out ())
  | [], p, e => rfl
  | x :: t, p, e => by
    unfold laws_eqByteS_l0
    rw [mid_get e, Option.bind_some]
    simp only [bne_rfl, beq_rfl, Bool.false_eq_true, if_false, if_true]
    exact eqByteS_l0_rfl a t (p ++ [x]) (by rw [e]; simp)
theorem eqByteS_rfl (a : List Int) (h : a.length ≤ 4000000) : laws_eqByteS a a = some true := by
  have hl : a.length ≤ 4000000 := h
  unfold laws_eqByteS
  rw [eqByteS_l0_rfl a a [] rfl, capOk_of (show a.length ≤ 274877906944 by omega)]
  simp only [bne_rfl, Bool.false_eq_true, if_false, if_true]
  rfl
theorem markByteS_l0_val : ∀ (n : Nat) (k : Int) (i : Nat) (v : List Int), i ≤ v.length → v.length ≤ 4000000 → (v.drop i).length ≤ 4000000 → 0 ≤ k → k + 16 * ((v.drop i).length : Nat) ≤ 1000000000000 → v.length - i < n →
    ∃ (k' : Int) (v' : List Int), laws_markByteS_l0 n k (i : Int) v = some (k', v') ∧ k ≤ k' ∧ k' ≤ k + 16 * ((v.drop i).length : Nat) ∧ v'.length = v.length ∧ v'.take i = v.take i ∧ ∀ b, laws_heldByteS_l0 b (v'.drop i) k = some (.out k')
  | 0, k, i, v, hi, hl, hw, h0, hk, hn => by omega
  | n + 1, k, i, v, hi, hl, hw, h0, hk, hn => by
    unfold laws_markByteS_l0
    by_cases h : i < v.length
    · have hc : (i : Int) < (v.length : Int) := by omega
      have hi1 : i64 ((i : Int) + 1) = ((i + 1 : Nat) : Int) := by rw [i64_of (by omega) (by omega)]; omega
      have hg : v[i]? = some v[i] := List.getElem?_eq_getElem h
      have hd : (v.drop i).length = 1 + (v.drop (i + 1)).length := by rw [List.length_drop, List.length_drop]; omega
      have i0 : i64 (k + 1) = k + 1 := i64_of (by omega) (by omega)
      have hsl : (v.set i (u8 (k))).length = v.length := List.length_set
      have hsd : (v.set i (u8 (k))).drop (i + 1) = v.drop (i + 1) := List.drop_set_of_lt (by omega)
      obtain ⟨k', v', e1, e1', e1'', e2, e3, e4⟩ := markByteS_l0_val n (k + 1) (i + 1) (v.set i (u8 (k))) (by rw [hsl]; omega) (by rw [hsl]; omega) (by rw [hsd]; omega) (by omega) (by rw [hsd]; omega) (by rw [hsl]; omega)
      rw [hsl] at e2
      rw [hsd] at e1''
      obtain ⟨p1, p2⟩ := after_set e3 e2 h
      refine ⟨k', v', ?_, by omega, by omega, e2, p2, fun b => ?_⟩
      · simp only [hc, decide_true, if_true, Int.natCast_nonneg, Int.toNat_natCast, hg, Option.bind_some, i0, hi1, List.getElem?_set_self h, List.set_set, List.length_set]
        exact e1
      · rw [p1]
        unfold laws_heldByteS_l0
        simp only [i0, Option.bind_some, beq_rfl, bne_rfl, if_true, decide_false, Bool.false_eq_true, if_false]
        exact e4 b
    · have hc : ¬ (i : Int) < (v.length : Int) := by omega
      refine ⟨k, v, by simp only [hc, decide_false, Bool.false_eq_true, if_false], by omega, by omega, rfl, rfl, fun b => ?_⟩
      rw [List.drop_eq_nil_of_le (by omega)]
      rfl
theorem markByteS_val (v : List Int) (k : Int) (h : v.length ≤ 4000000) (h0 : 0 ≤ k) (hk : k + 16 * (v.length : Nat) ≤ 1000000000000) :
    ∃ (k' : Int) (v' : List Int), laws_markByteS v k = some (k', v') ∧ k ≤ k' ∧ k' ≤ k + 16 * (v.length : Nat) ∧ v'.length = v.length ∧ laws_heldByteS v' k = some k' := by
  have hl : v.length ≤ 4000000 := h
  obtain ⟨k', v', e1, e1', e1'', e2, e3, e4⟩ := markByteS_l0_val FUEL k 0 v (by omega) hl (by simpa using h) h0 (by simpa using hk) (by unfold FUEL; omega)
  have e4 := e4 v'
  simp only [List.drop_zero] at e4 e1''
  refine ⟨k', v', ?_, e1', e1'', e2, ?_⟩
  · unfold laws_markByteS
    have : ((0 : Nat) : Int) = 0 := rfl
    rw [this] at e1
    rw [e1]; rfl
  · unfold laws_heldByteS
    rw [capOk_of (by omega), e4]; rfl
def wtSlot (a : Slot) : Nat := a.Trace.size + a.Mti.size + a.Reply.length
theorem wtSlot_eq (a : Slot) : wtSlot a = a.Trace.size + a.Mti.size + a.Reply.length := rfl
theorem szSlot_val (a : Slot) (left : Int) (hw : W228 a) (h0 : 0 ≤ left) (h1 : left ≤ 1048576) : ∃ r, laws_szSlot a left = some r ∧ (0 ≤ r → r = left - (wtSlot a : Nat)) := by
  unfold W228 at hw
  obtain ⟨w0, w1, w2⟩ := hw
  rw [wtSlot_eq]
  unfold laws_szSlot
  have b1 := w0
  unfold Ws at b1
  rw [sub_val (show 0 ≤ left by omega) (by omega) b1]
  by_cases c1 : (left - (a.Trace.size : Int)) < 0
  · exact ⟨-1, by simp only [c1, decide_true, decide_false, Bool.false_eq_true, if_true, if_false, Option.bind_some], fun h => by omega⟩
  · simp only [c1, decide_true, decide_false, Bool.false_eq_true, if_true, if_false, Option.bind_some]
    have b2 := w1
    unfold Ws at b2
    rw [sub_val (show 0 ≤ (left - (a.Trace.size : Int)) by omega) (by omega) b2]
    by_cases c2 : (((left - (a.Trace.size : Int))) - (a.Mti.size : Int)) < 0
    · exact ⟨-1, by simp only [c2, decide_true, decide_false, Bool.false_eq_true, if_true, if_false, Option.bind_some], fun h => by omega⟩
    · simp only [c2, decide_true, decide_false, Bool.false_eq_true, if_true, if_false, Option.bind_some]
      obtain ⟨r3, e3, g3⟩ := szByteS_val a.Reply (((left - (a.Trace.size : Int))) - (a.Mti.size : Int)) w2 (by omega) (by omega)
      simp only [e3, decide_true, decide_false, Bool.false_eq_true, if_true, if_false, Option.bind_some]
      by_cases c3 : r3 < 0
      · exact ⟨-1, by simp only [c3, decide_true, decide_false, Bool.false_eq_true, if_true, if_false, Option.bind_some], fun h => by omega⟩
      · have g3 := g3 (by omega)
        simp only [c3, decide_true, decide_false, Bool.false_eq_true, if_true, if_false, Option.bind_some]
        exact ⟨_, rfl, fun _ => by omega⟩
theorem toSlot_val (a : Slot) (h : wtSlot a ≤ 4000000) : laws_toSlot a = some a := by
  rw [wtSlot_eq] at h
  unfold laws_toSlot
  simp only [toByteS_val a.Reply (by omega), Option.bind_some]
theorem eqSlot_rfl (a : Slot) (h : wtSlot a ≤ 4000000) : laws_eqSlot a a = some true := by
  rw [wtSlot_eq] at h
  unfold laws_eqSlot
  simp only [eqByteS_rfl a.Reply (by omega), beq_rfl, bne_rfl, Bool.false_eq_true, if_false, if_true, Option.bind_some]
theorem szSlotS_l0_val (a : List Slot) : ∀ (t : List Slot) (v : Int), 0 ≤ v → v ≤ 1048576 → (∀ x ∈ t, W228 x) → ∃ r, laws_szSlotS_l0 a t v = some r ∧ ∀ s, r = .out s → 0 ≤ s ∧ s = v - (wtS wtSlot t : Nat)
  | [], v, h0, h1, _ => ⟨.out v, rfl, fun s e => by cases e; exact ⟨h0, by simp [wtS]⟩⟩
  | x :: t, v, h0, h1, hw => by
    obtain ⟨r, e1, e3⟩ := szSlot_val x v (hw x (by simp)) h0 h1
    unfold laws_szSlotS_l0
    rw [e1, Option.bind_some]
    by_cases h : r < 0
    · exact ⟨.ret (), by simp [h], fun s e => by cases e⟩
    · have e3 := e3 (by omega)
      obtain ⟨z, f1, f2⟩ := szSlotS_l0_val a t r (by omega) (by omega) (fun y hy => hw y (by simp [hy]))
      refine ⟨z, by simp [h, f1], fun s e => ?_⟩
      obtain ⟨g1, g2⟩ := f2 s e
      exact ⟨g1, by rw [g2]; simp only [wtS]; omega⟩
theorem szSlotS_val (a : List Slot) (left : Int) (hw : W209 a) (h0 : 0 ≤ left) (h1 : left ≤ 1048576) : ∃ r, laws_szSlotS a left = some r ∧ (0 ≤ r → r = left - (wtL wtSlot a : Nat)) := by
  unfold W209 Wl at hw
  have hl : a.length ≤ 140737488351232 := by have := hw.1; omega
  unfold laws_szSlotS
  rw [sub_val h0 h1 hl]
  by_cases h : left - (a.length : Int) < 0
  · exact ⟨-1, by simp [h], fun h => by omega⟩
  · obtain ⟨z, f1, f2⟩ := szSlotS_l0_val a a (left - a.length) (by omega) (by omega) hw.2
    simp only [h, decide_false, Bool.false_eq_true, if_false, capOk_of (show a.length ≤ 274877906944 by omega), if_true, f1, Option.bind_some]
    cases z with
    | ret u => exact ⟨-1, rfl, fun h => by omega⟩
    | out s =>
      obtain ⟨g1, g2⟩ := f2 s rfl
      exact ⟨s, rfl, fun _ => by rw [g2, wtL_eq]; omega⟩
theorem toSlotS_l0_val (a : List Slot) : ∀ (t p v : List Slot), a = p ++ t → (∀ s ∈ t, wtSlot s ≤ 4000000) → v.length = a.length → v.take p.length = p → laws_toSlotS_l0 a t p v = some a
  | [], p, v, e, hs, hl, hv => by
    have : v = p := by rw [← hv, List.take_of_length_le (by rw [hl, e]; simp)]
    simp [laws_toSlotS_l0, this, e]
  | x :: t, p, v, e, hs, hl, hv => by
    have hlt : p.length < v.length := by rw [hl, e]; simp
    obtain ⟨y, hy⟩ := idx_some (v := v) hlt
    unfold laws_toSlotS_l0
    rw [toSlot_val x (hs x (by simp)), Option.bind_some, hy, Option.bind_some, Int.toNat_natCast]
    exact toSlotS_l0_val a t (p ++ [x]) _ (by rw [e]; simp) (fun s hs' => hs s (by simp [hs'])) (by simp [hl]) (set_take hv hlt)
theorem toSlotS_val (a : List Slot) (h : wtL wtSlot a ≤ 4000000) : laws_toSlotS a = some a := by
  have hl : a.length ≤ 4000000 := (by have := wtL_len wtSlot a; omega)
  unfold laws_toSlotS
  simp only [Int.natCast_nonneg, decide_true, if_true, Int.toNat_natCast, capOk_of (show a.length ≤ 274877906944 by omega)]
  rw [toSlotS_l0_val a a [] _ rfl (fun s hs => by have := wtL_mem wtSlot a s hs; omega) (by simp) rfl]
  rfl
theorem eqSlotS_l0_rfl (a : List Slot) : ∀ t p : List Slot, a = p ++ t → (∀ s ∈ t, wtSlot s ≤ 4000000) → laws_eqSlotS_l0 a a t p = some (.out ())
  | [], p, e, _ => rfl
  | x :: t, p, e, hs => by
    unfold laws_eqSlotS_l0
    rw [mid_get e, Option.bind_some, eqSlot_rfl x (hs x (by simp)), Option.bind_some]
    simpa using eqSlotS_l0_rfl a t (p ++ [x]) (by rw [e]; simp) (fun s hs' => hs s (by simp [hs']))
theorem eqSlotS_rfl (a : List Slot) (h : wtL wtSlot a ≤ 4000000) : laws_eqSlotS a a = some true := by
  have hl : a.length ≤ 4000000 := (by have := wtL_len wtSlot a; omega)
  unfold laws_eqSlotS
  rw [eqSlotS_l0_rfl a a [] rfl (fun s hs => by have := wtL_mem wtSlot a s hs; omega), capOk_of (show a.length ≤ 274877906944 by omega)]
  simp only [bne_rfl, Bool.false_eq_true, if_false, if_true]
  rfl
theorem markSlotS_l0_val : ∀ (n : Nat) (k : Int) (i : Nat) (v : List Slot), i ≤ v.length → v.length ≤ 4000000 → wtL wtSlot (v.drop i) ≤ 4000000 → 0 ≤ k → k + 16 * (wtL wtSlot (v.drop i) : Nat) ≤ 1000000000000 → v.length - i < n →
    ∃ (k' : Int) (v' : List Slot), laws_markSlotS_l0 n k (i : Int) v = some (k', v') ∧ k ≤ k' ∧ k' ≤ k + 16 * (wtL wtSlot (v.drop i) : Nat) ∧ v'.length = v.length ∧ v'.take i = v.take i
  | 0, k, i, v, hi, hl, hw, h0, hk, hn => by omega
  | n + 1, k, i, v, hi, hl, hw, h0, hk, hn => by
    unfold laws_markSlotS_l0
    by_cases h : i < v.length
    · have hc : (i : Int) < (v.length : Int) := by omega
      have hi1 : i64 ((i : Int) + 1) = ((i + 1 : Nat) : Int) := by rw [i64_of (by omega) (by omega)]; omega
      have hg : v[i]? = some v[i] := List.getElem?_eq_getElem h
      have hd : wtL wtSlot (v.drop i) = 1 + wtSlot v[i] + wtL wtSlot (v.drop (i + 1)) := by rw [List.drop_eq_getElem_cons h]; rfl
      have hx := wtSlot_eq v[i]
      obtain ⟨t0, ht0⟩ := markText_tot (k) (by omega)
      have i0 : i64 (k + 1) = k + 1 := i64_of (by omega) (by omega)
      obtain ⟨t1, ht1⟩ := markText_tot (k + 1) (by omega)
      have i1 : i64 (k + 1 + 1) = k + 1 + 1 := i64_of (by omega) (by omega)
      obtain ⟨k2, y2, m2, g2, b2, q2, d2⟩ := markByteS_val v[i].Reply (k + 1 + 1) (by omega) (by omega) (by omega)
      have hsl : (v.set i (Slot.mk t0 t1 y2)).length = v.length := List.length_set
      have hsd : (v.set i (Slot.mk t0 t1 y2)).drop (i + 1) = v.drop (i + 1) := List.drop_set_of_lt (by omega)
      obtain ⟨k', v', e1, e1', e1'', e2, e3⟩ := markSlotS_l0_val n (k2) (i + 1) (v.set i (Slot.mk t0 t1 y2)) (by rw [hsl]; omega) (by rw [hsl]; omega) (by rw [hsd]; omega) (by omega) (by rw [hsd]; omega) (by rw [hsl]; omega)
      rw [hsl] at e2
      rw [hsd] at e1''
      obtain ⟨p1, p2⟩ := after_set e3 e2 h
      refine ⟨k', v', ?_, by omega, by omega, e2, p2⟩
      · simp only [hc, decide_true, if_true, Int.natCast_nonneg, Int.toNat_natCast, hg, Option.bind_some, ht0, i0, ht1, i1, m2, hi1, List.getElem?_set_self h, List.set_set, List.length_set]
        exact e1
    · have hc : ¬ (i : Int) < (v.length : Int) := by omega
      refine ⟨k, v, by simp only [hc, decide_false, Bool.false_eq_true, if_false], by omega, by omega, rfl, rfl⟩
theorem markSlotS_val (v : List Slot) (k : Int) (h : wtL wtSlot v ≤ 4000000) (h0 : 0 ≤ k) (hk : k + 16 * (wtL wtSlot v : Nat) ≤ 1000000000000) :
    ∃ (k' : Int) (v' : List Slot), laws_markSlotS v k = some (k', v') ∧ k ≤ k' ∧ k' ≤ k + 16 * (wtL wtSlot v : Nat) ∧ v'.length = v.length := by
  have hl : v.length ≤ 4000000 := (by have := wtL_len wtSlot v; omega)
  obtain ⟨k', v', e1, e1', e1'', e2, e3⟩ := markSlotS_l0_val FUEL k 0 v (by omega) hl (by simpa using h) h0 (by simpa using hk) (by unfold FUEL; omega)
  simp only [List.drop_zero] at e1''
  refine ⟨k', v', ?_, e1', e1'', e2⟩
  unfold laws_markSlotS
  have : ((0 : Nat) : Int) = 0 := rfl
  rw [this] at e1
  rw [e1]; rfl
def wtAcct (a : Acct) : Nat := a.Id.size + wtL wtHold a.Holds + wtRing a.Ring + wtL wtSlot a.Slots
theorem wtAcct_eq (a : Acct) : wtAcct a = a.Id.size + wtL wtHold a.Holds + wtRing a.Ring + wtL wtSlot a.Slots := rfl
theorem szAcct_val (a : Acct) (left : Int) (hw : W211 a) (h0 : 0 ≤ left) (h1 : left ≤ 1048576) : ∃ r, laws_szAcct a left = some r ∧ (0 ≤ r → r = left - (wtAcct a : Nat)) := by
  unfold W211 at hw
  obtain ⟨w0, w1, w2, w3, w4, w5, w6, w7⟩ := hw
  rw [wtAcct_eq]
  unfold laws_szAcct
  have b1 := w0
  unfold Ws at b1
  rw [sub_val (show 0 ≤ left by omega) (by omega) b1]
  by_cases c1 : (left - (a.Id.size : Int)) < 0
  · exact ⟨-1, by simp only [c1, decide_true, decide_false, Bool.false_eq_true, if_true, if_false, Option.bind_some], fun h => by omega⟩
  · simp only [c1, decide_true, decide_false, Bool.false_eq_true, if_true, if_false, Option.bind_some]
    obtain ⟨r2, e2, g2⟩ := szHoldS_val a.Holds (left - (a.Id.size : Int)) w5 (by omega) (by omega)
    simp only [e2, decide_true, decide_false, Bool.false_eq_true, if_true, if_false, Option.bind_some]
    by_cases c2 : r2 < 0
    · exact ⟨-1, by simp only [c2, decide_true, decide_false, Bool.false_eq_true, if_true, if_false, Option.bind_some], fun h => by omega⟩
    · have g2 := g2 (by omega)
      simp only [c2, decide_true, decide_false, Bool.false_eq_true, if_true, if_false, Option.bind_some]
      obtain ⟨r3, e3, g3⟩ := szRing_val a.Ring r2 w6 (by omega) (by omega)
      simp only [e3, decide_true, decide_false, Bool.false_eq_true, if_true, if_false, Option.bind_some]
      by_cases c3 : r3 < 0
      · exact ⟨-1, by simp only [c3, decide_true, decide_false, Bool.false_eq_true, if_true, if_false, Option.bind_some], fun h => by omega⟩
      · have g3 := g3 (by omega)
        simp only [c3, decide_true, decide_false, Bool.false_eq_true, if_true, if_false, Option.bind_some]
        obtain ⟨r4, e4, g4⟩ := szSlotS_val a.Slots r3 w7 (by omega) (by omega)
        simp only [e4, decide_true, decide_false, Bool.false_eq_true, if_true, if_false, Option.bind_some]
        by_cases c4 : r4 < 0
        · exact ⟨-1, by simp only [c4, decide_true, decide_false, Bool.false_eq_true, if_true, if_false, Option.bind_some], fun h => by omega⟩
        · have g4 := g4 (by omega)
          simp only [c4, decide_true, decide_false, Bool.false_eq_true, if_true, if_false, Option.bind_some]
          exact ⟨_, rfl, fun _ => by omega⟩
theorem toAcct_val (a : Acct) (h : wtAcct a ≤ 4000000) : laws_toAcct a = some a := by
  rw [wtAcct_eq] at h
  unfold laws_toAcct
  simp only [toHoldS_val a.Holds (by omega), toRing_val a.Ring (by omega), toSlotS_val a.Slots (by omega), Option.bind_some]
theorem eqAcct_rfl (a : Acct) (h : wtAcct a ≤ 4000000) : laws_eqAcct a a = some true := by
  rw [wtAcct_eq] at h
  unfold laws_eqAcct
  simp only [eqHoldS_rfl a.Holds (by omega), eqRing_rfl a.Ring (by omega), eqSlotS_rfl a.Slots (by omega), beq_rfl, bne_rfl, Bool.false_eq_true, if_false, if_true, Option.bind_some]
theorem szAcctS_l0_val (a : List Acct) : ∀ (t : List Acct) (v : Int), 0 ≤ v → v ≤ 1048576 → (∀ x ∈ t, W211 x) → ∃ r, laws_szAcctS_l0 a t v = some r ∧ ∀ s, r = .out s → 0 ≤ s ∧ s = v - (wtS wtAcct t : Nat)
  | [], v, h0, h1, _ => ⟨.out v, rfl, fun s e => by cases e; exact ⟨h0, by simp [wtS]⟩⟩
  | x :: t, v, h0, h1, hw => by
    obtain ⟨r, e1, e3⟩ := szAcct_val x v (hw x (by simp)) h0 h1
    unfold laws_szAcctS_l0
    rw [e1, Option.bind_some]
    by_cases h : r < 0
    · exact ⟨.ret (), by simp [h], fun s e => by cases e⟩
    · have e3 := e3 (by omega)
      obtain ⟨z, f1, f2⟩ := szAcctS_l0_val a t r (by omega) (by omega) (fun y hy => hw y (by simp [hy]))
      refine ⟨z, by simp [h, f1], fun s e => ?_⟩
      obtain ⟨g1, g2⟩ := f2 s e
      exact ⟨g1, by rw [g2]; simp only [wtS]; omega⟩
theorem szAcctS_val (a : List Acct) (left : Int) (hw : W126 a) (h0 : 0 ≤ left) (h1 : left ≤ 1048576) : ∃ r, laws_szAcctS a left = some r ∧ (0 ≤ r → r = left - (wtL wtAcct a : Nat)) := by
  unfold W126 Wl at hw
  have hl : a.length ≤ 140737488351232 := by have := hw.1; omega
  unfold laws_szAcctS
  rw [sub_val h0 h1 hl]
  by_cases h : left - (a.length : Int) < 0
  · exact ⟨-1, by simp [h], fun h => by omega⟩
  · obtain ⟨z, f1, f2⟩ := szAcctS_l0_val a a (left - a.length) (by omega) (by omega) hw.2
    simp only [h, decide_false, Bool.false_eq_true, if_false, capOk_of (show a.length ≤ 274877906944 by omega), if_true, f1, Option.bind_some]
    cases z with
    | ret u => exact ⟨-1, rfl, fun h => by omega⟩
    | out s =>
      obtain ⟨g1, g2⟩ := f2 s rfl
      exact ⟨s, rfl, fun _ => by rw [g2, wtL_eq]; omega⟩
theorem toAcctS_l0_val (a : List Acct) : ∀ (t p v : List Acct), a = p ++ t → (∀ s ∈ t, wtAcct s ≤ 4000000) → v.length = a.length → v.take p.length = p → laws_toAcctS_l0 a t p v = some a
  | [], p, v, e, hs, hl, hv => by
    have : v = p := by rw [← hv, List.take_of_length_le (by rw [hl, e]; simp)]
    simp [laws_toAcctS_l0, this, e]
  | x :: t, p, v, e, hs, hl, hv => by
    have hlt : p.length < v.length := by rw [hl, e]; simp
    obtain ⟨y, hy⟩ := idx_some (v := v) hlt
    unfold laws_toAcctS_l0
    rw [toAcct_val x (hs x (by simp)), Option.bind_some, hy, Option.bind_some, Int.toNat_natCast]
    exact toAcctS_l0_val a t (p ++ [x]) _ (by rw [e]; simp) (fun s hs' => hs s (by simp [hs'])) (by simp [hl]) (set_take hv hlt)
theorem toAcctS_val (a : List Acct) (h : wtL wtAcct a ≤ 4000000) : laws_toAcctS a = some a := by
  have hl : a.length ≤ 4000000 := (by have := wtL_len wtAcct a; omega)
  unfold laws_toAcctS
  simp only [Int.natCast_nonneg, decide_true, if_true, Int.toNat_natCast, capOk_of (show a.length ≤ 274877906944 by omega)]
  rw [toAcctS_l0_val a a [] _ rfl (fun s hs => by have := wtL_mem wtAcct a s hs; omega) (by simp) rfl]
  rfl
theorem eqAcctS_l0_rfl (a : List Acct) : ∀ t p : List Acct, a = p ++ t → (∀ s ∈ t, wtAcct s ≤ 4000000) → laws_eqAcctS_l0 a a t p = some (.out ())
  | [], p, e, _ => rfl
  | x :: t, p, e, hs => by
    unfold laws_eqAcctS_l0
    rw [mid_get e, Option.bind_some, eqAcct_rfl x (hs x (by simp)), Option.bind_some]
    simpa using eqAcctS_l0_rfl a t (p ++ [x]) (by rw [e]; simp) (fun s hs' => hs s (by simp [hs']))
theorem eqAcctS_rfl (a : List Acct) (h : wtL wtAcct a ≤ 4000000) : laws_eqAcctS a a = some true := by
  have hl : a.length ≤ 4000000 := (by have := wtL_len wtAcct a; omega)
  unfold laws_eqAcctS
  rw [eqAcctS_l0_rfl a a [] rfl (fun s hs => by have := wtL_mem wtAcct a s hs; omega), capOk_of (show a.length ≤ 274877906944 by omega)]
  simp only [bne_rfl, Bool.false_eq_true, if_false, if_true]
  rfl
theorem markAcctS_l0_val : ∀ (n : Nat) (k : Int) (i : Nat) (v : List Acct), i ≤ v.length → v.length ≤ 4000000 → wtL wtAcct (v.drop i) ≤ 4000000 → 0 ≤ k → k + 16 * (wtL wtAcct (v.drop i) : Nat) ≤ 1000000000000 → v.length - i < n →
    ∃ (k' : Int) (v' : List Acct), laws_markAcctS_l0 n k (i : Int) v = some (k', v') ∧ k ≤ k' ∧ k' ≤ k + 16 * (wtL wtAcct (v.drop i) : Nat) ∧ v'.length = v.length ∧ v'.take i = v.take i
  | 0, k, i, v, hi, hl, hw, h0, hk, hn => by omega
  | n + 1, k, i, v, hi, hl, hw, h0, hk, hn => by
    unfold laws_markAcctS_l0
    by_cases h : i < v.length
    · have hc : (i : Int) < (v.length : Int) := by omega
      have hi1 : i64 ((i : Int) + 1) = ((i + 1 : Nat) : Int) := by rw [i64_of (by omega) (by omega)]; omega
      have hg : v[i]? = some v[i] := List.getElem?_eq_getElem h
      have hd : wtL wtAcct (v.drop i) = 1 + wtAcct v[i] + wtL wtAcct (v.drop (i + 1)) := by rw [List.drop_eq_getElem_cons h]; rfl
      have hx := wtAcct_eq v[i]
      have hx0 := wtRing_eq v[i].Ring
      obtain ⟨t0, ht0⟩ := markText_tot (k) (by omega)
      have i0 : i64 (k + 1) = k + 1 := i64_of (by omega) (by omega)
      have i1 : i64 (k + 1 + 1) = k + 1 + 1 := i64_of (by omega) (by omega)
      have i2 : i64 (k + 1 + 1 + 1) = k + 1 + 1 + 1 := i64_of (by omega) (by omega)
      have i3 : i64 (k + 1 + 1 + 1 + 1) = k + 1 + 1 + 1 + 1 := i64_of (by omega) (by omega)
      have i4 : i64 (k + 1 + 1 + 1 + 1 + 1) = k + 1 + 1 + 1 + 1 + 1 := i64_of (by omega) (by omega)
      obtain ⟨k5, y5, m5, g5, b5, q5⟩ := markHoldS_val v[i].Holds (k + 1 + 1 + 1 + 1 + 1) (by omega) (by omega) (by omega)
      have i6 : i64 (k5 + 1) = k5 + 1 := i64_of (by omega) (by omega)
      have i7 : i64 (k5 + 1 + 1) = k5 + 1 + 1 := i64_of (by omega) (by omega)
      obtain ⟨k8, y8, m8, g8, b8, q8⟩ := markIntS_val v[i].Ring.Counts (k5 + 1 + 1) (by omega) (by omega) (by omega)
      obtain ⟨k9, y9, m9, g9, b9, q9⟩ := markIntS_val v[i].Ring.Sums (k8) (by omega) (by omega) (by omega)
      obtain ⟨k10, y10, m10, g10, b10, q10⟩ := markSlotS_val v[i].Slots (k9) (by omega) (by omega) (by omega)
      have hsl : (v.set i (Acct.mk t0 (k + 1) (k + 1 + 1) (k + 1 + 1 + 1) (k + 1 + 1 + 1 + 1) y5 (Ring.mk (k5) (k5 + 1) y8 y9) y10)).length = v.length := List.length_set
      have hsd : (v.set i (Acct.mk t0 (k + 1) (k + 1 + 1) (k + 1 + 1 + 1) (k + 1 + 1 + 1 + 1) y5 (Ring.mk (k5) (k5 + 1) y8 y9) y10)).drop (i + 1) = v.drop (i + 1) := List.drop_set_of_lt (by omega)
      obtain ⟨k', v', e1, e1', e1'', e2, e3⟩ := markAcctS_l0_val n (k10) (i + 1) (v.set i (Acct.mk t0 (k + 1) (k + 1 + 1) (k + 1 + 1 + 1) (k + 1 + 1 + 1 + 1) y5 (Ring.mk (k5) (k5 + 1) y8 y9) y10)) (by rw [hsl]; omega) (by rw [hsl]; omega) (by rw [hsd]; omega) (by omega) (by rw [hsd]; omega) (by rw [hsl]; omega)
      rw [hsl] at e2
      rw [hsd] at e1''
      obtain ⟨p1, p2⟩ := after_set e3 e2 h
      refine ⟨k', v', ?_, by omega, by omega, e2, p2⟩
      · simp only [hc, decide_true, if_true, Int.natCast_nonneg, Int.toNat_natCast, hg, Option.bind_some, ht0, i0, i1, i2, i3, i4, m5, i6, i7, m8, m9, m10, hi1, List.getElem?_set_self h, List.set_set, List.length_set]
        exact e1
    · have hc : ¬ (i : Int) < (v.length : Int) := by omega
      refine ⟨k, v, by simp only [hc, decide_false, Bool.false_eq_true, if_false], by omega, by omega, rfl, rfl⟩
theorem markAcctS_val (v : List Acct) (k : Int) (h : wtL wtAcct v ≤ 4000000) (h0 : 0 ≤ k) (hk : k + 16 * (wtL wtAcct v : Nat) ≤ 1000000000000) :
    ∃ (k' : Int) (v' : List Acct), laws_markAcctS v k = some (k', v') ∧ k ≤ k' ∧ k' ≤ k + 16 * (wtL wtAcct v : Nat) ∧ v'.length = v.length := by
  have hl : v.length ≤ 4000000 := (by have := wtL_len wtAcct v; omega)
  obtain ⟨k', v', e1, e1', e1'', e2, e3⟩ := markAcctS_l0_val FUEL k 0 v (by omega) hl (by simpa using h) h0 (by simpa using hk) (by unfold FUEL; omega)
  simp only [List.drop_zero] at e1''
  refine ⟨k', v', ?_, e1', e1'', e2⟩
  unfold laws_markAcctS
  have : ((0 : Nat) : Int) = 0 := rfl
  rw [this] at e1
  rw [e1]; rfl
def wtStripe (a : Stripe) : Nat := wtL wtAcct a.Accts
theorem wtStripe_eq (a : Stripe) : wtStripe a = wtL wtAcct a.Accts := rfl
theorem szStripe_val (a : Stripe) (left : Int) (hw : W128 a) (h0 : 0 ≤ left) (h1 : left ≤ 1048576) : ∃ r, laws_szStripe a left = some r ∧ (0 ≤ r → r = left - (wtStripe a : Nat)) := by
  unfold W128 at hw
  obtain ⟨w0, w1⟩ := hw
  rw [wtStripe_eq]
  unfold laws_szStripe
  obtain ⟨r1, e1, g1⟩ := szAcctS_val a.Accts left w1 (by omega) (by omega)
  simp only [e1, decide_true, decide_false, Bool.false_eq_true, if_true, if_false, Option.bind_some]
  by_cases c1 : r1 < 0
  · exact ⟨-1, by simp only [c1, decide_true, decide_false, Bool.false_eq_true, if_true, if_false, Option.bind_some], fun h => by omega⟩
  · have g1 := g1 (by omega)
    simp only [c1, decide_true, decide_false, Bool.false_eq_true, if_true, if_false, Option.bind_some]
    exact ⟨_, rfl, fun _ => by omega⟩
theorem toStripe_val (a : Stripe) (h : wtStripe a ≤ 4000000) : laws_toStripe a = some a := by
  rw [wtStripe_eq] at h
  unfold laws_toStripe
  simp only [toAcctS_val a.Accts (by omega), Option.bind_some]
theorem eqStripe_rfl (a : Stripe) (h : wtStripe a ≤ 4000000) : laws_eqStripe a a = some true := by
  rw [wtStripe_eq] at h
  unfold laws_eqStripe
  simp only [eqAcctS_rfl a.Accts (by omega), beq_rfl, bne_rfl, Bool.false_eq_true, if_false, if_true, Option.bind_some]
theorem szStripeS_l0_val (a : List Stripe) : ∀ (t : List Stripe) (v : Int), 0 ≤ v → v ≤ 1048576 → (∀ x ∈ t, W128 x) → ∃ r, laws_szStripeS_l0 a t v = some r ∧ ∀ s, r = .out s → 0 ≤ s ∧ s = v - (wtS wtStripe t : Nat)
  | [], v, h0, h1, _ => ⟨.out v, rfl, fun s e => by cases e; exact ⟨h0, by simp [wtS]⟩⟩
  | x :: t, v, h0, h1, hw => by
    obtain ⟨r, e1, e3⟩ := szStripe_val x v (hw x (by simp)) h0 h1
    unfold laws_szStripeS_l0
    rw [e1, Option.bind_some]
    by_cases h : r < 0
    · exact ⟨.ret (), by simp [h], fun s e => by cases e⟩
    · have e3 := e3 (by omega)
      obtain ⟨z, f1, f2⟩ := szStripeS_l0_val a t r (by omega) (by omega) (fun y hy => hw y (by simp [hy]))
      refine ⟨z, by simp [h, f1], fun s e => ?_⟩
      obtain ⟨g1, g2⟩ := f2 s e
      exact ⟨g1, by rw [g2]; simp only [wtS]; omega⟩
theorem szStripeS_val (a : List Stripe) (left : Int) (hw : W61 a) (h0 : 0 ≤ left) (h1 : left ≤ 1048576) : ∃ r, laws_szStripeS a left = some r ∧ (0 ≤ r → r = left - (wtL wtStripe a : Nat)) := by
  unfold W61 Wl at hw
  have hl : a.length ≤ 140737488351232 := by have := hw.1; omega
  unfold laws_szStripeS
  rw [sub_val h0 h1 hl]
  by_cases h : left - (a.length : Int) < 0
  · exact ⟨-1, by simp [h], fun h => by omega⟩
  · obtain ⟨z, f1, f2⟩ := szStripeS_l0_val a a (left - a.length) (by omega) (by omega) hw.2
    simp only [h, decide_false, Bool.false_eq_true, if_false, capOk_of (show a.length ≤ 274877906944 by omega), if_true, f1, Option.bind_some]
    cases z with
    | ret u => exact ⟨-1, rfl, fun h => by omega⟩
    | out s =>
      obtain ⟨g1, g2⟩ := f2 s rfl
      exact ⟨s, rfl, fun _ => by rw [g2, wtL_eq]; omega⟩
theorem toStripeS_l0_val (a : List Stripe) : ∀ (t p v : List Stripe), a = p ++ t → (∀ s ∈ t, wtStripe s ≤ 4000000) → v.length = a.length → v.take p.length = p → laws_toStripeS_l0 a t p v = some a
  | [], p, v, e, hs, hl, hv => by
    have : v = p := by rw [← hv, List.take_of_length_le (by rw [hl, e]; simp)]
    simp [laws_toStripeS_l0, this, e]
  | x :: t, p, v, e, hs, hl, hv => by
    have hlt : p.length < v.length := by rw [hl, e]; simp
    obtain ⟨y, hy⟩ := idx_some (v := v) hlt
    unfold laws_toStripeS_l0
    rw [toStripe_val x (hs x (by simp)), Option.bind_some, hy, Option.bind_some, Int.toNat_natCast]
    exact toStripeS_l0_val a t (p ++ [x]) _ (by rw [e]; simp) (fun s hs' => hs s (by simp [hs'])) (by simp [hl]) (set_take hv hlt)
theorem toStripeS_val (a : List Stripe) (h : wtL wtStripe a ≤ 4000000) : laws_toStripeS a = some a := by
  have hl : a.length ≤ 4000000 := (by have := wtL_len wtStripe a; omega)
  unfold laws_toStripeS
  simp only [Int.natCast_nonneg, decide_true, if_true, Int.toNat_natCast, capOk_of (show a.length ≤ 274877906944 by omega)]
  rw [toStripeS_l0_val a a [] _ rfl (fun s hs => by have := wtL_mem wtStripe a s hs; omega) (by simp) rfl]
  rfl
theorem eqStripeS_l0_rfl (a : List Stripe) : ∀ t p : List Stripe, a = p ++ t → (∀ s ∈ t, wtStripe s ≤ 4000000) → laws_eqStripeS_l0 a a t p = some (.out ())
  | [], p, e, _ => rfl
  | x :: t, p, e, hs => by
    unfold laws_eqStripeS_l0
    rw [mid_get e, Option.bind_some, eqStripe_rfl x (hs x (by simp)), Option.bind_some]
    simpa using eqStripeS_l0_rfl a t (p ++ [x]) (by rw [e]; simp) (fun s hs' => hs s (by simp [hs']))
theorem eqStripeS_rfl (a : List Stripe) (h : wtL wtStripe a ≤ 4000000) : laws_eqStripeS a a = some true := by
  have hl : a.length ≤ 4000000 := (by have := wtL_len wtStripe a; omega)
  unfold laws_eqStripeS
  rw [eqStripeS_l0_rfl a a [] rfl (fun s hs => by have := wtL_mem wtStripe a s hs; omega), capOk_of (show a.length ≤ 274877906944 by omega)]
  simp only [bne_rfl, Bool.false_eq_true, if_false, if_true]
  rfl
theorem markStripeS_l0_val : ∀ (n : Nat) (k : Int) (i : Nat) (v : List Stripe), i ≤ v.length → v.length ≤ 4000000 → wtL wtStripe (v.drop i) ≤ 4000000 → 0 ≤ k → k + 16 * (wtL wtStripe (v.drop i) : Nat) ≤ 1000000000000 → v.length - i < n →
    ∃ (k' : Int) (v' : List Stripe), laws_markStripeS_l0 n k (i : Int) v = some (k', v') ∧ k ≤ k' ∧ k' ≤ k + 16 * (wtL wtStripe (v.drop i) : Nat) ∧ v'.length = v.length ∧ v'.take i = v.take i
  | 0, k, i, v, hi, hl, hw, h0, hk, hn => by omega
  | n + 1, k, i, v, hi, hl, hw, h0, hk, hn => by
    unfold laws_markStripeS_l0
    by_cases h : i < v.length
    · have hc : (i : Int) < (v.length : Int) := by omega
      have hi1 : i64 ((i : Int) + 1) = ((i + 1 : Nat) : Int) := by rw [i64_of (by omega) (by omega)]; omega
      have hg : v[i]? = some v[i] := List.getElem?_eq_getElem h
      have hd : wtL wtStripe (v.drop i) = 1 + wtStripe v[i] + wtL wtStripe (v.drop (i + 1)) := by rw [List.drop_eq_getElem_cons h]; rfl
      have hx := wtStripe_eq v[i]
      have i0 : i64 (k + 1) = k + 1 := i64_of (by omega) (by omega)
      obtain ⟨k1, y1, m1, g1, b1, q1⟩ := markAcctS_val v[i].Accts (k + 1) (by omega) (by omega) (by omega)
      have hsl : (v.set i (Stripe.mk (k) y1)).length = v.length := List.length_set
      have hsd : (v.set i (Stripe.mk (k) y1)).drop (i + 1) = v.drop (i + 1) := List.drop_set_of_lt (by omega)
      obtain ⟨k', v', e1, e1', e1'', e2, e3⟩ := markStripeS_l0_val n (k1) (i + 1) (v.set i (Stripe.mk (k) y1)) (by rw [hsl]; omega) (by rw [hsl]; omega) (by rw [hsd]; omega) (by omega) (by rw [hsd]; omega) (by rw [hsl]; omega)
      rw [hsl] at e2
      rw [hsd] at e1''
      obtain ⟨p1, p2⟩ := after_set e3 e2 h
      refine ⟨k', v', ?_, by omega, by omega, e2, p2⟩
      · simp only [hc, decide_true, if_true, Int.natCast_nonneg, Int.toNat_natCast, hg, Option.bind_some, i0, m1, hi1, List.getElem?_set_self h, List.set_set, List.length_set]
        exact e1
    · have hc : ¬ (i : Int) < (v.length : Int) := by omega
      refine ⟨k, v, by simp only [hc, decide_false, Bool.false_eq_true, if_false], by omega, by omega, rfl, rfl⟩
theorem markStripeS_val (v : List Stripe) (k : Int) (h : wtL wtStripe v ≤ 4000000) (h0 : 0 ≤ k) (hk : k + 16 * (wtL wtStripe v : Nat) ≤ 1000000000000) :
    ∃ (k' : Int) (v' : List Stripe), laws_markStripeS v k = some (k', v') ∧ k ≤ k' ∧ k' ≤ k + 16 * (wtL wtStripe v : Nat) ∧ v'.length = v.length := by
  have hl : v.length ≤ 4000000 := (by have := wtL_len wtStripe v; omega)
  obtain ⟨k', v', e1, e1', e1'', e2, e3⟩ := markStripeS_l0_val FUEL k 0 v (by omega) hl (by simpa using h) h0 (by simpa using hk) (by unfold FUEL; omega)
  simp only [List.drop_zero] at e1''
  refine ⟨k', v', ?_, e1', e1'', e2⟩
  unfold laws_markStripeS
  have : ((0 : Nat) : Int) = 0 := rfl
  rw [this] at e1
  rw [e1]; rfl
def wtTask (a : Task) : Nat := a.Data.length + a.Set.length + a.Reply.length
theorem wtTask_eq (a : Task) : wtTask a = a.Data.length + a.Set.length + a.Reply.length := rfl
theorem szTask_val (a : Task) (left : Int) (hw : W181 a) (h0 : 0 ≤ left) (h1 : left ≤ 1048576) : ∃ r, laws_szTask a left = some r ∧ (0 ≤ r → r = left - (wtTask a : Nat)) := by
  unfold W181 at hw
  obtain ⟨w0, w1, w2, w3, w4, w5, w6, w7, w8⟩ := hw
  rw [wtTask_eq]
  unfold laws_szTask
  obtain ⟨r1, e1, g1⟩ := szByteS_val a.Data left w0 (by omega) (by omega)
  simp only [e1, decide_true, decide_false, Bool.false_eq_true, if_true, if_false, Option.bind_some]
  by_cases c1 : r1 < 0
  · exact ⟨-1, by simp only [c1, decide_true, decide_false, Bool.false_eq_true, if_true, if_false, Option.bind_some], fun h => by omega⟩
  · have g1 := g1 (by omega)
    simp only [c1, decide_true, decide_false, Bool.false_eq_true, if_true, if_false, Option.bind_some]
    obtain ⟨r2, e2, g2⟩ := szIntS_val a.Set r1 w2 (by omega) (by omega)
    simp only [e2, decide_true, decide_false, Bool.false_eq_true, if_true, if_false, Option.bind_some]
    by_cases c2 : r2 < 0
    · exact ⟨-1, by simp only [c2, decide_true, decide_false, Bool.false_eq_true, if_true, if_false, Option.bind_some], fun h => by omega⟩
    · have g2 := g2 (by omega)
      simp only [c2, decide_true, decide_false, Bool.false_eq_true, if_true, if_false, Option.bind_some]
      obtain ⟨r3, e3, g3⟩ := szByteS_val a.Reply r2 w8 (by omega) (by omega)
      simp only [e3, decide_true, decide_false, Bool.false_eq_true, if_true, if_false, Option.bind_some]
      by_cases c3 : r3 < 0
      · exact ⟨-1, by simp only [c3, decide_true, decide_false, Bool.false_eq_true, if_true, if_false, Option.bind_some], fun h => by omega⟩
      · have g3 := g3 (by omega)
        simp only [c3, decide_true, decide_false, Bool.false_eq_true, if_true, if_false, Option.bind_some]
        exact ⟨_, rfl, fun _ => by omega⟩
theorem toTask_val (a : Task) (h : wtTask a ≤ 4000000) : laws_toTask a = some a := by
  rw [wtTask_eq] at h
  unfold laws_toTask
  simp only [toByteS_val a.Data (by omega), toIntS_val a.Set (by omega), toByteS_val a.Reply (by omega), Option.bind_some]
theorem eqTask_rfl (a : Task) (h : wtTask a ≤ 4000000) : laws_eqTask a a = some true := by
  rw [wtTask_eq] at h
  unfold laws_eqTask
  simp only [eqByteS_rfl a.Data (by omega), eqIntS_rfl a.Set (by omega), eqByteS_rfl a.Reply (by omega), beq_rfl, bne_rfl, Bool.false_eq_true, if_false, if_true, Option.bind_some]
theorem szTaskS_l0_val (a : List Task) : ∀ (t : List Task) (v : Int), 0 ≤ v → v ≤ 1048576 → (∀ x ∈ t, W181 x) → ∃ r, laws_szTaskS_l0 a t v = some r ∧ ∀ s, r = .out s → 0 ≤ s ∧ s = v - (wtS wtTask t : Nat)
  | [], v, h0, h1, _ => ⟨.out v, rfl, fun s e => by cases e; exact ⟨h0, by simp [wtS]⟩⟩
  | x :: t, v, h0, h1, hw => by
    obtain ⟨r, e1, e3⟩ := szTask_val x v (hw x (by simp)) h0 h1
    unfold laws_szTaskS_l0
    rw [e1, Option.bind_some]
    by_cases h : r < 0
    · exact ⟨.ret (), by simp [h], fun s e => by cases e⟩
    · have e3 := e3 (by omega)
      obtain ⟨z, f1, f2⟩ := szTaskS_l0_val a t r (by omega) (by omega) (fun y hy => hw y (by simp [hy]))
      refine ⟨z, by simp [h, f1], fun s e => ?_⟩
      obtain ⟨g1, g2⟩ := f2 s e
      exact ⟨g1, by rw [g2]; simp only [wtS]; omega⟩
theorem szTaskS_val (a : List Task) (left : Int) (hw : W73 a) (h0 : 0 ≤ left) (h1 : left ≤ 1048576) : ∃ r, laws_szTaskS a left = some r ∧ (0 ≤ r → r = left - (wtL wtTask a : Nat)) := by
  unfold W73 Wl at hw
  have hl : a.length ≤ 140737488351232 := by have := hw.1; omega
  unfold laws_szTaskS
  rw [sub_val h0 h1 hl]
  by_cases h : left - (a.length : Int) < 0
  · exact ⟨-1, by simp [h], fun h => by omega⟩
  · obtain ⟨z, f1, f2⟩ := szTaskS_l0_val a a (left - a.length) (by omega) (by omega) hw.2
    simp only [h, decide_false, Bool.false_eq_true, if_false, capOk_of (show a.length ≤ 274877906944 by omega), if_true, f1, Option.bind_some]
    cases z with
    | ret u => exact ⟨-1, rfl, fun h => by omega⟩
    | out s =>
      obtain ⟨g1, g2⟩ := f2 s rfl
      exact ⟨s, rfl, fun _ => by rw [g2, wtL_eq]; omega⟩
theorem toTaskS_l0_val (a : List Task) : ∀ (t p v : List Task), a = p ++ t → (∀ s ∈ t, wtTask s ≤ 4000000) → v.length = a.length → v.take p.length = p → laws_toTaskS_l0 a t p v = some a
  | [], p, v, e, hs, hl, hv => by
    have : v = p := by rw [← hv, List.take_of_length_le (by rw [hl, e]; simp)]
    simp [laws_toTaskS_l0, this, e]
  | x :: t, p, v, e, hs, hl, hv => by
    have hlt : p.length < v.length := by rw [hl, e]; simp
    obtain ⟨y, hy⟩ := idx_some (v := v) hlt
    unfold laws_toTaskS_l0
    rw [toTask_val x (hs x (by simp)), Option.bind_some, hy, Option.bind_some, Int.toNat_natCast]
    exact toTaskS_l0_val a t (p ++ [x]) _ (by rw [e]; simp) (fun s hs' => hs s (by simp [hs'])) (by simp [hl]) (set_take hv hlt)
theorem toTaskS_val (a : List Task) (h : wtL wtTask a ≤ 4000000) : laws_toTaskS a = some a := by
  have hl : a.length ≤ 4000000 := (by have := wtL_len wtTask a; omega)
  unfold laws_toTaskS
  simp only [Int.natCast_nonneg, decide_true, if_true, Int.toNat_natCast, capOk_of (show a.length ≤ 274877906944 by omega)]
  rw [toTaskS_l0_val a a [] _ rfl (fun s hs => by have := wtL_mem wtTask a s hs; omega) (by simp) rfl]
  rfl
theorem eqTaskS_l0_rfl (a : List Task) : ∀ t p : List Task, a = p ++ t → (∀ s ∈ t, wtTask s ≤ 4000000) → laws_eqTaskS_l0 a a t p = some (.out ())
  | [], p, e, _ => rfl
  | x :: t, p, e, hs => by
    unfold laws_eqTaskS_l0
    rw [mid_get e, Option.bind_some, eqTask_rfl x (hs x (by simp)), Option.bind_some]
    simpa using eqTaskS_l0_rfl a t (p ++ [x]) (by rw [e]; simp) (fun s hs' => hs s (by simp [hs']))
theorem eqTaskS_rfl (a : List Task) (h : wtL wtTask a ≤ 4000000) : laws_eqTaskS a a = some true := by
  have hl : a.length ≤ 4000000 := (by have := wtL_len wtTask a; omega)
  unfold laws_eqTaskS
  rw [eqTaskS_l0_rfl a a [] rfl (fun s hs => by have := wtL_mem wtTask a s hs; omega), capOk_of (show a.length ≤ 274877906944 by omega)]
  simp only [bne_rfl, Bool.false_eq_true, if_false, if_true]
  rfl
theorem markTaskS_l0_val : ∀ (n : Nat) (k : Int) (i : Nat) (v : List Task), i ≤ v.length → v.length ≤ 4000000 → wtL wtTask (v.drop i) ≤ 4000000 → 0 ≤ k → k + 16 * (wtL wtTask (v.drop i) : Nat) ≤ 1000000000000 → v.length - i < n →
    ∃ (k' : Int) (v' : List Task), laws_markTaskS_l0 n k (i : Int) v = some (k', v') ∧ k ≤ k' ∧ k' ≤ k + 16 * (wtL wtTask (v.drop i) : Nat) ∧ v'.length = v.length ∧ v'.take i = v.take i
  | 0, k, i, v, hi, hl, hw, h0, hk, hn => by omega
  | n + 1, k, i, v, hi, hl, hw, h0, hk, hn => by
    unfold laws_markTaskS_l0
    by_cases h : i < v.length
    · have hc : (i : Int) < (v.length : Int) := by omega
      have hi1 : i64 ((i : Int) + 1) = ((i + 1 : Nat) : Int) := by rw [i64_of (by omega) (by omega)]; omega
      have hg : v[i]? = some v[i] := List.getElem?_eq_getElem h
      have hd : wtL wtTask (v.drop i) = 1 + wtTask v[i] + wtL wtTask (v.drop (i + 1)) := by rw [List.drop_eq_getElem_cons h]; rfl
      have hx := wtTask_eq v[i]
      obtain ⟨k0, y0, m0, g0, b0, q0, d0⟩ := markByteS_val v[i].Data (k) (by omega) (by omega) (by omega)
      have i1 : i64 (k0 + 1) = k0 + 1 := i64_of (by omega) (by omega)
      obtain ⟨k2, y2, m2, g2, b2, q2⟩ := markIntS_val v[i].Set (k0 + 1) (by omega) (by omega) (by omega)
      have i3 : i64 (k2 + 1) = k2 + 1 := i64_of (by omega) (by omega)
      have i4 : i64 (k2 + 1 + 1) = k2 + 1 + 1 := i64_of (by omega) (by omega)
      have i5 : i64 (k2 + 1 + 1 + 1) = k2 + 1 + 1 + 1 := i64_of (by omega) (by omega)
      have i6 : i64 (k2 + 1 + 1 + 1 + 1) = k2 + 1 + 1 + 1 + 1 := i64_of (by omega) (by omega)
      have i7 : i64 (k2 + 1 + 1 + 1 + 1 + 1) = k2 + 1 + 1 + 1 + 1 + 1 := i64_of (by omega) (by omega)
      obtain ⟨k8, y8, m8, g8, b8, q8, d8⟩ := markByteS_val v[i].Reply (k2 + 1 + 1 + 1 + 1 + 1) (by omega) (by omega) (by omega)
      have hsl : (v.set i (Task.mk y0 (k0) y2 (k2) (k2 + 1) (k2 + 1 + 1) (k2 + 1 + 1 + 1) (k2 + 1 + 1 + 1 + 1) y8)).length = v.length := List.length_set
      have hsd : (v.set i (Task.mk y0 (k0) y2 (k2) (k2 + 1) (k2 + 1 + 1) (k2 + 1 + 1 + 1) (k2 + 1 + 1 + 1 + 1) y8)).drop (i + 1) = v.drop (i + 1) := List.drop_set_of_lt (by omega)
      obtain ⟨k', v', e1, e1', e1'', e2, e3⟩ := markTaskS_l0_val n (k8) (i + 1) (v.set i (Task.mk y0 (k0) y2 (k2) (k2 + 1) (k2 + 1 + 1) (k2 + 1 + 1 + 1) (k2 + 1 + 1 + 1 + 1) y8)) (by rw [hsl]; omega) (by rw [hsl]; omega) (by rw [hsd]; omega) (by omega) (by rw [hsd]; omega) (by rw [hsl]; omega)
      rw [hsl] at e2
      rw [hsd] at e1''
      obtain ⟨p1, p2⟩ := after_set e3 e2 h
      refine ⟨k', v', ?_, by omega, by omega, e2, p2⟩
      · simp only [hc, decide_true, if_true, Int.natCast_nonneg, Int.toNat_natCast, hg, Option.bind_some, m0, i1, m2, i3, i4, i5, i6, i7, m8, hi1, List.getElem?_set_self h, List.set_set, List.length_set]
        exact e1
    · have hc : ¬ (i : Int) < (v.length : Int) := by omega
      refine ⟨k, v, by simp only [hc, decide_false, Bool.false_eq_true, if_false], by omega, by omega, rfl, rfl⟩
theorem markTaskS_val (v : List Task) (k : Int) (h : wtL wtTask v ≤ 4000000) (h0 : 0 ≤ k) (hk : k + 16 * (wtL wtTask v : Nat) ≤ 1000000000000) :
    ∃ (k' : Int) (v' : List Task), laws_markTaskS v k = some (k', v') ∧ k ≤ k' ∧ k' ≤ k + 16 * (wtL wtTask v : Nat) ∧ v'.length = v.length := by
  have hl : v.length ≤ 4000000 := (by have := wtL_len wtTask v; omega)
  obtain ⟨k', v', e1, e1', e1'', e2, e3⟩ := markTaskS_l0_val FUEL k 0 v (by omega) hl (by simpa using h) h0 (by simpa using hk) (by unfold FUEL; omega)
  simp only [List.drop_zero] at e1''
  refine ⟨k', v', ?_, e1', e1'', e2⟩
  unfold laws_markTaskS
  have : ((0 : Nat) : Int) = 0 := rfl
  rw [this] at e1
  rw [e1]; rfl
def wtWorld (a : World) : Nat := wtL wtStripe a.Stripes + wtL wtTask a.Tasks
theorem wtWorld_eq (a : World) : wtWorld a = wtL wtStripe a.Stripes + wtL wtTask a.Tasks := rfl
theorem szWorld_val (a : World) (left : Int) (hw : W75 a) (h0 : 0 ≤ left) (h1 : left ≤ 1048576) : ∃ r, laws_szWorld a left = some r ∧ (0 ≤ r → r = left - (wtWorld a : Nat)) := by
  unfold W75 at hw
  obtain ⟨w0, w1, w2, w3⟩ := hw
  rw [wtWorld_eq]
  unfold laws_szWorld
  obtain ⟨r1, e1, g1⟩ := szStripeS_val a.Stripes left w0 (by omega) (by omega)
  simp only [e1, decide_true, decide_false, Bool.false_eq_true, if_true, if_false, Option.bind_some]
  by_cases c1 : r1 < 0
  · exact ⟨-1, by simp only [c1, decide_true, decide_false, Bool.false_eq_true, if_true, if_false, Option.bind_some], fun h => by omega⟩
  · have g1 := g1 (by omega)
    simp only [c1, decide_true, decide_false, Bool.false_eq_true, if_true, if_false, Option.bind_some]
    obtain ⟨r2, e2, g2⟩ := szTaskS_val a.Tasks r1 w3 (by omega) (by omega)
    simp only [e2, decide_true, decide_false, Bool.false_eq_true, if_true, if_false, Option.bind_some]
    by_cases c2 : r2 < 0
    · exact ⟨-1, by simp only [c2, decide_true, decide_false, Bool.false_eq_true, if_true, if_false, Option.bind_some], fun h => by omega⟩
    · have g2 := g2 (by omega)
      simp only [c2, decide_true, decide_false, Bool.false_eq_true, if_true, if_false, Option.bind_some]
      exact ⟨_, rfl, fun _ => by omega⟩
theorem toWorld_val (a : World) (h : wtWorld a ≤ 4000000) : laws_toWorld a = some a := by
  rw [wtWorld_eq] at h
  unfold laws_toWorld
  simp only [toStripeS_val a.Stripes (by omega), toTaskS_val a.Tasks (by omega), Option.bind_some]
theorem eqWorld_rfl (a : World) (h : wtWorld a ≤ 4000000) : laws_eqWorld a a = some true := by
  rw [wtWorld_eq] at h
  unfold laws_eqWorld
  simp only [eqStripeS_rfl a.Stripes (by omega), eqTaskS_rfl a.Tasks (by omega), beq_rfl, bne_rfl, Bool.false_eq_true, if_false, if_true, Option.bind_some]
theorem markWorld_val (a : World) (k : Int) (h : wtWorld a ≤ 4000000) (h0 : 0 ≤ k) (hk : k + 16 * (wtWorld a : Nat) ≤ 1000000000000) : ∃ (k' : Int) (l0 : List Stripe) (l1 : List Task), laws_markWorld a k = some (k', l0, l1) ∧ k ≤ k' ∧ k' ≤ k + 16 * (wtWorld a : Nat) ∧ l0.length = a.Stripes.length ∧ l1.length = a.Tasks.length := by
  rw [wtWorld_eq] at *
  obtain ⟨k0, y0, m0, g0, b0, q0⟩ := markStripeS_val a.Stripes k (by omega) (by omega) (by omega)
  obtain ⟨k1, y1, m1, g1, b1, q1⟩ := markTaskS_val a.Tasks k0 (by omega) (by omega) (by omega)
  refine ⟨k1, y0, y1, ?_, by omega, by omega, q0, q1⟩
  · unfold laws_markWorld
    simp only [m0, m1, Option.bind_some]
def wtDone (a : Done) : Nat := a.Data.length + a.Reply.length
theorem wtDone_eq (a : Done) : wtDone a = a.Data.length + a.Reply.length := rfl
theorem eqDone_rfl (a : Done) (h : wtDone a ≤ 4000000) : laws_eqDone a a = some true := by
  rw [wtDone_eq] at h
  unfold laws_eqDone
  simp only [eqByteS_rfl a.Data (by omega), eqByteS_rfl a.Reply (by omega), beq_rfl, bne_rfl, Bool.false_eq_true, if_false, if_true, Option.bind_some]
theorem eqDoneS_l0_rfl (a : List Done) : ∀ t p : List Done, a = p ++ t → (∀ s ∈ t, wtDone s ≤ 4000000) → laws_eqDoneS_l0 a a t p = some (.out ())
  | [], p, e, _ => rfl
  | x :: t, p, e, hs => by
    unfold laws_eqDoneS_l0
    rw [mid_get e, Option.bind_some, eqDone_rfl x (hs x (by simp)), Option.bind_some]
    simpa using eqDoneS_l0_rfl a t (p ++ [x]) (by rw [e]; simp) (fun s hs' => hs s (by simp [hs']))
theorem eqDoneS_rfl (a : List Done) (h : wtL wtDone a ≤ 4000000) : laws_eqDoneS a a = some true := by
  have hl : a.length ≤ 4000000 := (by have := wtL_len wtDone a; omega)
  unfold laws_eqDoneS
  rw [eqDoneS_l0_rfl a a [] rfl (fun s hs => by have := wtL_mem wtDone a s hs; omega), capOk_of (show a.length ≤ 274877906944 by omega)]
  simp only [bne_rfl, Bool.false_eq_true, if_false, if_true]
  rfl
theorem markDoneS_l0_val : ∀ (n : Nat) (k : Int) (i : Nat) (v : List Done), i ≤ v.length → v.length ≤ 4000000 → wtL wtDone (v.drop i) ≤ 4000000 → 0 ≤ k → k + 16 * (wtL wtDone (v.drop i) : Nat) ≤ 1000000000000 → v.length - i < n →
    ∃ (k' : Int) (v' : List Done), laws_markDoneS_l0 n k (i : Int) v = some (k', v') ∧ k ≤ k' ∧ k' ≤ k + 16 * (wtL wtDone (v.drop i) : Nat) ∧ v'.length = v.length ∧ v'.take i = v.take i ∧ ∀ b, laws_heldDoneS_l0 b (v'.drop i) k = some (.out k')
  | 0, k, i, v, hi, hl, hw, h0, hk, hn => by omega
  | n + 1, k, i, v, hi, hl, hw, h0, hk, hn => by
    unfold laws_markDoneS_l0
    by_cases h : i < v.length
    · have hc : (i : Int) < (v.length : Int) := by omega
      have hi1 : i64 ((i : Int) + 1) = ((i + 1 : Nat) : Int) := by rw [i64_of (by omega) (by omega)]; omega
      have hg : v[i]? = some v[i] := List.getElem?_eq_getElem h
      have hd : wtL wtDone (v.drop i) = 1 + wtDone v[i] + wtL wtDone (v.drop (i + 1)) := by rw [List.drop_eq_getElem_cons h]; rfl
      have hx := wtDone_eq v[i]
      have i0 : i64 (k + 1) = k + 1 := i64_of (by omega) (by omega)
      obtain ⟨k1, y1, m1, g1, b1, q1, d1⟩ := markByteS_val v[i].Data (k + 1) (by omega) (by omega) (by omega)
      obtain ⟨k2, y2, m2, g2, b2, q2, d2⟩ := markByteS_val v[i].Reply (k1) (by omega) (by omega) (by omega)
      have hsl : (v.set i (Done.mk (k) y1 y2)).length = v.length := List.length_set
      have hsd : (v.set i (Done.mk (k) y1 y2)).drop (i + 1) = v.drop (i + 1) := List.drop_set_of_lt (by omega)
      obtain ⟨k', v', e1, e1', e1'', e2, e3, e4⟩ := markDoneS_l0_val n (k2) (i + 1) (v.set i (Done.mk (k) y1 y2)) (by rw [hsl]; omega) (by rw [hsl]; omega) (by rw [hsd]; omega) (by omega) (by rw [hsd]; omega) (by rw [hsl]; omega)
      rw [hsl] at e2
      rw [hsd] at e1''
      obtain ⟨p1, p2⟩ := after_set e3 e2 h
      refine ⟨k', v', ?_, by omega, by omega, e2, p2, fun b => ?_⟩
      · simp only [hc, decide_true, if_true, Int.natCast_nonneg, Int.toNat_natCast, hg, Option.bind_some, i0, m1, m2, hi1, List.getElem?_set_self h, List.set_set, List.length_set]
        exact e1
      · rw [p1]
        unfold laws_heldDoneS_l0
        simp only [i0, d1, show ¬ k1 < 0 by omega, d2, show ¬ k2 < 0 by omega, Option.bind_some, beq_rfl, bne_rfl, if_true, decide_false, Bool.false_eq_true, if_false]
        exact e4 b
    · have hc : ¬ (i : Int) < (v.length : Int) := by omega
      refine ⟨k, v, by simp only [hc, decide_false, Bool.false_eq_true, if_false], by omega, by omega, rfl, rfl, fun b => ?_⟩
      rw [List.drop_eq_nil_of_le (by omega)]
      rfl
theorem markDoneS_val (v : List Done) (k : Int) (h : wtL wtDone v ≤ 4000000) (h0 : 0 ≤ k) (hk : k + 16 * (wtL wtDone v : Nat) ≤ 1000000000000) :
    ∃ (k' : Int) (v' : List Done), laws_markDoneS v k = some (k', v') ∧ k ≤ k' ∧ k' ≤ k + 16 * (wtL wtDone v : Nat) ∧ v'.length = v.length ∧ laws_heldDoneS v' k = some k' := by
  have hl : v.length ≤ 4000000 := (by have := wtL_len wtDone v; omega)
  obtain ⟨k', v', e1, e1', e1'', e2, e3, e4⟩ := markDoneS_l0_val FUEL k 0 v (by omega) hl (by simpa using h) h0 (by simpa using hk) (by unfold FUEL; omega)
  have e4 := e4 v'
  simp only [List.drop_zero] at e4 e1''
  refine ⟨k', v', ?_, e1', e1'', e2, ?_⟩
  · unfold laws_markDoneS
    have : ((0 : Nat) : Int) = 0 := rfl
    rw [this] at e1
    rw [e1]; rfl
  · unfold laws_heldDoneS
    rw [capOk_of (by omega), e4]; rfl
theorem tf (b : Bool) : b = true ∨ b = false := by cases b <;> simp
def insB {α : Type} (lt : α → α → Bool) (b : α) : List α → List α
  | [] => [b]
  | x :: l => if lt b x = true then b :: x :: l else x :: insB lt b l
def mgB {α : Type} (lt : α → α → Bool) (A B : List α) : List α := B.foldl (fun acc b => insB lt b acc) A
/-- A strict weak order. -/
def SwB {α : Type} (lt : α → α → Bool) : Prop := (∀ a b, lt a b = true → lt b a = false) ∧ ∀ a b c, lt a b = false → lt b c = false → lt a c = false
def SrtB {α : Type} (lt : α → α → Bool) (l : List α) : Prop := l.Pairwise fun x y => lt y x = false
theorem SwB.trans {α : Type} {lt : α → α → Bool} (h : SwB lt) {a b c : α} (h1 : lt a b = true) (h2 : lt b c = true) : lt a c = true := by
  rcases hx : lt a c with _ | _
  · have := h.2 a c b hx (h.1 _ _ h2)
    rw [h1] at this; cases this
  · rfl
theorem snoc_of {α : Type} : ∀ {l : List α}, l ≠ [] → ∃ T y, l = T ++ [y]
  | [], h => absurd rfl h
  | [x], _ => ⟨[], x, rfl⟩
  | x :: y :: l, _ => by
    obtain ⟨T, z, e⟩ := snoc_of (l := y :: l) (by simp)
    exact ⟨x :: T, z, by rw [e]; rfl⟩
theorem swB_irr {α : Type} {lt : α → α → Bool} (h : SwB lt) (a : α) : lt a a = false := by
  rcases Bool.eq_false_or_eq_true (lt a a) with hx | hx
  · have := h.1 a a hx
    rw [hx] at this; cases this
  · exact hx
theorem mem_tw {α : Type} (p : α → Bool) : ∀ {l : List α} {x : α}, x ∈ l.takeWhile p → p x = true
  | [], _, h => by simp at h
  | y :: l, x, h => by
    rw [List.takeWhile_cons] at h
    split at h
    · rcases List.mem_cons.1 h with rfl | h
      · assumption
      · exact mem_tw p h
    · simp at h
theorem mem_insB {α : Type} {lt : α → α → Bool} {a b : α} : ∀ {l : List α}, a ∈ insB lt b l ↔ a = b ∨ a ∈ l
  | [] => by simp [insB]
  | x :: l => by
    unfold insB
    split
    · simp
    · simp only [List.mem_cons, mem_insB]
      constructor
      · rintro (h | h | h)
        · exact .inr (.inl h)
        · exact .inl h
        · exact .inr (.inr h)
      · rintro (h | h | h)
        · exact .inr (.inl h)
        · exact .inl h
        · exact .inr (.inr h)
theorem len_insB {α : Type} {lt : α → α → Bool} (b : α) : ∀ l : List α, (insB lt b l).length = l.length + 1
  | [] => rfl
  | x :: l => by
    unfold insB
    split
    · simp
    · simp [len_insB b l]
theorem insB_left {α : Type} {lt : α → α → Bool} {b : α} : ∀ {X Y : List α}, (∀ y ∈ Y, lt b y = true) → insB lt b (X ++ Y) = insB lt b X ++ Y
  | [], [], _ => rfl
  | [], y :: Y, h => by simp [insB, h y (by simp)]
  | x :: X, Y, h => by
    rw [List.cons_append]
    unfold insB
    split
    · rfl
    · rw [insB_left h]; rfl
theorem insB_right {α : Type} {lt : α → α → Bool} {b : α} : ∀ {X Y : List α}, (∀ x ∈ X, lt b x = false) → insB lt b (X ++ Y) = X ++ insB lt b Y
  | [], Y, _ => rfl
  | x :: X, Y, h => by
    rw [List.cons_append]
    conv => lhs; unfold insB
    rw [if_neg (by rw [h x (by simp)]; simp), insB_right (fun z hz => h z (by simp [hz]))]
    rfl
theorem mgB_nil {α : Type} {lt : α → α → Bool} (A : List α) : mgB lt A [] = A := rfl
theorem mgB_cons {α : Type} {lt : α → α → Bool} (A : List α) (b : α) (B : List α) : mgB lt A (b :: B) = mgB lt (insB lt b A) B := rfl
theorem mgB_app {α : Type} {lt : α → α → Bool} (A B C : List α) : mgB lt A (B ++ C) = mgB lt (mgB lt A B) C := by simp [mgB]
theorem len_mgB {α : Type} {lt : α → α → Bool} : ∀ (B A : List α), (mgB lt A B).length = A.length + B.length
  | [], A => rfl
  | b :: B, A => by rw [mgB_cons, len_mgB B, len_insB]; simp; omega
theorem mem_mgB {α : Type} {lt : α → α → Bool} {a : α} : ∀ {B A : List α}, a ∈ mgB lt A B ↔ a ∈ A ∨ a ∈ B
  | [], A => by simp [mgB]
  | b :: B, A => by
    rw [mgB_cons, mem_mgB, mem_insB]
    simp only [List.mem_cons]
    constructor
    · rintro ((h | h) | h)
      · exact .inr (.inl h)
      · exact .inl h
      · exact .inr (.inr h)
    · rintro (h | h | h)
      · exact .inl (.inr h)
      · exact .inl (.inl h)
      · exact .inr h
theorem mgB_left {α : Type} {lt : α → α → Bool} : ∀ {B X Y : List α}, (∀ b ∈ B, ∀ y ∈ Y, lt b y = true) → mgB lt (X ++ Y) B = mgB lt X B ++ Y
  | [], _, _, _ => rfl
  | b :: B, X, Y, h => by rw [mgB_cons, mgB_cons, insB_left (h b (by simp)), mgB_left (fun c hc => h c (by simp [hc]))]
theorem mgB_right {α : Type} {lt : α → α → Bool} : ∀ {B X Y : List α}, (∀ b ∈ B, ∀ x ∈ X, lt b x = false) → mgB lt (X ++ Y) B = X ++ mgB lt Y B
  | [], _, _, _ => rfl
  | b :: B, X, Y, h => by rw [mgB_cons, mgB_cons, insB_right (h b (by simp)), mgB_right (fun c hc => h c (by simp [hc]))]
theorem mgB_split {α : Type} {lt : α → α → Bool} {A1 A2 B1 B2 : List α} (h1 : ∀ b ∈ B1, ∀ y ∈ A2, lt b y = true) (h2 : ∀ b ∈ B2, ∀ x ∈ A1, lt b x = false) (h3 : ∀ b ∈ B2, ∀ x ∈ B1, lt b x = false) :
    mgB lt (A1 ++ A2) (B1 ++ B2) = mgB lt A1 B1 ++ mgB lt A2 B2 := by
  rw [mgB_app, mgB_left h1, mgB_right (fun b hb x hx => (mem_mgB.1 hx).elim (h2 b hb x) (h3 b hb x))]
theorem srtB_ins {α : Type} {lt : α → α → Bool} (hs : SwB lt) (b : α) : ∀ {l : List α}, SrtB lt l → SrtB lt (insB lt b l)
  | [], _ => by simp [insB, SrtB]
  | x :: l, h => by
    have h' := List.pairwise_cons.1 h
    unfold insB
    split
    · rename_i hb
      refine List.pairwise_cons.2 ⟨fun y hy => ?_, h⟩
      rcases List.mem_cons.1 hy with rfl | hy
      · exact hs.1 _ _ hb
      · rcases hx : lt y b with _ | _
        · rfl
        · have := hs.trans hx hb
          rw [h'.1 y hy] at this; cases this
    · rename_i hb
      refine List.pairwise_cons.2 ⟨fun y hy => ?_, srtB_ins hs b h'.2⟩
      rcases mem_insB.1 hy with rfl | hy
      · simpa using hb
      · exact h'.1 y hy
theorem srtB_mg {α : Type} {lt : α → α → Bool} (hs : SwB lt) : ∀ {B A : List α}, SrtB lt A → SrtB lt (mgB lt A B)
  | [], _, h => h
  | b :: B, A, h => srtB_mg hs (B := B) (srtB_ins hs b h)
theorem insB_comm {α : Type} {lt : α → α → Bool} (hs : SwB lt) {b c : α} (h : lt b c = true) : ∀ S : List α, insB lt c (insB lt b S) = insB lt b (insB lt c S)
  | [] => by simp [insB, h, hs.1 _ _ h]
  | x :: S => by
    rcases hb : lt b x with _ | _
    · rcases hc : lt c x with _ | _
      · simp [insB, hb, hc, insB_comm hs h S]
      · have := hs.trans h hc
        rw [hb] at this; cases this
    · rcases hc : lt c x with _ | _
      · simp [insB, hb, hc, hs.1 _ _ h]
      · simp [insB, hb, hc, h, hs.1 _ _ h]
theorem mgB_ins_all {α : Type} {lt : α → α → Bool} (hs : SwB lt) {b : α} : ∀ {D A : List α}, (∀ c ∈ D, lt b c = true) → mgB lt (insB lt b A) D = insB lt b (mgB lt A D)
  | [], _, _ => rfl
  | c :: D, A, h => by rw [mgB_cons, mgB_cons, insB_comm hs (h c (by simp)), mgB_ins_all hs (fun d hd => h d (by simp [hd]))]
theorem mgB_ins {α : Type} {lt : α → α → Bool} (hs : SwB lt) {b : α} : ∀ {C A : List α}, SrtB lt C → mgB lt A (insB lt b C) = insB lt b (mgB lt A C)
  | [], _, _ => rfl
  | c :: C, A, h => by
    have h' := List.pairwise_cons.1 h
    rcases hb : lt b c with _ | _
    · have e : insB lt b (c :: C) = c :: insB lt b C := by simp [insB, hb]
      rw [e, mgB_cons, mgB_cons, mgB_ins hs h'.2]
    · have e : insB lt b (c :: C) = b :: c :: C := by simp [insB, hb]
      rw [e, mgB_cons]
      refine mgB_ins_all hs (fun d hd => ?_)
      rcases List.mem_cons.1 hd with rfl | hd
      · exact hb
      · rcases hx : lt b d with _ | _
        · have := hs.2 b d c hx (h'.1 d hd)
          rw [hb] at this; cases this
        · rfl
theorem srtB_srt {α : Type} {lt : α → α → Bool} (hs : SwB lt) (L : List α) : SrtB lt (mgB lt [] L) := srtB_mg hs (by simp [SrtB])
theorem mgB_srt {α : Type} {lt : α → α → Bool} (hs : SwB lt) (A : List α) : ∀ (n : Nat) (B : List α), B.length = n → mgB lt A (mgB lt [] B) = mgB lt A B
  | 0, [], _ => rfl
  | n + 1, B, h => by
    obtain ⟨C, b, rfl⟩ := snoc_of (l := B) (fun e => by simp [e] at h)
    rw [mgB_app, mgB_app, mgB_cons, mgB_nil, mgB_cons, mgB_nil, mgB_ins hs (srtB_srt hs C), mgB_srt hs A n C (by simp at h; omega)]
/-- Sorting a list is merging its sorted halves. -/
theorem srtB_app {α : Type} {lt : α → α → Bool} (hs : SwB lt) (A B : List α) : mgB lt [] (A ++ B) = mgB lt (mgB lt [] A) (mgB lt [] B) := by
  rw [mgB_app, mgB_srt hs _ _ B rfl]
/-- A sorted list stays. -/
theorem insB_last {α : Type} {lt : α → α → Bool} {b : α} {l : List α} (h : ∀ x ∈ l, lt b x = false) : insB lt b l = l ++ [b] := by
  have := insB_right (Y := []) h
  simpa [insB] using this
theorem mgB_sorted {α : Type} {lt : α → α → Bool} : ∀ (B A : List α), SrtB lt (A ++ B) → mgB lt A B = A ++ B
  | [], A, _ => by simp [mgB]
  | b :: B, A, h => by
    have h1 : ∀ x ∈ A, lt b x = false := fun x hx => (List.pairwise_append.1 h).2.2 x hx b (by simp)
    rw [mgB_cons, insB_last h1, mgB_sorted B (A ++ [b]) (by simpa using h)]
    simp
theorem half_val (i j : Nat) (h : i + j ≤ 9000000) : i64 (bshr .u64 (u64 (i64 ((i : Int) + (j : Int)))) 1) = (((i + j) / 2 : Nat) : Int) := by
  have e1 : i64 ((i : Int) + (j : Int)) = ((i + j : Nat) : Int) := by rw [i64_of (by omega) (by omega)]; omega
  have e2 : u64 ((i + j : Nat) : Int) = ((i + j : Nat) : Int) := by
    unfold u64 IntKind.wrap
    simp [IntKind.bits, IntKind.signed]
    omega
  have e3 : bshr .u64 ((i + j : Nat) : Int) 1 = (((i + j) / 2 : Nat) : Int) := by
    unfold bshr
    rw [show (2 : Int) ^ min (1 : Int).toNat IntKind.u64.bits = ((2 : Nat) : Int) from rfl]
    exact (Int.ofNat_fdiv _ _).symm
  rw [e1, e2, e3, i64_of (by omega) (by omega)]
theorem i64_nat (n : Nat) (h : n ≤ 9000000000000) : i64 (n : Int) = (n : Int) := i64_of (by omega) (by omega)
theorem i64_eq {x : Int} (n : Nat) (h : n ≤ 9000000000000) (e : x = (n : Int)) : i64 x = (n : Int) := by rw [e]; exact i64_nat n h
theorem nnB (n : Nat) : decide ((0 : Int) ≤ (n : Int)) = true := decide_eq_true (Int.natCast_nonneg n)
theorem get0 {α : Type} (A W : List α) (x : α) : (A ++ x :: W)[A.length]? = some x := by simp
theorem get1 {α : Type} (A W : List α) (x y : α) : (A ++ x :: y :: W)[A.length + 1]? = some y := by simp
theorem set0 {α : Type} (A W : List α) (x z : α) : (A ++ x :: W).set A.length z = A ++ z :: W := by simp
theorem set1 {α : Type} (A W : List α) (x y z : α) : (A ++ x :: y :: W).set (A.length + 1) z = A ++ x :: z :: W := by
  rw [List.set_append_right _ _ (by omega)]
  simp
theorem getB {α : Type} (A B W : List α) (x y : α) : (A ++ x :: (B ++ y :: W))[A.length + 1 + B.length]? = some y := by
  rw [List.getElem?_append_right (by omega), show A.length + 1 + B.length - A.length = B.length + 1 by omega]
  simp
theorem setB {α : Type} (A B W : List α) (x y z : α) : (A ++ x :: (B ++ y :: W)).set (A.length + 1 + B.length) z = A ++ x :: (B ++ z :: W) := by
  rw [List.set_append_right _ _ (by omega), show A.length + 1 + B.length - A.length = B.length + 1 by omega]
  simp
/-- Where a test turns. -/
theorem turn_at (p : Nat → Bool) : ∀ (n s r : Nat), r - s = n → s ≤ r → (∀ c, s ≤ c → c + 1 < r → p c = false → p (c + 1) = false) → ∃ k, s ≤ k ∧ k ≤ r ∧ (∀ c, s ≤ c → c < k → p c = true) ∧ ∀ c, k ≤ c → c < r → p c = false
  | 0, s, r, h, hs, _ => ⟨s, Nat.le_refl _, hs, fun c h1 h2 => by omega, fun c h1 h2 => by omega⟩
  | n + 1, s, r, h, hs, hm => by
    rcases hp : p s with _ | _
    · refine ⟨s, Nat.le_refl _, hs, fun c h1 h2 => by omega, fun c h1 h2 => ?_⟩
      obtain ⟨d, rfl⟩ : ∃ d, c = s + d := ⟨c - s, by omega⟩
      clear h1
      induction d with
      | zero => exact hp
      | succ d ih => exact hm (s + d) (by omega) (by omega) (ih (by omega))
    · obtain ⟨k, k1, k2, k3, k4⟩ := turn_at p n (s + 1) r (by omega) (by omega) (fun c h1 h2 => hm c (by omega) h2)
      refine ⟨k, by omega, k2, fun c h1 h2 => ?_, k4⟩
      rcases Nat.lt_or_ge s c with h3 | h3
      · exact k3 c (by omega) h2
      · obtain rfl : c = s := by omega
        exact hp
theorem srtB_get {α : Type} {lt : α → α → Bool} {l : List α} (h : SrtB lt l) {i j : Nat} {x y : α} (hij : i < j) (hx : l[i]? = some x) (hy : l[j]? = some y) : lt y x = false := by
  obtain ⟨h1, rfl⟩ := List.getElem?_eq_some_iff.1 hx
  obtain ⟨h2, rfl⟩ := List.getElem?_eq_some_iff.1 hy
  exact List.pairwise_iff_getElem.1 h i j h1 h2 hij
theorem srtB_app_left {α : Type} {lt : α → α → Bool} {A B : List α} (h : SrtB lt (A ++ B)) : SrtB lt A := (List.pairwise_append.1 h).1
theorem srtB_app_right {α : Type} {lt : α → α → Bool} {A B : List α} (h : SrtB lt (A ++ B)) : SrtB lt B := (List.pairwise_append.1 h).2.1
theorem srtB_one {α : Type} {lt : α → α → Bool} {A B : List α} (h : A = [] ∨ B = []) (hA : SrtB lt A) (hB : SrtB lt B) : SrtB lt (A ++ B) := by
  rcases h with rfl | rfl
  · exact hB
  · rw [List.append_nil]; exact hA
/-- A list whose blocks of k are sorted. -/
inductive Bs {α : Type} (lt : α → α → Bool) (k : Nat) : List α → List α → Prop
  | last (L : List α) (h : L.length ≤ k) : Bs lt k L (mgB lt [] L)
  | cons (A L M : List α) (h : A.length = k) (r : Bs lt k L M) : Bs lt k (A ++ L) (mgB lt [] A ++ M)
theorem Bs.len {α : Type} {lt : α → α → Bool} {k : Nat} {L M : List α} (h : Bs lt k L M) : M.length = L.length := by
  induction h with
  | last L h => rw [len_mgB]; simp
  | cons A L M h r ih => rw [List.length_append, List.length_append, len_mgB, ih]; simp
theorem Bs.mem {α : Type} {lt : α → α → Bool} {k : Nat} {L M : List α} (h : Bs lt k L M) : ∀ x, x ∈ M → x ∈ L := by
  induction h with
  | last L h => intro x hx; simpa using mem_mgB.1 hx
  | cons A L M h r ih =>
    intro x hx
    rcases List.mem_append.1 hx with hx | hx
    · exact List.mem_append_left _ (by simpa using mem_mgB.1 hx)
    · exact List.mem_append_right _ (ih x hx)
theorem Bs.small {α : Type} {lt : α → α → Bool} {k : Nat} {L M : List α} (h : Bs lt k L M) (hl : L.length ≤ k) : M = mgB lt [] L := by
  cases h with
  | last => rfl
  | cons A L M h r =>
    have : L = [] := List.eq_nil_of_length_eq_zero (by simp at hl; omega)
    subst this
    have : M = [] := List.eq_nil_of_length_eq_zero (by rw [r.len]; rfl)
    subst this
    simp
theorem Bs.nil {α : Type} {lt : α → α → Bool} (k : Nat) : Bs lt k [] [] := Bs.last [] (by simp)
theorem Bs.two {α : Type} {lt : α → α → Bool} {k : Nat} {L M : List α} (h : Bs lt k L M) (hk : 1 ≤ k) (hl : 2 * k ≤ L.length) : ∃ A B L' M', L = A ++ (B ++ L') ∧ A.length = k ∧ B.length = k ∧ M = mgB lt [] A ++ (mgB lt [] B ++ M') ∧ Bs lt k L' M' := by
  cases h with
  | last L h => omega
  | cons A L M h r =>
    cases r with
    | last L h2 => exact ⟨A, L, [], [], by simp, h, by simp at hl; omega, by simp, Bs.nil k⟩
    | cons B L M h2 r => exact ⟨A, B, L, M, rfl, h, h2, rfl, r⟩
theorem Bs.one {α : Type} {lt : α → α → Bool} {k : Nat} {L M : List α} (h : Bs lt k L M) (hl : L.length < 2 * k) (hk : k < L.length) : ∃ A B, L = A ++ B ∧ A.length = k ∧ B ≠ [] ∧ B.length ≤ k ∧ M = mgB lt [] A ++ mgB lt [] B := by
  cases h with
  | last L h => omega
  | cons A L M h r =>
    simp at hl hk
    refine ⟨A, L, rfl, h, fun e => by subst e; simp at hk; omega, by omega, ?_⟩
    rw [r.small (by omega)]
theorem wtL_insB {α : Type} (f : α → Nat) (lt : α → α → Bool) (b : α) : ∀ l : List α, wtL f (insB lt b l) = wtL f l + (f b + 1)
  | [] => by simp [insB, wtL]; omega
  | x :: l => by
    unfold insB
    split
    · simp only [wtL]; omega
    · simp only [wtL]; rw [wtL_insB f lt b l]; omega
theorem wtL_mgB {α : Type} (f : α → Nat) (lt : α → α → Bool) : ∀ B A : List α, wtL f (mgB lt A B) = wtL f A + wtL f B
  | [], A => by simp [mgB, wtL]
  | b :: B, A => by rw [mgB_cons, wtL_mgB f lt B, wtL_insB]; simp only [wtL]; omega
def linOf (ct : List Task) (k : Int) : Int := match ct[k.toNat]? with | some t => t.Lin | none => 0
def ltBI (cs : List Stripe) (ci cj : Int) (ct : List Task) (x y : Int) : Bool := decide (linOf ct x < linOf ct y)
def qBI (cs : List Stripe) (ci cj : Int) (ct : List Task) (x : Int) : Prop := 0 ≤ x ∧ x < (ct.length : Int)
theorem lin_get {ct : List Task} {x : Int} (h : 0 ≤ x ∧ x < (ct.length : Int)) : ∃ t, ct[x.toNat]? = some t ∧ t.Lin = linOf ct x := by
  have hl : x.toNat < ct.length := by omega
  exact ⟨ct[x.toNat], List.getElem?_eq_getElem hl, by unfold linOf; rw [List.getElem?_eq_getElem hl]⟩
theorem cmp_valI (cs : List Stripe) (ci cj : Int) (ct : List Task) (x y : Int) (hx : qBI cs ci cj ct x) (hy : qBI cs ci cj ct y) : ∃ c, impl_OrderOf_1 x y cs ci cj ct = some c ∧ decide (c < 0) = ltBI cs ci cj ct x y := by
  obtain ⟨a, a1, a2⟩ := lin_get hx
  obtain ⟨b, b1, b2⟩ := lin_get hy
  unfold impl_OrderOf_1 ltBI
  simp only [decide_eq_true hx.1, decide_eq_true hy.1, if_true, a1, b1, Option.bind_some, a2, b2]
  by_cases h : linOf ct x < linOf ct y
  · exact ⟨-1, by simp [h], by simp [h]⟩
  · by_cases h2 : linOf ct y < linOf ct x
    · exact ⟨1, by simp [h, h2], by simp [h]⟩
    · exact ⟨0, by simp [h, h2], by simp [h]⟩
theorem swBI (cs : List Stripe) (ci cj : Int) (ct : List Task) : SwB (ltBI cs ci cj ct) := ⟨fun a b h => by unfold ltBI at h ⊢; have := of_decide_eq_true h; exact decide_eq_false (by omega), fun a b c h1 h2 => by unfold ltBI at h1 h2 ⊢; have := of_decide_eq_false h1; have := of_decide_eq_false h2; exact decide_eq_false (by omega)⟩
theorem ins_l1_valI (cs : List Stripe) (ci cj : Int) (ct : List Task) (a b v1 : Int) (P R : List Int) (x : Int) (hqx : (qBI cs ci cj ct) x) (ha : a = (P.length : Int)) : ∀ (n : Nat) (S1 S2 : List Int) (fuel : Nat), S1.length = n → n < fuel → SrtB ((ltBI cs ci cj ct) ) (S1 ++ S2) → (∀ s ∈ S2, (ltBI cs ci cj ct) x s = true) → (∀ s ∈ S1, (qBI cs ci cj ct) s) → P.length + n ≤ 4000000 →
    slices_insertionSortCmpFunc_int_impl_OrderOf_1_l1 a b cs ci cj ct v1 fuel ((P.length + n : Nat) : Int) (P ++ (S1 ++ (x :: (S2 ++ R)))) = some (P ++ (insB ((ltBI cs ci cj ct) ) x (S1 ++ S2) ++ R))
  | 0, S1, S2, fuel + 1, hn, hf, hs, h2, hq, hl => by
    have : S1 = [] := List.eq_nil_of_length_eq_zero hn
    subst this
    unfold slices_insertionSortCmpFunc_int_impl_OrderOf_1_l1
    rw [if_neg (by simp [ha])]
    cases S2 with
    | nil => rfl
    | cons s S2 => simp [insB, h2 s (by simp)]
  | n + 1, S1, S2, fuel + 1, hn, hf, hs, h2, hq, hl => by
    obtain ⟨T, y, rfl⟩ := snoc_of (l := S1) (fun e => by simp [e] at hn)
    have hT : T.length = n := by simpa using hn
    have hPT : (P ++ T).length = P.length + n := by simp [hT]
    have hd : P ++ ((T ++ [y]) ++ (x :: (S2 ++ R))) = (P ++ T) ++ y :: x :: (S2 ++ R) := by simp
    have g1 : ((P ++ T) ++ y :: x :: (S2 ++ R))[P.length + (n + 1)]? = some x := by
      have := get1 (P ++ T) (S2 ++ R) y x
      rwa [hPT] at this
    have g0 : ((P ++ T) ++ y :: x :: (S2 ++ R))[P.length + n]? = some y := by
      have := get0 (P ++ T) (x :: (S2 ++ R)) y
      rwa [hPT] at this
    have e1 : i64 (((P.length + (n + 1) : Nat) : Int) - 1) = ((P.length + n : Nat) : Int) := i64_eq _ (by omega) (by omega)
    obtain ⟨c, c1, c2⟩ := cmp_valI cs ci cj ct x y hqx (hq y (by simp))
    rw [hd]
    unfold slices_insertionSortCmpFunc_int_impl_OrderOf_1_l1
    rw [if_pos (by simp [ha]; omega), if_pos (nnB _), Int.toNat_natCast, g1, Option.bind_some, e1, if_pos (nnB _), Int.toNat_natCast, g0, Option.bind_some]
    rcases tf ((ltBI cs ci cj ct) x y) with h | h
    · have s1 : (((P ++ T) ++ y :: x :: (S2 ++ R)).set (P.length + (n + 1)) y).set (P.length + n) x = P ++ (T ++ (x :: ((y :: S2) ++ R))) := by
        have a1 := set1 (P ++ T) (S2 ++ R) y x y
        have a2 := set0 (P ++ T) (y :: (S2 ++ R)) y x
        rw [hPT] at a1 a2
        rw [show P.length + (n + 1) = P.length + n + 1 by omega, a1, a2]
        simp
      have ih := ins_l1_valI cs ci cj ct a b v1 P R x hqx ha n T (y :: S2) fuel hT (by omega) (by simpa using hs) (fun s hs2 => by
        rcases List.mem_cons.1 hs2 with rfl | hs2
        · exact h
        · exact h2 s hs2) (fun s hs2 => hq s (by simp [hs2])) (by omega)
      rw [c1, Option.bind_some, c2, h, if_pos rfl, show (((P ++ T) ++ y :: x :: (S2 ++ R)).set (P.length + (n + 1)) y)[P.length + n]? = some y from (by rw [List.getElem?_set_ne (by omega)]; exact g0), Option.bind_some, s1, ih, List.append_assoc]
      rfl
    · --
      rw [c1, Option.bind_some, c2, h, if_neg (by simp)]
      have hb : ∀ t ∈ T ++ [y], (ltBI cs ci cj ct) x t = false := fun t ht => by
        rcases List.mem_append.1 ht with ht | ht
        · have h3 := (List.pairwise_append.1 (srtB_app_left hs)).2.2 t ht y (by simp)
          exact ((swBI cs ci cj ct) ).2 x y t h h3
        · simp at ht
          subst ht
          exact h
      rw [insB_right hb, ← hd]
      congr 1
      simp only [List.append_assoc]
      cases S2 with
      | nil => rfl
      | cons s S2 => simp [insB, h2 s (by simp)]
theorem ins_l0_valI (cs : List Stripe) (ci cj : Int) (ct : List Task) (a b : Int) (P R : List Int) (ha : a = (P.length : Int)) : ∀ (T S : List Int) (fuel : Nat), T.length < fuel → SrtB ((ltBI cs ci cj ct) ) S → (∀ s ∈ S, (qBI cs ci cj ct) s) → (∀ s ∈ T, (qBI cs ci cj ct) s) → P.length + S.length + T.length ≤ 4000000 → b = ((P.length + S.length + T.length : Nat) : Int) →
    slices_insertionSortCmpFunc_int_impl_OrderOf_1_l0 a b cs ci cj ct fuel ((P.length + S.length : Nat) : Int) (P ++ (S ++ (T ++ R))) = some (P ++ (mgB ((ltBI cs ci cj ct) ) S T ++ R))
  | [], S, fuel + 1, hf, hs, hq, hq2, hl, hb => by
    unfold slices_insertionSortCmpFunc_int_impl_OrderOf_1_l0
    rw [if_neg (by simp at hb; simp [hb])]
    rfl
  | x :: T, S, fuel + 1, hf, hs, hq, hq2, hl, hb => by
    simp only [List.length_cons] at hl hb hf
    have h1 := ins_l1_valI cs ci cj ct a b ((P.length + S.length : Nat) : Int) P (T ++ R) x (hq2 x (by simp)) ha S.length S [] FUEL rfl (by unfold FUEL; omega) (by simpa using hs) (by simp) hq (by omega)
    have ih := ins_l0_valI cs ci cj ct a b P R ha T (insB ((ltBI cs ci cj ct) ) x S) fuel (by omega) (srtB_ins ((swBI cs ci cj ct) ) x hs) (fun s hs => (mem_insB.1 hs).elim (fun e => e ▸ hq2 x (by simp)) (hq s)) (fun s hs => hq2 s (by simp [hs])) (by rw [len_insB]; omega) (by rw [len_insB]; omega)
    simp only [List.nil_append, List.append_nil] at h1
    have e1 : i64 (((P.length + S.length : Nat) : Int) + 1) = ((P.length + (insB ((ltBI cs ci cj ct) ) x S).length : Nat) : Int) := by rw [len_insB]; exact i64_eq _ (by omega) (by omega)
    unfold slices_insertionSortCmpFunc_int_impl_OrderOf_1_l0
    rw [if_pos (by rw [hb]; simp; omega), List.cons_append, h1, Option.bind_some, e1, ih]
    rfl
theorem ins_valI (cs : List Stripe) (ci cj : Int) (ct : List Task) (P T R : List Int) (hq : ∀ s ∈ T, (qBI cs ci cj ct) s) (hl : P.length + T.length ≤ 4000000) (a b : Int) (ha : a = (P.length : Int)) (hb : b = ((P.length + T.length : Nat) : Int)) : slices_insertionSortCmpFunc_int_impl_OrderOf_1 (P ++ (T ++ R)) a b cs ci cj ct = some (P ++ (mgB ((ltBI cs ci cj ct) ) [] T ++ R)) := by
  unfold slices_insertionSortCmpFunc_int_impl_OrderOf_1
  cases T with
  | nil =>
    have e1 : i64 (a + 1) = ((P.length + 1 : Nat) : Int) := i64_eq _ (by omega) (by omega)
    rw [e1]
    have : FUEL = 4194303 + 1 := rfl
    rw [this]
    unfold slices_insertionSortCmpFunc_int_impl_OrderOf_1_l0
    rw [if_neg (by rw [hb]; simp; omega)]
    rfl
  | cons x T =>
    simp only [List.length_cons] at hl hb
    have := ins_l0_valI cs ci cj ct a b P R ha T [x] FUEL (by unfold FUEL; omega) (by simp [SrtB]) (fun s hs => by simp at hs; subst hs; exact hq s (by simp)) (fun s hs => hq s (by simp [hs])) (by simp <;> omega) (by simp <;> omega)
    have e1 : i64 (a + 1) = ((P.length + [x].length : Nat) : Int) := i64_eq _ (by simp <;> omega) (by simp <;> omega)
    rw [e1]
    simp only [List.cons_append, List.nil_append] at this ⊢
    rw [this]
    rfl
theorem swr_l0_valI (cs : List Stripe) (ci cj : Int) (ct : List Task) (a b n : Int) (P M R : List Int) : ∀ (U2 V2 U1 V1 : List Int) (fuel : Nat), U2.length = V2.length → U1.length = V1.length → U2.length < fuel → P.length + M.length + U1.length + U2.length + V1.length + V2.length ≤ 4000000 → a = (P.length : Int) → b = ((P.length + (U1.length + U2.length) + M.length : Nat) : Int) → n = ((U1.length + U2.length : Nat) : Int) →
    slices_swapRangeCmpFunc_int_impl_OrderOf_1_l0 a b n fuel (U1.length : Int) (P ++ (V1 ++ (U2 ++ (M ++ (U1 ++ (V2 ++ R)))))) = some (P ++ (V1 ++ (V2 ++ (M ++ (U1 ++ (U2 ++ R))))))
  | [], V2, U1, V1, fuel + 1, h1, h2, hf, hl, ha, hb, hn => by
    have : V2 = [] := List.eq_nil_of_length_eq_zero h1.symm
    subst this
    unfold slices_swapRangeCmpFunc_int_impl_OrderOf_1_l0
    rw [if_neg (by simp [hn])]
  | u :: U2, [], U1, V1, fuel + 1, h1, _, _, _, _, _, _ => by simp at h1
  | u :: U2, v :: V2, U1, V1, fuel + 1, h1, h2, hf, hl, ha, hb, hn => by
    simp only [List.length_cons] at h1 hf hl hb hn
    have ea : i64 (a + (U1.length : Int)) = (((P ++ V1).length : Nat) : Int) := i64_eq _ (by simp <;> omega) (by simp <;> omega)
    have eb : i64 (b + (U1.length : Int)) = (((P ++ V1).length + 1 + (U2 ++ (M ++ U1)).length : Nat) : Int) := i64_eq _ (by simp <;> omega) (by simp <;> omega)
    have hd : P ++ (V1 ++ ((u :: U2) ++ (M ++ (U1 ++ ((v :: V2) ++ R))))) = (P ++ V1) ++ u :: ((U2 ++ (M ++ U1)) ++ v :: (V2 ++ R)) := by simp
    have hd2 : (P ++ V1) ++ v :: ((U2 ++ (M ++ U1)) ++ u :: (V2 ++ R)) = P ++ ((V1 ++ [v]) ++ (U2 ++ (M ++ ((U1 ++ [u]) ++ (V2 ++ R))))) := by simp
    have ih := swr_l0_valI cs ci cj ct a b n P M R U2 V2 (U1 ++ [u]) (V1 ++ [v]) fuel (by omega) (by simp <;> omega) (by omega) (by simp <;> omega) ha (by rw [hb]; simp; omega) (by rw [hn]; simp; omega)
    have ei : i64 ((U1.length : Int) + 1) = ((U1 ++ [u]).length : Int) := i64_eq _ (by simp <;> omega) (by simp)
    have g2 := getB (P ++ V1) (U2 ++ (M ++ U1)) (V2 ++ R) u v
    have g1 := get0 (P ++ V1) ((U2 ++ (M ++ U1)) ++ v :: (V2 ++ R)) u
    have s1 := set0 (P ++ V1) ((U2 ++ (M ++ U1)) ++ v :: (V2 ++ R)) u v
    have s2 := setB (P ++ V1) (U2 ++ (M ++ U1)) (V2 ++ R) v v u
    rw [hd]
    unfold slices_swapRangeCmpFunc_int_impl_OrderOf_1_l0
    rw [if_pos (by rw [hn]; simp; omega), ea, eb, if_pos (nnB _), Int.toNat_natCast, g2, Option.bind_some, if_pos (nnB _), Int.toNat_natCast, g1, Option.bind_some, s1, getB (P ++ V1) (U2 ++ (M ++ U1)) (V2 ++ R) v v, Option.bind_some, s2, ei, hd2, ih]
    simp
theorem swr_valI (cs : List Stripe) (ci cj : Int) (ct : List Task) (P U M V R : List Int) (hu : U.length = V.length) (hl : P.length + U.length + M.length + V.length ≤ 4000000) (a b n : Int) (ha : a = (P.length : Int)) (hb : b = ((P.length + U.length + M.length : Nat) : Int)) (hn : n = (U.length : Int)) :
    slices_swapRangeCmpFunc_int_impl_OrderOf_1 (P ++ (U ++ (M ++ (V ++ R)))) a b n cs ci cj ct = some (P ++ (V ++ (M ++ (U ++ R)))) := by
  have := swr_l0_valI cs ci cj ct a b n P M R U V [] [] FUEL hu rfl (by unfold FUEL; omega) (by simp <;> omega) ha (by simpa using hb) (by simpa using hn)
  unfold slices_swapRangeCmpFunc_int_impl_OrderOf_1
  simp only [List.nil_append, List.length_nil] at this
  rw [show (0 : Int) = ((0 : Nat) : Int) from rfl, this]
  rfl
theorem rot_l0_valI (cs : List Stripe) (ci cj : Int) (ct : List Task) (m : Int) : ∀ (k : Nat) (P A B R : List Int) (fuel : Nat), A.length + B.length ≤ k → k < fuel → A ≠ [] → B ≠ [] → P.length + A.length + B.length ≤ 2000000 → m = ((P.length + A.length : Nat) : Int) →
    ∃ (P' A' B' R' : List Int), slices_rotateCmpFunc_int_impl_OrderOf_1_l0 m cs ci cj ct fuel (A.length : Int) (B.length : Int) (P ++ (A ++ (B ++ R))) = some ((A'.length : Int), P' ++ (A' ++ (B' ++ R'))) ∧ A'.length = B'.length ∧ P'.length + A'.length = P.length + A.length ∧ P'.length + A'.length + B'.length ≤ 2000000 ∧ P' ++ (B' ++ (A' ++ R')) = P ++ (B ++ (A ++ R))
  | 0, P, A, B, R, fuel, hk, hf, hA, hB, hl, hm => by
    exact absurd (List.eq_nil_of_length_eq_zero (by omega)) hA
  | k + 1, P, A, B, R, fuel + 1, hk, hf, hA, hB, hl, hm => by
    have pA : 0 < A.length := List.length_pos_iff.2 hA
    have pB : 0 < B.length := List.length_pos_iff.2 hB
    unfold slices_rotateCmpFunc_int_impl_OrderOf_1_l0
    rcases Nat.lt_trichotomy A.length B.length with h | h | h
    · obtain ⟨B1, B2, rfl, hb2⟩ : ∃ B1 B2, B = B1 ++ B2 ∧ B2.length = A.length := ⟨B.take (B.length - A.length), B.drop (B.length - A.length), (List.take_append_drop _ _).symm, by simp; omega⟩
      simp only [List.length_append] at hk hl h pB
      have e1 : i64 (m - (A.length : Int)) = (P.length : Int) := i64_eq _ (by omega) (by omega)
      have e2 : i64 (i64 (m + ((B1 ++ B2).length : Int)) - (A.length : Int)) = ((P.length + A.length + B1.length : Nat) : Int) := by
        rw [i64_eq (x := m + ((B1 ++ B2).length : Int)) (P.length + A.length + B1.length + B2.length) (by omega) (by simp <;> omega)]
        exact i64_eq _ (by omega) (by omega)
      have e3 : i64 (((B1 ++ B2).length : Int) - (A.length : Int)) = (B1.length : Int) := i64_eq _ (by omega) (by simp <;> omega)
      have sw := swr_valI cs ci cj ct P A B1 B2 R (by omega) (by omega) (P.length : Int) _ (A.length : Int) rfl rfl rfl
      have hB1 : B1 ≠ [] := fun e => by simp [e] at h; omega
      obtain ⟨P', A', B', R', q1, q2, q3, q4, q5⟩ := rot_l0_valI cs ci cj ct m k P B2 B1 (A ++ R) fuel (by omega) (by omega) (fun e => by simp [e] at hb2; omega) hB1 (by omega) (by omega)
      refine ⟨P', A', B', R', ?_, q2, by omega, q4, by rw [q5]; simp⟩
      rw [if_pos (by simp <;> omega), if_neg (by simp <;> omega), e1, e2, e3, List.append_assoc B1, sw, Option.bind_some]
      rw [hb2] at q1
      exact q1
    · refine ⟨P, A, B, R, ?_, h, rfl, by omega, rfl⟩
      rw [if_neg (by simp [h])]
    · obtain ⟨A1, A2, rfl, ha1⟩ : ∃ A1 A2, A = A1 ++ A2 ∧ A1.length = B.length := ⟨A.take B.length, A.drop B.length, (List.take_append_drop _ _).symm, by simp; omega⟩
      simp only [List.length_append] at hk hl h hm pA
      have e1 : i64 (m - ((A1 ++ A2).length : Int)) = (P.length : Int) := i64_eq _ (by omega) (by simp <;> omega)
      have e3 : i64 (((A1 ++ A2).length : Int) - (B.length : Int)) = (A2.length : Int) := i64_eq _ (by omega) (by simp <;> omega)
      have sw := swr_valI cs ci cj ct P A1 A2 B R (by omega) (by omega) (P.length : Int) m (B.length : Int) rfl (by omega) (by omega)
      have hA2 : A2 ≠ [] := fun e => by simp [e] at h; omega
      obtain ⟨P', A', B', R', q1, q2, q3, q4, q5⟩ := rot_l0_valI cs ci cj ct m k (P ++ B) A2 A1 R fuel (by omega) (by omega) hA2 (fun e => by simp [e] at ha1; omega) (by simp <;> omega) (by simp <;> omega)
      refine ⟨P', A', B', R', ?_, q2, by simp at q3 ⊢; omega, q4, by rw [q5]; simp⟩
      rw [if_pos (by simp <;> omega), if_pos (by simp <;> omega), e1, e3, List.append_assoc A1, sw, Option.bind_some]
      rw [ha1, List.append_assoc] at q1
      exact q1
theorem rot_valI (cs : List Stripe) (ci cj : Int) (ct : List Task) (P A B R : List Int) (hA : A ≠ []) (hB : B ≠ []) (hl : P.length + A.length + B.length ≤ 2000000) (a m b : Int) (ha : a = (P.length : Int)) (hm : m = ((P.length + A.length : Nat) : Int)) (hb : b = ((P.length + A.length + B.length : Nat) : Int)) :
    slices_rotateCmpFunc_int_impl_OrderOf_1 (P ++ (A ++ (B ++ R))) a m b cs ci cj ct = some (P ++ (B ++ (A ++ R))) := by
  obtain ⟨P', A', B', R', q1, q2, q3, q4, q5⟩ := rot_l0_valI cs ci cj ct m (A.length + B.length) P A B R FUEL (Nat.le_refl _) (by unfold FUEL; omega) hA hB hl hm
  have e1 : i64 (m - a) = (A.length : Int) := i64_eq _ (by omega) (by omega)
  have e2 : i64 (b - m) = (B.length : Int) := i64_eq _ (by omega) (by omega)
  have e3 : i64 (m - (A'.length : Int)) = (P'.length : Int) := i64_eq _ (by omega) (by omega)
  have sw := swr_valI cs ci cj ct P' A' [] B' R' q2 (by simp <;> omega) (P'.length : Int) m (A'.length : Int) rfl (by simp <;> omega) rfl
  unfold slices_rotateCmpFunc_int_impl_OrderOf_1
  simp only [List.nil_append] at sw
  rw [e1, e2, q1, Option.bind_some, e3, sw, Option.bind_some, q5]
theorem bs0_valI (cs : List Stripe) (ci cj : Int) (ct : List Task) (d : List Int) (x : Int) (a : Nat) (ha : d[a]? = some x) (hq : ∀ s ∈ d, (qBI cs ci cj ct) s) (hl : d.length ≤ 4000000) (k : Nat) : ∀ (n i j fuel : Nat), j - i ≤ n → n < fuel → i ≤ k → k ≤ j → j ≤ d.length → (∀ h, i ≤ h → h < j → ¬ a = h) → (∀ h y, i ≤ h → h < k → d[h]? = some y → (ltBI cs ci cj ct) y x = true) → (∀ h y, k ≤ h → h < j → d[h]? = some y → (ltBI cs ci cj ct) y x = false) →
    slices_symMergeCmpFunc_int_impl_OrderOf_1_l0 d (a : Int) cs ci cj ct fuel (i : Int) (j : Int)  = some ((k : Int))
  | n, i, j, 0, _, hf, _, _, _, _, _, _ => by omega
  | n, i, j, fuel + 1, hn, hf, hi, hj, hjl, hne, h1, h2 => by
    unfold slices_symMergeCmpFunc_int_impl_OrderOf_1_l0 slices_symMergeCmpFunc_int_impl_OrderOf_1_c2
    rcases Nat.lt_or_ge i j with hij | hij
    · have eh := half_val i j (by omega)
      generalize hh : (i + j) / 2 = h at eh
      obtain ⟨y, hy⟩ : ∃ y, d[h]? = some y := ⟨d[h]'(by omega), List.getElem?_eq_getElem (by omega)⟩
      obtain ⟨c, c1, c2⟩ := cmp_valI cs ci cj ct y x (hq y (List.mem_of_getElem? hy)) (hq x (List.mem_of_getElem? ha))
      have hne1 := hne h (by omega) (by omega)
      have e1 : i64 ((h : Int) + 1) = ((h + 1 : Nat) : Int) := i64_eq _ (by omega) (by omega)
      rw [if_pos (by simp <;> omega)]
      simp only [Option.bind_some, Lo.elim, eh, nnB, if_true, Int.toNat_natCast, hy, ha, hne1, not_false_eq_true, decide_true, c1, c2, e1]
      rcases Nat.lt_or_ge h k with hk | hk
      · rw [h1 h y (by omega) hk hy, if_pos rfl]
        exact bs0_valI cs ci cj ct d x a ha hq hl k (n - 1) (h + 1) j fuel (by omega) (by omega) (by omega) hj hjl (fun q z1 z2 => hne q (by omega) z2) (fun q z z1 z2 => h1 q z (by omega) z2) h2
      · rw [h2 h y hk (by omega) hy, if_neg (by simp)]
        exact bs0_valI cs ci cj ct d x a ha hq hl k (n - 1) i h fuel (by omega) (by omega) hi hk (by omega) (fun q z1 z2 => hne q z1 (by omega)) h1 (fun q z z1 z2 => h2 q z z1 (by omega))
    · rw [if_neg (by simp <;> omega)]
      obtain rfl : i = k := by omega
      rfl
theorem bs2_valI (cs : List Stripe) (ci cj : Int) (ct : List Task) (d : List Int) (y : Int) (m : Nat) (hm : d[m]? = some y) (hq : ∀ s ∈ d, (qBI cs ci cj ct) s) (hl : d.length ≤ 4000000) (k : Nat) : ∀ (n i j fuel : Nat), j - i ≤ n → n < fuel → i ≤ k → k ≤ j → j ≤ d.length → (∀ h, i ≤ h → h < j → ¬ h = m) → (∀ h x, i ≤ h → h < k → d[h]? = some x → (ltBI cs ci cj ct) y x = false) → (∀ h x, k ≤ h → h < j → d[h]? = some x → (ltBI cs ci cj ct) y x = true) →
    slices_symMergeCmpFunc_int_impl_OrderOf_1_l2 d (m : Int) cs ci cj ct fuel (i : Int) (j : Int)  = some ((k : Int))
  | n, i, j, 0, _, hf, _, _, _, _, _, _ => by omega
  | n, i, j, fuel + 1, hn, hf, hi, hj, hjl, hne, h1, h2 => by
    unfold slices_symMergeCmpFunc_int_impl_OrderOf_1_l2 slices_symMergeCmpFunc_int_impl_OrderOf_1_c7
    rcases Nat.lt_or_ge i j with hij | hij
    · have eh := half_val i j (by omega)
      generalize hh : (i + j) / 2 = h at eh
      obtain ⟨x, hx⟩ : ∃ x, d[h]? = some x := ⟨d[h]'(by omega), List.getElem?_eq_getElem (by omega)⟩
      obtain ⟨c, c1, c2⟩ := cmp_valI cs ci cj ct y x (hq y (List.mem_of_getElem? hm)) (hq x (List.mem_of_getElem? hx))
      have hne1 := hne h (by omega) (by omega)
      have e1 : i64 ((h : Int) + 1) = ((h + 1 : Nat) : Int) := i64_eq _ (by omega) (by omega)
      rw [if_pos (by simp <;> omega)]
      simp only [Option.bind_some, Lo.elim, eh, nnB, if_true, Int.toNat_natCast, hx, hm, hne1, not_false_eq_true, decide_true, c1, c2, e1]
      rcases Nat.lt_or_ge h k with hk | hk
      · rw [h1 h x (by omega) hk hx, if_neg (by simp)]
        exact bs2_valI cs ci cj ct d y m hm hq hl k (n - 1) (h + 1) j fuel (by omega) (by omega) (by omega) hj hjl (fun q z1 z2 => hne q (by omega) z2) (fun q z z1 z2 => h1 q z (by omega) z2) h2
      · rw [h2 h x hk (by omega) hx, if_pos rfl]
        exact bs2_valI cs ci cj ct d y m hm hq hl k (n - 1) i h fuel (by omega) (by omega) hi hk (by omega) (fun q z1 z2 => hne q z1 (by omega)) h1 (fun q z z1 z2 => h2 q z z1 (by omega))
    · rw [if_neg (by simp <;> omega)]
      obtain rfl : i = k := by omega
      rfl
theorem bs4_valI (cs : List Stripe) (ci cj : Int) (ct : List Task) (d : List Int) (a m b : Nat) (hq : ∀ s ∈ d, (qBI cs ci cj ct) s) (hl : d.length ≤ 4000000) (hab : a + b ≤ 8000000) (hm : m ≤ 4000000) (k : Nat) : ∀ (n i j fuel : Nat), j - i ≤ n → n < fuel → i ≤ k → k ≤ j → j ≤ d.length → (∀ c, i ≤ c → c < j → c + 1 ≤ (a + b) / 2 + m ∧ (a + b) / 2 + m - 1 - c < d.length ∧ ¬ c = (a + b) / 2 + m - 1 - c) →
    (∀ c x y, i ≤ c → c < k → d[c]? = some x → d[(a + b) / 2 + m - 1 - c]? = some y → (ltBI cs ci cj ct) y x = false) → (∀ c x y, k ≤ c → c < j → d[c]? = some x → d[(a + b) / 2 + m - 1 - c]? = some y → (ltBI cs ci cj ct) y x = true) →
    slices_symMergeCmpFunc_int_impl_OrderOf_1_l4 d (a : Int) (m : Int) (b : Int) cs ci cj ct fuel (i : Int) (j : Int)  = some ((k : Int))
  | n, i, j, 0, _, hf, _, _, _, _, _, _ => by omega
  | n, i, j, fuel + 1, hn, hf, hi, hj, hjl, hne, h1, h2 => by
    unfold slices_symMergeCmpFunc_int_impl_OrderOf_1_l4 slices_symMergeCmpFunc_int_impl_OrderOf_1_c12
    rcases Nat.lt_or_ge i j with hij | hij
    · have eh := half_val i j (by omega)
      have em := half_val a b (by omega)
      generalize hh : (i + j) / 2 = h at eh
      obtain ⟨n1, n2, n3⟩ := hne h (by omega) (by omega)
      have e2 : i64 (i64 (i64 ((((a + b) / 2 : Nat) : Int) + (m : Int)) - 1) - (h : Int)) = (((a + b) / 2 + m - 1 - h : Nat) : Int) := by
        rw [i64_eq (x := (((a + b) / 2 : Nat) : Int) + (m : Int)) ((a + b) / 2 + m) (by omega) (by omega), i64_eq (x := (((a + b) / 2 + m : Nat) : Int) - 1) ((a + b) / 2 + m - 1) (by omega) (by omega)]
        exact i64_eq _ (by omega) (by omega)
      obtain ⟨x, hx⟩ : ∃ x, d[h]? = some x := ⟨d[h]'(by omega), List.getElem?_eq_getElem (by omega)⟩
      obtain ⟨y, hy⟩ : ∃ y, d[(a + b) / 2 + m - 1 - h]? = some y := ⟨d[(a + b) / 2 + m - 1 - h]'(by omega), List.getElem?_eq_getElem (by omega)⟩
      obtain ⟨c, c1, c2⟩ := cmp_valI cs ci cj ct y x (hq y (List.mem_of_getElem? hy)) (hq x (List.mem_of_getElem? hx))
      have e1 : i64 ((h : Int) + 1) = ((h + 1 : Nat) : Int) := i64_eq _ (by omega) (by omega)
      rw [if_pos (by simp <;> omega)]
      simp only [Option.bind_some, Lo.elim, eh, em, e2, nnB, if_true, Int.toNat_natCast, hx, hy, n3, not_false_eq_true, decide_true, c1, c2, e1]
      rcases Nat.lt_or_ge h k with hk | hk
      · rw [h1 h x y (by omega) hk hx hy, if_neg (by simp)]
        exact bs4_valI cs ci cj ct d a m b hq hl hab hm k (n - 1) (h + 1) j fuel (by omega) (by omega) (by omega) hj hjl (fun q z1 z2 => hne q (by omega) z2) (fun q z w z1 z2 => h1 q z w (by omega) z2) h2
      · rw [h2 h x y hk (by omega) hx hy, if_pos rfl]
        exact bs4_valI cs ci cj ct d a m b hq hl hab hm k (n - 1) i h fuel (by omega) (by omega) hi hk (by omega) (fun q z1 z2 => hne q z1 (by omega)) h1 (fun q z w z1 z2 => h2 q z w z1 (by omega))
    · rw [if_neg (by simp <;> omega)]
      obtain rfl : i = k := by omega
      rfl
theorem sh1_valI (cs : List Stripe) (ci cj : Int) (ct : List Task) (W : List Int) (x : Int) (r : Int) : ∀ (B P : List Int) (fuel : Nat), r = ((P.length + B.length + 1 : Nat) : Int) → B.length < fuel → P.length + B.length ≤ 4000000 → slices_symMergeCmpFunc_int_impl_OrderOf_1_l1 r fuel (P.length : Int) (P ++ x :: (B ++ W)) = some (P ++ (B ++ x :: W))
  | [], P, fuel + 1, hr, hf, hl => by
    have e1 : i64 (r - 1) = (P.length : Int) := i64_eq _ (by omega) (by rw [hr]; simp)
    unfold slices_symMergeCmpFunc_int_impl_OrderOf_1_l1 slices_symMergeCmpFunc_int_impl_OrderOf_1_c4
    rw [e1, if_neg (by simp)]
    rfl
  | y :: B, P, fuel + 1, hr, hf, hl => by
    simp only [List.length_cons] at hr hf hl
    have e1 : i64 (r - 1) = ((P.length + B.length + 1 : Nat) : Int) := i64_eq _ (by omega) (by rw [hr]; omega)
    have e2 : i64 ((P.length : Int) + 1) = ((P.length + 1 : Nat) : Int) := i64_eq _ (by omega) (by omega)
    have g1 := get1 P (B ++ W) x y
    have g0 := get0 P (y :: (B ++ W)) x
    have s0 := set0 P (y :: (B ++ W)) x y
    have s1 := set1 P (B ++ W) y y x
    have ih := sh1_valI cs ci cj ct W x r B (P ++ [y]) fuel (by rw [hr]; simp; omega) (by omega) (by simp <;> omega)
    have el : ((P ++ [y]).length : Int) = ((P.length + 1 : Nat) : Int) := by simp
    rw [el, List.append_assoc] at ih
    unfold slices_symMergeCmpFunc_int_impl_OrderOf_1_l1 slices_symMergeCmpFunc_int_impl_OrderOf_1_c4
    rw [e1, if_pos (by simp <;> omega)]
    simp only [Option.bind_some, Lo.elim, e2, nnB, if_true, Int.toNat_natCast, List.cons_append, g1, g0, show ¬ P.length = P.length + 1 by omega, not_false_eq_true, decide_true, s0, s1, get1 P (B ++ W) y y]
    rw [show P ++ y :: x :: (B ++ W) = P ++ ([y] ++ x :: (B ++ W)) from rfl, ih]
    simp
theorem sh3_valI (cs : List Stripe) (ci cj : Int) (ct : List Task) (y : Int) (r : Int) (P : List Int) (hr : r = (P.length : Int)) : ∀ (n : Nat) (A W : List Int) (fuel : Nat), A.length = n → n < fuel → P.length + n ≤ 4000000 → slices_symMergeCmpFunc_int_impl_OrderOf_1_l3 r fuel ((P.length + n : Nat) : Int) (P ++ (A ++ y :: W)) = some (P ++ y :: (A ++ W))
  | 0, A, W, fuel + 1, hn, hf, hl => by
    have : A = [] := List.eq_nil_of_length_eq_zero hn
    subst this
    unfold slices_symMergeCmpFunc_int_impl_OrderOf_1_l3 slices_symMergeCmpFunc_int_impl_OrderOf_1_c9
    rw [if_neg (by rw [hr]; simp)]
    rfl
  | n + 1, A, W, fuel + 1, hn, hf, hl => by
    obtain ⟨T, z, rfl⟩ := snoc_of (l := A) (fun e => by simp [e] at hn)
    have hT : T.length = n := by simpa using hn
    have hPT : (P ++ T).length = P.length + n := by simp [hT]
    have hd : P ++ ((T ++ [z]) ++ y :: W) = (P ++ T) ++ z :: y :: W := by simp
    have g1 := get1 (P ++ T) W z y
    have g0 := get0 (P ++ T) (y :: W) z
    have s1 := set1 (P ++ T) W z y z
    have s0 := set0 (P ++ T) (z :: W) z y
    rw [hPT] at g1 g0 s1 s0
    have e2 : i64 (((P.length + n + 1 : Nat) : Int) - 1) = ((P.length + n : Nat) : Int) := i64_eq _ (by omega) (by omega)
    have ih := sh3_valI cs ci cj ct y r P hr n T (z :: W) fuel hT (by omega) (by omega)
    rw [hd]
    unfold slices_symMergeCmpFunc_int_impl_OrderOf_1_l3 slices_symMergeCmpFunc_int_impl_OrderOf_1_c9
    rw [if_pos (by rw [hr]; simp <;> omega)]
    simp only [Option.bind_some, Lo.elim, e2, nnB, if_true, Int.toNat_natCast, show P.length + (n + 1) = P.length + n + 1 by omega, g1, g0, show ¬ P.length + n + 1 = P.length + n by omega, not_false_eq_true, decide_true, s1, s0, show ((P ++ T) ++ z :: z :: W)[P.length + n]? = some z from (by have := get0 (P ++ T) (z :: W) z; rwa [hPT] at this)]
    rw [List.append_assoc, ih]
    simp
set_option maxHeartbeats 8000000 in
theorem sym_valI (cs : List Stripe) (ci cj : Int) (ct : List Task) : ∀ (N : Nat) (P A B R : List Int) (fuel : Nat), A.length + B.length ≤ N → N < fuel → A ≠ [] → B ≠ [] → SrtB ((ltBI cs ci cj ct) ) A → SrtB ((ltBI cs ci cj ct) ) B → (∀ s ∈ P ++ (A ++ (B ++ R)), (qBI cs ci cj ct) s) → (P ++ (A ++ (B ++ R))).length ≤ 2000000 →
    slices_symMergeCmpFunc_int_impl_OrderOf_1 fuel (P ++ (A ++ (B ++ R))) (P.length : Int) ((P.length + A.length : Nat) : Int) ((P.length + A.length + B.length : Nat) : Int) cs ci cj ct = some (P ++ (mgB ((ltBI cs ci cj ct) ) A B ++ R))
  | 0, P, A, B, R, fuel, hN, hf, hA, hB, sA, sB, hq, hl => absurd (List.eq_nil_of_length_eq_zero (by omega)) hA
  | N + 1, P, A, B, R, fuel + 1, hN, hf, hA, hB, sA, sB, hq, hl => by
    have hlen : (P ++ (A ++ (B ++ R))).length = P.length + A.length + B.length + R.length := by simp; omega
    have pA : 0 < A.length := List.length_pos_iff.2 hA
    have pB : 0 < B.length := List.length_pos_iff.2 hB
    have dA : ∀ c, P.length ≤ c → c < P.length + A.length → (P ++ (A ++ (B ++ R)))[c]? = A[c - P.length]? := fun c h1 h2 => by
      rw [List.getElem?_append_right h1, List.getElem?_append_left (by omega)]
    have dB : ∀ c, P.length + A.length ≤ c → c < P.length + A.length + B.length → (P ++ (A ++ (B ++ R)))[c]? = B[c - (P.length + A.length)]? := fun c h1 h2 => by
      rw [List.getElem?_append_right (by omega), List.getElem?_append_right (by omega), List.getElem?_append_left (by omega)]
      congr 1; omega
    have eA : i64 (((P.length + A.length : Nat) : Int) - (P.length : Int)) = (A.length : Int) := i64_eq _ (by omega) (by omega)
    have eB : i64 (((P.length + A.length + B.length : Nat) : Int) - ((P.length + A.length : Nat) : Int)) = (B.length : Int) := i64_eq _ (by omega) (by omega)
    unfold slices_symMergeCmpFunc_int_impl_OrderOf_1 slices_symMergeCmpFunc_int_impl_OrderOf_1_c0 slices_symMergeCmpFunc_int_impl_OrderOf_1_c5
    rw [eA, eB]
    by_cases hα : A.length = 1
    · obtain ⟨x, rfl⟩ := List.length_eq_one_iff.1 hα
      have hB0 : B.takeWhile (fun y => (ltBI cs ci cj ct) y x) ++ B.dropWhile (fun y => (ltBI cs ci cj ct) y x) = B := List.takeWhile_append_dropWhile
      generalize hB1 : B.takeWhile (fun y => (ltBI cs ci cj ct) y x) = B1 at hB0
      generalize hB2 : B.dropWhile (fun y => (ltBI cs ci cj ct) y x) = B2 at hB0
      have m1 : ∀ b ∈ B1, (ltBI cs ci cj ct) b x = true := fun b hb => by rw [← hB1] at hb; exact mem_tw (fun y => (ltBI cs ci cj ct) y x) hb
      have m2 : ∀ b ∈ B2, (ltBI cs ci cj ct) b x = false := fun b hb => by
        cases hc : B2 with
        | nil => rw [hc] at hb; simp at hb
        | cons z Z =>
          have hz : (ltBI cs ci cj ct) z x = false := by
            have := List.head?_dropWhile_not (fun y => (ltBI cs ci cj ct) y x) B
            rw [hB2, hc] at this
            simpa using this
          rw [hc] at hb
          rcases List.mem_cons.1 hb with rfl | hb
          · exact hz
          · have s2 : SrtB ((ltBI cs ci cj ct) ) B2 := by rw [← hB0] at sB; exact srtB_app_right sB
            rw [hc] at s2
            exact ((swBI cs ci cj ct) ).2 b z x ((List.pairwise_cons.1 s2).1 b hb) hz
      subst hB0
      have hx : (P ++ ([x] ++ ((B1 ++ B2) ++ R)))[P.length]? = some x := by simp
      have r1 := bs0_valI cs ci cj ct (P ++ ([x] ++ ((B1 ++ B2) ++ R))) x P.length hx hq (by omega) (P.length + 1 + B1.length) (B1 ++ B2).length (P.length + [x].length) (P.length + [x].length + (B1 ++ B2).length) FUEL (by omega) (by simp at hl ⊢; unfold FUEL; omega) (by simp) (by simp <;> omega) (by simp <;> omega) (fun h z1 z2 => by simp at z1; omega)
        (fun h y z1 z2 z3 => by
          simp at z1
          rw [dB h (by simp <;> omega) (by simp <;> omega), List.getElem?_append_left (by simp <;> omega)] at z3
          exact m1 y (List.mem_of_getElem? z3))
        (fun h y z1 z2 z3 => by
          rw [dB h (by simp <;> omega) z2, List.getElem?_append_right (by simp <;> omega)] at z3
          exact m2 y (List.mem_of_getElem? z3))
      have r2 := sh1_valI cs ci cj ct (B2 ++ R) x ((P.length + 1 + B1.length : Nat) : Int) B1 P FUEL (by simp <;> omega) (by simp at hl; unfold FUEL; omega) (by simp at hl; omega)
      have hres : mgB ((ltBI cs ci cj ct) ) [x] (B1 ++ B2) = B1 ++ x :: B2 := by
        have := mgB_split (lt := (ltBI cs ci cj ct) ) (A1 := []) (A2 := [x]) (B1 := B1) (B2 := B2) (fun b hb y hy => by simp at hy; subst hy; exact m1 b hb) (fun b hb x hx => by simp at hx) (fun b hb z hz => (List.pairwise_append.1 sB).2.2 z hz b hb)
        rw [List.nil_append] at this
        rw [this, mgB_sorted B1 [] (by simpa using srtB_app_left sB), mgB_sorted B2 [x] (List.pairwise_cons.2 ⟨m2, srtB_app_right sB⟩)]
        rfl
      rw [if_pos (by simp)]
      rw [show P ++ ([x] ++ ((B1 ++ B2) ++ R)) = P ++ x :: (B1 ++ (B2 ++ R)) by simp] at r1 ⊢
      rw [r1]
      simp only [Option.bind_some]
      rw [r2, hres]
      simp [Lo.elim]
    · rw [if_neg (by simp <;> omega)]
      simp only [Option.bind_some, Lo.elim]
      by_cases hβ : B.length = 1
      · obtain ⟨y, rfl⟩ := List.length_eq_one_iff.1 hβ
        have hA0 : A.takeWhile (fun x => !(ltBI cs ci cj ct) y x) ++ A.dropWhile (fun x => !(ltBI cs ci cj ct) y x) = A := List.takeWhile_append_dropWhile
        generalize hA1 : A.takeWhile (fun x => !(ltBI cs ci cj ct) y x) = A1 at hA0
        generalize hA2 : A.dropWhile (fun x => !(ltBI cs ci cj ct) y x) = A2 at hA0
        have m1 : ∀ x ∈ A1, (ltBI cs ci cj ct) y x = false := fun b hb => by rw [← hA1] at hb; have := mem_tw (fun x => !(ltBI cs ci cj ct) y x) hb; simpa using this
        have m2 : ∀ x ∈ A2, (ltBI cs ci cj ct) y x = true := fun b hb => by
          cases hc : A2 with
          | nil => rw [hc] at hb; simp at hb
          | cons z Z =>
            have hz : (ltBI cs ci cj ct) y z = true := by
              have := List.head?_dropWhile_not (fun x => !(ltBI cs ci cj ct) y x) A
              rw [hA2, hc] at this
              simpa using this
            rw [hc] at hb
            rcases List.mem_cons.1 hb with rfl | hb
            · exact hz
            · have s2 : SrtB ((ltBI cs ci cj ct) ) A2 := by rw [← hA0] at sA; exact srtB_app_right sA
              rw [hc] at s2
              have h3 := (List.pairwise_cons.1 s2).1 b hb
              rcases tf ((ltBI cs ci cj ct) y b) with h4 | h4
              · exact h4
              · have := ((swBI cs ci cj ct) ).2 y b z h4 h3
                rw [hz] at this; cases this
        subst hA0
        have hy : (P ++ ((A1 ++ A2) ++ ([y] ++ R)))[P.length + (A1 ++ A2).length]? = some y := by
          rw [List.getElem?_append_right (by omega), List.getElem?_append_right (by omega)]
          simp
        have r1 := bs2_valI cs ci cj ct (P ++ ((A1 ++ A2) ++ ([y] ++ R))) y (P.length + (A1 ++ A2).length) hy hq (by omega) (P.length + A1.length) (A1 ++ A2).length P.length (P.length + (A1 ++ A2).length) FUEL (by omega) (by unfold FUEL; omega) (by omega) (by simp) (by omega) (fun h z1 z2 => by omega)
          (fun h x z1 z2 z3 => by
            rw [dA h z1 (by simp <;> omega), List.getElem?_append_left (by omega)] at z3
            exact m1 x (List.mem_of_getElem? z3))
          (fun h x z1 z2 z3 => by
            rw [dA h (by omega) z2, List.getElem?_append_right (by omega)] at z3
            exact m2 x (List.mem_of_getElem? z3))
        have r2 := sh3_valI cs ci cj ct y ((P.length + A1.length : Nat) : Int) (P ++ A1) (by simp) A2.length A2 R FUEL rfl (by simp at hl; unfold FUEL; omega) (by simp at hl ⊢; omega)
        have hres : mgB ((ltBI cs ci cj ct) ) (A1 ++ A2) [y] = A1 ++ y :: A2 := by
          rw [mgB_cons, mgB_nil, insB_right m1]
          cases A2 with
          | nil => rfl
          | cons z Z => simp [insB, m2 z (by simp)]
        rw [if_pos (by simp)]
        rw [r1]
        simp only [Option.bind_some]
        rw [show P ++ ((A1 ++ A2) ++ ([y] ++ R)) = (P ++ A1) ++ (A2 ++ y :: R) by simp, show ((P.length + (A1 ++ A2).length : Nat) : Int) = (((P ++ A1).length + A2.length : Nat) : Int) by simp; omega, r2, hres]
        simp
      · rw [if_neg (by simp <;> omega)]
        simp only [Option.bind_some]
        generalize ha : P.length = a at *
        generalize hm0 : a + A.length = m at *
        generalize hb0 : m + B.length = b at *
        have hmid := half_val a b (by omega)
        generalize hmd : (a + b) / 2 = mid at hmid
        generalize hd : P ++ (A ++ (B ++ R)) = d at *
        have c10 : ∃ s r : Nat, slices_symMergeCmpFunc_int_impl_OrderOf_1_c10 d (a : Int) (m : Int) (b : Int) cs ci cj ct = some ((s : Int), (r : Int)) ∧ ((mid < m ∧ s = mid + m - b ∧ r = mid) ∨ (m ≤ mid ∧ s = a ∧ r = m)) := by
          unfold slices_symMergeCmpFunc_int_impl_OrderOf_1_c10
          rw [hmid]
          rcases Nat.lt_or_ge mid m with h | h
          · refine ⟨mid + m - b, mid, ?_, .inl ⟨h, rfl, rfl⟩⟩
            rw [if_pos (by simp <;> omega)]
            rw [i64_eq (x := (mid : Int) + (m : Int)) (mid + m) (by omega) (by omega), i64_eq (x := ((mid + m : Nat) : Int) - (b : Int)) (mid + m - b) (by omega) (by omega)]
          · refine ⟨a, m, ?_, .inr ⟨h, rfl, rfl⟩⟩
            rw [if_neg (by simp <;> omega)]
        obtain ⟨s, r, c10, hsr⟩ := c10
        have hal : ∀ c, s ≤ c → c < r → a ≤ c ∧ c < m ∧ m ≤ mid + m - 1 - c ∧ mid + m - 1 - c < b := fun c h1 h2 => by omega
        obtain ⟨k, k1, k2, k3, k4⟩ := turn_at (fun c => match d[c]?, d[mid + m - 1 - c]? with | some x, some y => !((ltBI cs ci cj ct) y x) | _, _ => false) (r - s) s r rfl (by omega) (fun c h1 h2 hp => by
          obtain ⟨q1, q2, q3, q4⟩ := hal c h1 (by omega)
          obtain ⟨w1, w2, w3, w4⟩ := hal (c + 1) (by omega) h2
          have gx : A[c - a]? = some (A[c - a]'(by omega)) := List.getElem?_eq_getElem (by omega)
          have gx' : A[c + 1 - a]? = some (A[c + 1 - a]'(by omega)) := List.getElem?_eq_getElem (by omega)
          have gy : B[mid + m - 1 - c - m]? = some (B[mid + m - 1 - c - m]'(by omega)) := List.getElem?_eq_getElem (by omega)
          have gy' : B[mid + m - 1 - (c + 1) - m]? = some (B[mid + m - 1 - (c + 1) - m]'(by omega)) := List.getElem?_eq_getElem (by omega)
          simp only [dA c q1 q2, dB _ q3 q4, gx, gy, Bool.not_eq_false'] at hp
          simp only [dA _ w1 w2, dB _ w3 w4, gx', gy', Bool.not_eq_false']
          have o1 := srtB_get sA (by omega) gx gx'
          have o2 := srtB_get sB (by omega) gy' gy
          rcases tf ((ltBI cs ci cj ct) (B[mid + m - 1 - (c + 1) - m]'(by omega)) (A[c + 1 - a]'(by omega))) with z | z
          · exact z
          · have := ((swBI cs ci cj ct) ).2 _ _ _ (((swBI cs ci cj ct) ).2 _ _ _ o2 z) o1
            rw [hp] at this; cases this)
        have l4 := bs4_valI cs ci cj ct d a m b hq (by omega) (by omega) (by omega) k (r - s) s r FUEL (Nat.le_refl _) (by unfold FUEL; omega) k1 k2 (by omega) (fun c h1 h2 => by rw [hmd]; have := hal c h1 h2; omega)
          (fun c x y h1 h2 hx hy => by
            rw [hmd] at hy
            have := k3 c h1 h2
            simp only [hx, hy] at this
            simpa using this)
          (fun c x y h1 h2 hx hy => by
            rw [hmd] at hy
            have := k4 c h1 h2
            simp only [hx, hy] at this
            simpa using this)
        have hk : a ≤ k ∧ k ≤ m ∧ m ≤ mid + m - k ∧ mid + m - k ≤ b := by omega
        obtain ⟨hk1, hk2, hk3, hk4⟩ := hk
        have he : i64 (i64 ((mid : Int) + (m : Int)) - (k : Int)) = ((mid + m - k : Nat) : Int) := by
          rw [i64_eq (x := (mid : Int) + (m : Int)) (mid + m) (by omega) (by omega)]
          exact i64_eq _ (by omega) (by omega)
        generalize hee : mid + m - k = e at he hk3 hk4
        obtain ⟨A1, A2, rfl, lA1⟩ : ∃ A1 A2, A = A1 ++ A2 ∧ A1.length = k - a := ⟨A.take (k - a), A.drop (k - a), (List.take_append_drop _ _).symm, by simp; omega⟩
        obtain ⟨B1, B2, rfl, lB1⟩ : ∃ B1 B2, B = B1 ++ B2 ∧ B1.length = e - m := ⟨B.take (e - m), B.drop (e - m), (List.take_append_drop _ _).symm, by simp; omega⟩
        have lA2 : A2.length = m - k := by simp at hm0; omega
        have lB2 : B2.length = b - e := by simp at hb0; omega
        have H1 : ∀ y ∈ B1, ∀ x ∈ A2, (ltBI cs ci cj ct) y x = true := fun y hy x hx => by
          obtain ⟨i, hi, rfl⟩ := List.mem_iff_getElem.1 hy
          obtain ⟨j, hj, rfl⟩ := List.mem_iff_getElem.1 hx
          have := k4 k (Nat.le_refl _) (by omega)
          have gx : A2[0]? = some (A2[0]'(by omega)) := List.getElem?_eq_getElem (by omega)
          have gy : B1[e - 1 - m]? = some (B1[e - 1 - m]'(by omega)) := List.getElem?_eq_getElem (by omega)
          have g1 : d[k]? = some (A2[0]'(by omega)) := by rw [dA k hk1 (by omega), List.getElem?_append_right (by omega), ← gx]; congr 1; omega
          have g2 : d[mid + m - 1 - k]? = some (B1[e - 1 - m]'(by omega)) := by rw [dB _ (by omega) (by omega), List.getElem?_append_left (by omega), ← gy]; congr 1; omega
          simp only [g1, g2, Bool.not_eq_false'] at this
          have o1 : (ltBI cs ci cj ct) A2[j] (A2[0]'(by omega)) = false := by
            rcases Nat.eq_zero_or_pos j with h0 | h0
            · subst h0; exact swB_irr ((swBI cs ci cj ct) ) _
            · exact srtB_get (srtB_app_right sA) h0 gx (List.getElem?_eq_getElem hj)
          have o2 : (ltBI cs ci cj ct) (B1[e - 1 - m]'(by omega)) B1[i] = false := by
            rcases Nat.lt_or_ge i (e - 1 - m) with h0 | h0
            · exact srtB_get (srtB_app_left sB) h0 (List.getElem?_eq_getElem hi) gy
            · obtain rfl : i = e - 1 - m := by omega
              exact swB_irr ((swBI cs ci cj ct) ) _
          rcases tf ((ltBI cs ci cj ct) B1[i] A2[j]) with z | z
          · exact z
          · have h9 := ((swBI cs ci cj ct) ).2 _ _ _ (((swBI cs ci cj ct) ).2 _ _ _ o2 z) o1
            rw [this] at h9; cases h9
        have H2 : ∀ y ∈ B2, ∀ x ∈ A1, (ltBI cs ci cj ct) y x = false := fun y hy x hx => by
          obtain ⟨i, hi, rfl⟩ := List.mem_iff_getElem.1 hy
          obtain ⟨j, hj, rfl⟩ := List.mem_iff_getElem.1 hx
          have := k3 (k - 1) (by omega) (by omega)
          have gx : A1[k - 1 - a]? = some (A1[k - 1 - a]'(by omega)) := List.getElem?_eq_getElem (by omega)
          have gy : B2[0]? = some (B2[0]'(by omega)) := List.getElem?_eq_getElem (by omega)
          have g1 : d[k - 1]? = some (A1[k - 1 - a]'(by omega)) := by rw [dA _ (by omega) (by omega), List.getElem?_append_left (by omega), gx]
          have g2 : d[mid + m - 1 - (k - 1)]? = some (B2[0]'(by omega)) := by rw [dB _ (by omega) (by omega), List.getElem?_append_right (by omega), ← gy]; congr 1; omega
          simp only [g1, g2, Bool.not_eq_true'] at this
          have o1 : (ltBI cs ci cj ct) (A1[k - 1 - a]'(by omega)) A1[j] = false := by
            rcases Nat.lt_or_ge j (k - 1 - a) with h0 | h0
            · exact srtB_get (srtB_app_left sA) h0 (List.getElem?_eq_getElem hj) gx
            · obtain rfl : j = k - 1 - a := by omega
              exact swB_irr ((swBI cs ci cj ct) ) _
          have o2 : (ltBI cs ci cj ct) B2[i] (B2[0]'(by omega)) = false := by
            rcases Nat.eq_zero_or_pos i with h0 | h0
            · subst h0; exact swB_irr ((swBI cs ci cj ct) ) _
            · exact srtB_get (srtB_app_right sB) h0 gy (List.getElem?_eq_getElem hi)
          exact ((swBI cs ci cj ct) ).2 _ _ _ (((swBI cs ci cj ct) ).2 _ _ _ o2 this) o1
        have H3 : ∀ y ∈ B2, ∀ x ∈ B1, (ltBI cs ci cj ct) y x = false := fun y hy x hx => (List.pairwise_append.1 sB).2.2 x hx y hy
        rw [mgB_split H1 H2 H3]
        have c13 : slices_symMergeCmpFunc_int_impl_OrderOf_1_c13 d (a : Int) (m : Int) (b : Int) cs ci cj ct (k : Int) = some (P ++ (A1 ++ (B1 ++ (A2 ++ (B2 ++ R))))) := by
          unfold slices_symMergeCmpFunc_int_impl_OrderOf_1_c13
          simp only [hmid, he]
          by_cases h1 : k < m ∧ m < e
          · have rv := rot_valI cs ci cj ct (P ++ A1) A2 B1 (B2 ++ R) (fun z => by simp [z] at lA2; omega) (fun z => by simp [z] at lB1; omega) (by simp <;> omega) (k : Int) (m : Int) (e : Int) (by simp <;> omega) (by simp <;> omega) (by simp <;> omega)
            rw [if_pos (by simp <;> omega), if_pos (by simp <;> omega), ← hd, show P ++ ((A1 ++ A2) ++ ((B1 ++ B2) ++ R)) = (P ++ A1) ++ (A2 ++ (B1 ++ (B2 ++ R))) by simp, rv]
            simp
          · have hz : A2 = [] ∨ B1 = [] := by
              rcases Nat.lt_or_ge k m with h2 | h2
              · exact .inr (List.eq_nil_of_length_eq_zero (by omega))
              · exact .inl (List.eq_nil_of_length_eq_zero (by omega))
            have hsame : d = P ++ (A1 ++ (B1 ++ (A2 ++ (B2 ++ R)))) := by rw [← hd]; rcases hz with rfl | rfl <;> simp
            rw [← hsame]
            by_cases h2 : k < m
            · rw [if_pos (by simp <;> omega), if_neg (by simp <;> omega)]
            · rw [if_neg (by simp <;> omega)]
        rw [c10]
        simp only [Option.bind_some]
        rw [l4]
        simp only [Option.bind_some]
        rw [c13]
        simp only [Option.bind_some, hmid, he]
        have hq2 : ∀ s ∈ P ++ (A1 ++ (B1 ++ (A2 ++ (B2 ++ R)))), (qBI cs ci cj ct) s := fun z hz => hq z (by rw [← hd]; simp at hz ⊢; rcases hz with h | h | h | h | h | h <;> simp [h])
        have hqr : ∀ s ∈ (P ++ mgB ((ltBI cs ci cj ct) ) A1 B1) ++ (A2 ++ (B2 ++ R)), (qBI cs ci cj ct) s := fun z hz => hq2 z (by simp [mem_mgB] at hz ⊢; rcases hz with h | (h | h) | h | h | h <;> simp [h])
        have ll : (P ++ mgB ((ltBI cs ci cj ct) ) A1 B1).length = mid := by simp [len_mgB]; omega
        have right : ∀ X : List Int, X = (P ++ mgB ((ltBI cs ci cj ct) ) A1 B1) ++ (A2 ++ (B2 ++ R)) → (if decide ((mid : Int) < (e : Int)) = true then (if decide ((e : Int) < (b : Int)) = true then (slices_symMergeCmpFunc_int_impl_OrderOf_1 fuel X (mid : Int) (e : Int) (b : Int) cs ci cj ct).bind fun r => some r else some X) else some X) = some (P ++ ((mgB ((ltBI cs ci cj ct) ) A1 B1 ++ mgB ((ltBI cs ci cj ct) ) A2 B2) ++ R)) := fun X hX => by
          subst hX
          by_cases h1 : mid < e ∧ e < b
          · have ih := sym_valI cs ci cj ct N (P ++ mgB ((ltBI cs ci cj ct) ) A1 B1) A2 B2 R fuel (by simp at hN; omega) (by omega) (fun z => by simp [z] at lA2; omega) (fun z => by simp [z] at lB2; omega) (srtB_app_right sA) (srtB_app_right sB) hqr (by simp [len_mgB]; omega)
            rw [ll, show mid + A2.length = e by omega, show e + B2.length = b by omega] at ih
            rw [if_pos (by simp <;> omega), if_pos (by simp <;> omega), ih]
            simp
          · have hz : A2 = [] ∨ B2 = [] := by
              rcases Nat.lt_or_ge mid e with h2 | h2
              · exact .inr (List.eq_nil_of_length_eq_zero (by omega))
              · exact .inl (List.eq_nil_of_length_eq_zero (by omega))
            have hm2 : mgB ((ltBI cs ci cj ct) ) A2 B2 = A2 ++ B2 := mgB_sorted B2 A2 (srtB_one hz (srtB_app_right sA) (srtB_app_right sB))
            rw [hm2]
            by_cases h2 : mid < e
            · rw [if_pos (by simp <;> omega), if_neg (by simp <;> omega)]; simp
            · rw [if_neg (by simp <;> omega)]; simp
        by_cases h1 : a < k ∧ k < mid
        · have ih := sym_valI cs ci cj ct N P A1 B1 (A2 ++ (B2 ++ R)) fuel (by simp at hN; omega) (by omega) (fun z => by simp [z] at lA1; omega) (fun z => by simp [z] at lB1; omega) (srtB_app_left sA) (srtB_app_left sB) hq2 (by simp <;> omega)
          rw [ha, show a + A1.length = k by omega, show k + B1.length = mid by omega] at ih
          rw [if_pos (by simp <;> omega), if_pos (by simp <;> omega), ih]
          simp only [Option.bind_some]
          exact right _ (by simp)
        · have hz : A1 = [] ∨ B1 = [] := by
            rcases Nat.lt_or_ge a k with h2 | h2
            · exact .inr (List.eq_nil_of_length_eq_zero (by omega))
            · exact .inl (List.eq_nil_of_length_eq_zero (by omega))
          have hm1 : mgB ((ltBI cs ci cj ct) ) A1 B1 = A1 ++ B1 := mgB_sorted B1 A1 (srtB_one hz (srtB_app_left sA) (srtB_app_left sB))
          have hX : P ++ (A1 ++ (B1 ++ (A2 ++ (B2 ++ R)))) = (P ++ mgB ((ltBI cs ci cj ct) ) A1 B1) ++ (A2 ++ (B2 ++ R)) := by rw [hm1]; simp
          by_cases h2 : a < k
          · rw [if_pos (by simp <;> omega), if_neg (by simp <;> omega)]
            exact right _ hX
          · rw [if_neg (by simp <;> omega)]
            exact right _ hX
theorem st_l0_valI (cs : List Stripe) (ci cj : Int) (ct : List Task) (n : Int) : ∀ (f : Nat) (W P : List Int) (fuel : Nat), W.length ≤ f → f < fuel → n = ((P.length + W.length : Nat) : Int) → P.length + W.length ≤ 2000000 → (∀ s ∈ W, (qBI cs ci cj ct) s) →
    ∃ P' W' M, slices_stableCmpFunc_int_impl_OrderOf_1_l0 n cs ci cj ct fuel (P.length : Int) ((P.length + 20 : Nat) : Int) (P ++ W) = some ((P'.length : Int), P' ++ W') ∧ P'.length + W'.length = P.length + W.length ∧ Bs ((ltBI cs ci cj ct) ) 20 W M ∧ P ++ M = P' ++ mgB ((ltBI cs ci cj ct) ) [] W' ∧ (∀ s ∈ W', (qBI cs ci cj ct) s)
  | f, W, P, 0, _, hf, _, _, _ => by omega
  | f, W, P, fuel + 1, hW, hf, hn, hl, hq => by
    unfold slices_stableCmpFunc_int_impl_OrderOf_1_l0
    rcases Nat.lt_or_ge W.length 20 with h | h
    · refine ⟨P, W, _, ?_, rfl, .last W (by omega), rfl, hq⟩
      rw [if_neg (by rw [hn]; simp; omega)]
    · obtain ⟨A, W, rfl, hA⟩ : ∃ A W', W = A ++ W' ∧ A.length = 20 := ⟨W.take 20, W.drop 20, (List.take_append_drop _ _).symm, by simp; omega⟩
      simp only [List.length_append] at hW hn hl h
      have iv := ins_valI cs ci cj ct P A W (fun s hs => hq s (by simp [hs])) (by omega) (P.length : Int) ((P.length + 20 : Nat) : Int) rfl (by rw [hA])
      have hlen : (P ++ mgB ((ltBI cs ci cj ct) ) [] A).length = P.length + 20 := by simp [len_mgB, hA]
      have e1 : i64 (((P.length + 20 : Nat) : Int) + 20) = (((P ++ mgB ((ltBI cs ci cj ct) ) [] A).length + 20 : Nat) : Int) := i64_eq _ (by omega) (by rw [hlen]; omega)
      obtain ⟨P', W', M, q1, q2, q3, q4, q5⟩ := st_l0_valI cs ci cj ct n (f - 1) W (P ++ mgB ((ltBI cs ci cj ct) ) [] A) fuel (by omega) (by omega) (by rw [hlen]; omega) (by rw [hlen]; omega) (fun s hs => hq s (by simp [hs]))
      refine ⟨P', W', _, ?_, by rw [q2, hlen, List.length_append]; omega, .cons A W M hA q3, by rw [← q4]; simp, q5⟩
      rw [if_pos (by rw [hn]; simp; omega), iv, Option.bind_some, e1, ← List.append_assoc]
      rw [hlen] at q1 ⊢
      exact q1
theorem st_l2_valI (cs : List Stripe) (ci cj : Int) (ct : List Task) (n : Int) (k : Nat) (hk : 1 ≤ k) (hk2 : k ≤ 2000000) : ∀ (f : Nat) (L M P : List Int) (fuel : Nat), L.length ≤ f → f < fuel → Bs ((ltBI cs ci cj ct) ) k L M → n = ((P.length + L.length : Nat) : Int) → P.length + L.length ≤ 2000000 → (∀ s ∈ P ++ L, (qBI cs ci cj ct) s) →
    ∃ P' L' M' N, slices_stableCmpFunc_int_impl_OrderOf_1_l2 n cs ci cj ct (k : Int) fuel (P.length : Int) ((P.length + 2 * k : Nat) : Int) (P ++ M) = some ((P'.length : Int), P' ++ M') ∧ P'.length + L'.length = P.length + L.length ∧ Bs ((ltBI cs ci cj ct) ) k L' M' ∧ L'.length < 2 * k ∧ Bs ((ltBI cs ci cj ct) ) (2 * k) L N ∧ P ++ N = P' ++ mgB ((ltBI cs ci cj ct) ) [] L' ∧ (∀ s ∈ P' ++ L', (qBI cs ci cj ct) s)
  | f, L, M, P, 0, _, hf, _, _, _, _ => by omega
  | f, L, M, P, fuel + 1, hL, hf, hb, hn, hl, hq => by
    unfold slices_stableCmpFunc_int_impl_OrderOf_1_l2
    rcases Nat.lt_or_ge L.length (2 * k) with h | h
    · refine ⟨P, L, M, _, ?_, rfl, hb, h, .last L (by omega), rfl, hq⟩
      rw [if_neg (by rw [hn]; simp; omega)]
    · obtain ⟨A, B, L, M, rfl, hA, hB, rfl, hbb⟩ := hb.two hk h
      simp only [List.length_append] at hL hn hl h
      have lA : (mgB ((ltBI cs ci cj ct) ) [] A).length = k := by simp [len_mgB, hA]
      have lB : (mgB ((ltBI cs ci cj ct) ) [] B).length = k := by simp [len_mgB, hB]
      have hML := hbb.len
      have sv := sym_valI cs ci cj ct (2 * k) P (mgB ((ltBI cs ci cj ct) ) [] A) (mgB ((ltBI cs ci cj ct) ) [] B) M FUEL (by omega) (by unfold FUEL; omega) (fun e => by rw [e] at lA; simp at lA; omega) (fun e => by rw [e] at lB; simp at lB; omega) (srtB_srt ((swBI cs ci cj ct) ) A) (srtB_srt ((swBI cs ci cj ct) ) B)
        (fun s hs => hq s (by
          simp only [List.mem_append] at hs ⊢
          rcases hs with hs | hs | hs | hs
          · exact .inl hs
          · exact .inr (.inl (by simpa using mem_mgB.1 hs))
          · exact .inr (.inr (.inl (by simpa using mem_mgB.1 hs)))
          · exact .inr (.inr (.inr (hbb.mem s hs))))) (by simp [lA, lB]; omega)
      rw [lA, lB, ← srtB_app ((swBI cs ci cj ct) )] at sv
      have lAB : (mgB ((ltBI cs ci cj ct) ) [] (A ++ B)).length = 2 * k := by simp [len_mgB, hA, hB]; omega
      have hlen : (P ++ mgB ((ltBI cs ci cj ct) ) [] (A ++ B)).length = P.length + 2 * k := by simp [lAB]
      have e0 : i64 ((P.length : Int) + (k : Int)) = ((P.length + k : Nat) : Int) := i64_eq _ (by omega) (by omega)
      have e1 : i64 (((P.length + 2 * k : Nat) : Int) + i64 (2 * (k : Int))) = (((P ++ mgB ((ltBI cs ci cj ct) ) [] (A ++ B)).length + 2 * k : Nat) : Int) := by
        rw [i64_eq (x := 2 * (k : Int)) (2 * k) (by omega) (by omega)]
        exact i64_eq _ (by omega) (by rw [hlen]; omega)
      obtain ⟨P', L', M', N, q1, q2, q3, q4, q5, q6, q7⟩ := st_l2_valI cs ci cj ct n k hk hk2 (f - 1) L M (P ++ mgB ((ltBI cs ci cj ct) ) [] (A ++ B)) fuel (by omega) (by omega) hbb (by rw [hlen]; omega) (by rw [hlen]; omega) (fun s hs => hq s (by
        simp only [List.mem_append] at hs ⊢
        rcases hs with (hs | hs) | hs
        · exact .inl hs
        · have := mem_mgB.1 hs
          simp only [List.not_mem_nil, false_or, List.mem_append] at this
          rcases this with h | h
          · exact .inr (.inl h)
          · exact .inr (.inr (.inl h))
        · exact .inr (.inr (.inr hs))))
      refine ⟨P', L', M', mgB ((ltBI cs ci cj ct) ) [] (A ++ B) ++ N, ?_, by rw [q2, hlen]; simp; omega, q3, q4, ?_, ?_, q7⟩
      · rw [if_pos (by rw [hn]; simp; omega), e0, show P.length + 2 * k = P.length + k + k by omega, sv, Option.bind_some, show P.length + k + k = P.length + 2 * k by omega, e1, ← List.append_assoc]
        rw [hlen] at q1 ⊢
        exact q1
      · rw [← List.append_assoc]
        exact .cons (A ++ B) L N (by simp; omega) q5
      · rw [← q6]; simp
theorem st_l1_valI (cs : List Stripe) (ci cj : Int) (ct : List Task) (L : List Int) (hl : L.length ≤ 2000000) (hq : ∀ s ∈ L, (qBI cs ci cj ct) s) : ∀ (f k : Nat) (M : List Int) (fuel : Nat), L.length - k ≤ f → f < fuel → 1 ≤ k → k ≤ 4000000 → Bs ((ltBI cs ci cj ct) ) k L M →
    slices_stableCmpFunc_int_impl_OrderOf_1_l1 (L.length : Int) cs ci cj ct fuel (k : Int) M = some (mgB ((ltBI cs ci cj ct) ) [] L)
  | f, k, M, 0, _, hf, _, _, _ => by omega
  | f, k, M, fuel + 1, hf0, hf, hk, hk2, hb => by
    unfold slices_stableCmpFunc_int_impl_OrderOf_1_l1
    rcases Nat.lt_or_ge k L.length with h | h
    · obtain ⟨P', L', M', N, q1, q2, q3, q4, q5, q6, q7⟩ := st_l2_valI cs ci cj ct (L.length : Int) k hk (by omega) L.length L M [] FUEL (Nat.le_refl _) (by unfold FUEL; omega) hb (by simp) (by simpa using hl) (by simpa using hq)
      have e1 : i64 (2 * (k : Int)) = ((([] : List Int).length + 2 * k : Nat) : Int) := i64_eq _ (by simp; omega) (by simp)
      have e2 : i64 ((k : Int) * 2) = ((2 * k : Nat) : Int) := i64_eq _ (by omega) (by omega)
      rw [List.nil_append] at q1 q6
      simp only [List.length_nil, Nat.zero_add] at q2
      have e3 : i64 ((P'.length : Int) + (k : Int)) = ((P'.length + k : Nat) : Int) := i64_eq _ (by omega) (by omega)
      have fin := st_l1_valI cs ci cj ct L hl hq (f - 1) (2 * k) N fuel (by omega) (by omega) (by omega) (by omega) q5
      rw [if_pos (by simp; omega), e1]
      simp only [List.length_nil] at q1
      rw [show ((0 : Nat) : Int) = 0 from rfl] at q1
      rw [List.length_nil, q1, Option.bind_some, e3, e2]
      rcases Nat.lt_or_ge k L'.length with h2 | h2
      · obtain ⟨A, B, rfl, hA, hB0, hB, rfl⟩ := q3.one q4 h2
        have lA : (mgB ((ltBI cs ci cj ct) ) [] A).length = k := by simp [len_mgB, hA]
        have lB : (mgB ((ltBI cs ci cj ct) ) [] B).length = B.length := by simp [len_mgB]
        have pB : 0 < B.length := List.length_pos_iff.2 hB0
        simp only [List.length_append] at q2 h2
        have sv := sym_valI cs ci cj ct (2 * k) P' (mgB ((ltBI cs ci cj ct) ) [] A) (mgB ((ltBI cs ci cj ct) ) [] B) [] FUEL (by omega) (by unfold FUEL; omega) (fun e => by rw [e] at lA; simp at lA; omega) (fun e => by rw [e] at lB; simp at lB; omega) (srtB_srt ((swBI cs ci cj ct) ) A) (srtB_srt ((swBI cs ci cj ct) ) B)
          (fun s hs => q7 s (by
            simp only [List.mem_append, List.not_mem_nil, or_false] at hs ⊢
            rcases hs with hs | hs | hs
            · exact .inl hs
            · exact .inr (.inl (by simpa using mem_mgB.1 hs))
            · exact .inr (.inr (by simpa using mem_mgB.1 hs)))) (by simp [lA, lB]; omega)
        rw [lA, lB, ← srtB_app ((swBI cs ci cj ct) )] at sv
        simp only [List.append_nil] at sv
        rw [if_pos (by simp; omega), show (L.length : Int) = ((P'.length + k + B.length : Nat) : Int) by omega, sv, Option.bind_some, ← q6, show ((P'.length + k + B.length : Nat) : Int) = (L.length : Int) by omega]
        exact fin
      · rw [if_neg (by simp; omega), q3.small h2, ← q6]
        exact fin
    · rw [if_neg (by simp; omega), hb.small h]
theorem stable_valI (cs : List Stripe) (ci cj : Int) (ct : List Task) (L : List Int) (hl : L.length ≤ 2000000) (hq : ∀ s ∈ L, (qBI cs ci cj ct) s) : slices_stableCmpFunc_int_impl_OrderOf_1 L (L.length : Int) cs ci cj ct = some (mgB ((ltBI cs ci cj ct) ) [] L) := by
  obtain ⟨P', W', M, q1, q2, q3, q4, q5⟩ := st_l0_valI cs ci cj ct (L.length : Int) L.length L [] FUEL (Nat.le_refl _) (by unfold FUEL; omega) (by simp) (by simpa using hl) hq
  rw [List.nil_append] at q1 q4
  simp only [List.length_nil, Nat.zero_add] at q1 q2
  have iv := ins_valI cs ci cj ct P' W' [] q5 (by omega) (P'.length : Int) (L.length : Int) rfl (by omega)
  rw [List.append_nil, List.append_nil, ← q4] at iv
  have := st_l1_valI cs ci cj ct L hl hq L.length 20 M FUEL (by omega) (by unfold FUEL; omega) (by decide) (by decide) q3
  unfold slices_stableCmpFunc_int_impl_OrderOf_1
  rw [show (0 : Int) = ((0 : Nat) : Int) from rfl, show (20 : Int) = ((20 : Nat) : Int) from rfl, q1, Option.bind_some, iv, Option.bind_some, this]
  rfl
def idxs : List Task → Nat → List Int
  | [], _ => []
  | t :: l, k => if (t.Lin == (-1)) = true then idxs l (k + 1) else (k : Int) :: idxs l (k + 1)
theorem idxs_mem : ∀ (l : List Task) (k : Nat) (x : Int), x ∈ idxs l k → (k : Int) ≤ x ∧ x < ((k + l.length : Nat) : Int)
  | [], k, x, h => by simp [idxs] at h
  | t :: l, k, x, h => by
    unfold idxs at h
    split at h
    · have := idxs_mem l (k + 1) x h
      simp only [List.length_cons]; omega
    · rcases List.mem_cons.1 h with rfl | h
      · simp only [List.length_cons]; omega
      · have := idxs_mem l (k + 1) x h
        simp only [List.length_cons]; omega
theorem idxs_len : ∀ (l : List Task) (k : Nat), (idxs l k).length ≤ l.length
  | [], k => Nat.le_refl _
  | t :: l, k => by
    have := idxs_len l (k + 1)
    unfold idxs
    split
    · simp only [List.length_cons]; omega
    · simp only [List.length_cons]; omega
theorem impl_OrderOf_l0_val (w : World) : ∀ (t p : List Task) (v : List Int), v.length + t.length ≤ 4000000 → impl_OrderOf_l0 w t p v = some (v ++ idxs t p.length)
  | [], p, v, _ => by simp [impl_OrderOf_l0, idxs]
  | x :: t, p, v, hl => by
    simp only [List.length_cons] at hl
    unfold impl_OrderOf_l0 idxs
    rcases tf (x.Lin == (-1)) with q | q
    · have ih := impl_OrderOf_l0_val w t (p ++ [x]) v (by omega)
      rw [List.length_append] at ih
      simp only [bne, q, Bool.not_true, Bool.false_eq_true, if_false, if_true]
      exact ih
    · have ih := impl_OrderOf_l0_val w t (p ++ [x]) (v ++ [(p.length : Int)]) (by simp; omega)
      rw [List.length_append] at ih
      simp only [bne, q, Bool.not_false, Bool.false_eq_true, if_false, if_true, capOk_of (show v.length + 1 ≤ 274877906944 by omega)]
      rw [ih]
      simp
theorem OrderOf_l1_val (w : World) (p : List Task) (x1 : Task) (x : Int) (hx : x1.Lin = linOf w.Tasks x) : ∀ (n : Nat) (A W : List Int) (fuel : Nat), A.length = n → n < fuel → n + W.length ≤ 4000000 → SrtB (ltBI w.Stripes w.Now w.Step w.Tasks) A → (∀ a ∈ A, 0 ≤ a ∧ a < (w.Tasks.length : Int)) → (∀ a ∈ W, ltBI w.Stripes w.Now w.Step w.Tasks x a = true) →
    ∃ A1 A2, A = A1 ++ A2 ∧ spec_OrderOf_l1 w (A ++ W) p x1 fuel (n : Int) = some (A1.length : Int) ∧ insB (ltBI w.Stripes w.Now w.Step w.Tasks) x (A ++ W) = A1 ++ x :: (A2 ++ W)
  | 0, A, W, fuel + 1, hn, hf, hl, hs, hq, hw => by
    have : A = [] := List.eq_nil_of_length_eq_zero hn
    subst this
    refine ⟨[], [], rfl, ?_, ?_⟩
    · unfold spec_OrderOf_l1
      rw [if_neg (by simp)]
      rfl
    · have := insB_left (lt := ltBI w.Stripes w.Now w.Step w.Tasks) (b := x) (X := []) (Y := W) hw
      simpa [insB] using this
  | n + 1, A, W, fuel + 1, hn, hf, hl, hs, hq, hw => by
    obtain ⟨T, y, rfl⟩ := snoc_of (l := A) (fun e => by simp [e] at hn)
    have hT : T.length = n := by simpa using hn
    have e1 : i64 (((n + 1 : Nat) : Int) - 1) = (n : Int) := i64_eq _ (by omega) (by omega)
    have g : ((T ++ [y]) ++ W)[n]? = some y := by
      have := get0 T W y
      rw [hT] at this
      simpa using this
    have hqy := hq y (by simp)
    obtain ⟨ty, t1, t2⟩ := lin_get hqy
    have hlt : decide (x1.Lin < ty.Lin) = ltBI w.Stripes w.Now w.Step w.Tasks x y := by unfold ltBI; rw [hx, t2]
    unfold spec_OrderOf_l1
    rw [if_pos (by simp <;> omega), e1, if_pos (nnB n), Int.toNat_natCast, g, Option.bind_some, if_pos (decide_eq_true hqy.1), t1, Option.bind_some, hlt]
    rcases tf (ltBI w.Stripes w.Now w.Step w.Tasks x y) with h | h
    · rw [h, if_pos rfl]
      obtain ⟨A1, A2, q1, q2, q3⟩ := OrderOf_l1_val w p x1 x hx n T (y :: W) fuel hT (by omega) (by simp; omega) (srtB_app_left hs) (fun a ha => hq a (by simp [ha])) (fun a ha => by
        rcases List.mem_cons.1 ha with rfl | ha
        · exact h
        · exact hw a ha)
      have e2 : (T ++ [y]) ++ W = T ++ (y :: W) := by simp
      exact ⟨A1, A2 ++ [y], by simp [q1], by rw [e2]; exact q2, by rw [e2, q3]; simp⟩
    · rw [h, if_neg (by simp)]
      have hb : ∀ t ∈ T ++ [y], ltBI w.Stripes w.Now w.Step w.Tasks x t = false := fun t ht => by
        rcases List.mem_append.1 ht with ht | ht
        · exact (swBI w.Stripes w.Now w.Step w.Tasks).2 x y t h ((List.pairwise_append.1 hs).2.2 t ht y (by simp))
        · simp at ht
          subst ht
          exact h
      refine ⟨T ++ [y], [], by simp, by rw [show ((T ++ [y]).length : Int) = ((n + 1 : Nat) : Int) by simp [hT]], ?_⟩
      rw [insB_right hb]
      have := insB_left (lt := ltBI w.Stripes w.Now w.Step w.Tasks) (b := x) (X := []) (Y := W) hw
      simp only [List.nil_append, insB] at this
      rw [this]
      rfl
theorem spec_OrderOf_l0_val (w : World) : ∀ (t p : List Task) (v : List Int), w.Tasks = p ++ t → SrtB (ltBI w.Stripes w.Now w.Step w.Tasks) v → (∀ a ∈ v, 0 ≤ a ∧ a < (w.Tasks.length : Int)) → v.length + t.length ≤ 4000000 →
    spec_OrderOf_l0 w t p v = some (mgB (ltBI w.Stripes w.Now w.Step w.Tasks) v (idxs t p.length))
  | [], p, v, _, _, _, _ => by simp [spec_OrderOf_l0, idxs, mgB]
  | x :: t, p, v, he, hs, hq, hl => by
    simp only [List.length_cons] at hl
    unfold spec_OrderOf_l0 idxs
    rcases tf (x.Lin == (-1)) with q | q
    · have ih := spec_OrderOf_l0_val w t (p ++ [x]) v (by rw [he]; simp) hs hq (by omega)
      rw [List.length_append] at ih
      simp only [q, if_true]
      exact ih
    · have hlin : x.Lin = linOf w.Tasks (p.length : Int) := by
        unfold linOf
        rw [he, Int.toNat_natCast, get0]
      obtain ⟨A1, A2, e, q2, q3⟩ := OrderOf_l1_val w p x (p.length : Int) hlin v.length v [] FUEL rfl (by unfold FUEL; omega) (by simp; omega) hs hq (by simp)
      subst e
      simp only [List.append_nil] at q2 q3
      simp only [List.length_append] at hl
      have ih := spec_OrderOf_l0_val w t (p ++ [x]) (insB (ltBI w.Stripes w.Now w.Step w.Tasks) (p.length : Int) (A1 ++ A2)) (by rw [he]; simp) (srtB_ins (swBI w.Stripes w.Now w.Step w.Tasks) _ hs) (fun a ha => (mem_insB.1 ha).elim (fun e => by subst e; rw [he]; simp; omega) (hq a)) (by rw [len_insB]; simp; omega)
      rw [List.length_append, q3] at ih
      simp only [q, Bool.false_eq_true, if_false]
      rw [mgB_cons, q3, q2, Option.bind_some]
      simp only [nnB, if_true, Int.toNat_natCast, List.drop_zero, List.take_left', List.drop_left', show decide ((A1.length : Int) ≤ ((A1 ++ A2).length : Int)) = true from decide_eq_true (by rw [List.length_append]; omega), List.length_append, List.length_cons, List.length_nil, show A1.length + A2.length - A1.length = A2.length by omega, List.take_length, capOk_of (show 0 + A1.length ≤ 274877906944 by omega), capOk_of (show A1.length + 1 ≤ 274877906944 by omega), capOk_of (show A1.length + (0 + 1) + A2.length ≤ 274877906944 by omega)]
      rw [show (A1 ++ [(p.length : Int)]) ++ A2 = A1 ++ (p.length : Int) :: A2 by simp, show decide ((A1.length : Int) ≤ ((A1.length + A2.length : Nat) : Int)) = true from decide_eq_true (by omega)]
      exact ih
def orderW (w : World) : List Int := mgB (ltBI w.Stripes w.Now w.Step w.Tasks) [] (idxs w.Tasks 0)
theorem OrderOf_val (w : World) (h : w.Tasks.length ≤ 2000000) : spec_OrderOf w = some (orderW w) ∧ impl_OrderOf w = some (orderW w) := by
  have hi := idxs_len w.Tasks 0
  constructor
  · unfold spec_OrderOf
    rw [capOk_of (by omega), if_pos rfl, spec_OrderOf_l0_val w w.Tasks [] [] rfl (by simp [SrtB]) (by simp) (by simp; omega)]
    rfl
  · unfold impl_OrderOf slices_SortStableFunc_int_impl_OrderOf_1
    rw [capOk_of (by omega), if_pos rfl, impl_OrderOf_l0_val w w.Tasks [] [] (by simp; omega), Option.bind_some, List.nil_append]
    rw [show ([] : List Task).length = 0 from rfl, stable_valI w.Stripes w.Now w.Step w.Tasks (idxs w.Tasks 0) (by omega) (fun s hs => by have := idxs_mem w.Tasks 0 s hs; exact ⟨by omega, by simpa using this.2⟩)]
    rfl
def doneT (t : Task) : Done := ⟨t.At, t.Data, t.Reply⟩
def doneAt (w : World) (k : Int) : Done := match w.Tasks[k.toNat]? with | some t => doneT t | none => ⟨0, [], []⟩
theorem DonesOf_l0_val (w : World) (r1 : List Int) (hw : ∀ t ∈ w.Tasks, wtTask t ≤ 4000000) : ∀ (t : List Int) (v : List Done), (∀ a ∈ t, 0 ≤ a ∧ a < (w.Tasks.length : Int)) → v.length + t.length ≤ 4000000 →
    spec_DonesOf_l0 w r1 t v = some (v ++ t.map (doneAt w)) ∧ impl_DonesOf_l0 w r1 t v = some (v ++ t.map (doneAt w))
  | [], v, _, _ => by simp [spec_DonesOf_l0, impl_DonesOf_l0]
  | x :: t, v, hq, hl => by
    simp only [List.length_cons] at hl
    have hx := hq x (by simp)
    have hxl : x.toNat < w.Tasks.length := by omega
    have g : w.Tasks[x.toNat]? = some w.Tasks[x.toNat] := List.getElem?_eq_getElem hxl
    have hwt := hw _ (List.getElem_mem hxl)
    have hd : doneAt w x = doneT w.Tasks[x.toNat] := by unfold doneAt; rw [g]
    generalize w.Tasks[x.toNat] = T at g hwt hd
    rw [wtTask_eq] at hwt
    obtain ⟨i1, i2⟩ := DonesOf_l0_val w r1 hw t (v ++ [doneT T]) (fun a ha => hq a (by simp [ha])) (by simp; omega)
    unfold spec_DonesOf_l0 impl_DonesOf_l0 spec_l14Copy impl_Task_copied slices_Clone_byte slices_Clone_int
    simp only [decide_eq_true hx.1, if_true, g, Option.bind_some, capOk_of (show 0 + T.Data.length ≤ 274877906944 by omega), capOk_of (show 0 + T.Set.length ≤ 274877906944 by omega), capOk_of (show 0 + T.Reply.length ≤ 274877906944 by omega), capOk_of (show T.Data.length ≤ 274877906944 by omega), capOk_of (show T.Set.length ≤ 274877906944 by omega), capOk_of (show T.Reply.length ≤ 274877906944 by omega), capOk_of (show v.length + 1 ≤ 274877906944 by omega)]
    rw [show (⟨T.At, T.Data, T.Reply⟩ : Done) = doneT T from rfl, i1, i2, List.map_cons, hd, List.append_assoc]
    exact ⟨rfl, rfl⟩
theorem wt_idxs (w : World) : ∀ (t p : List Task), w.Tasks = p ++ t → wtL (fun k => wtDone (doneAt w k)) (idxs t p.length) ≤ wtL wtTask t
  | [], p, _ => by simp [idxs, wtL]
  | x :: t, p, he => by
    have ih := wt_idxs w t (p ++ [x]) (by rw [he]; simp)
    rw [List.length_append] at ih
    unfold idxs
    split
    · simp only [wtL]; exact Nat.le_trans ih (by omega)
    · have hd : doneAt w (p.length : Int) = doneT x := by
        unfold doneAt
        rw [he, Int.toNat_natCast, get0]
      have h1 : wtDone (doneT x) ≤ wtTask x := by rw [wtDone_eq, wtTask_eq]; simp only [doneT]; omega
      simp only [wtL, hd]
      rw [show [x].length = 1 from rfl] at ih
      omega
theorem wtL_map {α β : Type} (f : β → Nat) (g : α → β) : ∀ l : List α, wtL f (l.map g) = wtL (fun x => f (g x)) l
  | [] => rfl
  | x :: l => by simp only [List.map_cons, wtL, wtL_map f g l]
theorem DonesOf_val (w : World) (h : wtWorld w ≤ 1048576) : ∃ y, spec_DonesOf w = some y ∧ impl_DonesOf w = some y ∧ wtL wtDone y ≤ 4000000 := by
  rw [wtWorld_eq] at h
  have hl := wtL_len wtTask w.Tasks
  have hi := idxs_len w.Tasks 0
  have ho : (orderW w).length ≤ w.Tasks.length := by unfold orderW; rw [len_mgB]; simp; omega
  have hm : ∀ a ∈ orderW w, 0 ≤ a ∧ a < (w.Tasks.length : Int) := fun a ha => by
    have := mem_mgB.1 ha
    simp only [List.not_mem_nil, false_or] at this
    have := idxs_mem w.Tasks 0 a this
    exact ⟨by omega, by simpa using this.2⟩
  obtain ⟨o1, o2⟩ := OrderOf_val w (by omega)
  obtain ⟨d1, d2⟩ := DonesOf_l0_val w (orderW w) (fun t ht => by have := wtL_mem wtTask w.Tasks t ht; omega) (orderW w) [] hm (by simp; omega)
  have hw := wt_idxs w w.Tasks [] rfl
  refine ⟨(orderW w).map (doneAt w), ?_, ?_, ?_⟩
  · unfold spec_DonesOf
    rw [o1, Option.bind_some, capOk_of (by omega), if_pos rfl, d1]
    rfl
  · unfold impl_DonesOf
    rw [o2, Option.bind_some, capOk_of (by omega), if_pos rfl, d2]
    rfl
  · rw [wtL_map]
    unfold orderW
    rw [wtL_mgB]
    simp only [wtL]
    rw [show ([] : List Task).length = 0 from rfl] at hw
    omega
namespace Pure
theorem FnExactDonesOf (o : World) (h0 : W75 o) : laws_FnExactDonesOf o = some true := by
  unfold laws_FnExactDonesOf
  obtain ⟨r1, er1, gr1⟩ := szWorld_val o 1048576 h0 (by omega) (by omega)
  rw [er1, Option.bind_some]
  by_cases cr1 : r1 < 0
  · simp only [cr1, decide_true, decide_false, Bool.false_eq_true, if_true, if_false]
  have gr1 := gr1 (by omega)
  simp only [cr1, decide_true, decide_false, Bool.false_eq_true, if_true, if_false]
  obtain ⟨y, f1, f2, f3⟩ := DonesOf_val o (by omega)
  have z0 := f3
  obtain ⟨k1, l1_0, l1_1, m1, u1, b1, q1_0, q1_1⟩ := markWorld_val o 1 (by omega) (by omega) (by omega)
  obtain ⟨k2, l2, m2, u2, b2, q2, d2⟩ := markDoneS_val y 1 (by omega) (by omega) (by omega)
  simp only [f1, f2, eqDoneS_rfl _ z0, toWorld_val o (by omega), eqWorld_rfl o (by omega), m1, show ¬ k1 < 0 by omega, m2, show ¬ k2 < 0 by omega, d2, Option.bind_some, decide_true, decide_false, Bool.false_eq_true, if_true, if_false, bne_rfl, beq_rfl, beq_self_eq_true]
end Pure
end Go.Proofs.YtdcejeemommkfaaM
