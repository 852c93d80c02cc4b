/- Laws of the plain functions. No condition. -/
import Derived.Test.YtdcejeemommkfaaPtOp
import Derived.Laws.StructEq
namespace Go.Proofs.YtdcejeemommkfaaM
set_option linter.unusedVariables false
set_option linter.unusedSimpArgs false
set_option maxRecDepth 100000
theorem i64_of {x : Int} (h : -9223372036854775808 ≤ x) (h2 : x ≤ 9223372036854775807) : i64 x = x := by unfold i64; rw [IntKind.wrap_i64]; omega
theorem capOk_of {n : Nat} (h : n ≤ 274877906944) : capOk n = true := decide_eq_true h
theorem beqB (a b : ByteArray) : (a == b) = decide (a = b) := by
  rcases a with ⟨a⟩
  rcases b with ⟨b⟩
  have h1 : ((⟨a⟩ : ByteArray) == ⟨b⟩) = (a == b) := rfl
  rw [h1]
  by_cases h : a = b
  · subst h; simp
  · have h2 : ¬ ((⟨a⟩ : ByteArray) = ⟨b⟩) := fun e => h (by cases e; rfl)
    rw [decide_eq_false h2]
    simpa using h
theorem sub_val {left : Int} {n : Nat} (h0 : 0 ≤ left) (h1 : left ≤ 1048576) (hn : n ≤ 140737488351232) : i64 (left - (n : Int)) = left - n := i64_of (by omega) (by omega)
theorem set_take {α : Type} {v p : List α} {x : α} (hv : v.take p.length = p) (hl : p.length < v.length) : (v.set p.length x).take (p ++ [x]).length = p ++ [x] := by
  rw [List.length_append, List.length_cons, List.length_nil, List.take_add_one, List.take_set_of_le (Nat.le_refl _), hv]
  simp [hl]
theorem idx_some {α : Type} {v p : List α} (hl : p.length < v.length) : ∃ y, v[((p.length : Int)).toNat]? = some y := ⟨v[p.length], by simp [hl]⟩
theorem beq_rfl (s : ByteArray) : (s == s) = true := by rw [beqB]; simp
theorem bne_rfl (n : Int) : (n != n) = false := by simp
theorem mid_get {α : Type} {a p t : List α} {x : α} (e : a = p ++ x :: t) : a[((p.length : Int)).toNat]? = some x := by rw [e]; simp
theorem bstr_one (n : Int) : (bstr [n]).size = 1 := rfl
theorem size_app (a b : ByteArray) : (a ++ b).size = a.size + b.size := ByteArray.size_append
theorem markText_l0_tot : ∀ (n N : Nat) (v : Int) (s : ByteArray), 0 ≤ v → v ≤ 9223372036854775807 → v < 10 ^ n → n < N → s.size + n ≤ 1000 → ∃ y, laws_markText_l0 N v s = some y ∧ y.size ≤ 1000
  | n, 0, v, s, h0, hm, hv, hN, hs => by omega
  | 0, N + 1, v, s, h0, hm, hv, hN, hs => by
    have : v = 0 := by simp at hv; omega
    subst this
    exact ⟨s, by simp [laws_markText_l0], by omega⟩
  | n + 1, N + 1, v, s, h0, hm, hv, hN, hs => by
    unfold laws_markText_l0
    by_cases h : 0 < v
    · have hd : Int.tdiv v 10 = v / 10 := Int.tdiv_eq_ediv_of_nonneg h0
      have hp : (10 : Int) ^ (n + 1) = 10 ^ n * 10 := by rw [Int.pow_succ]
      have hlt : v / 10 < 10 ^ n := by rw [hp] at hv; omega
      have hi : i64 (v / 10) = v / 10 := i64_of (by omega) (by omega)
      have hz : (bstr [u8 (i64 (48 + (Int.tmod v 10)))]).size = 1 := bstr_one _
      obtain ⟨y, e, e2⟩ := markText_l0_tot n N (v / 10) (bstr [u8 (i64 (48 + (Int.tmod v 10)))] ++ s) (by omega) (by omega) hlt (by omega) (by rw [size_app, hz]; omega)
      refine ⟨y, ?_, e2⟩
      have hc : (bstr [u8 (i64 (48 + (Int.tmod v 10)))]).size + s.size ≤ 9223372036854775807 := by rw [hz]; omega
      simp only [h, decide_true, if_true, hc, hd, hi]
      exact e
    · exact ⟨s, by simp [h], by omega⟩
theorem markText_tot (k : Int) (hm : k ≤ 9223372036854775807) : ∃ y, laws_markText k = some y := by
  unfold laws_markText
  by_cases h : k ≤ 0
  · exact ⟨_, by simp only [h, decide_true, if_true]; rfl⟩
  · obtain ⟨y, e, e2⟩ := markText_l0_tot 20 FUEL k (bs []) (by omega) hm (by omega) (by unfold FUEL; omega) (by decide)
    simp only [h, decide_false, Bool.false_eq_true, if_false, e, Option.bind_some]
    have hc : (bs [109]).size + y.size ≤ 9223372036854775807 := by
      have : (bs [109]).size = 1 := rfl
      omega
    exact ⟨_, by rw [decide_eq_true hc]; rfl⟩
theorem after_set {α : Type} {v v' : List α} {i : Nat} {x : α} (h : v'.take (i + 1) = (v.set i x).take (i + 1)) (hl : v'.length = v.length) (hi : i < v.length) : v'.drop i = x :: v'.drop (i + 1) ∧ v'.take i = v.take i := by
  have hx : v'[i]? = some x := by
    have e : (v'.take (i + 1))[i]? = ((v.set i x).take (i + 1))[i]? := by rw [h]
    rw [List.getElem?_take, List.getElem?_take, if_pos (by omega), if_pos (by omega)] at e
    rw [e]; simp [hi]
  have hx' : v'[i]'(by omega) = x := by
    have := List.getElem?_eq_getElem (l := v') (i := i) (by omega)
    rw [this] at hx
    exact Option.some.inj hx
  refine ⟨by rw [List.drop_eq_getElem_cons (by omega), hx'], ?_⟩
  have e : (v'.take (i + 1)).take i = ((v.set i x).take (i + 1)).take i := by rw [h]
  rw [List.take_take, List.take_take, Nat.min_eq_left (by omega), List.take_set_of_le (Nat.le_refl _)] at e
  exact e
/-- The weight of a list: its length, and its elements' weights. -/
def wtL {α : Type} (f : α → Nat) : List α → Nat
  | [] => 0
  | x :: t => 1 + f x + wtL f t
def wtS {α : Type} (f : α → Nat) : List α → Nat
  | [] => 0
  | x :: t => f x + wtS f t
theorem wtL_eq {α : Type} (f : α → Nat) : ∀ l : List α, wtL f l = l.length + wtS f l
  | [] => rfl
  | x :: t => by simp only [wtL, wtS, List.length_cons]; rw [wtL_eq f t]; omega
theorem wtL_len {α : Type} (f : α → Nat) (l : List α) : l.length ≤ wtL f l := by rw [wtL_eq]; omega
theorem wtL_mem {α : Type} (f : α → Nat) : ∀ (l : List α) (x : α), x ∈ l → f x + 1 ≤ wtL f l
  | y :: t, x, h => by
    simp only [wtL]
    rcases List.mem_cons.1 h with rfl | h
    · omega
    · have := wtL_mem f t x h; omega
theorem wtL_app {α : Type} (f : α → Nat) : ∀ (l l2 : List α), wtL f (l ++ l2) = wtL f l + wtL f l2
  | [], l2 => by simp [wtL]
  | x :: t, l2 => by simp only [List.cons_append, wtL]; rw [wtL_app f t l2]; omega
def wtHold (a : Hold) : Nat := a.Id.size
theorem wtHold_eq (a : Hold) : wtHold a = a.Id.size := rfl
theorem szHold_val (a : Hold) (left : Int) (hw : W226 a) (h0 : 0 ≤ left) (h1 : left ≤ 1048576) : ∃ r, laws_szHold a left = some r ∧ (0 ≤ r → r = left - (wtHold a : Nat)) := by
  unfold W226 at hw
  obtain ⟨w0, w1, w2⟩ := hw
  rw [wtHold_eq]
  unfold laws_szHold
  have b1 := w0
  unfold Ws at b1
  rw [sub_val (show 0 ≤ left by omega) (by omega) b1]
  by_cases c1 : (left - (a.Id.size : Int)) < 0
  · exact ⟨-1, by simp only [c1, decide_true, decide_false, Bool.false_eq_true, if_true, if_false, Option.bind_some], fun h => by omega⟩
  · simp only [c1, decide_true, decide_false, Bool.false_eq_true, if_true, if_false, Option.bind_some]
    exact ⟨_, rfl, fun _ => by omega⟩
theorem toHold_val (a : Hold) (h : wtHold a ≤ 4000000) : laws_toHold a = some a := by
  rw [wtHold_eq] at h
  unfold laws_toHold
  rfl
theorem eqHold_rfl (a : Hold) (h : wtHold a ≤ 4000000) : laws_eqHold a a = some true := by
  rw [wtHold_eq] at h
  unfold laws_eqHold
  simp only [beq_rfl, bne_rfl, Bool.false_eq_true, if_false, if_true, Option.bind_some]
theorem szHoldS_l0_val (a : List Hold) : ∀ (t : List Hold) (v : Int), 0 ≤ v → v ≤ 1048576 → (∀ x ∈ t, W226 x) → ∃ r, laws_szHoldS_l0 a t v = some r ∧ ∀ s, r = .out s → 0 ≤ s ∧ s = v - (wtS wtHold t : Nat)
  | [], v, h0, h1, _ => ⟨.out v, rfl, fun s e => by cases e; exact ⟨h0, by simp [wtS]⟩⟩
  | x :: t, v, h0, h1, hw => by
    obtain ⟨r, e1, e3⟩ := szHold_val x v (hw x (by simp)) h0 h1
    unfold laws_szHoldS_l0
    rw [e1, Option.bind_some]
    by_cases h : r < 0
    · exact ⟨.ret (), by simp [h], fun s e => by cases e⟩
    · have e3 := e3 (by omega)
      obtain ⟨z, f1, f2⟩ := szHoldS_l0_val a t r (by omega) (by omega) (fun y hy => hw y (by simp [hy]))
      refine ⟨z, by simp [h, f1], fun s e => ?_⟩
      obtain ⟨g1, g2⟩ := f2 s e
      exact ⟨g1, by rw [g2]; simp only [wtS]; omega⟩
theorem szHoldS_val (a : List Hold) (left : Int) (hw : W207 a) (h0 : 0 ≤ left) (h1 : left ≤ 1048576) : ∃ r, laws_szHoldS a left = some r ∧ (0 ≤ r → r = left - (wtL wtHold a : Nat)) := by
  unfold W207 Wl at hw
  have hl : a.length ≤ 140737488351232 := by have := hw.1; omega
  unfold laws_szHoldS
  rw [sub_val h0 h1 hl]
  by_cases h : left - (a.length : Int) < 0
  · exact ⟨-1, by simp [h], fun h => by omega⟩
  · obtain ⟨z, f1, f2⟩ := szHoldS_l0_val a a (left - a.length) (by omega) (by omega) hw.2
    simp only [h, decide_false, Bool.false_eq_true, if_false, capOk_of (show a.length ≤ 274877906944 by omega), if_true, f1, Option.bind_some]
    cases z with
    | ret u => exact ⟨-1, rfl, fun h => by omega⟩
    | out s =>
      obtain ⟨g1, g2⟩ := f2 s rfl
      exact ⟨s, rfl, fun _ => by rw [g2, wtL_eq]; omega⟩
theorem toHoldS_l0_val (a : List Hold) : ∀ (t p v : List Hold), a = p ++ t → (∀ s ∈ t, wtHold s ≤ 4000000) → v.length = a.length → v.take p.length = p → laws_toHoldS_l0 a t p v = some a
  | [], p, v, e, hs, hl, hv => by
    have : v = p := by rw [← hv, List.take_of_length_le (by rw [hl, e]; simp)]
    simp [laws_toHoldS_l0, this, e]
  | x :: t, p, v, e, hs, hl, hv => by
    have hlt : p.length < v.length := by rw [hl, e]; simp
    obtain ⟨y, hy⟩ := idx_some (v := v) hlt
    unfold laws_toHoldS_l0
    rw [toHold_val x (hs x (by simp)), Option.bind_some, hy, Option.bind_some, Int.toNat_natCast]
    exact toHoldS_l0_val a t (p ++ [x]) _ (by rw [e]; simp) (fun s hs' => hs s (by simp [hs'])) (by simp [hl]) (set_take hv hlt)
theorem toHoldS_val (a : List Hold) (h : wtL wtHold a ≤ 4000000) : laws_toHoldS a = some a := by
  have hl : a.length ≤ 4000000 := (by have := wtL_len wtHold a; omega)
  unfold laws_toHoldS
  simp only [Int.natCast_nonneg, decide_true, if_true, Int.toNat_natCast, capOk_of (show a.length ≤ 274877906944 by omega)]
  rw [toHoldS_l0_val a a [] _ rfl (fun s hs => by have := wtL_mem wtHold a s hs; omega) (by simp) rfl]
  rfl
theorem eqHoldS_l0_rfl (a : List Hold) : ∀ t p : List Hold, a = p ++ t → (∀ s ∈ t, wtHold s ≤ 4000000) → laws_eqHoldS_l0 a a t p = some (.out ())
  | [], p, e, _ => rfl
  | x :: t, p, e, hs => by
    unfold laws_eqHoldS_l0
    rw [mid_get e, Option.bind_some, eqHold_rfl x (hs x (by simp)), Option.bind_some]
    simpa using eqHoldS_l0_rfl a t (p ++ [x]) (by rw [e]; simp) (fun s hs' => hs s (by simp [hs']))
theorem eqHoldS_rfl (a : List Hold) (h : wtL wtHold a ≤ 4000000) : laws_eqHoldS a a = some true := by
  have hl : a.length ≤ 4000000 := (by have := wtL_len wtHold a; omega)
  unfold laws_eqHoldS
  rw [eqHoldS_l0_rfl a a [] rfl (fun s hs => by have := wtL_mem wtHold a s hs; omega), capOk_of (show a.length ≤ 274877906944 by omega)]
  simp only [bne_rfl, Bool.false_eq_true, if_false, if_true]
  rfl
theorem markHoldS_l0_val : ∀ (n : Nat) (k : Int) (i : Nat) (v : List Hold), i ≤ v.length → v.length ≤ 4000000 → wtL wtHold (v.drop i) ≤ 4000000 → 0 ≤ k → k + 16 * (wtL wtHold (v.drop i) : Nat) ≤ 1000000000000 → v.length - i < n →
    ∃ (k' : Int) (v' : List Hold), laws_markHoldS_l0 n k (i : Int) v = some (k', v') ∧ k ≤ k' ∧ k' ≤ k + 16 * (wtL wtHold (v.drop i) : Nat) ∧ v'.length = v.length ∧ v'.take i = v.take i ∧ ∀ b, laws_heldHoldS_l0 b (v'.drop i) k = some (.out k')
  | 0, k, i, v, hi, hl, hw, h0, hk, hn => by omega
  | n + 1, k, i, v, hi, hl, hw, h0, hk, hn => by
    unfold laws_markHoldS_l0
    by_cases h : i < v.length
    · have hc : (i : Int) < (v.length : Int) := by omega
      have hi1 : i64 ((i : Int) + 1) = ((i + 1 : Nat) : Int) := by rw [i64_of (by omega) (by omega)]; omega
      have hg : v[i]? = some v[i] := List.getElem?_eq_getElem h
      have hd : wtL wtHold (v.drop i) = 1 + wtHold v[i] + wtL wtHold (v.drop (i + 1)) := by rw [List.drop_eq_getElem_cons h]; rfl
      have hx := wtHold_eq v[i]
      obtain ⟨t0, ht0⟩ := markText_tot (k) (by omega)
      have i0 : i64 (k + 1) = k + 1 := i64_of (by omega) (by omega)
      have i1 : i64 (k + 1 + 1) = k + 1 + 1 := i64_of (by omega) (by omega)
      have i2 : i64 (k + 1 + 1 + 1) = k + 1 + 1 + 1 := i64_of (by omega) (by omega)
      have hsl : (v.set i (Hold.mk t0 (k + 1) (k + 1 + 1))).length = v.length := List.length_set
      have hsd : (v.set i (Hold.mk t0 (k + 1) (k + 1 + 1))).drop (i + 1) = v.drop (i + 1) := List.drop_set_of_lt (by omega)
      obtain ⟨k', v', e1, e1', e1'', e2, e3, e4⟩ := markHoldS_l0_val n (k + 1 + 1 + 1) (i + 1) (v.set i (Hold.mk t0 (k + 1) (k + 1 + 1))) (by rw [hsl]; omega) (by rw [hsl]; omega) (by rw [hsd]; omega) (by omega) (by rw [hsd]; omega) (by rw [hsl]; omega)
      rw [hsl] at e2
      rw [hsd] at e1''
      obtain ⟨p1, p2⟩ := after_set e3 e2 h
      refine ⟨k', v', ?_, by omega, by omega, e2, p2, fun b => ?_⟩
      · simp only [hc, decide_true, if_true, Int.natCast_nonneg, Int.toNat_natCast, hg, Option.bind_some, ht0, i0, i1, i2, hi1, List.getElem?_set_self h, List.set_set, List.length_set]
        exact e1
      · rw [p1]
        unfold laws_heldHoldS_l0
        simp only [ht0, i0, i1, i2, Option.bind_some, beq_rfl, bne_rfl, if_true, decide_false, Bool.false_eq_true, if_false]
        exact e4 b
    · have hc : ¬ (i : Int) < (v.length : Int) := by omega
      refine ⟨k, v, by simp only [hc, decide_false, Bool.false_eq_true, if_false], by omega, by omega, rfl, rfl, fun b => ?_⟩
      rw [List.drop_eq_nil_of_le (by omega)]
      rfl
theorem markHoldS_val (v : List Hold) (k : Int) (h : wtL wtHold v ≤ 4000000) (h0 : 0 ≤ k) (hk : k + 16 * (wtL wtHold v : Nat) ≤ 1000000000000) :
    ∃ (k' : Int) (v' : List Hold), laws_markHoldS v k = some (k', v') ∧ k ≤ k' ∧ k' ≤ k + 16 * (wtL wtHold v : Nat) ∧ v'.length = v.length ∧ laws_heldHoldS v' k = some k' := by
  have hl : v.length ≤ 4000000 := (by have := wtL_len wtHold v; omega)
  obtain ⟨k', v', e1, e1', e1'', e2, e3, e4⟩ := markHoldS_l0_val FUEL k 0 v (by omega) hl (by simpa using h) h0 (by simpa using hk) (by unfold FUEL; omega)
  have e4 := e4 v'
  simp only [List.drop_zero] at e4 e1''
  refine ⟨k', v', ?_, e1', e1'', e2, ?_⟩
  · unfold laws_markHoldS
    have : ((0 : Nat) : Int) = 0 := rfl
    rw [this] at e1
    rw [e1]; rfl
  · unfold laws_heldHoldS
    rw [capOk_of (by omega), e4]; rfl
theorem szIntS_val (a : List Int) (left : Int) (hw : W24 a) (h0 : 0 ≤ left) (h1 : left ≤ 1048576) : ∃ r, laws_szIntS a left = some r ∧ (0 ≤ r → r = left - (a.length : Nat)) := by
  unfold W24 Wl at hw
  have hl : a.length ≤ 140737488351232 := by have := hw.1; omega
  unfold laws_szIntS
  rw [sub_val h0 h1 hl]
  by_cases h : left - (a.length : Int) < 0
  · exact ⟨-1, by simp [h], fun h => by omega⟩
  · exact ⟨left - a.length, by simp [h], fun _ => rfl⟩
theorem toIntS_l0_val (a : List Int) : ∀ (t p v : List Int), a = p ++ t → v.length = a.length → v.take p.length = p → laws_toIntS_l0 a t p v = some a
  | [], p, v, e, hl, hv => by
    have : v = p := by rw [← hv, List.take_of_length_le (by rw [hl, e]; simp)]
    simp [laws_toIntS_l0, this, e]
  | x :: t, p, v, e, hl, hv => by
    have hlt : p.length < v.length := by rw [hl, e]; simp
    obtain ⟨y, hy⟩ := idx_some (v := v) hlt
    unfold laws_toIntS_l0
    rw [hy, Option.bind_some, Int.toNat_natCast]
    exact toIntS_l0_val a t (p ++ [x]) _ (by rw [e]; simp) (by simp [hl]) (set_take hv hlt)
theorem toIntS_val (a : List Int) (h : a.length ≤ 4000000) : laws_toIntS a = some a := by
  have hl : a.length ≤ 4000000 := h
  unfold laws_toIntS
  simp only [Int.natCast_nonneg, decide_true, if_true, Int.toNat_natCast, capOk_of (show a.length ≤ 274877906944 by omega)]
  rw [toIntS_l0_val a a [] _ rfl (by simp) rfl]
  rfl
theorem eqIntS_l0_rfl (a : List Int) : ∀ t p : List Int, a = p ++ t → laws_eqIntS_l0 a a t p = some (.out ())
  | [], p, e => rfl
  | x :: t, p, e => by
    unfold laws_eqIntS_l0
    rw [mid_get e, Option.bind_some]
    simp only [bne_rfl, beq_rfl, Bool.false_eq_true, if_false, if_true]
    exact eqIntS_l0_rfl a t (p ++ [x]) (by rw [e]; simp)
theorem eqIntS_rfl (a : List Int) (h : a.length ≤ 4000000) : laws_eqIntS a a = some true := by
  have hl : a.length ≤ 4000000 := h
  unfold laws_eqIntS
  rw [eqIntS_l0_rfl a a [] rfl, capOk_of (show a.length ≤ 274877906944 by omega)]
  simp only [bne_rfl, Bool.false_eq_true, if_false, if_true]
  rfl
theorem markIntS_l0_val : ∀ (n : Nat) (k : Int) (i : Nat) (v : List Int), i ≤ v.length → v.length ≤ 4000000 → (v.drop i).length ≤ 4000000 → 0 ≤ k → k + 16 * ((v.drop i).length : Nat) ≤ 1000000000000 → v.length - i < n →
    ∃ (k' : Int) (v' : List Int), laws_markIntS_l0 n k (i : Int) v = some (k', v') ∧ k ≤ k' ∧ k' ≤ k + 16 * ((v.drop i).length : Nat) ∧ v'.length = v.length ∧ v'.take i = v.take i ∧ ∀ b, laws_heldIntS_l0 b (v'.drop i) k = some (.out k')
  | 0, k, i, v, hi, hl, hw, h0, hk, hn => by omega
  | n + 1, k, i, v, hi, hl, hw, h0, hk, hn => by
    unfold laws_markIntS_l0
    by_cases h : i < v.length
    · have hc : (i : Int) < (v.length : Int) := by omega
      have hi1 : i64 ((i : Int) + 1) = ((i + 1 : Nat) : Int) := by rw [i64_of (by omega) (by omega)]; omega
      have hg : v[i]? = some v[i] := List.getElem?_eq_getElem h
      have hd : (v.drop i).length = 1 + (v.drop (i + 1)).length := by rw [List.length_drop, List.length_drop]; omega
      have i0 : i64 (k + 1) = k + 1 := i64_of (by omega) (by omega)
      have hsl : (v.set i (k)).length = v.length := List.length_set
      have hsd : (v.set i (k)).drop (i + 1) = v.drop (i + 1) := List.drop_set_of_lt (by omega)
      obtain ⟨k', v', e1, e1', e1'', e2, e3, e4⟩ := markIntS_l0_val n (k + 1) (i + 1) (v.set i (k)) (by rw [hsl]; omega) (by rw [hsl]; omega) (by rw [hsd]; omega) (by omega) (by rw [hsd]; omega) (by rw [hsl]; omega)
      rw [hsl] at e2
      rw [hsd] at e1''
      obtain ⟨p1, p2⟩ := after_set e3 e2 h
      refine ⟨k', v', ?_, by omega, by omega, e2, p2, fun b => ?_⟩
      · simp only [hc, decide_true, if_true, Int.natCast_nonneg, Int.toNat_natCast, hg, Option.bind_some, i0, hi1, List.getElem?_set_self h, List.set_set, List.length_set]
        exact e1
      · rw [p1]
        unfold laws_heldIntS_l0
        simp only [i0, Option.bind_some, beq_rfl, bne_rfl, if_true, decide_false, Bool.false_eq_true, if_false]
        exact e4 b
    · have hc : ¬ (i : Int) < (v.length : Int) := by omega
      refine ⟨k, v, by simp only [hc, decide_false, Bool.false_eq_true, if_false], by omega, by omega, rfl, rfl, fun b => ?_⟩
      rw [List.drop_eq_nil_of_le (by omega)]
      rfl
theorem markIntS_val (v : List Int) (k : Int) (h : v.length ≤ 4000000) (h0 : 0 ≤ k) (hk : k + 16 * (v.length : Nat) ≤ 1000000000000) :
    ∃ (k' : Int) (v' : List Int), laws_markIntS v k = some (k', v') ∧ k ≤ k' ∧ k' ≤ k + 16 * (v.length : Nat) ∧ v'.length = v.length ∧ laws_heldIntS v' k = some k' := by
  have hl : v.length ≤ 4000000 := h
  obtain ⟨k', v', e1, e1', e1'', e2, e3, e4⟩ := markIntS_l0_val FUEL k 0 v (by omega) hl (by simpa using h) h0 (by simpa using hk) (by unfold FUEL; omega)
  have e4 := e4 v'
  simp only [List.drop_zero] at e4 e1''
  refine ⟨k', v', ?_, e1', e1'', e2, ?_⟩
  · unfold laws_markIntS
    have : ((0 : Nat) : Int) = 0 := rfl
    rw [this] at e1
    rw [e1]; rfl
  · unfold laws_heldIntS
    rw [capOk_of (by omega), e4]; rfl
def wtRing (a : Ring) : Nat := a.Counts.length + a.Sums.length
theorem wtRing_eq (a : Ring) : wtRing a = a.Counts.length + a.Sums.length := rfl
theorem szRing_val (a : Ring) (left : Int) (hw : W208 a) (h0 : 0 ≤ left) (h1 : left ≤ 1048576) : ∃ r, laws_szRing a left = some r ∧ (0 ≤ r → r = left - (wtRing a : Nat)) := by
  unfold W208 at hw
  obtain ⟨w0, w1, w2, w3⟩ := hw
  rw [wtRing_eq]
  unfold laws_szRing
  obtain ⟨r1, e1, g1⟩ := szIntS_val a.Counts left w2 (by omega) (by omega)
  simp only [e1, decide_true, decide_false, Bool.false_eq_true, if_true, if_false, Option.bind_some]
  by_cases c1 : r1 < 0
  · exact ⟨-1, by simp only [c1, decide_true, decide_false, Bool.false_eq_true, if_true, if_false, Option.bind_some], fun h => by omega⟩
  · have g1 := g1 (by omega)
    simp only [c1, decide_true, decide_false, Bool.false_eq_true, if_true, if_false, Option.bind_some]
    obtain ⟨r2, e2, g2⟩ := szIntS_val a.Sums r1 w3 (by omega) (by omega)
    simp only [e2, decide_true, decide_false, Bool.false_eq_true, if_true, if_false, Option.bind_some]
    by_cases c2 : r2 < 0
    · exact ⟨-1, by simp only [c2, decide_true, decide_false, Bool.false_eq_true, if_true, if_false, Option.bind_some], fun h => by omega⟩
    · have g2 := g2 (by omega)
      simp only [c2, decide_true, decide_false, Bool.false_eq_true, if_true, if_false, Option.bind_some]
      exact ⟨_, rfl, fun _ => by omega⟩
theorem toRing_val (a : Ring) (h : wtRing a ≤ 4000000) : laws_toRing a = some a := by
  rw [wtRing_eq] at h
  unfold laws_toRing
  simp only [toIntS_val a.Counts (by omega), toIntS_val a.Sums (by omega), Option.bind_some]
theorem eqRing_rfl (a : Ring) (h : wtRing a ≤ 4000000) : laws_eqRing a a = some true := by
  rw [wtRing_eq] at h
  unfold laws_eqRing
  simp only [eqIntS_rfl a.Counts (by omega), eqIntS_rfl a.Sums (by omega), beq_rfl, bne_rfl, Bool.false_eq_true, if_false, if_true, Option.bind_some]
theorem szByteS_val (a : List Int) (left : Int) (hw : W22 a) (h0 : 0 ≤ left) (h1 : left ≤ 1048576) : ∃ r, laws_szByteS a left = some r ∧ (0 ≤ r → r = left - (a.length : Nat)) := by
  unfold W22 Wl at hw
  have hl : a.length ≤ 140737488351232 := by have := hw.1; omega
  unfold laws_szByteS
  rw [sub_val h0 h1 hl]
  by_cases h : left - (a.length : Int) < 0
  · exact ⟨-1, by simp [h], fun h => by omega⟩
  · exact ⟨left - a.length, by simp [h], fun _ => rfl⟩
theorem toByteS_l0_val (a : List Int) : ∀ (t p v : List Int), a = p ++ t → v.length = a.length → v.take p.length = p → laws_toByteS_l0 a t p v = some a
  | [], p, v, e, hl, hv => by
    have : v = p := by rw [← hv, List.take_of_length_le (by rw [hl, e]; simp)]
    simp [laws_toByteS_l0, this, e]
  | x :: t, p, v, e, hl, hv => by
    have hlt : p.length < v.length := by rw [hl, e]; simp
    obtain ⟨y, hy⟩ := idx_some (v := v) hlt
    unfold laws_toByteS_l0
    rw [hy, Option.bind_some, Int.toNat_natCast]
    exact toByteS_l0_val a t (p ++ [x]) _ (by rw [e]; simp) (by simp [hl]) (set_take hv hlt)
theorem toByteS_val (a : List Int) (h : a.length ≤ 4000000) : laws_toByteS a = some a := by
  have hl : a.length ≤ 4000000 := h
  unfold laws_toByteS
  simp only [Int.natCast_nonneg, decide_true, if_true, Int.toNat_natCast, capOk_of (show a.length ≤ 274877906944 by omega)]
  rw [toByteS_l0_val a a [] _ rfl (by simp) rfl]
  rfl
theorem eqByteS_l0_rfl (a : List Int) : ∀ t p : List Int, a = p ++ t → laws_eqByteS_l0 a a t p = some (.out ())
  | [], p, e => rfl
  | x :: t, p, e => by
    unfold laws_eqByteS_l0
    rw [mid_get e, Option.bind_some]
    simp only [bne_rfl, beq_rfl, Bool.false_eq_true, if_false, if_true]
    exact eqByteS_l0_rfl a t (p ++ [x]) (by rw [e]; simp)
theorem eqByteS_rfl (a : List Int) (h : a.length ≤ 4000000) : laws_eqByteS a a = some true := by
  have hl : a.length ≤ 4000000 := h
  unfold laws_eqByteS
  rw [eqByteS_l0_rfl a a [] rfl, capOk_of (show a.length ≤ 274877906944 by omega)]
  simp only [bne_rfl, Bool.false_eq_true, if_false, if_true]
  rfl
theorem markByteS_l0_val : ∀ (n : Nat) (k : Int) (i : Nat) (v : List Int), i ≤ v.length → v.length ≤ 4000000 → (v.drop i).length ≤ 4000000 → 0 ≤ k → k + 16 * ((v.drop i).length : Nat) ≤ 1000000000000 → v.length - i < n →
    ∃ (k' : Int) (v' : List Int), laws_markByteS_l0 n k (i : Int) v = some (k', v') ∧ k ≤ k' ∧ k' ≤ k + 16 * ((v.drop i).length : Nat) ∧ v'.length = v.length ∧ v'.take i = v.take i ∧ ∀ b, laws_heldByteS_l0 b (v'.drop i) k = some (.out k')
  | 0, k, i, v, hi, hl, hw, h0, hk, hn => by omega
  | n + 1, k, i, v, hi, hl, hw, h0, hk, hn => by
    unfold laws_markByteS_l0
    by_cases h : i < v.length
    · have hc : (i : Int) < (v.length : Int) := by omega
      have hi1 : i64 ((i : Int) + 1) = ((i + 1 : Nat) : Int) := by rw [i64_of (by omega) (by omega)]; omega
      have hg : v[i]? = some v[i] := List.getElem?_eq_getElem h
      have hd : (v.drop i).length = 1 + (v.drop (i + 1)).length := by rw [List.length_drop, List.length_drop]; omega
      have i0 : i64 (k + 1) = k + 1 := i64_of (by omega) (by omega)
      have hsl : (v.set i (u8 (k))).length = v.length := List.length_set
      have hsd : (v.set i (u8 (k))).drop (i + 1) = v.drop (i + 1) := List.drop_set_of_lt (by omega)
      obtain ⟨k', v', e1, e1', e1'', e2, e3, e4⟩ := markByteS_l0_val n (k + 1) (i + 1) (v.set i (u8 (k))) (by rw [hsl]; omega) (by rw [hsl]; omega) (by rw [hsd]; omega) (by omega) (by rw [hsd]; omega) (by rw [hsl]; omega)
      rw [hsl] at e2
      rw [hsd] at e1''
      obtain ⟨p1, p2⟩ := after_set e3 e2 h
      refine ⟨k', v', ?_, by omega, by omega, e2, p2, fun b => ?_⟩
      · simp only [hc, decide_true, if_true, Int.natCast_nonneg, Int.toNat_natCast, hg, Option.bind_some, i0, hi1, List.getElem?_set_self h, List.set_set, List.length_set]
        exact e1
      · rw [p1]
        unfold laws_heldByteS_l0
        simp only [i0, Option.bind_some, beq_rfl, bne_rfl, if_true, decide_false, Bool.false_eq_true, if_false]
        exact e4 b
    · have hc : ¬ (i : Int) < (v.length : Int) := by omega
      refine ⟨k, v, by simp only [hc, decide_false, Bool.false_eq_true, if_false], by omega, by omega, rfl, rfl, fun b => ?_⟩
      rw [List.drop_eq_nil_of_le (by omega)]
      rfl
theorem markByteS_val (v : List Int) (k : Int) (h : v.length ≤ 4000000) (h0 : 0 ≤ k) (hk : k + 16 * (v.length : Nat) ≤ 1000000000000) :
    ∃ (k' : Int) (v' : List Int), laws_markByteS v k = some (k', v') ∧ k ≤ k' ∧ k' ≤ k + 16 * (v.length : Nat) ∧ v'.length = v.length ∧ laws_heldByteS v' k = some k' := by
  have hl : v.length ≤ 4000000 := h
  obtain ⟨k', v', e1, e1', e1'', e2, e3, e4⟩ := markByteS_l0_val FUEL k 0 v (by omega) hl (by simpa using h) h0 (by simpa using hk) (by unfold FUEL; omega)
  have e4 := e4 v'
  simp only [List.drop_zero] at e4 e1''
  refine ⟨k', v', ?_, e1', e1'', e2, ?_⟩
  · unfold laws_markByteS
    have : ((0 : Nat) : Int) = 0 := rfl
    rw [this] at e1
    rw [e1]; rfl
  · unfold laws_heldByteS
    rw [capOk_of (by omega), e4]; rfl
def wtSlot (a : Slot) : Nat := a.Trace.size + a.Mti.size + a.Reply.length
theorem wtSlot_eq (a : Slot) : wtSlot a = a.Trace.size + a.Mti.size + a.Reply.length := rfl
theorem szSlot_val (a : Slot) (left : Int) (hw : W228 a) (h0 : 0 ≤ left) (h1 : left ≤ 1048576) : ∃ r, laws_szSlot a left = some r ∧ (0 ≤ r → r = left - (wtSlot a : Nat)) := by
  unfold W228 at hw
  obtain ⟨w0, w1, w2⟩ := hw
  rw [wtSlot_eq]
  unfold laws_szSlot
  have b1 := w0
  unfold Ws at b1
  rw [sub_val (show 0 ≤ left by omega) (by omega) b1]
  by_cases c1 : (left - (a.Trace.size : Int)) < 0
  · exact ⟨-1, by simp only [c1, decide_true, decide_false, Bool.false_eq_true, if_true, if_false, Option.bind_some], fun h => by omega⟩
  · simp only [c1, decide_true, decide_false, Bool.false_eq_true, if_true, if_false, Option.bind_some]
    have b2 := w1
    unfold Ws at b2
    rw [sub_val (show 0 ≤ (left - (a.Trace.size : Int)) by omega) (by omega) b2]
    by_cases c2 : (((left - (a.Trace.size : Int))) - (a.Mti.size : Int)) < 0
    · exact ⟨-1, by simp only [c2, decide_true, decide_false, Bool.false_eq_true, if_true, if_false, Option.bind_some], fun h => by omega⟩
    · simp only [c2, decide_true, decide_false, Bool.false_eq_true, if_true, if_false, Option.bind_some]
      obtain ⟨r3, e3, g3⟩ := szByteS_val a.Reply (((left - (a.Trace.size : Int))) - (a.Mti.size : Int)) w2 (by omega) (by omega)
      simp only [e3, decide_true, decide_false, Bool.false_eq_true, if_true, if_false, Option.bind_some]
      by_cases c3 : r3 < 0
      · exact ⟨-1, by simp only [c3, decide_true, decide_false, Bool.false_eq_true, if_true, if_false, Option.bind_some], fun h => by omega⟩
      · have g3 := g3 (by omega)
        simp only [c3, decide_true, decide_false, Bool.false_eq_true, if_true, if_false, Option.bind_some]
        exact ⟨_, rfl, fun _ => by omega⟩
theorem toSlot_val (a : Slot) (h : wtSlot a ≤ 4000000) : laws_toSlot a = some a := by
  rw [wtSlot_eq] at h
  unfold laws_toSlot
  simp only [toByteS_val a.Reply (by omega), Option.bind_some]
theorem eqSlot_rfl (a : Slot) (h : wtSlot a ≤ 4000000) : laws_eqSlot a a = some true := by
  rw [wtSlot_eq] at h
  unfold laws_eqSlot
  simp only [eqByteS_rfl a.Reply (by omega), beq_rfl, bne_rfl, Bool.false_eq_true, if_false, if_true, Option.bind_some]
theorem szSlotS_l0_val (a : List Slot) : ∀ (t : List Slot) (v : Int), 0 ≤ v → v ≤ 1048576 → (∀ x ∈ t, W228 x) → ∃ r, laws_szSlotS_l0 a t v = some r ∧ ∀ s, r = .out s → 0 ≤ s ∧ s = v - (wtS wtSlot t : Nat)
  | [], v, h0, h1, _ => ⟨.out v, rfl, fun s e => by cases e; exact ⟨h0, by simp [wtS]⟩⟩
  | x :: t, v, h0, h1, hw => by
    obtain ⟨r, e1, e3⟩ := szSlot_val x v (hw x (by simp)) h0 h1
    unfold laws_szSlotS_l0
    rw [e1, Option.bind_some]
    by_cases h : r < 0
    · exact ⟨.ret (), by simp [h], fun s e => by cases e⟩
    · have e3 := e3 (by omega)
      obtain ⟨z, f1, f2⟩ := szSlotS_l0_val a t r (by omega) (by omega) (fun y hy => hw y (by simp [hy]))
      refine ⟨z, by simp [h, f1], fun s e => ?_⟩
      obtain ⟨g1, g2⟩ := f2 s e
      exact ⟨g1, by rw [g2]; simp only [wtS]; omega⟩
theorem szSlotS_val (a : List Slot) (left : Int) (hw : W209 a) (h0 : 0 ≤ left) (h1 : left ≤ 1048576) : ∃ r, laws_szSlotS a left = some r ∧ (0 ≤ r → r = left - (wtL wtSlot a : Nat)) := by
  unfold W209 Wl at hw
  have hl : a.length ≤ 140737488351232 := by have := hw.1; omega
  unfold laws_szSlotS
  rw [sub_val h0 h1 hl]
  by_cases h : left - (a.length : Int) < 0
  · exact ⟨-1, by simp [h], fun h => by omega⟩
  · obtain ⟨z, f1, f2⟩ := szSlotS_l0_val a a (left - a.length) (by omega) (by omega) hw.2
    simp only [h, decide_false, Bool.false_eq_true, if_false, capOk_of (show a.length ≤ 274877906944 by omega), if_true, f1, Option.bind_some]
    cases z with
    | ret u => exact ⟨-1, rfl, fun h => by omega⟩
    | out s =>
      obtain ⟨g1, g2⟩ := f2 s rfl
      exact ⟨s, rfl, fun _ => by rw [g2, wtL_eq]; omega⟩
theorem toSlotS_l0_val (a : List Slot) : ∀ (t p v : List Slot), a = p ++ t → (∀ s ∈ t, wtSlot s ≤ 4000000) → v.length = a.length → v.take p.length = p → laws_toSlotS_l0 a t p v = some a
  | [], p, v, e, hs, hl, hv => by
    have : v = p := by rw [← hv, List.take_of_length_le (by rw [hl, e]; simp)]
    simp [laws_toSlotS_l0, this, e]
  | x :: t, p, v, e, hs, hl, hv => by
    have hlt : p.length < v.length := by rw [hl, e]; simp
    obtain ⟨y, hy⟩ := idx_some (v := v) hlt
    unfold laws_toSlotS_l0
    rw [toSlot_val x (hs x (by simp)), Option.bind_some, hy, Option.bind_some, Int.toNat_natCast]
    exact toSlotS_l0_val a t (p ++ [x]) _ (by rw [e]; simp) (fun s hs' => hs s (by simp [hs'])) (by simp [hl]) (set_take hv hlt)
theorem toSlotS_val (a : List Slot) (h : wtL wtSlot a ≤ 4000000) : laws_toSlotS a = some a := by
  have hl : a.length ≤ 4000000 := (by have := wtL_len wtSlot a; omega)
  unfold laws_toSlotS
  simp only [Int.natCast_nonneg, decide_true, if_true, Int.toNat_natCast, capOk_of (show a.length ≤ 274877906944 by omega)]
  rw [toSlotS_l0_val a a [] _ rfl (fun s hs => by have := wtL_mem wtSlot a s hs; omega) (by simp) rfl]
  rfl
theorem eqSlotS_l0_rfl (a : List Slot) : ∀ t p : List Slot, a = p ++ t → (∀ s ∈ t, wtSlot s ≤ 4000000) → laws_eqSlotS_l0 a a t p = some (.out ())
  | [], p, e, _ => rfl
  | x :: t, p, e, hs => by
    unfold laws_eqSlotS_l0
    rw [mid_get e, Option.bind_some, eqSlot_rfl x (hs x (by simp)), Option.bind_some]
    simpa using eqSlotS_l0_rfl a t (p ++ [x]) (by rw [e]; simp) (fun s hs' => hs s (by simp [hs']))
theorem eqSlotS_rfl (a : List Slot) (h : wtL wtSlot a ≤ 4000000) : laws_eqSlotS a a = some true := by
  have hl : a.length ≤ 4000000 := (by have := wtL_len wtSlot a; omega)
  unfold laws_eqSlotS
  rw [eqSlotS_l0_rfl a a [] rfl (fun s hs => by have := wtL_mem wtSlot a s hs; omega), capOk_of (show a.length ≤ 274877906944 by omega)]
  simp only [bne_rfl, Bool.false_eq_true, if_false, if_true]
  rfl
theorem markSlotS_l0_val : ∀ (n : Nat) (k : Int) (i : Nat) (v : List Slot), i ≤ v.length → v.length ≤ 4000000 → wtL wtSlot (v.drop i) ≤ 4000000 → 0 ≤ k → k + 16 * (wtL wtSlot (v.drop i) : Nat) ≤ 1000000000000 → v.length - i < n →
    ∃ (k' : Int) (v' : List Slot), laws_markSlotS_l0 n k (i : Int) v = some (k', v') ∧ k ≤ k' ∧ k' ≤ k + 16 * (wtL wtSlot (v.drop i) : Nat) ∧ v'.length = v.length ∧ v'.take i = v.take i ∧ ∀ b, laws_heldSlotS_l0 b (v'.drop i) k = some (.out k')
  | 0, k, i, v, hi, hl, hw, h0, hk, hn => by omega
  | n + 1, k, i, v, hi, hl, hw, h0, hk, hn => by
    unfold laws_markSlotS_l0
    by_cases h : i < v.length
    · have hc : (i : Int) < (v.length : Int) := by omega
      have hi1 : i64 ((i : Int) + 1) = ((i + 1 : Nat) : Int) := by rw [i64_of (by omega) (by omega)]; omega
      have hg : v[i]? = some v[i] := List.getElem?_eq_getElem h
      have hd : wtL wtSlot (v.drop i) = 1 + wtSlot v[i] + wtL wtSlot (v.drop (i + 1)) := by rw [List.drop_eq_getElem_cons h]; rfl
      have hx := wtSlot_eq v[i]
      obtain ⟨t0, ht0⟩ := markText_tot (k) (by omega)
      have i0 : i64 (k + 1) = k + 1 := i64_of (by omega) (by omega)
      obtain ⟨t1, ht1⟩ := markText_tot (k + 1) (by omega)
      have i1 : i64 (k + 1 + 1) = k + 1 + 1 := i64_of (by omega) (by omega)
      obtain ⟨k2, y2, m2, g2, b2, q2, d2⟩ := markByteS_val v[i].Reply (k + 1 + 1) (by omega) (by omega) (by omega)
      have hsl : (v.set i (Slot.mk t0 t1 y2)).length = v.length := List.length_set
      have hsd : (v.set i (Slot.mk t0 t1 y2)).drop (i + 1) = v.drop (i + 1) := List.drop_set_of_lt (by omega)
      obtain ⟨k', v', e1, e1', e1'', e2, e3, e4⟩ := markSlotS_l0_val n (k2) (i + 1) (v.set i (Slot.mk t0 t1 y2)) (by rw [hsl]; omega) (by rw [hsl]; omega) (by rw [hsd]; omega) (by omega) (by rw [hsd]; omega) (by rw [hsl]; omega)
      rw [hsl] at e2
      rw [hsd] at e1''
      obtain ⟨p1, p2⟩ := after_set e3 e2 h
      refine ⟨k', v', ?_, by omega, by omega, e2, p2, fun b => ?_⟩
      · simp only [hc, decide_true, if_true, Int.natCast_nonneg, Int.toNat_natCast, hg, Option.bind_some, ht0, i0, ht1, i1, m2, hi1, List.getElem?_set_self h, List.set_set, List.length_set]
        exact e1
      · rw [p1]
        unfold laws_heldSlotS_l0
        simp only [ht0, i0, ht1, i1, d2, show ¬ k2 < 0 by omega, Option.bind_some, beq_rfl, bne_rfl, if_true, decide_false, Bool.false_eq_true, if_false]
        exact e4 b
    · have hc : ¬ (i : Int) < (v.length : Int) := by omega
      refine ⟨k, v, by simp only [hc, decide_false, Bool.false_eq_true, if_false], by omega, by omega, rfl, rfl, fun b => ?_⟩
      rw [List.drop_eq_nil_of_le (by omega)]
      rfl
theorem markSlotS_val (v : List Slot) (k : Int) (h : wtL wtSlot v ≤ 4000000) (h0 : 0 ≤ k) (hk : k + 16 * (wtL wtSlot v : Nat) ≤ 1000000000000) :
    ∃ (k' : Int) (v' : List Slot), laws_markSlotS v k = some (k', v') ∧ k ≤ k' ∧ k' ≤ k + 16 * (wtL wtSlot v : Nat) ∧ v'.length = v.length ∧ laws_heldSlotS v' k = some k' := by
  have hl : v.length ≤ 4000000 := (by have := wtL_len wtSlot v; omega)
  obtain ⟨k', v', e1, e1', e1'', e2, e3, e4⟩ := markSlotS_l0_val FUEL k 0 v (by omega) hl (by simpa using h) h0 (by simpa using hk) (by unfold FUEL; omega)
  have e4 := e4 v'
  simp only [List.drop_zero] at e4 e1''
  refine ⟨k', v', ?_, e1', e1'', e2, ?_⟩
  · unfold laws_markSlotS
    have : ((0 : Nat) : Int) = 0 := rfl
    rw [this] at e1
    rw [e1]; rfl
  · unfold laws_heldSlotS
    rw [capOk_of (by omega), e4]; rfl
def wtAcct (a : Acct) : Nat := a.Id.size + wtL wtHold a.Holds + wtRing a.Ring + wtL wtSlot a.Slots
theorem wtAcct_eq (a : Acct) : wtAcct a = a.Id.size + wtL wtHold a.Holds + wtRing a.Ring + wtL wtSlot a.Slots := rfl
theorem szAcct_val (a : Acct) (left : Int) (hw : W211 a) (h0 : 0 ≤ left) (h1 : left ≤ 1048576) : ∃ r, laws_szAcct a left = some r ∧ (0 ≤ r → r = left - (wtAcct a : Nat)) := by
  unfold W211 at hw
  obtain ⟨w0, w1, w2, w3, w4, w5, w6, w7⟩ := hw
  rw [wtAcct_eq]
  unfold laws_szAcct
  have b1 := w0
  unfold Ws at b1
  rw [sub_val (show 0 ≤ left by omega) (by omega) b1]
  by_cases c1 : (left - (a.Id.size : Int)) < 0
  · exact ⟨-1, by simp only [c1, decide_true, decide_false, Bool.false_eq_true, if_true, if_false, Option.bind_some], fun h => by omega⟩
  · simp only [c1, decide_true, decide_false, Bool.false_eq_true, if_true, if_false, Option.bind_some]
    obtain ⟨r2, e2, g2⟩ := szHoldS_val a.Holds (left - (a.Id.size : Int)) w5 (by omega) (by omega)
    simp only [e2, decide_true, decide_false, Bool.false_eq_true, if_true, if_false, Option.bind_some]
    by_cases c2 : r2 < 0
    · exact ⟨-1, by simp only [c2, decide_true, decide_false, Bool.false_eq_true, if_true, if_false, Option.bind_some], fun h => by omega⟩
    · have g2 := g2 (by omega)
      simp only [c2, decide_true, decide_false, Bool.false_eq_true, if_true, if_false, Option.bind_some]
      obtain ⟨r3, e3, g3⟩ := szRing_val a.Ring r2 w6 (by omega) (by omega)
      simp only [e3, decide_true, decide_false, Bool.false_eq_true, if_true, if_false, Option.bind_some]
      by_cases c3 : r3 < 0
      · exact ⟨-1, by simp only [c3, decide_true, decide_false, Bool.false_eq_true, if_true, if_false, Option.bind_some], fun h => by omega⟩
      · have g3 := g3 (by omega)
        simp only [c3, decide_true, decide_false, Bool.false_eq_true, if_true, if_false, Option.bind_some]
        obtain ⟨r4, e4, g4⟩ := szSlotS_val a.Slots r3 w7 (by omega) (by omega)
        simp only [e4, decide_true, decide_false, Bool.false_eq_true, if_true, if_false, Option.bind_some]
        by_cases c4 : r4 < 0
        · exact ⟨-1, by simp only [c4, decide_true, decide_false, Bool.false_eq_true, if_true, if_false, Option.bind_some], fun h => by omega⟩
        · have g4 := g4 (by omega)
          simp only [c4, decide_true, decide_false, Bool.false_eq_true, if_true, if_false, Option.bind_some]
          exact ⟨_, rfl, fun _ => by omega⟩
theorem toAcct_val (a : Acct) (h : wtAcct a ≤ 4000000) : laws_toAcct a = some a := by
  rw [wtAcct_eq] at h
  unfold laws_toAcct
  simp only [toHoldS_val a.Holds (by omega), toRing_val a.Ring (by omega), toSlotS_val a.Slots (by omega), Option.bind_some]
theorem eqAcct_rfl (a : Acct) (h : wtAcct a ≤ 4000000) : laws_eqAcct a a = some true := by
  rw [wtAcct_eq] at h
  unfold laws_eqAcct
  simp only [eqHoldS_rfl a.Holds (by omega), eqRing_rfl a.Ring (by omega), eqSlotS_rfl a.Slots (by omega), beq_rfl, bne_rfl, Bool.false_eq_true, if_false, if_true, Option.bind_some]
theorem szAcctS_l0_val (a : List Acct) : ∀ (t : List Acct) (v : Int), 0 ≤ v → v ≤ 1048576 → (∀ x ∈ t, W211 x) → ∃ r, laws_szAcctS_l0 a t v = some r ∧ ∀ s, r = .out s → 0 ≤ s ∧ s = v - (wtS wtAcct t : Nat)
  | [], v, h0, h1, _ => ⟨.out v, rfl, fun s e => by cases e; exact ⟨h0, by simp [wtS]⟩⟩
  | x :: t, v, h0, h1, hw => by
    obtain ⟨r, e1, e3⟩ := szAcct_val x v (hw x (by simp)) h0 h1
    unfold laws_szAcctS_l0
    rw [e1, Option.bind_some]
    by_cases h : r < 0
    · exact ⟨.ret (), by simp [h], fun s e => by cases e⟩
    · have e3 := e3 (by omega)
      obtain ⟨z, f1, f2⟩ := szAcctS_l0_val a t r (by omega) (by omega) (fun y hy => hw y (by simp [hy]))
      refine ⟨z, by simp [h, f1], fun s e => ?_⟩
      obtain ⟨g1, g2⟩ := f2 s e
      exact ⟨g1, by rw [g2]; simp only [wtS]; omega⟩
theorem szAcctS_val (a : List Acct) (left : Int) (hw : W126 a) (h0 : 0 ≤ left) (h1 : left ≤ 1048576) : ∃ r, laws_szAcctS a left = some r ∧ (0 ≤ r → r = left - (wtL wtAcct a : Nat)) := by
  unfold W126 Wl at hw
  have hl : a.length ≤ 140737488351232 := by have := hw.1; omega
  unfold laws_szAcctS
  rw [sub_val h0 h1 hl]
  by_cases h : left - (a.length : Int) < 0
  · exact ⟨-1, by simp [h], fun h => by omega⟩
  · obtain ⟨z, f1, f2⟩ := szAcctS_l0_val a a (left - a.length) (by omega) (by omega) hw.2
    simp only [h, decide_false, Bool.false_eq_true, if_false, capOk_of (show a.length ≤ 274877906944 by omega), if_true, f1, Option.bind_some]
    cases z with
    | ret u => exact ⟨-1, rfl, fun h => by omega⟩
    | out s =>
      obtain ⟨g1, g2⟩ := f2 s rfl
      exact ⟨s, rfl, fun _ => by rw [g2, wtL_eq]; omega⟩
theorem toAcctS_l0_val (a : List Acct) : ∀ (t p v : List Acct), a = p ++ t → (∀ s ∈ t, wtAcct s ≤ 4000000) → v.length = a.length → v.take p.length = p → laws_toAcctS_l0 a t p v = some a
  | [], p, v, e, hs, hl, hv => by
    have : v = p := by rw [← hv, List.take_of_length_le (by rw [hl, e]; simp)]
    simp [laws_toAcctS_l0, this, e]
  | x :: t, p, v, e, hs, hl, hv => by
    have hlt : p.length < v.length := by rw [hl, e]; simp
    obtain ⟨y, hy⟩ := idx_some (v := v) hlt
    unfold laws_toAcctS_l0
    rw [toAcct_val x (hs x (by simp)), Option.bind_some, hy, Option.bind_some, Int.toNat_natCast]
    exact toAcctS_l0_val a t (p ++ [x]) _ (by rw [e]; simp) (fun s hs' => hs s (by simp [hs'])) (by simp [hl]) (set_take hv hlt)
theorem toAcctS_val (a : List Acct) (h : wtL wtAcct a ≤ 4000000) : laws_toAcctS a = some a := by
  have hl : a.length ≤ 4000000 := (by have := wtL_len wtAcct a; omega)
  unfold laws_toAcctS
  simp only [Int.natCast_nonneg, decide_true, if_true, Int.toNat_natCast, capOk_of (show a.length ≤ 274877906944 by omega)]
  rw [toAcctS_l0_val a a [] _ rfl (fun s hs => by have := wtL_mem wtAcct a s hs; omega) (by simp) rfl]
  rfl
theorem eqAcctS_l0_rfl (a : List Acct) : ∀ t p : List Acct, a = p ++ t → (∀ s ∈ t, wtAcct s ≤ 4000000) → laws_eqAcctS_l0 a a t p = some (.out ())
  | [], p, e, _ => rfl
  | x :: t, p, e, hs => by
    unfold laws_eqAcctS_l0
    rw [mid_get e, Option.bind_some, eqAcct_rfl x (hs x (by simp)), Option.bind_some]
    simpa using eqAcctS_l0_rfl a t (p ++ [x]) (by rw [e]; simp) (fun s hs' => hs s (by simp [hs']))
theorem eqAcctS_rfl (a : List Acct) (h : wtL wtAcct a ≤ 4000000) : laws_eqAcctS a a = some true := by
  have hl : a.length ≤ 4000000 := (by have := wtL_len wtAcct a; omega)
  unfold laws_eqAcctS
  rw [eqAcctS_l0_rfl a a [] rfl (fun s hs => by have := wtL_mem wtAcct a s hs; omega), capOk_of (show a.length ≤ 274877906944 by omega)]
  simp only [bne_rfl, Bool.false_eq_true, if_false, if_true]
  rfl
theorem markAcctS_l0_val : ∀ (n : Nat) (k : Int) (i : Nat) (v : List Acct), i ≤ v.length → v.length ≤ 4000000 → wtL wtAcct (v.drop i) ≤ 4000000 → 0 ≤ k → k + 16 * (wtL wtAcct (v.drop i) : Nat) ≤ 1000000000000 → v.length - i < n →
    ∃ (k' : Int) (v' : List Acct), laws_markAcctS_l0 n k (i : Int) v = some (k', v') ∧ k ≤ k' ∧ k' ≤ k + 16 * (wtL wtAcct (v.drop i) : Nat) ∧ v'.length = v.length ∧ v'.take i = v.take i ∧ ∀ b, laws_heldAcctS_l0 b (v'.drop i) k = some (.out k')
  | 0, k, i, v, hi, hl, hw, h0, hk, hn => by omega
  | n + 1, k, i, v, hi, hl, hw, h0, hk, hn => by
    unfold laws_markAcctS_l0
    by_cases h : i < v.length
    · have hc : (i : Int) < (v.length : Int) := by omega
      have hi1 : i64 ((i : Int) + 1) = ((i + 1 : Nat) : Int) := by rw [i64_of (by omega) (by omega)]; omega
      have hg : v[i]? = some v[i] := List.getElem?_eq_getElem h
      have hd : wtL wtAcct (v.drop i) = 1 + wtAcct v[i] + wtL wtAcct (v.drop (i + 1)) := by rw [List.drop_eq_getElem_cons h]; rfl
      have hx := wtAcct_eq v[i]
      have hx0 := wtRing_eq v[i].Ring
      obtain ⟨t0, ht0⟩ := markText_tot (k) (by omega)
      have i0 : i64 (k + 1) = k + 1 := i64_of (by omega) (by omega)
      have i1 : i64 (k + 1 + 1) = k + 1 + 1 := i64_of (by omega) (by omega)
      have i2 : i64 (k + 1 + 1 + 1) = k + 1 + 1 + 1 := i64_of (by omega) (by omega)
      have i3 : i64 (k + 1 + 1 + 1 + 1) = k + 1 + 1 + 1 + 1 := i64_of (by omega) (by omega)
      have i4 : i64 (k + 1 + 1 + 1 + 1 + 1) = k + 1 + 1 + 1 + 1 + 1 := i64_of (by omega) (by omega)
      obtain ⟨k5, y5, m5, g5, b5, q5, d5⟩ := markHoldS_val v[i].Holds (k + 1 + 1 + 1 + 1 + 1) (by omega) (by omega) (by omega)
      have i6 : i64 (k5 + 1) = k5 + 1 := i64_of (by omega) (by omega)
      have i7 : i64 (k5 + 1 + 1) = k5 + 1 + 1 := i64_of (by omega) (by omega)
      obtain ⟨k8, y8, m8, g8, b8, q8, d8⟩ := markIntS_val v[i].Ring.Counts (k5 + 1 + 1) (by omega) (by omega) (by omega)
      obtain ⟨k9, y9, m9, g9, b9, q9, d9⟩ := markIntS_val v[i].Ring.Sums (k8) (by omega) (by omega) (by omega)
      obtain ⟨k10, y10, m10, g10, b10, q10, d10⟩ := markSlotS_val v[i].Slots (k9) (by omega) (by omega) (by omega)
      have hsl : (v.set i (Acct.mk t0 (k + 1) (k + 1 + 1) (k + 1 + 1 + 1) (k + 1 + 1 + 1 + 1) y5 (Ring.mk (k5) (k5 + 1) y8 y9) y10)).length = v.length := List.length_set
      have hsd : (v.set i (Acct.mk t0 (k + 1) (k + 1 + 1) (k + 1 + 1 + 1) (k + 1 + 1 + 1 + 1) y5 (Ring.mk (k5) (k5 + 1) y8 y9) y10)).drop (i + 1) = v.drop (i + 1) := List.drop_set_of_lt (by omega)
      obtain ⟨k', v', e1, e1', e1'', e2, e3, e4⟩ := markAcctS_l0_val n (k10) (i + 1) (v.set i (Acct.mk t0 (k + 1) (k + 1 + 1) (k + 1 + 1 + 1) (k + 1 + 1 + 1 + 1) y5 (Ring.mk (k5) (k5 + 1) y8 y9) y10)) (by rw [hsl]; omega) (by rw [hsl]; omega) (by rw [hsd]; omega) (by omega) (by rw [hsd]; omega) (by rw [hsl]; omega)
      rw [hsl] at e2
      rw [hsd] at e1''
      obtain ⟨p1, p2⟩ := after_set e3 e2 h
      refine ⟨k', v', ?_, by omega, by omega, e2, p2, fun b => ?_⟩
      · simp only [hc, decide_true, if_true, Int.natCast_nonneg, Int.toNat_natCast, hg, Option.bind_some, ht0, i0, i1, i2, i3, i4, m5, i6, i7, m8, m9, m10, hi1, List.getElem?_set_self h, List.set_set, List.length_set]
        exact e1
      · rw [p1]
        unfold laws_heldAcctS_l0
        simp only [ht0, i0, i1, i2, i3, i4, i6, i7, d5, show ¬ k5 < 0 by omega, d8, show ¬ k8 < 0 by omega, d9, show ¬ k9 < 0 by omega, d10, show ¬ k10 < 0 by omega, Option.bind_some, beq_rfl, bne_rfl, if_true, decide_false, Bool.false_eq_true, if_false]
        exact e4 b
    · have hc : ¬ (i : Int) < (v.length : Int) := by omega
      refine ⟨k, v, by simp only [hc, decide_false, Bool.false_eq_true, if_false], by omega, by omega, rfl, rfl, fun b => ?_⟩
      rw [List.drop_eq_nil_of_le (by omega)]
      rfl
theorem markAcctS_val (v : List Acct) (k : Int) (h : wtL wtAcct v ≤ 4000000) (h0 : 0 ≤ k) (hk : k + 16 * (wtL wtAcct v : Nat) ≤ 1000000000000) :
    ∃ (k' : Int) (v' : List Acct), laws_markAcctS v k = some (k', v') ∧ k ≤ k' ∧ k' ≤ k + 16 * (wtL wtAcct v : Nat) ∧ v'.length = v.length ∧ laws_heldAcctS v' k = some k' := by
  have hl : v.length ≤ 4000000 := (by have := wtL_len wtAcct v; omega)
  obtain ⟨k', v', e1, e1', e1'', e2, e3, e4⟩ := markAcctS_l0_val FUEL k 0 v (by omega) hl (by simpa using h) h0 (by simpa using hk) (by unfold FUEL; omega)
  have e4 := e4 v'
  simp only [List.drop_zero] at e4 e1''
  refine ⟨k', v', ?_, e1', e1'', e2, ?_⟩
  · unfold laws_markAcctS
    have : ((0 : Nat) : Int) = 0 := rfl
    rw [this] at e1
    rw [e1]; rfl
  · unfold laws_heldAcctS
    rw [capOk_of (by omega), e4]; rfl
def wtStripe (a : Stripe) : Nat := wtL wtAcct a.Accts
theorem wtStripe_eq (a : Stripe) : wtStripe a = wtL wtAcct a.Accts := rfl
theorem szStripe_val (a : Stripe) (left : Int) (hw : W128 a) (h0 : 0 ≤ left) (h1 : left ≤ 1048576) : ∃ r, laws_szStripe a left = some r ∧ (0 ≤ r → r = left - (wtStripe a : Nat)) := by
  unfold W128 at hw
  obtain ⟨w0, w1⟩ := hw
  rw [wtStripe_eq]
  unfold laws_szStripe
  obtain ⟨r1, e1, g1⟩ := szAcctS_val a.Accts left w1 (by omega) (by omega)
  simp only [e1, decide_true, decide_false, Bool.false_eq_true, if_true, if_false, Option.bind_some]
  by_cases c1 : r1 < 0
  · exact ⟨-1, by simp only [c1, decide_true, decide_false, Bool.false_eq_true, if_true, if_false, Option.bind_some], fun h => by omega⟩
  · have g1 := g1 (by omega)
    simp only [c1, decide_true, decide_false, Bool.false_eq_true, if_true, if_false, Option.bind_some]
    exact ⟨_, rfl, fun _ => by omega⟩
theorem toStripe_val (a : Stripe) (h : wtStripe a ≤ 4000000) : laws_toStripe a = some a := by
  rw [wtStripe_eq] at h
  unfold laws_toStripe
  simp only [toAcctS_val a.Accts (by omega), Option.bind_some]
theorem eqStripe_rfl (a : Stripe) (h : wtStripe a ≤ 4000000) : laws_eqStripe a a = some true := by
  rw [wtStripe_eq] at h
  unfold laws_eqStripe
  simp only [eqAcctS_rfl a.Accts (by omega), beq_rfl, bne_rfl, Bool.false_eq_true, if_false, if_true, Option.bind_some]
theorem szStripeS_l0_val (a : List Stripe) : ∀ (t : List Stripe) (v : Int), 0 ≤ v → v ≤ 1048576 → (∀ x ∈ t, W128 x) → ∃ r, laws_szStripeS_l0 a t v = some r ∧ ∀ s, r = .out s → 0 ≤ s ∧ s = v - (wtS wtStripe t : Nat)
  | [], v, h0, h1, _ => ⟨.out v, rfl, fun s e => by cases e; exact ⟨h0, by simp [wtS]⟩⟩
  | x :: t, v, h0, h1, hw => by
    obtain ⟨r, e1, e3⟩ := szStripe_val x v (hw x (by simp)) h0 h1
    unfold laws_szStripeS_l0
    rw [e1, Option.bind_some]
    by_cases h : r < 0
    · exact ⟨.ret (), by simp [h], fun s e => by cases e⟩
    · have e3 := e3 (by omega)
      obtain ⟨z, f1, f2⟩ := szStripeS_l0_val a t r (by omega) (by omega) (fun y hy => hw y (by simp [hy]))
      refine ⟨z, by simp [h, f1], fun s e => ?_⟩
      obtain ⟨g1, g2⟩ := f2 s e
      exact ⟨g1, by rw [g2]; simp only [wtS]; omega⟩
theorem szStripeS_val (a : List Stripe) (left : Int) (hw : W61 a) (h0 : 0 ≤ left) (h1 : left ≤ 1048576) : ∃ r, laws_szStripeS a left = some r ∧ (0 ≤ r → r = left - (wtL wtStripe a : Nat)) := by
  unfold W61 Wl at hw
  have hl : a.length ≤ 140737488351232 := by have := hw.1; omega
  unfold laws_szStripeS
  rw [sub_val h0 h1 hl]
  by_cases h : left - (a.length : Int) < 0
  · exact ⟨-1, by simp [h], fun h => by omega⟩
  · obtain ⟨z, f1, f2⟩ := szStripeS_l0_val a a (left - a.length) (by omega) (by omega) hw.2
    simp only [h, decide_false, Bool.false_eq_true, if_false, capOk_of (show a.length ≤ 274877906944 by omega), if_true, f1, Option.bind_some]
    cases z with
    | ret u => exact ⟨-1, rfl, fun h => by omega⟩
    | out s =>
      obtain ⟨g1, g2⟩ := f2 s rfl
      exact ⟨s, rfl, fun _ => by rw [g2, wtL_eq]; omega⟩
theorem toStripeS_l0_val (a : List Stripe) : ∀ (t p v : List Stripe), a = p ++ t → (∀ s ∈ t, wtStripe s ≤ 4000000) → v.length = a.length → v.take p.length = p → laws_toStripeS_l0 a t p v = some a
  | [], p, v, e, hs, hl, hv => by
    have : v = p := by rw [← hv, List.take_of_length_le (by rw [hl, e]; simp)]
    simp [laws_toStripeS_l0, this, e]
  | x :: t, p, v, e, hs, hl, hv => by
    have hlt : p.length < v.length := by rw [hl, e]; simp
    obtain ⟨y, hy⟩ := idx_some (v := v) hlt
    unfold laws_toStripeS_l0
    rw [toStripe_val x (hs x (by simp)), Option.bind_some, hy, Option.bind_some, Int.toNat_natCast]
    exact toStripeS_l0_val a t (p ++ [x]) _ (by rw [e]; simp) (fun s hs' => hs s (by simp [hs'])) (by simp [hl]) (set_take hv hlt)
theorem toStripeS_val (a : List Stripe) (h : wtL wtStripe a ≤ 4000000) : laws_toStripeS a = some a := by
  have hl : a.length ≤ 4000000 := (by have := wtL_len wtStripe a; omega)
  unfold laws_toStripeS
  simp only [Int.natCast_nonneg, decide_true, if_true, Int.toNat_natCast, capOk_of (show a.length ≤ 274877906944 by omega)]
  rw [toStripeS_l0_val a a [] _ rfl (fun s hs => by have := wtL_mem wtStripe a s hs; omega) (by simp) rfl]
  rfl
theorem eqStripeS_l0_rfl (a : List Stripe) : ∀ t p : List Stripe, a = p ++ t → (∀ s ∈ t, wtStripe s ≤ 4000000) → laws_eqStripeS_l0 a a t p = some (.out ())
  | [], p, e, _ => rfl
  | x :: t, p, e, hs => by
    unfold laws_eqStripeS_l0
    rw [mid_get e, Option.bind_some, eqStripe_rfl x (hs x (by simp)), Option.bind_some]
    simpa using eqStripeS_l0_rfl a t (p ++ [x]) (by rw [e]; simp) (fun s hs' => hs s (by simp [hs']))
theorem eqStripeS_rfl (a : List Stripe) (h : wtL wtStripe a ≤ 4000000) : laws_eqStripeS a a = some true := by
  have hl : a.length ≤ 4000000 := (by have := wtL_len wtStripe a; omega)
  unfold laws_eqStripeS
  rw [eqStripeS_l0_rfl a a [] rfl (fun s hs => by have := wtL_mem wtStripe a s hs; omega), capOk_of (show a.length ≤ 274877906944 by omega)]
  simp only [bne_rfl, Bool.false_eq_true, if_false, if_true]
  rfl
theorem markStripeS_l0_val : ∀ (n : Nat) (k : Int) (i : Nat) (v : List Stripe), i ≤ v.length → v.length ≤ 4000000 → wtL wtStripe (v.drop i) ≤ 4000000 → 0 ≤ k → k + 16 * (wtL wtStripe (v.drop i) : Nat) ≤ 1000000000000 → v.length - i < n →
    ∃ (k' : Int) (v' : List Stripe), laws_markStripeS_l0 n k (i : Int) v = some (k', v') ∧ k ≤ k' ∧ k' ≤ k + 16 * (wtL wtStripe (v.drop i) : Nat) ∧ v'.length = v.length ∧ v'.take i = v.take i
  | 0, k, i, v, hi, hl, hw, h0, hk, hn => by omega
  | n + 1, k, i, v, hi, hl, hw, h0, hk, hn => by
    unfold laws_markStripeS_l0
    by_cases h : i < v.length
    · have hc : (i : Int) < (v.length : Int) := by omega
      have hi1 : i64 ((i : Int) + 1) = ((i + 1 : Nat) : Int) := by rw [i64_of (by omega) (by omega)]; omega
      have hg : v[i]? = some v[i] := List.getElem?_eq_getElem h
      have hd : wtL wtStripe (v.drop i) = 1 + wtStripe v[i] + wtL wtStripe (v.drop (i + 1)) := by rw [List.drop_eq_getElem_cons h]; rfl
      have hx := wtStripe_eq v[i]
      have i0 : i64 (k + 1) = k + 1 := i64_of (by omega) (by omega)
      obtain ⟨k1, y1, m1, g1, b1, q1, d1⟩ := markAcctS_val v[i].Accts (k + 1) (by omega) (by omega) (by omega)
      have hsl : (v.set i (Stripe.mk (k) y1)).length = v.length := List.length_set
      have hsd : (v.set i (Stripe.mk (k) y1)).drop (i + 1) = v.drop (i + 1) := List.drop_set_of_lt (by omega)
      obtain ⟨k', v', e1, e1', e1'', e2, e3⟩ := markStripeS_l0_val n (k1) (i + 1) (v.set i (Stripe.mk (k) y1)) (by rw [hsl]; omega) (by rw [hsl]; omega) (by rw [hsd]; omega) (by omega) (by rw [hsd]; omega) (by rw [hsl]; omega)
      rw [hsl] at e2
      rw [hsd] at e1''
      obtain ⟨p1, p2⟩ := after_set e3 e2 h
      refine ⟨k', v', ?_, by omega, by omega, e2, p2⟩
      · simp only [hc, decide_true, if_true, Int.natCast_nonneg, Int.toNat_natCast, hg, Option.bind_some, i0, m1, hi1, List.getElem?_set_self h, List.set_set, List.length_set]
        exact e1
    · have hc : ¬ (i : Int) < (v.length : Int) := by omega
      refine ⟨k, v, by simp only [hc, decide_false, Bool.false_eq_true, if_false], by omega, by omega, rfl, rfl⟩
theorem markStripeS_val (v : List Stripe) (k : Int) (h : wtL wtStripe v ≤ 4000000) (h0 : 0 ≤ k) (hk : k + 16 * (wtL wtStripe v : Nat) ≤ 1000000000000) :
    ∃ (k' : Int) (v' : List Stripe), laws_markStripeS v k = some (k', v') ∧ k ≤ k' ∧ k' ≤ k + 16 * (wtL wtStripe v : Nat) ∧ v'.length = v.length := by
  have hl : v.length ≤ 4000000 := (by have := wtL_len wtStripe v; omega)
  obtain ⟨k', v', e1, e1', e1'', e2, e3⟩ := markStripeS_l0_val FUEL k 0 v (by omega) hl (by simpa using h) h0 (by simpa using hk) (by unfold FUEL; omega)
  simp only [List.drop_zero] at e1''
  refine ⟨k', v', ?_, e1', e1'', e2⟩
  unfold laws_markStripeS
  have : ((0 : Nat) : Int) = 0 := rfl
  rw [this] at e1
  rw [e1]; rfl
def wtBook (a : Book) : Nat := wtL wtAcct a.Accts
theorem wtBook_eq (a : Book) : wtBook a = wtL wtAcct a.Accts := rfl
theorem eqBook_rfl (a : Book) (h : wtBook a ≤ 4000000) : laws_eqBook a a = some true := by
  rw [wtBook_eq] at h
  unfold laws_eqBook
  simp only [eqAcctS_rfl a.Accts (by omega), beq_rfl, bne_rfl, Bool.false_eq_true, if_false, if_true, Option.bind_some]
theorem markBook_val (a : Book) (k : Int) (h : wtBook a ≤ 4000000) (h0 : 0 ≤ k) (hk : k + 16 * (wtBook a : Nat) ≤ 1000000000000) : ∃ (k' : Int) (l0 : List Acct), laws_markBook a k = some (k', l0) ∧ k ≤ k' ∧ k' ≤ k + 16 * (wtBook a : Nat) ∧ l0.length = a.Accts.length ∧ laws_heldBook (Book.mk l0) k = some k' := by
  rw [wtBook_eq] at *
  obtain ⟨k0, y0, m0, g0, b0, q0, d0⟩ := markAcctS_val a.Accts k (by omega) (by omega) (by omega)
  refine ⟨k0, y0, ?_, by omega, by omega, q0, ?_⟩
  · unfold laws_markBook
    simp only [m0, Option.bind_some]
  · unfold laws_heldBook
    simp only [d0, Option.bind_some, show ¬ k0 < 0 by omega, decide_false, Bool.false_eq_true, if_false]
theorem tf (b : Bool) : b = true ∨ b = false := by cases b <;> simp
/-- Where the first one is, told behind p. -/
def found {α : Type} (q : α → Bool) (t p : List α) : Lo Unit Int := match t.findIdx? q with | some i => .ret ((p.length + i : Nat) : Int) | none => .out ()
theorem find_loop {α : Type} {L : List α → List α → Option (Lo Unit Int)} (q : α → Bool) (h0 : ∀ p, L [] p = some (.out ()))
    (h1 : ∀ x t p, L (x :: t) p = if q x = true then some (.ret (p.length : Int)) else L t (p ++ [x])) : ∀ (t p : List α), L t p = some (found q t p)
  | [], p => by rw [h0]; rfl
  | x :: t, p => by
    rw [h1, find_loop q h0 h1 t (p ++ [x])]
    unfold found
    rw [List.findIdx?_cons]
    cases q x with
    | true => simp
    | false =>
      simp only [Bool.false_eq_true, if_false]
      cases t.findIdx? q with
      | none => rfl
      | some i => simp only [Option.map_some, List.length_append, List.length_cons, List.length_nil]; congr 3; omega
/-- The index of the first one, or -1. -/
def idxOf {α : Type} (q : α → Bool) (l : List α) : Int := match l.findIdx? q with | some i => (i : Int) | none => -1
theorem found_nil {α : Type} (q : α → Bool) (l : List α) : (Lo.elim (found q l []) (fun _ => some (-1)) (fun i => some i) : Option Int) = some (idxOf q l) := by
  unfold found idxOf
  cases l.findIdx? q with
  | none => rfl
  | some i => simp [Lo.elim]
theorem idxOf_lt {α : Type} {q : α → Bool} {l : List α} (h : 0 ≤ idxOf q l) : ∃ x, l[(idxOf q l).toNat]? = some x ∧ q x = true ∧ (idxOf q l).toNat < l.length := by
  unfold idxOf at h ⊢
  cases hi : l.findIdx? q with
  | none => rw [hi] at h; exact absurd h (by decide)
  | some i =>
    obtain ⟨hl, hq, _⟩ := List.findIdx?_eq_some_iff_getElem.1 hi
    exact ⟨l[i], by simp [hl], hq, by simpa using hl⟩
theorem idxOf_neg {α : Type} {q : α → Bool} {l : List α} (h : idxOf q l < 0) : ∀ x ∈ l, q x = false := by
  unfold idxOf at h
  cases hi : l.findIdx? q with
  | none =>
    rw [List.findIdx?_eq_none_iff] at hi
    intro x hx
    simpa using hi x hx
  | some i => rw [hi] at h; exfalso; have h : (i : Int) < 0 := h; omega
theorem bytesLess_flip : ∀ a b : List UInt8, Op.bytesLess b a = !(Op.bytesLess a b || a == b)
  | [], [] => rfl
  | [], _ :: _ => rfl
  | _ :: _, [] => rfl
  | a :: x, b :: y => by
    have ih := bytesLess_flip x y
    unfold Op.bytesLess
    rw [ih]
    by_cases h1 : a < b
    · have h2 : ¬ b < a := by have := UInt8.lt_iff_toNat_lt.1 h1; intro h; have := UInt8.lt_iff_toNat_lt.1 h; omega
      have h3 : ¬ b = a := by intro e; subst e; exact h2 h1
      simp [h1, h2, h3]
    · by_cases h2 : b < a
      · have h3 : ¬ a = b := by intro e; subst e; exact h1 h2
        have h4 : ¬ b = a := fun e => h3 e.symm
        simp [h1, h2, h3]
      · have h3 : a = b := by
          apply UInt8.toNat_inj.1
          have := mt UInt8.lt_iff_toNat_lt.2 h1
          have := mt UInt8.lt_iff_toNat_lt.2 h2
          omega
        subst h3
        simp [h1]
theorem less_flip (a b : ByteArray) : Op.bytesLess b.toList a.toList = !(Op.bytesLess a.toList b.toList || (a == b)) := by
  rw [beq_toListBytes]; exact bytesLess_flip _ _
theorem Clone_int_val (l : List Int) (h : l.length ≤ 274877906944) : slices_Clone_int l = some l := by unfold slices_Clone_int; rw [capOk_of h]; rfl
theorem Clone_byte_val (l : List Int) (h : l.length ≤ 274877906944) : slices_Clone_byte l = some l := by unfold slices_Clone_byte; rw [capOk_of h]; rfl
theorem Clone_Hold_val (l : List Hold) (h : l.length ≤ 274877906944) : slices_Clone_impl_Hold l = some l := by unfold slices_Clone_impl_Hold; rw [capOk_of h]; rfl
theorem l08Copy_l0_val (l : List Slot) : ∀ (t v : List Slot), v.length + t.length ≤ 274877906944 → (∀ s ∈ t, s.Reply.length ≤ 4000000) → spec_l08Copy_l0 l t v = some (v ++ t)
  | [], v, _, _ => by simp [spec_l08Copy_l0]
  | x :: t, v, hl, hs => by
    unfold spec_l08Copy_l0
    have h1 : capOk (0 + x.Reply.length) = true := capOk_of (by have := hs x (by simp); omega)
    have h2 : capOk (v.length + 1) = true := capOk_of (by simp at hl; omega)
    rw [h1, h2, l08Copy_l0_val l t (v ++ [x]) (by simp at hl ⊢; omega) (fun s hs' => hs s (by simp [hs']))]
    simp
theorem wtSlot_reply (s : Slot) (h : wtSlot s ≤ 4000000) : s.Reply.length ≤ 4000000 := by rw [wtSlot_eq] at h; omega
theorem l08Copy_val (l : List Slot) (h : wtL wtSlot l ≤ 4000000) : spec_l08Copy l = some l := by
  have hl := wtL_len wtSlot l
  unfold spec_l08Copy
  rw [capOk_of (by omega), l08Copy_l0_val _ _ _ (by simp; omega) (fun s hs => wtSlot_reply s (by have := wtL_mem wtSlot l s hs; omega))]
  rfl
theorem l06Copy_val (r : Ring) (h : wtRing r ≤ 4000000) : spec_l06Copy r = some r := by
  rw [wtRing_eq] at h
  unfold spec_l06Copy
  rw [capOk_of (show 0 + r.Counts.length ≤ 274877906944 by omega), capOk_of (show 0 + r.Sums.length ≤ 274877906944 by omega)]
  rfl
theorem l09Copy_val (a : Acct) (h : wtAcct a ≤ 4000000) : spec_l09Copy a = some a := by
  rw [wtAcct_eq] at h
  have hl := wtL_len wtHold a.Holds
  unfold spec_l09Copy
  rw [capOk_of (show 0 + a.Holds.length ≤ 274877906944 by omega), l06Copy_val _ (by omega), l08Copy_val _ (by omega)]
  rfl
theorem copySlots_l0_val (l : List Slot) : ∀ (t v : List Slot), v.length + t.length ≤ 274877906944 → (∀ s ∈ t, s.Reply.length ≤ 4000000) → impl_copySlots_l0 l t v = some (v ++ t)
  | [], v, _, _ => by simp [impl_copySlots_l0]
  | x :: t, v, hl, hs => by
    unfold impl_copySlots_l0
    have h2 : capOk (v.length + 1) = true := capOk_of (by simp at hl; omega)
    rw [Clone_byte_val _ (by have := hs x (by simp); omega), Option.bind_some, h2, copySlots_l0_val l t _ (by simp at hl ⊢; omega) (fun s hs' => hs s (by simp [hs']))]
    simp
theorem copySlots_val (l : List Slot) (h : wtL wtSlot l ≤ 4000000) : impl_copySlots l = some l := by
  have hl := wtL_len wtSlot l
  unfold impl_copySlots
  rw [capOk_of (by omega), copySlots_l0_val _ _ _ (by simp; omega) (fun s hs => wtSlot_reply s (by have := wtL_mem wtSlot l s hs; omega))]
  rfl
theorem Ring_copied_val (r : Ring) (h : wtRing r ≤ 4000000) : impl_Ring_copied r = some r := by
  rw [wtRing_eq] at h
  unfold impl_Ring_copied
  rw [Clone_int_val _ (by omega), Clone_int_val _ (by omega)]
  rfl
theorem Acct_copied_val (a : Acct) (h : wtAcct a ≤ 4000000) : impl_Acct_copied a = some a := by
  rw [wtAcct_eq] at h
  have hl := wtL_len wtHold a.Holds
  unfold impl_Acct_copied
  rw [Clone_Hold_val _ (by omega), Ring_copied_val _ (by omega), copySlots_val _ (by omega)]
  rfl
/-- Each account of a list is small. -/
def okAs (l : List Acct) : Prop := ∀ x ∈ l, wtAcct x ≤ 4000000
theorem okAs_of {l : List Acct} (h : wtL wtAcct l ≤ 4000000) : okAs l := fun x hx => by have := wtL_mem wtAcct l x hx; omega
theorem okAs_tail {x : Acct} {l : List Acct} (h : okAs (x :: l)) : okAs l := fun y hy => h y (by simp [hy])
theorem Book_each_copied_l0_val (b : Book) : ∀ t v : List Acct, v.length + t.length ≤ 274877906944 → okAs t → impl_Book_each_impl_Acct_copied_l0 b t v = some (v ++ t)
  | [], v, _, _ => by simp [impl_Book_each_impl_Acct_copied_l0]
  | x :: t, v, hl, hs => by
    unfold impl_Book_each_impl_Acct_copied_l0
    rw [Acct_copied_val x (hs x (by simp)), Option.bind_some, capOk_of (show v.length + 1 ≤ 274877906944 by simp at hl; omega), Book_each_copied_l0_val b t (v ++ [x]) (by simp at hl ⊢; omega) (okAs_tail hs)]
    simp
theorem Book_copied_val (b : Book) (h : wtL wtAcct b.Accts ≤ 4000000) : impl_Book_copied b = some b := by
  have hl := wtL_len wtAcct b.Accts
  unfold impl_Book_copied impl_Book_each_impl_Acct_copied
  rw [capOk_of (by omega), Book_each_copied_l0_val b _ _ (by simp; omega) (okAs_of h)]
  rfl
def insB {α : Type} (lt : α → α → Bool) (b : α) : List α → List α
  | [] => [b]
  | x :: l => if lt b x = true then b :: x :: l else x :: insB lt b l
def mgB {α : Type} (lt : α → α → Bool) (A B : List α) : List α := B.foldl (fun acc b => insB lt b acc) A
/-- A strict weak order. -/
def SwB {α : Type} (lt : α → α → Bool) : Prop := (∀ a b, lt a b = true → lt b a = false) ∧ ∀ a b c, lt a b = false → lt b c = false → lt a c = false
def SrtB {α : Type} (lt : α → α → Bool) (l : List α) : Prop := l.Pairwise fun x y => lt y x = false
theorem SwB.trans {α : Type} {lt : α → α → Bool} (h : SwB lt) {a b c : α} (h1 : lt a b = true) (h2 : lt b c = true) : lt a c = true := by
  rcases hx : lt a c with _ | _
  · have := h.2 a c b hx (h.1 _ _ h2)
    rw [h1] at this; cases this
  · rfl
theorem snoc_of {α : Type} : ∀ {l : List α}, l ≠ [] → ∃ T y, l = T ++ [y]
  | [], h => absurd rfl h
  | [x], _ => ⟨[], x, rfl⟩
  | x :: y :: l, _ => by
    obtain ⟨T, z, e⟩ := snoc_of (l := y :: l) (by simp)
    exact ⟨x :: T, z, by rw [e]; rfl⟩
theorem swB_irr {α : Type} {lt : α → α → Bool} (h : SwB lt) (a : α) : lt a a = false := by
  rcases Bool.eq_false_or_eq_true (lt a a) with hx | hx
  · have := h.1 a a hx
    rw [hx] at this; cases this
  · exact hx
theorem mem_tw {α : Type} (p : α → Bool) : ∀ {l : List α} {x : α}, x ∈ l.takeWhile p → p x = true
  | [], _, h => by simp at h
  | y :: l, x, h => by
    rw [List.takeWhile_cons] at h
    split at h
    · rcases List.mem_cons.1 h with rfl | h
      · assumption
      · exact mem_tw p h
    · simp at h
theorem mem_insB {α : Type} {lt : α → α → Bool} {a b : α} : ∀ {l : List α}, a ∈ insB lt b l ↔ a = b ∨ a ∈ l
  | [] => by simp [insB]
  | x :: l => by
    unfold insB
    split
    · simp
    · simp only [List.mem_cons, mem_insB]
      constructor
      · rintro (h | h | h)
        · exact .inr (.inl h)
        · exact .inl h
        · exact .inr (.inr h)
      · rintro (h | h | h)
        · exact .inr (.inl h)
        · exact .inl h
        · exact .inr (.inr h)
theorem len_insB {α : Type} {lt : α → α → Bool} (b : α) : ∀ l : List α, (insB lt b l).length = l.length + 1
  | [] => rfl
  | x :: l => by
    unfold insB
    split
    · simp
    · simp [len_insB b l]
theorem insB_left {α : Type} {lt : α → α → Bool} {b : α} : ∀ {X Y : List α}, (∀ y ∈ Y, lt b y = true) → insB lt b (X ++ Y) = insB lt b X ++ Y
  | [], [], _ => rfl
  | [], y :: Y, h => by simp [insB, h y (by simp)]
  | x :: X, Y, h => by
    rw [List.cons_append]
    unfold insB
    split
    · rfl
    · rw [insB_left h]; rfl
theorem insB_right {α : Type} {lt : α → α → Bool} {b : α} : ∀ {X Y : List α}, (∀ x ∈ X, lt b x = false) → insB lt b (X ++ Y) = X ++ insB lt b Y
  | [], Y, _ => rfl
  | x :: X, Y, h => by
    rw [List.cons_append]
    conv => lhs; unfold insB
    rw [if_neg (by rw [h x (by simp)]; simp), insB_right (fun z hz => h z (by simp [hz]))]
    rfl
theorem mgB_nil {α : Type} {lt : α → α → Bool} (A : List α) : mgB lt A [] = A := rfl
theorem mgB_cons {α : Type} {lt : α → α → Bool} (A : List α) (b : α) (B : List α) : mgB lt A (b :: B) = mgB lt (insB lt b A) B := rfl
theorem mgB_app {α : Type} {lt : α → α → Bool} (A B C : List α) : mgB lt A (B ++ C) = mgB lt (mgB lt A B) C := by simp [mgB]
theorem len_mgB {α : Type} {lt : α → α → Bool} : ∀ (B A : List α), (mgB lt A B).length = A.length + B.length
  | [], A => rfl
  | b :: B, A => by rw [mgB_cons, len_mgB B, len_insB]; simp; omega
theorem mem_mgB {α : Type} {lt : α → α → Bool} {a : α} : ∀ {B A : List α}, a ∈ mgB lt A B ↔ a ∈ A ∨ a ∈ B
  | [], A => by simp [mgB]
  | b :: B, A => by
    rw [mgB_cons, mem_mgB, mem_insB]
    simp only [List.mem_cons]
    constructor
    · rintro ((h | h) | h)
      · exact .inr (.inl h)
      · exact .inl h
      · exact .inr (.inr h)
    · rintro (h | h | h)
      · exact .inl (.inr h)
      · exact .inl (.inl h)
      · exact .inr h
theorem mgB_left {α : Type} {lt : α → α → Bool} : ∀ {B X Y : List α}, (∀ b ∈ B, ∀ y ∈ Y, lt b y = true) → mgB lt (X ++ Y) B = mgB lt X B ++ Y
  | [], _, _, _ => rfl
  | b :: B, X, Y, h => by rw [mgB_cons, mgB_cons, insB_left (h b (by simp)), mgB_left (fun c hc => h c (by simp [hc]))]
theorem mgB_right {α : Type} {lt : α → α → Bool} : ∀ {B X Y : List α}, (∀ b ∈ B, ∀ x ∈ X, lt b x = false) → mgB lt (X ++ Y) B = X ++ mgB lt Y B
  | [], _, _, _ => rfl
  | b :: B, X, Y, h => by rw [mgB_cons, mgB_cons, insB_right (h b (by simp)), mgB_right (fun c hc => h c (by simp [hc]))]
theorem mgB_split {α : Type} {lt : α → α → Bool} {A1 A2 B1 B2 : List α} (h1 : ∀ b ∈ B1, ∀ y ∈ A2, lt b y = true) (h2 : ∀ b ∈ B2, ∀ x ∈ A1, lt b x = false) (h3 : ∀ b ∈ B2, ∀ x ∈ B1, lt b x = false) :
    mgB lt (A1 ++ A2) (B1 ++ B2) = mgB lt A1 B1 ++ mgB lt A2 B2 := by
  rw [mgB_app, mgB_left h1, mgB_right (fun b hb x hx => (mem_mgB.1 hx).elim (h2 b hb x) (h3 b hb x))]
theorem srtB_ins {α : Type} {lt : α → α → Bool} (hs : SwB lt) (b : α) : ∀ {l : List α}, SrtB lt l → SrtB lt (insB lt b l)
  | [], _ => by simp [insB, SrtB]
  | x :: l, h => by
    have h' := List.pairwise_cons.1 h
    unfold insB
    split
    · rename_i hb
      refine List.pairwise_cons.2 ⟨fun y hy => ?_, h⟩
      rcases List.mem_cons.1 hy with rfl | hy
      · exact hs.1 _ _ hb
      · rcases hx : lt y b with _ | _
        · rfl
        · have := hs.trans hx hb
          rw [h'.1 y hy] at this; cases this
    · rename_i hb
      refine List.pairwise_cons.2 ⟨fun y hy => ?_, srtB_ins hs b h'.2⟩
      rcases mem_insB.1 hy with rfl | hy
      · simpa using hb
      · exact h'.1 y hy
theorem srtB_mg {α : Type} {lt : α → α → Bool} (hs : SwB lt) : ∀ {B A : List α}, SrtB lt A → SrtB lt (mgB lt A B)
  | [], _, h => h
  | b :: B, A, h => srtB_mg hs (B := B) (srtB_ins hs b h)
theorem insB_comm {α : Type} {lt : α → α → Bool} (hs : SwB lt) {b c : α} (h : lt b c = true) : ∀ S : List α, insB lt c (insB lt b S) = insB lt b (insB lt c S)
  | [] => by simp [insB, h, hs.1 _ _ h]
  | x :: S => by
    rcases hb : lt b x with _ | _
    · rcases hc : lt c x with _ | _
      · simp [insB, hb, hc, insB_comm hs h S]
      · have := hs.trans h hc
        rw [hb] at this; cases this
    · rcases hc : lt c x with _ | _
      · simp [insB, hb, hc, hs.1 _ _ h]
      · simp [insB, hb, hc, h, hs.1 _ _ h]
theorem mgB_ins_all {α : Type} {lt : α → α → Bool} (hs : SwB lt) {b : α} : ∀ {D A : List α}, (∀ c ∈ D, lt b c = true) → mgB lt (insB lt b A) D = insB lt b (mgB lt A D)
  | [], _, _ => rfl
  | c :: D, A, h => by rw [mgB_cons, mgB_cons, insB_comm hs (h c (by simp)), mgB_ins_all hs (fun d hd => h d (by simp [hd]))]
theorem mgB_ins {α : Type} {lt : α → α → Bool} (hs : SwB lt) {b : α} : ∀ {C A : List α}, SrtB lt C → mgB lt A (insB lt b C) = insB lt b (mgB lt A C)
  | [], _, _ => rfl
  | c :: C, A, h => by
    have h' := List.pairwise_cons.1 h
    rcases hb : lt b c with _ | _
    · have e : insB lt b (c :: C) = c :: insB lt b C := by simp [insB, hb]
      rw [e, mgB_cons, mgB_cons, mgB_ins hs h'.2]
    · have e : insB lt b (c :: C) = b :: c :: C := by simp [insB, hb]
      rw [e, mgB_cons]
      refine mgB_ins_all hs (fun d hd => ?_)
      rcases List.mem_cons.1 hd with rfl | hd
      · exact hb
      · rcases hx : lt b d with _ | _
        · have := hs.2 b d c hx (h'.1 d hd)
          rw [hb] at this; cases this
        · rfl
theorem srtB_srt {α : Type} {lt : α → α → Bool} (hs : SwB lt) (L : List α) : SrtB lt (mgB lt [] L) := srtB_mg hs (by simp [SrtB])
theorem mgB_srt {α : Type} {lt : α → α → Bool} (hs : SwB lt) (A : List α) : ∀ (n : Nat) (B : List α), B.length = n → mgB lt A (mgB lt [] B) = mgB lt A B
  | 0, [], _ => rfl
  | n + 1, B, h => by
    obtain ⟨C, b, rfl⟩ := snoc_of (l := B) (fun e => by simp [e] at h)
    rw [mgB_app, mgB_app, mgB_cons, mgB_nil, mgB_cons, mgB_nil, mgB_ins hs (srtB_srt hs C), mgB_srt hs A n C (by simp at h; omega)]
/-- Sorting a list is merging its sorted halves. -/
theorem srtB_app {α : Type} {lt : α → α → Bool} (hs : SwB lt) (A B : List α) : mgB lt [] (A ++ B) = mgB lt (mgB lt [] A) (mgB lt [] B) := by
  rw [mgB_app, mgB_srt hs _ _ B rfl]
/-- A sorted list stays. -/
theorem insB_last {α : Type} {lt : α → α → Bool} {b : α} {l : List α} (h : ∀ x ∈ l, lt b x = false) : insB lt b l = l ++ [b] := by
  have := insB_right (Y := []) h
  simpa [insB] using this
theorem mgB_sorted {α : Type} {lt : α → α → Bool} : ∀ (B A : List α), SrtB lt (A ++ B) → mgB lt A B = A ++ B
  | [], A, _ => by simp [mgB]
  | b :: B, A, h => by
    have h1 : ∀ x ∈ A, lt b x = false := fun x hx => (List.pairwise_append.1 h).2.2 x hx b (by simp)
    rw [mgB_cons, insB_last h1, mgB_sorted B (A ++ [b]) (by simpa using h)]
    simp
theorem half_val (i j : Nat) (h : i + j ≤ 9000000) : i64 (bshr .u64 (u64 (i64 ((i : Int) + (j : Int)))) 1) = (((i + j) / 2 : Nat) : Int) := by
  have e1 : i64 ((i : Int) + (j : Int)) = ((i + j : Nat) : Int) := by rw [i64_of (by omega) (by omega)]; omega
  have e2 : u64 ((i + j : Nat) : Int) = ((i + j : Nat) : Int) := by
    unfold u64 IntKind.wrap
    simp [IntKind.bits, IntKind.signed]
    omega
  have e3 : bshr .u64 ((i + j : Nat) : Int) 1 = (((i + j) / 2 : Nat) : Int) := by
    unfold bshr
    rw [show (2 : Int) ^ min (1 : Int).toNat IntKind.u64.bits = ((2 : Nat) : Int) from rfl]
    exact (Int.ofNat_fdiv _ _).symm
  rw [e1, e2, e3, i64_of (by omega) (by omega)]
theorem i64_nat (n : Nat) (h : n ≤ 9000000000000) : i64 (n : Int) = (n : Int) := i64_of (by omega) (by omega)
theorem i64_eq {x : Int} (n : Nat) (h : n ≤ 9000000000000) (e : x = (n : Int)) : i64 x = (n : Int) := by rw [e]; exact i64_nat n h
theorem nnB (n : Nat) : decide ((0 : Int) ≤ (n : Int)) = true := decide_eq_true (Int.natCast_nonneg n)
theorem get0 {α : Type} (A W : List α) (x : α) : (A ++ x :: W)[A.length]? = some x := by simp
theorem get1 {α : Type} (A W : List α) (x y : α) : (A ++ x :: y :: W)[A.length + 1]? = some y := by simp
theorem set0 {α : Type} (A W : List α) (x z : α) : (A ++ x :: W).set A.length z = A ++ z :: W := by simp
theorem set1 {α : Type} (A W : List α) (x y z : α) : (A ++ x :: y :: W).set (A.length + 1) z = A ++ x :: z :: W := by
  rw [List.set_append_right _ _ (by omega)]
  simp
theorem getB {α : Type} (A B W : List α) (x y : α) : (A ++ x :: (B ++ y :: W))[A.length + 1 + B.length]? = some y := by
  rw [List.getElem?_append_right (by omega), show A.length + 1 + B.length - A.length = B.length + 1 by omega]
  simp
theorem setB {α : Type} (A B W : List α) (x y z : α) : (A ++ x :: (B ++ y :: W)).set (A.length + 1 + B.length) z = A ++ x :: (B ++ z :: W) := by
  rw [List.set_append_right _ _ (by omega), show A.length + 1 + B.length - A.length = B.length + 1 by omega]
  simp
theorem set_get {α : Type} {l : List α} {i : Nat} {x : α} (h : l[i]? = some x) : l.set i x = l := by
  apply List.ext_getElem?
  intro j
  rw [List.getElem?_set]
  split
  · rename_i e
    subst e
    split
    · exact h.symm
    · rename_i hl
      rw [List.getElem?_eq_none (by omega)] at h
      cases h
  · rfl
/-- Where a test turns. -/
theorem turn_at (p : Nat → Bool) : ∀ (n s r : Nat), r - s = n → s ≤ r → (∀ c, s ≤ c → c + 1 < r → p c = false → p (c + 1) = false) → ∃ k, s ≤ k ∧ k ≤ r ∧ (∀ c, s ≤ c → c < k → p c = true) ∧ ∀ c, k ≤ c → c < r → p c = false
  | 0, s, r, h, hs, _ => ⟨s, Nat.le_refl _, hs, fun c h1 h2 => by omega, fun c h1 h2 => by omega⟩
  | n + 1, s, r, h, hs, hm => by
    rcases hp : p s with _ | _
    · refine ⟨s, Nat.le_refl _, hs, fun c h1 h2 => by omega, fun c h1 h2 => ?_⟩
      obtain ⟨d, rfl⟩ : ∃ d, c = s + d := ⟨c - s, by omega⟩
      clear h1
      induction d with
      | zero => exact hp
      | succ d ih => exact hm (s + d) (by omega) (by omega) (ih (by omega))
    · obtain ⟨k, k1, k2, k3, k4⟩ := turn_at p n (s + 1) r (by omega) (by omega) (fun c h1 h2 => hm c (by omega) h2)
      refine ⟨k, by omega, k2, fun c h1 h2 => ?_, k4⟩
      rcases Nat.lt_or_ge s c with h3 | h3
      · exact k3 c (by omega) h2
      · obtain rfl : c = s := by omega
        exact hp
theorem srtB_get {α : Type} {lt : α → α → Bool} {l : List α} (h : SrtB lt l) {i j : Nat} {x y : α} (hij : i < j) (hx : l[i]? = some x) (hy : l[j]? = some y) : lt y x = false := by
  obtain ⟨h1, rfl⟩ := List.getElem?_eq_some_iff.1 hx
  obtain ⟨h2, rfl⟩ := List.getElem?_eq_some_iff.1 hy
  exact List.pairwise_iff_getElem.1 h i j h1 h2 hij
theorem srtB_app_left {α : Type} {lt : α → α → Bool} {A B : List α} (h : SrtB lt (A ++ B)) : SrtB lt A := (List.pairwise_append.1 h).1
theorem srtB_app_right {α : Type} {lt : α → α → Bool} {A B : List α} (h : SrtB lt (A ++ B)) : SrtB lt B := (List.pairwise_append.1 h).2.1
theorem srtB_one {α : Type} {lt : α → α → Bool} {A B : List α} (h : A = [] ∨ B = []) (hA : SrtB lt A) (hB : SrtB lt B) : SrtB lt (A ++ B) := by
  rcases h with rfl | rfl
  · exact hB
  · rw [List.append_nil]; exact hA
/-- A list whose blocks of k are sorted. -/
inductive Bs {α : Type} (lt : α → α → Bool) (k : Nat) : List α → List α → Prop
  | last (L : List α) (h : L.length ≤ k) : Bs lt k L (mgB lt [] L)
  | cons (A L M : List α) (h : A.length = k) (r : Bs lt k L M) : Bs lt k (A ++ L) (mgB lt [] A ++ M)
theorem Bs.len {α : Type} {lt : α → α → Bool} {k : Nat} {L M : List α} (h : Bs lt k L M) : M.length = L.length := by
  induction h with
  | last L h => rw [len_mgB]; simp
  | cons A L M h r ih => rw [List.length_append, List.length_append, len_mgB, ih]; simp
theorem Bs.mem {α : Type} {lt : α → α → Bool} {k : Nat} {L M : List α} (h : Bs lt k L M) : ∀ x, x ∈ M → x ∈ L := by
  induction h with
  | last L h => intro x hx; simpa using mem_mgB.1 hx
  | cons A L M h r ih =>
    intro x hx
    rcases List.mem_append.1 hx with hx | hx
    · exact List.mem_append_left _ (by simpa using mem_mgB.1 hx)
    · exact List.mem_append_right _ (ih x hx)
theorem Bs.small {α : Type} {lt : α → α → Bool} {k : Nat} {L M : List α} (h : Bs lt k L M) (hl : L.length ≤ k) : M = mgB lt [] L := by
  cases h with
  | last => rfl
  | cons A L M h r =>
    have : L = [] := List.eq_nil_of_length_eq_zero (by simp at hl; omega)
    subst this
    have : M = [] := List.eq_nil_of_length_eq_zero (by rw [r.len]; rfl)
    subst this
    simp
theorem Bs.nil {α : Type} {lt : α → α → Bool} (k : Nat) : Bs lt k [] [] := Bs.last [] (by simp)
theorem Bs.two {α : Type} {lt : α → α → Bool} {k : Nat} {L M : List α} (h : Bs lt k L M) (hk : 1 ≤ k) (hl : 2 * k ≤ L.length) : ∃ A B L' M', L = A ++ (B ++ L') ∧ A.length = k ∧ B.length = k ∧ M = mgB lt [] A ++ (mgB lt [] B ++ M') ∧ Bs lt k L' M' := by
  cases h with
  | last L h => omega
  | cons A L M h r =>
    cases r with
    | last L h2 => exact ⟨A, L, [], [], by simp, h, by simp at hl; omega, by simp, Bs.nil k⟩
    | cons B L M h2 r => exact ⟨A, B, L, M, rfl, h, h2, rfl, r⟩
theorem Bs.one {α : Type} {lt : α → α → Bool} {k : Nat} {L M : List α} (h : Bs lt k L M) (hl : L.length < 2 * k) (hk : k < L.length) : ∃ A B, L = A ++ B ∧ A.length = k ∧ B ≠ [] ∧ B.length ≤ k ∧ M = mgB lt [] A ++ mgB lt [] B := by
  cases h with
  | last L h => omega
  | cons A L M h r =>
    simp at hl hk
    refine ⟨A, L, rfl, h, fun e => by subst e; simp at hk; omega, by omega, ?_⟩
    rw [r.small (by omega)]
def ltBA (x y : Acct) : Bool := Op.bytesLess x.Id.toList y.Id.toList
def qBA (x : Acct) : Prop := True
theorem cmp_valA (x y : Acct) (_ : qBA x) (_ : qBA y) : ∃ c, impl_Gather_1 x y = some c ∧ decide (c < 0) = ltBA x y := by
  unfold impl_Gather_1 ltBA
  rcases tf (Op.bytesLess x.Id.toList y.Id.toList) with h | h
  · exact ⟨-1, by simp [h], by simp [h]⟩
  · rcases tf (x.Id == y.Id) with h2 | h2
    · exact ⟨0, by simp [h, h2], by simp [h]⟩
    · exact ⟨1, by simp [h, h2], by simp [h]⟩
theorem bytesLess_neg : ∀ a b c : List UInt8, Op.bytesLess a b = false → Op.bytesLess b c = false → Op.bytesLess a c = false
  | [], [], c, _, h => h
  | [], _ :: _, _, h, _ => by simp [Op.bytesLess] at h
  | _ :: _, [], [], _, _ => rfl
  | _ :: _, [], _ :: _, _, h => by simp [Op.bytesLess] at h
  | _ :: _, _ :: _, [], _, _ => rfl
  | x :: a, y :: b, z :: c, h1, h2 => by
    unfold Op.bytesLess at h1 h2 ⊢
    simp only [Bool.or_eq_false_iff, decide_eq_false_iff_not, Bool.and_eq_false_iff, beq_eq_false_iff_ne] at h1 h2 ⊢
    obtain ⟨p1, p2⟩ := h1
    obtain ⟨q1, q2⟩ := h2
    have p1' := mt UInt8.lt_iff_toNat_lt.2 p1
    have q1' := mt UInt8.lt_iff_toNat_lt.2 q1
    refine ⟨fun h => by have := UInt8.lt_iff_toNat_lt.1 h; omega, ?_⟩
    by_cases e : x = z
    · subst e
      have exy : x = y := UInt8.toNat_inj.1 (by omega)
      subst exy
      exact .inr (bytesLess_neg a b c (p2.resolve_left (fun h => h rfl)) (q2.resolve_left (fun h => h rfl)))
    · exact .inl e
theorem swBA : SwB ltBA := ⟨fun a b h => by unfold ltBA at h ⊢; rw [bytesLess_flip a.Id.toList b.Id.toList, h]; rfl, fun a b c h1 h2 => bytesLess_neg _ _ _ h1 h2⟩
theorem ins_l1_valA (a b v1 : Int) (P R : List Acct) (x : Acct) (hqx : qBA  x) (ha : a = (P.length : Int)) : ∀ (n : Nat) (S1 S2 : List Acct) (fuel : Nat), S1.length = n → n < fuel → SrtB (ltBA ) (S1 ++ S2) → (∀ s ∈ S2, ltBA  x s = true) → (∀ s ∈ S1, qBA  s) → P.length + n ≤ 4000000 →
    slices_insertionSortCmpFunc_impl_Acct_impl_Gather_1_l1 a b  v1 fuel ((P.length + n : Nat) : Int) (P ++ (S1 ++ (x :: (S2 ++ R)))) = some (P ++ (insB (ltBA ) x (S1 ++ S2) ++ R))
  | 0, S1, S2, fuel + 1, hn, hf, hs, h2, hq, hl => by
    have : S1 = [] := List.eq_nil_of_length_eq_zero hn
    subst this
    unfold slices_insertionSortCmpFunc_impl_Acct_impl_Gather_1_l1
    rw [if_neg (by simp [ha])]
    cases S2 with
    | nil => rfl
    | cons s S2 => simp [insB, h2 s (by simp)]
  | n + 1, S1, S2, fuel + 1, hn, hf, hs, h2, hq, hl => by
    obtain ⟨T, y, rfl⟩ := snoc_of (l := S1) (fun e => by simp [e] at hn)
    have hT : T.length = n := by simpa using hn
    have hPT : (P ++ T).length = P.length + n := by simp [hT]
    have hd : P ++ ((T ++ [y]) ++ (x :: (S2 ++ R))) = (P ++ T) ++ y :: x :: (S2 ++ R) := by simp
    have g1 : ((P ++ T) ++ y :: x :: (S2 ++ R))[P.length + (n + 1)]? = some x := by
      have := get1 (P ++ T) (S2 ++ R) y x
      rwa [hPT] at this
    have g0 : ((P ++ T) ++ y :: x :: (S2 ++ R))[P.length + n]? = some y := by
      have := get0 (P ++ T) (x :: (S2 ++ R)) y
      rwa [hPT] at this
    have e1 : i64 (((P.length + (n + 1) : Nat) : Int) - 1) = ((P.length + n : Nat) : Int) := i64_eq _ (by omega) (by omega)
    obtain ⟨c, c1, c2⟩ := cmp_valA  x y hqx (hq y (by simp))
    rw [hd]
    unfold slices_insertionSortCmpFunc_impl_Acct_impl_Gather_1_l1
    rw [if_pos (by simp [ha]; omega), if_pos (nnB _), Int.toNat_natCast, g1, Option.bind_some, e1, if_pos (nnB _), Int.toNat_natCast, g0, Option.bind_some]
    rcases tf (ltBA  x y) with h | h
    · have s1 : (((P ++ T) ++ y :: x :: (S2 ++ R)).set (P.length + (n + 1)) y).set (P.length + n) x = P ++ (T ++ (x :: ((y :: S2) ++ R))) := by
        have a1 := set1 (P ++ T) (S2 ++ R) y x y
        have a2 := set0 (P ++ T) (y :: (S2 ++ R)) y x
        rw [hPT] at a1 a2
        rw [show P.length + (n + 1) = P.length + n + 1 by omega, a1, a2]
        simp
      have ih := ins_l1_valA a b v1 P R x hqx ha n T (y :: S2) fuel hT (by omega) (by simpa using hs) (fun s hs2 => by
        rcases List.mem_cons.1 hs2 with rfl | hs2
        · exact h
        · exact h2 s hs2) (fun s hs2 => hq s (by simp [hs2])) (by omega)
      rw [if_pos (by simp)]
      rw [c1, Option.bind_some, c2, h, if_pos rfl, s1, ih, List.append_assoc]
      rfl
    · rw [if_pos (by simp)]
      rw [c1, Option.bind_some, c2, h, if_neg (by simp)]
      rw [set_get g1, set_get g0]
      have hb : ∀ t ∈ T ++ [y], ltBA  x t = false := fun t ht => by
        rcases List.mem_append.1 ht with ht | ht
        · have h3 := (List.pairwise_append.1 (srtB_app_left hs)).2.2 t ht y (by simp)
          exact (swBA ).2 x y t h h3
        · simp at ht
          subst ht
          exact h
      rw [insB_right hb, ← hd]
      congr 1
      simp only [List.append_assoc]
      cases S2 with
      | nil => rfl
      | cons s S2 => simp [insB, h2 s (by simp)]
theorem ins_l0_valA (a b : Int) (P R : List Acct) (ha : a = (P.length : Int)) : ∀ (T S : List Acct) (fuel : Nat), T.length < fuel → SrtB (ltBA ) S → (∀ s ∈ S, qBA  s) → (∀ s ∈ T, qBA  s) → P.length + S.length + T.length ≤ 4000000 → b = ((P.length + S.length + T.length : Nat) : Int) →
    slices_insertionSortCmpFunc_impl_Acct_impl_Gather_1_l0 a b  fuel ((P.length + S.length : Nat) : Int) (P ++ (S ++ (T ++ R))) = some (P ++ (mgB (ltBA ) S T ++ R))
  | [], S, fuel + 1, hf, hs, hq, hq2, hl, hb => by
    unfold slices_insertionSortCmpFunc_impl_Acct_impl_Gather_1_l0
    rw [if_neg (by simp at hb; simp [hb])]
    rfl
  | x :: T, S, fuel + 1, hf, hs, hq, hq2, hl, hb => by
    simp only [List.length_cons] at hl hb hf
    have h1 := ins_l1_valA a b ((P.length + S.length : Nat) : Int) P (T ++ R) x (hq2 x (by simp)) ha S.length S [] FUEL rfl (by unfold FUEL; omega) (by simpa using hs) (by simp) hq (by omega)
    have ih := ins_l0_valA a b P R ha T (insB (ltBA ) x S) fuel (by omega) (srtB_ins (swBA ) x hs) (fun s hs => (mem_insB.1 hs).elim (fun e => e ▸ hq2 x (by simp)) (hq s)) (fun s hs => hq2 s (by simp [hs])) (by rw [len_insB]; omega) (by rw [len_insB]; omega)
    simp only [List.nil_append, List.append_nil] at h1
    have e1 : i64 (((P.length + S.length : Nat) : Int) + 1) = ((P.length + (insB (ltBA ) x S).length : Nat) : Int) := by rw [len_insB]; exact i64_eq _ (by omega) (by omega)
    unfold slices_insertionSortCmpFunc_impl_Acct_impl_Gather_1_l0
    rw [if_pos (by rw [hb]; simp; omega), List.cons_append, h1, Option.bind_some, e1, ih]
    rfl
theorem ins_valA (P T R : List Acct) (hq : ∀ s ∈ T, qBA  s) (hl : P.length + T.length ≤ 4000000) (a b : Int) (ha : a = (P.length : Int)) (hb : b = ((P.length + T.length : Nat) : Int)) : slices_insertionSortCmpFunc_impl_Acct_impl_Gather_1 (P ++ (T ++ R)) a b  = some (P ++ (mgB (ltBA ) [] T ++ R)) := by
  unfold slices_insertionSortCmpFunc_impl_Acct_impl_Gather_1
  cases T with
  | nil =>
    have e1 : i64 (a + 1) = ((P.length + 1 : Nat) : Int) := i64_eq _ (by omega) (by omega)
    rw [e1]
    have : FUEL = 4194303 + 1 := rfl
    rw [this]
    unfold slices_insertionSortCmpFunc_impl_Acct_impl_Gather_1_l0
    rw [if_neg (by rw [hb]; simp; omega)]
    rfl
  | cons x T =>
    simp only [List.length_cons] at hl hb
    have := ins_l0_valA a b P R ha T [x] FUEL (by unfold FUEL; omega) (by simp [SrtB]) (fun s hs => by simp at hs; subst hs; exact hq s (by simp)) (fun s hs => hq s (by simp [hs])) (by simp <;> omega) (by simp <;> omega)
    have e1 : i64 (a + 1) = ((P.length + [x].length : Nat) : Int) := i64_eq _ (by simp <;> omega) (by simp <;> omega)
    rw [e1]
    simp only [List.cons_append, List.nil_append] at this ⊢
    rw [this]
    rfl
theorem swr_l0_valA (a b n : Int) (P M R : List Acct) : ∀ (U2 V2 U1 V1 : List Acct) (fuel : Nat), U2.length = V2.length → U1.length = V1.length → U2.length < fuel → P.length + M.length + U1.length + U2.length + V1.length + V2.length ≤ 4000000 → a = (P.length : Int) → b = ((P.length + (U1.length + U2.length) + M.length : Nat) : Int) → n = ((U1.length + U2.length : Nat) : Int) →
    slices_swapRangeCmpFunc_impl_Acct_impl_Gather_1_l0 a b n fuel (U1.length : Int) (P ++ (V1 ++ (U2 ++ (M ++ (U1 ++ (V2 ++ R)))))) = some (P ++ (V1 ++ (V2 ++ (M ++ (U1 ++ (U2 ++ R))))))
  | [], V2, U1, V1, fuel + 1, h1, h2, hf, hl, ha, hb, hn => by
    have : V2 = [] := List.eq_nil_of_length_eq_zero h1.symm
    subst this
    unfold slices_swapRangeCmpFunc_impl_Acct_impl_Gather_1_l0
    rw [if_neg (by simp [hn])]
  | u :: U2, [], U1, V1, fuel + 1, h1, _, _, _, _, _, _ => by simp at h1
  | u :: U2, v :: V2, U1, V1, fuel + 1, h1, h2, hf, hl, ha, hb, hn => by
    simp only [List.length_cons] at h1 hf hl hb hn
    have ea : i64 (a + (U1.length : Int)) = (((P ++ V1).length : Nat) : Int) := i64_eq _ (by simp <;> omega) (by simp <;> omega)
    have eb : i64 (b + (U1.length : Int)) = (((P ++ V1).length + 1 + (U2 ++ (M ++ U1)).length : Nat) : Int) := i64_eq _ (by simp <;> omega) (by simp <;> omega)
    have hd : P ++ (V1 ++ ((u :: U2) ++ (M ++ (U1 ++ ((v :: V2) ++ R))))) = (P ++ V1) ++ u :: ((U2 ++ (M ++ U1)) ++ v :: (V2 ++ R)) := by simp
    have hd2 : (P ++ V1) ++ v :: ((U2 ++ (M ++ U1)) ++ u :: (V2 ++ R)) = P ++ ((V1 ++ [v]) ++ (U2 ++ (M ++ ((U1 ++ [u]) ++ (V2 ++ R))))) := by simp
    have ih := swr_l0_valA a b n P M R U2 V2 (U1 ++ [u]) (V1 ++ [v]) fuel (by omega) (by simp <;> omega) (by omega) (by simp <;> omega) ha (by rw [hb]; simp; omega) (by rw [hn]; simp; omega)
    have ei : i64 ((U1.length : Int) + 1) = ((U1 ++ [u]).length : Int) := i64_eq _ (by simp <;> omega) (by simp)
    have g2 := getB (P ++ V1) (U2 ++ (M ++ U1)) (V2 ++ R) u v
    have g1 := get0 (P ++ V1) ((U2 ++ (M ++ U1)) ++ v :: (V2 ++ R)) u
    have s1 := set0 (P ++ V1) ((U2 ++ (M ++ U1)) ++ v :: (V2 ++ R)) u v
    have s2 := setB (P ++ V1) (U2 ++ (M ++ U1)) (V2 ++ R) v v u
    rw [hd]
    unfold slices_swapRangeCmpFunc_impl_Acct_impl_Gather_1_l0
    rw [if_pos (by rw [hn]; simp; omega), ea, eb, if_pos (nnB _), Int.toNat_natCast, g2, Option.bind_some, if_pos (nnB _), Int.toNat_natCast, g1, Option.bind_some, if_pos (by simp; omega), s1, s2, ei, hd2, ih]
    simp
theorem swr_valA (P U M V R : List Acct) (hu : U.length = V.length) (hl : P.length + U.length + M.length + V.length ≤ 4000000) (a b n : Int) (ha : a = (P.length : Int)) (hb : b = ((P.length + U.length + M.length : Nat) : Int)) (hn : n = (U.length : Int)) :
    slices_swapRangeCmpFunc_impl_Acct_impl_Gather_1 (P ++ (U ++ (M ++ (V ++ R)))) a b n  = some (P ++ (V ++ (M ++ (U ++ R)))) := by
  have := swr_l0_valA a b n P M R U V [] [] FUEL hu rfl (by unfold FUEL; omega) (by simp <;> omega) ha (by simpa using hb) (by simpa using hn)
  unfold slices_swapRangeCmpFunc_impl_Acct_impl_Gather_1
  simp only [List.nil_append, List.length_nil] at this
  rw [show (0 : Int) = ((0 : Nat) : Int) from rfl, this]
  rfl
theorem rot_l0_valA (m : Int) : ∀ (k : Nat) (P A B R : List Acct) (fuel : Nat), A.length + B.length ≤ k → k < fuel → A ≠ [] → B ≠ [] → P.length + A.length + B.length ≤ 2000000 → m = ((P.length + A.length : Nat) : Int) →
    ∃ (P' A' B' R' : List Acct), slices_rotateCmpFunc_impl_Acct_impl_Gather_1_l0 m  fuel (A.length : Int) (B.length : Int) (P ++ (A ++ (B ++ R))) = some ((A'.length : Int), P' ++ (A' ++ (B' ++ R'))) ∧ A'.length = B'.length ∧ P'.length + A'.length = P.length + A.length ∧ P'.length + A'.length + B'.length ≤ 2000000 ∧ P' ++ (B' ++ (A' ++ R')) = P ++ (B ++ (A ++ R))
  | 0, P, A, B, R, fuel, hk, hf, hA, hB, hl, hm => by
    exact absurd (List.eq_nil_of_length_eq_zero (by omega)) hA
  | k + 1, P, A, B, R, fuel + 1, hk, hf, hA, hB, hl, hm => by
    have pA : 0 < A.length := List.length_pos_iff.2 hA
    have pB : 0 < B.length := List.length_pos_iff.2 hB
    unfold slices_rotateCmpFunc_impl_Acct_impl_Gather_1_l0
    rcases Nat.lt_trichotomy A.length B.length with h | h | h
    · obtain ⟨B1, B2, rfl, hb2⟩ : ∃ B1 B2, B = B1 ++ B2 ∧ B2.length = A.length := ⟨B.take (B.length - A.length), B.drop (B.length - A.length), (List.take_append_drop _ _).symm, by simp; omega⟩
      simp only [List.length_append] at hk hl h pB
      have e1 : i64 (m - (A.length : Int)) = (P.length : Int) := i64_eq _ (by omega) (by omega)
      have e2 : i64 (i64 (m + ((B1 ++ B2).length : Int)) - (A.length : Int)) = ((P.length + A.length + B1.length : Nat) : Int) := by
        rw [i64_eq (x := m + ((B1 ++ B2).length : Int)) (P.length + A.length + B1.length + B2.length) (by omega) (by simp <;> omega)]
        exact i64_eq _ (by omega) (by omega)
      have e3 : i64 (((B1 ++ B2).length : Int) - (A.length : Int)) = (B1.length : Int) := i64_eq _ (by omega) (by simp <;> omega)
      have sw := swr_valA  P A B1 B2 R (by omega) (by omega) (P.length : Int) _ (A.length : Int) rfl rfl rfl
      have hB1 : B1 ≠ [] := fun e => by simp [e] at h; omega
      obtain ⟨P', A', B', R', q1, q2, q3, q4, q5⟩ := rot_l0_valA m  k P B2 B1 (A ++ R) fuel (by omega) (by omega) (fun e => by simp [e] at hb2; omega) hB1 (by omega) (by omega)
      refine ⟨P', A', B', R', ?_, q2, by omega, q4, by rw [q5]; simp⟩
      rw [if_pos (by simp <;> omega), if_neg (by simp <;> omega), e1, e2, e3, List.append_assoc B1, sw, Option.bind_some]
      rw [hb2] at q1
      exact q1
    · refine ⟨P, A, B, R, ?_, h, rfl, by omega, rfl⟩
      rw [if_neg (by simp [h])]
    · obtain ⟨A1, A2, rfl, ha1⟩ : ∃ A1 A2, A = A1 ++ A2 ∧ A1.length = B.length := ⟨A.take B.length, A.drop B.length, (List.take_append_drop _ _).symm, by simp; omega⟩
      simp only [List.length_append] at hk hl h hm pA
      have e1 : i64 (m - ((A1 ++ A2).length : Int)) = (P.length : Int) := i64_eq _ (by omega) (by simp <;> omega)
      have e3 : i64 (((A1 ++ A2).length : Int) - (B.length : Int)) = (A2.length : Int) := i64_eq _ (by omega) (by simp <;> omega)
      have sw := swr_valA  P A1 A2 B R (by omega) (by omega) (P.length : Int) m (B.length : Int) rfl (by omega) (by omega)
      have hA2 : A2 ≠ [] := fun e => by simp [e] at h; omega
      obtain ⟨P', A', B', R', q1, q2, q3, q4, q5⟩ := rot_l0_valA m  k (P ++ B) A2 A1 R fuel (by omega) (by omega) hA2 (fun e => by simp [e] at ha1; omega) (by simp <;> omega) (by simp <;> omega)
      refine ⟨P', A', B', R', ?_, q2, by simp at q3 ⊢; omega, q4, by rw [q5]; simp⟩
      rw [if_pos (by simp <;> omega), if_pos (by simp <;> omega), e1, e3, List.append_assoc A1, sw, Option.bind_some]
      rw [ha1, List.append_assoc] at q1
      exact q1
theorem rot_valA (P A B R : List Acct) (hA : A ≠ []) (hB : B ≠ []) (hl : P.length + A.length + B.length ≤ 2000000) (a m b : Int) (ha : a = (P.length : Int)) (hm : m = ((P.length + A.length : Nat) : Int)) (hb : b = ((P.length + A.length + B.length : Nat) : Int)) :
    slices_rotateCmpFunc_impl_Acct_impl_Gather_1 (P ++ (A ++ (B ++ R))) a m b  = some (P ++ (B ++ (A ++ R))) := by
  obtain ⟨P', A', B', R', q1, q2, q3, q4, q5⟩ := rot_l0_valA m  (A.length + B.length) P A B R FUEL (Nat.le_refl _) (by unfold FUEL; omega) hA hB hl hm
  have e1 : i64 (m - a) = (A.length : Int) := i64_eq _ (by omega) (by omega)
  have e2 : i64 (b - m) = (B.length : Int) := i64_eq _ (by omega) (by omega)
  have e3 : i64 (m - (A'.length : Int)) = (P'.length : Int) := i64_eq _ (by omega) (by omega)
  have sw := swr_valA  P' A' [] B' R' q2 (by simp <;> omega) (P'.length : Int) m (A'.length : Int) rfl (by simp <;> omega) rfl
  unfold slices_rotateCmpFunc_impl_Acct_impl_Gather_1
  simp only [List.nil_append] at sw
  rw [e1, e2, q1, Option.bind_some, e3, sw, Option.bind_some, q5]
theorem bs0_valA (d : List Acct) (x : Acct) (a : Nat) (ha : d[a]? = some x) (hq : ∀ s ∈ d, qBA  s) (hl : d.length ≤ 4000000) (k : Nat) : ∀ (n i j fuel : Nat), j - i ≤ n → n < fuel → i ≤ k → k ≤ j → j ≤ d.length → (∀ h, i ≤ h → h < j → ¬ a = h) → (∀ h y, i ≤ h → h < k → d[h]? = some y → ltBA  y x = true) → (∀ h y, k ≤ h → h < j → d[h]? = some y → ltBA  y x = false) →
    slices_symMergeCmpFunc_impl_Acct_impl_Gather_1_l0  (a : Int)  fuel (i : Int) (j : Int) d = some ((k : Int), d)
  | n, i, j, 0, _, hf, _, _, _, _, _, _ => by omega
  | n, i, j, fuel + 1, hn, hf, hi, hj, hjl, hne, h1, h2 => by
    unfold slices_symMergeCmpFunc_impl_Acct_impl_Gather_1_l0 slices_symMergeCmpFunc_impl_Acct_impl_Gather_1_c2
    rcases Nat.lt_or_ge i j with hij | hij
    · have eh := half_val i j (by omega)
      generalize hh : (i + j) / 2 = h at eh
      obtain ⟨y, hy⟩ : ∃ y, d[h]? = some y := ⟨d[h]'(by omega), List.getElem?_eq_getElem (by omega)⟩
      obtain ⟨c, c1, c2⟩ := cmp_valA  y x (hq y (List.mem_of_getElem? hy)) (hq x (List.mem_of_getElem? ha))
      have hne1 := hne h (by omega) (by omega)
      have e1 : i64 ((h : Int) + 1) = ((h + 1 : Nat) : Int) := i64_eq _ (by omega) (by omega)
      rw [if_pos (by simp <;> omega)]
      simp only [Option.bind_some, Lo.elim, eh, nnB, if_true, Int.toNat_natCast, hy, ha, hne1, not_false_eq_true, decide_true, c1, c2, e1, set_get hy, set_get ha]
      rcases Nat.lt_or_ge h k with hk | hk
      · rw [h1 h y (by omega) hk hy, if_pos rfl]
        exact bs0_valA d x a ha hq hl k (n - 1) (h + 1) j fuel (by omega) (by omega) (by omega) hj hjl (fun q z1 z2 => hne q (by omega) z2) (fun q z z1 z2 => h1 q z (by omega) z2) h2
      · rw [h2 h y hk (by omega) hy, if_neg (by simp)]
        exact bs0_valA d x a ha hq hl k (n - 1) i h fuel (by omega) (by omega) hi hk (by omega) (fun q z1 z2 => hne q z1 (by omega)) h1 (fun q z z1 z2 => h2 q z z1 (by omega))
    · rw [if_neg (by simp <;> omega)]
      obtain rfl : i = k := by omega
      rfl
theorem bs2_valA (d : List Acct) (y : Acct) (m : Nat) (hm : d[m]? = some y) (hq : ∀ s ∈ d, qBA  s) (hl : d.length ≤ 4000000) (k : Nat) : ∀ (n i j fuel : Nat), j - i ≤ n → n < fuel → i ≤ k → k ≤ j → j ≤ d.length → (∀ h, i ≤ h → h < j → ¬ h = m) → (∀ h x, i ≤ h → h < k → d[h]? = some x → ltBA  y x = false) → (∀ h x, k ≤ h → h < j → d[h]? = some x → ltBA  y x = true) →
    slices_symMergeCmpFunc_impl_Acct_impl_Gather_1_l2  (m : Int)  fuel (i : Int) (j : Int) d = some ((k : Int), d)
  | n, i, j, 0, _, hf, _, _, _, _, _, _ => by omega
  | n, i, j, fuel + 1, hn, hf, hi, hj, hjl, hne, h1, h2 => by
    unfold slices_symMergeCmpFunc_impl_Acct_impl_Gather_1_l2 slices_symMergeCmpFunc_impl_Acct_impl_Gather_1_c7
    rcases Nat.lt_or_ge i j with hij | hij
    · have eh := half_val i j (by omega)
      generalize hh : (i + j) / 2 = h at eh
      obtain ⟨x, hx⟩ : ∃ x, d[h]? = some x := ⟨d[h]'(by omega), List.getElem?_eq_getElem (by omega)⟩
      obtain ⟨c, c1, c2⟩ := cmp_valA  y x (hq y (List.mem_of_getElem? hm)) (hq x (List.mem_of_getElem? hx))
      have hne1 := hne h (by omega) (by omega)
      have e1 : i64 ((h : Int) + 1) = ((h + 1 : Nat) : Int) := i64_eq _ (by omega) (by omega)
      rw [if_pos (by simp <;> omega)]
      simp only [Option.bind_some, Lo.elim, eh, nnB, if_true, Int.toNat_natCast, hx, hm, hne1, not_false_eq_true, decide_true, c1, c2, e1, set_get hm, set_get hx]
      rcases Nat.lt_or_ge h k with hk | hk
      · rw [h1 h x (by omega) hk hx, if_neg (by simp)]
        exact bs2_valA d y m hm hq hl k (n - 1) (h + 1) j fuel (by omega) (by omega) (by omega) hj hjl (fun q z1 z2 => hne q (by omega) z2) (fun q z z1 z2 => h1 q z (by omega) z2) h2
      · rw [h2 h x hk (by omega) hx, if_pos rfl]
        exact bs2_valA d y m hm hq hl k (n - 1) i h fuel (by omega) (by omega) hi hk (by omega) (fun q z1 z2 => hne q z1 (by omega)) h1 (fun q z z1 z2 => h2 q z z1 (by omega))
    · rw [if_neg (by simp <;> omega)]
      obtain rfl : i = k := by omega
      rfl
theorem bs4_valA (d : List Acct) (a m b : Nat) (hq : ∀ s ∈ d, qBA  s) (hl : d.length ≤ 4000000) (hab : a + b ≤ 8000000) (hm : m ≤ 4000000) (k : Nat) : ∀ (n i j fuel : Nat), j - i ≤ n → n < fuel → i ≤ k → k ≤ j → j ≤ d.length → (∀ c, i ≤ c → c < j → c + 1 ≤ (a + b) / 2 + m ∧ (a + b) / 2 + m - 1 - c < d.length ∧ ¬ c = (a + b) / 2 + m - 1 - c) →
    (∀ c x y, i ≤ c → c < k → d[c]? = some x → d[(a + b) / 2 + m - 1 - c]? = some y → ltBA  y x = false) → (∀ c x y, k ≤ c → c < j → d[c]? = some x → d[(a + b) / 2 + m - 1 - c]? = some y → ltBA  y x = true) →
    slices_symMergeCmpFunc_impl_Acct_impl_Gather_1_l4  (a : Int) (m : Int) (b : Int)  fuel (i : Int) (j : Int) d = some ((k : Int), d)
  | n, i, j, 0, _, hf, _, _, _, _, _, _ => by omega
  | n, i, j, fuel + 1, hn, hf, hi, hj, hjl, hne, h1, h2 => by
    unfold slices_symMergeCmpFunc_impl_Acct_impl_Gather_1_l4 slices_symMergeCmpFunc_impl_Acct_impl_Gather_1_c12
    rcases Nat.lt_or_ge i j with hij | hij
    · have eh := half_val i j (by omega)
      have em := half_val a b (by omega)
      generalize hh : (i + j) / 2 = h at eh
      obtain ⟨n1, n2, n3⟩ := hne h (by omega) (by omega)
      have e2 : i64 (i64 (i64 ((((a + b) / 2 : Nat) : Int) + (m : Int)) - 1) - (h : Int)) = (((a + b) / 2 + m - 1 - h : Nat) : Int) := by
        rw [i64_eq (x := (((a + b) / 2 : Nat) : Int) + (m : Int)) ((a + b) / 2 + m) (by omega) (by omega), i64_eq (x := (((a + b) / 2 + m : Nat) : Int) - 1) ((a + b) / 2 + m - 1) (by omega) (by omega)]
        exact i64_eq _ (by omega) (by omega)
      obtain ⟨x, hx⟩ : ∃ x, d[h]? = some x := ⟨d[h]'(by omega), List.getElem?_eq_getElem (by omega)⟩
      obtain ⟨y, hy⟩ : ∃ y, d[(a + b) / 2 + m - 1 - h]? = some y := ⟨d[(a + b) / 2 + m - 1 - h]'(by omega), List.getElem?_eq_getElem (by omega)⟩
      obtain ⟨c, c1, c2⟩ := cmp_valA  y x (hq y (List.mem_of_getElem? hy)) (hq x (List.mem_of_getElem? hx))
      have e1 : i64 ((h : Int) + 1) = ((h + 1 : Nat) : Int) := i64_eq _ (by omega) (by omega)
      rw [if_pos (by simp <;> omega)]
      simp only [Option.bind_some, Lo.elim, eh, em, e2, nnB, if_true, Int.toNat_natCast, hx, hy, n3, not_false_eq_true, decide_true, c1, c2, e1, set_get hy, set_get hx]
      rcases Nat.lt_or_ge h k with hk | hk
      · rw [h1 h x y (by omega) hk hx hy, if_neg (by simp)]
        exact bs4_valA d a m b hq hl hab hm k (n - 1) (h + 1) j fuel (by omega) (by omega) (by omega) hj hjl (fun q z1 z2 => hne q (by omega) z2) (fun q z w z1 z2 => h1 q z w (by omega) z2) h2
      · rw [h2 h x y hk (by omega) hx hy, if_pos rfl]
        exact bs4_valA d a m b hq hl hab hm k (n - 1) i h fuel (by omega) (by omega) hi hk (by omega) (fun q z1 z2 => hne q z1 (by omega)) h1 (fun q z w z1 z2 => h2 q z w z1 (by omega))
    · rw [if_neg (by simp <;> omega)]
      obtain rfl : i = k := by omega
      rfl
theorem sh1_valA (W : List Acct) (x : Acct) (r : Int × List Acct) : ∀ (B P : List Acct) (fuel : Nat), r.1 = ((P.length + B.length + 1 : Nat) : Int) → B.length < fuel → P.length + B.length ≤ 4000000 → slices_symMergeCmpFunc_impl_Acct_impl_Gather_1_l1 r fuel (P.length : Int) (P ++ x :: (B ++ W)) = some (P ++ (B ++ x :: W))
  | [], P, fuel + 1, hr, hf, hl => by
    have e1 : i64 (r.1 - 1) = (P.length : Int) := i64_eq _ (by omega) (by rw [hr]; simp)
    unfold slices_symMergeCmpFunc_impl_Acct_impl_Gather_1_l1 slices_symMergeCmpFunc_impl_Acct_impl_Gather_1_c4
    rw [e1, if_neg (by simp)]
    rfl
  | y :: B, P, fuel + 1, hr, hf, hl => by
    simp only [List.length_cons] at hr hf hl
    have e1 : i64 (r.1 - 1) = ((P.length + B.length + 1 : Nat) : Int) := i64_eq _ (by omega) (by rw [hr]; omega)
    have e2 : i64 ((P.length : Int) + 1) = ((P.length + 1 : Nat) : Int) := i64_eq _ (by omega) (by omega)
    have g1 := get1 P (B ++ W) x y
    have g0 := get0 P (y :: (B ++ W)) x
    have s0 := set0 P (y :: (B ++ W)) x y
    have s1 := set1 P (B ++ W) y y x
    have ih := sh1_valA W x r B (P ++ [y]) fuel (by rw [hr]; simp; omega) (by omega) (by simp <;> omega)
    have el : ((P ++ [y]).length : Int) = ((P.length + 1 : Nat) : Int) := by simp
    rw [el, List.append_assoc] at ih
    unfold slices_symMergeCmpFunc_impl_Acct_impl_Gather_1_l1 slices_symMergeCmpFunc_impl_Acct_impl_Gather_1_c4
    rw [e1, if_pos (by simp <;> omega)]
    simp only [Option.bind_some, Lo.elim, e2, nnB, if_true, Int.toNat_natCast, List.cons_append, g1, g0, show ¬ P.length = P.length + 1 by omega, not_false_eq_true, decide_true, s0, s1]
    rw [show P ++ y :: x :: (B ++ W) = P ++ ([y] ++ x :: (B ++ W)) from rfl, ih]
    simp
theorem sh3_valA (y : Acct) (r : Int × List Acct) (P : List Acct) (hr : r.1 = (P.length : Int)) : ∀ (n : Nat) (A W : List Acct) (fuel : Nat), A.length = n → n < fuel → P.length + n ≤ 4000000 → slices_symMergeCmpFunc_impl_Acct_impl_Gather_1_l3 r fuel ((P.length + n : Nat) : Int) (P ++ (A ++ y :: W)) = some (P ++ y :: (A ++ W))
  | 0, A, W, fuel + 1, hn, hf, hl => by
    have : A = [] := List.eq_nil_of_length_eq_zero hn
    subst this
    unfold slices_symMergeCmpFunc_impl_Acct_impl_Gather_1_l3 slices_symMergeCmpFunc_impl_Acct_impl_Gather_1_c9
    rw [hr, if_neg (by simp)]
    rfl
  | n + 1, A, W, fuel + 1, hn, hf, hl => by
    obtain ⟨T, z, rfl⟩ := snoc_of (l := A) (fun e => by simp [e] at hn)
    have hT : T.length = n := by simpa using hn
    have hPT : (P ++ T).length = P.length + n := by simp [hT]
    have hd : P ++ ((T ++ [z]) ++ y :: W) = (P ++ T) ++ z :: y :: W := by simp
    have g1 := get1 (P ++ T) W z y
    have g0 := get0 (P ++ T) (y :: W) z
    have s1 := set1 (P ++ T) W z y z
    have s0 := set0 (P ++ T) (z :: W) z y
    rw [hPT] at g1 g0 s1 s0
    have e2 : i64 (((P.length + n + 1 : Nat) : Int) - 1) = ((P.length + n : Nat) : Int) := i64_eq _ (by omega) (by omega)
    have ih := sh3_valA y r P hr n T (z :: W) fuel hT (by omega) (by omega)
    rw [hd]
    unfold slices_symMergeCmpFunc_impl_Acct_impl_Gather_1_l3 slices_symMergeCmpFunc_impl_Acct_impl_Gather_1_c9
    rw [hr, if_pos (by simp <;> omega)]
    simp only [Option.bind_some, Lo.elim, e2, nnB, if_true, Int.toNat_natCast, show P.length + (n + 1) = P.length + n + 1 by omega, g1, g0, show ¬ P.length + n + 1 = P.length + n by omega, not_false_eq_true, decide_true, s1, s0]
    rw [List.append_assoc, ih]
    simp
set_option maxHeartbeats 8000000 in
theorem sym_valA : ∀ (N : Nat) (P A B R : List Acct) (fuel : Nat), A.length + B.length ≤ N → N < fuel → A ≠ [] → B ≠ [] → SrtB (ltBA ) A → SrtB (ltBA ) B → (∀ s ∈ P ++ (A ++ (B ++ R)), qBA  s) → (P ++ (A ++ (B ++ R))).length ≤ 2000000 →
    slices_symMergeCmpFunc_impl_Acct_impl_Gather_1 fuel (P ++ (A ++ (B ++ R))) (P.length : Int) ((P.length + A.length : Nat) : Int) ((P.length + A.length + B.length : Nat) : Int)  = some (P ++ (mgB (ltBA ) A B ++ R))
  | 0, P, A, B, R, fuel, hN, hf, hA, hB, sA, sB, hq, hl => absurd (List.eq_nil_of_length_eq_zero (by omega)) hA
  | N + 1, P, A, B, R, fuel + 1, hN, hf, hA, hB, sA, sB, hq, hl => by
    have hlen : (P ++ (A ++ (B ++ R))).length = P.length + A.length + B.length + R.length := by simp; omega
    have pA : 0 < A.length := List.length_pos_iff.2 hA
    have pB : 0 < B.length := List.length_pos_iff.2 hB
    have dA : ∀ c, P.length ≤ c → c < P.length + A.length → (P ++ (A ++ (B ++ R)))[c]? = A[c - P.length]? := fun c h1 h2 => by
      rw [List.getElem?_append_right h1, List.getElem?_append_left (by omega)]
    have dB : ∀ c, P.length + A.length ≤ c → c < P.length + A.length + B.length → (P ++ (A ++ (B ++ R)))[c]? = B[c - (P.length + A.length)]? := fun c h1 h2 => by
      rw [List.getElem?_append_right (by omega), List.getElem?_append_right (by omega), List.getElem?_append_left (by omega)]
      congr 1; omega
    have eA : i64 (((P.length + A.length : Nat) : Int) - (P.length : Int)) = (A.length : Int) := i64_eq _ (by omega) (by omega)
    have eB : i64 (((P.length + A.length + B.length : Nat) : Int) - ((P.length + A.length : Nat) : Int)) = (B.length : Int) := i64_eq _ (by omega) (by omega)
    unfold slices_symMergeCmpFunc_impl_Acct_impl_Gather_1 slices_symMergeCmpFunc_impl_Acct_impl_Gather_1_c0 slices_symMergeCmpFunc_impl_Acct_impl_Gather_1_c5
    rw [eA, eB]
    by_cases hα : A.length = 1
    · obtain ⟨x, rfl⟩ := List.length_eq_one_iff.1 hα
      have hB0 : B.takeWhile (fun y => ltBA  y x) ++ B.dropWhile (fun y => ltBA  y x) = B := List.takeWhile_append_dropWhile
      generalize hB1 : B.takeWhile (fun y => ltBA  y x) = B1 at hB0
      generalize hB2 : B.dropWhile (fun y => ltBA  y x) = B2 at hB0
      have m1 : ∀ b ∈ B1, ltBA  b x = true := fun b hb => by rw [← hB1] at hb; exact mem_tw (fun y => ltBA  y x) hb
      have m2 : ∀ b ∈ B2, ltBA  b x = false := fun b hb => by
        cases hc : B2 with
        | nil => rw [hc] at hb; simp at hb
        | cons z Z =>
          have hz : ltBA  z x = false := by
            have := List.head?_dropWhile_not (fun y => ltBA  y x) B
            rw [hB2, hc] at this
            simpa using this
          rw [hc] at hb
          rcases List.mem_cons.1 hb with rfl | hb
          · exact hz
          · have s2 : SrtB (ltBA ) B2 := by rw [← hB0] at sB; exact srtB_app_right sB
            rw [hc] at s2
            exact (swBA ).2 b z x ((List.pairwise_cons.1 s2).1 b hb) hz
      subst hB0
      have hx : (P ++ ([x] ++ ((B1 ++ B2) ++ R)))[P.length]? = some x := by simp
      have r1 := bs0_valA  (P ++ ([x] ++ ((B1 ++ B2) ++ R))) x P.length hx hq (by omega) (P.length + 1 + B1.length) (B1 ++ B2).length (P.length + [x].length) (P.length + [x].length + (B1 ++ B2).length) FUEL (by omega) (by simp at hl ⊢; unfold FUEL; omega) (by simp) (by simp <;> omega) (by simp <;> omega) (fun h z1 z2 => by simp at z1; omega)
        (fun h y z1 z2 z3 => by
          simp at z1
          rw [dB h (by simp <;> omega) (by simp <;> omega), List.getElem?_append_left (by simp <;> omega)] at z3
          exact m1 y (List.mem_of_getElem? z3))
        (fun h y z1 z2 z3 => by
          rw [dB h (by simp <;> omega) z2, List.getElem?_append_right (by simp <;> omega)] at z3
          exact m2 y (List.mem_of_getElem? z3))
      have r2 := sh1_valA (B2 ++ R) x (((P.length + 1 + B1.length : Nat) : Int), P ++ x :: (B1 ++ (B2 ++ R))) B1 P FUEL (by simp <;> omega) (by simp at hl; unfold FUEL; omega) (by simp at hl; omega)
      have hres : mgB (ltBA ) [x] (B1 ++ B2) = B1 ++ x :: B2 := by
        have := mgB_split (lt := ltBA ) (A1 := []) (A2 := [x]) (B1 := B1) (B2 := B2) (fun b hb y hy => by simp at hy; subst hy; exact m1 b hb) (fun b hb x hx => by simp at hx) (fun b hb z hz => (List.pairwise_append.1 sB).2.2 z hz b hb)
        rw [List.nil_append] at this
        rw [this, mgB_sorted B1 [] (by simpa using srtB_app_left sB), mgB_sorted B2 [x] (List.pairwise_cons.2 ⟨m2, srtB_app_right sB⟩)]
        rfl
      rw [if_pos (by simp)]
      rw [show P ++ ([x] ++ ((B1 ++ B2) ++ R)) = P ++ x :: (B1 ++ (B2 ++ R)) by simp] at r1 ⊢
      rw [r1]
      simp only [Option.bind_some]
      rw [r2, hres]
      simp [Lo.elim]
    · rw [if_neg (by simp <;> omega)]
      simp only [Option.bind_some, Lo.elim]
      by_cases hβ : B.length = 1
      · obtain ⟨y, rfl⟩ := List.length_eq_one_iff.1 hβ
        have hA0 : A.takeWhile (fun x => !ltBA  y x) ++ A.dropWhile (fun x => !ltBA  y x) = A := List.takeWhile_append_dropWhile
        generalize hA1 : A.takeWhile (fun x => !ltBA  y x) = A1 at hA0
        generalize hA2 : A.dropWhile (fun x => !ltBA  y x) = A2 at hA0
        have m1 : ∀ x ∈ A1, ltBA  y x = false := fun b hb => by rw [← hA1] at hb; have := mem_tw (fun x => !ltBA  y x) hb; simpa using this
        have m2 : ∀ x ∈ A2, ltBA  y x = true := fun b hb => by
          cases hc : A2 with
          | nil => rw [hc] at hb; simp at hb
          | cons z Z =>
            have hz : ltBA  y z = true := by
              have := List.head?_dropWhile_not (fun x => !ltBA  y x) A
              rw [hA2, hc] at this
              simpa using this
            rw [hc] at hb
            rcases List.mem_cons.1 hb with rfl | hb
            · exact hz
            · have s2 : SrtB (ltBA ) A2 := by rw [← hA0] at sA; exact srtB_app_right sA
              rw [hc] at s2
              have h3 := (List.pairwise_cons.1 s2).1 b hb
              rcases tf (ltBA  y b) with h4 | h4
              · exact h4
              · have := (swBA ).2 y b z h4 h3
                rw [hz] at this; cases this
        subst hA0
        have hy : (P ++ ((A1 ++ A2) ++ ([y] ++ R)))[P.length + (A1 ++ A2).length]? = some y := by
          rw [List.getElem?_append_right (by omega), List.getElem?_append_right (by omega)]
          simp
        have r1 := bs2_valA  (P ++ ((A1 ++ A2) ++ ([y] ++ R))) y (P.length + (A1 ++ A2).length) hy hq (by omega) (P.length + A1.length) (A1 ++ A2).length P.length (P.length + (A1 ++ A2).length) FUEL (by omega) (by unfold FUEL; omega) (by omega) (by simp) (by omega) (fun h z1 z2 => by omega)
          (fun h x z1 z2 z3 => by
            rw [dA h z1 (by simp <;> omega), List.getElem?_append_left (by omega)] at z3
            exact m1 x (List.mem_of_getElem? z3))
          (fun h x z1 z2 z3 => by
            rw [dA h (by omega) z2, List.getElem?_append_right (by omega)] at z3
            exact m2 x (List.mem_of_getElem? z3))
        have r2 := sh3_valA y (((P.length + A1.length : Nat) : Int), (P ++ A1) ++ (A2 ++ y :: R)) (P ++ A1) (by simp) A2.length A2 R FUEL rfl (by simp at hl; unfold FUEL; omega) (by simp at hl ⊢; omega)
        have hres : mgB (ltBA ) (A1 ++ A2) [y] = A1 ++ y :: A2 := by
          rw [mgB_cons, mgB_nil, insB_right m1]
          cases A2 with
          | nil => rfl
          | cons z Z => simp [insB, m2 z (by simp)]
        rw [if_pos (by simp)]
        rw [r1]
        simp only [Option.bind_some]
        rw [show P ++ ((A1 ++ A2) ++ ([y] ++ R)) = (P ++ A1) ++ (A2 ++ y :: R) by simp, show ((P.length + (A1 ++ A2).length : Nat) : Int) = (((P ++ A1).length + A2.length : Nat) : Int) by simp; omega, r2, hres]
        simp
      · rw [if_neg (by simp <;> omega)]
        simp only [Option.bind_some]
        generalize ha : P.length = a at *
        generalize hm0 : a + A.length = m at *
        generalize hb0 : m + B.length = b at *
        have hmid := half_val a b (by omega)
        generalize hmd : (a + b) / 2 = mid at hmid
        generalize hd : P ++ (A ++ (B ++ R)) = d at *
        have c10 : ∃ s r : Nat, slices_symMergeCmpFunc_impl_Acct_impl_Gather_1_c10 d (a : Int) (m : Int) (b : Int)  = some ((s : Int), (r : Int)) ∧ ((mid < m ∧ s = mid + m - b ∧ r = mid) ∨ (m ≤ mid ∧ s = a ∧ r = m)) := by
          unfold slices_symMergeCmpFunc_impl_Acct_impl_Gather_1_c10
          rw [hmid]
          rcases Nat.lt_or_ge mid m with h | h
          · refine ⟨mid + m - b, mid, ?_, .inl ⟨h, rfl, rfl⟩⟩
            rw [if_pos (by simp <;> omega)]
            rw [i64_eq (x := (mid : Int) + (m : Int)) (mid + m) (by omega) (by omega), i64_eq (x := ((mid + m : Nat) : Int) - (b : Int)) (mid + m - b) (by omega) (by omega)]
          · refine ⟨a, m, ?_, .inr ⟨h, rfl, rfl⟩⟩
            rw [if_neg (by simp <;> omega)]
        obtain ⟨s, r, c10, hsr⟩ := c10
        have hal : ∀ c, s ≤ c → c < r → a ≤ c ∧ c < m ∧ m ≤ mid + m - 1 - c ∧ mid + m - 1 - c < b := fun c h1 h2 => by omega
        obtain ⟨k, k1, k2, k3, k4⟩ := turn_at (fun c => match d[c]?, d[mid + m - 1 - c]? with | some x, some y => !(ltBA  y x) | _, _ => false) (r - s) s r rfl (by omega) (fun c h1 h2 hp => by
          obtain ⟨q1, q2, q3, q4⟩ := hal c h1 (by omega)
          obtain ⟨w1, w2, w3, w4⟩ := hal (c + 1) (by omega) h2
          have gx : A[c - a]? = some (A[c - a]'(by omega)) := List.getElem?_eq_getElem (by omega)
          have gx' : A[c + 1 - a]? = some (A[c + 1 - a]'(by omega)) := List.getElem?_eq_getElem (by omega)
          have gy : B[mid + m - 1 - c - m]? = some (B[mid + m - 1 - c - m]'(by omega)) := List.getElem?_eq_getElem (by omega)
          have gy' : B[mid + m - 1 - (c + 1) - m]? = some (B[mid + m - 1 - (c + 1) - m]'(by omega)) := List.getElem?_eq_getElem (by omega)
          simp only [dA c q1 q2, dB _ q3 q4, gx, gy, Bool.not_eq_false'] at hp
          simp only [dA _ w1 w2, dB _ w3 w4, gx', gy', Bool.not_eq_false']
          have o1 := srtB_get sA (by omega) gx gx'
          have o2 := srtB_get sB (by omega) gy' gy
          rcases tf (ltBA  (B[mid + m - 1 - (c + 1) - m]'(by omega)) (A[c + 1 - a]'(by omega))) with z | z
          · exact z
          · have := (swBA ).2 _ _ _ ((swBA ).2 _ _ _ o2 z) o1
            rw [hp] at this; cases this)
        have l4 := bs4_valA  d a m b hq (by omega) (by omega) (by omega) k (r - s) s r FUEL (Nat.le_refl _) (by unfold FUEL; omega) k1 k2 (by omega) (fun c h1 h2 => by rw [hmd]; have := hal c h1 h2; omega)
          (fun c x y h1 h2 hx hy => by
            rw [hmd] at hy
            have := k3 c h1 h2
            simp only [hx, hy] at this
            simpa using this)
          (fun c x y h1 h2 hx hy => by
            rw [hmd] at hy
            have := k4 c h1 h2
            simp only [hx, hy] at this
            simpa using this)
        have hk : a ≤ k ∧ k ≤ m ∧ m ≤ mid + m - k ∧ mid + m - k ≤ b := by omega
        obtain ⟨hk1, hk2, hk3, hk4⟩ := hk
        have he : i64 (i64 ((mid : Int) + (m : Int)) - (k : Int)) = ((mid + m - k : Nat) : Int) := by
          rw [i64_eq (x := (mid : Int) + (m : Int)) (mid + m) (by omega) (by omega)]
          exact i64_eq _ (by omega) (by omega)
        generalize hee : mid + m - k = e at he hk3 hk4
        obtain ⟨A1, A2, rfl, lA1⟩ : ∃ A1 A2, A = A1 ++ A2 ∧ A1.length = k - a := ⟨A.take (k - a), A.drop (k - a), (List.take_append_drop _ _).symm, by simp; omega⟩
        obtain ⟨B1, B2, rfl, lB1⟩ : ∃ B1 B2, B = B1 ++ B2 ∧ B1.length = e - m := ⟨B.take (e - m), B.drop (e - m), (List.take_append_drop _ _).symm, by simp; omega⟩
        have lA2 : A2.length = m - k := by simp at hm0; omega
        have lB2 : B2.length = b - e := by simp at hb0; omega
        have H1 : ∀ y ∈ B1, ∀ x ∈ A2, ltBA  y x = true := fun y hy x hx => by
          obtain ⟨i, hi, rfl⟩ := List.mem_iff_getElem.1 hy
          obtain ⟨j, hj, rfl⟩ := List.mem_iff_getElem.1 hx
          have := k4 k (Nat.le_refl _) (by omega)
          have gx : A2[0]? = some (A2[0]'(by omega)) := List.getElem?_eq_getElem (by omega)
          have gy : B1[e - 1 - m]? = some (B1[e - 1 - m]'(by omega)) := List.getElem?_eq_getElem (by omega)
          have g1 : d[k]? = some (A2[0]'(by omega)) := by rw [dA k hk1 (by omega), List.getElem?_append_right (by omega), ← gx]; congr 1; omega
          have g2 : d[mid + m - 1 - k]? = some (B1[e - 1 - m]'(by omega)) := by rw [dB _ (by omega) (by omega), List.getElem?_append_left (by omega), ← gy]; congr 1; omega
          simp only [g1, g2, Bool.not_eq_false'] at this
          have o1 : ltBA  A2[j] (A2[0]'(by omega)) = false := by
            rcases Nat.eq_zero_or_pos j with h0 | h0
            · subst h0; exact swB_irr (swBA ) _
            · exact srtB_get (srtB_app_right sA) h0 gx (List.getElem?_eq_getElem hj)
          have o2 : ltBA  (B1[e - 1 - m]'(by omega)) B1[i] = false := by
            rcases Nat.lt_or_ge i (e - 1 - m) with h0 | h0
            · exact srtB_get (srtB_app_left sB) h0 (List.getElem?_eq_getElem hi) gy
            · obtain rfl : i = e - 1 - m := by omega
              exact swB_irr (swBA ) _
          rcases tf (ltBA  B1[i] A2[j]) with z | z
          · exact z
          · have h9 := (swBA ).2 _ _ _ ((swBA ).2 _ _ _ o2 z) o1
            rw [this] at h9; cases h9
        have H2 : ∀ y ∈ B2, ∀ x ∈ A1, ltBA  y x = false := fun y hy x hx => by
          obtain ⟨i, hi, rfl⟩ := List.mem_iff_getElem.1 hy
          obtain ⟨j, hj, rfl⟩ := List.mem_iff_getElem.1 hx
          have := k3 (k - 1) (by omega) (by omega)
          have gx : A1[k - 1 - a]? = some (A1[k - 1 - a]'(by omega)) := List.getElem?_eq_getElem (by omega)
          have gy : B2[0]? = some (B2[0]'(by omega)) := List.getElem?_eq_getElem (by omega)
          have g1 : d[k - 1]? = some (A1[k - 1 - a]'(by omega)) := by rw [dA _ (by omega) (by omega), List.getElem?_append_left (by omega), gx]
          have g2 : d[mid + m - 1 - (k - 1)]? = some (B2[0]'(by omega)) := by rw [dB _ (by omega) (by omega), List.getElem?_append_right (by omega), ← gy]; congr 1; omega
          simp only [g1, g2, Bool.not_eq_true'] at this
          have o1 : ltBA  (A1[k - 1 - a]'(by omega)) A1[j] = false := by
            rcases Nat.lt_or_ge j (k - 1 - a) with h0 | h0
            · exact srtB_get (srtB_app_left sA) h0 (List.getElem?_eq_getElem hj) gx
            · obtain rfl : j = k - 1 - a := by omega
              exact swB_irr (swBA ) _
          have o2 : ltBA  B2[i] (B2[0]'(by omega)) = false := by
            rcases Nat.eq_zero_or_pos i with h0 | h0
            · subst h0; exact swB_irr (swBA ) _
            · exact srtB_get (srtB_app_right sB) h0 gy (List.getElem?_eq_getElem hi)
          exact (swBA ).2 _ _ _ ((swBA ).2 _ _ _ o2 this) o1
        have H3 : ∀ y ∈ B2, ∀ x ∈ B1, ltBA  y x = false := fun y hy x hx => (List.pairwise_append.1 sB).2.2 x hx y hy
        rw [mgB_split H1 H2 H3]
        have c13 : slices_symMergeCmpFunc_impl_Acct_impl_Gather_1_c13  (a : Int) (m : Int) (b : Int)  ((k : Int), d) = some (P ++ (A1 ++ (B1 ++ (A2 ++ (B2 ++ R))))) := by
          unfold slices_symMergeCmpFunc_impl_Acct_impl_Gather_1_c13
          simp only [hmid, he]
          by_cases h1 : k < m ∧ m < e
          · have rv := rot_valA  (P ++ A1) A2 B1 (B2 ++ R) (fun z => by simp [z] at lA2; omega) (fun z => by simp [z] at lB1; omega) (by simp <;> omega) (k : Int) (m : Int) (e : Int) (by simp <;> omega) (by simp <;> omega) (by simp <;> omega)
            rw [if_pos (by simp <;> omega), if_pos (by simp <;> omega), ← hd, show P ++ ((A1 ++ A2) ++ ((B1 ++ B2) ++ R)) = (P ++ A1) ++ (A2 ++ (B1 ++ (B2 ++ R))) by simp, rv]
            simp
          · have hz : A2 = [] ∨ B1 = [] := by
              rcases Nat.lt_or_ge k m with h2 | h2
              · exact .inr (List.eq_nil_of_length_eq_zero (by omega))
              · exact .inl (List.eq_nil_of_length_eq_zero (by omega))
            have hsame : d = P ++ (A1 ++ (B1 ++ (A2 ++ (B2 ++ R)))) := by rw [← hd]; rcases hz with rfl | rfl <;> simp
            rw [← hsame]
            by_cases h2 : k < m
            · rw [if_pos (by simp <;> omega), if_neg (by simp <;> omega)]
            · rw [if_neg (by simp <;> omega)]
        rw [c10]
        simp only [Option.bind_some]
        rw [l4]
        simp only [Option.bind_some]
        rw [c13]
        simp only [Option.bind_some, hmid, he]
        have hq2 : ∀ s ∈ P ++ (A1 ++ (B1 ++ (A2 ++ (B2 ++ R)))), qBA  s := fun z hz => hq z (by rw [← hd]; simp at hz ⊢; rcases hz with h | h | h | h | h | h <;> simp [h])
        have hqr : ∀ s ∈ (P ++ mgB (ltBA ) A1 B1) ++ (A2 ++ (B2 ++ R)), qBA  s := fun z hz => hq2 z (by simp [mem_mgB] at hz ⊢; rcases hz with h | (h | h) | h | h | h <;> simp [h])
        have ll : (P ++ mgB (ltBA ) A1 B1).length = mid := by simp [len_mgB]; omega
        have right : ∀ X : List Acct, X = (P ++ mgB (ltBA ) A1 B1) ++ (A2 ++ (B2 ++ R)) → (if decide ((mid : Int) < (e : Int)) = true then (if decide ((e : Int) < (b : Int)) = true then (slices_symMergeCmpFunc_impl_Acct_impl_Gather_1 fuel X (mid : Int) (e : Int) (b : Int) ).bind fun r => some r else some X) else some X) = some (P ++ ((mgB (ltBA ) A1 B1 ++ mgB (ltBA ) A2 B2) ++ R)) := fun X hX => by
          subst hX
          by_cases h1 : mid < e ∧ e < b
          · have ih := sym_valA  N (P ++ mgB (ltBA ) A1 B1) A2 B2 R fuel (by simp at hN; omega) (by omega) (fun z => by simp [z] at lA2; omega) (fun z => by simp [z] at lB2; omega) (srtB_app_right sA) (srtB_app_right sB) hqr (by simp [len_mgB]; omega)
            rw [ll, show mid + A2.length = e by omega, show e + B2.length = b by omega] at ih
            rw [if_pos (by simp <;> omega), if_pos (by simp <;> omega), ih]
            simp
          · have hz : A2 = [] ∨ B2 = [] := by
              rcases Nat.lt_or_ge mid e with h2 | h2
              · exact .inr (List.eq_nil_of_length_eq_zero (by omega))
              · exact .inl (List.eq_nil_of_length_eq_zero (by omega))
            have hm2 : mgB (ltBA ) A2 B2 = A2 ++ B2 := mgB_sorted B2 A2 (srtB_one hz (srtB_app_right sA) (srtB_app_right sB))
            rw [hm2]
            by_cases h2 : mid < e
            · rw [if_pos (by simp <;> omega), if_neg (by simp <;> omega)]; simp
            · rw [if_neg (by simp <;> omega)]; simp
        by_cases h1 : a < k ∧ k < mid
        · have ih := sym_valA  N P A1 B1 (A2 ++ (B2 ++ R)) fuel (by simp at hN; omega) (by omega) (fun z => by simp [z] at lA1; omega) (fun z => by simp [z] at lB1; omega) (srtB_app_left sA) (srtB_app_left sB) hq2 (by simp <;> omega)
          rw [ha, show a + A1.length = k by omega, show k + B1.length = mid by omega] at ih
          rw [if_pos (by simp <;> omega), if_pos (by simp <;> omega), ih]
          simp only [Option.bind_some]
          exact right _ (by simp)
        · have hz : A1 = [] ∨ B1 = [] := by
            rcases Nat.lt_or_ge a k with h2 | h2
            · exact .inr (List.eq_nil_of_length_eq_zero (by omega))
            · exact .inl (List.eq_nil_of_length_eq_zero (by omega))
          have hm1 : mgB (ltBA ) A1 B1 = A1 ++ B1 := mgB_sorted B1 A1 (srtB_one hz (srtB_app_left sA) (srtB_app_left sB))
          have hX : P ++ (A1 ++ (B1 ++ (A2 ++ (B2 ++ R)))) = (P ++ mgB (ltBA ) A1 B1) ++ (A2 ++ (B2 ++ R)) := by rw [hm1]; simp
          by_cases h2 : a < k
          · rw [if_pos (by simp <;> omega), if_neg (by simp <;> omega)]
            exact right _ hX
          · rw [if_neg (by simp <;> omega)]
            exact right _ hX
theorem st_l0_valA (n : Int) : ∀ (f : Nat) (W P : List Acct) (fuel : Nat), W.length ≤ f → f < fuel → n = ((P.length + W.length : Nat) : Int) → P.length + W.length ≤ 2000000 → (∀ s ∈ W, qBA  s) →
    ∃ P' W' M, slices_stableCmpFunc_impl_Acct_impl_Gather_1_l0 n  fuel (P.length : Int) ((P.length + 20 : Nat) : Int) (P ++ W) = some ((P'.length : Int), P' ++ W') ∧ P'.length + W'.length = P.length + W.length ∧ Bs (ltBA ) 20 W M ∧ P ++ M = P' ++ mgB (ltBA ) [] W' ∧ (∀ s ∈ W', qBA  s)
  | f, W, P, 0, _, hf, _, _, _ => by omega
  | f, W, P, fuel + 1, hW, hf, hn, hl, hq => by
    unfold slices_stableCmpFunc_impl_Acct_impl_Gather_1_l0
    rcases Nat.lt_or_ge W.length 20 with h | h
    · refine ⟨P, W, _, ?_, rfl, .last W (by omega), rfl, hq⟩
      rw [if_neg (by rw [hn]; simp; omega)]
    · obtain ⟨A, W, rfl, hA⟩ : ∃ A W', W = A ++ W' ∧ A.length = 20 := ⟨W.take 20, W.drop 20, (List.take_append_drop _ _).symm, by simp; omega⟩
      simp only [List.length_append] at hW hn hl h
      have iv := ins_valA  P A W (fun s hs => hq s (by simp [hs])) (by omega) (P.length : Int) ((P.length + 20 : Nat) : Int) rfl (by rw [hA])
      have hlen : (P ++ mgB (ltBA ) [] A).length = P.length + 20 := by simp [len_mgB, hA]
      have e1 : i64 (((P.length + 20 : Nat) : Int) + 20) = (((P ++ mgB (ltBA ) [] A).length + 20 : Nat) : Int) := i64_eq _ (by omega) (by rw [hlen]; omega)
      obtain ⟨P', W', M, q1, q2, q3, q4, q5⟩ := st_l0_valA n  (f - 1) W (P ++ mgB (ltBA ) [] A) fuel (by omega) (by omega) (by rw [hlen]; omega) (by rw [hlen]; omega) (fun s hs => hq s (by simp [hs]))
      refine ⟨P', W', _, ?_, by rw [q2, hlen, List.length_append]; omega, .cons A W M hA q3, by rw [← q4]; simp, q5⟩
      rw [if_pos (by rw [hn]; simp; omega), iv, Option.bind_some, e1, ← List.append_assoc]
      rw [hlen] at q1 ⊢
      exact q1
theorem st_l2_valA (n : Int) (k : Nat) (hk : 1 ≤ k) (hk2 : k ≤ 2000000) : ∀ (f : Nat) (L M P : List Acct) (fuel : Nat), L.length ≤ f → f < fuel → Bs (ltBA ) k L M → n = ((P.length + L.length : Nat) : Int) → P.length + L.length ≤ 2000000 → (∀ s ∈ P ++ L, qBA  s) →
    ∃ P' L' M' N, slices_stableCmpFunc_impl_Acct_impl_Gather_1_l2 n  (k : Int) fuel (P.length : Int) ((P.length + 2 * k : Nat) : Int) (P ++ M) = some ((P'.length : Int), P' ++ M') ∧ P'.length + L'.length = P.length + L.length ∧ Bs (ltBA ) k L' M' ∧ L'.length < 2 * k ∧ Bs (ltBA ) (2 * k) L N ∧ P ++ N = P' ++ mgB (ltBA ) [] L' ∧ (∀ s ∈ P' ++ L', qBA  s)
  | f, L, M, P, 0, _, hf, _, _, _, _ => by omega
  | f, L, M, P, fuel + 1, hL, hf, hb, hn, hl, hq => by
    unfold slices_stableCmpFunc_impl_Acct_impl_Gather_1_l2
    rcases Nat.lt_or_ge L.length (2 * k) with h | h
    · refine ⟨P, L, M, _, ?_, rfl, hb, h, .last L (by omega), rfl, hq⟩
      rw [if_neg (by rw [hn]; simp; omega)]
    · obtain ⟨A, B, L, M, rfl, hA, hB, rfl, hbb⟩ := hb.two hk h
      simp only [List.length_append] at hL hn hl h
      have lA : (mgB (ltBA ) [] A).length = k := by simp [len_mgB, hA]
      have lB : (mgB (ltBA ) [] B).length = k := by simp [len_mgB, hB]
      have hML := hbb.len
      have sv := sym_valA  (2 * k) P (mgB (ltBA ) [] A) (mgB (ltBA ) [] B) M FUEL (by omega) (by unfold FUEL; omega) (fun e => by rw [e] at lA; simp at lA; omega) (fun e => by rw [e] at lB; simp at lB; omega) (srtB_srt (swBA ) A) (srtB_srt (swBA ) B)
        (fun s hs => hq s (by
          simp only [List.mem_append] at hs ⊢
          rcases hs with hs | hs | hs | hs
          · exact .inl hs
          · exact .inr (.inl (by simpa using mem_mgB.1 hs))
          · exact .inr (.inr (.inl (by simpa using mem_mgB.1 hs)))
          · exact .inr (.inr (.inr (hbb.mem s hs))))) (by simp [lA, lB]; omega)
      rw [lA, lB, ← srtB_app (swBA )] at sv
      have lAB : (mgB (ltBA ) [] (A ++ B)).length = 2 * k := by simp [len_mgB, hA, hB]; omega
      have hlen : (P ++ mgB (ltBA ) [] (A ++ B)).length = P.length + 2 * k := by simp [lAB]
      have e0 : i64 ((P.length : Int) + (k : Int)) = ((P.length + k : Nat) : Int) := i64_eq _ (by omega) (by omega)
      have e1 : i64 (((P.length + 2 * k : Nat) : Int) + i64 (2 * (k : Int))) = (((P ++ mgB (ltBA ) [] (A ++ B)).length + 2 * k : Nat) : Int) := by
        rw [i64_eq (x := 2 * (k : Int)) (2 * k) (by omega) (by omega)]
        exact i64_eq _ (by omega) (by rw [hlen]; omega)
      obtain ⟨P', L', M', N, q1, q2, q3, q4, q5, q6, q7⟩ := st_l2_valA n  k hk hk2 (f - 1) L M (P ++ mgB (ltBA ) [] (A ++ B)) fuel (by omega) (by omega) hbb (by rw [hlen]; omega) (by rw [hlen]; omega) (fun s hs => hq s (by
        simp only [List.mem_append] at hs ⊢
        rcases hs with (hs | hs) | hs
        · exact .inl hs
        · have := mem_mgB.1 hs
          simp only [List.not_mem_nil, false_or, List.mem_append] at this
          rcases this with h | h
          · exact .inr (.inl h)
          · exact .inr (.inr (.inl h))
        · exact .inr (.inr (.inr hs))))
      refine ⟨P', L', M', mgB (ltBA ) [] (A ++ B) ++ N, ?_, by rw [q2, hlen]; simp; omega, q3, q4, ?_, ?_, q7⟩
      · rw [if_pos (by rw [hn]; simp; omega), e0, show P.length + 2 * k = P.length + k + k by omega, sv, Option.bind_some, show P.length + k + k = P.length + 2 * k by omega, e1, ← List.append_assoc]
        rw [hlen] at q1 ⊢
        exact q1
      · rw [← List.append_assoc]
        exact .cons (A ++ B) L N (by simp; omega) q5
      · rw [← q6]; simp
theorem st_l1_valA (L : List Acct) (hl : L.length ≤ 2000000) (hq : ∀ s ∈ L, qBA  s) : ∀ (f k : Nat) (M : List Acct) (fuel : Nat), L.length - k ≤ f → f < fuel → 1 ≤ k → k ≤ 4000000 → Bs (ltBA ) k L M →
    slices_stableCmpFunc_impl_Acct_impl_Gather_1_l1 (L.length : Int)  fuel (k : Int) M = some (mgB (ltBA ) [] L)
  | f, k, M, 0, _, hf, _, _, _ => by omega
  | f, k, M, fuel + 1, hf0, hf, hk, hk2, hb => by
    unfold slices_stableCmpFunc_impl_Acct_impl_Gather_1_l1
    rcases Nat.lt_or_ge k L.length with h | h
    · obtain ⟨P', L', M', N, q1, q2, q3, q4, q5, q6, q7⟩ := st_l2_valA (L.length : Int)  k hk (by omega) L.length L M [] FUEL (Nat.le_refl _) (by unfold FUEL; omega) hb (by simp) (by simpa using hl) (by simpa using hq)
      have e1 : i64 (2 * (k : Int)) = ((([] : List Acct).length + 2 * k : Nat) : Int) := i64_eq _ (by simp; omega) (by simp)
      have e2 : i64 ((k : Int) * 2) = ((2 * k : Nat) : Int) := i64_eq _ (by omega) (by omega)
      rw [List.nil_append] at q1 q6
      simp only [List.length_nil, Nat.zero_add] at q2
      have e3 : i64 ((P'.length : Int) + (k : Int)) = ((P'.length + k : Nat) : Int) := i64_eq _ (by omega) (by omega)
      have fin := st_l1_valA  L hl hq (f - 1) (2 * k) N fuel (by omega) (by omega) (by omega) (by omega) q5
      rw [if_pos (by simp; omega), e1]
      simp only [List.length_nil] at q1
      rw [show ((0 : Nat) : Int) = 0 from rfl] at q1
      rw [List.length_nil, q1, Option.bind_some, e3, e2]
      rcases Nat.lt_or_ge k L'.length with h2 | h2
      · obtain ⟨A, B, rfl, hA, hB0, hB, rfl⟩ := q3.one q4 h2
        have lA : (mgB (ltBA ) [] A).length = k := by simp [len_mgB, hA]
        have lB : (mgB (ltBA ) [] B).length = B.length := by simp [len_mgB]
        have pB : 0 < B.length := List.length_pos_iff.2 hB0
        simp only [List.length_append] at q2 h2
        have sv := sym_valA  (2 * k) P' (mgB (ltBA ) [] A) (mgB (ltBA ) [] B) [] FUEL (by omega) (by unfold FUEL; omega) (fun e => by rw [e] at lA; simp at lA; omega) (fun e => by rw [e] at lB; simp at lB; omega) (srtB_srt (swBA ) A) (srtB_srt (swBA ) B)
          (fun s hs => q7 s (by
            simp only [List.mem_append, List.not_mem_nil, or_false] at hs ⊢
            rcases hs with hs | hs | hs
            · exact .inl hs
            · exact .inr (.inl (by simpa using mem_mgB.1 hs))
            · exact .inr (.inr (by simpa using mem_mgB.1 hs)))) (by simp [lA, lB]; omega)
        rw [lA, lB, ← srtB_app (swBA )] at sv
        simp only [List.append_nil] at sv
        rw [if_pos (by simp; omega), show (L.length : Int) = ((P'.length + k + B.length : Nat) : Int) by omega, sv, Option.bind_some, ← q6, show ((P'.length + k + B.length : Nat) : Int) = (L.length : Int) by omega]
        exact fin
      · rw [if_neg (by simp; omega), q3.small h2, ← q6]
        exact fin
    · rw [if_neg (by simp; omega), hb.small h]
theorem stable_valA (L : List Acct) (hl : L.length ≤ 2000000) (hq : ∀ s ∈ L, qBA  s) : slices_stableCmpFunc_impl_Acct_impl_Gather_1 L (L.length : Int)  = some (mgB (ltBA ) [] L) := by
  obtain ⟨P', W', M, q1, q2, q3, q4, q5⟩ := st_l0_valA (L.length : Int)  L.length L [] FUEL (Nat.le_refl _) (by unfold FUEL; omega) (by simp) (by simpa using hl) hq
  rw [List.nil_append] at q1 q4
  simp only [List.length_nil, Nat.zero_add] at q1 q2
  have iv := ins_valA  P' W' [] q5 (by omega) (P'.length : Int) (L.length : Int) rfl (by omega)
  rw [List.append_nil, List.append_nil, ← q4] at iv
  have := st_l1_valA  L hl hq L.length 20 M FUEL (by omega) (by unfold FUEL; omega) (by decide) (by decide) q3
  unfold slices_stableCmpFunc_impl_Acct_impl_Gather_1
  rw [show (0 : Int) = ((0 : Nat) : Int) from rfl, show (20 : Int) = ((20 : Nat) : Int) from rfl, q1, Option.bind_some, iv, Option.bind_some, this]
  rfl
theorem wtL_insB {α : Type} (f : α → Nat) (lt : α → α → Bool) (b : α) : ∀ l : List α, wtL f (insB lt b l) = wtL f l + (f b + 1)
  | [] => by simp [insB, wtL]; omega
  | x :: l => by
    unfold insB
    split
    · simp only [wtL]; omega
    · simp only [wtL]; rw [wtL_insB f lt b l]; omega
theorem wtL_mgB {α : Type} (f : α → Nat) (lt : α → α → Bool) : ∀ B A : List α, wtL f (mgB lt A B) = wtL f A + wtL f B
  | [], A => by simp [mgB, wtL]
  | b :: B, A => by rw [mgB_cons, wtL_mgB f lt B, wtL_insB]; simp only [wtL]; omega
theorem Gather_l2_val (l p1 : List Stripe) (x1 : Stripe) (p2 : List Acct) (x : Acct) : ∀ (n : Nat) (A W : List Acct) (fuel : Nat), A.length = n → n < fuel → n + W.length ≤ 4000000 → SrtB ltBA A → (∀ w ∈ W, ltBA x w = true) →
    ∃ A1 A2, A = A1 ++ A2 ∧ spec_Gather_l2 l p1 x1 p2 x fuel (n : Int) (A ++ W) = some ((A1.length : Int), A ++ W) ∧ insB ltBA x (A ++ W) = A1 ++ x :: (A2 ++ W)
  | 0, A, W, fuel + 1, hn, hf, hl, hs, hw => by
    have : A = [] := List.eq_nil_of_length_eq_zero hn
    subst this
    refine ⟨[], [], rfl, ?_, ?_⟩
    · unfold spec_Gather_l2
      rw [if_neg (by simp)]
      rfl
    · have := insB_left (lt := ltBA) (b := x) (X := []) (Y := W) hw
      simpa [insB] using this
  | n + 1, A, W, fuel + 1, hn, hf, hl, hs, hw => by
    obtain ⟨T, y, rfl⟩ := snoc_of (l := A) (fun e => by simp [e] at hn)
    have hT : T.length = n := by simpa using hn
    have e1 : i64 (((n + 1 : Nat) : Int) - 1) = (n : Int) := i64_eq _ (by omega) (by omega)
    have g : ((T ++ [y]) ++ W)[n]? = some y := by
      have := get0 T W y
      rw [hT] at this
      simpa using this
    have hst : (Op.bytesLess y.Id.toList x.Id.toList || (y.Id == x.Id)) = !(ltBA x y) := by
      unfold ltBA
      rw [less_flip y.Id x.Id]
      simp
    unfold spec_Gather_l2
    rw [if_pos (by simp <;> omega), e1, if_pos (nnB n), Int.toNat_natCast, g, Option.bind_some, hst, set_get g]
    rcases tf (ltBA x y) with h | h
    · rw [h, if_neg (by simp)]
      obtain ⟨A1, A2, q1, q2, q3⟩ := Gather_l2_val l p1 x1 p2 x n T (y :: W) fuel hT (by omega) (by simp <;> omega) (srtB_app_left hs) (fun w hw2 => by
        rcases List.mem_cons.1 hw2 with rfl | hw2
        · exact h
        · exact hw w hw2)
      have e2 : (T ++ [y]) ++ W = T ++ (y :: W) := by simp
      exact ⟨A1, A2 ++ [y], by simp [q1], by rw [e2]; exact q2, by rw [e2, q3]; simp⟩
    · rw [h, if_pos (show (!false) = true from rfl)]
      have hb : ∀ t ∈ T ++ [y], ltBA x t = false := fun t ht => by
        rcases List.mem_append.1 ht with ht | ht
        · exact swBA.2 x y t h ((List.pairwise_append.1 hs).2.2 t ht y (by simp))
        · simp at ht
          subst ht
          exact h
      refine ⟨T ++ [y], [], by simp, by rw [show ((T ++ [y]).length : Int) = ((n + 1 : Nat) : Int) by simp [hT]], ?_⟩
      rw [insB_right hb]
      have := insB_left (lt := ltBA) (b := x) (X := []) (Y := W) hw
      simp only [List.nil_append, insB] at this
      rw [this]
      rfl
theorem Gather_l1_val (l p1 : List Stripe) (x1 : Stripe) : ∀ (t p2 v : List Acct), SrtB ltBA v → v.length + t.length ≤ 4000000 → (∀ x ∈ t, wtAcct x ≤ 4000000) → spec_Gather_l1 l p1 x1 t p2 v = some (mgB ltBA v t)
  | [], p2, v, _, _, _ => rfl
  | x :: t, p2, v, hs, hl, hw => by
    simp only [List.length_cons] at hl
    obtain ⟨A1, A2, rfl, q2, q3⟩ := Gather_l2_val l p1 x1 p2 x v.length v [] FUEL rfl (by unfold FUEL; omega) (by simp <;> omega) hs (by simp)
    simp only [List.append_nil] at q2 q3
    simp only [List.length_append] at hl
    have ih := Gather_l1_val l p1 x1 t (p2 ++ [x]) (insB ltBA x (A1 ++ A2)) (srtB_ins swBA x hs) (by rw [len_insB]; simp; omega) (fun y hy => hw y (by simp [hy]))
    unfold spec_Gather_l1
    rw [q2, Option.bind_some]
    simp only [nnB, if_true, Int.toNat_natCast, List.take_left', List.drop_left', show decide ((A1.length : Int) ≤ ((A1.length + A2.length : Nat) : Int)) = true from decide_eq_true (by omega), capOk_of (show 0 + A1.length ≤ 274877906944 by omega), capOk_of (show A1.length + 1 ≤ 274877906944 by omega), l09Copy_val x (hw x (by simp)), Option.bind_some, List.length_append, List.length_cons, List.length_nil, capOk_of (show A1.length + (0 + 1) + A2.length ≤ 274877906944 by omega)]
    rw [show (A1 ++ [x]) ++ A2 = insB ltBA x (A1 ++ A2) by rw [q3]; simp, ih]
    rfl
def allA (l : List Stripe) : List Acct := l.flatMap fun s => s.Accts
theorem Gather_l0_val (l : List Stripe) : ∀ (t p1 : List Stripe) (v : List Acct), SrtB ltBA v → v.length + wtL wtStripe t ≤ 4000000 → spec_Gather_l0 l t p1 v = some (mgB ltBA v (allA t))
  | [], p1, v, _, _ => rfl
  | s :: t, p1, v, hs, hl => by
    have e := wtStripe_eq s
    have h2 := wtL_len wtAcct s.Accts
    simp only [wtL] at hl
    have ih := Gather_l0_val l t (p1 ++ [s]) (mgB ltBA v s.Accts) (srtB_mg swBA hs) (by rw [len_mgB]; omega)
    unfold spec_Gather_l0
    rw [capOk_of (by omega), if_pos rfl, Gather_l1_val l p1 s s.Accts [] v hs (by omega) (fun x hx => by have := wtL_mem wtAcct s.Accts x hx; omega), Option.bind_some, ih, ← mgB_app]
    rfl
theorem impl_Gather_l0_val (l : List Stripe) : ∀ (t : List Stripe) (v : List Acct), v.length + wtL wtStripe t ≤ 4000000 → impl_Gather_l0 l t v = some (v ++ allA t)
  | [], v, _ => by simp [impl_Gather_l0, allA]
  | s :: t, v, hl => by
    have e := wtStripe_eq s
    have h2 := wtL_len wtAcct s.Accts
    simp only [wtL] at hl
    have ih := impl_Gather_l0_val l t (v ++ s.Accts) (by simp <;> omega)
    unfold impl_Gather_l0
    rw [Book_copied_val (Book.mk s.Accts) (show wtL wtAcct s.Accts ≤ 4000000 by omega), Option.bind_some, capOk_of (show v.length + s.Accts.length ≤ 274877906944 by omega), if_pos rfl, ih]
    simp [allA]
theorem wtL_allA : ∀ l : List Stripe, wtL wtAcct (allA l) ≤ wtL wtStripe l
  | [] => by simp [allA, wtL]
  | s :: t => by
    have e := wtStripe_eq s
    have := wtL_allA t
    simp only [allA, List.flatMap_cons, wtL] at this ⊢
    rw [wtL_app]; omega
theorem Gather_at (l : List Stripe) (h : wtL wtStripe l ≤ 1048576) : spec_Gather l = some (Book.mk (mgB ltBA [] (allA l))) ∧ impl_Gather l = some (Book.mk (mgB ltBA [] (allA l))) := by
  have hl := wtL_len wtStripe l
  have ha := wtL_allA l
  have hb := wtL_len wtAcct (allA l)
  constructor
  · unfold spec_Gather
    rw [capOk_of (by omega), if_pos rfl, Gather_l0_val l l [] [] (by simp [SrtB]) (by simp <;> omega)]
    rfl
  · unfold impl_Gather slices_SortStableFunc_impl_Acct_impl_Gather_1
    rw [capOk_of (by omega), if_pos rfl, impl_Gather_l0_val l l [] (by simp <;> omega), Option.bind_some, List.nil_append, stable_valA (allA l) (by omega) (fun _ _ => trivial)]
    rfl
theorem Gather_val (l : List Stripe) (h : wtL wtStripe l ≤ 1048576) : ∃ y, spec_Gather l = some y ∧ impl_Gather l = some y ∧ wtBook y ≤ 4000000 := by
  obtain ⟨e1, e2⟩ := Gather_at l h
  have ha := wtL_allA l
  refine ⟨_, e1, e2, ?_⟩
  rw [wtBook_eq, wtL_mgB]
  simp only [wtL]
  omega
theorem Has_val (l : List Int) (n : Int) (h : l.length ≤ 4000000) : spec_l13Has l n = some (l.any fun x => x == n) ∧ slices_Contains_int l n = some (l.any fun x => x == n) := by
  have c := capOk_of (show l.length ≤ 274877906944 by omega)
  constructor
  · have key : ∀ t, spec_l13Has_l0 l n t = some (if (t.any fun x => x == n) = true then .ret () else .out ()) := fun t => by
      induction t with
      | nil => rfl
      | cons x t ih =>
        unfold spec_l13Has_l0
        rcases tf (x == n) with q | q
        · simp [q]
        · simp only [q, Bool.false_eq_true, if_false, ih, List.any_cons, Bool.false_or]
    unfold spec_l13Has
    rw [c, if_pos rfl, key l]
    rcases tf (l.any fun x => x == n) with q | q <;> simp [q, Lo.elim]
  · have key := find_loop (L := slices_Index_int_l0 l n) (fun x => n == x) (fun p => rfl) (fun x t p => rfl) l []
    unfold slices_Contains_int slices_Index_int
    rw [c, if_pos rfl, key, Option.bind_some, found_nil, Option.bind_some]
    congr 1
    rcases tf (l.any fun x => x == n) with q | q
    · rw [q]
      refine decide_eq_true ?_
      by_cases h0 : idxOf (fun x => n == x) l < 0
      · obtain ⟨x, hx, hq⟩ := List.any_eq_true.1 q
        have := idxOf_neg h0 x hx
        simp only [beq_iff_eq] at hq
        subst hq
        simp at this
      · omega
    · rw [q]
      refine decide_eq_false ?_
      intro h0
      obtain ⟨x, hx, hq, _⟩ := idxOf_lt h0
      have := List.any_eq_false.1 q x (List.mem_of_getElem? hx)
      simp only [beq_iff_eq] at hq
      subst hq
      simp at this
theorem Part_l0_tot (l : List Stripe) (set : List Int) (hs : set.length ≤ 4000000) : ∀ (t p v : List Stripe), v.length + t.length ≤ 4000000 → ∃ y, spec_Part_l0 l set t p v = some y ∧ impl_Part_l0 l set t p v = some y ∧ wtL wtStripe y ≤ wtL wtStripe v + wtL wtStripe t
  | [], p, v, _ => ⟨v, rfl, rfl, by simp [wtL]⟩
  | x :: t, p, v, hl => by
    simp only [List.length_cons] at hl
    obtain ⟨e1, e2⟩ := Has_val set (p.length : Int) hs
    unfold spec_Part_l0 impl_Part_l0
    rw [e1, e2, Option.bind_some, Option.bind_some]
    rcases tf (set.any fun x => x == (p.length : Int)) with q | q
    · obtain ⟨y, y1, y2, y3⟩ := Part_l0_tot l set hs t (p ++ [x]) (v ++ [x]) (by simp; omega)
      rw [wtL_app] at y3
      simp only [wtL] at y3 ⊢
      refine ⟨y, ?_, ?_, by omega⟩
      · rw [q, if_pos rfl, capOk_of (by omega), if_pos rfl, y1]
      · rw [q, if_pos rfl, capOk_of (by omega), if_pos rfl, y2]
    · obtain ⟨y, y1, y2, y3⟩ := Part_l0_tot l set hs t (p ++ [x]) v (by omega)
      simp only [wtL]
      refine ⟨y, ?_, ?_, by omega⟩
      · rw [q, if_neg (by simp), y1]
      · rw [q, if_neg (by simp), y2]
theorem Part_val (l : List Stripe) (set : List Int) (h : wtL wtStripe l ≤ 1048576) (hs : set.length ≤ 1048576) : ∃ y, spec_Part l set = some y ∧ impl_Part l set = some y ∧ wtBook y ≤ 4000000 := by
  have hl := wtL_len wtStripe l
  obtain ⟨z, z1, z2, z3⟩ := Part_l0_tot l set (by omega) l [] [] (by simp; omega)
  simp only [wtL] at z3
  obtain ⟨y, y1, y2, y3⟩ := Gather_val z (by omega)
  unfold spec_Part impl_Part
  rw [capOk_of (by omega), if_pos rfl, if_pos rfl, z1, z2, Option.bind_some, Option.bind_some, y1, y2]
  exact ⟨y, rfl, rfl, y3⟩
namespace Pure
theorem FnExactPart (o : List Stripe) (o_ : List Int) (h0 : W61 o) (h1 : W24 o_) : laws_FnExactPart o o_ = some true := by
  unfold laws_FnExactPart
  by_cases s1 : (1048576 : Int) < (o_.length : Int)
  · simp only [s1, decide_true, decide_false, Bool.false_eq_true, if_true, if_false]
  simp only [s1, decide_true, decide_false, Bool.false_eq_true, if_true, if_false]
  obtain ⟨r1, er1, gr1⟩ := szStripeS_val o 1048576 h0 (by omega) (by omega)
  rw [er1, Option.bind_some]
  by_cases cr1 : r1 < 0
  · simp only [cr1, decide_true, decide_false, Bool.false_eq_true, if_true, if_false]
  have gr1 := gr1 (by omega)
  simp only [cr1, decide_true, decide_false, Bool.false_eq_true, if_true, if_false]
  obtain ⟨y, f1, f2, f3⟩ := Part_val o o_ (by omega) (by omega)
  have z0 := f3
  obtain ⟨k1, l1, m1, u1, b1, q1⟩ := markStripeS_val o 1 (by omega) (by omega) (by omega)
  obtain ⟨k2, l2, m2, u2, b2, q2, d2⟩ := markIntS_val o_ k1 (by omega) (by omega) (by omega)
  obtain ⟨k3, l3_0, m3, u3, b3, q3_0, d3⟩ := markBook_val y 1 (by omega) (by omega) (by omega)
  simp only [f1, f2, eqBook_rfl _ z0, toStripeS_val o (by omega), eqStripeS_rfl o (by omega), toIntS_val o_ (by omega), eqIntS_rfl o_ (by omega), m1, show ¬ k1 < 0 by omega, m2, show ¬ k2 < 0 by omega, m3, show ¬ k3 < 0 by omega, d3, Option.bind_some, decide_true, decide_false, Bool.false_eq_true, if_true, if_false, bne_rfl, beq_rfl, beq_self_eq_true]
end Pure
end Go.Proofs.YtdcejeemommkfaaM
