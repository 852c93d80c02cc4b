/- Laws of the plain functions. No condition. -/
import Derived.Test.YtdpbcmajmojolaaPA
namespace Go.Proofs.YtdpbcmajmojolaaM
set_option linter.unusedVariables false
set_option linter.unusedSimpArgs false
set_option maxRecDepth 100000

/-! what the laws' helpers need -/
theorem sub_val {left : Int} {n : Nat} (h0 : 0 ≤ left) (h1 : left ≤ 1048576) (hn : n ≤ 140737488351232) : i64 (left - (n : Int)) = left - n := i64_of (by omega) (by omega)
theorem set_take {α : Type} {v p : List α} {x : α} (hv : v.take p.length = p) (hl : p.length < v.length) : (v.set p.length x).take (p ++ [x]).length = p ++ [x] := by
  rw [List.length_append, List.length_cons, List.length_nil, List.take_add_one, List.take_set_of_le (Nat.le_refl _), hv]
  simp [hl]
theorem idx_some {α : Type} {v p : List α} (hl : p.length < v.length) : ∃ y, v[((p.length : Int)).toNat]? = some y := ⟨v[p.length], by simp [hl]⟩
theorem beq_rfl (s : ByteArray) : (s == s) = true := by rw [beqB]; simp
theorem bne_rfl (n : Int) : (n != n) = false := by simp
theorem mid_get {α : Type} {a p t : List α} {x : α} (e : a = p ++ x :: t) : a[((p.length : Int)).toNat]? = some x := by rw [e]; simp
theorem bstr_one (n : Int) : (bstr [n]).size = 1 := rfl
theorem size_app (a b : ByteArray) : (a ++ b).size = a.size + b.size := ByteArray.size_append
theorem markText_l0_tot : ∀ (n N : Nat) (v : Int) (s : ByteArray), 0 ≤ v → v ≤ 9223372036854775807 → v < 10 ^ n → n < N → s.size + n ≤ 1000 → ∃ y, laws_markText_l0 N v s = some y ∧ y.size ≤ 1000
  | n, 0, v, s, h0, hm, hv, hN, hs => by omega
  | 0, N + 1, v, s, h0, hm, hv, hN, hs => by
    have : v = 0 := by simp at hv; omega
    subst this
    exact ⟨s, by simp [laws_markText_l0], by omega⟩
  | n + 1, N + 1, v, s, h0, hm, hv, hN, hs => by
    unfold laws_markText_l0
    by_cases h : 0 < v
    · have hd : Int.tdiv v 10 = v / 10 := Int.tdiv_eq_ediv_of_nonneg h0
      have hp : (10 : Int) ^ (n + 1) = 10 ^ n * 10 := by rw [Int.pow_succ]
      have hlt : v / 10 < 10 ^ n := by rw [hp] at hv; omega
      have hi : i64 (v / 10) = v / 10 := i64_of (by omega) (by omega)
      have hz : (bstr [u8 (i64 (48 + (Int.tmod v 10)))]).size = 1 := bstr_one _
      obtain ⟨y, e, e2⟩ := markText_l0_tot n N (v / 10) (bstr [u8 (i64 (48 + (Int.tmod v 10)))] ++ s) (by omega) (by omega) hlt (by omega) (by rw [size_app, hz]; omega)
      refine ⟨y, ?_, e2⟩
      have hc : (bstr [u8 (i64 (48 + (Int.tmod v 10)))]).size + s.size ≤ 9223372036854775807 := by rw [hz]; omega
      simp only [h, decide_true, if_true, hc, hd, hi]
      exact e
    · exact ⟨s, by simp [h], by omega⟩
theorem markText_tot (k : Int) (hm : k ≤ 9223372036854775807) : ∃ y, laws_markText k = some y := by
  unfold laws_markText
  by_cases h : k ≤ 0
  · exact ⟨_, by simp only [h, decide_true, if_true]; rfl⟩
  · obtain ⟨y, e, e2⟩ := markText_l0_tot 20 FUEL k (bs []) (by omega) hm (by omega) (by unfold FUEL; omega) (by decide)
    simp only [h, decide_false, Bool.false_eq_true, if_false, e, Option.bind_some]
    have hc : (bs [109]).size + y.size ≤ 9223372036854775807 := by
      have : (bs [109]).size = 1 := rfl
      omega
    exact ⟨_, by rw [decide_eq_true hc]; rfl⟩
theorem after_set {α : Type} {v v' : List α} {i : Nat} {x : α} (h : v'.take (i + 1) = (v.set i x).take (i + 1)) (hl : v'.length = v.length) (hi : i < v.length) : v'.drop i = x :: v'.drop (i + 1) ∧ v'.take i = v.take i := by
  have hx : v'[i]? = some x := by
    have e : (v'.take (i + 1))[i]? = ((v.set i x).take (i + 1))[i]? := by rw [h]
    rw [List.getElem?_take, List.getElem?_take, if_pos (by omega), if_pos (by omega)] at e
    rw [e]; simp [hi]
  have hx' : v'[i]'(by omega) = x := by
    have := List.getElem?_eq_getElem (l := v') (i := i) (by omega)
    rw [this] at hx
    exact Option.some.inj hx
  refine ⟨by rw [List.drop_eq_getElem_cons (by omega), hx'], ?_⟩
  have e : (v'.take (i + 1)).take i = ((v.set i x).take (i + 1)).take i := by rw [h]
  rw [List.take_take, List.take_take, Nat.min_eq_left (by omega), List.take_set_of_le (Nat.le_refl _)] at e
  exact e
/-- The weight of a list: its length, and its elements' weights. -/
def wtL {α : Type} (f : α → Nat) : List α → Nat
  | [] => 0
  | x :: t => 1 + f x + wtL f t
def wtS {α : Type} (f : α → Nat) : List α → Nat
  | [] => 0
  | x :: t => f x + wtS f t
theorem wtL_eq {α : Type} (f : α → Nat) : ∀ l : List α, wtL f l = l.length + wtS f l
  | [] => rfl
  | x :: t => by simp only [wtL, wtS, List.length_cons]; rw [wtL_eq f t]; omega
theorem wtL_len {α : Type} (f : α → Nat) (l : List α) : l.length ≤ wtL f l := by rw [wtL_eq]; omega
theorem wtL_mem {α : Type} (f : α → Nat) : ∀ (l : List α) (x : α), x ∈ l → f x + 1 ≤ wtL f l
  | y :: t, x, h => by
    simp only [wtL]
    rcases List.mem_cons.1 h with rfl | h
    · omega
    · have := wtL_mem f t x h; omega
theorem wtL_app {α : Type} (f : α → Nat) : ∀ (l l2 : List α), wtL f (l ++ l2) = wtL f l + wtL f l2
  | [], l2 => by simp [wtL]
  | x :: t, l2 => by simp only [List.cons_append, wtL]; rw [wtL_app f t l2]; omega
theorem wtL_filter {α : Type} (f : α → Nat) (q : α → Bool) : ∀ l : List α, wtL f (l.filter q) ≤ wtL f l
  | [] => by simp [wtL]
  | x :: t => by
    have := wtL_filter f q t
    rw [List.filter_cons]
    split <;> simp only [wtL] <;> omega
theorem wtL_take {α : Type} (f : α → Nat) (n : Nat) (l : List α) : wtL f (l.take n) ≤ wtL f l := by
  have h := wtL_app f (l.take n) (l.drop n)
  rw [List.take_append_drop] at h
  omega
theorem wtL_drop {α : Type} (f : α → Nat) (n : Nat) (l : List α) : wtL f (l.drop n) ≤ wtL f l := by
  have h := wtL_app f (l.take n) (l.drop n)
  rw [List.take_append_drop] at h
  omega
theorem wtL_map_le {α β : Type} (f : α → Nat) (f2 : β → Nat) (g : α → β) : ∀ (l : List α), (∀ x ∈ l, f2 (g x) ≤ f x) → wtL f2 (l.map g) ≤ wtL f l
  | [], _ => by simp [wtL]
  | x :: t, h => by
    have h1 := wtL_map_le f f2 g t (fun y hy => h y (by simp [hy]))
    have h2 := h x (by simp)
    simp only [List.map_cons, wtL]
    omega
theorem wtL_set {α : Type} (f : α → Nat) (x : α) : ∀ (l : List α) (i : Nat), wtL f (l.set i x) ≤ wtL f l + f x
  | [], i => by simp [wtL]
  | y :: t, 0 => by simp only [List.set_cons_zero, wtL]; omega
  | y :: t, i + 1 => by
    have := wtL_set f x t i
    simp only [List.set_cons_succ, wtL]; omega
theorem wtL_perm {α : Type} (f : α → Nat) {l l2 : List α} (h : l.Perm l2) : wtL f l = wtL f l2 := by
  induction h with
  | nil => rfl
  | cons x _ ih => simp only [wtL, ih]
  | swap x y l => simp only [wtL]; omega
  | trans _ _ h1 h2 => rw [h1, h2]

def wtHold (a : Hold) : Nat := a.Id.size
theorem wtHold_eq (a : Hold) : wtHold a = a.Id.size := rfl
theorem szHold_val (a : Hold) (left : Int) (hw : W214 a) (h0 : 0 ≤ left) (h1 : left ≤ 1048576) : ∃ r, laws_szHold a left = some r ∧ (0 ≤ r → r = left - (wtHold a : Nat)) := by
  unfold W214 at hw
  obtain ⟨w0, w1, w2⟩ := hw
  rw [wtHold_eq]
  unfold laws_szHold
  have b1 := w0
  unfold Ws at b1
  rw [sub_val (show 0 ≤ left by omega) (by omega) b1]
  by_cases c1 : (left - (a.Id.size : Int)) < 0
  · exact ⟨-1, by simp only [c1, decide_true, decide_false, Bool.false_eq_true, if_true, if_false, Option.bind_some], fun h => by omega⟩
  · simp only [c1, decide_true, decide_false, Bool.false_eq_true, if_true, if_false, Option.bind_some]
    exact ⟨_, rfl, fun _ => by omega⟩
theorem toHold_val (a : Hold) (h : wtHold a ≤ 4000000) : laws_toHold a = some a := by
  rw [wtHold_eq] at h
  unfold laws_toHold
  rfl
theorem eqHold_rfl (a : Hold) (h : wtHold a ≤ 4000000) : laws_eqHold a a = some true := by
  rw [wtHold_eq] at h
  unfold laws_eqHold
  simp only [beq_rfl, bne_rfl, Bool.false_eq_true, if_false, if_true, Option.bind_some]
theorem szIntS_val (a : List Int) (left : Int) (hw : W49 a) (h0 : 0 ≤ left) (h1 : left ≤ 1048576) : ∃ r, laws_szIntS a left = some r ∧ (0 ≤ r → r = left - (a.length : Nat)) := by
  unfold W49 Wl at hw
  have hl : a.length ≤ 140737488351232 := by have := hw.1; omega
  unfold laws_szIntS
  rw [sub_val h0 h1 hl]
  by_cases h : left - (a.length : Int) < 0
  · exact ⟨-1, by simp [h], fun h => by omega⟩
  · exact ⟨left - a.length, by simp [h], fun _ => rfl⟩
theorem toIntS_l0_val (a : List Int) : ∀ (t p v : List Int), a = p ++ t → v.length = a.length → v.take p.length = p → laws_toIntS_l0 a t p v = some a
  | [], p, v, e, hl, hv => by
    have : v = p := by rw [← hv, List.take_of_length_le (by rw [hl, e]; simp)]
    simp [laws_toIntS_l0, this, e]
  | x :: t, p, v, e, hl, hv => by
    have hlt : p.length < v.length := by rw [hl, e]; simp
    obtain ⟨y, hy⟩ := idx_some (v := v) hlt
    unfold laws_toIntS_l0
    rw [hy, Option.bind_some, Int.toNat_natCast]
    exact toIntS_l0_val a t (p ++ [x]) _ (by rw [e]; simp) (by simp [hl]) (set_take hv hlt)
theorem toIntS_val (a : List Int) (h : a.length ≤ 4000000) : laws_toIntS a = some a := by
  have hl : a.length ≤ 4000000 := h
  unfold laws_toIntS
  simp only [Int.natCast_nonneg, decide_true, if_true, Int.toNat_natCast, capOk_of (show a.length ≤ 274877906944 by omega)]
  rw [toIntS_l0_val a a [] _ rfl (by simp) rfl]
  rfl
theorem eqIntS_l0_rfl (a : List Int) : ∀ t p : List Int, a = p ++ t → laws_eqIntS_l0 a a t p = some (.out ())
  | [], p, e => rfl
  | x :: t, p, e => by
    unfold laws_eqIntS_l0
    rw [mid_get e, Option.bind_some]
    simp only [bne_rfl, beq_rfl, Bool.false_eq_true, if_false, if_true]
    exact eqIntS_l0_rfl a t (p ++ [x]) (by rw [e]; simp)
theorem eqIntS_rfl (a : List Int) (h : a.length ≤ 4000000) : laws_eqIntS a a = some true := by
  have hl : a.length ≤ 4000000 := h
  unfold laws_eqIntS
  rw [eqIntS_l0_rfl a a [] rfl, capOk_of (show a.length ≤ 274877906944 by omega)]
  simp only [bne_rfl, Bool.false_eq_true, if_false, if_true]
  rfl
theorem markIntS_l0_val : ∀ (n : Nat) (k : Int) (i : Nat) (v : List Int), i ≤ v.length → v.length ≤ 4000000 → (v.drop i).length ≤ 4000000 → 0 ≤ k → k + 16 * ((v.drop i).length : Nat) ≤ 1000000000000 → v.length - i < n →
    ∃ (k' : Int) (v' : List Int), laws_markIntS_l0 n k (i : Int) v = some (k', v') ∧ k ≤ k' ∧ k' ≤ k + 16 * ((v.drop i).length : Nat) ∧ v'.length = v.length ∧ v'.take i = v.take i ∧ ∀ b, laws_heldIntS_l0 b (v'.drop i) k = some (.out k')
  | 0, k, i, v, hi, hl, hw, h0, hk, hn => by omega
  | n + 1, k, i, v, hi, hl, hw, h0, hk, hn => by
    unfold laws_markIntS_l0
    by_cases h : i < v.length
    · have hc : (i : Int) < (v.length : Int) := by omega
      have hi1 : i64 ((i : Int) + 1) = ((i + 1 : Nat) : Int) := by rw [i64_of (by omega) (by omega)]; omega
      have hg : v[i]? = some v[i] := List.getElem?_eq_getElem h
      have hd : (v.drop i).length = 1 + (v.drop (i + 1)).length := by rw [List.length_drop, List.length_drop]; omega
      have i0 : i64 (k + 1) = k + 1 := i64_of (by omega) (by omega)
      have hsl : (v.set i (k)).length = v.length := List.length_set
      have hsd : (v.set i (k)).drop (i + 1) = v.drop (i + 1) := List.drop_set_of_lt (by omega)
      obtain ⟨k', v', e1, e1', e1'', e2, e3, e4⟩ := markIntS_l0_val n (k + 1) (i + 1) (v.set i (k)) (by rw [hsl]; omega) (by rw [hsl]; omega) (by rw [hsd]; omega) (by omega) (by rw [hsd]; omega) (by rw [hsl]; omega)
      rw [hsl] at e2
      rw [hsd] at e1''
      obtain ⟨p1, p2⟩ := after_set e3 e2 h
      refine ⟨k', v', ?_, by omega, by omega, e2, p2, fun b => ?_⟩
      · simp only [hc, decide_true, if_true, Int.natCast_nonneg, Int.toNat_natCast, hg, Option.bind_some, i0, hi1, List.getElem?_set_self h, List.set_set, List.length_set]
        exact e1
      · rw [p1]
        unfold laws_heldIntS_l0
        simp only [i0, Option.bind_some, beq_rfl, bne_rfl, if_true, decide_false, Bool.false_eq_true, if_false]
        exact e4 b
    · have hc : ¬ (i : Int) < (v.length : Int) := by omega
      refine ⟨k, v, by simp only [hc, decide_false, Bool.false_eq_true, if_false], by omega, by omega, rfl, rfl, fun b => ?_⟩
      rw [List.drop_eq_nil_of_le (by omega)]
      rfl
theorem markIntS_val (v : List Int) (k : Int) (h : v.length ≤ 4000000) (h0 : 0 ≤ k) (hk : k + 16 * (v.length : Nat) ≤ 1000000000000) :
    ∃ (k' : Int) (v' : List Int), laws_markIntS v k = some (k', v') ∧ k ≤ k' ∧ k' ≤ k + 16 * (v.length : Nat) ∧ v'.length = v.length ∧ laws_heldIntS v' k = some k' := by
  have hl : v.length ≤ 4000000 := h
  obtain ⟨k', v', e1, e1', e1'', e2, e3, e4⟩ := markIntS_l0_val FUEL k 0 v (by omega) hl (by simpa using h) h0 (by simpa using hk) (by unfold FUEL; omega)
  have e4 := e4 v'
  simp only [List.drop_zero] at e4 e1''
  refine ⟨k', v', ?_, e1', e1'', e2, ?_⟩
  · unfold laws_markIntS
    have : ((0 : Nat) : Int) = 0 := rfl
    rw [this] at e1
    rw [e1]; rfl
  · unfold laws_heldIntS
    rw [capOk_of (by omega), e4]; rfl
def wtRing (a : Ring) : Nat := a.Counts.length + a.Sums.length
theorem wtRing_eq (a : Ring) : wtRing a = a.Counts.length + a.Sums.length := rfl
theorem szRing_val (a : Ring) (left : Int) (hw : W151 a) (h0 : 0 ≤ left) (h1 : left ≤ 1048576) : ∃ r, laws_szRing a left = some r ∧ (0 ≤ r → r = left - (wtRing a : Nat)) := by
  unfold W151 at hw
  obtain ⟨w0, w1, w2, w3⟩ := hw
  rw [wtRing_eq]
  unfold laws_szRing
  obtain ⟨r1, e1, g1⟩ := szIntS_val a.Counts left w2 (by omega) (by omega)
  simp only [e1, decide_true, decide_false, Bool.false_eq_true, if_true, if_false, Option.bind_some]
  by_cases c1 : r1 < 0
  · exact ⟨-1, by simp only [c1, decide_true, decide_false, Bool.false_eq_true, if_true, if_false, Option.bind_some], fun h => by omega⟩
  · have g1 := g1 (by omega)
    simp only [c1, decide_true, decide_false, Bool.false_eq_true, if_true, if_false, Option.bind_some]
    obtain ⟨r2, e2, g2⟩ := szIntS_val a.Sums r1 w3 (by omega) (by omega)
    simp only [e2, decide_true, decide_false, Bool.false_eq_true, if_true, if_false, Option.bind_some]
    by_cases c2 : r2 < 0
    · exact ⟨-1, by simp only [c2, decide_true, decide_false, Bool.false_eq_true, if_true, if_false, Option.bind_some], fun h => by omega⟩
    · have g2 := g2 (by omega)
      simp only [c2, decide_true, decide_false, Bool.false_eq_true, if_true, if_false, Option.bind_some]
      exact ⟨_, rfl, fun _ => by omega⟩
theorem toRing_val (a : Ring) (h : wtRing a ≤ 4000000) : laws_toRing a = some a := by
  rw [wtRing_eq] at h
  unfold laws_toRing
  simp only [toIntS_val a.Counts (by omega), toIntS_val a.Sums (by omega), Option.bind_some]
theorem eqRing_rfl (a : Ring) (h : wtRing a ≤ 4000000) : laws_eqRing a a = some true := by
  rw [wtRing_eq] at h
  unfold laws_eqRing
  simp only [eqIntS_rfl a.Counts (by omega), eqIntS_rfl a.Sums (by omega), beq_rfl, bne_rfl, Bool.false_eq_true, if_false, if_true, Option.bind_some]
theorem szByteS_val (a : List Int) (left : Int) (hw : W47 a) (h0 : 0 ≤ left) (h1 : left ≤ 1048576) : ∃ r, laws_szByteS a left = some r ∧ (0 ≤ r → r = left - (a.length : Nat)) := by
  unfold W47 Wl at hw
  have hl : a.length ≤ 140737488351232 := by have := hw.1; omega
  unfold laws_szByteS
  rw [sub_val h0 h1 hl]
  by_cases h : left - (a.length : Int) < 0
  · exact ⟨-1, by simp [h], fun h => by omega⟩
  · exact ⟨left - a.length, by simp [h], fun _ => rfl⟩
theorem toByteS_l0_val (a : List Int) : ∀ (t p v : List Int), a = p ++ t → v.length = a.length → v.take p.length = p → laws_toByteS_l0 a t p v = some a
  | [], p, v, e, hl, hv => by
    have : v = p := by rw [← hv, List.take_of_length_le (by rw [hl, e]; simp)]
    simp [laws_toByteS_l0, this, e]
  | x :: t, p, v, e, hl, hv => by
    have hlt : p.length < v.length := by rw [hl, e]; simp
    obtain ⟨y, hy⟩ := idx_some (v := v) hlt
    unfold laws_toByteS_l0
    rw [hy, Option.bind_some, Int.toNat_natCast]
    exact toByteS_l0_val a t (p ++ [x]) _ (by rw [e]; simp) (by simp [hl]) (set_take hv hlt)
theorem toByteS_val (a : List Int) (h : a.length ≤ 4000000) : laws_toByteS a = some a := by
  have hl : a.length ≤ 4000000 := h
  unfold laws_toByteS
  simp only [Int.natCast_nonneg, decide_true, if_true, Int.toNat_natCast, capOk_of (show a.length ≤ 274877906944 by omega)]
  rw [toByteS_l0_val a a [] _ rfl (by simp) rfl]
  rfl
theorem eqByteS_l0_rfl (a : List Int) : ∀ t p : List Int, a = p ++ t → laws_eqByteS_l0 a a t p = some (.out ())
  | [], p, e => rfl
  | x :: t, p, e => by
    unfold laws_eqByteS_l0
    rw [mid_get e, Option.bind_some]
    simp only [bne_rfl, beq_rfl, Bool.false_eq_true, if_false, if_true]
    exact eqByteS_l0_rfl a t (p ++ [x]) (by rw [e]; simp)
theorem eqByteS_rfl (a : List Int) (h : a.length ≤ 4000000) : laws_eqByteS a a = some true := by
  have hl : a.length ≤ 4000000 := h
  unfold laws_eqByteS
  rw [eqByteS_l0_rfl a a [] rfl, capOk_of (show a.length ≤ 274877906944 by omega)]
  simp only [bne_rfl, Bool.false_eq_true, if_false, if_true]
  rfl
theorem markByteS_l0_val : ∀ (n : Nat) (k : Int) (i : Nat) (v : List Int), i ≤ v.length → v.length ≤ 4000000 → (v.drop i).length ≤ 4000000 → 0 ≤ k → k + 16 * ((v.drop i).length : Nat) ≤ 1000000000000 → v.length - i < n →
    ∃ (k' : Int) (v' : List Int), laws_markByteS_l0 n k (i : Int) v = some (k', v') ∧ k ≤ k' ∧ k' ≤ k + 16 * ((v.drop i).length : Nat) ∧ v'.length = v.length ∧ v'.take i = v.take i ∧ ∀ b, laws_heldByteS_l0 b (v'.drop i) k = some (.out k')
  | 0, k, i, v, hi, hl, hw, h0, hk, hn => by omega
  | n + 1, k, i, v, hi, hl, hw, h0, hk, hn => by
    unfold laws_markByteS_l0
    by_cases h : i < v.length
    · have hc : (i : Int) < (v.length : Int) := by omega
      have hi1 : i64 ((i : Int) + 1) = ((i + 1 : Nat) : Int) := by rw [i64_of (by omega) (by omega)]; omega
      have hg : v[i]? = some v[i] := List.getElem?_eq_getElem h
      have hd : (v.drop i).length = 1 + (v.drop (i + 1)).length := by rw [List.length_drop, List.length_drop]; omega
      have i0 : i64 (k + 1) = k + 1 := i64_of (by omega) (by omega)
      have hsl : (v.set i (u8 (k))).length = v.length := List.length_set
      have hsd : (v.set i (u8 (k))).drop (i + 1) = v.drop (i + 1) := List.drop_set_of_lt (by omega)
      obtain ⟨k', v', e1, e1', e1'', e2, e3, e4⟩ := markByteS_l0_val n (k + 1) (i + 1) (v.set i (u8 (k))) (by rw [hsl]; omega) (by rw [hsl]; omega) (by rw [hsd]; omega) (by omega) (by rw [hsd]; omega) (by rw [hsl]; omega)
      rw [hsl] at e2
      rw [hsd] at e1''
      obtain ⟨p1, p2⟩ := after_set e3 e2 h
      refine ⟨k', v', ?_, by omega, by omega, e2, p2, fun b => ?_⟩
      · simp only [hc, decide_true, if_true, Int.natCast_nonneg, Int.toNat_natCast, hg, Option.bind_some, i0, hi1, List.getElem?_set_self h, List.set_set, List.length_set]
        exact e1
      · rw [p1]
        unfold laws_heldByteS_l0
        simp only [i0, Option.bind_some, beq_rfl, bne_rfl, if_true, decide_false, Bool.false_eq_true, if_false]
        exact e4 b
    · have hc : ¬ (i : Int) < (v.length : Int) := by omega
      refine ⟨k, v, by simp only [hc, decide_false, Bool.false_eq_true, if_false], by omega, by omega, rfl, rfl, fun b => ?_⟩
      rw [List.drop_eq_nil_of_le (by omega)]
      rfl
theorem markByteS_val (v : List Int) (k : Int) (h : v.length ≤ 4000000) (h0 : 0 ≤ k) (hk : k + 16 * (v.length : Nat) ≤ 1000000000000) :
    ∃ (k' : Int) (v' : List Int), laws_markByteS v k = some (k', v') ∧ k ≤ k' ∧ k' ≤ k + 16 * (v.length : Nat) ∧ v'.length = v.length ∧ laws_heldByteS v' k = some k' := by
  have hl : v.length ≤ 4000000 := h
  obtain ⟨k', v', e1, e1', e1'', e2, e3, e4⟩ := markByteS_l0_val FUEL k 0 v (by omega) hl (by simpa using h) h0 (by simpa using hk) (by unfold FUEL; omega)
  have e4 := e4 v'
  simp only [List.drop_zero] at e4 e1''
  refine ⟨k', v', ?_, e1', e1'', e2, ?_⟩
  · unfold laws_markByteS
    have : ((0 : Nat) : Int) = 0 := rfl
    rw [this] at e1
    rw [e1]; rfl
  · unfold laws_heldByteS
    rw [capOk_of (by omega), e4]; rfl
def wtSlot (a : Slot) : Nat := a.Trace.size + a.Mti.size + a.Reply.length
theorem wtSlot_eq (a : Slot) : wtSlot a = a.Trace.size + a.Mti.size + a.Reply.length := rfl
theorem szSlot_val (a : Slot) (left : Int) (hw : W216 a) (h0 : 0 ≤ left) (h1 : left ≤ 1048576) : ∃ r, laws_szSlot a left = some r ∧ (0 ≤ r → r = left - (wtSlot a : Nat)) := by
  unfold W216 at hw
  obtain ⟨w0, w1, w2⟩ := hw
  rw [wtSlot_eq]
  unfold laws_szSlot
  have b1 := w0
  unfold Ws at b1
  rw [sub_val (show 0 ≤ left by omega) (by omega) b1]
  by_cases c1 : (left - (a.Trace.size : Int)) < 0
  · exact ⟨-1, by simp only [c1, decide_true, decide_false, Bool.false_eq_true, if_true, if_false, Option.bind_some], fun h => by omega⟩
  · simp only [c1, decide_true, decide_false, Bool.false_eq_true, if_true, if_false, Option.bind_some]
    have b2 := w1
    unfold Ws at b2
    rw [sub_val (show 0 ≤ (left - (a.Trace.size : Int)) by omega) (by omega) b2]
    by_cases c2 : (((left - (a.Trace.size : Int))) - (a.Mti.size : Int)) < 0
    · exact ⟨-1, by simp only [c2, decide_true, decide_false, Bool.false_eq_true, if_true, if_false, Option.bind_some], fun h => by omega⟩
    · simp only [c2, decide_true, decide_false, Bool.false_eq_true, if_true, if_false, Option.bind_some]
      obtain ⟨r3, e3, g3⟩ := szByteS_val a.Reply (((left - (a.Trace.size : Int))) - (a.Mti.size : Int)) w2 (by omega) (by omega)
      simp only [e3, decide_true, decide_false, Bool.false_eq_true, if_true, if_false, Option.bind_some]
      by_cases c3 : r3 < 0
      · exact ⟨-1, by simp only [c3, decide_true, decide_false, Bool.false_eq_true, if_true, if_false, Option.bind_some], fun h => by omega⟩
      · have g3 := g3 (by omega)
        simp only [c3, decide_true, decide_false, Bool.false_eq_true, if_true, if_false, Option.bind_some]
        exact ⟨_, rfl, fun _ => by omega⟩
theorem toSlot_val (a : Slot) (h : wtSlot a ≤ 4000000) : laws_toSlot a = some a := by
  rw [wtSlot_eq] at h
  unfold laws_toSlot
  simp only [toByteS_val a.Reply (by omega), Option.bind_some]
theorem eqSlot_rfl (a : Slot) (h : wtSlot a ≤ 4000000) : laws_eqSlot a a = some true := by
  rw [wtSlot_eq] at h
  unfold laws_eqSlot
  simp only [eqByteS_rfl a.Reply (by omega), beq_rfl, bne_rfl, Bool.false_eq_true, if_false, if_true, Option.bind_some]
theorem szHoldS_l0_val (a : List Hold) : ∀ (t : List Hold) (v : Int), 0 ≤ v → v ≤ 1048576 → (∀ x ∈ t, W214 x) → ∃ r, laws_szHoldS_l0 a t v = some r ∧ ∀ s, r = .out s → 0 ≤ s ∧ s = v - (wtS wtHold t : Nat)
  | [], v, h0, h1, _ => ⟨.out v, rfl, fun s e => by cases e; exact ⟨h0, by simp [wtS]⟩⟩
  | x :: t, v, h0, h1, hw => by
    obtain ⟨r, e1, e3⟩ := szHold_val x v (hw x (by simp)) h0 h1
    unfold laws_szHoldS_l0
    rw [e1, Option.bind_some]
    by_cases h : r < 0
    · exact ⟨.ret (), by simp [h], fun s e => by cases e⟩
    · have e3 := e3 (by omega)
      obtain ⟨z, f1, f2⟩ := szHoldS_l0_val a t r (by omega) (by omega) (fun y hy => hw y (by simp [hy]))
      refine ⟨z, by simp [h, f1], fun s e => ?_⟩
      obtain ⟨g1, g2⟩ := f2 s e
      exact ⟨g1, by rw [g2]; simp only [wtS]; omega⟩
theorem szHoldS_val (a : List Hold) (left : Int) (hw : W150 a) (h0 : 0 ≤ left) (h1 : left ≤ 1048576) : ∃ r, laws_szHoldS a left = some r ∧ (0 ≤ r → r = left - (wtL wtHold a : Nat)) := by
  unfold W150 Wl at hw
  have hl : a.length ≤ 140737488351232 := by have := hw.1; omega
  unfold laws_szHoldS
  rw [sub_val h0 h1 hl]
  by_cases h : left - (a.length : Int) < 0
  · exact ⟨-1, by simp [h], fun h => by omega⟩
  · obtain ⟨z, f1, f2⟩ := szHoldS_l0_val a a (left - a.length) (by omega) (by omega) hw.2
    simp only [h, decide_false, Bool.false_eq_true, if_false, capOk_of (show a.length ≤ 274877906944 by omega), if_true, f1, Option.bind_some]
    cases z with
    | ret u => exact ⟨-1, rfl, fun h => by omega⟩
    | out s =>
      obtain ⟨g1, g2⟩ := f2 s rfl
      exact ⟨s, rfl, fun _ => by rw [g2, wtL_eq]; omega⟩
theorem toHoldS_l0_val (a : List Hold) : ∀ (t p v : List Hold), a = p ++ t → (∀ s ∈ t, wtHold s ≤ 4000000) → v.length = a.length → v.take p.length = p → laws_toHoldS_l0 a t p v = some a
  | [], p, v, e, hs, hl, hv => by
    have : v = p := by rw [← hv, List.take_of_length_le (by rw [hl, e]; simp)]
    simp [laws_toHoldS_l0, this, e]
  | x :: t, p, v, e, hs, hl, hv => by
    have hlt : p.length < v.length := by rw [hl, e]; simp
    obtain ⟨y, hy⟩ := idx_some (v := v) hlt
    unfold laws_toHoldS_l0
    rw [toHold_val x (hs x (by simp)), Option.bind_some, hy, Option.bind_some, Int.toNat_natCast]
    exact toHoldS_l0_val a t (p ++ [x]) _ (by rw [e]; simp) (fun s hs' => hs s (by simp [hs'])) (by simp [hl]) (set_take hv hlt)
theorem toHoldS_val (a : List Hold) (h : wtL wtHold a ≤ 4000000) : laws_toHoldS a = some a := by
  have hl : a.length ≤ 4000000 := (by have := wtL_len wtHold a; omega)
  unfold laws_toHoldS
  simp only [Int.natCast_nonneg, decide_true, if_true, Int.toNat_natCast, capOk_of (show a.length ≤ 274877906944 by omega)]
  rw [toHoldS_l0_val a a [] _ rfl (fun s hs => by have := wtL_mem wtHold a s hs; omega) (by simp) rfl]
  rfl
theorem eqHoldS_l0_rfl (a : List Hold) : ∀ t p : List Hold, a = p ++ t → (∀ s ∈ t, wtHold s ≤ 4000000) → laws_eqHoldS_l0 a a t p = some (.out ())
  | [], p, e, _ => rfl
  | x :: t, p, e, hs => by
    unfold laws_eqHoldS_l0
    rw [mid_get e, Option.bind_some, eqHold_rfl x (hs x (by simp)), Option.bind_some]
    simpa using eqHoldS_l0_rfl a t (p ++ [x]) (by rw [e]; simp) (fun s hs' => hs s (by simp [hs']))
theorem eqHoldS_rfl (a : List Hold) (h : wtL wtHold a ≤ 4000000) : laws_eqHoldS a a = some true := by
  have hl : a.length ≤ 4000000 := (by have := wtL_len wtHold a; omega)
  unfold laws_eqHoldS
  rw [eqHoldS_l0_rfl a a [] rfl (fun s hs => by have := wtL_mem wtHold a s hs; omega), capOk_of (show a.length ≤ 274877906944 by omega)]
  simp only [bne_rfl, Bool.false_eq_true, if_false, if_true]
  rfl
theorem markHoldS_l0_val : ∀ (n : Nat) (k : Int) (i : Nat) (v : List Hold), i ≤ v.length → v.length ≤ 4000000 → wtL wtHold (v.drop i) ≤ 4000000 → 0 ≤ k → k + 16 * (wtL wtHold (v.drop i) : Nat) ≤ 1000000000000 → v.length - i < n →
    ∃ (k' : Int) (v' : List Hold), laws_markHoldS_l0 n k (i : Int) v = some (k', v') ∧ k ≤ k' ∧ k' ≤ k + 16 * (wtL wtHold (v.drop i) : Nat) ∧ v'.length = v.length ∧ v'.take i = v.take i ∧ ∀ b, laws_heldHoldS_l0 b (v'.drop i) k = some (.out k')
  | 0, k, i, v, hi, hl, hw, h0, hk, hn => by omega
  | n + 1, k, i, v, hi, hl, hw, h0, hk, hn => by
    unfold laws_markHoldS_l0
    by_cases h : i < v.length
    · have hc : (i : Int) < (v.length : Int) := by omega
      have hi1 : i64 ((i : Int) + 1) = ((i + 1 : Nat) : Int) := by rw [i64_of (by omega) (by omega)]; omega
      have hg : v[i]? = some v[i] := List.getElem?_eq_getElem h
      have hd : wtL wtHold (v.drop i) = 1 + wtHold v[i] + wtL wtHold (v.drop (i + 1)) := by rw [List.drop_eq_getElem_cons h]; rfl
      have hx := wtHold_eq v[i]
      obtain ⟨t0, ht0⟩ := markText_tot (k) (by omega)
      have i0 : i64 (k + 1) = k + 1 := i64_of (by omega) (by omega)
      have i1 : i64 (k + 1 + 1) = k + 1 + 1 := i64_of (by omega) (by omega)
      have i2 : i64 (k + 1 + 1 + 1) = k + 1 + 1 + 1 := i64_of (by omega) (by omega)
      have hsl : (v.set i (Hold.mk t0 (k + 1) (k + 1 + 1))).length = v.length := List.length_set
      have hsd : (v.set i (Hold.mk t0 (k + 1) (k + 1 + 1))).drop (i + 1) = v.drop (i + 1) := List.drop_set_of_lt (by omega)
      obtain ⟨k', v', e1, e1', e1'', e2, e3, e4⟩ := markHoldS_l0_val n (k + 1 + 1 + 1) (i + 1) (v.set i (Hold.mk t0 (k + 1) (k + 1 + 1))) (by rw [hsl]; omega) (by rw [hsl]; omega) (by rw [hsd]; omega) (by omega) (by rw [hsd]; omega) (by rw [hsl]; omega)
      rw [hsl] at e2
      rw [hsd] at e1''
      obtain ⟨p1, p2⟩ := after_set e3 e2 h
      refine ⟨k', v', ?_, by omega, by omega, e2, p2, fun b => ?_⟩
      · simp only [hc, decide_true, if_true, Int.natCast_nonneg, Int.toNat_natCast, hg, Option.bind_some, ht0, i0, i1, i2, hi1, List.getElem?_set_self h, List.set_set, List.length_set]
        exact e1
      · rw [p1]
        unfold laws_heldHoldS_l0
        simp only [ht0, i0, i1, i2, Option.bind_some, beq_rfl, bne_rfl, if_true, decide_false, Bool.false_eq_true, if_false]
        exact e4 b
    · have hc : ¬ (i : Int) < (v.length : Int) := by omega
      refine ⟨k, v, by simp only [hc, decide_false, Bool.false_eq_true, if_false], by omega, by omega, rfl, rfl, fun b => ?_⟩
      rw [List.drop_eq_nil_of_le (by omega)]
      rfl
theorem markHoldS_val (v : List Hold) (k : Int) (h : wtL wtHold v ≤ 4000000) (h0 : 0 ≤ k) (hk : k + 16 * (wtL wtHold v : Nat) ≤ 1000000000000) :
    ∃ (k' : Int) (v' : List Hold), laws_markHoldS v k = some (k', v') ∧ k ≤ k' ∧ k' ≤ k + 16 * (wtL wtHold v : Nat) ∧ v'.length = v.length ∧ laws_heldHoldS v' k = some k' := by
  have hl : v.length ≤ 4000000 := (by have := wtL_len wtHold v; omega)
  obtain ⟨k', v', e1, e1', e1'', e2, e3, e4⟩ := markHoldS_l0_val FUEL k 0 v (by omega) hl (by simpa using h) h0 (by simpa using hk) (by unfold FUEL; omega)
  have e4 := e4 v'
  simp only [List.drop_zero] at e4 e1''
  refine ⟨k', v', ?_, e1', e1'', e2, ?_⟩
  · unfold laws_markHoldS
    have : ((0 : Nat) : Int) = 0 := rfl
    rw [this] at e1
    rw [e1]; rfl
  · unfold laws_heldHoldS
    rw [capOk_of (by omega), e4]; rfl
theorem szSlotS_l0_val (a : List Slot) : ∀ (t : List Slot) (v : Int), 0 ≤ v → v ≤ 1048576 → (∀ x ∈ t, W216 x) → ∃ r, laws_szSlotS_l0 a t v = some r ∧ ∀ s, r = .out s → 0 ≤ s ∧ s = v - (wtS wtSlot t : Nat)
  | [], v, h0, h1, _ => ⟨.out v, rfl, fun s e => by cases e; exact ⟨h0, by simp [wtS]⟩⟩
  | x :: t, v, h0, h1, hw => by
    obtain ⟨r, e1, e3⟩ := szSlot_val x v (hw x (by simp)) h0 h1
    unfold laws_szSlotS_l0
    rw [e1, Option.bind_some]
    by_cases h : r < 0
    · exact ⟨.ret (), by simp [h], fun s e => by cases e⟩
    · have e3 := e3 (by omega)
      obtain ⟨z, f1, f2⟩ := szSlotS_l0_val a t r (by omega) (by omega) (fun y hy => hw y (by simp [hy]))
      refine ⟨z, by simp [h, f1], fun s e => ?_⟩
      obtain ⟨g1, g2⟩ := f2 s e
      exact ⟨g1, by rw [g2]; simp only [wtS]; omega⟩
theorem szSlotS_val (a : List Slot) (left : Int) (hw : W152 a) (h0 : 0 ≤ left) (h1 : left ≤ 1048576) : ∃ r, laws_szSlotS a left = some r ∧ (0 ≤ r → r = left - (wtL wtSlot a : Nat)) := by
  unfold W152 Wl at hw
  have hl : a.length ≤ 140737488351232 := by have := hw.1; omega
  unfold laws_szSlotS
  rw [sub_val h0 h1 hl]
  by_cases h : left - (a.length : Int) < 0
  · exact ⟨-1, by simp [h], fun h => by omega⟩
  · obtain ⟨z, f1, f2⟩ := szSlotS_l0_val a a (left - a.length) (by omega) (by omega) hw.2
    simp only [h, decide_false, Bool.false_eq_true, if_false, capOk_of (show a.length ≤ 274877906944 by omega), if_true, f1, Option.bind_some]
    cases z with
    | ret u => exact ⟨-1, rfl, fun h => by omega⟩
    | out s =>
      obtain ⟨g1, g2⟩ := f2 s rfl
      exact ⟨s, rfl, fun _ => by rw [g2, wtL_eq]; omega⟩
theorem toSlotS_l0_val (a : List Slot) : ∀ (t p v : List Slot), a = p ++ t → (∀ s ∈ t, wtSlot s ≤ 4000000) → v.length = a.length → v.take p.length = p → laws_toSlotS_l0 a t p v = some a
  | [], p, v, e, hs, hl, hv => by
    have : v = p := by rw [← hv, List.take_of_length_le (by rw [hl, e]; simp)]
    simp [laws_toSlotS_l0, this, e]
  | x :: t, p, v, e, hs, hl, hv => by
    have hlt : p.length < v.length := by rw [hl, e]; simp
    obtain ⟨y, hy⟩ := idx_some (v := v) hlt
    unfold laws_toSlotS_l0
    rw [toSlot_val x (hs x (by simp)), Option.bind_some, hy, Option.bind_some, Int.toNat_natCast]
    exact toSlotS_l0_val a t (p ++ [x]) _ (by rw [e]; simp) (fun s hs' => hs s (by simp [hs'])) (by simp [hl]) (set_take hv hlt)
theorem toSlotS_val (a : List Slot) (h : wtL wtSlot a ≤ 4000000) : laws_toSlotS a = some a := by
  have hl : a.length ≤ 4000000 := (by have := wtL_len wtSlot a; omega)
  unfold laws_toSlotS
  simp only [Int.natCast_nonneg, decide_true, if_true, Int.toNat_natCast, capOk_of (show a.length ≤ 274877906944 by omega)]
  rw [toSlotS_l0_val a a [] _ rfl (fun s hs => by have := wtL_mem wtSlot a s hs; omega) (by simp) rfl]
  rfl
theorem eqSlotS_l0_rfl (a : List Slot) : ∀ t p : List Slot, a = p ++ t → (∀ s ∈ t, wtSlot s ≤ 4000000) → laws_eqSlotS_l0 a a t p = some (.out ())
  | [], p, e, _ => rfl
  | x :: t, p, e, hs => by
    unfold laws_eqSlotS_l0
    rw [mid_get e, Option.bind_some, eqSlot_rfl x (hs x (by simp)), Option.bind_some]
    simpa using eqSlotS_l0_rfl a t (p ++ [x]) (by rw [e]; simp) (fun s hs' => hs s (by simp [hs']))
theorem eqSlotS_rfl (a : List Slot) (h : wtL wtSlot a ≤ 4000000) : laws_eqSlotS a a = some true := by
  have hl : a.length ≤ 4000000 := (by have := wtL_len wtSlot a; omega)
  unfold laws_eqSlotS
  rw [eqSlotS_l0_rfl a a [] rfl (fun s hs => by have := wtL_mem wtSlot a s hs; omega), capOk_of (show a.length ≤ 274877906944 by omega)]
  simp only [bne_rfl, Bool.false_eq_true, if_false, if_true]
  rfl
theorem markSlotS_l0_val : ∀ (n : Nat) (k : Int) (i : Nat) (v : List Slot), i ≤ v.length → v.length ≤ 4000000 → wtL wtSlot (v.drop i) ≤ 4000000 → 0 ≤ k → k + 16 * (wtL wtSlot (v.drop i) : Nat) ≤ 1000000000000 → v.length - i < n →
    ∃ (k' : Int) (v' : List Slot), laws_markSlotS_l0 n k (i : Int) v = some (k', v') ∧ k ≤ k' ∧ k' ≤ k + 16 * (wtL wtSlot (v.drop i) : Nat) ∧ v'.length = v.length ∧ v'.take i = v.take i ∧ ∀ b, laws_heldSlotS_l0 b (v'.drop i) k = some (.out k')
  | 0, k, i, v, hi, hl, hw, h0, hk, hn => by omega
  | n + 1, k, i, v, hi, hl, hw, h0, hk, hn => by
    unfold laws_markSlotS_l0
    by_cases h : i < v.length
    · have hc : (i : Int) < (v.length : Int) := by omega
      have hi1 : i64 ((i : Int) + 1) = ((i + 1 : Nat) : Int) := by rw [i64_of (by omega) (by omega)]; omega
      have hg : v[i]? = some v[i] := List.getElem?_eq_getElem h
      have hd : wtL wtSlot (v.drop i) = 1 + wtSlot v[i] + wtL wtSlot (v.drop (i + 1)) := by rw [List.drop_eq_getElem_cons h]; rfl
      have hx := wtSlot_eq v[i]
      obtain ⟨t0, ht0⟩ := markText_tot (k) (by omega)
      have i0 : i64 (k + 1) = k + 1 := i64_of (by omega) (by omega)
      obtain ⟨t1, ht1⟩ := markText_tot (k + 1) (by omega)
      have i1 : i64 (k + 1 + 1) = k + 1 + 1 := i64_of (by omega) (by omega)
      obtain ⟨k2, y2, m2, g2, b2, q2, d2⟩ := markByteS_val v[i].Reply (k + 1 + 1) (by omega) (by omega) (by omega)
      have hsl : (v.set i (Slot.mk t0 t1 y2)).length = v.length := List.length_set
      have hsd : (v.set i (Slot.mk t0 t1 y2)).drop (i + 1) = v.drop (i + 1) := List.drop_set_of_lt (by omega)
      obtain ⟨k', v', e1, e1', e1'', e2, e3, e4⟩ := markSlotS_l0_val n (k2) (i + 1) (v.set i (Slot.mk t0 t1 y2)) (by rw [hsl]; omega) (by rw [hsl]; omega) (by rw [hsd]; omega) (by omega) (by rw [hsd]; omega) (by rw [hsl]; omega)
      rw [hsl] at e2
      rw [hsd] at e1''
      obtain ⟨p1, p2⟩ := after_set e3 e2 h
      refine ⟨k', v', ?_, by omega, by omega, e2, p2, fun b => ?_⟩
      · simp only [hc, decide_true, if_true, Int.natCast_nonneg, Int.toNat_natCast, hg, Option.bind_some, ht0, i0, ht1, i1, m2, hi1, List.getElem?_set_self h, List.set_set, List.length_set]
        exact e1
      · rw [p1]
        unfold laws_heldSlotS_l0
        simp only [ht0, i0, ht1, i1, d2, show ¬ k2 < 0 by omega, Option.bind_some, beq_rfl, bne_rfl, if_true, decide_false, Bool.false_eq_true, if_false]
        exact e4 b
    · have hc : ¬ (i : Int) < (v.length : Int) := by omega
      refine ⟨k, v, by simp only [hc, decide_false, Bool.false_eq_true, if_false], by omega, by omega, rfl, rfl, fun b => ?_⟩
      rw [List.drop_eq_nil_of_le (by omega)]
      rfl
theorem markSlotS_val (v : List Slot) (k : Int) (h : wtL wtSlot v ≤ 4000000) (h0 : 0 ≤ k) (hk : k + 16 * (wtL wtSlot v : Nat) ≤ 1000000000000) :
    ∃ (k' : Int) (v' : List Slot), laws_markSlotS v k = some (k', v') ∧ k ≤ k' ∧ k' ≤ k + 16 * (wtL wtSlot v : Nat) ∧ v'.length = v.length ∧ laws_heldSlotS v' k = some k' := by
  have hl : v.length ≤ 4000000 := (by have := wtL_len wtSlot v; omega)
  obtain ⟨k', v', e1, e1', e1'', e2, e3, e4⟩ := markSlotS_l0_val FUEL k 0 v (by omega) hl (by simpa using h) h0 (by simpa using hk) (by unfold FUEL; omega)
  have e4 := e4 v'
  simp only [List.drop_zero] at e4 e1''
  refine ⟨k', v', ?_, e1', e1'', e2, ?_⟩
  · unfold laws_markSlotS
    have : ((0 : Nat) : Int) = 0 := rfl
    rw [this] at e1
    rw [e1]; rfl
  · unfold laws_heldSlotS
    rw [capOk_of (by omega), e4]; rfl
def wtAcct (a : Acct) : Nat := a.Id.size + wtL wtHold a.Holds + wtRing a.Ring + wtL wtSlot a.Slots
theorem wtAcct_eq (a : Acct) : wtAcct a = a.Id.size + wtL wtHold a.Holds + wtRing a.Ring + wtL wtSlot a.Slots := rfl
theorem szAcct_val (a : Acct) (left : Int) (hw : W154 a) (h0 : 0 ≤ left) (h1 : left ≤ 1048576) : ∃ r, laws_szAcct a left = some r ∧ (0 ≤ r → r = left - (wtAcct a : Nat)) := by
  unfold W154 at hw
  obtain ⟨w0, w1, w2, w3, w4, w5, w6, w7⟩ := hw
  rw [wtAcct_eq]
  unfold laws_szAcct
  have b1 := w0
  unfold Ws at b1
  rw [sub_val (show 0 ≤ left by omega) (by omega) b1]
  by_cases c1 : (left - (a.Id.size : Int)) < 0
  · exact ⟨-1, by simp only [c1, decide_true, decide_false, Bool.false_eq_true, if_true, if_false, Option.bind_some], fun h => by omega⟩
  · simp only [c1, decide_true, decide_false, Bool.false_eq_true, if_true, if_false, Option.bind_some]
    obtain ⟨r2, e2, g2⟩ := szHoldS_val a.Holds (left - (a.Id.size : Int)) w5 (by omega) (by omega)
    simp only [e2, decide_true, decide_false, Bool.false_eq_true, if_true, if_false, Option.bind_some]
    by_cases c2 : r2 < 0
    · exact ⟨-1, by simp only [c2, decide_true, decide_false, Bool.false_eq_true, if_true, if_false, Option.bind_some], fun h => by omega⟩
    · have g2 := g2 (by omega)
      simp only [c2, decide_true, decide_false, Bool.false_eq_true, if_true, if_false, Option.bind_some]
      obtain ⟨r3, e3, g3⟩ := szRing_val a.Ring r2 w6 (by omega) (by omega)
      simp only [e3, decide_true, decide_false, Bool.false_eq_true, if_true, if_false, Option.bind_some]
      by_cases c3 : r3 < 0
      · exact ⟨-1, by simp only [c3, decide_true, decide_false, Bool.false_eq_true, if_true, if_false, Option.bind_some], fun h => by omega⟩
      · have g3 := g3 (by omega)
        simp only [c3, decide_true, decide_false, Bool.false_eq_true, if_true, if_false, Option.bind_some]
        obtain ⟨r4, e4, g4⟩ := szSlotS_val a.Slots r3 w7 (by omega) (by omega)
        simp only [e4, decide_true, decide_false, Bool.false_eq_true, if_true, if_false, Option.bind_some]
        by_cases c4 : r4 < 0
        · exact ⟨-1, by simp only [c4, decide_true, decide_false, Bool.false_eq_true, if_true, if_false, Option.bind_some], fun h => by omega⟩
        · have g4 := g4 (by omega)
          simp only [c4, decide_true, decide_false, Bool.false_eq_true, if_true, if_false, Option.bind_some]
          exact ⟨_, rfl, fun _ => by omega⟩
theorem toAcct_val (a : Acct) (h : wtAcct a ≤ 4000000) : laws_toAcct a = some a := by
  rw [wtAcct_eq] at h
  unfold laws_toAcct
  simp only [toHoldS_val a.Holds (by omega), toRing_val a.Ring (by omega), toSlotS_val a.Slots (by omega), Option.bind_some]
theorem eqAcct_rfl (a : Acct) (h : wtAcct a ≤ 4000000) : laws_eqAcct a a = some true := by
  rw [wtAcct_eq] at h
  unfold laws_eqAcct
  simp only [eqHoldS_rfl a.Holds (by omega), eqRing_rfl a.Ring (by omega), eqSlotS_rfl a.Slots (by omega), beq_rfl, bne_rfl, Bool.false_eq_true, if_false, if_true, Option.bind_some]
theorem szAcctS_l0_val (a : List Acct) : ∀ (t : List Acct) (v : Int), 0 ≤ v → v ≤ 1048576 → (∀ x ∈ t, W154 x) → ∃ r, laws_szAcctS_l0 a t v = some r ∧ ∀ s, r = .out s → 0 ≤ s ∧ s = v - (wtS wtAcct t : Nat)
  | [], v, h0, h1, _ => ⟨.out v, rfl, fun s e => by cases e; exact ⟨h0, by simp [wtS]⟩⟩
  | x :: t, v, h0, h1, hw => by
    obtain ⟨r, e1, e3⟩ := szAcct_val x v (hw x (by simp)) h0 h1
    unfold laws_szAcctS_l0
    rw [e1, Option.bind_some]
    by_cases h : r < 0
    · exact ⟨.ret (), by simp [h], fun s e => by cases e⟩
    · have e3 := e3 (by omega)
      obtain ⟨z, f1, f2⟩ := szAcctS_l0_val a t r (by omega) (by omega) (fun y hy => hw y (by simp [hy]))
      refine ⟨z, by simp [h, f1], fun s e => ?_⟩
      obtain ⟨g1, g2⟩ := f2 s e
      exact ⟨g1, by rw [g2]; simp only [wtS]; omega⟩
theorem szAcctS_val (a : List Acct) (left : Int) (hw : W35 a) (h0 : 0 ≤ left) (h1 : left ≤ 1048576) : ∃ r, laws_szAcctS a left = some r ∧ (0 ≤ r → r = left - (wtL wtAcct a : Nat)) := by
  unfold W35 Wl at hw
  have hl : a.length ≤ 140737488351232 := by have := hw.1; omega
  unfold laws_szAcctS
  rw [sub_val h0 h1 hl]
  by_cases h : left - (a.length : Int) < 0
  · exact ⟨-1, by simp [h], fun h => by omega⟩
  · obtain ⟨z, f1, f2⟩ := szAcctS_l0_val a a (left - a.length) (by omega) (by omega) hw.2
    simp only [h, decide_false, Bool.false_eq_true, if_false, capOk_of (show a.length ≤ 274877906944 by omega), if_true, f1, Option.bind_some]
    cases z with
    | ret u => exact ⟨-1, rfl, fun h => by omega⟩
    | out s =>
      obtain ⟨g1, g2⟩ := f2 s rfl
      exact ⟨s, rfl, fun _ => by rw [g2, wtL_eq]; omega⟩
theorem toAcctS_l0_val (a : List Acct) : ∀ (t p v : List Acct), a = p ++ t → (∀ s ∈ t, wtAcct s ≤ 4000000) → v.length = a.length → v.take p.length = p → laws_toAcctS_l0 a t p v = some a
  | [], p, v, e, hs, hl, hv => by
    have : v = p := by rw [← hv, List.take_of_length_le (by rw [hl, e]; simp)]
    simp [laws_toAcctS_l0, this, e]
  | x :: t, p, v, e, hs, hl, hv => by
    have hlt : p.length < v.length := by rw [hl, e]; simp
    obtain ⟨y, hy⟩ := idx_some (v := v) hlt
    unfold laws_toAcctS_l0
    rw [toAcct_val x (hs x (by simp)), Option.bind_some, hy, Option.bind_some, Int.toNat_natCast]
    exact toAcctS_l0_val a t (p ++ [x]) _ (by rw [e]; simp) (fun s hs' => hs s (by simp [hs'])) (by simp [hl]) (set_take hv hlt)
theorem toAcctS_val (a : List Acct) (h : wtL wtAcct a ≤ 4000000) : laws_toAcctS a = some a := by
  have hl : a.length ≤ 4000000 := (by have := wtL_len wtAcct a; omega)
  unfold laws_toAcctS
  simp only [Int.natCast_nonneg, decide_true, if_true, Int.toNat_natCast, capOk_of (show a.length ≤ 274877906944 by omega)]
  rw [toAcctS_l0_val a a [] _ rfl (fun s hs => by have := wtL_mem wtAcct a s hs; omega) (by simp) rfl]
  rfl
theorem eqAcctS_l0_rfl (a : List Acct) : ∀ t p : List Acct, a = p ++ t → (∀ s ∈ t, wtAcct s ≤ 4000000) → laws_eqAcctS_l0 a a t p = some (.out ())
  | [], p, e, _ => rfl
  | x :: t, p, e, hs => by
    unfold laws_eqAcctS_l0
    rw [mid_get e, Option.bind_some, eqAcct_rfl x (hs x (by simp)), Option.bind_some]
    simpa using eqAcctS_l0_rfl a t (p ++ [x]) (by rw [e]; simp) (fun s hs' => hs s (by simp [hs']))
theorem eqAcctS_rfl (a : List Acct) (h : wtL wtAcct a ≤ 4000000) : laws_eqAcctS a a = some true := by
  have hl : a.length ≤ 4000000 := (by have := wtL_len wtAcct a; omega)
  unfold laws_eqAcctS
  rw [eqAcctS_l0_rfl a a [] rfl (fun s hs => by have := wtL_mem wtAcct a s hs; omega), capOk_of (show a.length ≤ 274877906944 by omega)]
  simp only [bne_rfl, Bool.false_eq_true, if_false, if_true]
  rfl
theorem markAcctS_l0_val : ∀ (n : Nat) (k : Int) (i : Nat) (v : List Acct), i ≤ v.length → v.length ≤ 4000000 → wtL wtAcct (v.drop i) ≤ 4000000 → 0 ≤ k → k + 16 * (wtL wtAcct (v.drop i) : Nat) ≤ 1000000000000 → v.length - i < n →
    ∃ (k' : Int) (v' : List Acct), laws_markAcctS_l0 n k (i : Int) v = some (k', v') ∧ k ≤ k' ∧ k' ≤ k + 16 * (wtL wtAcct (v.drop i) : Nat) ∧ v'.length = v.length ∧ v'.take i = v.take i ∧ ∀ b, laws_heldAcctS_l0 b (v'.drop i) k = some (.out k')
  | 0, k, i, v, hi, hl, hw, h0, hk, hn => by omega
  | n + 1, k, i, v, hi, hl, hw, h0, hk, hn => by
    unfold laws_markAcctS_l0
    by_cases h : i < v.length
    · have hc : (i : Int) < (v.length : Int) := by omega
      have hi1 : i64 ((i : Int) + 1) = ((i + 1 : Nat) : Int) := by rw [i64_of (by omega) (by omega)]; omega
      have hg : v[i]? = some v[i] := List.getElem?_eq_getElem h
      have hd : wtL wtAcct (v.drop i) = 1 + wtAcct v[i] + wtL wtAcct (v.drop (i + 1)) := by rw [List.drop_eq_getElem_cons h]; rfl
      have hx := wtAcct_eq v[i]
      have hx0 := wtRing_eq v[i].Ring
      obtain ⟨t0, ht0⟩ := markText_tot (k) (by omega)
      have i0 : i64 (k + 1) = k + 1 := i64_of (by omega) (by omega)
      have i1 : i64 (k + 1 + 1) = k + 1 + 1 := i64_of (by omega) (by omega)
      have i2 : i64 (k + 1 + 1 + 1) = k + 1 + 1 + 1 := i64_of (by omega) (by omega)
      have i3 : i64 (k + 1 + 1 + 1 + 1) = k + 1 + 1 + 1 + 1 := i64_of (by omega) (by omega)
      have i4 : i64 (k + 1 + 1 + 1 + 1 + 1) = k + 1 + 1 + 1 + 1 + 1 := i64_of (by omega) (by omega)
      obtain ⟨k5, y5, m5, g5, b5, q5, d5⟩ := markHoldS_val v[i].Holds (k + 1 + 1 + 1 + 1 + 1) (by omega) (by omega) (by omega)
      have i6 : i64 (k5 + 1) = k5 + 1 := i64_of (by omega) (by omega)
      have i7 : i64 (k5 + 1 + 1) = k5 + 1 + 1 := i64_of (by omega) (by omega)
      obtain ⟨k8, y8, m8, g8, b8, q8, d8⟩ := markIntS_val v[i].Ring.Counts (k5 + 1 + 1) (by omega) (by omega) (by omega)
      obtain ⟨k9, y9, m9, g9, b9, q9, d9⟩ := markIntS_val v[i].Ring.Sums (k8) (by omega) (by omega) (by omega)
      obtain ⟨k10, y10, m10, g10, b10, q10, d10⟩ := markSlotS_val v[i].Slots (k9) (by omega) (by omega) (by omega)
      have hsl : (v.set i (Acct.mk t0 (k + 1) (k + 1 + 1) (k + 1 + 1 + 1) (k + 1 + 1 + 1 + 1) y5 (Ring.mk (k5) (k5 + 1) y8 y9) y10)).length = v.length := List.length_set
      have hsd : (v.set i (Acct.mk t0 (k + 1) (k + 1 + 1) (k + 1 + 1 + 1) (k + 1 + 1 + 1 + 1) y5 (Ring.mk (k5) (k5 + 1) y8 y9) y10)).drop (i + 1) = v.drop (i + 1) := List.drop_set_of_lt (by omega)
      obtain ⟨k', v', e1, e1', e1'', e2, e3, e4⟩ := markAcctS_l0_val n (k10) (i + 1) (v.set i (Acct.mk t0 (k + 1) (k + 1 + 1) (k + 1 + 1 + 1) (k + 1 + 1 + 1 + 1) y5 (Ring.mk (k5) (k5 + 1) y8 y9) y10)) (by rw [hsl]; omega) (by rw [hsl]; omega) (by rw [hsd]; omega) (by omega) (by rw [hsd]; omega) (by rw [hsl]; omega)
      rw [hsl] at e2
      rw [hsd] at e1''
      obtain ⟨p1, p2⟩ := after_set e3 e2 h
      refine ⟨k', v', ?_, by omega, by omega, e2, p2, fun b => ?_⟩
      · simp only [hc, decide_true, if_true, Int.natCast_nonneg, Int.toNat_natCast, hg, Option.bind_some, ht0, i0, i1, i2, i3, i4, m5, i6, i7, m8, m9, m10, hi1, List.getElem?_set_self h, List.set_set, List.length_set]
        exact e1
      · rw [p1]
        unfold laws_heldAcctS_l0
        simp only [ht0, i0, i1, i2, i3, i4, i6, i7, d5, show ¬ k5 < 0 by omega, d8, show ¬ k8 < 0 by omega, d9, show ¬ k9 < 0 by omega, d10, show ¬ k10 < 0 by omega, Option.bind_some, beq_rfl, bne_rfl, if_true, decide_false, Bool.false_eq_true, if_false]
        exact e4 b
    · have hc : ¬ (i : Int) < (v.length : Int) := by omega
      refine ⟨k, v, by simp only [hc, decide_false, Bool.false_eq_true, if_false], by omega, by omega, rfl, rfl, fun b => ?_⟩
      rw [List.drop_eq_nil_of_le (by omega)]
      rfl
theorem markAcctS_val (v : List Acct) (k : Int) (h : wtL wtAcct v ≤ 4000000) (h0 : 0 ≤ k) (hk : k + 16 * (wtL wtAcct v : Nat) ≤ 1000000000000) :
    ∃ (k' : Int) (v' : List Acct), laws_markAcctS v k = some (k', v') ∧ k ≤ k' ∧ k' ≤ k + 16 * (wtL wtAcct v : Nat) ∧ v'.length = v.length ∧ laws_heldAcctS v' k = some k' := by
  have hl : v.length ≤ 4000000 := (by have := wtL_len wtAcct v; omega)
  obtain ⟨k', v', e1, e1', e1'', e2, e3, e4⟩ := markAcctS_l0_val FUEL k 0 v (by omega) hl (by simpa using h) h0 (by simpa using hk) (by unfold FUEL; omega)
  have e4 := e4 v'
  simp only [List.drop_zero] at e4 e1''
  refine ⟨k', v', ?_, e1', e1'', e2, ?_⟩
  · unfold laws_markAcctS
    have : ((0 : Nat) : Int) = 0 := rfl
    rw [this] at e1
    rw [e1]; rfl
  · unfold laws_heldAcctS
    rw [capOk_of (by omega), e4]; rfl
def wtBook (a : Book) : Nat := wtL wtAcct a.Accts
theorem wtBook_eq (a : Book) : wtBook a = wtL wtAcct a.Accts := rfl
theorem szBook_val (a : Book) (left : Int) (hw : W37 a) (h0 : 0 ≤ left) (h1 : left ≤ 1048576) : ∃ r, laws_szBook a left = some r ∧ (0 ≤ r → r = left - (wtBook a : Nat)) := by
  unfold W37 at hw
  have w0 := hw
  rw [wtBook_eq]
  unfold laws_szBook
  obtain ⟨r1, e1, g1⟩ := szAcctS_val a.Accts left w0 (by omega) (by omega)
  simp only [e1, decide_true, decide_false, Bool.false_eq_true, if_true, if_false, Option.bind_some]
  by_cases c1 : r1 < 0
  · exact ⟨-1, by simp only [c1, decide_true, decide_false, Bool.false_eq_true, if_true, if_false, Option.bind_some], fun h => by omega⟩
  · have g1 := g1 (by omega)
    simp only [c1, decide_true, decide_false, Bool.false_eq_true, if_true, if_false, Option.bind_some]
    exact ⟨_, rfl, fun _ => by omega⟩
theorem toBook_val (a : Book) (h : wtBook a ≤ 4000000) : laws_toBook a = some a := by
  rw [wtBook_eq] at h
  unfold laws_toBook
  simp only [toAcctS_val a.Accts (by omega), Option.bind_some]
theorem eqBook_rfl (a : Book) (h : wtBook a ≤ 4000000) : laws_eqBook a a = some true := by
  rw [wtBook_eq] at h
  unfold laws_eqBook
  simp only [eqAcctS_rfl a.Accts (by omega), beq_rfl, bne_rfl, Bool.false_eq_true, if_false, if_true, Option.bind_some]
theorem markBook_val (a : Book) (k : Int) (h : wtBook a ≤ 4000000) (h0 : 0 ≤ k) (hk : k + 16 * (wtBook a : Nat) ≤ 1000000000000) : ∃ (k' : Int) (l0 : List Acct), laws_markBook a k = some (k', l0) ∧ k ≤ k' ∧ k' ≤ k + 16 * (wtBook a : Nat) ∧ l0.length = a.Accts.length ∧ ∀ (_ : Unit), laws_heldBook (Book.mk l0) k = some k' := by
  rw [wtBook_eq] at *
  obtain ⟨k0, y0, m0, g0, b0, q0, d0⟩ := markAcctS_val a.Accts k (by omega) (by omega) (by omega)
  refine ⟨k0, y0, ?_, by omega, by omega, q0, fun _ => ?_⟩
  · unfold laws_markBook
    simp only [m0, Option.bind_some]
  · unfold laws_heldBook
    simp only [d0, Option.bind_some, show ¬ k0 < 0 by omega, decide_false, Bool.false_eq_true, if_false]
def wtStripe (a : Stripe) : Nat := wtL wtAcct a.Accts
theorem wtStripe_eq (a : Stripe) : wtStripe a = wtL wtAcct a.Accts := rfl
theorem szStripe_val (a : Stripe) (left : Int) (hw : W132 a) (h0 : 0 ≤ left) (h1 : left ≤ 1048576) : ∃ r, laws_szStripe a left = some r ∧ (0 ≤ r → r = left - (wtStripe a : Nat)) := by
  unfold W132 at hw
  obtain ⟨w0, w1⟩ := hw
  rw [wtStripe_eq]
  unfold laws_szStripe
  obtain ⟨r1, e1, g1⟩ := szAcctS_val a.Accts left w1 (by omega) (by omega)
  simp only [e1, decide_true, decide_false, Bool.false_eq_true, if_true, if_false, Option.bind_some]
  by_cases c1 : r1 < 0
  · exact ⟨-1, by simp only [c1, decide_true, decide_false, Bool.false_eq_true, if_true, if_false, Option.bind_some], fun h => by omega⟩
  · have g1 := g1 (by omega)
    simp only [c1, decide_true, decide_false, Bool.false_eq_true, if_true, if_false, Option.bind_some]
    exact ⟨_, rfl, fun _ => by omega⟩
theorem toStripe_val (a : Stripe) (h : wtStripe a ≤ 4000000) : laws_toStripe a = some a := by
  rw [wtStripe_eq] at h
  unfold laws_toStripe
  simp only [toAcctS_val a.Accts (by omega), Option.bind_some]
theorem eqStripe_rfl (a : Stripe) (h : wtStripe a ≤ 4000000) : laws_eqStripe a a = some true := by
  rw [wtStripe_eq] at h
  unfold laws_eqStripe
  simp only [eqAcctS_rfl a.Accts (by omega), beq_rfl, bne_rfl, Bool.false_eq_true, if_false, if_true, Option.bind_some]
theorem szStripeS_l0_val (a : List Stripe) : ∀ (t : List Stripe) (v : Int), 0 ≤ v → v ≤ 1048576 → (∀ x ∈ t, W132 x) → ∃ r, laws_szStripeS_l0 a t v = some r ∧ ∀ s, r = .out s → 0 ≤ s ∧ s = v - (wtS wtStripe t : Nat)
  | [], v, h0, h1, _ => ⟨.out v, rfl, fun s e => by cases e; exact ⟨h0, by simp [wtS]⟩⟩
  | x :: t, v, h0, h1, hw => by
    obtain ⟨r, e1, e3⟩ := szStripe_val x v (hw x (by simp)) h0 h1
    unfold laws_szStripeS_l0
    rw [e1, Option.bind_some]
    by_cases h : r < 0
    · exact ⟨.ret (), by simp [h], fun s e => by cases e⟩
    · have e3 := e3 (by omega)
      obtain ⟨z, f1, f2⟩ := szStripeS_l0_val a t r (by omega) (by omega) (fun y hy => hw y (by simp [hy]))
      refine ⟨z, by simp [h, f1], fun s e => ?_⟩
      obtain ⟨g1, g2⟩ := f2 s e
      exact ⟨g1, by rw [g2]; simp only [wtS]; omega⟩
theorem szStripeS_val (a : List Stripe) (left : Int) (hw : W22 a) (h0 : 0 ≤ left) (h1 : left ≤ 1048576) : ∃ r, laws_szStripeS a left = some r ∧ (0 ≤ r → r = left - (wtL wtStripe a : Nat)) := by
  unfold W22 Wl at hw
  have hl : a.length ≤ 140737488351232 := by have := hw.1; omega
  unfold laws_szStripeS
  rw [sub_val h0 h1 hl]
  by_cases h : left - (a.length : Int) < 0
  · exact ⟨-1, by simp [h], fun h => by omega⟩
  · obtain ⟨z, f1, f2⟩ := szStripeS_l0_val a a (left - a.length) (by omega) (by omega) hw.2
    simp only [h, decide_false, Bool.false_eq_true, if_false, capOk_of (show a.length ≤ 274877906944 by omega), if_true, f1, Option.bind_some]
    cases z with
    | ret u => exact ⟨-1, rfl, fun h => by omega⟩
    | out s =>
      obtain ⟨g1, g2⟩ := f2 s rfl
      exact ⟨s, rfl, fun _ => by rw [g2, wtL_eq]; omega⟩
theorem toStripeS_l0_val (a : List Stripe) : ∀ (t p v : List Stripe), a = p ++ t → (∀ s ∈ t, wtStripe s ≤ 4000000) → v.length = a.length → v.take p.length = p → laws_toStripeS_l0 a t p v = some a
  | [], p, v, e, hs, hl, hv => by
    have : v = p := by rw [← hv, List.take_of_length_le (by rw [hl, e]; simp)]
    simp [laws_toStripeS_l0, this, e]
  | x :: t, p, v, e, hs, hl, hv => by
    have hlt : p.length < v.length := by rw [hl, e]; simp
    obtain ⟨y, hy⟩ := idx_some (v := v) hlt
    unfold laws_toStripeS_l0
    rw [toStripe_val x (hs x (by simp)), Option.bind_some, hy, Option.bind_some, Int.toNat_natCast]
    exact toStripeS_l0_val a t (p ++ [x]) _ (by rw [e]; simp) (fun s hs' => hs s (by simp [hs'])) (by simp [hl]) (set_take hv hlt)
theorem toStripeS_val (a : List Stripe) (h : wtL wtStripe a ≤ 4000000) : laws_toStripeS a = some a := by
  have hl : a.length ≤ 4000000 := (by have := wtL_len wtStripe a; omega)
  unfold laws_toStripeS
  simp only [Int.natCast_nonneg, decide_true, if_true, Int.toNat_natCast, capOk_of (show a.length ≤ 274877906944 by omega)]
  rw [toStripeS_l0_val a a [] _ rfl (fun s hs => by have := wtL_mem wtStripe a s hs; omega) (by simp) rfl]
  rfl
theorem eqStripeS_l0_rfl (a : List Stripe) : ∀ t p : List Stripe, a = p ++ t → (∀ s ∈ t, wtStripe s ≤ 4000000) → laws_eqStripeS_l0 a a t p = some (.out ())
  | [], p, e, _ => rfl
  | x :: t, p, e, hs => by
    unfold laws_eqStripeS_l0
    rw [mid_get e, Option.bind_some, eqStripe_rfl x (hs x (by simp)), Option.bind_some]
    simpa using eqStripeS_l0_rfl a t (p ++ [x]) (by rw [e]; simp) (fun s hs' => hs s (by simp [hs']))
theorem eqStripeS_rfl (a : List Stripe) (h : wtL wtStripe a ≤ 4000000) : laws_eqStripeS a a = some true := by
  have hl : a.length ≤ 4000000 := (by have := wtL_len wtStripe a; omega)
  unfold laws_eqStripeS
  rw [eqStripeS_l0_rfl a a [] rfl (fun s hs => by have := wtL_mem wtStripe a s hs; omega), capOk_of (show a.length ≤ 274877906944 by omega)]
  simp only [bne_rfl, Bool.false_eq_true, if_false, if_true]
  rfl
theorem markStripeS_l0_val : ∀ (n : Nat) (k : Int) (i : Nat) (v : List Stripe), i ≤ v.length → v.length ≤ 4000000 → wtL wtStripe (v.drop i) ≤ 4000000 → 0 ≤ k → k + 16 * (wtL wtStripe (v.drop i) : Nat) ≤ 1000000000000 → v.length - i < n →
    ∃ (k' : Int) (v' : List Stripe), laws_markStripeS_l0 n k (i : Int) v = some (k', v') ∧ k ≤ k' ∧ k' ≤ k + 16 * (wtL wtStripe (v.drop i) : Nat) ∧ v'.length = v.length ∧ v'.take i = v.take i ∧ ∀ b, laws_heldStripeS_l0 b (v'.drop i) k = some (.out k')
  | 0, k, i, v, hi, hl, hw, h0, hk, hn => by omega
  | n + 1, k, i, v, hi, hl, hw, h0, hk, hn => by
    unfold laws_markStripeS_l0
    by_cases h : i < v.length
    · have hc : (i : Int) < (v.length : Int) := by omega
      have hi1 : i64 ((i : Int) + 1) = ((i + 1 : Nat) : Int) := by rw [i64_of (by omega) (by omega)]; omega
      have hg : v[i]? = some v[i] := List.getElem?_eq_getElem h
      have hd : wtL wtStripe (v.drop i) = 1 + wtStripe v[i] + wtL wtStripe (v.drop (i + 1)) := by rw [List.drop_eq_getElem_cons h]; rfl
      have hx := wtStripe_eq v[i]
      have i0 : i64 (k + 1) = k + 1 := i64_of (by omega) (by omega)
      obtain ⟨k1, y1, m1, g1, b1, q1, d1⟩ := markAcctS_val v[i].Accts (k + 1) (by omega) (by omega) (by omega)
      have hsl : (v.set i (Stripe.mk (k) y1)).length = v.length := List.length_set
      have hsd : (v.set i (Stripe.mk (k) y1)).drop (i + 1) = v.drop (i + 1) := List.drop_set_of_lt (by omega)
      obtain ⟨k', v', e1, e1', e1'', e2, e3, e4⟩ := markStripeS_l0_val n (k1) (i + 1) (v.set i (Stripe.mk (k) y1)) (by rw [hsl]; omega) (by rw [hsl]; omega) (by rw [hsd]; omega) (by omega) (by rw [hsd]; omega) (by rw [hsl]; omega)
      rw [hsl] at e2
      rw [hsd] at e1''
      obtain ⟨p1, p2⟩ := after_set e3 e2 h
      refine ⟨k', v', ?_, by omega, by omega, e2, p2, fun b => ?_⟩
      · simp only [hc, decide_true, if_true, Int.natCast_nonneg, Int.toNat_natCast, hg, Option.bind_some, i0, m1, hi1, List.getElem?_set_self h, List.set_set, List.length_set]
        exact e1
      · rw [p1]
        unfold laws_heldStripeS_l0
        simp only [i0, d1, show ¬ k1 < 0 by omega, Option.bind_some, beq_rfl, bne_rfl, if_true, decide_false, Bool.false_eq_true, if_false]
        exact e4 b
    · have hc : ¬ (i : Int) < (v.length : Int) := by omega
      refine ⟨k, v, by simp only [hc, decide_false, Bool.false_eq_true, if_false], by omega, by omega, rfl, rfl, fun b => ?_⟩
      rw [List.drop_eq_nil_of_le (by omega)]
      rfl
theorem markStripeS_val (v : List Stripe) (k : Int) (h : wtL wtStripe v ≤ 4000000) (h0 : 0 ≤ k) (hk : k + 16 * (wtL wtStripe v : Nat) ≤ 1000000000000) :
    ∃ (k' : Int) (v' : List Stripe), laws_markStripeS v k = some (k', v') ∧ k ≤ k' ∧ k' ≤ k + 16 * (wtL wtStripe v : Nat) ∧ v'.length = v.length ∧ laws_heldStripeS v' k = some k' := by
  have hl : v.length ≤ 4000000 := (by have := wtL_len wtStripe v; omega)
  obtain ⟨k', v', e1, e1', e1'', e2, e3, e4⟩ := markStripeS_l0_val FUEL k 0 v (by omega) hl (by simpa using h) h0 (by simpa using hk) (by unfold FUEL; omega)
  have e4 := e4 v'
  simp only [List.drop_zero] at e4 e1''
  refine ⟨k', v', ?_, e1', e1'', e2, ?_⟩
  · unfold laws_markStripeS
    have : ((0 : Nat) : Int) = 0 := rfl
    rw [this] at e1
    rw [e1]; rfl
  · unfold laws_heldStripeS
    rw [capOk_of (by omega), e4]; rfl
def wtTask (a : Task) : Nat := a.Data.length + a.Set.length + a.Reply.length
theorem wtTask_eq (a : Task) : wtTask a = a.Data.length + a.Set.length + a.Reply.length := rfl
theorem szTask_val (a : Task) (left : Int) (hw : W145 a) (h0 : 0 ≤ left) (h1 : left ≤ 1048576) : ∃ r, laws_szTask a left = some r ∧ (0 ≤ r → r = left - (wtTask a : Nat)) := by
  unfold W145 at hw
  obtain ⟨w0, w1, w2, w3, w4, w5, w6, w7, w8⟩ := hw
  rw [wtTask_eq]
  unfold laws_szTask
  obtain ⟨r1, e1, g1⟩ := szByteS_val a.Data left w0 (by omega) (by omega)
  simp only [e1, decide_true, decide_false, Bool.false_eq_true, if_true, if_false, Option.bind_some]
  by_cases c1 : r1 < 0
  · exact ⟨-1, by simp only [c1, decide_true, decide_false, Bool.false_eq_true, if_true, if_false, Option.bind_some], fun h => by omega⟩
  · have g1 := g1 (by omega)
    simp only [c1, decide_true, decide_false, Bool.false_eq_true, if_true, if_false, Option.bind_some]
    obtain ⟨r2, e2, g2⟩ := szIntS_val a.Set r1 w2 (by omega) (by omega)
    simp only [e2, decide_true, decide_false, Bool.false_eq_true, if_true, if_false, Option.bind_some]
    by_cases c2 : r2 < 0
    · exact ⟨-1, by simp only [c2, decide_true, decide_false, Bool.false_eq_true, if_true, if_false, Option.bind_some], fun h => by omega⟩
    · have g2 := g2 (by omega)
      simp only [c2, decide_true, decide_false, Bool.false_eq_true, if_true, if_false, Option.bind_some]
      obtain ⟨r3, e3, g3⟩ := szByteS_val a.Reply r2 w8 (by omega) (by omega)
      simp only [e3, decide_true, decide_false, Bool.false_eq_true, if_true, if_false, Option.bind_some]
      by_cases c3 : r3 < 0
      · exact ⟨-1, by simp only [c3, decide_true, decide_false, Bool.false_eq_true, if_true, if_false, Option.bind_some], fun h => by omega⟩
      · have g3 := g3 (by omega)
        simp only [c3, decide_true, decide_false, Bool.false_eq_true, if_true, if_false, Option.bind_some]
        exact ⟨_, rfl, fun _ => by omega⟩
theorem toTask_val (a : Task) (h : wtTask a ≤ 4000000) : laws_toTask a = some a := by
  rw [wtTask_eq] at h
  unfold laws_toTask
  simp only [toByteS_val a.Data (by omega), toIntS_val a.Set (by omega), toByteS_val a.Reply (by omega), Option.bind_some]
theorem eqTask_rfl (a : Task) (h : wtTask a ≤ 4000000) : laws_eqTask a a = some true := by
  rw [wtTask_eq] at h
  unfold laws_eqTask
  simp only [eqByteS_rfl a.Data (by omega), eqIntS_rfl a.Set (by omega), eqByteS_rfl a.Reply (by omega), beq_rfl, bne_rfl, Bool.false_eq_true, if_false, if_true, Option.bind_some]
theorem szTaskS_l0_val (a : List Task) : ∀ (t : List Task) (v : Int), 0 ≤ v → v ≤ 1048576 → (∀ x ∈ t, W145 x) → ∃ r, laws_szTaskS_l0 a t v = some r ∧ ∀ s, r = .out s → 0 ≤ s ∧ s = v - (wtS wtTask t : Nat)
  | [], v, h0, h1, _ => ⟨.out v, rfl, fun s e => by cases e; exact ⟨h0, by simp [wtS]⟩⟩
  | x :: t, v, h0, h1, hw => by
    obtain ⟨r, e1, e3⟩ := szTask_val x v (hw x (by simp)) h0 h1
    unfold laws_szTaskS_l0
    rw [e1, Option.bind_some]
    by_cases h : r < 0
    · exact ⟨.ret (), by simp [h], fun s e => by cases e⟩
    · have e3 := e3 (by omega)
      obtain ⟨z, f1, f2⟩ := szTaskS_l0_val a t r (by omega) (by omega) (fun y hy => hw y (by simp [hy]))
      refine ⟨z, by simp [h, f1], fun s e => ?_⟩
      obtain ⟨g1, g2⟩ := f2 s e
      exact ⟨g1, by rw [g2]; simp only [wtS]; omega⟩
theorem szTaskS_val (a : List Task) (left : Int) (hw : W23 a) (h0 : 0 ≤ left) (h1 : left ≤ 1048576) : ∃ r, laws_szTaskS a left = some r ∧ (0 ≤ r → r = left - (wtL wtTask a : Nat)) := by
  unfold W23 Wl at hw
  have hl : a.length ≤ 140737488351232 := by have := hw.1; omega
  unfold laws_szTaskS
  rw [sub_val h0 h1 hl]
  by_cases h : left - (a.length : Int) < 0
  · exact ⟨-1, by simp [h], fun h => by omega⟩
  · obtain ⟨z, f1, f2⟩ := szTaskS_l0_val a a (left - a.length) (by omega) (by omega) hw.2
    simp only [h, decide_false, Bool.false_eq_true, if_false, capOk_of (show a.length ≤ 274877906944 by omega), if_true, f1, Option.bind_some]
    cases z with
    | ret u => exact ⟨-1, rfl, fun h => by omega⟩
    | out s =>
      obtain ⟨g1, g2⟩ := f2 s rfl
      exact ⟨s, rfl, fun _ => by rw [g2, wtL_eq]; omega⟩
theorem toTaskS_l0_val (a : List Task) : ∀ (t p v : List Task), a = p ++ t → (∀ s ∈ t, wtTask s ≤ 4000000) → v.length = a.length → v.take p.length = p → laws_toTaskS_l0 a t p v = some a
  | [], p, v, e, hs, hl, hv => by
    have : v = p := by rw [← hv, List.take_of_length_le (by rw [hl, e]; simp)]
    simp [laws_toTaskS_l0, this, e]
  | x :: t, p, v, e, hs, hl, hv => by
    have hlt : p.length < v.length := by rw [hl, e]; simp
    obtain ⟨y, hy⟩ := idx_some (v := v) hlt
    unfold laws_toTaskS_l0
    rw [toTask_val x (hs x (by simp)), Option.bind_some, hy, Option.bind_some, Int.toNat_natCast]
    exact toTaskS_l0_val a t (p ++ [x]) _ (by rw [e]; simp) (fun s hs' => hs s (by simp [hs'])) (by simp [hl]) (set_take hv hlt)
theorem toTaskS_val (a : List Task) (h : wtL wtTask a ≤ 4000000) : laws_toTaskS a = some a := by
  have hl : a.length ≤ 4000000 := (by have := wtL_len wtTask a; omega)
  unfold laws_toTaskS
  simp only [Int.natCast_nonneg, decide_true, if_true, Int.toNat_natCast, capOk_of (show a.length ≤ 274877906944 by omega)]
  rw [toTaskS_l0_val a a [] _ rfl (fun s hs => by have := wtL_mem wtTask a s hs; omega) (by simp) rfl]
  rfl
theorem eqTaskS_l0_rfl (a : List Task) : ∀ t p : List Task, a = p ++ t → (∀ s ∈ t, wtTask s ≤ 4000000) → laws_eqTaskS_l0 a a t p = some (.out ())
  | [], p, e, _ => rfl
  | x :: t, p, e, hs => by
    unfold laws_eqTaskS_l0
    rw [mid_get e, Option.bind_some, eqTask_rfl x (hs x (by simp)), Option.bind_some]
    simpa using eqTaskS_l0_rfl a t (p ++ [x]) (by rw [e]; simp) (fun s hs' => hs s (by simp [hs']))
theorem eqTaskS_rfl (a : List Task) (h : wtL wtTask a ≤ 4000000) : laws_eqTaskS a a = some true := by
  have hl : a.length ≤ 4000000 := (by have := wtL_len wtTask a; omega)
  unfold laws_eqTaskS
  rw [eqTaskS_l0_rfl a a [] rfl (fun s hs => by have := wtL_mem wtTask a s hs; omega), capOk_of (show a.length ≤ 274877906944 by omega)]
  simp only [bne_rfl, Bool.false_eq_true, if_false, if_true]
  rfl
theorem markTaskS_l0_val : ∀ (n : Nat) (k : Int) (i : Nat) (v : List Task), i ≤ v.length → v.length ≤ 4000000 → wtL wtTask (v.drop i) ≤ 4000000 → 0 ≤ k → k + 16 * (wtL wtTask (v.drop i) : Nat) ≤ 1000000000000 → v.length - i < n →
    ∃ (k' : Int) (v' : List Task), laws_markTaskS_l0 n k (i : Int) v = some (k', v') ∧ k ≤ k' ∧ k' ≤ k + 16 * (wtL wtTask (v.drop i) : Nat) ∧ v'.length = v.length ∧ v'.take i = v.take i
  | 0, k, i, v, hi, hl, hw, h0, hk, hn => by omega
  | n + 1, k, i, v, hi, hl, hw, h0, hk, hn => by
    unfold laws_markTaskS_l0
    by_cases h : i < v.length
    · have hc : (i : Int) < (v.length : Int) := by omega
      have hi1 : i64 ((i : Int) + 1) = ((i + 1 : Nat) : Int) := by rw [i64_of (by omega) (by omega)]; omega
      have hg : v[i]? = some v[i] := List.getElem?_eq_getElem h
      have hd : wtL wtTask (v.drop i) = 1 + wtTask v[i] + wtL wtTask (v.drop (i + 1)) := by rw [List.drop_eq_getElem_cons h]; rfl
      have hx := wtTask_eq v[i]
      obtain ⟨k0, y0, m0, g0, b0, q0, d0⟩ := markByteS_val v[i].Data (k) (by omega) (by omega) (by omega)
      have i1 : i64 (k0 + 1) = k0 + 1 := i64_of (by omega) (by omega)
      obtain ⟨k2, y2, m2, g2, b2, q2, d2⟩ := markIntS_val v[i].Set (k0 + 1) (by omega) (by omega) (by omega)
      have i3 : i64 (k2 + 1) = k2 + 1 := i64_of (by omega) (by omega)
      have i4 : i64 (k2 + 1 + 1) = k2 + 1 + 1 := i64_of (by omega) (by omega)
      have i5 : i64 (k2 + 1 + 1 + 1) = k2 + 1 + 1 + 1 := i64_of (by omega) (by omega)
      have i6 : i64 (k2 + 1 + 1 + 1 + 1) = k2 + 1 + 1 + 1 + 1 := i64_of (by omega) (by omega)
      have i7 : i64 (k2 + 1 + 1 + 1 + 1 + 1) = k2 + 1 + 1 + 1 + 1 + 1 := i64_of (by omega) (by omega)
      obtain ⟨k8, y8, m8, g8, b8, q8, d8⟩ := markByteS_val v[i].Reply (k2 + 1 + 1 + 1 + 1 + 1) (by omega) (by omega) (by omega)
      have hsl : (v.set i (Task.mk y0 (k0) y2 (k2) (k2 + 1) (k2 + 1 + 1) (k2 + 1 + 1 + 1) (k2 + 1 + 1 + 1 + 1) y8)).length = v.length := List.length_set
      have hsd : (v.set i (Task.mk y0 (k0) y2 (k2) (k2 + 1) (k2 + 1 + 1) (k2 + 1 + 1 + 1) (k2 + 1 + 1 + 1 + 1) y8)).drop (i + 1) = v.drop (i + 1) := List.drop_set_of_lt (by omega)
      obtain ⟨k', v', e1, e1', e1'', e2, e3⟩ := markTaskS_l0_val n (k8) (i + 1) (v.set i (Task.mk y0 (k0) y2 (k2) (k2 + 1) (k2 + 1 + 1) (k2 + 1 + 1 + 1) (k2 + 1 + 1 + 1 + 1) y8)) (by rw [hsl]; omega) (by rw [hsl]; omega) (by rw [hsd]; omega) (by omega) (by rw [hsd]; omega) (by rw [hsl]; omega)
      rw [hsl] at e2
      rw [hsd] at e1''
      obtain ⟨p1, p2⟩ := after_set e3 e2 h
      refine ⟨k', v', ?_, by omega, by omega, e2, p2⟩
      · simp only [hc, decide_true, if_true, Int.natCast_nonneg, Int.toNat_natCast, hg, Option.bind_some, m0, i1, m2, i3, i4, i5, i6, i7, m8, hi1, List.getElem?_set_self h, List.set_set, List.length_set]
        exact e1
    · have hc : ¬ (i : Int) < (v.length : Int) := by omega
      refine ⟨k, v, by simp only [hc, decide_false, Bool.false_eq_true, if_false], by omega, by omega, rfl, rfl⟩
theorem markTaskS_val (v : List Task) (k : Int) (h : wtL wtTask v ≤ 4000000) (h0 : 0 ≤ k) (hk : k + 16 * (wtL wtTask v : Nat) ≤ 1000000000000) :
    ∃ (k' : Int) (v' : List Task), laws_markTaskS v k = some (k', v') ∧ k ≤ k' ∧ k' ≤ k + 16 * (wtL wtTask v : Nat) ∧ v'.length = v.length := by
  have hl : v.length ≤ 4000000 := (by have := wtL_len wtTask v; omega)
  obtain ⟨k', v', e1, e1', e1'', e2, e3⟩ := markTaskS_l0_val FUEL k 0 v (by omega) hl (by simpa using h) h0 (by simpa using hk) (by unfold FUEL; omega)
  simp only [List.drop_zero] at e1''
  refine ⟨k', v', ?_, e1', e1'', e2⟩
  unfold laws_markTaskS
  have : ((0 : Nat) : Int) = 0 := rfl
  rw [this] at e1
  rw [e1]; rfl
def wtWorld (a : World) : Nat := wtL wtStripe a.Stripes + wtL wtTask a.Tasks
theorem wtWorld_eq (a : World) : wtWorld a = wtL wtStripe a.Stripes + wtL wtTask a.Tasks := rfl
theorem szWorld_val (a : World) (left : Int) (hw : W25 a) (h0 : 0 ≤ left) (h1 : left ≤ 1048576) : ∃ r, laws_szWorld a left = some r ∧ (0 ≤ r → r = left - (wtWorld a : Nat)) := by
  unfold W25 at hw
  obtain ⟨w0, w1, w2, w3⟩ := hw
  rw [wtWorld_eq]
  unfold laws_szWorld
  obtain ⟨r1, e1, g1⟩ := szStripeS_val a.Stripes left w0 (by omega) (by omega)
  simp only [e1, decide_true, decide_false, Bool.false_eq_true, if_true, if_false, Option.bind_some]
  by_cases c1 : r1 < 0
  · exact ⟨-1, by simp only [c1, decide_true, decide_false, Bool.false_eq_true, if_true, if_false, Option.bind_some], fun h => by omega⟩
  · have g1 := g1 (by omega)
    simp only [c1, decide_true, decide_false, Bool.false_eq_true, if_true, if_false, Option.bind_some]
    obtain ⟨r2, e2, g2⟩ := szTaskS_val a.Tasks r1 w3 (by omega) (by omega)
    simp only [e2, decide_true, decide_false, Bool.false_eq_true, if_true, if_false, Option.bind_some]
    by_cases c2 : r2 < 0
    · exact ⟨-1, by simp only [c2, decide_true, decide_false, Bool.false_eq_true, if_true, if_false, Option.bind_some], fun h => by omega⟩
    · have g2 := g2 (by omega)
      simp only [c2, decide_true, decide_false, Bool.false_eq_true, if_true, if_false, Option.bind_some]
      exact ⟨_, rfl, fun _ => by omega⟩
theorem toWorld_val (a : World) (h : wtWorld a ≤ 4000000) : laws_toWorld a = some a := by
  rw [wtWorld_eq] at h
  unfold laws_toWorld
  simp only [toStripeS_val a.Stripes (by omega), toTaskS_val a.Tasks (by omega), Option.bind_some]
theorem eqWorld_rfl (a : World) (h : wtWorld a ≤ 4000000) : laws_eqWorld a a = some true := by
  rw [wtWorld_eq] at h
  unfold laws_eqWorld
  simp only [eqStripeS_rfl a.Stripes (by omega), eqTaskS_rfl a.Tasks (by omega), beq_rfl, bne_rfl, Bool.false_eq_true, if_false, if_true, Option.bind_some]
theorem markWorld_val (a : World) (k : Int) (h : wtWorld a ≤ 4000000) (h0 : 0 ≤ k) (hk : k + 16 * (wtWorld a : Nat) ≤ 1000000000000) : ∃ (k' : Int) (l0 : List Stripe) (l1 : List Task), laws_markWorld a k = some (k', l0, l1) ∧ k ≤ k' ∧ k' ≤ k + 16 * (wtWorld a : Nat) ∧ l0.length = a.Stripes.length ∧ l1.length = a.Tasks.length := by
  rw [wtWorld_eq] at *
  obtain ⟨k0, y0, m0, g0, b0, q0, d0⟩ := markStripeS_val a.Stripes k (by omega) (by omega) (by omega)
  obtain ⟨k1, y1, m1, g1, b1, q1⟩ := markTaskS_val a.Tasks k0 (by omega) (by omega) (by omega)
  refine ⟨k1, y0, y1, ?_, by omega, by omega, q0, q1⟩
  · unfold laws_markWorld
    simp only [m0, m1, Option.bind_some]

end Go.Proofs.YtdpbcmajmojolaaM
