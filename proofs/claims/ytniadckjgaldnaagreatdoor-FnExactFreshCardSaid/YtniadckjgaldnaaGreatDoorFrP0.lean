/- Laws of the plain functions. No condition. -/
import Derived.Test.YtniadckjgaldnaaGreatDoorFrOp
import Derived.Laws.StructEq
namespace Go.Proofs.YtniadckjgaldnaaGreatDoorM
set_option linter.unusedVariables false
set_option linter.unusedSimpArgs false
set_option maxRecDepth 100000
theorem i64_of {x : Int} (h : -9223372036854775808 ≤ x) (h2 : x ≤ 9223372036854775807) : i64 x = x := by unfold i64; rw [IntKind.wrap_i64]; omega
theorem i64_nn {x : Int} (h : 0 ≤ x) (h2 : x ≤ 9223372036854775807) : i64 x = x := i64_of (by omega) h2
theorem u8_of {x : Int} (h : 0 ≤ x) (h2 : x ≤ 255) : u8 x = x := by unfold u8 IntKind.wrap; simp [IntKind.bits, IntKind.signed]; omega
theorem capOk_of {n : Nat} (h : n ≤ 274877906944) : capOk n = true := decide_eq_true h
theorem beqB (a b : ByteArray) : (a == b) = decide (a = b) := by
  rcases a with ⟨a⟩
  rcases b with ⟨b⟩
  have h1 : ((⟨a⟩ : ByteArray) == ⟨b⟩) = (a == b) := rfl
  rw [h1]
  by_cases h : a = b
  · subst h; simp
  · have h2 : ¬ ((⟨a⟩ : ByteArray) = ⟨b⟩) := fun e => h (by cases e; rfl)
    rw [decide_eq_false h2]
    simpa using h
theorem tmod10 {x : Int} (h : 0 ≤ x) : Int.tmod x 10 = x % 10 := Int.tmod_eq_emod_of_nonneg h
theorem sub_val {left : Int} {n : Nat} (h0 : 0 ≤ left) (h1 : left ≤ 1048576) (hn : n ≤ 140737488351232) : i64 (left - (n : Int)) = left - n := i64_of (by omega) (by omega)
theorem set_take {α : Type} {v p : List α} {x : α} (hv : v.take p.length = p) (hl : p.length < v.length) : (v.set p.length x).take (p ++ [x]).length = p ++ [x] := by
  rw [List.length_append, List.length_cons, List.length_nil, List.take_add_one, List.take_set_of_le (Nat.le_refl _), hv]
  simp [hl]
theorem idx_some {α : Type} {v p : List α} (hl : p.length < v.length) : ∃ y, v[((p.length : Int)).toNat]? = some y := ⟨v[p.length], by simp [hl]⟩
theorem beq_rfl (s : ByteArray) : (s == s) = true := by rw [beqB]; simp
theorem bne_rfl (n : Int) : (n != n) = false := by simp
theorem mid_get {α : Type} {a p t : List α} {x : α} (e : a = p ++ x :: t) : a[((p.length : Int)).toNat]? = some x := by rw [e]; simp
theorem size_app (a b : ByteArray) : (a ++ b).size = a.size + b.size := ByteArray.size_append
theorem after_set {α : Type} {v v' : List α} {i : Nat} {x : α} (h : v'.take (i + 1) = (v.set i x).take (i + 1)) (hl : v'.length = v.length) (hi : i < v.length) : v'.drop i = x :: v'.drop (i + 1) ∧ v'.take i = v.take i := by
  have hx : v'[i]? = some x := by
    have e : (v'.take (i + 1))[i]? = ((v.set i x).take (i + 1))[i]? := by rw [h]
    rw [List.getElem?_take, List.getElem?_take, if_pos (by omega), if_pos (by omega)] at e
    rw [e]; simp [hi]
  have hx' : v'[i]'(by omega) = x := by
    have := List.getElem?_eq_getElem (l := v') (i := i) (by omega)
    rw [this] at hx
    exact Option.some.inj hx
  refine ⟨by rw [List.drop_eq_getElem_cons (by omega), hx'], ?_⟩
  have e : (v'.take (i + 1)).take i = ((v.set i x).take (i + 1)).take i := by rw [h]
  rw [List.take_take, List.take_take, Nat.min_eq_left (by omega), List.take_set_of_le (Nat.le_refl _)] at e
  exact e
def byB (l : List Int) : Prop := ∀ b ∈ l, 0 ≤ b ∧ b ≤ 255
theorem byB_of {l : List Int} {n : Nat} (h : Wl n (Wi .u8) l) : byB l := fun b hb => by
  have := h.2 b hb
  unfold Wi at this
  simpa [Lit.wf, IntKind.min, IntKind.max, IntKind.signed, IntKind.bits] using this
/-- The weight of a list: its length, and its elements' weights. -/
def wtL {α : Type} (f : α → Nat) : List α → Nat
  | [] => 0
  | x :: t => 1 + f x + wtL f t
def wtS {α : Type} (f : α → Nat) : List α → Nat
  | [] => 0
  | x :: t => f x + wtS f t
theorem wtL_eq {α : Type} (f : α → Nat) : ∀ l : List α, wtL f l = l.length + wtS f l
  | [] => rfl
  | x :: t => by simp only [wtL, wtS, List.length_cons]; rw [wtL_eq f t]; omega
theorem wtL_len {α : Type} (f : α → Nat) (l : List α) : l.length ≤ wtL f l := by rw [wtL_eq]; omega
theorem wtL_mem {α : Type} (f : α → Nat) : ∀ (l : List α) (x : α), x ∈ l → f x + 1 ≤ wtL f l
  | y :: t, x, h => by
    simp only [wtL]
    rcases List.mem_cons.1 h with rfl | h
    · omega
    · have := wtL_mem f t x h; omega
theorem szByteS_val (a : List Int) (left : Int) (hw : W31 a) (h0 : 0 ≤ left) (h1 : left ≤ 1048576) : ∃ r, laws_szByteS a left = some r ∧ (0 ≤ r → r = left - (a.length : Nat)) := by
  unfold W31 Wl at hw
  have hl : a.length ≤ 140737488351232 := by have := hw.1; omega
  unfold laws_szByteS
  rw [sub_val h0 h1 hl]
  by_cases h : left - (a.length : Int) < 0
  · exact ⟨-1, by simp [h], fun h => by omega⟩
  · exact ⟨left - a.length, by simp [h], fun _ => rfl⟩
theorem toByteS_l0_val (a : List Int) : ∀ (t p v : List Int), a = p ++ t → v.length = a.length → v.take p.length = p → laws_toByteS_l0 a t p v = some a
  | [], p, v, e, hl, hv => by
    have : v = p := by rw [← hv, List.take_of_length_le (by rw [hl, e]; simp)]
    simp [laws_toByteS_l0, this, e]
  | x :: t, p, v, e, hl, hv => by
    have hlt : p.length < v.length := by rw [hl, e]; simp
    obtain ⟨y, hy⟩ := idx_some (v := v) hlt
    unfold laws_toByteS_l0
    rw [hy, Option.bind_some, Int.toNat_natCast]
    exact toByteS_l0_val a t (p ++ [x]) _ (by rw [e]; simp) (by simp [hl]) (set_take hv hlt)
theorem toByteS_val (a : List Int) (h : a.length ≤ 4000000) : laws_toByteS a = some a := by
  have hl : a.length ≤ 4000000 := h
  unfold laws_toByteS
  simp only [Int.natCast_nonneg, decide_true, if_true, Int.toNat_natCast, capOk_of (show a.length ≤ 274877906944 by omega)]
  rw [toByteS_l0_val a a [] _ rfl (by simp) rfl]
  rfl
theorem eqByteS_l0_rfl (a : List Int) : ∀ t p : List Int, a = p ++ t → laws_eqByteS_l0 a a t p = some (.out ())
  | [], p, e => rfl
  | x :: t, p, e => by
    unfold laws_eqByteS_l0
    rw [mid_get e, Option.bind_some]
    simp only [bne_rfl, beq_rfl, Bool.false_eq_true, if_false, if_true]
    exact eqByteS_l0_rfl a t (p ++ [x]) (by rw [e]; simp)
theorem eqByteS_rfl (a : List Int) (h : a.length ≤ 4000000) : laws_eqByteS a a = some true := by
  have hl : a.length ≤ 4000000 := h
  unfold laws_eqByteS
  rw [eqByteS_l0_rfl a a [] rfl, capOk_of (show a.length ≤ 274877906944 by omega)]
  simp only [bne_rfl, Bool.false_eq_true, if_false, if_true]
  rfl
theorem markByteS_l0_val : ∀ (n : Nat) (k : Int) (i : Nat) (v : List Int), i ≤ v.length → v.length ≤ 4000000 → (v.drop i).length ≤ 4000000 → 0 ≤ k → k + 16 * ((v.drop i).length : Nat) ≤ 1000000000000 → v.length - i < n →
    ∃ (k' : Int) (v' : List Int), laws_markByteS_l0 n k (i : Int) v = some (k', v') ∧ k ≤ k' ∧ k' ≤ k + 16 * ((v.drop i).length : Nat) ∧ v'.length = v.length ∧ v'.take i = v.take i ∧ ∀ b, laws_heldByteS_l0 b (v'.drop i) k = some (.out k')
  | 0, k, i, v, hi, hl, hw, h0, hk, hn => by omega
  | n + 1, k, i, v, hi, hl, hw, h0, hk, hn => by
    unfold laws_markByteS_l0
    by_cases h : i < v.length
    · have hc : (i : Int) < (v.length : Int) := by omega
      have hi1 : i64 ((i : Int) + 1) = ((i + 1 : Nat) : Int) := by rw [i64_of (by omega) (by omega)]; omega
      have hg : v[i]? = some v[i] := List.getElem?_eq_getElem h
      have hd : (v.drop i).length = 1 + (v.drop (i + 1)).length := by rw [List.length_drop, List.length_drop]; omega
      have i0 : i64 (k + 1) = k + 1 := i64_of (by omega) (by omega)
      have hsl : (v.set i (u8 (k))).length = v.length := List.length_set
      have hsd : (v.set i (u8 (k))).drop (i + 1) = v.drop (i + 1) := List.drop_set_of_lt (by omega)
      obtain ⟨k', v', e1, e1', e1'', e2, e3, e4⟩ := markByteS_l0_val n (k + 1) (i + 1) (v.set i (u8 (k))) (by rw [hsl]; omega) (by rw [hsl]; omega) (by rw [hsd]; omega) (by omega) (by rw [hsd]; omega) (by rw [hsl]; omega)
      rw [hsl] at e2
      rw [hsd] at e1''
      obtain ⟨p1, p2⟩ := after_set e3 e2 h
      refine ⟨k', v', ?_, by omega, by omega, e2, p2, fun b => ?_⟩
      · simp only [hc, decide_true, if_true, Int.natCast_nonneg, Int.toNat_natCast, hg, Option.bind_some, i0, hi1, List.getElem?_set_self h, List.set_set, List.length_set]
        exact e1
      · rw [p1]
        unfold laws_heldByteS_l0
        simp only [i0, Option.bind_some, beq_rfl, bne_rfl, if_true, decide_false, Bool.false_eq_true, if_false]
        exact e4 b
    · have hc : ¬ (i : Int) < (v.length : Int) := by omega
      refine ⟨k, v, by simp only [hc, decide_false, Bool.false_eq_true, if_false], by omega, by omega, rfl, rfl, fun b => ?_⟩
      rw [List.drop_eq_nil_of_le (by omega)]
      rfl
theorem markByteS_val (v : List Int) (k : Int) (h : v.length ≤ 4000000) (h0 : 0 ≤ k) (hk : k + 16 * (v.length : Nat) ≤ 1000000000000) :
    ∃ (k' : Int) (v' : List Int), laws_markByteS v k = some (k', v') ∧ k ≤ k' ∧ k' ≤ k + 16 * (v.length : Nat) ∧ v'.length = v.length ∧ laws_heldByteS v' k = some k' := by
  have hl : v.length ≤ 4000000 := h
  obtain ⟨k', v', e1, e1', e1'', e2, e3, e4⟩ := markByteS_l0_val FUEL k 0 v (by omega) hl (by simpa using h) h0 (by simpa using hk) (by unfold FUEL; omega)
  have e4 := e4 v'
  simp only [List.drop_zero] at e4 e1''
  refine ⟨k', v', ?_, e1', e1'', e2, ?_⟩
  · unfold laws_markByteS
    have : ((0 : Nat) : Int) = 0 := rfl
    rw [this] at e1
    rw [e1]; rfl
  · unfold laws_heldByteS
    rw [capOk_of (by omega), e4]; rfl
def wtDone (a : Done) : Nat := a.Data.length + a.Reply.length
theorem wtDone_eq (a : Done) : wtDone a = a.Data.length + a.Reply.length := rfl
theorem szDone_val (a : Done) (left : Int) (hw : W33 a) (h0 : 0 ≤ left) (h1 : left ≤ 1048576) : ∃ r, laws_szDone a left = some r ∧ (0 ≤ r → r = left - (wtDone a : Nat)) := by
  unfold W33 at hw
  obtain ⟨w0, w1, w2⟩ := hw
  rw [wtDone_eq]
  unfold laws_szDone
  obtain ⟨r1, e1, g1⟩ := szByteS_val a.Data left w1 (by omega) (by omega)
  simp only [e1, decide_true, decide_false, Bool.false_eq_true, if_true, if_false, Option.bind_some]
  by_cases c1 : r1 < 0
  · exact ⟨-1, by simp only [c1, decide_true, decide_false, Bool.false_eq_true, if_true, if_false, Option.bind_some], fun h => by omega⟩
  · have g1 := g1 (by omega)
    simp only [c1, decide_true, decide_false, Bool.false_eq_true, if_true, if_false, Option.bind_some]
    obtain ⟨r2, e2, g2⟩ := szByteS_val a.Reply r1 w2 (by omega) (by omega)
    simp only [e2, decide_true, decide_false, Bool.false_eq_true, if_true, if_false, Option.bind_some]
    by_cases c2 : r2 < 0
    · exact ⟨-1, by simp only [c2, decide_true, decide_false, Bool.false_eq_true, if_true, if_false, Option.bind_some], fun h => by omega⟩
    · have g2 := g2 (by omega)
      simp only [c2, decide_true, decide_false, Bool.false_eq_true, if_true, if_false, Option.bind_some]
      exact ⟨_, rfl, fun _ => by omega⟩
def byDone (a : Done) : Prop := (byB a.Data) ∧ (byB a.Reply)
theorem byDone_of (a : Done) (h : W33 a) : byDone a := by
  unfold W33 at h
  obtain ⟨w0, w1, w2⟩ := h
  exact ⟨(byB_of w1), (byB_of w2)⟩
theorem toDone_val (a : Done) (h : wtDone a ≤ 4000000) : laws_toDone a = some a := by
  rw [wtDone_eq] at h
  unfold laws_toDone
  simp only [toByteS_val a.Data (by omega), toByteS_val a.Reply (by omega), Option.bind_some]
theorem eqDone_rfl (a : Done) (h : wtDone a ≤ 4000000) : laws_eqDone a a = some true := by
  rw [wtDone_eq] at h
  unfold laws_eqDone
  simp only [eqByteS_rfl a.Data (by omega), eqByteS_rfl a.Reply (by omega), beq_rfl, bne_rfl, Bool.false_eq_true, if_false, if_true, Option.bind_some]
theorem szDoneS_l0_val (a : List Done) : ∀ (t : List Done) (v : Int), 0 ≤ v → v ≤ 1048576 → (∀ x ∈ t, W33 x) → ∃ r, laws_szDoneS_l0 a t v = some r ∧ ∀ s, r = .out s → 0 ≤ s ∧ s = v - (wtS wtDone t : Nat)
  | [], v, h0, h1, _ => ⟨.out v, rfl, fun s e => by cases e; exact ⟨h0, by simp [wtS]⟩⟩
  | x :: t, v, h0, h1, hw => by
    obtain ⟨r, e1, e3⟩ := szDone_val x v (hw x (by simp)) h0 h1
    unfold laws_szDoneS_l0
    rw [e1, Option.bind_some]
    by_cases h : r < 0
    · exact ⟨.ret (), by simp [h], fun s e => by cases e⟩
    · have e3 := e3 (by omega)
      obtain ⟨z, f1, f2⟩ := szDoneS_l0_val a t r (by omega) (by omega) (fun y hy => hw y (by simp [hy]))
      refine ⟨z, by simp [h, f1], fun s e => ?_⟩
      obtain ⟨g1, g2⟩ := f2 s e
      exact ⟨g1, by rw [g2]; simp only [wtS]; omega⟩
theorem szDoneS_val (a : List Done) (left : Int) (hw : W22 a) (h0 : 0 ≤ left) (h1 : left ≤ 1048576) : ∃ r, laws_szDoneS a left = some r ∧ (0 ≤ r → r = left - (wtL wtDone a : Nat)) := by
  unfold W22 Wl at hw
  have hl : a.length ≤ 140737488351232 := by have := hw.1; omega
  unfold laws_szDoneS
  rw [sub_val h0 h1 hl]
  by_cases h : left - (a.length : Int) < 0
  · exact ⟨-1, by simp [h], fun h => by omega⟩
  · obtain ⟨z, f1, f2⟩ := szDoneS_l0_val a a (left - a.length) (by omega) (by omega) hw.2
    simp only [h, decide_false, Bool.false_eq_true, if_false, capOk_of (show a.length ≤ 274877906944 by omega), if_true, f1, Option.bind_some]
    cases z with
    | ret u => exact ⟨-1, rfl, fun h => by omega⟩
    | out s =>
      obtain ⟨g1, g2⟩ := f2 s rfl
      exact ⟨s, rfl, fun _ => by rw [g2, wtL_eq]; omega⟩
theorem toDoneS_l0_val (a : List Done) : ∀ (t p v : List Done), a = p ++ t → (∀ s ∈ t, wtDone s ≤ 4000000) → v.length = a.length → v.take p.length = p → laws_toDoneS_l0 a t p v = some a
  | [], p, v, e, hs, hl, hv => by
    have : v = p := by rw [← hv, List.take_of_length_le (by rw [hl, e]; simp)]
    simp [laws_toDoneS_l0, this, e]
  | x :: t, p, v, e, hs, hl, hv => by
    have hlt : p.length < v.length := by rw [hl, e]; simp
    obtain ⟨y, hy⟩ := idx_some (v := v) hlt
    unfold laws_toDoneS_l0
    rw [toDone_val x (hs x (by simp)), Option.bind_some, hy, Option.bind_some, Int.toNat_natCast]
    exact toDoneS_l0_val a t (p ++ [x]) _ (by rw [e]; simp) (fun s hs' => hs s (by simp [hs'])) (by simp [hl]) (set_take hv hlt)
theorem toDoneS_val (a : List Done) (h : wtL wtDone a ≤ 4000000) : laws_toDoneS a = some a := by
  have hl : a.length ≤ 4000000 := (by have := wtL_len wtDone a; omega)
  unfold laws_toDoneS
  simp only [Int.natCast_nonneg, decide_true, if_true, Int.toNat_natCast, capOk_of (show a.length ≤ 274877906944 by omega)]
  rw [toDoneS_l0_val a a [] _ rfl (fun s hs => by have := wtL_mem wtDone a s hs; omega) (by simp) rfl]
  rfl
theorem eqDoneS_l0_rfl (a : List Done) : ∀ t p : List Done, a = p ++ t → (∀ s ∈ t, wtDone s ≤ 4000000) → laws_eqDoneS_l0 a a t p = some (.out ())
  | [], p, e, _ => rfl
  | x :: t, p, e, hs => by
    unfold laws_eqDoneS_l0
    rw [mid_get e, Option.bind_some, eqDone_rfl x (hs x (by simp)), Option.bind_some]
    simpa using eqDoneS_l0_rfl a t (p ++ [x]) (by rw [e]; simp) (fun s hs' => hs s (by simp [hs']))
theorem eqDoneS_rfl (a : List Done) (h : wtL wtDone a ≤ 4000000) : laws_eqDoneS a a = some true := by
  have hl : a.length ≤ 4000000 := (by have := wtL_len wtDone a; omega)
  unfold laws_eqDoneS
  rw [eqDoneS_l0_rfl a a [] rfl (fun s hs => by have := wtL_mem wtDone a s hs; omega), capOk_of (show a.length ≤ 274877906944 by omega)]
  simp only [bne_rfl, Bool.false_eq_true, if_false, if_true]
  rfl
theorem markDoneS_l0_val : ∀ (n : Nat) (k : Int) (i : Nat) (v : List Done), i ≤ v.length → v.length ≤ 4000000 → wtL wtDone (v.drop i) ≤ 4000000 → 0 ≤ k → k + 16 * (wtL wtDone (v.drop i) : Nat) ≤ 1000000000000 → v.length - i < n →
    ∃ (k' : Int) (v' : List Done), laws_markDoneS_l0 n k (i : Int) v = some (k', v') ∧ k ≤ k' ∧ k' ≤ k + 16 * (wtL wtDone (v.drop i) : Nat) ∧ v'.length = v.length ∧ v'.take i = v.take i ∧ ∀ b, laws_heldDoneS_l0 b (v'.drop i) k = some (.out k')
  | 0, k, i, v, hi, hl, hw, h0, hk, hn => by omega
  | n + 1, k, i, v, hi, hl, hw, h0, hk, hn => by
    unfold laws_markDoneS_l0
    by_cases h : i < v.length
    · have hc : (i : Int) < (v.length : Int) := by omega
      have hi1 : i64 ((i : Int) + 1) = ((i + 1 : Nat) : Int) := by rw [i64_of (by omega) (by omega)]; omega
      have hg : v[i]? = some v[i] := List.getElem?_eq_getElem h
      have hd : wtL wtDone (v.drop i) = 1 + wtDone v[i] + wtL wtDone (v.drop (i + 1)) := by rw [List.drop_eq_getElem_cons h]; rfl
      have hx := wtDone_eq v[i]
      have i0 : i64 (k + 1) = k + 1 := i64_of (by omega) (by omega)
      obtain ⟨k1, y1, m1, g1, b1, q1, d1⟩ := markByteS_val v[i].Data (k + 1) (by omega) (by omega) (by omega)
      obtain ⟨k2, y2, m2, g2, b2, q2, d2⟩ := markByteS_val v[i].Reply (k1) (by omega) (by omega) (by omega)
      have hsl : (v.set i (Done.mk (k) y1 y2)).length = v.length := List.length_set
      have hsd : (v.set i (Done.mk (k) y1 y2)).drop (i + 1) = v.drop (i + 1) := List.drop_set_of_lt (by omega)
      obtain ⟨k', v', e1, e1', e1'', e2, e3, e4⟩ := markDoneS_l0_val n (k2) (i + 1) (v.set i (Done.mk (k) y1 y2)) (by rw [hsl]; omega) (by rw [hsl]; omega) (by rw [hsd]; omega) (by omega) (by rw [hsd]; omega) (by rw [hsl]; omega)
      rw [hsl] at e2
      rw [hsd] at e1''
      obtain ⟨p1, p2⟩ := after_set e3 e2 h
      refine ⟨k', v', ?_, by omega, by omega, e2, p2, fun b => ?_⟩
      · simp only [hc, decide_true, if_true, Int.natCast_nonneg, Int.toNat_natCast, hg, Option.bind_some, i0, m1, m2, hi1, List.getElem?_set_self h, List.set_set, List.length_set]
        exact e1
      · rw [p1]
        unfold laws_heldDoneS_l0
        simp only [i0, d1, show ¬ k1 < 0 by omega, d2, show ¬ k2 < 0 by omega, Option.bind_some, beq_rfl, bne_rfl, if_true, decide_false, Bool.false_eq_true, if_false]
        exact e4 b
    · have hc : ¬ (i : Int) < (v.length : Int) := by omega
      refine ⟨k, v, by simp only [hc, decide_false, Bool.false_eq_true, if_false], by omega, by omega, rfl, rfl, fun b => ?_⟩
      rw [List.drop_eq_nil_of_le (by omega)]
      rfl
theorem markDoneS_val (v : List Done) (k : Int) (h : wtL wtDone v ≤ 4000000) (h0 : 0 ≤ k) (hk : k + 16 * (wtL wtDone v : Nat) ≤ 1000000000000) :
    ∃ (k' : Int) (v' : List Done), laws_markDoneS v k = some (k', v') ∧ k ≤ k' ∧ k' ≤ k + 16 * (wtL wtDone v : Nat) ∧ v'.length = v.length ∧ laws_heldDoneS v' k = some k' := by
  have hl : v.length ≤ 4000000 := (by have := wtL_len wtDone v; omega)
  obtain ⟨k', v', e1, e1', e1'', e2, e3, e4⟩ := markDoneS_l0_val FUEL k 0 v (by omega) hl (by simpa using h) h0 (by simpa using hk) (by unfold FUEL; omega)
  have e4 := e4 v'
  simp only [List.drop_zero] at e4 e1''
  refine ⟨k', v', ?_, e1', e1'', e2, ?_⟩
  · unfold laws_markDoneS
    have : ((0 : Nat) : Int) = 0 := rfl
    rw [this] at e1
    rw [e1]; rfl
  · unfold laws_heldDoneS
    rw [capOk_of (by omega), e4]; rfl
theorem tf (b : Bool) : b = true ∨ b = false := by cases b <;> simp
theorem l01In_val (n lo hi : Int) : spec_l01In n lo hi = some (decide (lo ≤ n) && decide (n ≤ hi)) := by
  unfold spec_l01In
  by_cases h : lo ≤ n <;> simp [h]
theorem within_val (n lo hi : Int) : impl_within n lo hi = some (decide (lo ≤ n) && decide (n ≤ hi)) := by
  unfold impl_within
  by_cases h : lo ≤ n <;> simp [h]
theorem spec_Digits_l0_tot (s : ByteArray) (hs : s.size ≤ 4000000) : ∀ (n : Nat) (v : Int), 0 ≤ v → v ≤ s.size → (s.size : Int) - v < n →
    ∃ y, spec_Digits_l0 s n v = some y ∧ impl_Digits_l0 s n v = some y ∧ ∀ u, y = .out u → ∀ i : Int, v ≤ i → i < s.size → 48 ≤ sAt s i ∧ sAt s i ≤ 57
  | 0, v, h0, hv, hn => by exfalso; omega
  | n + 1, v, h0, hv, hn => by
    unfold spec_Digits_l0 impl_Digits_l0
    by_cases h1 : v < (s.size : Int)
    · by_cases h2 : sAt s v < 48
      · exact ⟨.ret (), by simp [h1, h0, h2], by simp [h1, h0, h2], fun u e => by cases e⟩
      · by_cases h3 : 57 < sAt s v
        · exact ⟨.ret (), by simp [h1, h0, h2, h3], by simp [h1, h0, h2, h3], fun u e => by cases e⟩
        · have hi : i64 (v + 1) = v + 1 := i64_nn (by omega) (by omega)
          obtain ⟨y, e1, e2, e3⟩ := spec_Digits_l0_tot s hs n (v + 1) (by omega) (by omega) (by omega)
          refine ⟨y, by simp [h1, h0, h2, h3, hi, e1], by simp [h1, h0, h2, h3, hi, e2], fun u e i hv hi' => ?_⟩
          by_cases hiv : i = v
          · subst hiv; omega
          · exact e3 u e i (by omega) hi'
    · exact ⟨.out (), by simp [h1], by simp [h1], fun u _ i hv hi => by omega⟩
theorem beq_empty (s : ByteArray) : (s == bs []) = decide (s.size = 0) := by
  rw [beqB]
  by_cases h : s.size = 0
  · have : s = bs [] := by
      rcases s with ⟨d⟩
      have hd : d.size = 0 := h
      have : d = #[] := Array.eq_empty_of_size_eq_zero hd
      subst this; rfl
    rw [decide_eq_true h, decide_eq_true this]
  · rw [decide_eq_false h, decide_eq_false (fun e => h (by rw [e]; rfl))]
theorem Digits_tot (s : ByteArray) (hs : s.size ≤ 4000000) : ∃ b, spec_Digits s = some b ∧ impl_Digits s = some b ∧ (b = true → 0 < s.size ∧ ∀ i : Int, 0 ≤ i → i < s.size → 48 ≤ sAt s i ∧ sAt s i ≤ 57) := by
  obtain ⟨y, e1, e2, e3⟩ := spec_Digits_l0_tot s hs FUEL 0 (by omega) (by omega) (by unfold FUEL; omega)
  unfold spec_Digits impl_Digits
  rw [e1, e2]
  cases y with
  | ret u => exact ⟨false, rfl, rfl, fun h => by cases h⟩
  | out u =>
    refine ⟨decide (0 < (s.size : Int)), rfl, ?_, fun h => ⟨by have := of_decide_eq_true h; omega, fun i h0 hi => e3 u rfl i h0 hi⟩⟩
    simp only [Option.bind_some, Lo.elim, beq_empty]
    congr 1
    by_cases h : s.size = 0
    · simp [h]
    · rw [decide_eq_false h, decide_eq_true (show (0 : Int) < s.size by omega)]; rfl
theorem Luhn_l0_tot (s : ByteArray) (hs : s.size ≤ 4000000) (hd : ∀ i : Int, 0 ≤ i → i < s.size → 48 ≤ sAt s i ∧ sAt s i ≤ 57) : ∀ (n : Nat) (v w : Int) (b : Bool) (k : Int), k + 1 < n → -1 ≤ k → k < s.size → 0 ≤ v → v + 9 * (k + 1) ≤ 100000000 → w = v % 10 →
    ∃ y, impl_Luhn_l0 s n v b k = some y ∧ spec_Luhn_l0 s n w b k = some (y % 10) ∧ 0 ≤ y ∧ y ≤ 100000000
  | 0, v, w, b, k, hn, hk, hks, hv, hb, hw => by
    exfalso; omega
  | n + 1, v, w, b, k, hn, hk, hks, hv, hb, hw => by
    unfold impl_Luhn_l0 spec_Luhn_l0
    by_cases h0 : 0 ≤ k
    · obtain ⟨d1, d2⟩ := hd k h0 hks
      have hk1 : i64 (k - 1) = k - 1 := i64_of (by omega) (by omega)
      have hu : u8 (sAt s k - 48) = sAt s k - 48 := u8_of (by omega) (by omega)
      have hi : i64 (sAt s k - 48) = sAt s k - 48 := i64_of (by omega) (by omega)
      have hi2 : i64 (sAt s k) = sAt s k := i64_of (by omega) (by omega)
      have hi3 : i64 ((sAt s k - 48) * 2) = (sAt s k - 48) * 2 := i64_of (by omega) (by omega)
      have hi4 : i64 (2 * (sAt s k - 48)) = (sAt s k - 48) * 2 := by rw [Int.mul_comm]; exact hi3
      have hd0 : 0 ≤ sAt s k - 48 ∧ sAt s k - 48 ≤ 9 := by omega
      simp only [hk1, hu, hi2, hi, hi3, hi4]
      generalize sAt s k - 48 = d at *
      obtain ⟨g0, g9⟩ := hd0
      have hm : ∀ x, 0 ≤ x → x ≤ 9 → i64 (v + x) = v + x ∧ i64 (w + x) = w + x ∧ Int.tmod (w + x) 10 = (v + x) % 10 := fun x hx hx9 => by
        refine ⟨i64_of (by omega) (by omega), i64_of (by omega) (by omega), ?_⟩
        rw [tmod10 (by omega)]; omega
      by_cases hb' : b = true
      · by_cases h9 : 9 < d * 2
        · have h9' : i64 (d * 2 - 9) = d * 2 - 9 := i64_of (by omega) (by omega)
          obtain ⟨m1, m2, m3⟩ := hm (d * 2 - 9) (by omega) (by omega)
          obtain ⟨y, e1, e2, e3⟩ := Luhn_l0_tot s hs hd n (v + (d * 2 - 9)) ((v + (d * 2 - 9)) % 10) (!b) (k - 1) (by omega) (by omega) (by omega) (by omega) (by omega) rfl
          exact ⟨y, by simp only [h0, hks, hb', h9, h9', m1, m2, m3, decide_true, if_true]; rw [hb'] at e1; exact e1, by simp only [h0, hks, hb', h9, h9', m1, m2, m3, decide_true, if_true]; rw [hb'] at e2; exact e2, e3⟩
        · obtain ⟨m1, m2, m3⟩ := hm (d * 2) (by omega) (by omega)
          obtain ⟨y, e1, e2, e3⟩ := Luhn_l0_tot s hs hd n (v + d * 2) ((v + d * 2) % 10) (!b) (k - 1) (by omega) (by omega) (by omega) (by omega) (by omega) rfl
          exact ⟨y, by simp only [h0, hks, hb', h9, m1, m2, m3, decide_true, decide_false, if_true, Bool.false_eq_true, if_false]; rw [hb'] at e1; exact e1, by simp only [h0, hks, hb', h9, m1, m2, m3, decide_true, decide_false, if_true, Bool.false_eq_true, if_false]; rw [hb'] at e2; exact e2, e3⟩
      · have hbf : b = false := by simpa using hb'
        obtain ⟨m1, m2, m3⟩ := hm d (by omega) (by omega)
        obtain ⟨y, e1, e2, e3⟩ := Luhn_l0_tot s hs hd n (v + d) ((v + d) % 10) (!b) (k - 1) (by omega) (by omega) (by omega) (by omega) (by omega) rfl
        exact ⟨y, by simp only [h0, hks, hbf, m1, m2, m3, decide_true, if_true, Bool.false_eq_true, if_false]; rw [hbf] at e1; exact e1, by simp only [h0, hks, hbf, m1, m2, m3, decide_true, if_true, Bool.false_eq_true, if_false]; rw [hbf] at e2; exact e2, e3⟩
    · exact ⟨v, by simp [h0], by simp [h0, hw], hv, by omega⟩
theorem Luhn_tot (s : ByteArray) (hs : s.size ≤ 4000000) : ∃ y, spec_Luhn s = some y ∧ impl_Luhn s = some y := by
  obtain ⟨b, e1, e2, e3⟩ := Digits_tot s hs
  unfold spec_Luhn impl_Luhn
  rw [e1, e2]
  cases b with
  | false => exact ⟨-1, rfl, rfl⟩
  | true =>
    obtain ⟨hp, hd⟩ := e3 rfl
    have hi : i64 ((s.size : Int) - 1) = (s.size : Int) - 1 := i64_of (by omega) (by omega)
    obtain ⟨y, q1, q2, q3, q4⟩ := Luhn_l0_tot s hs hd FUEL 0 0 true ((s.size : Int) - 1) (by unfold FUEL; omega) (by omega) (by omega) (by omega) (by omega) rfl
    refine ⟨Int.tmod (i64 (10 - y % 10)) 10, ?_, ?_⟩
    · simp only [Option.bind_some, if_true, hi, q2]
    · simp only [Option.bind_some, if_true, hi, q1, tmod10 q3]
theorem LuhnOk_eq (s : ByteArray) (hs : s.size ≤ 4000000) : ∃ y, spec_LuhnOk s = some y ∧ impl_LuhnOk s = some y := by
  obtain ⟨b, e1, e2, e3⟩ := Digits_tot s hs
  unfold spec_LuhnOk impl_LuhnOk
  have hi : i64 ((s.size : Int) - 1) = (s.size : Int) - 1 := i64_of (by omega) (by omega)
  rw [e1, e2, hi]
  by_cases h2 : (s.size : Int) < 2
  · have h1 : ¬ 1 ≤ (s.size : Int) - 1 := by omega
    refine ⟨false, ?_, by simp [h1]⟩
    cases b <;> simp [h2]
  · have h1 : 1 ≤ (s.size : Int) - 1 := by omega
    cases b with
    | false => exact ⟨false, by simp, by simp [h1]⟩
    | true =>
      obtain ⟨hp, hd⟩ := e3 rfl
      obtain ⟨d1, d2⟩ := hd ((s.size : Int) - 1) (by omega) (by omega)
      obtain ⟨y, q1, q2⟩ := Luhn_tot (s.extract 0 ((s.size : Int) - 1).toNat) (by simp; omega)
      have c1 : (0 : Int) ≤ (s.size : Int) - 1 := by omega
      have c2 : (s.size : Int) - 1 ≤ s.size := by omega
      have c3 : (s.size : Int) - 1 < s.size := by omega
      have hu : u8 (sAt s ((s.size : Int) - 1) - 48) = sAt s ((s.size : Int) - 1) - 48 := u8_of (by omega) (by omega)
      have hi2 : i64 (sAt s ((s.size : Int) - 1)) = sAt s ((s.size : Int) - 1) := i64_of (by omega) (by omega)
      refine ⟨y == i64 (sAt s ((s.size : Int) - 1) - 48), ?_, ?_⟩
      · simp only [Option.bind_some, if_true, h2, decide_false, Bool.false_eq_true, if_false, c1, c2, c3, decide_true, q1, hi2]
      · simp only [Option.bind_some, if_true, h1, c1, c2, c3, decide_true, q2, hu]
theorem AcctIdOk_eq (s : ByteArray) : ∃ y, spec_AcctIdOk s = some y ∧ impl_AcctIdOk s = some y ∧ (y = true → s.size ≤ 19) := by
  unfold spec_AcctIdOk impl_AcctIdOk
  by_cases h : (s.size : Int) ≤ 19
  · obtain ⟨y, e1, e2⟩ := LuhnOk_eq s (by omega)
    exact ⟨y, by simp [h, e1], by simp [h, e2], fun _ => by omega⟩
  · exact ⟨false, by simp [h], by simp [h], fun e => by cases e⟩
theorem HoldIdOk_l0_eq : ∀ (s : ByteArray) (n : Nat) (v : Int), impl_HoldIdOk_l0 s n v = spec_HoldIdOk_l0 s n v
  | s, 0, v => rfl
  | s, n + 1, v => by unfold impl_HoldIdOk_l0 spec_HoldIdOk_l0; simp only [HoldIdOk_l0_eq s n]
theorem HoldIdOk_l0_tot (s : ByteArray) (hs : s.size ≤ 4000000) : ∀ (n : Nat) (v : Int), 0 ≤ v → v ≤ s.size → (s.size : Int) - v < n → ∃ y, spec_HoldIdOk_l0 s n v = some y
  | 0, v, h0, hv, hn => by exfalso; omega
  | n + 1, v, h0, hv, hn => by
    unfold spec_HoldIdOk_l0
    by_cases h1 : v < (s.size : Int)
    · have hi : i64 (v + 1) = v + 1 := i64_nn (by omega) (by omega)
      obtain ⟨y, e⟩ := HoldIdOk_l0_tot s hs n (v + 1) (by omega) (by omega) (by omega)
      simp only [h1, h0, decide_true, if_true, hi, e]
      repeat' split
      all_goals exact ⟨_, rfl⟩
    · exact ⟨.out (), by simp [h1]⟩
theorem HoldIdOk_tot (s : ByteArray) (hs : s.size ≤ 4000000) : ∃ y, spec_HoldIdOk s = some y ∧ impl_HoldIdOk s = some y ∧ (y = true → s.size ≤ 6) := by
  obtain ⟨y, e⟩ := HoldIdOk_l0_tot s hs FUEL 0 (by omega) (by omega) (by unfold FUEL; omega)
  unfold spec_HoldIdOk impl_HoldIdOk
  rw [HoldIdOk_l0_eq, e]
  cases y with
  | ret u => exact ⟨false, rfl, rfl, fun h => by cases h⟩
  | out u =>
    refine ⟨decide ((1 : Int) ≤ s.size) && decide ((s.size : Int) ≤ 6), ?_, ?_, fun h => ?_⟩
    · simp only [Option.bind_some, Lo.elim, l01In_val]
    · simp only [Option.bind_some, Lo.elim, within_val]
    · simp only [Bool.and_eq_true, decide_eq_true_eq] at h; omega
theorem bstr_fold : ∀ (ns : List Int) (r : ByteArray), (ns.foldl (fun r n => r.push (UInt8.ofNat n.toNat)) r).data.toList = r.data.toList ++ ns.map (fun n => UInt8.ofNat n.toNat)
  | [], r => by simp
  | n :: ns, r => by
    rw [List.foldl_cons, bstr_fold ns]
    simp [ByteArray.push]
theorem bstr_list (ns : List Int) : (bstr ns).data.toList = ns.map (fun n => UInt8.ofNat n.toNat) := by
  unfold bstr
  rw [bstr_fold]; rfl
theorem ba_ext {a b : ByteArray} (h : a.data.toList = b.data.toList) : a = b := by
  rcases a with ⟨⟨a⟩⟩
  rcases b with ⟨⟨b⟩⟩
  have h : a = b := h
  rw [h]
theorem ba_app (a b : ByteArray) : (a ++ b).data.toList = a.data.toList ++ b.data.toList := by
  rw [ByteArray.data_append, Array.toList_append]
theorem ba_size (a : ByteArray) : a.size = a.data.toList.length := by
  rcases a with ⟨⟨a⟩⟩
  rfl
theorem ba_nil_app (a : ByteArray) : bs [] ++ a = a := ba_ext (by rw [ba_app]; rfl)
theorem ba_app_nil (a : ByteArray) : a ++ bs [] = a := ba_ext (by rw [ba_app]; exact List.append_nil _)
theorem ba_assoc (a b c : ByteArray) : (a ++ b) ++ c = a ++ (b ++ c) := ba_ext (by simp only [ba_app, List.append_assoc])
theorem byte_shr (x : Int) (h : 0 ≤ x ∧ x ≤ 255) : bshr .u8 x 4 = x / 16 := by
  have key : ∀ n : Fin 256, bshr .u8 ((n.val : Nat) : Int) 4 = ((n.val : Nat) : Int) / 16 := by decide +kernel
  have := key ⟨x.toNat, by omega⟩
  have e : ((x.toNat : Nat) : Int) = x := by omega
  simpa [e] using this
theorem byte_and (x : Int) (h : 0 ≤ x ∧ x ≤ 255) : band .u8 x 15 = x % 16 := by
  have key : ∀ n : Fin 256, band .u8 ((n.val : Nat) : Int) 15 = ((n.val : Nat) : Int) % 16 := by decide +kernel
  have := key ⟨x.toNat, by omega⟩
  have e : ((x.toNat : Nat) : Int) = x := by omega
  simpa [e] using this
theorem bstr_app (a b : List Int) : bstr (a ++ b) = bstr a ++ bstr b := ba_ext (by rw [ba_app, bstr_list, bstr_list, bstr_list, List.map_append])
theorem bstr_size (a : List Int) : (bstr a).size = a.length := by rw [ba_size, bstr_list, List.length_map]
theorem sbytes_len (s : ByteArray) : (sbytes s).length = s.size := by unfold sbytes; rw [List.length_map, ← ba_size]
theorem sAt_get (s : ByteArray) {i : Nat} (h : i < s.size) : (sbytes s)[i]? = some (sAt s (i : Int)) := by
  rcases s with ⟨⟨l⟩⟩
  have h : i < l.length := h
  simp [sbytes, sAt, h]
theorem sbytes_bstr {l : List Int} (h : byB l) : sbytes (bstr l) = l := by
  unfold sbytes
  rw [bstr_list, List.map_map]
  conv => rhs; rw [← List.map_id l]
  apply List.map_congr_left
  intro x hx
  have := h x hx
  simp only [Function.comp, id]
  rw [UInt8.toNat_ofNat']
  omega
def digI (x : Int) : Bool := decide (48 ≤ x) && decide (x ≤ 57)
def prtI (x : Int) : Bool := decide (32 ≤ x) && decide (x ≤ 126)
def digB (s : ByteArray) : Bool := decide (0 < s.size) && (sbytes s).all digI
def prtB (s : ByteArray) : Bool := (sbytes s).all prtI
/-- A loop that looks at each byte. -/
theorem scan_loop {L : Nat → Int → Option (Lo Unit Unit)} (s : ByteArray) (hs : s.size ≤ 4000000) (lo hi : Int) (q : Int → Bool) (hq : ∀ x, q x = (decide (lo ≤ x) && decide (x ≤ hi)))
    (h1 : ∀ n v, L (n + 1) v = if (decide (v < (s.size : Int))) = true then if (decide (0 ≤ v)) = true then if (decide ((v : Int) < (s.size : Int))) = true then if (decide ((sAt s v) < lo)) = true then some (.ret ()) else if (decide (hi < (sAt s v))) = true then some (.ret ()) else L n (i64 (v + 1)) else none else none else some (.out ())) :
    ∀ (n v : Nat), v ≤ s.size → s.size - v < n → L n (v : Int) = some (if ((sbytes s).drop v).all q = true then .out () else .ret ())
  | 0, v, h, hn => by omega
  | n + 1, v, h, hn => by
    rw [h1]
    by_cases hv : v < s.size
    · have hl : v < (sbytes s).length := by rw [sbytes_len]; exact hv
      have hd : (sbytes s).drop v = sAt s v :: (sbytes s).drop (v + 1) := by
        have := sAt_get s hv
        rw [List.getElem?_eq_getElem hl] at this
        rw [List.drop_eq_getElem_cons hl, Option.some.inj this]
      have hi' : i64 ((v : Int) + 1) = ((v + 1 : Nat) : Int) := by rw [i64_of (by omega) (by omega)]; omega
      have ih := scan_loop s hs lo hi q hq h1 n (v + 1) (by omega) (by omega)
      rw [hd, List.all_cons, hq, hi', ih]
      simp only [show (v : Int) < (s.size : Int) by omega, show (0 : Int) ≤ (v : Int) by omega, decide_true, if_true]
      by_cases a : sAt s v < lo
      · simp [a, show ¬ lo ≤ sAt s v by omega]
      · by_cases b : hi < sAt s v
        · simp [a, b, show ¬ sAt s v ≤ hi by omega]
        · simp [a, b, show lo ≤ sAt s v by omega, show sAt s v ≤ hi by omega]
    · have : (sbytes s).drop v = [] := List.drop_eq_nil_of_le (by rw [sbytes_len]; omega)
      rw [this]
      simp [show ¬ (v : Int) < (s.size : Int) by omega]
theorem Digits_s (s : ByteArray) (hs : s.size ≤ 4000000) : spec_Digits s = some (digB s) := by
  have e1 : spec_Digits_l0 s FUEL 0 = some (if (sbytes s).all digI = true then .out () else .ret ()) := scan_loop (L := spec_Digits_l0 s) s hs 48 57 digI (fun _ => rfl) (fun _ _ => rfl) FUEL 0 (by omega) (by unfold FUEL; omega)
  unfold spec_Digits digB
  rw [e1]
  cases (sbytes s).all digI with
  | false => simp [Lo.elim]
  | true =>
    by_cases h : s.size = 0
    · simp [Lo.elim, h]
    · simp [Lo.elim, h, show (0 : Int) < (s.size : Int) by omega, show 0 < s.size by omega]
theorem Digits_i (s : ByteArray) (hs : s.size ≤ 4000000) : impl_Digits s = some (digB s) := by
  have e2 : impl_Digits_l0 s FUEL 0 = some (if (sbytes s).all digI = true then .out () else .ret ()) := scan_loop (L := impl_Digits_l0 s) s hs 48 57 digI (fun _ => rfl) (fun _ _ => rfl) FUEL 0 (by omega) (by unfold FUEL; omega)
  unfold impl_Digits digB
  rw [e2, beq_empty]
  cases (sbytes s).all digI with
  | false => simp [Lo.elim]
  | true =>
    by_cases h : s.size = 0
    · simp [Lo.elim, h]
    · simp [Lo.elim, h, show 0 < s.size by omega]
theorem Printable_s (s : ByteArray) (hs : s.size ≤ 4000000) : spec_Printable s = some (prtB s) := by
  have e1 : spec_Printable_l0 s FUEL 0 = some (if (sbytes s).all prtI = true then .out () else .ret ()) := scan_loop (L := spec_Printable_l0 s) s hs 32 126 prtI (fun _ => rfl) (fun _ _ => rfl) FUEL 0 (by omega) (by unfold FUEL; omega)
  unfold spec_Printable prtB
  rw [e1]
  cases (sbytes s).all prtI <;> simp [Lo.elim]
theorem Printable_i (s : ByteArray) (hs : s.size ≤ 4000000) : impl_Printable s = some (prtB s) := by
  have e2 : impl_Printable_l0 s FUEL 0 = some (if (sbytes s).all prtI = true then .out () else .ret ()) := scan_loop (L := impl_Printable_l0 s) s hs 32 126 prtI (fun _ => rfl) (fun _ _ => rfl) FUEL 0 (by omega) (by unfold FUEL; omega)
  unfold impl_Printable prtB
  rw [e2]
  cases (sbytes s).all prtI <;> simp [Lo.elim]
theorem Printable_eq (s : ByteArray) (hs : s.size ≤ 4000000) : spec_Printable s = some (prtB s) ∧ impl_Printable s = some (prtB s) := ⟨Printable_s s hs, Printable_i s hs⟩
def frow (no : Int) : Int × Int :=
  if (no == 2) = true then (3, 19) else if (no == 3) = true then (1, 6) else if (no == 4) = true then (1, 12) else if (no == 7) = true then (1, 10) else if (no == 11) = true then (1, 6) else if (no == 14) = true then (1, 4) else if (no == 37) = true then (2, 12) else if (no == 38) = true then (2, 6) else if (no == 39) = true then (2, 2) else if (no == 41) = true then (2, 8) else if (no == 48) = true then (5, 60) else if (no == 49) = true then (1, 3) else if (no == 54) = true then (5, 60) else if (no == 95) = true then (2, 12) else if (no == 102) = true then (4, 20) else if (no == 103) = true then (4, 20) else (0, 0)
def fkind (no : Int) : Int := (frow no).1
def fsize (no : Int) : Int := (frow no).2
def noCases : List Int := [2, 3, 4, 7, 11, 14, 37, 38, 39, 41, 48, 49, 54, 95, 102, 103]
theorem frow_none {no : Int} (h : no ∉ noCases) : frow no = (0, 0) := by
  unfold noCases at h
  simp only [List.mem_cons, List.not_mem_nil, or_false, not_or] at h
  obtain ⟨h2, h3, h4, h7, h11, h14, h37, h38, h39, h41, h48, h49, h54, h95, h102, h103⟩ := h
  have b2 : (no == 2) = false := beq_false_of_ne h2
  have b3 : (no == 3) = false := beq_false_of_ne h3
  have b4 : (no == 4) = false := beq_false_of_ne h4
  have b7 : (no == 7) = false := beq_false_of_ne h7
  have b11 : (no == 11) = false := beq_false_of_ne h11
  have b14 : (no == 14) = false := beq_false_of_ne h14
  have b37 : (no == 37) = false := beq_false_of_ne h37
  have b38 : (no == 38) = false := beq_false_of_ne h38
  have b39 : (no == 39) = false := beq_false_of_ne h39
  have b41 : (no == 41) = false := beq_false_of_ne h41
  have b48 : (no == 48) = false := beq_false_of_ne h48
  have b49 : (no == 49) = false := beq_false_of_ne h49
  have b54 : (no == 54) = false := beq_false_of_ne h54
  have b95 : (no == 95) = false := beq_false_of_ne h95
  have b102 : (no == 102) = false := beq_false_of_ne h102
  have b103 : (no == 103) = false := beq_false_of_ne h103
  unfold frow
  simp only [b2, b3, b4, b7, b11, b14, b37, b38, b39, b41, b48, b49, b54, b95, b102, b103, Bool.false_eq_true, if_false]
theorem Row_k (no : Int) : spec_FieldKind no = some (fkind no) := by
  by_cases h : no ∈ noCases
  · have key : ∀ no ∈ noCases, spec_FieldKind no = some (fkind no) := by decide +kernel
    exact key no h
  · have hz := frow_none h
    unfold fkind
    rw [hz]
    unfold noCases at h
    simp only [List.mem_cons, List.not_mem_nil, or_false, not_or] at h
    obtain ⟨h2, h3, h4, h7, h11, h14, h37, h38, h39, h41, h48, h49, h54, h95, h102, h103⟩ := h
    have b2 : (no == 2) = false := beq_false_of_ne h2
    have b3 : (no == 3) = false := beq_false_of_ne h3
    have b4 : (no == 4) = false := beq_false_of_ne h4
    have b7 : (no == 7) = false := beq_false_of_ne h7
    have b11 : (no == 11) = false := beq_false_of_ne h11
    have b14 : (no == 14) = false := beq_false_of_ne h14
    have b37 : (no == 37) = false := beq_false_of_ne h37
    have b38 : (no == 38) = false := beq_false_of_ne h38
    have b39 : (no == 39) = false := beq_false_of_ne h39
    have b41 : (no == 41) = false := beq_false_of_ne h41
    have b48 : (no == 48) = false := beq_false_of_ne h48
    have b49 : (no == 49) = false := beq_false_of_ne h49
    have b54 : (no == 54) = false := beq_false_of_ne h54
    have b95 : (no == 95) = false := beq_false_of_ne h95
    have b102 : (no == 102) = false := beq_false_of_ne h102
    have b103 : (no == 103) = false := beq_false_of_ne h103
    unfold spec_FieldKind
    simp only [b2, b3, b4, b7, b11, b14, b37, b38, b39, b41, b48, b49, b54, b95, b102, b103, Bool.false_eq_true, if_false]
theorem Row_s (no : Int) : spec_FieldSize no = some (fsize no) := by
  by_cases h : no ∈ noCases
  · have key : ∀ no ∈ noCases, spec_FieldSize no = some (fsize no) := by decide +kernel
    exact key no h
  · have hz := frow_none h
    unfold fsize
    rw [hz]
    unfold noCases at h
    simp only [List.mem_cons, List.not_mem_nil, or_false, not_or] at h
    obtain ⟨h2, h3, h4, h7, h11, h14, h37, h38, h39, h41, h48, h49, h54, h95, h102, h103⟩ := h
    have b2 : (no == 2) = false := beq_false_of_ne h2
    have b3 : (no == 3) = false := beq_false_of_ne h3
    have b4 : (no == 4) = false := beq_false_of_ne h4
    have b7 : (no == 7) = false := beq_false_of_ne h7
    have b11 : (no == 11) = false := beq_false_of_ne h11
    have b14 : (no == 14) = false := beq_false_of_ne h14
    have b37 : (no == 37) = false := beq_false_of_ne h37
    have b38 : (no == 38) = false := beq_false_of_ne h38
    have b39 : (no == 39) = false := beq_false_of_ne h39
    have b41 : (no == 41) = false := beq_false_of_ne h41
    have b48 : (no == 48) = false := beq_false_of_ne h48
    have b49 : (no == 49) = false := beq_false_of_ne h49
    have b54 : (no == 54) = false := beq_false_of_ne h54
    have b95 : (no == 95) = false := beq_false_of_ne h95
    have b102 : (no == 102) = false := beq_false_of_ne h102
    have b103 : (no == 103) = false := beq_false_of_ne h103
    unfold spec_FieldSize
    simp only [b2, b3, b4, b7, b11, b14, b37, b38, b39, b41, b48, b49, b54, b95, b102, b103, Bool.false_eq_true, if_false]
theorem Row_b (no : Int) : fkind no = 0 ∧ fsize no = 0 ∨ 1 ≤ fkind no ∧ fkind no ≤ 5 ∧ 2 ≤ fsize no ∧ fsize no ≤ 60 := by
  by_cases h : no ∈ noCases
  · have key : ∀ no ∈ noCases, fkind no = 0 ∧ fsize no = 0 ∨ 1 ≤ fkind no ∧ fkind no ≤ 5 ∧ 2 ≤ fsize no ∧ fsize no ≤ 60 := by decide +kernel
    exact key no h
  · have hz := frow_none h
    exact .inl ⟨by unfold fkind; rw [hz], by unfold fsize; rw [hz]⟩
def rowW (no : Int) : Bool := match impl_rowOf no with
  | some r => (r.kind == fkind no) && (r.size == fsize no)
  | none => false
theorem Row_i (no : Int) : ∃ r, impl_rowOf no = some r ∧ r.kind = fkind no ∧ r.size = fsize no := by
  by_cases h : no ∈ noCases
  · have key : ∀ no ∈ noCases, rowW no = true := by decide +kernel
    have h7 := key no h
    unfold rowW at h7
    cases hr : impl_rowOf no with
    | none => rw [hr] at h7; cases h7
    | some r =>
      rw [hr] at h7
      simp only [Bool.and_eq_true, beq_iff_eq] at h7
      exact ⟨r, rfl, h7.1, h7.2⟩
  · have hz := frow_none h
    refine ⟨⟨0, 0, 0⟩, ?_, by unfold fkind; rw [hz], by unfold fsize; rw [hz]⟩
    unfold noCases at h
    simp only [List.mem_cons, List.not_mem_nil, or_false, not_or] at h
    obtain ⟨h2, h3, h4, h7, h11, h14, h37, h38, h39, h41, h48, h49, h54, h95, h102, h103⟩ := h
    have c2 : ((2 : Int) == no) = false := beq_false_of_ne (Ne.symm h2)
    have c3 : ((3 : Int) == no) = false := beq_false_of_ne (Ne.symm h3)
    have c4 : ((4 : Int) == no) = false := beq_false_of_ne (Ne.symm h4)
    have c7 : ((7 : Int) == no) = false := beq_false_of_ne (Ne.symm h7)
    have c11 : ((11 : Int) == no) = false := beq_false_of_ne (Ne.symm h11)
    have c14 : ((14 : Int) == no) = false := beq_false_of_ne (Ne.symm h14)
    have c37 : ((37 : Int) == no) = false := beq_false_of_ne (Ne.symm h37)
    have c38 : ((38 : Int) == no) = false := beq_false_of_ne (Ne.symm h38)
    have c39 : ((39 : Int) == no) = false := beq_false_of_ne (Ne.symm h39)
    have c41 : ((41 : Int) == no) = false := beq_false_of_ne (Ne.symm h41)
    have c48 : ((48 : Int) == no) = false := beq_false_of_ne (Ne.symm h48)
    have c49 : ((49 : Int) == no) = false := beq_false_of_ne (Ne.symm h49)
    have c54 : ((54 : Int) == no) = false := beq_false_of_ne (Ne.symm h54)
    have c95 : ((95 : Int) == no) = false := beq_false_of_ne (Ne.symm h95)
    have c102 : ((102 : Int) == no) = false := beq_false_of_ne (Ne.symm h102)
    have c103 : ((103 : Int) == no) = false := beq_false_of_ne (Ne.symm h103)
    unfold impl_rowOf impl_fieldRows
    simp only [Option.bind_some, List.length_cons, List.length_nil, impl_rowOf_l0, c2, c3, c4, c7, c11, c14, c37, c38, c39, c41, c48, c49, c54, c95, c102, c103, Bool.false_eq_true, if_false, Lo.elim]
    rfl
def fok (no : Int) (s : ByteArray) : Bool :=
  if (fkind no == 1) = true then digB s && ((s.size : Int) == fsize no) else if (fkind no == 2) = true then prtB s && ((s.size : Int) == fsize no) else
  if (fkind no == 3) = true then digB s && decide ((s.size : Int) ≤ fsize no) else if ((fkind no == 4) || (fkind no == 5)) = true then prtB s && (decide (1 ≤ (s.size : Int)) && decide ((s.size : Int) ≤ fsize no)) else false
theorem digB_pos {s : ByteArray} (h : digB s = true) : 1 ≤ s.size := by
  unfold digB at h
  simp only [Bool.and_eq_true, decide_eq_true_eq] at h
  omega
theorem FieldOk_s (no : Int) (s : ByteArray) (hs : s.size ≤ 4000000) : spec_FieldOk no s = some (fok no s) := by
  have hd : digB s = true → decide (1 ≤ (s.size : Int)) = true := fun h => decide_eq_true (by have := digB_pos h; omega)
  unfold spec_FieldOk fok
  rw [Row_s no, Option.bind_some]
  unfold spec_FieldOk_c0
  rw [Row_k no, Option.bind_some]
  unfold spec_FieldOk_c1
  simp only [Digits_s s hs, Printable_s s hs, l01In_val, Option.bind_some]
  generalize fkind no = k
  generalize fsize no = n
  rcases tf (k == 1) with a1 | a1
  · rcases tf (digB s) with x | x <;> simp [a1, x, Lo.elim]
  · rcases tf (k == 2) with a2 | a2
    · rcases tf (prtB s) with x | x <;> simp [a1, a2, x, Lo.elim]
    · rcases tf (k == 3) with a3 | a3
      · rcases tf (digB s) with x | x
        · have := hd x
          rw [decide_eq_true_eq] at this
          simp [a1, a2, a3, x, this, Lo.elim]
        · simp [a1, a2, a3, x, Lo.elim]
      · rcases tf (k == 4) with a4 | a4
        · rcases tf (prtB s) with x | x <;> simp [a1, a2, a3, a4, x, Lo.elim]
        · rcases tf (k == 5) with a5 | a5
          · rcases tf (prtB s) with x | x <;> simp [a1, a2, a3, a4, a5, x, Lo.elim]
          · simp [a1, a2, a3, a4, a5, Lo.elim]
theorem FieldOk_i (no : Int) (s : ByteArray) (hs : s.size ≤ 4000000) : impl_FieldOk no s = some (fok no s) := by
  have hd : digB s = true → decide (1 ≤ (s.size : Int)) = true := fun h => decide_eq_true (by have := digB_pos h; omega)
  obtain ⟨r, r1, rk, rs⟩ := Row_i no
  unfold impl_FieldOk fok
  rw [r1, Option.bind_some]
  unfold impl_FieldOk_c0
  rw [rk, rs]
  unfold impl_FieldOk_c1
  rw [rk]
  simp only [Digits_i s hs, Printable_i s hs, within_val, Option.bind_some]
  generalize fkind no = k
  generalize fsize no = n
  rcases tf (k == 1) with a1 | a1
  · rcases tf (digB s) with x | x <;> simp [a1, x, Lo.elim]
  · rcases tf (k == 2) with a2 | a2
    · rcases tf (prtB s) with x | x <;> simp [a1, a2, x, Lo.elim]
    · rcases tf (k == 3) with a3 | a3
      · rcases tf (digB s) with x | x
        · have := hd x
          rw [decide_eq_true_eq] at this
          simp [a1, a2, a3, x, this, Lo.elim]
        · simp [a1, a2, a3, x, Lo.elim]
      · rcases tf (k == 4) with a4 | a4
        · rcases tf (prtB s) with x | x <;> simp [a1, a2, a3, a4, x, Lo.elim]
        · rcases tf (k == 5) with a5 | a5
          · rcases tf (prtB s) with x | x <;> simp [a1, a2, a3, a4, a5, x, Lo.elim]
          · simp [a1, a2, a3, a4, a5, Lo.elim]
def msgL : Option Int → List Field → Bool
  | _, [] => true
  | p, f :: t => fok f.No f.Text && (match p with | none => true | some k => decide (k < f.No)) && msgL (some f.No) t
def msgB (m : Msg) : Bool := digB m.Mti && ((m.Mti.size : Int) == 4) && msgL none m.List
/-- What comes ahead of place v. -/
def prevNo (l : List Field) : Nat → Option Int
  | 0 => none
  | v + 1 => l[v]?.map (·.No)
theorem MsgOk_l0_s (m : Msg) (hl : m.List.length ≤ 4000000) (hm : ∀ f ∈ m.List, f.Text.size ≤ 4000000) : ∀ (n v : Nat), v ≤ m.List.length → m.List.length - v < n →
    spec_MsgOk_l0 m n (v : Int) = some (if msgL (prevNo m.List v) (m.List.drop v) = true then .out () else .ret ())
  | 0, v, h, hn => by omega
  | n + 1, v, h, hn => by
    unfold spec_MsgOk_l0
    unfold spec_MsgOk_c3
    by_cases hv : v < m.List.length
    · have f1 := FieldOk_s m.List[v].No m.List[v].Text (hm _ (List.getElem_mem hv))
      have hi' : i64 ((v : Int) + 1) = ((v + 1 : Nat) : Int) := by rw [i64_of (by omega) (by omega)]; omega
      have i1 := MsgOk_l0_s m hl hm n (v + 1) (by omega) (by omega)
      have hp : prevNo m.List (v + 1) = some m.List[v].No := by simp [prevNo, hv]
      rw [hp] at i1
      have hg : m.List[((v : Int)).toNat]? = some m.List[v] := by rw [Int.toNat_natCast]; exact List.getElem?_eq_getElem hv
      unfold spec_MsgOk_c4
      rw [List.drop_eq_getElem_cons hv]
      simp only [show (v : Int) < (m.List.length : Int) by omega, show (0 : Int) ≤ (v : Int) by omega, decide_true, if_true, Option.bind_some, Lo.elim, hg, f1, hi', i1, msgL]
      rcases tf (fok m.List[v].No m.List[v].Text) with x | x
      · cases v with
        | zero => simp [x, prevNo]
        | succ u =>
          have hu : u < m.List.length := by omega
          have h1 : i64 (((u + 1 : Nat) : Int) - 1) = (u : Int) := by rw [i64_of (by omega) (by omega)]; omega
          have hg1 : m.List[((u : Int)).toNat]? = some m.List[u] := by rw [Int.toNat_natCast]; exact List.getElem?_eq_getElem hu
          have hp1 : prevNo m.List (u + 1) = some m.List[u].No := by simp [prevNo, hu]
          simp only [x, if_true, show (0 : Int) < ((u + 1 : Nat) : Int) by omega, decide_true, h1, show (0 : Int) ≤ (u : Int) by omega, hg1, Option.bind_some, hp1]
          by_cases q : m.List[u + 1].No ≤ m.List[u].No
          · simp [q, show ¬ m.List[u].No < m.List[u + 1].No by omega]
          · simp [q, show m.List[u].No < m.List[u + 1].No by omega]
      · simp [x]
    · have : m.List.drop v = [] := List.drop_eq_nil_of_le (by omega)
      rw [this]
      simp [show ¬ (v : Int) < (m.List.length : Int) by omega, Lo.elim, msgL]
theorem MsgOk_s (m : Msg) (h0 : m.Mti.size ≤ 4000000) (hl : m.List.length ≤ 4000000) (hm : ∀ f ∈ m.List, f.Text.size ≤ 4000000) : spec_MsgOk m = some (msgB m) := by
  have e1 : spec_MsgOk_l0 m FUEL 0 = some (if msgL none m.List = true then .out () else .ret ()) := MsgOk_l0_s m hl hm FUEL 0 (by omega) (by unfold FUEL; omega)
  unfold spec_MsgOk msgB spec_MsgOk_c0
  rw [Digits_s m.Mti h0, e1]
  simp only [Option.bind_some]
  rcases tf (digB m.Mti) with x | x <;> rcases tf ((m.Mti.size : Int) == 4) with y | y <;> rcases tf (msgL none m.List) with z | z <;> simp [x, y, z, Lo.elim, bne]
theorem MsgOk_l0_i (m : Msg) (hl : m.List.length ≤ 4000000) (hm : ∀ f ∈ m.List, f.Text.size ≤ 4000000) : ∀ (n v : Nat), v ≤ m.List.length → m.List.length - v < n →
    impl_MsgOk_l0 m n (v : Int) = some (if msgL (prevNo m.List v) (m.List.drop v) = true then .out () else .ret ())
  | 0, v, h, hn => by omega
  | n + 1, v, h, hn => by
    unfold impl_MsgOk_l0
    unfold impl_MsgOk_c2
    by_cases hv : v < m.List.length
    · have f1 := FieldOk_i m.List[v].No m.List[v].Text (hm _ (List.getElem_mem hv))
      have hi' : i64 ((v : Int) + 1) = ((v + 1 : Nat) : Int) := by rw [i64_of (by omega) (by omega)]; omega
      have i1 := MsgOk_l0_i m hl hm n (v + 1) (by omega) (by omega)
      have hp : prevNo m.List (v + 1) = some m.List[v].No := by simp [prevNo, hv]
      rw [hp] at i1
      have hg : m.List[((v : Int)).toNat]? = some m.List[v] := by rw [Int.toNat_natCast]; exact List.getElem?_eq_getElem hv
      unfold impl_MsgOk_c3
      rw [List.drop_eq_getElem_cons hv]
      simp only [show (v : Int) < (m.List.length : Int) by omega, show (0 : Int) ≤ (v : Int) by omega, decide_true, if_true, Option.bind_some, Lo.elim, hg, f1, hi', i1, msgL]
      rcases tf (fok m.List[v].No m.List[v].Text) with x | x
      · cases v with
        | zero => simp [x, prevNo]
        | succ u =>
          have hu : u < m.List.length := by omega
          have h1 : i64 (((u + 1 : Nat) : Int) - 1) = (u : Int) := by rw [i64_of (by omega) (by omega)]; omega
          have hg1 : m.List[((u : Int)).toNat]? = some m.List[u] := by rw [Int.toNat_natCast]; exact List.getElem?_eq_getElem hu
          have hp1 : prevNo m.List (u + 1) = some m.List[u].No := by simp [prevNo, hu]
          simp only [x, if_true, show (0 : Int) < ((u + 1 : Nat) : Int) by omega, decide_true, h1, show (0 : Int) ≤ (u : Int) by omega, hg1, Option.bind_some, hp1]
          by_cases q : m.List[u + 1].No ≤ m.List[u].No
          · simp [q, show ¬ m.List[u].No < m.List[u + 1].No by omega]
          · simp [q, show m.List[u].No < m.List[u + 1].No by omega]
      · simp [x]
    · have : m.List.drop v = [] := List.drop_eq_nil_of_le (by omega)
      rw [this]
      simp [show ¬ (v : Int) < (m.List.length : Int) by omega, Lo.elim, msgL]
theorem MsgOk_i (m : Msg) (h0 : m.Mti.size ≤ 4000000) (hl : m.List.length ≤ 4000000) (hm : ∀ f ∈ m.List, f.Text.size ≤ 4000000) : impl_MsgOk m = some (msgB m) := by
  have e1 : impl_MsgOk_l0 m FUEL 0 = some (if msgL none m.List = true then .out () else .ret ()) := MsgOk_l0_i m hl hm FUEL 0 (by omega) (by unfold FUEL; omega)
  unfold impl_MsgOk msgB impl_isWide
  rw [Digits_i m.Mti h0, e1]
  simp only [Option.bind_some]
  rcases tf (digB m.Mti) with x | x <;> rcases tf ((m.Mti.size : Int) == 4) with y | y <;> rcases tf (msgL none m.List) with z | z <;> simp [x, y, z, Lo.elim, bne]
def nib (l : List Int) : List Int := l.flatMap fun x => [48 + x / 16, 48 + x % 16]
theorem nib_cons (x : Int) (t : List Int) : nib (x :: t) = [48 + x / 16, 48 + x % 16] ++ nib t := rfl
theorem nib_len (l : List Int) : (nib l).length = 2 * l.length := by
  induction l with
  | nil => rfl
  | cons x t ih => rw [nib_cons, List.length_append, ih]; simp; omega
theorem nib_by {l : List Int} (h : byB l) : byB (nib l) := by
  induction l with
  | nil => intro b hb; cases hb
  | cons x t ih =>
    intro b hb
    have hx := h x (by simp)
    rw [nib_cons, List.mem_append] at hb
    rcases hb with hb | hb
    · simp at hb
      rcases hb with rfl | rfl <;> omega
    · exact ih (fun y hy => h y (by simp [hy])) b hb
theorem byB_take {l : List Int} (h : byB l) (n : Nat) : byB (l.take n) := fun x hx => h x (List.mem_of_mem_take hx)
theorem byB_drop {l : List Int} (h : byB l) (n : Nat) : byB (l.drop n) := fun x hx => h x (List.mem_of_mem_drop hx)
theorem ba_extract (a : ByteArray) (i j : Nat) : (a.extract i j).data.toList = (a.data.toList.drop i).take (j - i) := by
  rw [ByteArray.data_extract, Array.toList_extract, List.extract_eq_take_drop]
theorem bstr_tail (l : List Int) (n : Nat) : (bstr l).extract n (bstr l).size = bstr (l.drop n) := by
  apply ba_ext
  rw [ba_extract, bstr_size, bstr_list, bstr_list, List.take_of_length_le (by simp), List.map_drop]
/-- A piece of a row. -/
def sect (b : List Int) (a n : Int) : Option (List Int) :=
  if ((decide (0 ≤ a) && decide (a ≤ (b.length : Int))) && (decide (0 ≤ n) && decide (n ≤ (b.length : Int) - a))) = true then some ((b.drop a.toNat).take n.toNat) else none
theorem sect_some {b l : List Int} {a n : Int} (h : sect b a n = some l) : 0 ≤ a ∧ 0 ≤ n ∧ a + n ≤ b.length ∧ l = (b.drop a.toNat).take n.toNat ∧ (l.length : Int) = n := by
  unfold sect at h
  split at h
  · rename_i q
    simp only [Bool.and_eq_true, decide_eq_true_eq] at q
    obtain rfl := Option.some.inj h
    refine ⟨q.1.1, q.2.1, by omega, rfl, ?_⟩
    rw [List.length_take, List.length_drop]
    omega
  · cases h
theorem take_drop_sect (b : List Int) {a n : Int} (h0 : 0 ≤ a) (h1 : 0 ≤ n) : (b.take (a + n).toNat).drop a.toNat = (b.drop a.toNat).take n.toNat := by
  rw [List.drop_take]
  congr 1
  omega
theorem piece_val (b : List Int) (a n : Int) (hb : b.length ≤ 4000000) : impl_piece b a n = some (match sect b a n with | some l => (l, true) | none => ([], false)) := by
  unfold impl_piece sect
  rw [within_val, Option.bind_some]
  by_cases h1 : 0 ≤ a
  · by_cases h2 : a ≤ (b.length : Int)
    · by_cases h3 : 0 ≤ n
      · have e1 : i64 ((b.length : Int) - a) = (b.length : Int) - a := i64_of (by omega) (by omega)
        by_cases h4 : n ≤ (b.length : Int) - a
        · have e2 : i64 (a + n) = a + n := i64_of (by omega) (by omega)
          simp only [h1, h2, h3, h4, e1, e2, show ¬ n < 0 by omega, show ¬ (b.length : Int) - a < n by omega, show a ≤ a + n by omega, show a + n ≤ (b.length : Int) by omega, decide_true, decide_false, Bool.and_self, if_true, if_false, Bool.false_eq_true, take_drop_sect b h1 h3]
        · simp [h1, h2, h3, h4, e1, show ¬ n < 0 by omega, show (b.length : Int) - a < n by omega]
      · simp [h1, h2, h3, show n < 0 by omega]
    · simp [h1, h2]
  · simp [h1]
/-- Packed digits read. -/
def bcdOk (l : List Int) (n : Int) : Bool := (nib l).all digI && !((n % 2 == 1) && !((nib l).head? == some 48))
def bcdG (b : List Int) (a n : Int) : Option (ByteArray × Int) :=
  if (decide (1 ≤ n) && decide (n ≤ 38)) = true then
    match sect b a ((n + 1) / 2) with
    | none => none
    | some l => if bcdOk l n = true then some (bstr ((nib l).drop ((nib l).length - n.toNat)), a + (n + 1) / 2) else none
  else none
def bcdR : Option (ByteArray × Int) → ByteArray × Int × Bool
  | some y => (y.1, y.2, true)
  | none => (bs [], 0, false)
theorem bcdhalf {n : Int} (h1 : 1 ≤ n) (h2 : n ≤ 38) : i64 (Int.tdiv (i64 (n + 1)) 2) = (n + 1) / 2 := by
  rw [i64_of (show -9223372036854775808 ≤ n + 1 by omega) (by omega), Int.tdiv_eq_ediv_of_nonneg (by omega), i64_of (by omega) (by omega)]
theorem spec_bcd_l0 (o : List Int) (hb : byB o) (a n : Int) (e : Nat) (he : i64 (a + (i64 (Int.tdiv (i64 (n + 1)) 2))) = (e : Int)) (hel : e ≤ o.length) (hl : o.length ≤ 4000000) :
    ∀ (fuel v : Nat) (w : ByteArray), v ≤ e → e - v < fuel → w.size + 2 * (e - v) ≤ 100000000 → spec_GetBcd_l0 o a n fuel (v : Int) w = some (w ++ bstr (nib ((o.take e).drop v)))
  | 0, v, w, h, hf, hw => by omega
  | fuel + 1, v, w, h, hf, hw => by
    unfold spec_GetBcd_l0 spec_GetBcd_c2
    rw [he]
    by_cases hv : v < e
    · have hlt : v < (o.take e).length := by rw [List.length_take]; omega
      have hvo : v < o.length := by omega
      have hx := hb _ (List.getElem_mem hvo)
      have hd : (o.take e).drop v = o[v] :: (o.take e).drop (v + 1) := by rw [List.drop_eq_getElem_cons hlt, List.getElem_take]
      have hg : o[((v : Int)).toNat]? = some o[v] := by rw [Int.toNat_natCast]; exact List.getElem?_eq_getElem hvo
      have hi' : i64 ((v : Int) + 1) = ((v + 1 : Nat) : Int) := by rw [i64_of (by omega) (by omega)]; omega
      rw [hd, nib_cons, bstr_app]
      generalize o[v] = x at *
      have e1 : i64 x = x := i64_of (by omega) (by omega)
      have e2 : Int.tdiv x 16 = x / 16 := Int.tdiv_eq_ediv_of_nonneg (by omega)
      have e3 : Int.tmod x 16 = x % 16 := Int.tmod_eq_emod_of_nonneg (by omega)
      have e4 : i64 (x / 16) = x / 16 := i64_of (by omega) (by omega)
      have e5 : i64 (48 + x / 16) = 48 + x / 16 := i64_of (by omega) (by omega)
      have e6 : i64 (48 + x % 16) = 48 + x % 16 := i64_of (by omega) (by omega)
      have e7 : u8 (48 + x / 16) = 48 + x / 16 := u8_of (by omega) (by omega)
      have e8 : u8 (48 + x % 16) = 48 + x % 16 := u8_of (by omega) (by omega)
      have hz : (bstr [48 + x / 16, 48 + x % 16]).size = 2 := bstr_size _
      have ih := spec_bcd_l0 o hb a n e he hel hl fuel (v + 1) (w ++ bstr [48 + x / 16, 48 + x % 16]) (by omega) (by omega) (by rw [size_app, hz]; omega)
      simp only [show (v : Int) < (e : Int) by omega, show (0 : Int) ≤ (v : Int) by omega, decide_true, if_true, Option.bind_some, Lo.elim, hg, e1, e2, e3, e4, e5, e6, e7, e8, hz, show w.size + 2 ≤ 9223372036854775807 by omega, hi', ih, ba_assoc]
    · have : (o.take e).drop v = [] := List.drop_eq_nil_of_le (by rw [List.length_take]; omega)
      rw [this]
      simp only [show ¬ (v : Int) < (e : Int) by omega, decide_false, Bool.false_eq_true, if_false, Option.bind_some, Lo.elim]
      rw [show bstr (nib []) = bs [] from rfl, ba_app_nil]
theorem impl_bcd_l0 (a n : Int) (r : List Int × Bool) (hb : byB r.1) (hl : r.1.length ≤ 4000000) : ∀ (fuel v : Nat) (w : List Int), v ≤ r.1.length → r.1.length - v < fuel → w.length + 2 * (r.1.length - v) ≤ 100000000 →
    impl_GetBcd_l0 a n r fuel (v : Int) w = some (w ++ nib (r.1.drop v))
  | 0, v, w, h, hf, hw => by omega
  | fuel + 1, v, w, h, hf, hw => by
    unfold impl_GetBcd_l0 impl_GetBcd_c2
    by_cases hv : v < r.1.length
    · have hx := hb _ (List.getElem_mem hv)
      have hg : r.1[((v : Int)).toNat]? = some r.1[v] := by rw [Int.toNat_natCast]; exact List.getElem?_eq_getElem hv
      have hi' : i64 ((v : Int) + 1) = ((v + 1 : Nat) : Int) := by rw [i64_of (by omega) (by omega)]; omega
      rw [List.drop_eq_getElem_cons hv, nib_cons]
      generalize r.1[v] = x at *
      have e7 : u8 (48 + x / 16) = 48 + x / 16 := u8_of (by omega) (by omega)
      have e8 : u8 (48 + x % 16) = 48 + x % 16 := u8_of (by omega) (by omega)
      have ih := impl_bcd_l0 a n r hb hl fuel (v + 1) (w ++ [48 + x / 16, 48 + x % 16]) (by omega) (by omega) (by simp; omega)
      simp only [show (v : Int) < (r.1.length : Int) by omega, show (0 : Int) ≤ (v : Int) by omega, decide_true, if_true, Option.bind_some, Lo.elim, hg, byte_shr x hx, byte_and x hx, e7, e8, capOk_of (show w.length + 2 ≤ 274877906944 by omega), hi', ih, List.append_assoc]
    · have : r.1.drop v = [] := List.drop_eq_nil_of_le (by omega)
      rw [this]
      simp only [show ¬ (v : Int) < (r.1.length : Int) by omega, decide_false, Bool.false_eq_true, if_false, Option.bind_some, Lo.elim]
      simp [nib]
theorem digB_bstr {l : List Int} (h : byB l) : digB (bstr l) = (decide (0 < l.length) && l.all digI) := by unfold digB; rw [bstr_size, sbytes_bstr h]
theorem prtB_bstr {l : List Int} (h : byB l) : prtB (bstr l) = l.all prtI := by unfold prtB; rw [sbytes_bstr h]
theorem spec_GetBcd_val (b : List Int) (hb : byB b) (hl : b.length ≤ 4000000) (a n : Int) : spec_GetBcd b a n = some (bcdR (bcdG b a n)) := by
  unfold spec_GetBcd spec_GetBcd_c0 bcdG
  by_cases h1 : 1 ≤ n
  · by_cases h2 : n ≤ 38
    · by_cases h3 : 0 ≤ a
      · by_cases h4 : a ≤ (b.length : Int)
        · have e1 := bcdhalf h1 h2
          have e2 : i64 ((b.length : Int) - a) = (b.length : Int) - a := i64_of (by omega) (by omega)
          by_cases h5 : (n + 1) / 2 ≤ (b.length : Int) - a
          · obtain ⟨u, rfl⟩ : ∃ u : Nat, a = (u : Int) := ⟨a.toNat, by omega⟩
            obtain ⟨k, hk⟩ : ∃ k : Nat, (n + 1) / 2 = (k : Int) := ⟨((n + 1) / 2).toNat, by omega⟩
            have e3 : i64 ((u : Int) + (k : Int)) = ((u + k : Nat) : Int) := by rw [i64_of (by omega) (by omega)]; omega
            have hsec : sect b (u : Int) (k : Int) = some ((b.drop u).take k) := by
              unfold sect
              rw [if_pos (by simp only [Bool.and_eq_true, decide_eq_true_eq]; omega)]
              simp
            have hL := spec_bcd_l0 b hb (u : Int) n (u + k) (by rw [e1, hk, e3]) (by omega) hl FUEL u (bs []) (by omega) (by unfold FUEL; omega) (by rw [show (bs []).size = 0 from rfl]; omega)
            rw [ba_nil_app, show (b.take (u + k)).drop u = (b.drop u).take k by rw [List.drop_take]; congr 1; omega] at hL
            have hll : ((b.drop u).take k).length = k := by rw [List.length_take, List.length_drop]; omega
            have hby := byB_take (byB_drop hb u) k
            generalize hlq : (b.drop u).take k = l at *
            rw [hk] at e1 h5 ⊢
            have hn := nib_len l
            have hnb := nib_by hby
            have hsz : (bstr (nib l)).size = 2 * k := by rw [bstr_size, hn, hll]
            simp only [show ¬ n < 1 by omega, show ¬ 38 < n by omega, show ¬ (u : Int) < 0 by omega, show ¬ (b.length : Int) < (u : Int) by omega, e1, e2, show ¬ (b.length : Int) - (u : Int) < (k : Int) by omega, h1, h2, decide_true, decide_false, Bool.false_eq_true, if_false, if_true, Option.bind_some, Lo.elim, Bool.and_self, hsec, hL]
            unfold spec_GetBcd_c3 bcdOk
            have hm : Int.tmod n 2 = n % 2 := Int.tmod_eq_emod_of_nonneg (by omega)
            rw [hm]
            have hs0 : (nib l).head? = some (sAt (bstr (nib l)) 0) := by
              have := sAt_get (bstr (nib l)) (i := 0) (by rw [hsz]; omega)
              rw [sbytes_bstr hnb] at this
              rw [List.head?_eq_getElem?]; exact this
            rcases tf (n % 2 == 1) with hp | hp
            · have hodd : n % 2 = 1 := by simpa using hp
              unfold spec_GetBcd_c4 spec_GetBcd_c5
              rw [hs0]
              have hc : (0 : Int) < ((bstr (nib l)).size : Int) := by rw [hsz]; omega
              have hc1 : (1 : Int) ≤ ((bstr (nib l)).size : Int) := by rw [hsz]; omega
              have hx : (bstr (nib l)).extract 1 (bstr (nib l)).size = bstr ((nib l).drop 1) := bstr_tail _ _
              have hd : (nib l).length - n.toNat = 1 := by omega
              simp only [hp, if_true, show (0 : Int) ≤ 0 from Int.le_refl 0, decide_true, hc, hc1, Int.toNat_natCast, hx, hd]
              rcases tf (sAt (bstr (nib l)) 0 == 48) with hz | hz
              · have d1 := Digits_s (bstr ((nib l).drop 1)) (by rw [bstr_size, List.length_drop]; omega)
                have hz1 : sAt (bstr (nib l)) 0 = 48 := by simpa using hz
                rw [hz1] at hs0
                have hcons : nib l = 48 :: (nib l).drop 1 := by
                  cases hq : nib l with
                  | nil => rw [hq] at hs0; cases hs0
                  | cons y t => rw [hq] at hs0; simp at hs0; subst hs0; rfl
                have hall : (nib l).all digI = ((nib l).drop 1).all digI := by
                  conv => lhs; rw [hcons]
                  rw [List.all_cons, show digI 48 = true from rfl, Bool.true_and]
                rw [digB_bstr (byB_drop hnb 1), decide_eq_true (show 0 < ((nib l).drop 1).length by rw [List.length_drop]; omega), Bool.true_and, ← hall] at d1
                simp only [bne, hz, Bool.not_true, Bool.false_eq_true, if_false, Option.bind_some, Lo.elim, d1, hz1]
                have d1t := d1
                rw [List.drop_one] at d1t
                rcases tf ((nib l).all digI) with q | q <;> simp [q, bcdR, e3, d1t]
              · have hz1 : ¬ sAt (bstr (nib l)) 0 = 48 := by simpa using hz
                simp [bne, hz, hz1, bcdR, Lo.elim]
            · have heven : n % 2 = 0 := by
                have : ¬ n % 2 = 1 := by simpa using hp
                omega
              unfold spec_GetBcd_c5
              have hd : (nib l).length - n.toNat = 0 := by omega
              have d1 := Digits_s (bstr (nib l)) (by rw [hsz]; omega)
              rw [digB_bstr hnb, decide_eq_true (show 0 < (nib l).length by omega), Bool.true_and] at d1
              simp only [hp, Bool.false_eq_true, if_false, Option.bind_some, d1, hd, List.drop_zero, Bool.false_and, Bool.not_false, Bool.and_true]
              rcases tf ((nib l).all digI) with q | q <;> simp [q, bcdR, e3]
          · have hsec : sect b a ((n + 1) / 2) = none := by
              unfold sect
              rw [if_neg (by simp only [Bool.and_eq_true, decide_eq_true_eq]; omega)]
            simp [show ¬ n < 1 by omega, show ¬ 38 < n by omega, show ¬ a < 0 by omega, show ¬ (b.length : Int) < a by omega, e1, e2, show (b.length : Int) - a < (n + 1) / 2 by omega, h1, h2, hsec, bcdR, Lo.elim]
        · have hsec : sect b a ((n + 1) / 2) = none := by
            unfold sect
            rw [if_neg (by simp only [Bool.and_eq_true, decide_eq_true_eq]; omega)]
          simp [show ¬ n < 1 by omega, show ¬ 38 < n by omega, show ¬ a < 0 by omega, show (b.length : Int) < a by omega, h1, h2, hsec, bcdR, Lo.elim]
      · have hsec : sect b a ((n + 1) / 2) = none := by
          unfold sect
          rw [if_neg (by simp only [Bool.and_eq_true, decide_eq_true_eq]; omega)]
        simp [show ¬ n < 1 by omega, show ¬ 38 < n by omega, show a < 0 by omega, h1, h2, hsec, bcdR, Lo.elim]
    · simp [show ¬ n < 1 by omega, show 38 < n by omega, h2, bcdR, Lo.elim]
  · simp [show n < 1 by omega, h1, bcdR, Lo.elim]
theorem impl_GetBcd_val (b : List Int) (hb : byB b) (hl : b.length ≤ 4000000) (a n : Int) : impl_GetBcd b a n = some (bcdR (bcdG b a n)) := by
  unfold impl_GetBcd impl_GetBcd_c0 bcdG
  rw [within_val, Option.bind_some]
  rcases tf (decide (1 ≤ n) && decide (n ≤ 38)) with h | h
  · have h' := h
    simp only [Bool.and_eq_true, decide_eq_true_eq] at h'
    obtain ⟨h1, h2⟩ := h'
    rw [bcdhalf h1 h2, piece_val b a _ hl]
    simp only [h, if_true, Option.bind_some, Lo.elim]
    cases hsec : sect b a ((n + 1) / 2) with
    | none =>
      have := impl_bcd_l0 a n ([], false) (fun _ hb => by cases hb) (by simp) FUEL 0 [] (by simp) (by unfold FUEL; simp) (by simp)
      have e0 : ((0 : Nat) : Int) = 0 := rfl
      rw [e0] at this
      simp only [this, Option.bind_some]
      unfold impl_GetBcd_c3
      simp [bcdR]
    | some l =>
      obtain ⟨g1, g2, g3, g4, g5⟩ := sect_some hsec
      have hby : byB l := by rw [g4]; exact byB_take (byB_drop hb _) _
      have hL := impl_bcd_l0 a n (l, true) hby (by show l.length ≤ _; omega) FUEL 0 [] (by simp) (by show l.length - 0 < _; unfold FUEL; omega) (by show 0 + 2 * (l.length - 0) ≤ _; omega)
      have e0 : ((0 : Nat) : Int) = 0 := rfl
      rw [e0, List.nil_append, List.drop_zero] at hL
      simp only [hL, Option.bind_some]
      have hn := nib_len l
      have hnb := nib_by hby
      have d2 := Digits_i (bstr (nib l)) (by rw [bstr_size]; omega)
      rw [digB_bstr hnb, decide_eq_true (show 0 < (nib l).length by omega), Bool.true_and] at d2
      unfold impl_GetBcd_c3 bcdOk
      have hm : Int.tmod n 2 = n % 2 := Int.tmod_eq_emod_of_nonneg (by omega)
      have e1 : i64 (((nib l).length : Int) - n) = ((nib l).length : Int) - n := i64_of (by omega) (by omega)
      have e2 : i64 (a + (l.length : Int)) = a + (n + 1) / 2 := by rw [g5, i64_of (by omega) (by omega)]
      have e3 : (((nib l).length : Int) - n).toNat = (nib l).length - n.toNat := by omega
      have e4 : ((nib l).drop ((nib l).length - n.toNat)).take ((nib l).length - ((nib l).length - n.toNat)) = (nib l).drop ((nib l).length - n.toNat) := List.take_of_length_le (by rw [List.length_drop]; omega)
      rw [hm, d2]
      simp only [if_true, Option.bind_some, e1, e2, e3, e4, show (0 : Int) ≤ ((nib l).length : Int) - n by omega, show ((nib l).length : Int) - n ≤ ((nib l).length : Int) by omega, decide_true]
      rcases tf ((nib l).all digI) with q | q
      · rw [q]
        simp only [Bool.true_and, if_true]
        rcases tf (n % 2 == 1) with hp | hp
        · cases hq : nib l with
          | nil => rw [hq] at hn; simp at hn; omega
          | cons y t =>
            rcases tf (y == 48) with hy | hy
            · have : y = 48 := by simpa using hy
              simp [q, hp, hy, this, bne, bcdR, Lo.elim]
            · have : ¬ y = 48 := by simpa using hy
              simp [q, hp, hy, this, bne, bcdR, Lo.elim]
        · simp [q, hp, bcdR, Lo.elim]
      · simp [q, bcdR, Lo.elim]
  · simp [h, bcdR, Lo.elim]
theorem bcdG_some {b : List Int} {a n : Int} {y : ByteArray × Int} (hb : byB b) (h : bcdG b a n = some y) : digB y.1 = true ∧ (y.1.size : Int) = n ∧ 1 ≤ n ∧ n ≤ 38 ∧ 0 ≤ a ∧ y.2 = a + (n + 1) / 2 ∧ y.2 ≤ b.length := by
  unfold bcdG at h
  split at h
  · rename_i hn
    simp only [Bool.and_eq_true, decide_eq_true_eq] at hn
    split at h
    · cases h
    · rename_i l hs
      split at h
      · rename_i hk
        obtain rfl := Option.some.inj h
        obtain ⟨g1, g2, g3, g4, g5⟩ := sect_some hs
        have hby : byB l := by rw [g4]; exact byB_take (byB_drop hb _) _
        have hnl := nib_len l
        unfold bcdOk at hk
        simp only [Bool.and_eq_true] at hk
        refine ⟨?_, ?_, hn.1, hn.2, g1, rfl, by show a + (n + 1) / 2 ≤ _; omega⟩
        · show digB (bstr _) = true
          rw [digB_bstr (byB_drop (nib_by hby) _), decide_eq_true (show 0 < ((nib l).drop ((nib l).length - n.toNat)).length by rw [List.length_drop]; omega), Bool.true_and, List.all_eq_true]
          exact fun x hx => List.all_eq_true.1 hk.1 x (List.mem_of_mem_drop hx)
        · show ((bstr _).size : Int) = n
          rw [bstr_size, List.length_drop]; omega
      · cases h
  · cases h
def numF (n : Int) (l : List Int) : Int := l.foldl (fun n x => n * 10 + (x - 48)) n
def numL (l : List Int) : Int := numF 0 l
theorem numF_cons (n x : Int) (t : List Int) : numF n (x :: t) = numF (n * 10 + (x - 48)) t := rfl
theorem digI_iff {x : Int} : digI x = true ↔ 48 ≤ x ∧ x ≤ 57 := by unfold digI; simp
theorem numF_bound : ∀ (l : List Int) (n : Int) (k : Nat), (∀ x ∈ l, digI x = true) → 0 ≤ n → n < 10 ^ k → 0 ≤ numF n l ∧ numF n l < 10 ^ (k + l.length)
  | [], n, k, _, h0, h1 => ⟨h0, h1⟩
  | x :: t, n, k, hd, h0, h1 => by
    have hx := digI_iff.1 (hd x (by simp))
    have hp : (10 : Int) ^ (k + 1) = 10 ^ k * 10 := Int.pow_succ _ _
    have := numF_bound t (n * 10 + (x - 48)) (k + 1) (fun y hy => hd y (by simp [hy])) (by omega) (by omega)
    rw [numF_cons, List.length_cons, show k + (t.length + 1) = k + 1 + t.length by omega]
    exact this
theorem parse_digits : ∀ (l : List UInt8) (acc k : Nat), (∀ b ∈ l, digI (b.toNat : Int) = true) → acc < 10 ^ k → k + l.length ≤ 18 → ∃ u, Lib.parseUint10 acc l = .ok u ∧ (u : Int) = numF (acc : Int) (l.map fun b => (b.toNat : Int)) ∧ u < 10 ^ (k + l.length)
  | [], acc, k, _, h1, _ => ⟨acc, rfl, rfl, h1⟩
  | c :: r, acc, k, hd, h1, h2 => by
    have hx := digI_iff.1 (hd c (by simp))
    simp only [List.length_cons] at h2
    have hk : (10 : Nat) ^ k ≤ 10 ^ 17 := Nat.pow_le_pow_right (by decide) (by omega)
    have hk2 : (10 : Nat) ^ (k + 1) = 10 ^ k * 10 := Nat.pow_succ _ _
    obtain ⟨u, e1, e2, e3⟩ := parse_digits r (acc * 10 + (c.toNat - 48)) (k + 1) (fun b hb => hd b (by simp [hb])) (by omega) (by omega)
    refine ⟨u, ?_, ?_, by rw [List.length_cons, show k + (r.length + 1) = k + 1 + r.length by omega]; exact e3⟩
    · rw [Lib.parseUint10, if_pos (by omega), if_neg (by omega), if_neg (by omega), e1]
    · rw [List.map_cons, numF_cons, e2]
      congr 1
      omega
theorem digB_mem {s : ByteArray} (h : digB s = true) : 1 ≤ s.size ∧ ∀ x ∈ sbytes s, digI x = true := by
  unfold digB at h
  simp only [Bool.and_eq_true, decide_eq_true_eq, List.all_eq_true] at h
  exact ⟨by omega, h.2⟩
theorem atoi_digits (s : ByteArray) (h : digB s = true) (hs : s.size ≤ 18) : Lib.atoiAll s.data.toList = .ok (numL (sbytes s)) := by
  obtain ⟨h1, h2⟩ := digB_mem h
  have hd : ∀ b ∈ s.data.toList, digI (b.toNat : Int) = true := fun b hb => h2 _ (by unfold sbytes; exact List.mem_map_of_mem hb)
  have hl : s.data.toList.length = s.size := (ba_size s).symm
  obtain ⟨u, e1, e2, e3⟩ := parse_digits s.data.toList 0 0 hd (by decide) (by omega)
  have e2 : (u : Int) = numL (sbytes s) := e2
  rw [← e2]
  cases hq : s.data.toList with
  | nil => rw [hq] at hl; simp at hl; omega
  | cons c r =>
    have hc := digI_iff.1 (hd c (by rw [hq]; simp))
    rw [hq] at e1 e3
    have hk : (10 : Nat) ^ (0 + (c :: r).length) ≤ 10 ^ 18 := Nat.pow_le_pow_right (by decide) (by rw [← hq]; omega)
    unfold Lib.atoiAll
    simp only [show ¬ (c.toNat = 43 ∨ c.toNat = 45) by omega, if_false]
    unfold Lib.parseMag
    rw [if_neg (by simp), e1]
    simp only [show ¬ (c.toNat = 45) by omega, not_false_eq_true, true_and, false_and, if_false, show ¬ 9223372036854775808 ≤ u by omega]
theorem spec_Narrow_l0_val (s : ByteArray) (hs : s.size ≤ 18) (hd : ∀ x ∈ sbytes s, digI x = true) : ∀ (fuel v : Nat) (n : Int), v ≤ s.size → s.size - v < fuel → 0 ≤ n → n < 10 ^ v → spec_Narrow_l0 s fuel n (v : Int) = some (numF n ((sbytes s).drop v))
  | 0, v, n, h, hf, _, _ => by omega
  | fuel + 1, v, n, h, hf, h0, h1 => by
    unfold spec_Narrow_l0
    by_cases hv : v < s.size
    · have hl : v < (sbytes s).length := by rw [sbytes_len]; exact hv
      have hx := digI_iff.1 (hd _ (List.getElem_mem hl))
      have he : (sbytes s)[v] = sAt s (v : Int) := by
        have := sAt_get s hv
        rw [List.getElem?_eq_getElem hl] at this
        exact Option.some.inj this
      rw [List.drop_eq_getElem_cons hl, numF_cons, he]
      rw [he] at hx
      have hi' : i64 ((v : Int) + 1) = ((v + 1 : Nat) : Int) := by rw [i64_of (by omega) (by omega)]; omega
      generalize sAt s (v : Int) = x at *
      have hk : (10 : Int) ^ v ≤ 10 ^ 17 := by
        have := Nat.pow_le_pow_right (n := 10) (by decide) (show v ≤ 17 by omega)
        exact_mod_cast this
      have hk2 : (10 : Int) ^ (v + 1) = 10 ^ v * 10 := Int.pow_succ _ _
      have hk3 : (10 : Int) ^ 17 = 100000000000000000 := by decide
      have e1 : i64 (n * 10) = n * 10 := i64_of (by omega) (by omega)
      have e2 : i64 x = x := i64_of (by omega) (by omega)
      have e3 : i64 (n * 10 + x) = n * 10 + x := i64_of (by omega) (by omega)
      have e4 : i64 (n * 10 + x - 48) = n * 10 + (x - 48) := by rw [i64_of (by omega) (by omega)]; omega
      have ih := spec_Narrow_l0_val s hs hd fuel (v + 1) (n * 10 + (x - 48)) (by omega) (by omega) (by omega) (by omega)
      simp only [show (v : Int) < (s.size : Int) by omega, show (0 : Int) ≤ (v : Int) by omega, decide_true, if_true, e1, e2, e3, e4, hi', ih]
    · have : (sbytes s).drop v = [] := List.drop_eq_nil_of_le (by rw [sbytes_len]; omega)
      rw [this]
      simp [show ¬ (v : Int) < (s.size : Int) by omega, numF]
def narB (s : ByteArray) : Int × Bool := if (digB s && decide (s.size ≤ 18)) = true then (numL (sbytes s), true) else (0, false)
theorem Narrow_s (s : ByteArray) (hs : s.size ≤ 4000000) : spec_Narrow s = some (narB s) := by
  have d1 := Digits_s s hs
  unfold spec_Narrow narB
  rw [d1]
  simp only [Option.bind_some]
  rcases tf (digB s) with x | x
  · by_cases h : s.size ≤ 18
    · have hL := spec_Narrow_l0_val s h (digB_mem x).2 FUEL 0 0 (by omega) (by unfold FUEL; omega) (by omega) (by decide)
      have hL : spec_Narrow_l0 s FUEL 0 0 = some (numF 0 (sbytes s)) := hL
      simp only [x, h, decide_true, Bool.and_self, if_true, show ¬ (18 : Int) < (s.size : Int) by omega, decide_false, Bool.false_eq_true, if_false, hL, Option.bind_some]
      rfl
    · simp [x, h, show (18 : Int) < (s.size : Int) by omega]
  · simp [x]
theorem Narrow_i (s : ByteArray) (hs : s.size ≤ 4000000) : impl_Narrow s = some (narB s) := by
  have d2 := Digits_i s hs
  unfold impl_Narrow narB
  rw [d2]
  simp only [Option.bind_some]
  rcases tf (digB s) with x | x
  · by_cases h : s.size ≤ 18
    · simp only [x, h, decide_true, Bool.and_self, if_true, atoi_digits s x h]
    · simp [x, h, show s.size ≤ 140737488355328 by omega]
  · simp [x, show s.size ≤ 140737488355328 by omega]
/-- A length read. -/
def lenG (b : List Int) (a d : Int) : Option (Int × Int) := (bcdG b a d).map fun y => (numL (sbytes y.1), y.2)
def lenR : Option (Int × Int) → Int × Int × Bool
  | some y => (y.1, y.2, true)
  | none => (0, 0, false)
theorem GetLen_s (b : List Int) (hb : byB b) (hl : b.length ≤ 4000000) (a d : Int) (hd : d = 2 ∨ d = 3) : spec_GetLen b a d = some (lenR (lenG b a d)) := by
  have e1 := spec_GetBcd_val b hb hl a d
  unfold spec_GetLen spec_GetLen_c0 lenG
  rw [e1]
  have h0 : (if (d != 2) = true then (if (d != 3) = true then some (Lo.ret ()) else some (Lo.out ())) else some (Lo.out () : Lo Unit Unit)) = some (.out ()) := by rcases hd with rfl | rfl <;> rfl
  rw [h0]
  simp only [Option.bind_some, Lo.elim]
  cases hq : bcdG b a d with
  | none =>
    have n1 := Narrow_s (bs []) (by decide)
    have n0 : narB (bs []) = (0, false) := rfl
    simp only [bcdR, n1, n0, Option.bind_some, Option.map_none, lenR]
  | some y =>
    obtain ⟨g1, g2, g3, _⟩ := bcdG_some hb hq
    have n1 := Narrow_s y.1 (by rcases hd with rfl | rfl <;> omega)
    have n0 : narB y.1 = (numL (sbytes y.1), true) := by
      unfold narB
      rw [if_pos]
      rw [g1, decide_eq_true (by rcases hd with rfl | rfl <;> omega)]; rfl
    simp only [bcdR, n1, n0, Option.bind_some, Option.map_some, lenR]
theorem GetLen_i (b : List Int) (hb : byB b) (hl : b.length ≤ 4000000) (a d : Int) (hd : d = 2 ∨ d = 3) : impl_GetLen b a d = some (lenR (lenG b a d)) := by
  have e2 := impl_GetBcd_val b hb hl a d
  unfold impl_GetLen impl_GetLen_c0 lenG
  rw [e2, within_val]
  have hw : (decide ((2 : Int) ≤ d) && decide (d ≤ 3)) = true := by rcases hd with rfl | rfl <;> rfl
  simp only [hw, if_true, Option.bind_some, Lo.elim]
  unfold impl_GetLen_c1
  cases hq : bcdG b a d with
  | none => simp only [bcdR, Option.bind_some, Option.map_none, lenR, Bool.false_eq_true, if_false]
  | some y =>
    obtain ⟨g1, g2, g3, _⟩ := bcdG_some hb hq
    have n2 := Narrow_i y.1 (by rcases hd with rfl | rfl <;> omega)
    have n0 : narB y.1 = (numL (sbytes y.1), true) := by
      unfold narB
      rw [if_pos]
      rw [g1, decide_eq_true (by rcases hd with rfl | rfl <;> omega)]; rfl
    simp only [bcdR, n2, n0, Option.bind_some, Option.map_some, lenR, if_true]
theorem lenG_some {b : List Int} {a d : Int} {y : Int × Int} (hb : byB b) (hd : d = 2 ∨ d = 3) (h : lenG b a d = some y) : 0 ≤ y.1 ∧ y.1 ≤ 999 ∧ 0 ≤ a ∧ y.2 = a + (d + 1) / 2 ∧ y.2 ≤ b.length := by
  unfold lenG at h
  rw [Option.map_eq_some_iff] at h
  obtain ⟨z, hz, rfl⟩ := h
  obtain ⟨g1, g2, g3, g4, g5, g6, g7⟩ := bcdG_some hb hz
  have hn := numF_bound (sbytes z.1) 0 0 (digB_mem g1).2 (by decide) (by decide)
  rw [sbytes_len, Nat.zero_add] at hn
  have hk : (10 : Int) ^ z.1.size ≤ 10 ^ 3 := by
    have := Nat.pow_le_pow_right (n := 10) (by decide) (show z.1.size ≤ 3 by rcases hd with rfl | rfl <;> omega)
    exact_mod_cast this
  have hk3 : (10 : Int) ^ 3 = 1000 := by decide
  refine ⟨hn.1, ?_, g5, g6, g7⟩
  show numF 0 (sbytes z.1) ≤ 999
  omega
def bitB (l : List Int) (k : Nat) : Bool := (l.getD ((k - 1) / 8) 0 / 2 ^ (7 - (k - 1) % 8)) % 2 == 1
def bitsF (l : List Int) (v : Nat) : List Int := ((List.range' v (65 - v)).filter (bitB l)).map fun k : Nat => (k : Int)
def bitsL (l : List Int) : List Int := bitsF l 1
theorem bit_byte (x : Int) (h : 0 ≤ x ∧ x ≤ 255) (i : Nat) (hi : i < 8) : (Int.tmod (bshr .i64 x (7 - (i : Int))) 2 == 1) = (x / 2 ^ (7 - i) % 2 == 1) ∧ (band .u8 x (bshr .u8 128 (i : Int)) != 0) = (x / 2 ^ (7 - i) % 2 == 1) := by
  have key : ∀ (n : Fin 256) (i : Fin 8), (Int.tmod (bshr .i64 ((n.val : Nat) : Int) (7 - ((i.val : Nat) : Int))) 2 == 1) = (((n.val : Nat) : Int) / 2 ^ (7 - i.val) % 2 == 1) ∧ (band .u8 ((n.val : Nat) : Int) (bshr .u8 128 ((i.val : Nat) : Int)) != 0) = (((n.val : Nat) : Int) / 2 ^ (7 - i.val) % 2 == 1) := by decide +kernel
  have := key ⟨x.toNat, by omega⟩ ⟨i, hi⟩
  have e : ((x.toNat : Nat) : Int) = x := by omega
  simpa only [e] using this
theorem bitsF_step (l : List Int) (v : Nat) (h : v ≤ 64) : bitsF l v = (if bitB l v = true then [(v : Int)] else []) ++ bitsF l (v + 1) := by
  unfold bitsF
  rw [show 65 - v = (65 - (v + 1)) + 1 by omega, List.range'_succ, List.filter_cons]
  rcases tf (bitB l v) with q | q <;> simp [q]
theorem bitsF_end (l : List Int) : bitsF l 65 = [] := by unfold bitsF; simp
theorem bitsF_len (l : List Int) (v : Nat) : (bitsF l v).length ≤ 64 + 1 - v := by
  unfold bitsF
  rw [List.length_map]
  have := List.length_filter_le (bitB l) (List.range' v (65 - v))
  rw [List.length_range'] at this
  omega
theorem bits_arith {v : Nat} (h1 : 1 ≤ v) (h2 : v ≤ 64) : i64 ((v : Int) - 1) = ((v - 1 : Nat) : Int) ∧ Int.tdiv ((v - 1 : Nat) : Int) 8 = (((v - 1) / 8 : Nat) : Int) ∧ Int.tmod ((v - 1 : Nat) : Int) 8 = (((v - 1) % 8 : Nat) : Int) ∧ i64 (((v - 1) / 8 : Nat) : Int) = (((v - 1) / 8 : Nat) : Int) ∧ i64 (7 - (((v - 1) % 8 : Nat) : Int)) = 7 - (((v - 1) % 8 : Nat) : Int) := by
  refine ⟨by rw [i64_of (by omega) (by omega)]; omega, ?_, ?_, i64_of (by omega) (by omega), i64_of (by omega) (by omega)⟩
  · rw [Int.tdiv_eq_ediv_of_nonneg (by omega)]; omega
  · rw [Int.tmod_eq_emod_of_nonneg (by omega)]; omega
theorem spec_GetBits_l0_val (b : List Int) (hb : byB b) (hl : b.length ≤ 4000000) (a : Nat) (ha : a + 8 ≤ b.length) : ∀ (fuel v : Nat) (w : List Int), 1 ≤ v → v ≤ 65 → 65 - v < fuel → w.length + (65 - v) ≤ 1000 →
    spec_GetBits_l0 b (a : Int) fuel (v : Int) w = some (w ++ bitsF ((b.drop a).take 8) v)
  | 0, v, w, _, _, hf, _ => by omega
  | fuel + 1, v, w, h1, h2, hf, hw => by
    unfold spec_GetBits_l0 spec_GetBits_c3
    by_cases hv : v ≤ 64
    · obtain ⟨e1, e2, e3, e4, e5⟩ := bits_arith h1 hv
      have hi' : i64 ((v : Int) + 1) = ((v + 1 : Nat) : Int) := by rw [i64_of (by omega) (by omega)]; omega
      have hq : a + (v - 1) / 8 < b.length := by omega
      have e6 : i64 ((a : Int) + (((v - 1) / 8 : Nat) : Int)) = ((a + (v - 1) / 8 : Nat) : Int) := by rw [i64_of (by omega) (by omega)]; omega
      have hg : b[a + (v - 1) / 8]? = some b[a + (v - 1) / 8] := List.getElem?_eq_getElem hq
      have hx := hb _ (List.getElem_mem hq)
      have hgd : ((b.drop a).take 8).getD ((v - 1) / 8) 0 = b[a + (v - 1) / 8] := by
        rw [List.getD_eq_getElem?_getD, List.getElem?_take, if_pos (by omega), List.getElem?_drop, hg]; rfl
      have hbit : bitB ((b.drop a).take 8) v = (b[a + (v - 1) / 8] / 2 ^ (7 - (v - 1) % 8) % 2 == 1) := by unfold bitB; rw [hgd]
      rw [bitsF_step _ v hv, hbit]
      unfold spec_GetBits_c4
      generalize b[a + (v - 1) / 8] = x at *
      obtain ⟨k1, _⟩ := bit_byte x hx ((v - 1) % 8) (by omega)
      have e7 : i64 x = x := i64_of (by omega) (by omega)
      have ih := fun w' hw' => spec_GetBits_l0_val b hb hl a ha fuel (v + 1) w' (by omega) (by omega) (by omega) hw'
      simp only [show (v : Int) ≤ 64 by omega, decide_true, if_true, Option.bind_some, Lo.elim, e1, e2, e3, e4, e5, e6, e7, k1, Int.toNat_natCast, hg, Int.natCast_nonneg, show ¬ (7 - (((v - 1) % 8 : Nat) : Int)) < 0 by omega, not_false_eq_true, hi']
      rcases tf (x / 2 ^ (7 - (v - 1) % 8) % 2 == 1) with q | q
      · simp only [q, if_true, capOk_of (show w.length + 1 ≤ 274877906944 by omega), Option.bind_some]
        rw [ih (w ++ [(v : Int)]) (by simp; omega), List.append_assoc]
      · simp only [q, Bool.false_eq_true, if_false, Option.bind_some, List.nil_append]
        exact ih w (by omega)
    · have : v = 65 := by omega
      subst this
      rw [bitsF_end]
      simp [Lo.elim]
theorem impl_GetBits_l0_val (a : Int) (r : List Int × Bool) (hb : byB r.1) (hl : r.1.length = 8) : ∀ (fuel v : Nat) (w : List Int), 1 ≤ v → v ≤ 65 → 65 - v < fuel → w.length + (65 - v) ≤ 1000 →
    impl_GetBits_l0 a r fuel (v : Int) w = some (w ++ bitsF r.1 v)
  | 0, v, w, _, _, hf, _ => by omega
  | fuel + 1, v, w, h1, h2, hf, hw => by
    unfold impl_GetBits_l0 impl_GetBits_c3
    by_cases hv : v ≤ 64
    · obtain ⟨e1, e2, e3, e4, e5⟩ := bits_arith h1 hv
      have hi' : i64 ((v : Int) + 1) = ((v + 1 : Nat) : Int) := by rw [i64_of (by omega) (by omega)]; omega
      have hq : (v - 1) / 8 < r.1.length := by omega
      have hg : r.1[(v - 1) / 8]? = some r.1[(v - 1) / 8] := List.getElem?_eq_getElem hq
      have hx := hb _ (List.getElem_mem hq)
      have hgd : r.1.getD ((v - 1) / 8) 0 = r.1[(v - 1) / 8] := by rw [List.getD_eq_getElem?_getD, hg]; rfl
      have hbit : bitB r.1 v = (r.1[(v - 1) / 8] / 2 ^ (7 - (v - 1) % 8) % 2 == 1) := by unfold bitB; rw [hgd]
      rw [bitsF_step _ v hv, hbit]
      unfold impl_GetBits_c4
      generalize r.1[(v - 1) / 8] = x at *
      obtain ⟨_, k1⟩ := bit_byte x hx ((v - 1) % 8) (by omega)
      have ih := fun w' hw' => impl_GetBits_l0_val a r hb hl fuel (v + 1) w' (by omega) (by omega) (by omega) hw'
      simp only [show (v : Int) ≤ 64 by omega, decide_true, if_true, Option.bind_some, Lo.elim, e1, e2, e3, e4, k1, Int.toNat_natCast, hg, Int.natCast_nonneg, show ¬ (((v - 1) % 8 : Nat) : Int) < 0 by omega, not_false_eq_true, hi']
      rcases tf (x / 2 ^ (7 - (v - 1) % 8) % 2 == 1) with q | q
      · simp only [q, if_true, capOk_of (show w.length + 1 ≤ 274877906944 by omega), Option.bind_some]
        rw [ih (w ++ [(v : Int)]) (by simp; omega), List.append_assoc]
      · simp only [q, Bool.false_eq_true, if_false, Option.bind_some, List.nil_append]
        exact ih w (by omega)
    · have : v = 65 := by omega
      subst this
      rw [bitsF_end]
      simp [Lo.elim]
/-- A bit map read. -/
def bitG (b : List Int) (a : Int) : Option (List Int × Int) := (sect b a 8).map fun l => (bitsL l, a + 8)
def bitR : Option (List Int × Int) → List Int × Int × Bool
  | some y => (y.1, y.2, true)
  | none => ([], 0, false)
theorem GetBits_s (b : List Int) (hb : byB b) (hl : b.length ≤ 4000000) (a : Int) : spec_GetBits b a = some (bitR (bitG b a)) := by
  unfold spec_GetBits spec_GetBits_c0 bitG
  have e1 : i64 ((b.length : Int) - 8) = (b.length : Int) - 8 := i64_of (by omega) (by omega)
  cases hs : sect b a 8 with
  | none =>
    have hn : ¬ (0 ≤ a ∧ a + 8 ≤ (b.length : Int)) := fun hc => by
      unfold sect at hs
      rw [if_pos (by simp only [Bool.and_eq_true, decide_eq_true_eq]; omega)] at hs
      cases hs
    simp only [Lo.elim, Option.map_none, bitR, e1]
    by_cases h1 : a < 0
    · simp [h1]
    · simp [h1, show (b.length : Int) - 8 < a by omega]
  | some l =>
    obtain ⟨g1, g2, g3, g4, g5⟩ := sect_some hs
    obtain ⟨u, rfl⟩ : ∃ u : Nat, a = (u : Int) := ⟨a.toNat, by omega⟩
    have hg4 : l = (b.drop u).take 8 := by rw [g4]; rfl
    have L1 := spec_GetBits_l0_val b hb hl u (by omega) FUEL 1 [] (by omega) (by omega) (by unfold FUEL; omega) (by simp)
    rw [← hg4] at L1
    have L1 : spec_GetBits_l0 b (u : Int) FUEL 1 [] = some (bitsL l) := L1
    have e2 : i64 ((u : Int) + 8) = (u : Int) + 8 := i64_of (by omega) (by omega)
    simp only [Option.bind_some, Lo.elim, Option.map_some, bitR, e1, L1, e2, show ¬ (u : Int) < 0 by omega, show ¬ (b.length : Int) - 8 < (u : Int) by omega, decide_false, Bool.false_eq_true, if_false]
theorem GetBits_i (b : List Int) (hb : byB b) (hl : b.length ≤ 4000000) (a : Int) : impl_GetBits b a = some (bitR (bitG b a)) := by
  unfold impl_GetBits impl_GetBits_c0 bitG
  rw [piece_val b a 8 hl]
  cases hs : sect b a 8 with
  | none => simp only [Option.bind_some, Bool.false_eq_true, if_false, Lo.elim, Option.map_none, bitR]
  | some l =>
    obtain ⟨g1, g2, g3, g4, g5⟩ := sect_some hs
    obtain ⟨u, rfl⟩ : ∃ u : Nat, a = (u : Int) := ⟨a.toNat, by omega⟩
    have hl8 : l.length = 8 := by omega
    have hg4 : l = (b.drop u).take 8 := by rw [g4]; rfl
    have hby : byB l := by rw [hg4]; exact byB_take (byB_drop hb _) _
    have L2 := impl_GetBits_l0_val (u : Int) (l, true) hby hl8 FUEL 1 [] (by omega) (by omega) (by unfold FUEL; omega) (by simp)
    have L2 : impl_GetBits_l0 (u : Int) (l, true) FUEL 1 [] = some (bitsL l) := L2
    have e2 : i64 ((u : Int) + 8) = (u : Int) + 8 := i64_of (by omega) (by omega)
    simp only [Option.bind_some, if_true, Lo.elim, Option.map_some, bitR, L2, e2]
theorem bitsL_mem {l : List Int} {x : Int} (h : x ∈ bitsL l) : 1 ≤ x ∧ x ≤ 64 := by
  unfold bitsL bitsF at h
  rw [List.mem_map] at h
  obtain ⟨k, hk, rfl⟩ := h
  have := List.mem_range'.1 (List.mem_filter.1 hk).1
  omega
theorem bitG_some {b : List Int} {a : Int} {y : List Int × Int} (h : bitG b a = some y) : (∀ x ∈ y.1, 1 ≤ x ∧ x ≤ 64) ∧ y.1.length ≤ 64 ∧ 0 ≤ a ∧ y.2 = a + 8 ∧ y.2 ≤ b.length := by
  unfold bitG at h
  rw [Option.map_eq_some_iff] at h
  obtain ⟨l, hl, rfl⟩ := h
  obtain ⟨g1, g2, g3, g4, g5⟩ := sect_some hl
  exact ⟨fun x hx => bitsL_mem hx, bitsF_len l 1, g1, rfl, g3⟩
def known (k : Int) : Bool := !(fkind k == 0)
/-- The numbers of the fields that a message names, and where they begin. -/
def nosG (b : List Int) (a : Int) : Option (List Int × Int) :=
  match bitG b a with
  | none => none
  | some y =>
    if (y.1.any fun x => x == 1) = true then
      match bitG b y.2 with
      | none => none
      | some z => if ((z.1.length : Int) == 0) = true then none else
        if ((y.1.filter fun x => !(x == 1)) ++ z.1.map fun x => x + 64).all known = true then some ((y.1.filter fun x => !(x == 1)) ++ z.1.map (fun x => x + 64), z.2) else none
    else if (y.1.filter fun x => !(x == 1)).all known = true then some (y.1.filter (fun x => !(x == 1)), y.2) else none
theorem l04Nos_l0_val (o : List Int) (r : List Int × Int × Bool) (hl : r.1.length ≤ 64) : ∀ (fuel v : Nat) (m : Bool) (w : List Int), v ≤ r.1.length → r.1.length - v < fuel → w.length + (r.1.length - v) ≤ 1000 →
    spec_l04Nos_l0 o r fuel (v : Int) m w = some ((m || (r.1.drop v).any fun x => x == 1), w ++ (r.1.drop v).filter fun x => !(x == 1))
  | 0, v, m, w, _, hf, _ => by omega
  | fuel + 1, v, m, w, h, hf, hw => by
    unfold spec_l04Nos_l0 spec_l04Nos_c3 spec_l04Nos_c4
    by_cases hv : v < r.1.length
    · have hg : r.1[((v : Int)).toNat]? = some r.1[v] := by rw [Int.toNat_natCast]; exact List.getElem?_eq_getElem hv
      have hi' : i64 ((v : Int) + 1) = ((v + 1 : Nat) : Int) := by rw [i64_of (by omega) (by omega)]; omega
      rw [List.drop_eq_getElem_cons hv, List.any_cons, List.filter_cons]
      generalize r.1[v] = x at *
      simp only [show (v : Int) < (r.1.length : Int) by omega, show (0 : Int) ≤ (v : Int) by omega, decide_true, if_true, Option.bind_some, Lo.elim, hg, hi']
      rcases tf (x == 1) with q | q
      · simp only [q, if_true, Option.bind_some, Bool.true_or, Bool.or_true, Bool.not_true, Bool.false_eq_true, if_false]
        rw [l04Nos_l0_val o r hl fuel (v + 1) true w (by omega) (by omega) (by omega), Bool.true_or]
      · simp only [q, Bool.false_eq_true, if_false, capOk_of (show w.length + 1 ≤ 274877906944 by omega), if_true, Option.bind_some, Bool.false_or, Bool.not_false]
        rw [l04Nos_l0_val o r hl fuel (v + 1) m (w ++ [x]) (by omega) (by omega) (by simp; omega), List.append_assoc]
        rfl
    · have : r.1.drop v = [] := List.drop_eq_nil_of_le (by omega)
      rw [this]
      simp [show ¬ (v : Int) < (r.1.length : Int) by omega, Lo.elim]
theorem l04Nos_l1_val (r : List Int × Int × Bool) (hl : r.1.length ≤ 64) (hm : ∀ x ∈ r.1, 1 ≤ x ∧ x ≤ 64) : ∀ (fuel v : Nat) (w : List Int), v ≤ r.1.length → r.1.length - v < fuel → w.length + (r.1.length - v) ≤ 1000 →
    spec_l04Nos_l1 r fuel (v : Int) w = some (w ++ (r.1.drop v).map fun x => x + 64)
  | 0, v, w, _, hf, _ => by omega
  | fuel + 1, v, w, h, hf, hw => by
    unfold spec_l04Nos_l1 spec_l04Nos_c8
    by_cases hv : v < r.1.length
    · have hg : r.1[((v : Int)).toNat]? = some r.1[v] := by rw [Int.toNat_natCast]; exact List.getElem?_eq_getElem hv
      have hx := hm _ (List.getElem_mem hv)
      have hi' : i64 ((v : Int) + 1) = ((v + 1 : Nat) : Int) := by rw [i64_of (by omega) (by omega)]; omega
      rw [List.drop_eq_getElem_cons hv, List.map_cons]
      generalize r.1[v] = x at *
      have e1 : i64 (x + 64) = x + 64 := i64_of (by omega) (by omega)
      simp only [show (v : Int) < (r.1.length : Int) by omega, show (0 : Int) ≤ (v : Int) by omega, decide_true, if_true, Option.bind_some, Lo.elim, hg, hi', e1, capOk_of (show w.length + 1 ≤ 274877906944 by omega)]
      rw [l04Nos_l1_val r hl hm fuel (v + 1) (w ++ [x + 64]) (by omega) (by omega) (by simp; omega), List.append_assoc]
      rfl
    · have : r.1.drop v = [] := List.drop_eq_nil_of_le (by omega)
      rw [this]
      simp [show ¬ (v : Int) < (r.1.length : Int) by omega, Lo.elim]
theorem l04Nos_l2_val (s : Int × List Int) (hl : s.2.length ≤ 1000) : ∀ (fuel v : Nat), v ≤ s.2.length → s.2.length - v < fuel → spec_l04Nos_l2 s fuel (v : Int) = some (if (s.2.drop v).all known = true then .out () else .ret ())
  | 0, v, _, hf => by omega
  | fuel + 1, v, h, hf => by
    unfold spec_l04Nos_l2 spec_l04Nos_c11 spec_l04Nos_c12
    by_cases hv : v < s.2.length
    · have hg : s.2[((v : Int)).toNat]? = some s.2[v] := by rw [Int.toNat_natCast]; exact List.getElem?_eq_getElem hv
      have hi' : i64 ((v : Int) + 1) = ((v + 1 : Nat) : Int) := by rw [i64_of (by omega) (by omega)]; omega
      rw [List.drop_eq_getElem_cons hv, List.all_cons]
      generalize s.2[v] = x at *
      have ih := l04Nos_l2_val s hl fuel (v + 1) (by omega) (by omega)
      simp only [show (v : Int) < (s.2.length : Int) by omega, show (0 : Int) ≤ (v : Int) by omega, decide_true, if_true, Option.bind_some, Lo.elim, hg, hi', Row_k x, ih]
      unfold known
      rcases tf (fkind x == 0) with q | q <;> simp [q]
    · have : s.2.drop v = [] := List.drop_eq_nil_of_le (by omega)
      rw [this]
      simp [show ¬ (v : Int) < (s.2.length : Int) by omega, Lo.elim]
theorem filter_len {y : List Int} (q : Int → Bool) (h : y.length ≤ 64) : (y.filter q).length ≤ 64 := Nat.le_trans (List.length_filter_le _ _) h
theorem l04Nos_val (b : List Int) (hb : byB b) (hl : b.length ≤ 4000000) : spec_l04Nos b = some (bitR (nosG b 2)) := by
  unfold spec_l04Nos nosG
  rw [GetBits_s b hb hl 2]
  cases hy : bitG b 2 with
  | none =>
    unfold spec_l04Nos_c0
    simp [bitR, Lo.elim]
  | some y =>
    obtain ⟨y1, y2, y3, y4, y5⟩ := bitG_some hy
    unfold spec_l04Nos_c0
    simp only [bitR, if_true, Option.bind_some, Lo.elim]
    have L0 := l04Nos_l0_val b (y.1, y.2, true) y2 FUEL 0 false [] (by omega) (by show y.1.length - 0 < _; unfold FUEL; omega) (by show 0 + (y.1.length - 0) ≤ _; omega)
    have L0 : spec_l04Nos_l0 b (y.1, y.2, true) FUEL 0 false [] = some ((y.1.any fun x => x == 1), y.1.filter fun x => !(x == 1)) := L0
    rw [L0, Option.bind_some]
    have hf := filter_len (fun x => !(x == 1)) y2
    unfold spec_l04Nos_c5
    rcases tf (y.1.any fun x => x == 1) with q | q
    · simp only [q, if_true]
      rw [GetBits_s b hb hl y.2]
      unfold spec_l04Nos_c6
      cases hz : bitG b y.2 with
      | none => simp [bitR, Lo.elim]
      | some z =>
        obtain ⟨z1, z2, z3, z4, z5⟩ := bitG_some hz
        simp only [bitR, if_true, Option.bind_some]
        rcases tf ((z.1.length : Int) == 0) with p | p
        · simp [p, Lo.elim]
        · simp only [p, Bool.false_eq_true, if_false, Option.bind_some, Lo.elim]
          have L1 := l04Nos_l1_val (z.1, z.2, true) z2 z1 FUEL 0 (y.1.filter fun x => !(x == 1)) (by omega) (by show z.1.length - 0 < _; unfold FUEL; omega) (by show _ + (z.1.length - 0) ≤ _; omega)
          have L1 : spec_l04Nos_l1 (z.1, z.2, true) FUEL 0 (y.1.filter fun x => !(x == 1)) = some ((y.1.filter fun x => !(x == 1)) ++ z.1.map fun x => x + 64) := L1
          rw [L1]
          simp only [Option.bind_some]
          generalize hnos : (y.1.filter fun x => !(x == 1)) ++ z.1.map (fun x => x + 64) = nos
          have hnl : nos.length ≤ 128 := by rw [← hnos, List.length_append, List.length_map]; omega
          have L2 := l04Nos_l2_val (z.2, nos) (by show nos.length ≤ 1000; omega) FUEL 0 (by omega) (by show nos.length - 0 < _; unfold FUEL; omega)
          have L2 : spec_l04Nos_l2 (z.2, nos) FUEL 0 = some (if nos.all known = true then .out () else .ret ()) := L2
          rw [L2]
          rcases tf (nos.all known) with g | g <;> simp [g]
    · simp only [q, Bool.false_eq_true, if_false, Option.bind_some, Lo.elim]
      generalize hnos : (y.1.filter fun x => !(x == 1)) = nos at *
      have L2 := l04Nos_l2_val (y.2, nos) (by show nos.length ≤ 1000; omega) FUEL 0 (by omega) (by show nos.length - 0 < _; unfold FUEL; omega)
      have L2 : spec_l04Nos_l2 (y.2, nos) FUEL 0 = some (if nos.all known = true then .out () else .ret ()) := L2
      rw [L2]
      rcases tf (nos.all known) with g | g <;> simp [g]
theorem FieldKind_val (no : Int) : impl_FieldKind no = some (fkind no) ∧ impl_FieldSize no = some (fsize no) := by
  obtain ⟨r, r1, rk, rs⟩ := Row_i no
  unfold impl_FieldKind impl_FieldSize
  rw [r1, Option.bind_some, Option.bind_some, rk, rs]
  exact ⟨rfl, rfl⟩
def lowOk (l : List Int) : Bool := l.all fun x => (x == 1) || known x
theorem Parse_l0_val (o : List Int) (r1 : ByteArray × Int × Bool) (r : List Int × Int × Bool) (hl : r.1.length ≤ 64) : ∀ (fuel v : Nat) (m : Bool) (w : List Int), v ≤ r.1.length → r.1.length - v < fuel → w.length + (r.1.length - v) ≤ 1000 →
    impl_Parse_l0 o r1 r fuel (v : Int) m w = some (if lowOk (r.1.drop v) = true then .out ((m || (r.1.drop v).any fun x => x == 1), w ++ (r.1.drop v).filter fun x => !(x == 1)) else .ret ())
  | 0, v, m, w, _, hf, _ => by omega
  | fuel + 1, v, m, w, h, hf, hw => by
    unfold impl_Parse_l0 impl_Parse_c4 impl_Parse_c5
    by_cases hv : v < r.1.length
    · have hg : r.1[((v : Int)).toNat]? = some r.1[v] := by rw [Int.toNat_natCast]; exact List.getElem?_eq_getElem hv
      have hi' : i64 ((v : Int) + 1) = ((v + 1 : Nat) : Int) := by rw [i64_of (by omega) (by omega)]; omega
      rw [List.drop_eq_getElem_cons hv, List.any_cons, List.filter_cons]
      generalize r.1[v] = x at *
      simp only [show (v : Int) < (r.1.length : Int) by omega, show (0 : Int) ≤ (v : Int) by omega, decide_true, if_true, Option.bind_some, Lo.elim, hg, hi', (FieldKind_val x).1]
      rcases tf (x == 1) with q | q
      · have hk : lowOk (x :: r.1.drop (v + 1)) = lowOk (r.1.drop (v + 1)) := by unfold lowOk; rw [List.all_cons, q, Bool.true_or, Bool.true_and]
        simp only [q, if_true, Option.bind_some, Bool.true_or, Bool.or_true, Bool.not_true, Bool.false_eq_true, if_false, hk]
        rw [Parse_l0_val o r1 r hl fuel (v + 1) true w (by omega) (by omega) (by omega), Bool.true_or]
      · rcases tf (fkind x == 0) with p | p
        · have hk : lowOk (x :: r.1.drop (v + 1)) = false := by unfold lowOk known; rw [List.all_cons, q, p]; rfl
          simp only [q, p, hk, if_true, Bool.false_eq_true, if_false, Option.bind_some]
        · have hk : lowOk (x :: r.1.drop (v + 1)) = lowOk (r.1.drop (v + 1)) := by unfold lowOk known; rw [List.all_cons, q, p]; simp
          simp only [q, p, hk, Bool.false_eq_true, if_false, capOk_of (show w.length + 1 ≤ 274877906944 by omega), if_true, Option.bind_some, Bool.false_or, Bool.not_false]
          rw [Parse_l0_val o r1 r hl fuel (v + 1) m (w ++ [x]) (by omega) (by omega) (by simp; omega), List.append_assoc]
          rfl
    · have : r.1.drop v = [] := List.drop_eq_nil_of_le (by omega)
      rw [this]
      simp [show ¬ (v : Int) < (r.1.length : Int) by omega, Lo.elim, lowOk]
theorem Parse_l1_val (o : List Int) (r1 : ByteArray × Int × Bool) (r : List Int × Int × Bool) (hl : r.1.length ≤ 64) (hm : ∀ x ∈ r.1, 1 ≤ x ∧ x ≤ 64) : ∀ (fuel v : Nat) (w : List Int), v ≤ r.1.length → r.1.length - v < fuel → w.length + (r.1.length - v) ≤ 1000 →
    impl_Parse_l1 o r1 r fuel (v : Int) w = some (if ((r.1.drop v).map fun x => x + 64).all known = true then .out (w ++ (r.1.drop v).map fun x => x + 64) else .ret ())
  | 0, v, w, _, hf, _ => by omega
  | fuel + 1, v, w, h, hf, hw => by
    unfold impl_Parse_l1 impl_Parse_c11 impl_Parse_c12 impl_Parse_c13
    by_cases hv : v < r.1.length
    · have hg : r.1[((v : Int)).toNat]? = some r.1[v] := by rw [Int.toNat_natCast]; exact List.getElem?_eq_getElem hv
      have hx := hm _ (List.getElem_mem hv)
      have hi' : i64 ((v : Int) + 1) = ((v + 1 : Nat) : Int) := by rw [i64_of (by omega) (by omega)]; omega
      rw [List.drop_eq_getElem_cons hv, List.map_cons, List.all_cons]
      generalize r.1[v] = x at *
      have e1 : i64 (x + 64) = x + 64 := i64_of (by omega) (by omega)
      simp only [show (v : Int) < (r.1.length : Int) by omega, show (0 : Int) ≤ (v : Int) by omega, decide_true, if_true, Option.bind_some, Lo.elim, hg, hi', e1, (FieldKind_val (x + 64)).1]
      rcases tf (fkind (x + 64) == 0) with p | p
      · have hk : known (x + 64) = false := by unfold known; rw [p]; rfl
        simp only [p, hk, if_true, Option.bind_some, Bool.false_and, Bool.false_eq_true, if_false]
      · have hk : known (x + 64) = true := by unfold known; rw [p]; rfl
        simp only [p, hk, Bool.false_eq_true, if_false, Option.bind_some, capOk_of (show w.length + 1 ≤ 274877906944 by omega), if_true, Bool.true_and]
        rw [Parse_l1_val o r1 r hl hm fuel (v + 1) (w ++ [x + 64]) (by omega) (by omega) (by simp; omega), List.append_assoc]
        rfl
    · have : r.1.drop v = [] := List.drop_eq_nil_of_le (by omega)
      rw [this]
      simp [show ¬ (v : Int) < (r.1.length : Int) by omega, Lo.elim]
theorem lowOk_eq (l : List Int) : lowOk l = (l.filter fun x => !(x == 1)).all known := by
  induction l with
  | nil => rfl
  | cons x t ih =>
    unfold lowOk at ih ⊢
    rw [List.all_cons, List.filter_cons, ih]
    rcases tf (x == 1) with q | q <;> simp [q]
theorem Parse_c6_val (b : List Int) (hb : byB b) (hl : b.length ≤ 4000000) (r1 : ByteArray × Int × Bool) (a : Int) (y : List Int × Int) (hy : bitG b a = some y) (hk : (y.1.filter fun x => !(x == 1)).all known = true) :
    impl_Parse_c6 b r1 (y.1, y.2, true) ((y.1.any fun x => x == 1), y.1.filter fun x => !(x == 1)) = some (match nosG b a with | none => .ret () | some z => .out (z.2, z.1)) := by
  obtain ⟨y1, y2, y3, y4, y5⟩ := bitG_some hy
  have hf := filter_len (fun x => !(x == 1)) y2
  unfold impl_Parse_c6 nosG
  rw [hy]
  simp only [hk]
  rcases tf (y.1.any fun x => x == 1) with q | q
  · simp only [q, if_true]
    rw [GetBits_i b hb hl y.2]
    unfold impl_Parse_c7
    cases hz : bitG b y.2 with
    | none => simp [bitR, Lo.elim]
    | some z =>
      obtain ⟨z1, z2, z3, z4, z5⟩ := bitG_some hz
      simp only [bitR, if_true, Option.bind_some]
      rcases tf ((z.1.length : Int) == 0) with p | p
      · simp [p, Lo.elim]
      · simp only [p, Bool.false_eq_true, if_false, Option.bind_some, Lo.elim]
        have L1 := Parse_l1_val b r1 (z.1, z.2, true) z2 z1 FUEL 0 (y.1.filter fun x => !(x == 1)) (by omega) (by show z.1.length - 0 < _; unfold FUEL; omega) (by show _ + (z.1.length - 0) ≤ _; omega)
        have L1 : impl_Parse_l1 b r1 (z.1, z.2, true) FUEL 0 (y.1.filter fun x => !(x == 1)) = some (if (z.1.map fun x => x + 64).all known = true then .out ((y.1.filter fun x => !(x == 1)) ++ z.1.map fun x => x + 64) else .ret ()) := L1
        rw [L1, List.all_append, hk, Bool.true_and]
        simp only [Option.bind_some]
        rcases tf ((z.1.map fun x => x + 64).all known) with g | g <;> simp only [g, if_true, Bool.false_eq_true, if_false]
  · simp only [q, Bool.false_eq_true, if_false, if_true]
theorem nosG_none {b : List Int} {a : Int} {y : List Int × Int} (hy : bitG b a = some y) (hk : (y.1.filter fun x => !(x == 1)).all known = false) : nosG b a = none := by
  unfold nosG
  rw [hy]
  simp only [hk, Bool.false_eq_true, if_false]
  rcases tf (y.1.any fun x => x == 1) with q | q
  · simp only [q, if_true]
    cases bitG b y.2 with
    | none => rfl
    | some z => simp only [List.all_append, hk, Bool.false_and, Bool.false_eq_true, if_false, ite_self]
  · simp only [q, Bool.false_eq_true, if_false]
theorem nosG_some {b : List Int} {a : Int} {z : List Int × Int} (h : nosG b a = some z) : z.1.length ≤ 128 ∧ 0 ≤ z.2 ∧ z.2 ≤ b.length := by
  unfold nosG at h
  cases hy : bitG b a with
  | none => rw [hy] at h; cases h
  | some y =>
    rw [hy] at h
    obtain ⟨y1, y2, y3, y4, y5⟩ := bitG_some hy
    have hf := filter_len (fun x => !(x == 1)) y2
    simp only at h
    split at h
    · cases hw : bitG b y.2 with
      | none => rw [hw] at h; cases h
      | some w =>
        rw [hw] at h
        obtain ⟨w1, w2, w3, w4, w5⟩ := bitG_some hw
        simp only at h
        split at h
        · cases h
        · split at h
          · obtain rfl := Option.some.inj h
            refine ⟨?_, by show 0 ≤ w.2; omega, w5⟩
            show (_ ++ _ : List Int).length ≤ 128
            rw [List.length_append, List.length_map]; omega
          · cases h
    · split at h
      · obtain rfl := Option.some.inj h
        exact ⟨by show (y.1.filter _).length ≤ 128; omega, by show 0 ≤ y.2; omega, y5⟩
      · cases h
/-- A field read. -/
def txtG (b : List Int) (h : Int × Int) : Option (ByteArray × Int) := match sect b h.1 h.2 with
  | none => none
  | some l => if l.all prtI = true then some (bstr l, h.1 + h.2) else none
def fwid (no : Int) : Int := if (fkind no == 5) = true then 3 else 2
def varB (no : Int) : Bool := (fkind no == 3) || (fkind no == 4) || (fkind no == 5)
/-- Where a field's text begins, and how long it is. -/
def headG (b : List Int) (a no : Int) : Option (Int × Int) :=
  if varB no = true then
    match lenG b a (fwid no) with
    | none => none
    | some y => if (decide (1 ≤ y.1) && decide (y.1 ≤ fsize no)) = true then some (y.2, y.1) else none
  else some (a, fsize no)
def fldG (b : List Int) (a no : Int) : Option (ByteArray × Int) :=
  if (fkind no == 0) = true then none else
  match headG b a no with
  | none => none
  | some h => if ((fkind no == 1) || (fkind no == 3)) = true then bcdG b h.1 h.2 else txtG b h
theorem sect_neg {b : List Int} {a n : Int} (h : a < 0) : sect b a n = none := by
  unfold sect
  rw [if_neg (by simp only [Bool.and_eq_true, decide_eq_true_eq]; omega)]
theorem bcdG_neg {b : List Int} {a n : Int} (h : a < 0) : bcdG b a n = none := by
  unfold bcdG
  rw [sect_neg h]
  split <;> rfl
theorem spec_txt (b : List Int) (hb : byB b) (hl : b.length ≤ 4000000) (s : Int × Int) (h0 : 0 ≤ s.1) (h1 : 0 ≤ s.2) (h2 : s.2 ≤ 1000) :
    ((spec_GetField_c4 b s).bind fun r14 => Lo.elim r14 (fun s9 => if (decide (0 ≤ s.1)) = true then if (decide (s.1 ≤ (i64 (s.1 + s.2)))) = true then if (decide ((i64 (s.1 + s.2)) ≤ (b.length : Int))) = true then
      some (bstr ((b.take ((i64 (s.1 + s.2)).toNat)).drop s.1.toNat), i64 (s.1 + s.2), true) else none else none else none) (fun s10 => some (bs [], 0, false))) = some (bcdR (txtG b s)) := by
  unfold spec_GetField_c4 txtG
  by_cases g1 : s.1 ≤ (b.length : Int)
  · have e1 : i64 ((b.length : Int) - s.1) = (b.length : Int) - s.1 := i64_of (by omega) (by omega)
    have e2 : i64 (s.1 + s.2) = s.1 + s.2 := i64_of (by omega) (by omega)
    by_cases g2 : s.2 ≤ (b.length : Int) - s.1
    · have hs : sect b s.1 s.2 = some ((b.drop s.1.toNat).take s.2.toNat) := by unfold sect; rw [if_pos (by simp only [Bool.and_eq_true, decide_eq_true_eq]; omega)]
      have hby : byB ((b.drop s.1.toNat).take s.2.toNat) := byB_take (byB_drop hb _) _
      obtain ⟨p1, _⟩ := Printable_eq (bstr ((b.drop s.1.toNat).take s.2.toNat)) (by rw [bstr_size, List.length_take, List.length_drop]; omega)
      rw [prtB_bstr hby] at p1
      simp only [hs, e1, e2, h0, show ¬ (b.length : Int) < s.1 by omega, show ¬ (b.length : Int) - s.1 < s.2 by omega, show s.1 ≤ s.1 + s.2 by omega, show s.1 + s.2 ≤ (b.length : Int) by omega, take_drop_sect b h0 h1, p1, decide_true, decide_false, Bool.false_eq_true, if_false, if_true, Option.bind_some]
      rcases tf (((b.drop s.1.toNat).take s.2.toNat).all prtI) with q | q <;> simp only [q, if_true, Bool.false_eq_true, if_false, Option.bind_some, Lo.elim, bcdR]
    · have hs : sect b s.1 s.2 = none := by unfold sect; rw [if_neg (by simp only [Bool.and_eq_true, decide_eq_true_eq]; omega)]
      simp only [hs, e1, show ¬ (b.length : Int) < s.1 by omega, show (b.length : Int) - s.1 < s.2 by omega, decide_true, decide_false, Bool.false_eq_true, if_false, if_true, Option.bind_some, Lo.elim, bcdR]
  · have hs : sect b s.1 s.2 = none := by unfold sect; rw [if_neg (by simp only [Bool.and_eq_true, decide_eq_true_eq]; omega)]
    simp only [hs, show (b.length : Int) < s.1 by omega, decide_true, if_true, Option.bind_some, Lo.elim, bcdR]
theorem kinds (no : Int) : fkind no = 0 ∨ fkind no = 1 ∨ fkind no = 2 ∨ fkind no = 3 ∨ fkind no = 4 ∨ fkind no = 5 := by
  have h := Row_b no
  omega
theorem spec_GetField_val (b : List Int) (hb : byB b) (hl : b.length ≤ 4000000) (a no : Int) : spec_GetField b a no = some (bcdR (fldG b a no)) := by
  have k1 := Row_k no
  have s1 := Row_s no
  have hks := Row_b no
  have hn : 0 ≤ fsize no ∧ fsize no ≤ 60 := by omega
  unfold spec_GetField fldG headG varB fwid
  rw [k1, s1]
  simp only [Option.bind_some]
  unfold spec_GetField_c0 spec_GetField_c1 spec_GetField_c3
  by_cases ha : a < 0
  · have hr : ∀ x : Option (Int × Int), x = none ∨ x = some (a, fsize no) → (match x with | none => none | some h => if ((fkind no == 1) || (fkind no == 3)) = true then bcdG b h.1 h.2 else txtG b h) = none := fun x hx => by
      rcases hx with rfl | rfl
      · rfl
      · simp only [bcdG_neg ha, txtG, sect_neg ha, ite_self]
    have hl : ∀ d, lenG b a d = none := fun d => by unfold lenG; rw [bcdG_neg ha]; rfl
    rw [hr _ (by
      split
      · rw [hl]; exact .inl rfl
      · exact .inr rfl)]
    rcases tf (fkind no == 0) with q | q <;> simp [q, ha, Lo.elim, bcdR]
  · have T := fun s h0 h1 h2 => spec_txt b hb hl s h0 h1 h2
    rcases kinds no with h | h | h | h | h | h
    · rw [h]
      simp [Lo.elim, bcdR]
    · rw [h]
      have w0 : spec_l03Width 1 = some 0 := rfl
      simp only [w0, Option.bind_some, show ((1 : Int) == 0) = false from rfl, show ((1 : Int) == 1) = true from rfl, show ((1 : Int) == 3) = false from rfl, show ((1 : Int) == 4) = false from rfl, show ((1 : Int) == 5) = false from rfl, ha, decide_false, Bool.false_eq_true, if_false, if_true, Lo.elim, show ¬ (0 : Int) < 0 by omega, Bool.or_self, Bool.or_false, spec_GetBcd_val b hb hl a (fsize no)]
    · rw [h]
      have w0 : spec_l03Width 2 = some 0 := rfl
      have t := T (a, fsize no) (by show 0 ≤ a; omega) hn.1 (by show fsize no ≤ 1000; omega)
      simp only [w0, Option.bind_some, show ((2 : Int) == 0) = false from rfl, show ((2 : Int) == 1) = false from rfl, show ((2 : Int) == 3) = false from rfl, show ((2 : Int) == 4) = false from rfl, show ((2 : Int) == 5) = false from rfl, ha, decide_false, Bool.false_eq_true, if_false, if_true, Lo.elim, show ¬ (0 : Int) < 0 by omega, Bool.or_self, Bool.or_false]
      exact t
    · rw [h]
      have w0 : spec_l03Width 3 = some 2 := rfl
      simp only [w0, Option.bind_some, show ((3 : Int) == 0) = false from rfl, show ((3 : Int) == 1) = false from rfl, show ((3 : Int) == 3) = true from rfl, show ((3 : Int) == 4) = false from rfl, show ((3 : Int) == 5) = false from rfl, ha, decide_false, decide_true, Bool.false_eq_true, if_false, if_true, show (0 : Int) < 2 by omega, Bool.true_or, Bool.or_true, GetLen_s b hb hl a 2 (.inl rfl)]
      unfold spec_GetField_c2
      cases hy : lenG b a 2 with
      | none => simp [lenR, Lo.elim, bcdR]
      | some y =>
        simp only [lenR, if_true, l01In_val, Option.bind_some]
        rcases tf (decide (1 ≤ y.1) && decide (y.1 ≤ fsize no)) with q | q
        · simp only [q, if_true, Option.bind_some, Lo.elim, spec_GetBcd_val b hb hl y.2 y.1]
        · simp only [q, Bool.false_eq_true, if_false, Option.bind_some, Lo.elim, bcdR]
    · rw [h]
      have w0 : spec_l03Width 4 = some 2 := rfl
      simp only [w0, Option.bind_some, show ((4 : Int) == 0) = false from rfl, show ((4 : Int) == 1) = false from rfl, show ((4 : Int) == 3) = false from rfl, show ((4 : Int) == 4) = true from rfl, show ((4 : Int) == 5) = false from rfl, ha, decide_false, decide_true, Bool.false_eq_true, if_false, if_true, show (0 : Int) < 2 by omega, Bool.true_or, Bool.or_true, GetLen_s b hb hl a 2 (.inl rfl)]
      unfold spec_GetField_c2
      cases hy : lenG b a 2 with
      | none => simp [lenR, Lo.elim, bcdR]
      | some y =>
        obtain ⟨y1, y2, y3, y4, y5⟩ := lenG_some hb (.inl rfl) hy
        have t := T (y.2, y.1) (by show 0 ≤ y.2; omega) y1 (by show y.1 ≤ 1000; omega)
        simp only [lenR, if_true, l01In_val, Option.bind_some]
        rcases tf (decide (1 ≤ y.1) && decide (y.1 ≤ fsize no)) with q | q
        · simp only [q, if_true, Option.bind_some, Lo.elim, Bool.or_self, Bool.false_eq_true, if_false]
          exact t
        · simp only [q, Bool.false_eq_true, if_false, Option.bind_some, Lo.elim, bcdR]
    · rw [h]
      have w0 : spec_l03Width 5 = some 3 := rfl
      simp only [w0, Option.bind_some, show ((5 : Int) == 0) = false from rfl, show ((5 : Int) == 1) = false from rfl, show ((5 : Int) == 3) = false from rfl, show ((5 : Int) == 4) = false from rfl, show ((5 : Int) == 5) = true from rfl, ha, decide_false, decide_true, Bool.false_eq_true, if_false, if_true, show (0 : Int) < 3 by omega, Bool.true_or, Bool.or_true, GetLen_s b hb hl a 3 (.inr rfl)]
      unfold spec_GetField_c2
      cases hy : lenG b a 3 with
      | none => simp [lenR, Lo.elim, bcdR]
      | some y =>
        obtain ⟨y1, y2, y3, y4, y5⟩ := lenG_some hb (.inr rfl) hy
        have t := T (y.2, y.1) (by show 0 ≤ y.2; omega) y1 (by show y.1 ≤ 1000; omega)
        simp only [lenR, if_true, l01In_val, Option.bind_some]
        rcases tf (decide (1 ≤ y.1) && decide (y.1 ≤ fsize no)) with q | q
        · simp only [q, if_true, Option.bind_some, Lo.elim, Bool.or_self, Bool.false_eq_true, if_false]
          exact t
        · simp only [q, Bool.false_eq_true, if_false, Option.bind_some, Lo.elim, bcdR]
theorem impl_txt (b : List Int) (hb : byB b) (hl : b.length ≤ 4000000) (no : Int) (s : Int × Int) (hk : (fkind no == 1) = false) (hk3 : (fkind no == 3) = false) :
    ((impl_piece b s.1 s.2).bind fun r13 => (impl_GetField_c3 no (i64 (s.1 + s.2), bstr r13.1, r13.2)).bind fun r16 => Lo.elim r16 (fun s3 => some (bstr r13.1, i64 (s.1 + s.2), true)) (fun s4 => some (bs [], 0, false)))
      = some (bcdR (match sect b s.1 s.2 with | none => none | some l => if fok no (bstr l) = true then some (bstr l, s.1 + s.2) else none)) := by
  rw [piece_val b s.1 s.2 hl]
  unfold impl_GetField_c3
  cases hs : sect b s.1 s.2 with
  | none => simp [Lo.elim, bcdR]
  | some l =>
    obtain ⟨g1, g2, g3, g4, g5⟩ := sect_some hs
    have f2 := FieldOk_i no (bstr l) (by rw [bstr_size]; omega)
    have e : i64 (s.1 + s.2) = s.1 + s.2 := i64_of (by omega) (by omega)
    simp only [if_true, Option.bind_some, f2, e]
    rcases tf (fok no (bstr l)) with q | q <;> simp only [q, if_true, Bool.false_eq_true, if_false, Option.bind_some, Lo.elim, bcdR]
theorem fok_txt {no : Int} {l : List Int} (hb : byB l) : (fkind no = 0 → fok no (bstr l) = false) ∧ (fkind no = 2 → fok no (bstr l) = (l.all prtI && ((l.length : Int) == fsize no))) ∧
    (fkind no = 4 ∨ fkind no = 5 → fok no (bstr l) = (l.all prtI && (decide (1 ≤ (l.length : Int)) && decide ((l.length : Int) ≤ fsize no)))) := by
  unfold fok
  rw [prtB_bstr hb, bstr_size]
  refine ⟨fun h => by rw [h]; rfl, fun h => by rw [h]; rfl, fun h => ?_⟩
  rcases h with h | h <;> rw [h] <;> rfl
theorem impl_GetField_val (b : List Int) (hb : byB b) (hl : b.length ≤ 4000000) (a no : Int) : impl_GetField b a no = some (bcdR (fldG b a no)) := by
  obtain ⟨k1, s1⟩ := FieldKind_val no
  have hks := Row_b no
  have hn : 0 ≤ fsize no ∧ fsize no ≤ 60 := by omega
  have hlen : impl_lenDigits no = some (fwid no) := by
    unfold impl_lenDigits fwid
    rw [k1, Option.bind_some]
    rcases tf (fkind no == 5) with q | q <;> simp [q]
  have hbcd : ∀ s : Int × Int, (fkind no = 1 ∧ s.2 = fsize no ∨ fkind no = 3) → ((impl_GetBcd b s.1 s.2).bind fun r11 => (impl_GetField_c3 no (r11.2.1, r11.1, r11.2.2)).bind fun r16 => Lo.elim r16 (fun s3 => some (r11.1, r11.2.1, true)) (fun s4 => some (bs [], 0, false)))
      = some (bcdR (if (fkind no == 1) = true then bcdG b s.1 s.2 else if (decide (1 ≤ s.2) && decide (s.2 ≤ fsize no)) = true then bcdG b s.1 s.2 else none)) := fun s hk => by
    rw [impl_GetBcd_val b hb hl s.1 s.2]
    unfold impl_GetField_c3
    cases hq : bcdG b s.1 s.2 with
    | none => simp [bcdR, Lo.elim]
    | some y =>
      obtain ⟨g1, g2, g3, g4, g5, g6, g7⟩ := bcdG_some hb hq
      have f2 := FieldOk_i no y.1 (by omega)
      simp only [bcdR, if_true, Option.bind_some, f2]
      unfold fok
      rcases hk with ⟨h, hs⟩ | h
      · rw [h]
        simp [g1, g2, hs, Lo.elim]
      · rw [h]
        by_cases hc : s.2 ≤ fsize no
        · simp [g1, g2, g3, hc, Lo.elim]
        · simp [g1, g2, g3, hc, Lo.elim]
  unfold impl_GetField
  rw [s1, k1]
  simp only [Option.bind_some]
  unfold impl_GetField_c0 impl_GetField_c1 impl_GetField_c2 fldG headG varB
  rw [hlen]
  simp only [Option.bind_some]
  have hby : ∀ {x n : Int} {l : List Int}, sect b x n = some l → byB l := fun h => by rw [(sect_some h).2.2.2.1]; exact byB_take (byB_drop hb _) _
  have hlb : ∀ {x n : Int} {l : List Int}, sect b x n = some l → (l.length : Int) = n := fun h => (sect_some h).2.2.2.2
  rcases kinds no with h | h | h | h | h | h
  · have t := impl_txt b hb hl no (a, fsize no) (by rw [h]; rfl) (by rw [h]; rfl)
    rw [h]
    simp only [show ((0 : Int) == 0) = true from rfl, show ((0 : Int) == 1) = false from rfl, show ((0 : Int) == 3) = false from rfl, show ((0 : Int) == 4) = false from rfl, show ((0 : Int) == 5) = false from rfl, Bool.false_eq_true, if_false, if_true, Lo.elim, Option.bind_some, Option.bind_assoc]
    refine t.trans ?_
    cases hs : sect b a (fsize no) with
    | none => simp only [hs]
    | some l => simp only [hs, (fok_txt (hby hs)).1 h, Bool.false_eq_true, if_false]
  · have t := hbcd (a, fsize no) (.inl ⟨h, rfl⟩)
    rw [h] at t ⊢
    simp only [show ((1 : Int) == 0) = false from rfl, show ((1 : Int) == 1) = true from rfl, show ((1 : Int) == 3) = false from rfl, show ((1 : Int) == 4) = false from rfl, show ((1 : Int) == 5) = false from rfl, Bool.false_eq_true, if_false, if_true, Lo.elim, Option.bind_some, Option.bind_assoc, Bool.or_self, Bool.true_or] at t ⊢
    exact t
  · have t := impl_txt b hb hl no (a, fsize no) (by rw [h]; rfl) (by rw [h]; rfl)
    rw [h]
    simp only [show ((2 : Int) == 0) = false from rfl, show ((2 : Int) == 1) = false from rfl, show ((2 : Int) == 3) = false from rfl, show ((2 : Int) == 4) = false from rfl, show ((2 : Int) == 5) = false from rfl, Bool.false_eq_true, if_false, if_true, Lo.elim, Option.bind_some, Option.bind_assoc, Bool.or_self]
    refine t.trans ?_
    unfold txtG
    cases hs : sect b a (fsize no) with
    | none => simp only [hs]
    | some l => simp only [hs, (fok_txt (hby hs)).2.1 h, hlb hs, beq_self_eq_true, Bool.and_true]
  · rw [GetLen_i b hb hl a (fwid no) (by unfold fwid; split <;> simp)]
    have t := fun s => hbcd s (.inr h)
    rw [h] at t ⊢
    simp only [show ((3 : Int) == 0) = false from rfl, show ((3 : Int) == 1) = false from rfl, show ((3 : Int) == 3) = true from rfl, show ((3 : Int) == 4) = false from rfl, show ((3 : Int) == 5) = false from rfl, Bool.false_eq_true, if_false, if_true, Option.bind_some, Bool.or_false, Bool.true_or, Bool.or_true] at t ⊢
    cases hy : lenG b a (fwid no) with
    | none => simp [lenR, Lo.elim, bcdR]
    | some y =>
      simp only [lenR, if_true, Option.bind_some, Lo.elim, Option.bind_assoc]
      refine (t (y.2, y.1)).trans ?_
      simp only
      rcases tf (decide (1 ≤ y.1) && decide (y.1 ≤ fsize no)) with q | q <;> simp only [q, if_true, Bool.false_eq_true, if_false]
  · rw [GetLen_i b hb hl a (fwid no) (by unfold fwid; split <;> simp)]
    have t := fun s => impl_txt b hb hl no s (by rw [h]; rfl) (by rw [h]; rfl)
    rw [h]
    simp only [show ((4 : Int) == 0) = false from rfl, show ((4 : Int) == 1) = false from rfl, show ((4 : Int) == 3) = false from rfl, show ((4 : Int) == 4) = true from rfl, show ((4 : Int) == 5) = false from rfl, Bool.false_eq_true, if_false, if_true, Option.bind_some, Bool.or_false, Bool.or_self, Bool.true_or, Bool.or_true]
    cases hy : lenG b a (fwid no) with
    | none => simp [lenR, Lo.elim, bcdR]
    | some y =>
      simp only [lenR, if_true, Option.bind_some, Lo.elim, Option.bind_assoc]
      refine (t (y.2, y.1)).trans ?_
      unfold txtG
      cases hs : sect b y.2 y.1 with
      | none => simp only [hs, ite_self]; rcases tf (decide (1 ≤ y.1) && decide (y.1 ≤ fsize no)) with q | q <;> simp [q, hs]
      | some l =>
        simp only [hs, (fok_txt (hby hs)).2.2 (.inl h), hlb hs]
        rcases tf (decide (1 ≤ y.1) && decide (y.1 ≤ fsize no)) with q | q <;> simp [q, hs]
  · rw [GetLen_i b hb hl a (fwid no) (by unfold fwid; split <;> simp)]
    have t := fun s => impl_txt b hb hl no s (by rw [h]; rfl) (by rw [h]; rfl)
    rw [h]
    simp only [show ((5 : Int) == 0) = false from rfl, show ((5 : Int) == 1) = false from rfl, show ((5 : Int) == 3) = false from rfl, show ((5 : Int) == 4) = false from rfl, show ((5 : Int) == 5) = true from rfl, Bool.false_eq_true, if_false, if_true, Option.bind_some, Bool.or_false, Bool.or_self, Bool.true_or, Bool.or_true]
    cases hy : lenG b a (fwid no) with
    | none => simp [lenR, Lo.elim, bcdR]
    | some y =>
      simp only [lenR, if_true, Option.bind_some, Lo.elim, Option.bind_assoc]
      refine (t (y.2, y.1)).trans ?_
      unfold txtG
      cases hs : sect b y.2 y.1 with
      | none => simp only [hs, ite_self]; rcases tf (decide (1 ≤ y.1) && decide (y.1 ≤ fsize no)) with q | q <;> simp [q, hs]
      | some l =>
        simp only [hs, (fok_txt (hby hs)).2.2 (.inr h), hlb hs]
        rcases tf (decide (1 ≤ y.1) && decide (y.1 ≤ fsize no)) with q | q <;> simp [q, hs]
/-- What a field's text is, and where the next one begins. -/
theorem fldG_some {b : List Int} (hb : byB b) {a no : Int} {y : ByteArray × Int} (h : fldG b a no = some y) : y.1.size ≤ 60 ∧ 0 ≤ y.2 ∧ y.2 ≤ b.length := by
  have hks := Row_b no
  unfold fldG at h
  split at h
  · cases h
  · have hd : ∀ q, headG b a no = some q → q.2 ≤ 60 := fun q hq => by
      unfold headG at hq
      split at hq
      · split at hq
        · cases hq
        · split at hq
          · rename_i z hz hc
            simp only [Bool.and_eq_true, decide_eq_true_eq] at hc
            obtain rfl := Option.some.inj hq
            show z.1 ≤ 60
            omega
          · cases hq
      · obtain rfl := Option.some.inj hq
        show fsize no ≤ 60
        omega
    split at h
    · cases h
    · rename_i q hq
      have := hd q hq
      split at h
      · obtain ⟨g1, g2, g3, g4, g5, g6, g7⟩ := bcdG_some hb h
        exact ⟨by omega, by omega, g7⟩
      · unfold txtG at h
        cases hs : sect b q.1 q.2 with
        | none => rw [hs] at h; cases h
        | some l =>
          rw [hs] at h
          obtain ⟨g1, g2, g3, g4, g5⟩ := sect_some hs
          simp only at h
          split at h
          · obtain rfl := Option.some.inj h
            refine ⟨?_, by show 0 ≤ q.1 + q.2; omega, g3⟩
            show (bstr l).size ≤ 60
            rw [bstr_size]; omega
          · cases h
/-- All fields, one behind the other. -/
def fldsG (b : List Int) : List Int → Int → Option (List Field × Int)
  | [], a => some ([], a)
  | k :: t, a => match fldG b a k with
    | none => none
    | some y => match fldsG b t y.2 with
      | none => none
      | some r => some (⟨k, y.1⟩ :: r.1, r.2)
def fldsR (w : List Field) : Option (List Field × Int) → Lo (Int × List Field) Unit
  | none => .ret ()
  | some r => .out (r.2, w ++ r.1)
theorem spec_Parse_l0_val (b : List Int) (hb : byB b) (hl : b.length ≤ 4000000) (r1 : ByteArray × Int × Bool) (r : List Int × Int × Bool) (hr : r.1.length ≤ 128) : ∀ (fuel v : Nat) (a : Int) (w : List Field), v ≤ r.1.length → r.1.length - v < fuel → w.length + (r.1.length - v) ≤ 1000 →
    spec_Parse_l0 b r1 r fuel (v : Int) a w = some (fldsR w (fldsG b (r.1.drop v) a))
  | 0, v, a, w, _, hf, _ => by omega
  | fuel + 1, v, a, w, h, hf, hw => by
    unfold spec_Parse_l0 spec_Parse_c8 spec_Parse_c9 spec_Parse_c10
    by_cases hv : v < r.1.length
    · have hg : r.1[((v : Int)).toNat]? = some r.1[v] := by rw [Int.toNat_natCast]; exact List.getElem?_eq_getElem hv
      have hi' : i64 ((v : Int) + 1) = ((v + 1 : Nat) : Int) := by rw [i64_of (by omega) (by omega)]; omega
      rw [List.drop_eq_getElem_cons hv, fldsG]
      generalize r.1[v] = x at *
      simp only [show (v : Int) < (r.1.length : Int) by omega, show (0 : Int) ≤ (v : Int) by omega, decide_true, if_true, Option.bind_some, Lo.elim, hg, hi', spec_GetField_val b hb hl]
      cases hy : fldG b a x with
      | none => simp [bcdR, fldsR]
      | some y =>
        simp only [bcdR, if_true, Option.bind_some, capOk_of (show w.length + 1 ≤ 274877906944 by omega)]
        rw [spec_Parse_l0_val b hb hl r1 r hr fuel (v + 1) y.2 (w ++ [Field.mk x y.1]) (by omega) (by omega) (by simp; omega)]
        cases fldsG b (r.1.drop (v + 1)) y.2 with
        | none => rfl
        | some z => simp [fldsR]
    · have : r.1.drop v = [] := List.drop_eq_nil_of_le (by omega)
      rw [this]
      simp [show ¬ (v : Int) < (r.1.length : Int) by omega, Lo.elim, fldsG, fldsR]
theorem impl_Parse_l2_val (b : List Int) (hb : byB b) (hl : b.length ≤ 4000000) (r1 : ByteArray × Int × Bool) (r : Int × List Int) (hr : r.2.length ≤ 128) : ∀ (fuel v : Nat) (a : Int) (w : List Field), v ≤ r.2.length → r.2.length - v < fuel → w.length + (r.2.length - v) ≤ 1000 →
    impl_Parse_l2 b r1 r fuel a (v : Int) w = some (fldsR w (fldsG b (r.2.drop v) a))
  | 0, v, a, w, _, hf, _ => by omega
  | fuel + 1, v, a, w, h, hf, hw => by
    unfold impl_Parse_l2 impl_Parse_c20 impl_Parse_c21 impl_Parse_c22
    by_cases hv : v < r.2.length
    · have hg : r.2[((v : Int)).toNat]? = some r.2[v] := by rw [Int.toNat_natCast]; exact List.getElem?_eq_getElem hv
      have hi' : i64 ((v : Int) + 1) = ((v + 1 : Nat) : Int) := by rw [i64_of (by omega) (by omega)]; omega
      rw [List.drop_eq_getElem_cons hv, fldsG]
      generalize r.2[v] = x at *
      simp only [show (v : Int) < (r.2.length : Int) by omega, show (0 : Int) ≤ (v : Int) by omega, decide_true, if_true, Option.bind_some, Lo.elim, hg, hi', impl_GetField_val b hb hl]
      cases hy : fldG b a x with
      | none => simp [bcdR, fldsR]
      | some y =>
        simp only [bcdR, if_true, Option.bind_some, capOk_of (show w.length + 1 ≤ 274877906944 by omega)]
        rw [impl_Parse_l2_val b hb hl r1 r hr fuel (v + 1) y.2 (w ++ [Field.mk x y.1]) (by omega) (by omega) (by simp; omega)]
        cases fldsG b (r.2.drop (v + 1)) y.2 with
        | none => rfl
        | some z => simp [fldsR]
    · have : r.2.drop v = [] := List.drop_eq_nil_of_le (by omega)
      rw [this]
      simp [show ¬ (v : Int) < (r.2.length : Int) by omega, Lo.elim, fldsG, fldsR]
theorem fldsG_some {b : List Int} (hb : byB b) : ∀ {l : List Int} {a : Int} {z : List Field × Int}, fldsG b l a = some z → z.1.length = l.length ∧ ∀ f ∈ z.1, f.Text.size ≤ 60
  | [], a, z, h => by
    obtain rfl := Option.some.inj h
    exact ⟨rfl, fun f hf => by cases hf⟩
  | k :: t, a, z, h => by
    rw [fldsG] at h
    split at h
    · cases h
    · rename_i y hy
      split at h
      · cases h
      · rename_i r hr
        obtain rfl := Option.some.inj h
        obtain ⟨g1, g2⟩ := fldsG_some hb hr
        refine ⟨by simp [g1], fun f hf => ?_⟩
        rcases List.mem_cons.1 hf with rfl | hf
        · exact (fldG_some hb hy).1
        · exact g2 f hf
/-- A message read from its bytes: what it is, and how that went. -/
def noMsg : Msg := ⟨ByteArray.empty, []⟩
def parseG (b : List Int) : Msg × Int :=
  match bcdG b 0 4 with
  | none => (noMsg, 1)
  | some y => match nosG b 2 with
    | none => (noMsg, 2)
    | some z => match fldsG b z.1 z.2 with
      | none => (noMsg, 3)
      | some r => if (r.2 != (b.length : Int)) = true then (noMsg, 4) else (⟨y.1, r.1⟩, 0)
theorem Parse_s (b : List Int) (hb : byB b) (hl : b.length ≤ 4000000) : spec_Parse b = some (parseG b) := by
  unfold spec_Parse parseG spec_Parse_c0
  rw [spec_GetBcd_val b hb hl 0 4]
  cases hy : bcdG b 0 4 with
  | none => simp [bcdR, Lo.elim, noMsg]
  | some y =>
    simp only [bcdR, if_true, Option.bind_some, Lo.elim]
    rw [l04Nos_val b hb hl]
    unfold spec_Parse_c1
    cases hz : nosG b 2 with
    | none => simp [bitR, noMsg]
    | some z =>
      obtain ⟨z1, z2, z3⟩ := nosG_some hz
      simp only [bitR, if_true, Option.bind_some]
      have L := spec_Parse_l0_val b hb hl (y.1, y.2, true) (z.1, z.2, true) z1 FUEL 0 z.2 [] (by omega) (by show z.1.length - 0 < _; unfold FUEL; omega) (by show 0 + (z.1.length - 0) ≤ _; omega)
      have L : spec_Parse_l0 b (y.1, y.2, true) (z.1, z.2, true) FUEL 0 z.2 [] = some (fldsR [] (fldsG b z.1 z.2)) := L
      rw [L]
      unfold spec_Parse_c11
      cases fldsG b z.1 z.2 with
      | none => rfl
      | some r =>
        simp only [fldsR, Option.bind_some, List.nil_append]
        rcases tf (r.2 != (b.length : Int)) with q | q <;> simp only [q, if_true, Bool.false_eq_true, if_false, Option.bind_some, noMsg]
theorem Parse_i (b : List Int) (hb : byB b) (hl : b.length ≤ 4000000) : impl_Parse b = some (parseG b) := by
  unfold impl_Parse parseG impl_Parse_c0
  rw [impl_GetBcd_val b hb hl 0 4]
  cases hy : bcdG b 0 4 with
  | none => simp [bcdR, Lo.elim, noMsg]
  | some y =>
    obtain ⟨_, _, _, _, _, g6, _⟩ := bcdG_some hb hy
    have g6 : y.2 = 2 := g6
    simp only [bcdR, if_true, Option.bind_some, Lo.elim, g6]
    rw [GetBits_i b hb hl 2]
    unfold impl_Parse_c1
    cases hb2 : bitG b 2 with
    | none =>
      have : nosG b 2 = none := by unfold nosG; rw [hb2]
      simp [bitR, this, noMsg]
    | some x =>
      obtain ⟨x1, x2, x3, x4, x5⟩ := bitG_some hb2
      simp only [bitR, if_true, Option.bind_some]
      have L0 := Parse_l0_val b (y.1, 2, true) (x.1, x.2, true) x2 FUEL 0 false [] (by omega) (by show x.1.length - 0 < _; unfold FUEL; omega) (by show 0 + (x.1.length - 0) ≤ _; omega)
      have L0 : impl_Parse_l0 b (y.1, 2, true) (x.1, x.2, true) FUEL 0 false [] = some (if lowOk x.1 = true then .out ((x.1.any fun x => x == 1), x.1.filter fun x => !(x == 1)) else .ret ()) := L0
      rw [L0, lowOk_eq]
      rcases tf ((x.1.filter fun x => !(x == 1)).all known) with q | q
      · have C6 := Parse_c6_val b hb hl (y.1, 2, true) 2 x hb2 q
        simp only [q, if_true, Option.bind_some]
        rw [C6]
        cases hz : nosG b 2 with
        | none => rfl
        | some z =>
          obtain ⟨z1, z2, z3⟩ := nosG_some hz
          simp only [Option.bind_some]
          have L := impl_Parse_l2_val b hb hl (y.1, 2, true) (z.2, z.1) z1 FUEL 0 z.2 [] (by omega) (by show z.1.length - 0 < _; unfold FUEL; omega) (by show 0 + (z.1.length - 0) ≤ _; omega)
          have L : impl_Parse_l2 b (y.1, 2, true) (z.2, z.1) FUEL z.2 0 [] = some (fldsR [] (fldsG b z.1 z.2)) := L
          rw [L]
          unfold impl_Parse_c23
          cases fldsG b z.1 z.2 with
          | none => rfl
          | some r =>
            simp only [fldsR, Option.bind_some, List.nil_append]
            rcases tf (r.2 != (b.length : Int)) with p | p <;> simp only [p, if_true, Bool.false_eq_true, if_false, Option.bind_some, noMsg]
      · rw [nosG_none hb2 q]
        simp only [q, Bool.false_eq_true, if_false, Option.bind_some, noMsg]
theorem parseG_small {b : List Int} (hb : byB b) : (parseG b).1.List.length ≤ 128 ∧ ∀ f ∈ (parseG b).1.List, f.Text.size ≤ 60 := by
  unfold parseG
  have h0 : noMsg.List.length ≤ 128 ∧ ∀ f ∈ noMsg.List, f.Text.size ≤ 60 := ⟨by decide, fun f hf => by cases hf⟩
  split
  · exact h0
  · split
    · exact h0
    · rename_i z hz
      split
      · exact h0
      · rename_i r hr
        obtain ⟨g1, g2⟩ := fldsG_some hb hr
        obtain ⟨z1, _, _⟩ := nosG_some hz
        split
        · exact h0
        · exact ⟨by show r.1.length ≤ 128; omega, g2⟩
/-- The text of the first field of a number. -/
def fieldG (l : List Field) (no : Int) : Option ByteArray := (l.find? fun f => f.No == no).map (·.Text)
def fieldR : Option ByteArray → ByteArray × Bool
  | some s => (s, true)
  | none => (bs [], false)
theorem FieldOf_l0_s (m : Msg) (no : Int) : ∀ t : List Field, spec_FieldOf_l0 m no t = some (match fieldG t no with | some s => .ret s | none => .out ())
  | [] => rfl
  | f :: t => by
    have i1 := FieldOf_l0_s m no t
    unfold spec_FieldOf_l0 fieldG
    rw [List.find?_cons, i1]
    rcases tf (f.No == no) with q | q <;> simp [q, fieldG]
theorem FieldOf_s (m : Msg) (no : Int) (hl : m.List.length ≤ 4000000) : spec_FieldOf m no = some (fieldR (fieldG m.List no)) := by
  unfold spec_FieldOf
  rw [FieldOf_l0_s m no m.List, capOk_of (show m.List.length ≤ 274877906944 by omega)]
  cases fieldG m.List no <;> simp [fieldR, Lo.elim]
theorem FieldOf_l0_i (m : Msg) (no : Int) : ∀ t : List Field, impl_FieldOf_l0 m no t = some (match fieldG t no with | some s => .ret s | none => .out ())
  | [] => rfl
  | f :: t => by
    have i1 := FieldOf_l0_i m no t
    unfold impl_FieldOf_l0 fieldG
    rw [List.find?_cons, i1]
    rcases tf (f.No == no) with q | q <;> simp [q, fieldG]
theorem FieldOf_i (m : Msg) (no : Int) (hl : m.List.length ≤ 4000000) : impl_FieldOf m no = some (fieldR (fieldG m.List no)) := by
  unfold impl_FieldOf
  rw [FieldOf_l0_i m no m.List, capOk_of (show m.List.length ≤ 274877906944 by omega)]
  cases fieldG m.List no <;> simp [fieldR, Lo.elim]
theorem sAt_byte (s : ByteArray) {i : Nat} (h : i < s.data.toList.length) : sAt s (i : Int) = ((s.data.toList[i]).toNat : Int) := by
  rcases s with ⟨⟨l⟩⟩
  have h : i < l.length := h
  simp [sAt, h]
theorem fok_kinds {no : Int} {s : ByteArray} (h : fok no s = true) : 1 ≤ s.size ∧ s.size ≤ 60 ∧ fkind no ≠ 0 ∧ ((fkind no = 1 ∨ fkind no = 3) → digB s = true ∧ (fkind no = 1 → (s.size : Int) = fsize no) ∧ (s.size : Int) ≤ fsize no) ∧
    ((fkind no = 2 ∨ fkind no = 4 ∨ fkind no = 5) → prtB s = true ∧ (fkind no = 2 → (s.size : Int) = fsize no) ∧ (s.size : Int) ≤ fsize no) ∧ (fkind no = 1 → s.size ≤ 12) ∧ (fkind no = 3 → s.size ≤ 19) := by
  have hb := Row_b no
  have h12 : fkind no = 1 → fsize no ≤ 12 := fun hk => by
    by_cases hm : no ∈ noCases
    · have key : ∀ n ∈ noCases, fkind n = 1 → fsize n ≤ 12 := by decide +kernel
      exact key no hm hk
    · have := frow_none hm
      unfold fkind at hk
      rw [this] at hk
      cases hk
  have h19 : fkind no = 3 → fsize no ≤ 19 := fun hk => by
    by_cases hm : no ∈ noCases
    · have key : ∀ n ∈ noCases, fkind n = 3 → fsize n ≤ 19 := by decide +kernel
      exact key no hm hk
    · have := frow_none hm
      unfold fkind at hk
      rw [this] at hk
      cases hk
  unfold fok at h
  rcases kinds no with k | k | k | k | k | k
  · rw [k] at h
    exact absurd h (by simp)
  · rw [k] at h
    simp at h
    have := digB_pos h.1
    refine ⟨by omega, by omega, by omega, fun _ => ⟨h.1, fun _ => h.2, by omega⟩, fun hh => by omega, fun _ => by have := h12 k; omega, fun hh => by omega⟩
  · rw [k] at h
    simp at h
    refine ⟨by omega, by omega, by omega, fun hh => by omega, fun _ => ⟨h.1, fun _ => h.2, by omega⟩, fun hh => by omega, fun hh => by omega⟩
  · rw [k] at h
    simp at h
    have := digB_pos h.1
    refine ⟨by omega, by omega, by omega, fun _ => ⟨h.1, fun hh => by omega, h.2⟩, fun hh => by omega, fun hh => by omega, fun _ => by have := h19 k; omega⟩
  · rw [k] at h
    simp at h
    refine ⟨by omega, by omega, by omega, fun hh => by omega, fun _ => ⟨h.1, fun hh => by omega, h.2.2⟩, fun hh => by omega, fun hh => by omega⟩
  · rw [k] at h
    simp at h
    refine ⟨by omega, by omega, by omega, fun hh => by omega, fun _ => ⟨h.1, fun hh => by omega, h.2.2⟩, fun hh => by omega, fun hh => by omega⟩
def ascI (v : Int) : List Int → Prop
  | [] => True
  | x :: t => v ≤ x ∧ ascI (x + 1) t
/-- The fields' numbers rise. -/
theorem msgL_asc : ∀ {l : List Field} {p : Option Int}, msgL p l = true → (∀ f ∈ l, fok f.No f.Text = true) ∧ ascI (match p with | none => 0 | some k => k + 1) (l.map (·.No))
  | [], p, _ => ⟨fun _ h => (by cases h), trivial⟩
  | f :: t, p, h => by
    unfold msgL at h
    simp only [Bool.and_eq_true] at h
    obtain ⟨⟨h1, h2⟩, h3⟩ := h
    obtain ⟨i1, i2⟩ := msgL_asc h3
    have hk := (fok_kinds h1).2.2.1
    refine ⟨fun g hg => ?_, ?_⟩
    · rcases List.mem_cons.1 hg with rfl | hg
      · exact h1
      · exact i1 g hg
    · rw [List.map_cons]
      refine ⟨?_, i2⟩
      cases p with
      | none =>
        have : 2 ≤ f.No := by
          by_cases hm : f.No ∈ noCases
          · have key : ∀ n ∈ noCases, 2 ≤ n := by decide
            exact key _ hm
          · have := frow_none hm
            unfold fkind at hk
            rw [this] at hk
            exact absurd rfl hk
        show (0 : Int) ≤ f.No
        omega
      | some k => 
        simp only [decide_eq_true_eq] at h2
        show k + 1 ≤ f.No
        omega
def opB (op : Int) : Bool := decide (1 ≤ op) && decide (op ≤ 8)
theorem op_cases {op : Int} (h : opB op = true) : op = 1 ∨ op = 2 ∨ op = 3 ∨ op = 4 ∨ op = 5 ∨ op = 6 ∨ op = 7 ∨ op = 8 := by
  unfold opB at h
  simp only [Bool.and_eq_true, decide_eq_true_eq] at h
  omega
def nameT (op : Int) : ByteArray := if opB op = true then [bs [], bs [97, 117, 116, 104], bs [109, 111, 114, 101], bs [112, 97, 114, 116], bs [102, 105, 110, 97, 108], bs [102, 114, 101, 101], bs [109, 111, 118, 101], bs [97, 115, 107], bs [115, 119, 101, 101, 112]].getD op.toNat (bs []) else bs []
def mtiT (op : Int) : ByteArray := if opB op = true then [bs [], bs [48, 49, 48, 48], bs [48, 49, 48, 48], bs [48, 50, 50, 48], bs [48, 50, 50, 48], bs [48, 50, 50, 48], bs [48, 50, 48, 48], bs [48, 49, 48, 48], bs [48, 50, 48, 48]].getD op.toNat (bs []) else bs []
def holdB (op : Int) : Bool := opB op && decide (op < 7)
def amtB (op : Int) : Bool := decide (1 ≤ op) && decide (op ≤ 4)
theorem l11Op_val (op : Int) : spec_l11Op op = some (opB op) := by unfold spec_l11Op; rw [l01In_val]; rfl
theorem l11Hold_val (op : Int) : spec_l11Hold op = some (holdB op) := by
  unfold spec_l11Hold holdB
  rw [l11Op_val]
  rcases tf (opB op) with h | h <;> simp [h]
theorem l11Amount_val (op : Int) : spec_l11Amount op = some (amtB op) := by unfold spec_l11Amount; rw [l01In_val]; rfl
theorem spec_OpMti_val (op : Int) : spec_OpMti op = some (mtiT op) := by
  rcases tf (opB op) with h | h
  · rcases op_cases h with rfl | rfl | rfl | rfl | rfl | rfl | rfl | rfl <;> decide +kernel
  · unfold spec_OpMti mtiT
    rw [l11Op_val, h]
    rfl
theorem impl_opOf_val (op : Int) : ∃ r, impl_opOf op = some r ∧ r.name = nameT op ∧ r.mti = mtiT op ∧ (r.name == bs []) = !(opB op) ∧ slices_Contains_int r.fields 38 = some (holdB op) ∧ slices_Contains_int r.fields 4 = some (amtB op) ∧ slices_Contains_int r.fields 14 = some (op == 1) ∧ slices_Contains_int r.fields 103 = some (op == 6) := by
  rcases tf (opB op) with h | h
  · rcases op_cases h with rfl | rfl | rfl | rfl | rfl | rfl | rfl | rfl <;> exact ⟨_, rfl, by decide +kernel, by decide +kernel, by decide +kernel, by decide +kernel, by decide +kernel, by decide +kernel, by decide +kernel⟩
  · have h' := h
    unfold opB at h'
    have n1 : (op == 1) = false := by
      rw [beq_eq_false_iff_ne]
      rintro rfl
      exact absurd h' (by decide)
    have n6 : (op == 6) = false := by
      rw [beq_eq_false_iff_ne]
      rintro rfl
      exact absurd h' (by decide)
    have na : amtB op = false := by
      unfold amtB
      rcases tf (decide (1 ≤ op) && decide (op ≤ 4)) with q | q
      · simp only [Bool.and_eq_true, decide_eq_true_eq] at q
        simp only [Bool.and_eq_false_iff, decide_eq_false_iff_not] at h'
        omega
      · exact q
    refine ⟨⟨ByteArray.empty, ByteArray.empty, ByteArray.empty, []⟩, ?_, ?_, ?_, ?_, ?_, ?_, ?_, ?_⟩
    · unfold impl_opOf
      rw [within_val, h']
      rfl
    · unfold nameT; rw [h]; rfl
    · unfold mtiT; rw [h]; rfl
    · rw [h]; decide +kernel
    · rw [show holdB op = false by unfold holdB; rw [h]; rfl]; decide +kernel
    · rw [na]; decide +kernel
    · rw [n1]; decide +kernel
    · rw [n6]; decide +kernel
theorem uses_val (op : Int) : impl_uses op 38 = some (holdB op) ∧ impl_uses op 4 = some (amtB op) ∧ impl_uses op 14 = some (op == 1) ∧ impl_uses op 103 = some (op == 6) := by
  obtain ⟨r, e, _, _, _, e1, e2, e3, e4⟩ := impl_opOf_val op
  unfold impl_uses
  simp only [e, Option.bind_some, e1, e2, e3, e4, and_self]
theorem isWide6_val (s : ByteArray) (hs : s.size ≤ 4000000) (n : Int) : ∃ d, spec_Digits s = some d ∧ impl_isWide s n = some (d && !((s.size : Int) != n)) := by
  obtain ⟨d, e1, e2, _⟩ := Digits_tot s hs
  refine ⟨d, e1, ?_⟩
  unfold impl_isWide
  simp only [e2, Option.bind_some]
  rcases tf d with h | h
  · rcases tf ((s.size : Int) == n) with q | q <;> simp [h, q, bne]
  · simp [h]
/-- What makes a request valid. -/
structure RqB where
  a : Bool
  d : Bool
  h : Bool
  o : Bool
def rqOk (q : Req) (r : RqB) : Bool :=
  (opB q.Op && ((q.Mti == mtiT q.Op) && (r.a && (r.d && !((q.Trace.size : Int) != 6))))) &&
  ((if holdB q.Op = true then r.h else (q.Hold == bs [])) && ((if amtB q.Op = true then (decide (0 ≤ q.Amount) && decide (q.Amount ≤ 999999999999)) else (q.Amount == 0)) &&
    ((if (q.Op == 1) = true then (decide (0 ≤ q.Ttl) && decide (q.Ttl ≤ 9999)) else (q.Ttl == 0)) && (if (q.Op == 6) = true then r.o else (q.Other == bs [])))))
def rqB (q : Req) : RqB := ⟨(spec_AcctIdOk q.Acct).getD false, (spec_Digits q.Trace).getD false, (spec_HoldIdOk q.Hold).getD false, (spec_AcctIdOk q.Other).getD false⟩
theorem rqB_val (q : Req) (h1 : q.Trace.size ≤ 4000000) (h2 : q.Hold.size ≤ 4000000) : spec_AcctIdOk q.Acct = some (rqB q).a ∧ spec_AcctIdOk q.Other = some (rqB q).o ∧ spec_Digits q.Trace = some (rqB q).d ∧ spec_HoldIdOk q.Hold = some (rqB q).h := by
  obtain ⟨a, a1, a2, _⟩ := AcctIdOk_eq q.Acct
  obtain ⟨o, o1, o2, _⟩ := AcctIdOk_eq q.Other
  obtain ⟨d, d1, d2⟩ := isWide6_val q.Trace h1 6
  obtain ⟨h, t1, t2, _⟩ := HoldIdOk_tot q.Hold h2
  have hr : rqB q = ⟨a, d, h, o⟩ := by unfold rqB; rw [a1, d1, t1, o1]; rfl
  rw [hr]
  exact ⟨a1, o1, d1, t1⟩
theorem ReqOk_s (q : Req) (h1 : q.Trace.size ≤ 4000000) (h2 : q.Hold.size ≤ 4000000) : spec_ReqOk q = some (rqOk q (rqB q)) := by
  obtain ⟨a, a1, a2, _⟩ := AcctIdOk_eq q.Acct
  obtain ⟨o, o1, o2, _⟩ := AcctIdOk_eq q.Other
  obtain ⟨d, d1, d2⟩ := isWide6_val q.Trace h1 6
  obtain ⟨h, t1, t2, _⟩ := HoldIdOk_tot q.Hold h2
  have hr : rqB q = ⟨a, d, h, o⟩ := by unfold rqB; rw [a1, d1, t1, o1]; rfl
  rw [hr]
  have c0 : spec_ReqOk_c0 q = some (if (opB q.Op && ((q.Mti == mtiT q.Op) && (a && (d && !((q.Trace.size : Int) != 6))))) = true then .out () else .ret ()) := by
    unfold spec_ReqOk_c0
    simp only [l11Op_val, spec_OpMti_val, a1, d1, Option.bind_some]
    rcases tf (opB q.Op) with x1 | x1 <;> rcases tf (q.Mti == mtiT q.Op) with x2 | x2 <;> rcases tf a with x3 | x3 <;> rcases tf d with x4 | x4 <;> rcases tf ((q.Trace.size : Int) != 6) with x5 | x5 <;> simp only [x1, x2, x3, x4, x5, if_true, if_false, Bool.false_eq_true, Bool.and_true, Bool.and_false, Bool.true_and, Bool.false_and, Bool.not_true, Bool.not_false]
  have c1 : spec_ReqOk_c1 q = some (if (if holdB q.Op = true then h else (q.Hold == bs [])) = true then .out () else .ret ()) := by
    unfold spec_ReqOk_c1
    simp only [l11Hold_val, t1, Option.bind_some]
    rcases tf (holdB q.Op) with x1 | x1 <;> rcases tf h with x2 | x2 <;> rcases tf (q.Hold == bs []) with x3 | x3 <;> simp only [x1, x2, x3, if_true, if_false, Bool.false_eq_true]
  have c2 : spec_ReqOk_c2 q = some (if (if amtB q.Op = true then (decide (0 ≤ q.Amount) && decide (q.Amount ≤ 999999999999)) else (q.Amount == 0)) = true then .out () else .ret ()) := by
    unfold spec_ReqOk_c2
    simp only [l11Amount_val, l01In_val, Option.bind_some, bne]
    rcases tf (amtB q.Op) with x1 | x1 <;> rcases tf (decide (0 ≤ q.Amount) && decide (q.Amount ≤ 999999999999)) with x2 | x2 <;> rcases tf (q.Amount == 0) with x3 | x3 <;> simp only [x1, x2, x3, if_true, if_false, Bool.false_eq_true, Bool.not_true, Bool.not_false]
  have c3 : spec_ReqOk_c3 q = some (if (if (q.Op == 1) = true then (decide (0 ≤ q.Ttl) && decide (q.Ttl ≤ 9999)) else (q.Ttl == 0)) = true then .out () else .ret ()) := by
    unfold spec_ReqOk_c3
    simp only [l01In_val, Option.bind_some, bne]
    rcases tf (q.Op == 1) with x1 | x1 <;> rcases tf (decide (0 ≤ q.Ttl) && decide (q.Ttl ≤ 9999)) with x2 | x2 <;> rcases tf (q.Ttl == 0) with x3 | x3 <;> simp only [x1, x2, x3, if_true, if_false, Bool.false_eq_true, Bool.not_true, Bool.not_false]
  unfold spec_ReqOk rqOk
  rw [c0, c1, c2, c3, o1]
  generalize (opB q.Op && ((q.Mti == mtiT q.Op) && (a && (d && !((q.Trace.size : Int) != 6))))) = y0
  generalize (if holdB q.Op = true then h else (q.Hold == bs [])) = y1
  generalize (if amtB q.Op = true then (decide (0 ≤ q.Amount) && decide (q.Amount ≤ 999999999999)) else (q.Amount == 0)) = y2
  generalize (if (q.Op == 1) = true then (decide (0 ≤ q.Ttl) && decide (q.Ttl ≤ 9999)) else (q.Ttl == 0)) = y3
  cases y0 <;> cases y1 <;> cases y2 <;> cases y3 <;> simp only [if_true, if_false, Bool.false_eq_true, Option.bind_some, Lo.elim, Bool.and_true, Bool.and_false, Bool.true_and, Bool.false_and]
  rcases tf (q.Op == 6) with x1 | x1 <;> cases o <;> simp [x1, bne]
theorem ReqOk_i (q : Req) (h1 : q.Trace.size ≤ 4000000) (h2 : q.Hold.size ≤ 4000000) : impl_ReqOk q = some (rqOk q (rqB q)) := by
  obtain ⟨a, a1, a2, _⟩ := AcctIdOk_eq q.Acct
  obtain ⟨o, o1, o2, _⟩ := AcctIdOk_eq q.Other
  obtain ⟨d, d1, d2⟩ := isWide6_val q.Trace h1 6
  obtain ⟨h, t1, t2, _⟩ := HoldIdOk_tot q.Hold h2
  obtain ⟨r, e, e1, e2, e3, e4, e5, e6, e7⟩ := impl_opOf_val q.Op
  obtain ⟨u1, u2, u3, u4⟩ := uses_val q.Op
  have hr : rqB q = ⟨a, d, h, o⟩ := by unfold rqB; rw [a1, d1, t1, o1]; rfl
  rw [hr]
  have c0 : impl_ReqOk_c0 q r = some (if (opB q.Op && ((q.Mti == mtiT q.Op) && (a && (d && !((q.Trace.size : Int) != 6))))) = true then .out () else .ret ()) := by
    unfold impl_ReqOk_c0
    simp only [e2, e3, a2, d2, Option.bind_some]
    rcases tf (opB q.Op) with x1 | x1 <;> rcases tf (q.Mti == mtiT q.Op) with x2 | x2 <;> rcases tf a with x3 | x3 <;> rcases tf (d && !((q.Trace.size : Int) != 6)) with x4 | x4 <;> simp only [x1, x2, x3, x4, if_true, if_false, Bool.false_eq_true, Bool.and_true, Bool.and_false, Bool.true_and, Bool.false_and, Bool.not_true, Bool.not_false]
  have c1 : impl_ReqOk_c1 q = some (if holdB q.Op = true then h else (q.Hold == bs [])) := by
    unfold impl_ReqOk_c1
    simp only [u1, t2, Option.bind_some]
    rcases tf (holdB q.Op) with x1 | x1 <;> simp only [x1, if_true, if_false, Bool.false_eq_true]
  have c2 : ∀ y1, impl_ReqOk_c2 q y1 = some (if amtB q.Op = true then (decide (0 ≤ q.Amount) && decide (q.Amount ≤ 999999999999)) else (q.Amount == 0)) := fun y1 => by
    unfold impl_ReqOk_c2
    simp only [u2, within_val, Option.bind_some]
    rcases tf (amtB q.Op) with x1 | x1 <;> simp only [x1, if_true, if_false, Bool.false_eq_true]
  have c3 : ∀ y1 y2, impl_ReqOk_c3 q y1 y2 = some (if (q.Op == 1) = true then (decide (0 ≤ q.Ttl) && decide (q.Ttl ≤ 9999)) else (q.Ttl == 0)) := fun y1 y2 => by
    unfold impl_ReqOk_c3
    simp only [u3, within_val, Option.bind_some]
    rcases tf (q.Op == 1) with x1 | x1 <;> simp only [x1, if_true, if_false, Bool.false_eq_true]
  have c4 : ∀ y1 y2 y3, impl_ReqOk_c4 q y1 y2 y3 = some (if (q.Op == 6) = true then o else (q.Other == bs [])) := fun y1 y2 y3 => by
    unfold impl_ReqOk_c4
    simp only [u4, o2, Option.bind_some]
    rcases tf (q.Op == 6) with x1 | x1 <;> simp only [x1, if_true, if_false, Bool.false_eq_true]
  unfold impl_ReqOk rqOk
  rw [e, Option.bind_some, c0, c1]
  simp only [c2, c3, c4]
  generalize (opB q.Op && ((q.Mti == mtiT q.Op) && (a && (d && !((q.Trace.size : Int) != 6))))) = y0
  generalize (if holdB q.Op = true then h else (q.Hold == bs [])) = y1
  generalize (if amtB q.Op = true then (decide (0 ≤ q.Amount) && decide (q.Amount ≤ 999999999999)) else (q.Amount == 0)) = y2
  generalize (if (q.Op == 1) = true then (decide (0 ≤ q.Ttl) && decide (q.Ttl ≤ 9999)) else (q.Ttl == 0)) = y3
  generalize (if (q.Op == 6) = true then o else (q.Other == bs [])) = y4
  cases y0 <;> cases y1 <;> cases y2 <;> cases y3 <;> simp only [if_true, if_false, Bool.false_eq_true, Option.bind_some, Lo.elim, Bool.and_true, Bool.and_false, Bool.true_and, Bool.false_and]
theorem bare_loop (s : ByteArray) (hs : s.size ≤ 4000000) : ∀ (n v : Nat), v ≤ s.size → v < n → (∀ (j : Nat) b, v ≤ j → s.data.toList[j]? = some b → b = 32) →
    ∃ k : Nat, spec_FieldBare_l0 s n (v : Int) = some (k : Int) ∧ k ≤ s.size ∧ Lib.trimRightB s.data.toList 32 = s.data.toList.take k
  | 0, v, _, hn, _ => by omega
  | n + 1, v, hv, hn, hj => by
    have hl : s.data.toList.length = s.size := (ba_size s).symm
    unfold spec_FieldBare_l0
    by_cases h0 : v = 0
    · subst h0
      refine ⟨0, by simp, by omega, Lib.trimRightB_take _ _ 0 (by omega) (fun j b hj' h => hj j b hj' h) (fun b h => by omega)⟩
    · have hi : i64 ((v : Int) - 1) = ((v - 1 : Nat) : Int) := by rw [i64_of (by omega) (by omega)]; omega
      have hlt : v - 1 < s.data.toList.length := by omega
      simp only [show (0 : Int) < (v : Int) by omega, decide_true, if_true, hi, Int.natCast_nonneg, show ((v - 1 : Nat) : Int) < (s.size : Int) by omega, sAt_byte s hlt]
      by_cases hb : s.data.toList[v - 1] = 32
      · have hq : (((s.data.toList[v - 1]).toNat : Int) == 32) = true := by rw [hb]; rfl
        rw [if_pos hq]
        refine bare_loop s hs n (v - 1) (by omega) (by omega) (fun j b h1 h2 => ?_)
        by_cases e : j = v - 1
        · subst e
          rw [List.getElem?_eq_getElem hlt] at h2
          rw [← Option.some.inj h2]; exact hb
        · exact hj j b (by omega) h2
      · have hq : (((s.data.toList[v - 1]).toNat : Int) == 32) = false := beq_false_of_ne (fun e => hb (UInt8.toNat_inj.1 (by
          have : (s.data.toList[v - 1]).toNat = 32 := by omega
          rw [this]; rfl)))
        rw [if_neg (by rw [hq]; simp)]
        refine ⟨v, rfl, hv, Lib.trimRightB_take _ _ v (by omega) (fun j b h1 h2 => hj j b h1 h2) (fun b _ h2 => ?_)⟩
        rw [List.getElem?_eq_getElem hlt] at h2
        rw [← Option.some.inj h2]; exact hb
theorem FieldBare_s (s : ByteArray) (hs : s.size ≤ 4000000) : spec_FieldBare s = some (trimP s 32) := by
  obtain ⟨k, e1, e2, e3⟩ := bare_loop s hs FUEL s.size (Nat.le_refl _) (by unfold FUEL; omega) (fun j b h1 h2 => by
    rw [List.getElem?_eq_none (by rw [← ba_size]; exact h1)] at h2; cases h2)
  unfold spec_FieldBare
  rw [e1]
  simp only [Option.bind_some, Int.natCast_nonneg, show (k : Int) ≤ (s.size : Int) by omega, decide_true, if_true, Int.toNat_natCast]
  congr 1
  apply ba_ext
  rw [ba_extract]
  unfold trimP
  rw [List.toList_toArray, e3]
  rfl
theorem FieldBare_i (s : ByteArray) (hs : s.size ≤ 4000000) : impl_FieldBare s = some (trimP s 32) := by
  unfold impl_FieldBare strings_TrimRight
  rw [if_pos (by simp only [Bool.and_eq_true, decide_eq_true_eq]; exact ⟨by omega, trivial⟩)]
  rfl
theorem trimP_size (s : ByteArray) : (trimP s 32).size ≤ s.size := by
  unfold trimP Lib.trimRightB
  rw [ba_size, ba_size s, List.toList_toArray, List.length_reverse]
  refine Nat.le_trans (List.Sublist.length_le (List.dropWhile_sublist _)) ?_
  rw [List.length_reverse]
  exact Nat.le_refl _
def codeT (op : Int) : ByteArray := if opB op = true then [bs [], bs [48, 48], bs [48, 50], bs [48, 49], bs [48, 48], bs [50, 48], bs [52, 48], bs [51, 49], bs [57, 48]].getD op.toNat (bs []) else bs []
theorem spec_OpCode_val (op : Int) : spec_OpCode op = some (codeT op) := by
  rcases tf (opB op) with h | h
  · rcases op_cases h with rfl | rfl | rfl | rfl | rfl | rfl | rfl | rfl <;> decide +kernel
  · unfold spec_OpCode codeT
    rw [l11Op_val, h]
    rfl
def isOp (mti t : ByteArray) (k : Int) : Bool := (mtiT k == mti) && (codeT k == t)
def whichG (mti t : ByteArray) : Int :=
  if isOp mti t 1 = true then 1 else if isOp mti t 2 = true then 2 else if isOp mti t 3 = true then 3 else if isOp mti t 4 = true then 4 else
  if isOp mti t 5 = true then 5 else if isOp mti t 6 = true then 6 else if isOp mti t 7 = true then 7 else if isOp mti t 8 = true then 8 else 0
theorem which_step (mti three : ByteArray) (h : 2 ≤ three.size) (n k : Nat) (h1 : 1 ≤ k) (h8 : k ≤ 8) : spec_l11Which_l0 mti three (n + 1) (k : Int) = if isOp mti (three.extract 0 2) (k : Int) = true then some (.ret (k : Int)) else spec_l11Which_l0 mti three n ((k + 1 : Nat) : Int) := by
  have hi : i64 ((k : Int) + 1) = ((k + 1 : Nat) : Int) := by rw [i64_of (by omega) (by omega)]; omega
  conv => lhs; unfold spec_l11Which_l0
  unfold isOp
  rw [spec_OpMti_val, spec_OpCode_val, hi]
  simp only [show (k : Int) ≤ 8 by omega, Nat.zero_le, decide_true, if_true, Option.bind_some, show (2 : Int) ≤ (three.size : Int) by omega]
  rcases tf (mtiT (k : Int) == mti) with q | q <;> rcases tf (codeT (k : Int) == three.extract 0 2) with p | p <;> simp [q, p]
theorem spec_l11Which_val (mti three : ByteArray) (h : 2 ≤ three.size) : spec_l11Which mti three = some (whichG mti (three.extract 0 2)) := by
  have S := fun n k => which_step mti three h n k
  have key : ∀ n : Nat, spec_l11Which_l0 mti three (n + 9) 1 = some (if whichG mti (three.extract 0 2) = 0 then .out () else .ret (whichG mti (three.extract 0 2))) := fun n => by
    have e9 : spec_l11Which_l0 mti three (n + 1) ((9 : Nat) : Int) = some (.out ()) := by
      unfold spec_l11Which_l0
      simp
    have s1 := S (n + 8) 1 (by omega) (by omega)
    have s2 := S (n + 7) 2 (by omega) (by omega)
    have s3 := S (n + 6) 3 (by omega) (by omega)
    have s4 := S (n + 5) 4 (by omega) (by omega)
    have s5 := S (n + 4) 5 (by omega) (by omega)
    have s6 := S (n + 3) 6 (by omega) (by omega)
    have s7 := S (n + 2) 7 (by omega) (by omega)
    have s8 := S (n + 1) 8 (by omega) (by omega)
    show spec_l11Which_l0 mti three (n + 8 + 1) ((1 : Nat) : Int) = _
    rw [s1, s2, s3, s4, s5, s6, s7, s8, e9]
    unfold whichG
    show (if isOp mti (three.extract 0 2) 1 = true then _ else if isOp mti (three.extract 0 2) 2 = true then _ else if isOp mti (three.extract 0 2) 3 = true then _ else if isOp mti (three.extract 0 2) 4 = true then _ else if isOp mti (three.extract 0 2) 5 = true then _ else if isOp mti (three.extract 0 2) 6 = true then _ else if isOp mti (three.extract 0 2) 7 = true then _ else if isOp mti (three.extract 0 2) 8 = true then _ else _) = _
    generalize isOp mti (three.extract 0 2) 1 = b1
    generalize isOp mti (three.extract 0 2) 2 = b2
    generalize isOp mti (three.extract 0 2) 3 = b3
    generalize isOp mti (three.extract 0 2) 4 = b4
    generalize isOp mti (three.extract 0 2) 5 = b5
    generalize isOp mti (three.extract 0 2) 6 = b6
    generalize isOp mti (three.extract 0 2) 7 = b7
    generalize isOp mti (three.extract 0 2) 8 = b8
    cases b1 <;> cases b2 <;> cases b3 <;> cases b4 <;> cases b5 <;> cases b6 <;> cases b7 <;> cases b8 <;> rfl
  have hk := key 4194295
  have hk : spec_l11Which_l0 mti three FUEL 1 = _ := hk
  unfold spec_l11Which
  rw [hk, Option.bind_some]
  by_cases h0 : whichG mti (three.extract 0 2) = 0
  · rw [if_pos h0, h0]; rfl
  · rw [if_neg h0]; rfl
theorem impl_which_val (mti three : ByteArray) (l : List Field) (h : 2 ≤ three.size) : ∃ rows, impl_opRows = some rows ∧ slices_IndexFunc_impl_opRow_impl_ReqOf_1 rows mti l three = some (whichG mti (three.extract 0 2) - 1) := by
  refine ⟨_, rfl, ?_⟩
  have hr : ∀ (r : opRow) (k : Int), r.mti = mtiT k → r.code = codeT k → impl_ReqOf_1 r mti l three = some (isOp mti (three.extract 0 2) k) := fun r k e1 e2 => by
    unfold impl_ReqOf_1 isOp
    rw [e1, e2]
    simp only [Nat.zero_le, decide_true, if_true, show (2 : Int) ≤ (three.size : Int) by omega]
    rcases tf (mtiT k == mti) with q | q <;> simp [q]
  unfold slices_IndexFunc_impl_opRow_impl_ReqOf_1
  rw [if_pos (by rfl)]
  simp only [slices_IndexFunc_impl_opRow_impl_ReqOf_1_l0]
  rw [hr _ 1 rfl rfl, hr _ 2 rfl rfl, hr _ 3 rfl rfl, hr _ 4 rfl rfl, hr _ 5 rfl rfl, hr _ 6 rfl rfl, hr _ 7 rfl rfl, hr _ 8 rfl rfl]
  unfold whichG
  generalize isOp mti (three.extract 0 2) 1 = b1
  generalize isOp mti (three.extract 0 2) 2 = b2
  generalize isOp mti (three.extract 0 2) 3 = b3
  generalize isOp mti (three.extract 0 2) 4 = b4
  generalize isOp mti (three.extract 0 2) 5 = b5
  generalize isOp mti (three.extract 0 2) 6 = b6
  generalize isOp mti (three.extract 0 2) 7 = b7
  generalize isOp mti (three.extract 0 2) 8 = b8
  cases b1 <;> cases b2 <;> cases b3 <;> cases b4 <;> cases b5 <;> cases b6 <;> cases b7 <;> cases b8 <;> rfl
theorem whichG_range (mti t : ByteArray) : whichG mti t = 0 ∨ opB (whichG mti t) = true := by
  unfold whichG
  repeat' split
  all_goals first | exact .inr rfl | exact .inl rfl
/-- The fields that an operation names. -/
def opF (op : Int) : List Int :=
  if (op == 1) = true then [4, 14, 38] else if ((op == 2) || (op == 3) || (op == 4)) = true then [4, 38] else if (op == 5) = true then [38] else if (op == 6) = true then [38, 103] else []
theorem impl_opOf_fields (op : Int) (h : op = 0 ∨ opB op = true) : ∃ r, impl_opOf op = some r ∧ r.fields = opF op := by
  rcases h with rfl | h
  · exact ⟨_, rfl, rfl⟩
  · rcases op_cases h with rfl | rfl | rfl | rfl | rfl | rfl | rfl | rfl <;> exact ⟨_, rfl, rfl⟩
def txG (l : List Field) (no : Int) : ByteArray := (fieldR (fieldG l no)).1
def hasG (l : List Field) (no : Int) : Bool := (fieldR (fieldG l no)).2
/-- The request that the fields tell. -/
def reqF (m : Msg) (op : Int) : Req :=
  ⟨op, txG m.List 2, if (op == 6) = true then txG m.List 103 else ByteArray.empty, if holdB op = true then trimP (txG m.List 38) 32 else ByteArray.empty, txG m.List 11, m.Mti, if amtB op = true then (narB (txG m.List 4)).1 else 0, if (op == 1) = true then (narB (txG m.List 14)).1 else 0⟩
def noReq : Req := ⟨0, ByteArray.empty, ByteArray.empty, ByteArray.empty, ByteArray.empty, ByteArray.empty, 0, 0⟩
def mtiB (s : ByteArray) : Bool := (s == bs [48, 49, 48, 48]) || ((s == bs [48, 50, 48, 48]) || (s == bs [48, 50, 50, 48]))
theorem MtiKnown_s (s : ByteArray) : spec_MtiKnown s = some (mtiB s) := by
  unfold spec_MtiKnown mtiB
  rcases tf (s == bs [48, 49, 48, 48]) with a | a <;> rcases tf (s == bs [48, 50, 48, 48]) with b | b <;> simp [a, b]
theorem MtiKnown_i (s : ByteArray) : impl_MtiKnown s = some (mtiB s) := by
  unfold impl_MtiKnown mtiB
  rcases tf (s == bs [48, 49, 48, 48]) with a | a <;> rcases tf (s == bs [48, 50, 48, 48]) with b | b <;> simp [a, b]
abbrev ReqS := ByteArray × ByteArray × ByteArray × ByteArray × Int × Int
def stepQ (st : ReqS) (k : Int) (s : ByteArray) : ReqS :=
  if (k == 2) = true then (s, st.2.1, st.2.2.1, st.2.2.2.1, st.2.2.2.2.1, st.2.2.2.2.2) else if (k == 4) = true then (st.1, st.2.1, st.2.2.1, st.2.2.2.1, (narB s).1, st.2.2.2.2.2) else
  if (k == 11) = true then (st.1, st.2.1, st.2.2.1, s, st.2.2.2.2.1, st.2.2.2.2.2) else if (k == 14) = true then (st.1, st.2.1, st.2.2.1, st.2.2.2.1, st.2.2.2.2.1, (narB s).1) else
  if (k == 38) = true then (st.1, st.2.1, trimP s 32, st.2.2.2.1, st.2.2.2.2.1, st.2.2.2.2.2) else if (k == 103) = true then (st.1, s, st.2.2.1, st.2.2.2.1, st.2.2.2.2.1, st.2.2.2.2.2) else st
def foldQ (l : List Field) : List Int → ReqS → Option ReqS
  | [], st => some st
  | k :: t, st => match fieldG l k with
    | none => none
    | some s => foldQ l t (stepQ st k s)
theorem impl_ReqOf_l0_val (m : Msg) (r8 : Int) (r9 : opRow) (hl : m.List.length ≤ 4000000) (hm : ∀ f ∈ m.List, f.Text.size ≤ 4000000) : ∀ (t : List Int) (st : ReqS),
    impl_ReqOf_l0 m r8 r9 t st.1 st.2.1 st.2.2.1 st.2.2.2.1 st.2.2.2.2.1 st.2.2.2.2.2 = some (match foldQ m.List t st with | none => .ret () | some s => .out s)
  | [], st => rfl
  | x :: t, st => by
    have ih := fun st' => impl_ReqOf_l0_val m r8 r9 hl hm t st'
    unfold impl_ReqOf_l0
    rw [foldQ]
    simp only [FieldOf_i m x hl, Option.bind_some]
    cases hq : fieldG m.List x with
    | none => simp [fieldR]
    | some s =>
      have hs : s.size ≤ 4000000 := by
        unfold fieldG at hq
        rw [Option.map_eq_some_iff] at hq
        obtain ⟨f, hf, rfl⟩ := hq
        exact hm f (List.mem_of_find?_eq_some hf)
      simp only [fieldR, if_true, Option.bind_some, Narrow_i s hs, FieldBare_i s hs]
      unfold stepQ
      rcases tf (x == 2) with a1 | a1
      · simp only [a1, if_true]
        exact ih (s, st.2.1, st.2.2.1, st.2.2.2.1, st.2.2.2.2.1, st.2.2.2.2.2)
      · rcases tf (x == 4) with a2 | a2
        · simp only [a1, a2, if_true, Bool.false_eq_true, if_false]
          exact ih (st.1, st.2.1, st.2.2.1, st.2.2.2.1, (narB s).1, st.2.2.2.2.2)
        · rcases tf (x == 11) with a3 | a3
          · simp only [a1, a2, a3, if_true, Bool.false_eq_true, if_false]
            exact ih (st.1, st.2.1, st.2.2.1, s, st.2.2.2.2.1, st.2.2.2.2.2)
          · rcases tf (x == 14) with a4 | a4
            · simp only [a1, a2, a3, a4, if_true, Bool.false_eq_true, if_false]
              exact ih (st.1, st.2.1, st.2.2.1, st.2.2.2.1, st.2.2.2.2.1, (narB s).1)
            · rcases tf (x == 38) with a5 | a5
              · simp only [a1, a2, a3, a4, a5, if_true, Bool.false_eq_true, if_false]
                exact ih (st.1, st.2.1, trimP s 32, st.2.2.2.1, st.2.2.2.2.1, st.2.2.2.2.2)
              · rcases tf (x == 103) with a6 | a6
                · simp only [a1, a2, a3, a4, a5, a6, if_true, Bool.false_eq_true, if_false]
                  exact ih (st.1, s, st.2.2.1, st.2.2.2.1, st.2.2.2.2.1, st.2.2.2.2.2)
                · simp only [a1, a2, a3, a4, a5, a6, Bool.false_eq_true, if_false]
                  exact ih st
def zeroS : ReqS := (ByteArray.empty, ByteArray.empty, ByteArray.empty, ByteArray.empty, 0, 0)
theorem foldQ_val (m : Msg) (op : Int) (h : op = 0 ∨ opB op = true) : foldQ m.List ([2, 11] ++ opF op) zeroS = (if (([2, 11] ++ opF op).all fun k => hasG m.List k) = true then some ((reqF m op).Acct, (reqF m op).Other, (reqF m op).Hold, (reqF m op).Trace, (reqF m op).Amount, (reqF m op).Ttl) else none) := by
  have gs : ∀ k, (∃ s, fieldG m.List k = some s ∧ hasG m.List k = true ∧ txG m.List k = s) ∨ (fieldG m.List k = none ∧ hasG m.List k = false) := fun k => by
    unfold hasG txG
    cases fieldG m.List k with
    | none => exact .inr ⟨rfl, rfl⟩
    | some s => exact .inl ⟨s, rfl, rfl, rfl⟩
  unfold reqF
  rcases gs 2 with ⟨s2, a2, b2, c2⟩ | ⟨a2, b2⟩
  · rcases gs 11 with ⟨s11, a11, b11, c11⟩ | ⟨a11, b11⟩
    · rcases gs 4 with ⟨s4, a4, b4, c4⟩ | ⟨a4, b4⟩ <;> rcases gs 14 with ⟨s14, a14, b14, c14⟩ | ⟨a14, b14⟩ <;> rcases gs 38 with ⟨s38, a38, b38, c38⟩ | ⟨a38, b38⟩ <;> rcases gs 103 with ⟨s103, a103, b103, c103⟩ | ⟨a103, b103⟩ <;>
      (rcases h with rfl | h
       · simp [foldQ, opF, stepQ, zeroS, holdB, amtB, opB, *]
       · rcases op_cases h with rfl | rfl | rfl | rfl | rfl | rfl | rfl | rfl <;> simp [foldQ, opF, stepQ, zeroS, holdB, amtB, opB, *])
    · rw [show [2, 11] ++ opF op = 2 :: 11 :: opF op from rfl]
      simp [foldQ, a2, a11, b11]
  · rw [show [2, 11] ++ opF op = 2 :: 11 :: opF op from rfl]
    simp [foldQ, a2, b2]
def reqOkG (q : Req) : Bool := rqOk q (rqB q)
theorem reqOkG_true {q : Req} (h1 : q.Trace.size ≤ 4000000) (h2 : q.Hold.size ≤ 4000000) (h : reqOkG q = true) : opB q.Op = true ∧ spec_AcctIdOk q.Acct = some true ∧ spec_Digits q.Trace = some true ∧ (holdB q.Op = true → spec_HoldIdOk q.Hold = some true) ∧ ((q.Op == 6) = true → spec_AcctIdOk q.Other = some true) := by
  obtain ⟨e3, e4, e5, e6⟩ := rqB_val q h1 h2
  have hr : rqOk q (rqB q) = true := h
  unfold rqOk at hr
  simp only [Bool.and_eq_true] at hr
  obtain ⟨⟨g1, g2, g3, g4, g5⟩, g6, g7, g8, g9⟩ := hr
  refine ⟨g1, by rw [e3, g3], by rw [e5, g4], fun hh => ?_, fun hh => ?_⟩
  · rw [if_pos hh] at g6; rw [e6, g6]
  · rw [if_pos hh] at g9; rw [e4, g9]
/-- The request of a message, and how that went. -/
def reqG (m : Msg) : Req × Int :=
  if msgB m = true then
    if mtiB m.Mti = true then
      if hasG m.List 3 = true then
        if ((([2, 11] ++ opF (whichG m.Mti ((txG m.List 3).extract 0 2))).all fun k => hasG m.List k) && reqOkG (reqF m (whichG m.Mti ((txG m.List 3).extract 0 2)))) = true then (reqF m (whichG m.Mti ((txG m.List 3).extract 0 2)), 0) else (noReq, 1)
      else (noReq, 1)
    else (noReq, 2)
  else (noReq, 1)
theorem txG_size {m : Msg} (h : msgB m = true) (no : Int) : (txG m.List no).size ≤ 60 ∧ (hasG m.List no = true → fok no (txG m.List no) = true) := by
  unfold msgB at h
  simp only [Bool.and_eq_true] at h
  obtain ⟨f1, _⟩ := msgL_asc h.2
  unfold txG hasG
  cases hq : fieldG m.List no with
  | none => exact ⟨by show (bs []).size ≤ 60; decide, fun h => by cases h⟩
  | some s =>
    unfold fieldG at hq
    rw [Option.map_eq_some_iff] at hq
    obtain ⟨f, hf, rfl⟩ := hq
    have hn : f.No = no := by have := List.find?_some hf; simpa using this
    have := f1 f (List.mem_of_find?_eq_some hf)
    rw [hn] at this
    exact ⟨(fok_kinds this).2.1, fun _ => this⟩
theorem three_size {m : Msg} (h : msgB m = true) (h3 : hasG m.List 3 = true) : 2 ≤ (txG m.List 3).size := by
  have := (fok_kinds ((txG_size h 3).2 h3)).2.2.2.1 (.inl rfl)
  have := this.2.1 rfl
  have e : fsize 3 = 6 := rfl
  omega
theorem txG_none {m : Msg} {no : Int} (h : hasG m.List no = false) : txG m.List no = bs [] := by
  unfold hasG at h
  unfold txG
  cases hq : fieldG m.List no with
  | none => rfl
  | some s => rw [hq] at h; cases h
theorem reqF_small {m : Msg} (h : msgB m = true) (op : Int) : (reqF m op).Trace.size ≤ 4000000 ∧ (reqF m op).Hold.size ≤ 4000000 := by
  have h1 := (txG_size h 11).1
  have h2 := (txG_size h 38).1
  have h3 := trimP_size (txG m.List 38)
  refine ⟨by show (txG m.List 11).size ≤ _; omega, ?_⟩
  show (if holdB op = true then trimP (txG m.List 38) 32 else ByteArray.empty).size ≤ _
  split
  · omega
  · decide
theorem ReqOf_i (m : Msg) (h0 : m.Mti.size ≤ 4000000) (hl : m.List.length ≤ 4000000) (hm : ∀ f ∈ m.List, f.Text.size ≤ 4000000) : impl_ReqOf m = some (reqG m) := by
  have hok := MsgOk_i m h0 hl hm
  unfold impl_ReqOf reqG
  rw [hok, MtiKnown_i]
  simp only [Option.bind_some]
  rcases tf (msgB m) with x | x
  · rcases tf (mtiB m.Mti) with y | y
    · simp only [x, y, if_true, Option.bind_some, FieldOf_i m 3 hl]
      show (if hasG m.List 3 = true then _ else _) = _
      rcases tf (hasG m.List 3) with z | z
      · have h2 := three_size x z
        obtain ⟨rows, w1, w2⟩ := impl_which_val m.Mti (txG m.List 3) m.List h2
        have hrng := whichG_range m.Mti ((txG m.List 3).extract 0 2)
        have ho8 : whichG m.Mti ((txG m.List 3).extract 0 2) = 0 ∨ (1 ≤ whichG m.Mti ((txG m.List 3).extract 0 2) ∧ whichG m.Mti ((txG m.List 3).extract 0 2) ≤ 8) := by
          rcases hrng with h | h
          · exact .inl h
          · unfold opB at h; simp at h; exact .inr h
        simp only [z, if_true, Option.bind_some, w1]
        show ((slices_IndexFunc_impl_opRow_impl_ReqOf_1 rows m.Mti m.List (txG m.List 3)).bind _) = _
        rw [w2, Option.bind_some]
        generalize whichG m.Mti ((txG m.List 3).extract 0 2) = op at *
        have e1 : i64 (1 + (op - 1)) = op := by rw [i64_of (by omega) (by omega)]; omega
        obtain ⟨r9, o1, o2⟩ := impl_opOf_fields op hrng
        have hfl : r9.fields.length ≤ 3 := by
          rw [o2]; unfold opF
          repeat' split
          all_goals simp
        have L := impl_ReqOf_l0_val m (op - 1) r9 hl hm ([2, 11] ++ r9.fields) zeroS
        have hcl : ([2, 11] ++ r9.fields).length ≤ 274877906944 := by rw [List.length_append]; show 2 + r9.fields.length ≤ _; omega
        rw [e1, o1, Option.bind_some, if_pos (capOk_of (show 2 + r9.fields.length ≤ 274877906944 by omega)), if_pos (capOk_of hcl)]
        rw [o2] at L ⊢
        rw [foldQ_val m op hrng] at L
        have L : impl_ReqOf_l0 m (op - 1) r9 ([2, 11] ++ opF op) ByteArray.empty ByteArray.empty ByteArray.empty ByteArray.empty 0 0 = _ := L
        rw [L]
        obtain ⟨q1, q2⟩ := reqF_small x op
        rcases tf (([2, 11] ++ opF op).all fun k => hasG m.List k) with g | g
        · simp only [g, if_true, Option.bind_some, Bool.true_and, Lo.elim]
          have hrq : (Req.mk op (reqF m op).Acct (reqF m op).Other (reqF m op).Hold (reqF m op).Trace m.Mti (reqF m op).Amount (reqF m op).Ttl) = reqF m op := rfl
          simp only [hrq, show impl_ReqOk (reqF m op) = some (reqOkG (reqF m op)) from ReqOk_i (reqF m op) q1 q2, Option.bind_some]
          rcases tf (reqOkG (reqF m op)) with u | u <;> simp only [u, if_true, Bool.false_eq_true, if_false, noReq]
        · simp only [g, Bool.false_eq_true, if_false, Option.bind_some, Bool.false_and, Lo.elim, noReq]
      · simp only [z, Bool.false_eq_true, if_false, noReq]
    · simp only [x, y, if_true, Bool.false_eq_true, if_false, Option.bind_some, noReq]
  · simp only [x, Bool.false_eq_true, if_false, noReq]
theorem bad_empty : spec_AcctIdOk (bs []) = some false ∧ spec_Digits (bs []) = some false ∧ spec_HoldIdOk (bs []) = some false ∧ trimP (bs []) 32 = bs [] := by decide +kernel
theorem ReqOf_s (m : Msg) (h0 : m.Mti.size ≤ 4000000) (hl : m.List.length ≤ 4000000) (hm : ∀ f ∈ m.List, f.Text.size ≤ 4000000) : spec_ReqOf m = some (reqG m) := by
  have hok := MsgOk_s m h0 hl hm
  unfold spec_ReqOf spec_ReqOf_c0 spec_ReqOf_c1 spec_ReqOf_c2 reqG
  rw [hok, MtiKnown_s]
  simp only [Option.bind_some]
  rcases tf (msgB m) with x | x
  · rcases tf (mtiB m.Mti) with y | y
    · simp only [x, y, if_true, Lo.elim, Option.bind_some, FieldOf_s m _ hl]
      show ((if hasG m.List 3 = true then some (Lo.out ()) else some (Lo.ret ())).bind _) = _
      rcases tf (hasG m.List 3) with z | z
      · have h2 := three_size x z
        have hrng := whichG_range m.Mti ((txG m.List 3).extract 0 2)
        simp only [z, if_true, Option.bind_some]
        show ((spec_l11Which m.Mti (txG m.List 3)).bind _) = _
        rw [spec_l11Which_val m.Mti (txG m.List 3) h2, Option.bind_some]
        generalize whichG m.Mti ((txG m.List 3).extract 0 2) = op at *
        have t38 := (txG_size x 38).1
        have t4 := (txG_size x 4).1
        have t14 := (txG_size x 14).1
        have c3 : spec_ReqOf_c3 m (fieldR (fieldG m.List 3)) op (fieldR (fieldG m.List 2)) (fieldR (fieldG m.List 11)) = some (reqF m op).Hold := by
          unfold spec_ReqOf_c3
          rw [l11Hold_val, Option.bind_some, FieldOf_s m 38 hl, Option.bind_some]
          show (if holdB op = true then (spec_FieldBare (txG m.List 38)).bind _ else _) = some (if holdB op = true then trimP (txG m.List 38) 32 else ByteArray.empty)
          rw [FieldBare_s _ (by omega)]
          rcases tf (holdB op) with u | u <;> simp only [u, if_true, Bool.false_eq_true, if_false, Option.bind_some]
        have c4 : ∀ w, spec_ReqOf_c4 m (fieldR (fieldG m.List 3)) op (fieldR (fieldG m.List 2)) (fieldR (fieldG m.List 11)) w = some ((if amtB op = true then hasG m.List 4 else true), (reqF m op).Amount) := fun w => by
          unfold spec_ReqOf_c4
          rw [l11Amount_val, Option.bind_some, FieldOf_s m 4 hl, Option.bind_some]
          show (if amtB op = true then (spec_Narrow (txG m.List 4)).bind (fun r16 => if hasG m.List 3 = true then some (hasG m.List 4, r16.1) else some (false, r16.1)) else some (hasG m.List 3, 0)) = some ((if amtB op = true then hasG m.List 4 else true), (if amtB op = true then (narB (txG m.List 4)).1 else 0))
          rw [Narrow_s _ (by omega), z]
          rcases tf (amtB op) with u | u <;> simp only [u, if_true, Bool.false_eq_true, if_false, Option.bind_some]
        have c5 : ∀ w b a, spec_ReqOf_c5 m op (fieldR (fieldG m.List 2)) (fieldR (fieldG m.List 11)) w (b, a) = some (b && (if (op == 1) = true then hasG m.List 14 else true), (reqF m op).Ttl) := fun w b a => by
          unfold spec_ReqOf_c5
          rw [FieldOf_s m 14 hl, Option.bind_some]
          show (if (op == 1) = true then (spec_Narrow (txG m.List 14)).bind (fun r19 => if b = true then some (hasG m.List 14, r19.1) else some (false, r19.1)) else some (b, 0)) = some (b && (if (op == 1) = true then hasG m.List 14 else true), (if (op == 1) = true then (narB (txG m.List 14)).1 else 0))
          rw [Narrow_s _ (by omega)]
          rcases tf (op == 1) with u | u <;> cases b <;> simp only [u, if_true, Bool.false_eq_true, if_false, Option.bind_some, Bool.true_and, Bool.false_and]
        have c6 : ∀ w p q, spec_ReqOf_c6 m op (fieldR (fieldG m.List 2)) (fieldR (fieldG m.List 11)) w p q = some (reqF m op).Other := fun w p q => by
          unfold spec_ReqOf_c6
          rw [FieldOf_s m 103 hl, Option.bind_some]
          show (if (op == 6) = true then some (txG m.List 103) else some ByteArray.empty) = some (if (op == 6) = true then txG m.List 103 else ByteArray.empty)
          rcases tf (op == 6) with u | u <;> simp only [u, if_true, Bool.false_eq_true, if_false]
        obtain ⟨q1, q2⟩ := reqF_small x op
        rw [c3]
        simp only [Option.bind_some, c4, c5, c6]
        unfold spec_ReqOf_c7
        have hrq : (Req.mk op (fieldR (fieldG m.List 2)).1 (reqF m op).Other (reqF m op).Hold (fieldR (fieldG m.List 11)).1 m.Mti (reqF m op).Amount (reqF m op).Ttl) = reqF m op := rfl
        simp only [hrq, show spec_ReqOk (reqF m op) = some (reqOkG (reqF m op)) from ReqOk_s (reqF m op) q1 q2, Option.bind_some]
        have key : (((if amtB op = true then hasG m.List 4 else true) && (if (op == 1) = true then hasG m.List 14 else true)) && reqOkG (reqF m op)) = ((([2, 11] ++ opF op).all fun k => hasG m.List k) && reqOkG (reqF m op)) := by
          rcases tf (reqOkG (reqF m op)) with u | u
          · rw [u, Bool.and_true, Bool.and_true]
            obtain ⟨g1, g2, g3, g4, g5⟩ := reqOkG_true q1 q2 u
            obtain ⟨z1, z2, z3, z4⟩ := bad_empty
            have k2 : hasG m.List 2 = true := by
              rcases tf (hasG m.List 2) with k | k
              · exact k
              · have : (reqF m op).Acct = bs [] := txG_none k
                rw [this, z1] at g2; cases g2
            have k11 : hasG m.List 11 = true := by
              rcases tf (hasG m.List 11) with k | k
              · exact k
              · have : (reqF m op).Trace = bs [] := txG_none k
                rw [this, z2] at g3; cases g3
            have k38 : holdB op = true → hasG m.List 38 = true := fun hh => by
              rcases tf (hasG m.List 38) with k | k
              · exact k
              · have g4 := g4 hh
                have : (reqF m op).Hold = bs [] := by
                  show (if holdB op = true then trimP (txG m.List 38) 32 else ByteArray.empty) = bs []
                  rw [if_pos hh, txG_none k, z4]
                rw [this, z3] at g4; cases g4
            have k103 : (op == 6) = true → hasG m.List 103 = true := fun hh => by
              rcases tf (hasG m.List 103) with k | k
              · exact k
              · have g5 := g5 hh
                have : (reqF m op).Other = bs [] := by
                  show (if (op == 6) = true then txG m.List 103 else ByteArray.empty) = bs []
                  rw [if_pos hh, txG_none k]
                rw [this, z1] at g5; cases g5
            have g1 : opB op = true := g1
            rcases op_cases g1 with rfl | rfl | rfl | rfl | rfl | rfl | rfl | rfl
            all_goals (first | have k38 := k38 rfl | skip)
            all_goals (first | have k103 := k103 rfl | skip)
            all_goals simp [opF, amtB, k2, k11, *]
          · rw [u, Bool.and_false, Bool.and_false]
        rw [← key]
        generalize ((if amtB op = true then hasG m.List 4 else true) && (if (op == 1) = true then hasG m.List 14 else true)) = ok
        generalize reqOkG (reqF m op) = rk
        cases ok <;> cases rk <;> simp only [if_true, Bool.false_eq_true, if_false, Option.bind_some, Bool.and_true, Bool.and_false, noReq]
      · simp only [z, Bool.false_eq_true, if_false, Option.bind_some, noReq]
    · simp only [x, y, if_true, Bool.false_eq_true, if_false, Lo.elim, Option.bind_some, noReq]
  · simp only [x, Bool.false_eq_true, if_false, Lo.elim, Option.bind_some, noReq]
theorem bcdG_mti {b : List Int} (hb : byB b) : (parseG b).1.Mti.size ≤ 4 := by
  unfold parseG
  have h0 : noMsg.Mti.size ≤ 4 := by decide
  cases hq : bcdG b 0 4 with
  | none => exact h0
  | some y =>
    obtain ⟨g1, g2, _⟩ := bcdG_some hb hq
    simp only
    split
    · exact h0
    · split
      · exact h0
      · split
        · exact h0
        · show y.1.size ≤ 4
          omega
abbrev K3 := ByteArray × ByteArray × ByteArray
theorem hasK (ks : List K3) (k : K3) : ks.contains k = true ↔ k ∈ ks := by
  haveI : LawfulBEq ByteArray := { eq_of_beq := fun {a b} h => by rw [beqB] at h; exact of_decide_eq_true h, rfl := fun {a} => by rw [beqB]; exact decide_eq_true rfl }
  exact List.contains_iff_mem
def okD (d : Done) : Bool := ((parseG d.Data).2 == 0) && ((reqG (parseG d.Data).1).2 == 0)
def k3 (q : Req) : K3 := (q.Acct, q.Trace, q.Mti)
def keyD (d : Done) : K3 := k3 (reqG (parseG d.Data).1).1
theorem ask_s (d : Done) (h : d.Data.length ≤ 1048576) (hb : byDone d) : ∃ q, spec_l20Req d.Data = some (q, okD d) ∧ (okD d = true → k3 q = keyD d) := by
  have p1 := Parse_s d.Data hb.1 (by omega)
  obtain ⟨z1, z2⟩ := parseG_small hb.1
  have z3 := bcdG_mti hb.1
  have q1 := ReqOf_s (parseG d.Data).1 (by omega) (by omega) (fun f hf => by have := z2 f hf; omega)
  unfold spec_l20Req okD keyD
  rw [p1]
  simp only [Option.bind_some, q1]
  rcases tf ((parseG d.Data).2 == 0) with u | u
  · have u' : ((parseG d.Data).2 != 0) = false := by unfold bne; rw [u]; rfl
    simp only [u, u', Bool.false_eq_true, if_false, Option.bind_some, Bool.true_and]
    exact ⟨_, rfl, fun _ => rfl⟩
  · have u' : ((parseG d.Data).2 != 0) = true := by unfold bne; rw [u]; rfl
    simp only [u, u', if_true, Bool.false_and]
    exact ⟨_, rfl, nofun⟩
theorem ask_i (d : Done) (h : d.Data.length ≤ 1048576) (hb : byDone d) : ∃ q, impl_requestOf d.Data = some (q, okD d) ∧ k3 q = keyD d := by
  have p2 := Parse_i d.Data hb.1 (by omega)
  obtain ⟨z1, z2⟩ := parseG_small hb.1
  have z3 := bcdG_mti hb.1
  have q2 := ReqOf_i (parseG d.Data).1 (by omega) (by omega) (fun f hf => by have := z2 f hf; omega)
  unfold impl_requestOf okD keyD
  rw [p2]
  simp only [Option.bind_some, q2]
  rcases tf ((parseG d.Data).2 == 0) with u | u
  · simp only [u, if_true, Bool.true_and]
    exact ⟨_, rfl, rfl⟩
  · simp only [u, Bool.false_eq_true, if_false, Bool.false_and]
    exact ⟨_, rfl, rfl⟩
def frL : List Done → List K3 → List Done
  | [], _ => []
  | d :: l, ks => if (okD d && !ks.contains (keyD d)) = true then d :: frL l (addK ks (keyD d)) else frL l ks
theorem wt_frL : ∀ (l : List Done) (ks : List K3), wtL wtDone (frL l ks) ≤ wtL wtDone l
  | [], ks => Nat.le_refl _
  | d :: l, ks => by
    unfold frL
    split
    · have := wt_frL l (addK ks (keyD d))
      simp only [wtL]; omega
    · have := wt_frL l ks
      simp only [wtL]; omega
def smD (d : Done) : Prop := d.Data.length ≤ 1048576 ∧ d.Reply.length ≤ 1048576 ∧ byDone d
theorem impl_Fresh_l0_val (l : List Done) : ∀ (t v : List Done) (ks : List K3), (∀ d ∈ t, smD d) → v.length + t.length ≤ 4000000 → impl_Fresh_l0 l t v ks = some (v ++ frL t ks)
  | [], v, ks, _, _ => by simp [impl_Fresh_l0, frL]
  | x :: t, v, ks, hs, hl => by
    simp only [List.length_cons] at hl
    obtain ⟨s1, s2, s3⟩ := hs x (by simp)
    obtain ⟨q, e1, e2⟩ := ask_i x s1 s3
    have i1 := fun ks => impl_Fresh_l0_val l t (v ++ [x]) ks (fun d hd => hs d (by simp [hd])) (by simp; omega)
    have i2 := impl_Fresh_l0_val l t v ks (fun d hd => hs d (by simp [hd])) (by omega)
    unfold impl_Fresh_l0 frL
    rw [e1]
    simp only [Option.bind_some]
    rw [show (q.Acct, q.Trace, q.Mti) = keyD x from e2]
    rcases tf (okD x) with u | u
    · rcases tf (ks.contains (keyD x)) with c | c
      · simp only [u, c, if_true, Bool.not_true, Bool.and_false, Bool.false_eq_true, if_false]
        exact i2
      · simp only [u, c, if_true, Bool.not_false, Bool.and_true, Bool.false_eq_true, if_false, capOk_of (show 0 + x.Data.length ≤ 274877906944 by omega), capOk_of (show 0 + x.Reply.length ≤ 274877906944 by omega), capOk_of (show v.length + 1 ≤ 274877906944 by omega)]
        rw [i1, List.append_assoc]
        rfl
    · simp only [u, Bool.false_and, Bool.false_eq_true, if_false]
      exact i2
theorem spec_Fresh_l1_val (o v p : List Done) (x : Done) (r : Req × Bool) : ∀ (t : List Done) (b : Bool), (∀ d ∈ t, smD d) → spec_Fresh_l1 o v p x r t b = some (b && !(t.any fun e => okD e && decide (keyD e = k3 r.1)))
  | [], b, _ => by simp [spec_Fresh_l1]
  | e :: t, b, hs => by
    obtain ⟨s1, s2, s3⟩ := hs e (by simp)
    obtain ⟨q, e1, e2⟩ := ask_s e s1 s3
    have ih := fun b => spec_Fresh_l1_val o v p x r t b (fun d hd => hs d (by simp [hd]))
    unfold spec_Fresh_l1
    rw [e1]
    simp only [Option.bind_some, ih, List.any_cons]
    rcases tf (okD e) with u | u
    · have e2 := e2 u
      have hk : decide (keyD e = k3 r.1) = ((q.Acct == r.1.Acct) && ((q.Trace == r.1.Trace) && (q.Mti == r.1.Mti))) := by
        rw [← e2, beqB, beqB, beqB]
        unfold k3
        simp only [Prod.mk.injEq, Bool.decide_and]
      rw [hk]
      simp only [u, if_true, Bool.true_and]
      generalize (q.Acct == r.1.Acct) = c1
      generalize (q.Trace == r.1.Trace) = c2
      generalize (q.Mti == r.1.Mti) = c3
      cases c1 <;> cases c2 <;> cases c3 <;> cases b <;> simp
    · simp only [u, Bool.false_and, Bool.false_or, Bool.false_eq_true, if_false]
theorem spec_Fresh_l0_val (o : List Done) (ho : o.length ≤ 4000000) : ∀ (t p v : List Done) (ks : List K3), o = p ++ t → (∀ d ∈ o, smD d) → (∀ k, k ∈ ks ↔ ∃ e ∈ p, okD e = true ∧ keyD e = k) → v.length + t.length ≤ 4000000 → spec_Fresh_l0 o t p v = some (v ++ frL t ks)
  | [], p, v, ks, _, _, _, _ => by simp [spec_Fresh_l0, frL]
  | x :: t, p, v, ks, he, hs, hk, hl => by
    simp only [List.length_cons] at hl
    obtain ⟨s1, s2, s3⟩ := hs x (by rw [he]; simp)
    obtain ⟨q, e1, e2⟩ := ask_s x s1 s3
    have hpl : p.length ≤ o.length := by rw [he]; simp
    have htk : (o.take ((p.length : Int).toNat)).drop 0 = p := by rw [he, Int.toNat_natCast, List.drop_zero, List.take_left']; rfl
    have ih := fun v ks => spec_Fresh_l0_val o ho t (p ++ [x]) v ks (by rw [he]; simp) hs
    have L := spec_Fresh_l1_val o v p x (q, okD x) p (okD x) (fun d hd => hs d (by rw [he]; simp [hd]))
    unfold spec_Fresh_l0 frL
    rw [e1]
    simp only [Option.bind_some, show decide (0 ≤ (p.length : Int)) = true from decide_eq_true (by omega), if_true, htk, capOk_of (show p.length ≤ 274877906944 by omega), L, show decide ((p.length : Int) ≤ (o.length : Int)) = true from decide_eq_true (by omega)]
    rcases tf (okD x) with u | u
    · have e2 := e2 u
      have hc : (p.any fun e => okD e && decide (keyD e = k3 q)) = ks.contains (keyD x) := by
        rw [e2]
        apply Bool.eq_iff_iff.2
        rw [List.any_eq_true, hasK, hk]
        simp only [Bool.and_eq_true, decide_eq_true_eq]
      rw [hc]
      rcases tf (ks.contains (keyD x)) with c | c
      · simp only [u, c, Bool.not_true, Bool.and_false, Bool.false_eq_true, if_false]
        refine ih v ks (fun k => ?_) (by omega)
        rw [hk]
        have hm := (hk (keyD x)).1 ((hasK ks _).1 c)
        constructor
        · rintro ⟨e, h1, h2⟩; exact ⟨e, by simp [h1], h2⟩
        · rintro ⟨e, h1, h2, h3⟩
          rcases List.mem_append.1 h1 with h1 | h1
          · exact ⟨e, h1, h2, h3⟩
          · simp at h1
            subst h1
            rw [← h3]; exact hm
      · simp only [u, c, Bool.not_false, Bool.and_true, if_true, capOk_of (show 0 + x.Data.length ≤ 274877906944 by omega), capOk_of (show 0 + x.Reply.length ≤ 274877906944 by omega), capOk_of (show v.length + 1 ≤ 274877906944 by omega)]
        rw [ih (v ++ [x]) (addK ks (keyD x)) (fun k => ?_) (by simp; omega), List.append_assoc]
        · rfl
        · unfold addK
          rw [if_neg (by rw [c]; simp), List.mem_append, hk]
          constructor
          · rintro (⟨e, h1, h2⟩ | h)
            · exact ⟨e, by simp [h1], h2⟩
            · simp only [List.mem_singleton] at h
              exact ⟨x, by simp, u, h.symm⟩
          · rintro ⟨e, h1, h2, h3⟩
            rcases List.mem_append.1 h1 with h1 | h1
            · exact .inl ⟨e, h1, h2, h3⟩
            · simp only [List.mem_singleton] at h1
              subst h1
              exact .inr (by simp [h3])
    · simp only [u, Bool.false_and, Bool.false_eq_true, if_false]
      refine ih v ks (fun k => ?_) (by omega)
      rw [hk]
      constructor
      · rintro ⟨e, h1, h2⟩; exact ⟨e, by simp [h1], h2⟩
      · rintro ⟨e, h1, h2, h3⟩
        rcases List.mem_append.1 h1 with h1 | h1
        · exact ⟨e, h1, h2, h3⟩
        · simp only [List.mem_singleton] at h1
          subst h1
          rw [u] at h2; cases h2
theorem Fresh_val (l : List Done) (h : wtL wtDone l ≤ 1048576) (hb : ∀ x ∈ l, byDone x) : ∃ y, spec_Fresh l = some y ∧ impl_Fresh l = some y ∧ wtL wtDone y ≤ 4000000 := by
  have hl := wtL_len wtDone l
  have hs : ∀ d ∈ l, smD d := fun d hd => by
    have hw := wtL_mem wtDone l d hd
    rw [wtDone_eq] at hw
    exact ⟨by omega, by omega, hb d hd⟩
  have hw := wt_frL l []
  refine ⟨frL l [], ?_, ?_, by omega⟩
  · unfold spec_Fresh
    rw [capOk_of (by omega), if_pos rfl, spec_Fresh_l0_val l (by omega) l [] [] [] rfl hs (by simp) (by simp; omega)]
    rfl
  · unfold impl_Fresh
    rw [capOk_of (by omega), if_pos rfl, impl_Fresh_l0_val l l [] [] hs (by simp; omega)]
    rfl
/-- A strict weak order. -/
def SwB {α : Type} (lt : α → α → Bool) : Prop := (∀ a b, lt a b = true → lt b a = false) ∧ ∀ a b c, lt a b = false → lt b c = false → lt a c = false
theorem SwB.trans {α : Type} {lt : α → α → Bool} (h : SwB lt) {a b c : α} (h1 : lt a b = true) (h2 : lt b c = true) : lt a c = true := by
  rcases hx : lt a c with _ | _
  · have := h.2 a c b hx (h.1 _ _ h2)
    rw [h1] at this; cases this
  · rfl
namespace Pure
theorem FnExactFresh (o : List Done) (h0 : W22 o) : laws_FnExactFresh o = some true := by
  unfold laws_FnExactFresh
  obtain ⟨r1, er1, gr1⟩ := szDoneS_val o 1048576 h0 (by omega) (by omega)
  rw [er1, Option.bind_some]
  by_cases cr1 : r1 < 0
  · simp only [cr1, decide_true, decide_false, Bool.false_eq_true, if_true, if_false]
  have gr1 := gr1 (by omega)
  simp only [cr1, decide_true, decide_false, Bool.false_eq_true, if_true, if_false]
  obtain ⟨y, f1, f2, f3⟩ := Fresh_val o (by omega) (fun x hx => (byDone_of x (h0.2 x hx)))
  have z0 := f3
  obtain ⟨k1, l1, m1, u1, b1, q1, d1⟩ := markDoneS_val o 1 (by omega) (by omega) (by omega)
  obtain ⟨k2, l2, m2, u2, b2, q2, d2⟩ := markDoneS_val y 1 (by omega) (by omega) (by omega)
  simp only [f1, f2, eqDoneS_rfl _ z0, toDoneS_val o (by omega), eqDoneS_rfl o (by omega), m1, show ¬ k1 < 0 by omega, m2, show ¬ k2 < 0 by omega, d2, Option.bind_some, decide_true, decide_false, Bool.false_eq_true, if_true, if_false, bne_rfl, beq_rfl, beq_self_eq_true]
end Pure
end Go.Proofs.YtniadckjgaldnaaGreatDoorM
