/- Laws of the plain functions. No condition. -/
import Derived.Test.YtaaiikopnadkeaaDoorAsOp
import Derived.Laws.StructEq
namespace Go.Proofs.YtaaiikopnadkeaaDoorM
set_option linter.unusedVariables false
set_option linter.unusedSimpArgs false
set_option maxRecDepth 100000
theorem i64_of {x : Int} (h : -9223372036854775808 ≤ x) (h2 : x ≤ 9223372036854775807) : i64 x = x := by unfold i64; rw [IntKind.wrap_i64]; omega
theorem i64_nn {x : Int} (h : 0 ≤ x) (h2 : x ≤ 9223372036854775807) : i64 x = x := i64_of (by omega) h2
theorem u8_of {x : Int} (h : 0 ≤ x) (h2 : x ≤ 255) : u8 x = x := by unfold u8 IntKind.wrap; simp [IntKind.bits, IntKind.signed]; omega
theorem capOk_of {n : Nat} (h : n ≤ 274877906944) : capOk n = true := decide_eq_true h
theorem beqB (a b : ByteArray) : (a == b) = decide (a = b) := by
  rcases a with ⟨a⟩
  rcases b with ⟨b⟩
  have h1 : ((⟨a⟩ : ByteArray) == ⟨b⟩) = (a == b) := rfl
  rw [h1]
  by_cases h : a = b
  · subst h; simp
  · have h2 : ¬ ((⟨a⟩ : ByteArray) = ⟨b⟩) := fun e => h (by cases e; rfl)
    rw [decide_eq_false h2]
    simpa using h
theorem tmod10 {x : Int} (h : 0 ≤ x) : Int.tmod x 10 = x % 10 := Int.tmod_eq_emod_of_nonneg h
theorem sub_val {left : Int} {n : Nat} (h0 : 0 ≤ left) (h1 : left ≤ 1048576) (hn : n ≤ 140737488351232) : i64 (left - (n : Int)) = left - n := i64_of (by omega) (by omega)
theorem set_take {α : Type} {v p : List α} {x : α} (hv : v.take p.length = p) (hl : p.length < v.length) : (v.set p.length x).take (p ++ [x]).length = p ++ [x] := by
  rw [List.length_append, List.length_cons, List.length_nil, List.take_add_one, List.take_set_of_le (Nat.le_refl _), hv]
  simp [hl]
theorem idx_some {α : Type} {v p : List α} (hl : p.length < v.length) : ∃ y, v[((p.length : Int)).toNat]? = some y := ⟨v[p.length], by simp [hl]⟩
theorem beq_rfl (s : ByteArray) : (s == s) = true := by rw [beqB]; simp
theorem bne_rfl (n : Int) : (n != n) = false := by simp
theorem mid_get {α : Type} {a p t : List α} {x : α} (e : a = p ++ x :: t) : a[((p.length : Int)).toNat]? = some x := by rw [e]; simp
theorem bstr_one (n : Int) : (bstr [n]).size = 1 := rfl
theorem size_app (a b : ByteArray) : (a ++ b).size = a.size + b.size := ByteArray.size_append
/-- The weight of a list: its length, and its elements' weights. -/
def wtL {α : Type} (f : α → Nat) : List α → Nat
  | [] => 0
  | x :: t => 1 + f x + wtL f t
def wtS {α : Type} (f : α → Nat) : List α → Nat
  | [] => 0
  | x :: t => f x + wtS f t
theorem wtL_eq {α : Type} (f : α → Nat) : ∀ l : List α, wtL f l = l.length + wtS f l
  | [] => rfl
  | x :: t => by simp only [wtL, wtS, List.length_cons]; rw [wtL_eq f t]; omega
theorem wtL_len {α : Type} (f : α → Nat) (l : List α) : l.length ≤ wtL f l := by rw [wtL_eq]; omega
theorem wtL_mem {α : Type} (f : α → Nat) : ∀ (l : List α) (x : α), x ∈ l → f x + 1 ≤ wtL f l
  | y :: t, x, h => by
    simp only [wtL]
    rcases List.mem_cons.1 h with rfl | h
    · omega
    · have := wtL_mem f t x h; omega
theorem wtL_filter {α : Type} (f : α → Nat) (q : α → Bool) : ∀ l : List α, wtL f (l.filter q) ≤ wtL f l
  | [] => by simp [wtL]
  | x :: t => by
    have := wtL_filter f q t
    rw [List.filter_cons]
    split <;> simp only [wtL] <;> omega
def wtHold (a : Hold) : Nat := a.Id.size
theorem wtHold_eq (a : Hold) : wtHold a = a.Id.size := rfl
theorem szHold_val (a : Hold) (left : Int) (hw : W120 a) (h0 : 0 ≤ left) (h1 : left ≤ 1048576) : ∃ r, laws_szHold a left = some r ∧ (0 ≤ r → r = left - (wtHold a : Nat)) := by
  unfold W120 at hw
  obtain ⟨w0, w1, w2⟩ := hw
  rw [wtHold_eq]
  unfold laws_szHold
  have b1 := w0
  unfold Ws at b1
  rw [sub_val (show 0 ≤ left by omega) (by omega) b1]
  by_cases c1 : (left - (a.Id.size : Int)) < 0
  · exact ⟨-1, by simp only [c1, decide_true, decide_false, Bool.false_eq_true, if_true, if_false, Option.bind_some], fun h => by omega⟩
  · simp only [c1, decide_true, decide_false, Bool.false_eq_true, if_true, if_false, Option.bind_some]
    exact ⟨_, rfl, fun _ => by omega⟩
theorem toHold_val (a : Hold) (h : wtHold a ≤ 4000000) : laws_toHold a = some a := by
  rw [wtHold_eq] at h
  unfold laws_toHold
  rfl
theorem eqHold_rfl (a : Hold) (h : wtHold a ≤ 4000000) : laws_eqHold a a = some true := by
  rw [wtHold_eq] at h
  unfold laws_eqHold
  simp only [beq_rfl, bne_rfl, Bool.false_eq_true, if_false, if_true, Option.bind_some]
theorem szHoldS_l0_val (a : List Hold) : ∀ (t : List Hold) (v : Int), 0 ≤ v → v ≤ 1048576 → (∀ x ∈ t, W120 x) → ∃ r, laws_szHoldS_l0 a t v = some r ∧ ∀ s, r = .out s → 0 ≤ s ∧ s = v - (wtS wtHold t : Nat)
  | [], v, h0, h1, _ => ⟨.out v, rfl, fun s e => by cases e; exact ⟨h0, by simp [wtS]⟩⟩
  | x :: t, v, h0, h1, hw => by
    obtain ⟨r, e1, e3⟩ := szHold_val x v (hw x (by simp)) h0 h1
    unfold laws_szHoldS_l0
    rw [e1, Option.bind_some]
    by_cases h : r < 0
    · exact ⟨.ret (), by simp [h], fun s e => by cases e⟩
    · have e3 := e3 (by omega)
      obtain ⟨z, f1, f2⟩ := szHoldS_l0_val a t r (by omega) (by omega) (fun y hy => hw y (by simp [hy]))
      refine ⟨z, by simp [h, f1], fun s e => ?_⟩
      obtain ⟨g1, g2⟩ := f2 s e
      exact ⟨g1, by rw [g2]; simp only [wtS]; omega⟩
theorem szHoldS_val (a : List Hold) (left : Int) (hw : W35 a) (h0 : 0 ≤ left) (h1 : left ≤ 1048576) : ∃ r, laws_szHoldS a left = some r ∧ (0 ≤ r → r = left - (wtL wtHold a : Nat)) := by
  unfold W35 Wl at hw
  have hl : a.length ≤ 140737488351232 := by have := hw.1; omega
  unfold laws_szHoldS
  rw [sub_val h0 h1 hl]
  by_cases h : left - (a.length : Int) < 0
  · exact ⟨-1, by simp [h], fun h => by omega⟩
  · obtain ⟨z, f1, f2⟩ := szHoldS_l0_val a a (left - a.length) (by omega) (by omega) hw.2
    simp only [h, decide_false, Bool.false_eq_true, if_false, capOk_of (show a.length ≤ 274877906944 by omega), if_true, f1, Option.bind_some]
    cases z with
    | ret u => exact ⟨-1, rfl, fun h => by omega⟩
    | out s =>
      obtain ⟨g1, g2⟩ := f2 s rfl
      exact ⟨s, rfl, fun _ => by rw [g2, wtL_eq]; omega⟩
theorem toHoldS_l0_val (a : List Hold) : ∀ (t p v : List Hold), a = p ++ t → (∀ s ∈ t, wtHold s ≤ 4000000) → v.length = a.length → v.take p.length = p → laws_toHoldS_l0 a t p v = some a
  | [], p, v, e, hs, hl, hv => by
    have : v = p := by rw [← hv, List.take_of_length_le (by rw [hl, e]; simp)]
    simp [laws_toHoldS_l0, this, e]
  | x :: t, p, v, e, hs, hl, hv => by
    have hlt : p.length < v.length := by rw [hl, e]; simp
    obtain ⟨y, hy⟩ := idx_some (v := v) hlt
    unfold laws_toHoldS_l0
    rw [toHold_val x (hs x (by simp)), Option.bind_some, hy, Option.bind_some, Int.toNat_natCast]
    exact toHoldS_l0_val a t (p ++ [x]) _ (by rw [e]; simp) (fun s hs' => hs s (by simp [hs'])) (by simp [hl]) (set_take hv hlt)
theorem toHoldS_val (a : List Hold) (h : wtL wtHold a ≤ 4000000) : laws_toHoldS a = some a := by
  have hl : a.length ≤ 4000000 := (by have := wtL_len wtHold a; omega)
  unfold laws_toHoldS
  simp only [Int.natCast_nonneg, decide_true, if_true, Int.toNat_natCast, capOk_of (show a.length ≤ 274877906944 by omega)]
  rw [toHoldS_l0_val a a [] _ rfl (fun s hs => by have := wtL_mem wtHold a s hs; omega) (by simp) rfl]
  rfl
theorem eqHoldS_l0_rfl (a : List Hold) : ∀ t p : List Hold, a = p ++ t → (∀ s ∈ t, wtHold s ≤ 4000000) → laws_eqHoldS_l0 a a t p = some (.out ())
  | [], p, e, _ => rfl
  | x :: t, p, e, hs => by
    unfold laws_eqHoldS_l0
    rw [mid_get e, Option.bind_some, eqHold_rfl x (hs x (by simp)), Option.bind_some]
    simpa using eqHoldS_l0_rfl a t (p ++ [x]) (by rw [e]; simp) (fun s hs' => hs s (by simp [hs']))
theorem eqHoldS_rfl (a : List Hold) (h : wtL wtHold a ≤ 4000000) : laws_eqHoldS a a = some true := by
  have hl : a.length ≤ 4000000 := (by have := wtL_len wtHold a; omega)
  unfold laws_eqHoldS
  rw [eqHoldS_l0_rfl a a [] rfl (fun s hs => by have := wtL_mem wtHold a s hs; omega), capOk_of (show a.length ≤ 274877906944 by omega)]
  simp only [bne_rfl, Bool.false_eq_true, if_false, if_true]
  rfl
theorem szIntS_val (a : List Int) (left : Int) (hw : W36 a) (h0 : 0 ≤ left) (h1 : left ≤ 1048576) : ∃ r, laws_szIntS a left = some r ∧ (0 ≤ r → r = left - (a.length : Nat)) := by
  unfold W36 Wl at hw
  have hl : a.length ≤ 140737488351232 := by have := hw.1; omega
  unfold laws_szIntS
  rw [sub_val h0 h1 hl]
  by_cases h : left - (a.length : Int) < 0
  · exact ⟨-1, by simp [h], fun h => by omega⟩
  · exact ⟨left - a.length, by simp [h], fun _ => rfl⟩
theorem toIntS_l0_val (a : List Int) : ∀ (t p v : List Int), a = p ++ t → v.length = a.length → v.take p.length = p → laws_toIntS_l0 a t p v = some a
  | [], p, v, e, hl, hv => by
    have : v = p := by rw [← hv, List.take_of_length_le (by rw [hl, e]; simp)]
    simp [laws_toIntS_l0, this, e]
  | x :: t, p, v, e, hl, hv => by
    have hlt : p.length < v.length := by rw [hl, e]; simp
    obtain ⟨y, hy⟩ := idx_some (v := v) hlt
    unfold laws_toIntS_l0
    rw [hy, Option.bind_some, Int.toNat_natCast]
    exact toIntS_l0_val a t (p ++ [x]) _ (by rw [e]; simp) (by simp [hl]) (set_take hv hlt)
theorem toIntS_val (a : List Int) (h : a.length ≤ 4000000) : laws_toIntS a = some a := by
  have hl : a.length ≤ 4000000 := h
  unfold laws_toIntS
  simp only [Int.natCast_nonneg, decide_true, if_true, Int.toNat_natCast, capOk_of (show a.length ≤ 274877906944 by omega)]
  rw [toIntS_l0_val a a [] _ rfl (by simp) rfl]
  rfl
theorem eqIntS_l0_rfl (a : List Int) : ∀ t p : List Int, a = p ++ t → laws_eqIntS_l0 a a t p = some (.out ())
  | [], p, e => rfl
  | x :: t, p, e => by
    unfold laws_eqIntS_l0
    rw [mid_get e, Option.bind_some]
    simp only [bne_rfl, beq_rfl, Bool.false_eq_true, if_false, if_true]
    exact eqIntS_l0_rfl a t (p ++ [x]) (by rw [e]; simp)
theorem eqIntS_rfl (a : List Int) (h : a.length ≤ 4000000) : laws_eqIntS a a = some true := by
  have hl : a.length ≤ 4000000 := h
  unfold laws_eqIntS
  rw [eqIntS_l0_rfl a a [] rfl, capOk_of (show a.length ≤ 274877906944 by omega)]
  simp only [bne_rfl, Bool.false_eq_true, if_false, if_true]
  rfl
def wtRing (a : Ring) : Nat := a.Counts.length + a.Sums.length
theorem wtRing_eq (a : Ring) : wtRing a = a.Counts.length + a.Sums.length := rfl
theorem szRing_val (a : Ring) (left : Int) (hw : W38 a) (h0 : 0 ≤ left) (h1 : left ≤ 1048576) : ∃ r, laws_szRing a left = some r ∧ (0 ≤ r → r = left - (wtRing a : Nat)) := by
  unfold W38 at hw
  obtain ⟨w0, w1, w2, w3⟩ := hw
  rw [wtRing_eq]
  unfold laws_szRing
  obtain ⟨r1, e1, g1⟩ := szIntS_val a.Counts left w2 (by omega) (by omega)
  simp only [e1, decide_true, decide_false, Bool.false_eq_true, if_true, if_false, Option.bind_some]
  by_cases c1 : r1 < 0
  · exact ⟨-1, by simp only [c1, decide_true, decide_false, Bool.false_eq_true, if_true, if_false, Option.bind_some], fun h => by omega⟩
  · have g1 := g1 (by omega)
    simp only [c1, decide_true, decide_false, Bool.false_eq_true, if_true, if_false, Option.bind_some]
    obtain ⟨r2, e2, g2⟩ := szIntS_val a.Sums r1 w3 (by omega) (by omega)
    simp only [e2, decide_true, decide_false, Bool.false_eq_true, if_true, if_false, Option.bind_some]
    by_cases c2 : r2 < 0
    · exact ⟨-1, by simp only [c2, decide_true, decide_false, Bool.false_eq_true, if_true, if_false, Option.bind_some], fun h => by omega⟩
    · have g2 := g2 (by omega)
      simp only [c2, decide_true, decide_false, Bool.false_eq_true, if_true, if_false, Option.bind_some]
      exact ⟨_, rfl, fun _ => by omega⟩
theorem toRing_val (a : Ring) (h : wtRing a ≤ 4000000) : laws_toRing a = some a := by
  rw [wtRing_eq] at h
  unfold laws_toRing
  simp only [toIntS_val a.Counts (by omega), toIntS_val a.Sums (by omega), Option.bind_some]
theorem eqRing_rfl (a : Ring) (h : wtRing a ≤ 4000000) : laws_eqRing a a = some true := by
  rw [wtRing_eq] at h
  unfold laws_eqRing
  simp only [eqIntS_rfl a.Counts (by omega), eqIntS_rfl a.Sums (by omega), beq_rfl, bne_rfl, Bool.false_eq_true, if_false, if_true, Option.bind_some]
theorem szByteS_val (a : List Int) (left : Int) (hw : W52 a) (h0 : 0 ≤ left) (h1 : left ≤ 1048576) : ∃ r, laws_szByteS a left = some r ∧ (0 ≤ r → r = left - (a.length : Nat)) := by
  unfold W52 Wl at hw
  have hl : a.length ≤ 140737488351232 := by have := hw.1; omega
  unfold laws_szByteS
  rw [sub_val h0 h1 hl]
  by_cases h : left - (a.length : Int) < 0
  · exact ⟨-1, by simp [h], fun h => by omega⟩
  · exact ⟨left - a.length, by simp [h], fun _ => rfl⟩
theorem toByteS_l0_val (a : List Int) : ∀ (t p v : List Int), a = p ++ t → v.length = a.length → v.take p.length = p → laws_toByteS_l0 a t p v = some a
  | [], p, v, e, hl, hv => by
    have : v = p := by rw [← hv, List.take_of_length_le (by rw [hl, e]; simp)]
    simp [laws_toByteS_l0, this, e]
  | x :: t, p, v, e, hl, hv => by
    have hlt : p.length < v.length := by rw [hl, e]; simp
    obtain ⟨y, hy⟩ := idx_some (v := v) hlt
    unfold laws_toByteS_l0
    rw [hy, Option.bind_some, Int.toNat_natCast]
    exact toByteS_l0_val a t (p ++ [x]) _ (by rw [e]; simp) (by simp [hl]) (set_take hv hlt)
theorem toByteS_val (a : List Int) (h : a.length ≤ 4000000) : laws_toByteS a = some a := by
  have hl : a.length ≤ 4000000 := h
  unfold laws_toByteS
  simp only [Int.natCast_nonneg, decide_true, if_true, Int.toNat_natCast, capOk_of (show a.length ≤ 274877906944 by omega)]
  rw [toByteS_l0_val a a [] _ rfl (by simp) rfl]
  rfl
theorem eqByteS_l0_rfl (a : List Int) : ∀ t p : List Int, a = p ++ t → laws_eqByteS_l0 a a t p = some (.out ())
  | [], p, e => rfl
  | x :: t, p, e => by
    unfold laws_eqByteS_l0
    rw [mid_get e, Option.bind_some]
    simp only [bne_rfl, beq_rfl, Bool.false_eq_true, if_false, if_true]
    exact eqByteS_l0_rfl a t (p ++ [x]) (by rw [e]; simp)
theorem eqByteS_rfl (a : List Int) (h : a.length ≤ 4000000) : laws_eqByteS a a = some true := by
  have hl : a.length ≤ 4000000 := h
  unfold laws_eqByteS
  rw [eqByteS_l0_rfl a a [] rfl, capOk_of (show a.length ≤ 274877906944 by omega)]
  simp only [bne_rfl, Bool.false_eq_true, if_false, if_true]
  rfl
def wtSlot (a : Slot) : Nat := a.Trace.size + a.Mti.size + a.Reply.length
theorem wtSlot_eq (a : Slot) : wtSlot a = a.Trace.size + a.Mti.size + a.Reply.length := rfl
theorem szSlot_val (a : Slot) (left : Int) (hw : W124 a) (h0 : 0 ≤ left) (h1 : left ≤ 1048576) : ∃ r, laws_szSlot a left = some r ∧ (0 ≤ r → r = left - (wtSlot a : Nat)) := by
  unfold W124 at hw
  obtain ⟨w0, w1, w2⟩ := hw
  rw [wtSlot_eq]
  unfold laws_szSlot
  have b1 := w0
  unfold Ws at b1
  rw [sub_val (show 0 ≤ left by omega) (by omega) b1]
  by_cases c1 : (left - (a.Trace.size : Int)) < 0
  · exact ⟨-1, by simp only [c1, decide_true, decide_false, Bool.false_eq_true, if_true, if_false, Option.bind_some], fun h => by omega⟩
  · simp only [c1, decide_true, decide_false, Bool.false_eq_true, if_true, if_false, Option.bind_some]
    have b2 := w1
    unfold Ws at b2
    rw [sub_val (show 0 ≤ (left - (a.Trace.size : Int)) by omega) (by omega) b2]
    by_cases c2 : (((left - (a.Trace.size : Int))) - (a.Mti.size : Int)) < 0
    · exact ⟨-1, by simp only [c2, decide_true, decide_false, Bool.false_eq_true, if_true, if_false, Option.bind_some], fun h => by omega⟩
    · simp only [c2, decide_true, decide_false, Bool.false_eq_true, if_true, if_false, Option.bind_some]
      obtain ⟨r3, e3, g3⟩ := szByteS_val a.Reply (((left - (a.Trace.size : Int))) - (a.Mti.size : Int)) w2 (by omega) (by omega)
      simp only [e3, decide_true, decide_false, Bool.false_eq_true, if_true, if_false, Option.bind_some]
      by_cases c3 : r3 < 0
      · exact ⟨-1, by simp only [c3, decide_true, decide_false, Bool.false_eq_true, if_true, if_false, Option.bind_some], fun h => by omega⟩
      · have g3 := g3 (by omega)
        simp only [c3, decide_true, decide_false, Bool.false_eq_true, if_true, if_false, Option.bind_some]
        exact ⟨_, rfl, fun _ => by omega⟩
theorem toSlot_val (a : Slot) (h : wtSlot a ≤ 4000000) : laws_toSlot a = some a := by
  rw [wtSlot_eq] at h
  unfold laws_toSlot
  simp only [toByteS_val a.Reply (by omega), Option.bind_some]
theorem eqSlot_rfl (a : Slot) (h : wtSlot a ≤ 4000000) : laws_eqSlot a a = some true := by
  rw [wtSlot_eq] at h
  unfold laws_eqSlot
  simp only [eqByteS_rfl a.Reply (by omega), beq_rfl, bne_rfl, Bool.false_eq_true, if_false, if_true, Option.bind_some]
theorem szSlotS_l0_val (a : List Slot) : ∀ (t : List Slot) (v : Int), 0 ≤ v → v ≤ 1048576 → (∀ x ∈ t, W124 x) → ∃ r, laws_szSlotS_l0 a t v = some r ∧ ∀ s, r = .out s → 0 ≤ s ∧ s = v - (wtS wtSlot t : Nat)
  | [], v, h0, h1, _ => ⟨.out v, rfl, fun s e => by cases e; exact ⟨h0, by simp [wtS]⟩⟩
  | x :: t, v, h0, h1, hw => by
    obtain ⟨r, e1, e3⟩ := szSlot_val x v (hw x (by simp)) h0 h1
    unfold laws_szSlotS_l0
    rw [e1, Option.bind_some]
    by_cases h : r < 0
    · exact ⟨.ret (), by simp [h], fun s e => by cases e⟩
    · have e3 := e3 (by omega)
      obtain ⟨z, f1, f2⟩ := szSlotS_l0_val a t r (by omega) (by omega) (fun y hy => hw y (by simp [hy]))
      refine ⟨z, by simp [h, f1], fun s e => ?_⟩
      obtain ⟨g1, g2⟩ := f2 s e
      exact ⟨g1, by rw [g2]; simp only [wtS]; omega⟩
theorem szSlotS_val (a : List Slot) (left : Int) (hw : W39 a) (h0 : 0 ≤ left) (h1 : left ≤ 1048576) : ∃ r, laws_szSlotS a left = some r ∧ (0 ≤ r → r = left - (wtL wtSlot a : Nat)) := by
  unfold W39 Wl at hw
  have hl : a.length ≤ 140737488351232 := by have := hw.1; omega
  unfold laws_szSlotS
  rw [sub_val h0 h1 hl]
  by_cases h : left - (a.length : Int) < 0
  · exact ⟨-1, by simp [h], fun h => by omega⟩
  · obtain ⟨z, f1, f2⟩ := szSlotS_l0_val a a (left - a.length) (by omega) (by omega) hw.2
    simp only [h, decide_false, Bool.false_eq_true, if_false, capOk_of (show a.length ≤ 274877906944 by omega), if_true, f1, Option.bind_some]
    cases z with
    | ret u => exact ⟨-1, rfl, fun h => by omega⟩
    | out s =>
      obtain ⟨g1, g2⟩ := f2 s rfl
      exact ⟨s, rfl, fun _ => by rw [g2, wtL_eq]; omega⟩
theorem toSlotS_l0_val (a : List Slot) : ∀ (t p v : List Slot), a = p ++ t → (∀ s ∈ t, wtSlot s ≤ 4000000) → v.length = a.length → v.take p.length = p → laws_toSlotS_l0 a t p v = some a
  | [], p, v, e, hs, hl, hv => by
    have : v = p := by rw [← hv, List.take_of_length_le (by rw [hl, e]; simp)]
    simp [laws_toSlotS_l0, this, e]
  | x :: t, p, v, e, hs, hl, hv => by
    have hlt : p.length < v.length := by rw [hl, e]; simp
    obtain ⟨y, hy⟩ := idx_some (v := v) hlt
    unfold laws_toSlotS_l0
    rw [toSlot_val x (hs x (by simp)), Option.bind_some, hy, Option.bind_some, Int.toNat_natCast]
    exact toSlotS_l0_val a t (p ++ [x]) _ (by rw [e]; simp) (fun s hs' => hs s (by simp [hs'])) (by simp [hl]) (set_take hv hlt)
theorem toSlotS_val (a : List Slot) (h : wtL wtSlot a ≤ 4000000) : laws_toSlotS a = some a := by
  have hl : a.length ≤ 4000000 := (by have := wtL_len wtSlot a; omega)
  unfold laws_toSlotS
  simp only [Int.natCast_nonneg, decide_true, if_true, Int.toNat_natCast, capOk_of (show a.length ≤ 274877906944 by omega)]
  rw [toSlotS_l0_val a a [] _ rfl (fun s hs => by have := wtL_mem wtSlot a s hs; omega) (by simp) rfl]
  rfl
theorem eqSlotS_l0_rfl (a : List Slot) : ∀ t p : List Slot, a = p ++ t → (∀ s ∈ t, wtSlot s ≤ 4000000) → laws_eqSlotS_l0 a a t p = some (.out ())
  | [], p, e, _ => rfl
  | x :: t, p, e, hs => by
    unfold laws_eqSlotS_l0
    rw [mid_get e, Option.bind_some, eqSlot_rfl x (hs x (by simp)), Option.bind_some]
    simpa using eqSlotS_l0_rfl a t (p ++ [x]) (by rw [e]; simp) (fun s hs' => hs s (by simp [hs']))
theorem eqSlotS_rfl (a : List Slot) (h : wtL wtSlot a ≤ 4000000) : laws_eqSlotS a a = some true := by
  have hl : a.length ≤ 4000000 := (by have := wtL_len wtSlot a; omega)
  unfold laws_eqSlotS
  rw [eqSlotS_l0_rfl a a [] rfl (fun s hs => by have := wtL_mem wtSlot a s hs; omega), capOk_of (show a.length ≤ 274877906944 by omega)]
  simp only [bne_rfl, Bool.false_eq_true, if_false, if_true]
  rfl
def wtAcct (a : Acct) : Nat := a.Id.size + wtL wtHold a.Holds + wtRing a.Ring + wtL wtSlot a.Slots
theorem wtAcct_eq (a : Acct) : wtAcct a = a.Id.size + wtL wtHold a.Holds + wtRing a.Ring + wtL wtSlot a.Slots := rfl
theorem szAcct_val (a : Acct) (left : Int) (hw : W41 a) (h0 : 0 ≤ left) (h1 : left ≤ 1048576) : ∃ r, laws_szAcct a left = some r ∧ (0 ≤ r → r = left - (wtAcct a : Nat)) := by
  unfold W41 at hw
  obtain ⟨w0, w1, w2, w3, w4, w5, w6, w7⟩ := hw
  rw [wtAcct_eq]
  unfold laws_szAcct
  have b1 := w0
  unfold Ws at b1
  rw [sub_val (show 0 ≤ left by omega) (by omega) b1]
  by_cases c1 : (left - (a.Id.size : Int)) < 0
  · exact ⟨-1, by simp only [c1, decide_true, decide_false, Bool.false_eq_true, if_true, if_false, Option.bind_some], fun h => by omega⟩
  · simp only [c1, decide_true, decide_false, Bool.false_eq_true, if_true, if_false, Option.bind_some]
    obtain ⟨r2, e2, g2⟩ := szHoldS_val a.Holds (left - (a.Id.size : Int)) w5 (by omega) (by omega)
    simp only [e2, decide_true, decide_false, Bool.false_eq_true, if_true, if_false, Option.bind_some]
    by_cases c2 : r2 < 0
    · exact ⟨-1, by simp only [c2, decide_true, decide_false, Bool.false_eq_true, if_true, if_false, Option.bind_some], fun h => by omega⟩
    · have g2 := g2 (by omega)
      simp only [c2, decide_true, decide_false, Bool.false_eq_true, if_true, if_false, Option.bind_some]
      obtain ⟨r3, e3, g3⟩ := szRing_val a.Ring r2 w6 (by omega) (by omega)
      simp only [e3, decide_true, decide_false, Bool.false_eq_true, if_true, if_false, Option.bind_some]
      by_cases c3 : r3 < 0
      · exact ⟨-1, by simp only [c3, decide_true, decide_false, Bool.false_eq_true, if_true, if_false, Option.bind_some], fun h => by omega⟩
      · have g3 := g3 (by omega)
        simp only [c3, decide_true, decide_false, Bool.false_eq_true, if_true, if_false, Option.bind_some]
        obtain ⟨r4, e4, g4⟩ := szSlotS_val a.Slots r3 w7 (by omega) (by omega)
        simp only [e4, decide_true, decide_false, Bool.false_eq_true, if_true, if_false, Option.bind_some]
        by_cases c4 : r4 < 0
        · exact ⟨-1, by simp only [c4, decide_true, decide_false, Bool.false_eq_true, if_true, if_false, Option.bind_some], fun h => by omega⟩
        · have g4 := g4 (by omega)
          simp only [c4, decide_true, decide_false, Bool.false_eq_true, if_true, if_false, Option.bind_some]
          exact ⟨_, rfl, fun _ => by omega⟩
theorem toAcct_val (a : Acct) (h : wtAcct a ≤ 4000000) : laws_toAcct a = some a := by
  rw [wtAcct_eq] at h
  unfold laws_toAcct
  simp only [toHoldS_val a.Holds (by omega), toRing_val a.Ring (by omega), toSlotS_val a.Slots (by omega), Option.bind_some]
theorem eqAcct_rfl (a : Acct) (h : wtAcct a ≤ 4000000) : laws_eqAcct a a = some true := by
  rw [wtAcct_eq] at h
  unfold laws_eqAcct
  simp only [eqHoldS_rfl a.Holds (by omega), eqRing_rfl a.Ring (by omega), eqSlotS_rfl a.Slots (by omega), beq_rfl, bne_rfl, Bool.false_eq_true, if_false, if_true, Option.bind_some]
theorem tf (b : Bool) : b = true ∨ b = false := by cases b <;> simp
theorem filter_loop {α : Type} {L : List α → List α → Option (List α)} (q : α → Bool) (h0 : ∀ v, L [] v = some v)
    (h1 : ∀ x t v, v.length + 1 ≤ 274877906944 → L (x :: t) v = if q x = true then L t (v ++ [x]) else L t v) :
    ∀ (t v : List α), v.length + t.length ≤ 274877906944 → L t v = some (v ++ t.filter q)
  | [], v, _ => by rw [h0]; simp
  | x :: t, v, h => by
    simp only [List.length_cons] at h
    rw [h1 x t v (by omega), List.filter_cons]
    cases q x with
    | true => simp only [if_true]; rw [filter_loop q h0 h1 t _ (by simp; omega)]; simp
    | false => simp only [Bool.false_eq_true, if_false]; rw [filter_loop q h0 h1 t _ (by omega)]
/-- Where the first one is, told behind p. -/
def found {α : Type} (q : α → Bool) (t p : List α) : Lo Unit Int := match t.findIdx? q with | some i => .ret ((p.length + i : Nat) : Int) | none => .out ()
theorem find_loop {α : Type} {L : List α → List α → Option (Lo Unit Int)} (q : α → Bool) (h0 : ∀ p, L [] p = some (.out ()))
    (h1 : ∀ x t p, L (x :: t) p = if q x = true then some (.ret (p.length : Int)) else L t (p ++ [x])) : ∀ (t p : List α), L t p = some (found q t p)
  | [], p => by rw [h0]; rfl
  | x :: t, p => by
    rw [h1, find_loop q h0 h1 t (p ++ [x])]
    unfold found
    rw [List.findIdx?_cons]
    cases q x with
    | true => simp
    | false =>
      simp only [Bool.false_eq_true, if_false]
      cases t.findIdx? q with
      | none => rfl
      | some i => simp only [Option.map_some, List.length_append, List.length_cons, List.length_nil]; congr 3; omega
/-- The index of the first one, or -1. -/
def idxOf {α : Type} (q : α → Bool) (l : List α) : Int := match l.findIdx? q with | some i => (i : Int) | none => -1
theorem found_nil {α : Type} (q : α → Bool) (l : List α) : (Lo.elim (found q l []) (fun _ => some (-1)) (fun i => some i) : Option Int) = some (idxOf q l) := by
  unfold found idxOf
  cases l.findIdx? q with
  | none => rfl
  | some i => simp [Lo.elim]
theorem del_loop {α : Type} (q : α → Bool) {L : Nat → Int → Int → List α → Option (Int × List α)}
    (hL : ∀ n v1 v2 v3, L (n + 1) v1 v2 v3 = if (decide (v2 < (v3.length : Int))) = true then (if (decide (0 ≤ v2)) = true then (v3[v2.toNat]?).bind fun x1 => if q x1 = true then L n v1 (i64 (v2 + 1)) v3 else (if (decide (0 ≤ v1)) = true then (v3[v1.toNat]?).bind fun x2 => L n (i64 (v1 + 1)) (i64 (v2 + 1)) (v3.set v1.toNat x1) else none) else none) else some (v1, v3))
    (s : List α) (hs : s.length ≤ 4000000) : ∀ (n v1 v2 : Nat) (v3 : List α), v1 ≤ v2 → v2 ≤ s.length → v3.length = s.length → v3.take v1 = (s.take v2).filter (fun x => !q x) → v3.drop v2 = s.drop v2 → s.length - v2 < n →
    ∃ (k : Nat) (v' : List α), L n (v1 : Int) (v2 : Int) v3 = some ((k : Int), v') ∧ k ≤ v'.length ∧ v'.length ≤ s.length ∧ v'.take k = s.filter (fun x => !q x)
  | 0, v1, v2, v3, h1, h2, h3, h4, h5, hn => by omega
  | n + 1, v1, v2, v3, h1, h2, h3, h4, h5, hn => by
    rw [hL]
    by_cases hlt : v2 < s.length
    · have hv : v2 < v3.length := by omega
      have hx : v3[v2]? = s[v2]? := by
        have e1 : (v3.drop v2)[0]? = (s.drop v2)[0]? := by rw [h5]
        rw [List.getElem?_drop, List.getElem?_drop] at e1
        simpa using e1
      have hsx : s[v2]? = some s[v2] := List.getElem?_eq_getElem hlt
      rw [hsx] at hx
      generalize hxe : s[v2] = x at *
      have hi2 : i64 ((v2 : Int) + 1) = ((v2 + 1 : Nat) : Int) := by rw [i64_of (by omega) (by omega)]; omega
      have hi1 : i64 ((v1 : Int) + 1) = ((v1 + 1 : Nat) : Int) := by rw [i64_of (by omega) (by omega)]; omega
      have hc1 : ((v2 : Int) < (v3.length : Int)) := by omega
      have htk : s.take (v2 + 1) = s.take v2 ++ [x] := by rw [List.take_add_one, hsx]; rfl
      have hd3 : v3.drop (v2 + 1) = s.drop (v2 + 1) := by rw [← List.drop_drop, ← List.drop_drop, h5]
      simp only [hc1, decide_true, if_true, Int.natCast_nonneg, Int.toNat_natCast, hx, Option.bind_some, hi1, hi2]
      cases hlx : q x with
      | true =>
        obtain ⟨k, v', q1, q2⟩ := del_loop q hL s hs n v1 (v2 + 1) v3 (by omega) (by omega) h3 (by rw [h4, htk, List.filter_append]; simp [hlx]) hd3 (by omega)
        exact ⟨k, v', by simpa using q1, q2⟩
      | false =>
        have hv1 : v1 < v3.length := by omega
        have hg1 : v3[v1]? = some v3[v1] := List.getElem?_eq_getElem hv1
        obtain ⟨k, v', q1, q2⟩ := del_loop q hL s hs n (v1 + 1) (v2 + 1) (v3.set v1 x) (by omega) (by omega) (by simp [h3]) (by
          rw [htk, List.filter_append, List.take_add_one, List.take_set_of_le (by omega)]
          simp [hlx, h4, hv1]) (by rw [List.drop_set_of_lt (by omega)]; exact hd3) (by omega)
        exact ⟨k, v', by simpa [hg1] using q1, q2⟩
    · have hc1 : ¬ ((v2 : Int) < (v3.length : Int)) := by omega
      have : v2 = s.length := by omega
      subst this
      refine ⟨v1, v3, by simp [hc1], by omega, by omega, by rw [h4, List.take_length]⟩
theorem del_main {α : Type} (q : α → Bool) (z : α) {L : Nat → Int → Int → List α → Option (Int × List α)}
    (hL : ∀ n v1 v2 v3, L (n + 1) v1 v2 v3 = if (decide (v2 < (v3.length : Int))) = true then (if (decide (0 ≤ v2)) = true then (v3[v2.toNat]?).bind fun x1 => if q x1 = true then L n v1 (i64 (v2 + 1)) v3 else (if (decide (0 ≤ v1)) = true then (v3[v1.toNat]?).bind fun x2 => L n (i64 (v1 + 1)) (i64 (v2 + 1)) (v3.set v1.toNat x1) else none) else none) else some (v1, v3))
    (l : List α) (h : l.length ≤ 4000000) :
    (if (idxOf q l == (-1)) = true then some l else (L FUEL (idxOf q l) (i64 (idxOf q l + 1)) l).bind fun r3 =>
      if (decide (0 ≤ r3.1)) = true then (if (decide (r3.1 ≤ (r3.2.length : Int))) = true then
        (if (decide (r3.1 ≤ ((r3.2.take r3.1.toNat ++ (List.replicate (r3.2.length - r3.1.toNat) z ++ r3.2.drop (r3.1.toNat + (r3.2.length - r3.1.toNat)))).length : Int))) = true then
          some ((r3.2.take r3.1.toNat ++ (List.replicate (r3.2.length - r3.1.toNat) z ++ r3.2.drop (r3.1.toNat + (r3.2.length - r3.1.toNat)))).take r3.1.toNat)
        else none) else none) else none) = some (l.filter (fun x => !q x)) := by
  unfold idxOf
  cases hi : l.findIdx? q with
  | none =>
    rw [List.findIdx?_eq_none_iff] at hi
    have : l.filter (fun x => !q x) = l := List.filter_eq_self.2 fun x hx => by simpa using hi x hx
    simp [this]
  | some i =>
    obtain ⟨hlt, hp, hb⟩ := List.findIdx?_eq_some_iff_getElem.1 hi
    have hne : ((i : Int) == -1) = false := by rw [beq_eq_false_iff_ne]; omega
    have hi1 : i64 ((i : Int) + 1) = ((i + 1 : Nat) : Int) := by rw [i64_of (by omega) (by omega)]; omega
    have hpre : (l.take i).filter (fun x => !q x) = l.take i := List.filter_eq_self.2 fun x hx => by
      obtain ⟨j, hj, rfl⟩ := List.mem_iff_getElem.1 hx
      simp only [List.length_take] at hj
      have := hb j (by omega)
      rw [List.getElem_take]
      simpa using this
    obtain ⟨k, v', q1, q2, q3, q4⟩ := del_loop q hL l h FUEL i (i + 1) l (by omega) (by omega) rfl (by
      rw [List.take_add_one, List.filter_append, hpre, List.getElem?_eq_getElem hlt]
      simp [hp]) rfl (by unfold FUEL; omega)
    simp only [hne, Bool.false_eq_true, if_false, hi1]
    rw [q1]
    have hk : ((k : Int) ≤ (v'.length : Int)) := by omega
    have hlen : (v'.take k ++ (List.replicate (v'.length - k) z ++ v'.drop (k + (v'.length - k)))).length = v'.length := by simp; omega
    have htk : (v'.take k ++ (List.replicate (v'.length - k) z ++ v'.drop (k + (v'.length - k)))).take k = v'.take k := by
      rw [List.take_append_of_le_length (by simp; omega), List.take_take, Nat.min_self]
    simp only [Option.bind_some, Int.natCast_nonneg, decide_true, if_true, hk, Int.toNat_natCast, hlen, htk]
    exact congrArg some q4
theorem l01In_val (n lo hi : Int) : spec_l01In n lo hi = some (decide (lo ≤ n) && decide (n ≤ hi)) := by
  unfold spec_l01In
  by_cases h : lo ≤ n <;> simp [h]
theorem within_val (n lo hi : Int) : impl_within n lo hi = some (decide (lo ≤ n) && decide (n ≤ hi)) := by
  unfold impl_within
  by_cases h : lo ≤ n <;> simp [h]
def time (n : Int) : Bool := decide (0 ≤ n) && decide (n ≤ 1000000000)
theorem l06Time_val (n : Int) : spec_l06Time n = some (time n) := by unfold spec_l06Time; rw [l01In_val]; rfl
theorem isTime_val (n : Int) : impl_isTime n = some (time n) := by unfold impl_isTime; rw [within_val]; rfl
def money (n : Int) : Bool := decide (0 ≤ n) && decide (n ≤ 4611686018427387904)
theorem l01Money_val (n : Int) : spec_l01Money n = some (money n) := by
  unfold spec_l01Money money
  by_cases h : 0 ≤ n <;> simp [h]
theorem isMoney_val (n : Int) : impl_isMoney n = some (money n) := by unfold impl_isMoney; rw [within_val]; rfl
theorem spec_Digits_l0_tot (s : ByteArray) (hs : s.size ≤ 4000000) : ∀ (n : Nat) (v : Int), 0 ≤ v → v ≤ s.size → (s.size : Int) - v < n →
    ∃ y, spec_Digits_l0 s n v = some y ∧ impl_Digits_l0 s n v = some y ∧ ∀ u, y = .out u → ∀ i : Int, v ≤ i → i < s.size → 48 ≤ sAt s i ∧ sAt s i ≤ 57
  | 0, v, h0, hv, hn => by exfalso; omega
  | n + 1, v, h0, hv, hn => by
    unfold spec_Digits_l0 impl_Digits_l0
    by_cases h1 : v < (s.size : Int)
    · by_cases h2 : sAt s v < 48
      · exact ⟨.ret (), by simp [h1, h0, h2], by simp [h1, h0, h2], fun u e => by cases e⟩
      · by_cases h3 : 57 < sAt s v
        · exact ⟨.ret (), by simp [h1, h0, h2, h3], by simp [h1, h0, h2, h3], fun u e => by cases e⟩
        · have hi : i64 (v + 1) = v + 1 := i64_nn (by omega) (by omega)
          obtain ⟨y, e1, e2, e3⟩ := spec_Digits_l0_tot s hs n (v + 1) (by omega) (by omega) (by omega)
          refine ⟨y, by simp [h1, h0, h2, h3, hi, e1], by simp [h1, h0, h2, h3, hi, e2], fun u e i hv hi' => ?_⟩
          by_cases hiv : i = v
          · subst hiv; omega
          · exact e3 u e i (by omega) hi'
    · exact ⟨.out (), by simp [h1], by simp [h1], fun u _ i hv hi => by omega⟩
theorem beq_empty (s : ByteArray) : (s == bs []) = decide (s.size = 0) := by
  rw [beqB]
  by_cases h : s.size = 0
  · have : s = bs [] := by
      rcases s with ⟨d⟩
      have hd : d.size = 0 := h
      have : d = #[] := Array.eq_empty_of_size_eq_zero hd
      subst this; rfl
    rw [decide_eq_true h, decide_eq_true this]
  · rw [decide_eq_false h, decide_eq_false (fun e => h (by rw [e]; rfl))]
theorem Digits_tot (s : ByteArray) (hs : s.size ≤ 4000000) : ∃ b, spec_Digits s = some b ∧ impl_Digits s = some b ∧ (b = true → 0 < s.size ∧ ∀ i : Int, 0 ≤ i → i < s.size → 48 ≤ sAt s i ∧ sAt s i ≤ 57) := by
  obtain ⟨y, e1, e2, e3⟩ := spec_Digits_l0_tot s hs FUEL 0 (by omega) (by omega) (by unfold FUEL; omega)
  unfold spec_Digits impl_Digits
  rw [e1, e2]
  cases y with
  | ret u => exact ⟨false, rfl, rfl, fun h => by cases h⟩
  | out u =>
    refine ⟨decide (0 < (s.size : Int)), rfl, ?_, fun h => ⟨by have := of_decide_eq_true h; omega, fun i h0 hi => e3 u rfl i h0 hi⟩⟩
    simp only [Option.bind_some, Lo.elim, beq_empty]
    congr 1
    by_cases h : s.size = 0
    · simp [h]
    · rw [decide_eq_false h, decide_eq_true (show (0 : Int) < s.size by omega)]; rfl
theorem Luhn_l0_tot (s : ByteArray) (hs : s.size ≤ 4000000) (hd : ∀ i : Int, 0 ≤ i → i < s.size → 48 ≤ sAt s i ∧ sAt s i ≤ 57) : ∀ (n : Nat) (v w : Int) (b : Bool) (k : Int), k + 1 < n → -1 ≤ k → k < s.size → 0 ≤ v → v + 9 * (k + 1) ≤ 100000000 → w = v % 10 →
    ∃ y, impl_Luhn_l0 s n v b k = some y ∧ spec_Luhn_l0 s n w b k = some (y % 10) ∧ 0 ≤ y ∧ y ≤ 100000000
  | 0, v, w, b, k, hn, hk, hks, hv, hb, hw => by
    exfalso; omega
  | n + 1, v, w, b, k, hn, hk, hks, hv, hb, hw => by
    unfold impl_Luhn_l0 spec_Luhn_l0
    by_cases h0 : 0 ≤ k
    · obtain ⟨d1, d2⟩ := hd k h0 hks
      have hk1 : i64 (k - 1) = k - 1 := i64_of (by omega) (by omega)
      have hu : u8 (sAt s k - 48) = sAt s k - 48 := u8_of (by omega) (by omega)
      have hi : i64 (sAt s k - 48) = sAt s k - 48 := i64_of (by omega) (by omega)
      have hi2 : i64 (sAt s k) = sAt s k := i64_of (by omega) (by omega)
      have hi3 : i64 ((sAt s k - 48) * 2) = (sAt s k - 48) * 2 := i64_of (by omega) (by omega)
      have hi4 : i64 (2 * (sAt s k - 48)) = (sAt s k - 48) * 2 := by rw [Int.mul_comm]; exact hi3
      have hd0 : 0 ≤ sAt s k - 48 ∧ sAt s k - 48 ≤ 9 := by omega
      simp only [hk1, hu, hi2, hi, hi3, hi4]
      generalize sAt s k - 48 = d at *
      obtain ⟨g0, g9⟩ := hd0
      have hm : ∀ x, 0 ≤ x → x ≤ 9 → i64 (v + x) = v + x ∧ i64 (w + x) = w + x ∧ Int.tmod (w + x) 10 = (v + x) % 10 := fun x hx hx9 => by
        refine ⟨i64_of (by omega) (by omega), i64_of (by omega) (by omega), ?_⟩
        rw [tmod10 (by omega)]; omega
      by_cases hb' : b = true
      · by_cases h9 : 9 < d * 2
        · have h9' : i64 (d * 2 - 9) = d * 2 - 9 := i64_of (by omega) (by omega)
          obtain ⟨m1, m2, m3⟩ := hm (d * 2 - 9) (by omega) (by omega)
          obtain ⟨y, e1, e2, e3⟩ := Luhn_l0_tot s hs hd n (v + (d * 2 - 9)) ((v + (d * 2 - 9)) % 10) (!b) (k - 1) (by omega) (by omega) (by omega) (by omega) (by omega) rfl
          exact ⟨y, by simp only [h0, hks, hb', h9, h9', m1, m2, m3, decide_true, if_true]; rw [hb'] at e1; exact e1, by simp only [h0, hks, hb', h9, h9', m1, m2, m3, decide_true, if_true]; rw [hb'] at e2; exact e2, e3⟩
        · obtain ⟨m1, m2, m3⟩ := hm (d * 2) (by omega) (by omega)
          obtain ⟨y, e1, e2, e3⟩ := Luhn_l0_tot s hs hd n (v + d * 2) ((v + d * 2) % 10) (!b) (k - 1) (by omega) (by omega) (by omega) (by omega) (by omega) rfl
          exact ⟨y, by simp only [h0, hks, hb', h9, m1, m2, m3, decide_true, decide_false, if_true, Bool.false_eq_true, if_false]; rw [hb'] at e1; exact e1, by simp only [h0, hks, hb', h9, m1, m2, m3, decide_true, decide_false, if_true, Bool.false_eq_true, if_false]; rw [hb'] at e2; exact e2, e3⟩
      · have hbf : b = false := by simpa using hb'
        obtain ⟨m1, m2, m3⟩ := hm d (by omega) (by omega)
        obtain ⟨y, e1, e2, e3⟩ := Luhn_l0_tot s hs hd n (v + d) ((v + d) % 10) (!b) (k - 1) (by omega) (by omega) (by omega) (by omega) (by omega) rfl
        exact ⟨y, by simp only [h0, hks, hbf, m1, m2, m3, decide_true, if_true, Bool.false_eq_true, if_false]; rw [hbf] at e1; exact e1, by simp only [h0, hks, hbf, m1, m2, m3, decide_true, if_true, Bool.false_eq_true, if_false]; rw [hbf] at e2; exact e2, e3⟩
    · exact ⟨v, by simp [h0], by simp [h0, hw], hv, by omega⟩
theorem Luhn_tot (s : ByteArray) (hs : s.size ≤ 4000000) : ∃ y, spec_Luhn s = some y ∧ impl_Luhn s = some y := by
  obtain ⟨b, e1, e2, e3⟩ := Digits_tot s hs
  unfold spec_Luhn impl_Luhn
  rw [e1, e2]
  cases b with
  | false => exact ⟨-1, rfl, rfl⟩
  | true =>
    obtain ⟨hp, hd⟩ := e3 rfl
    have hi : i64 ((s.size : Int) - 1) = (s.size : Int) - 1 := i64_of (by omega) (by omega)
    obtain ⟨y, q1, q2, q3, q4⟩ := Luhn_l0_tot s hs hd FUEL 0 0 true ((s.size : Int) - 1) (by unfold FUEL; omega) (by omega) (by omega) (by omega) (by omega) rfl
    refine ⟨Int.tmod (i64 (10 - y % 10)) 10, ?_, ?_⟩
    · simp only [Option.bind_some, if_true, hi, q2]
    · simp only [Option.bind_some, if_true, hi, q1, tmod10 q3]
theorem LuhnOk_eq (s : ByteArray) (hs : s.size ≤ 4000000) : ∃ y, spec_LuhnOk s = some y ∧ impl_LuhnOk s = some y := by
  obtain ⟨b, e1, e2, e3⟩ := Digits_tot s hs
  unfold spec_LuhnOk impl_LuhnOk
  have hi : i64 ((s.size : Int) - 1) = (s.size : Int) - 1 := i64_of (by omega) (by omega)
  rw [e1, e2, hi]
  by_cases h2 : (s.size : Int) < 2
  · have h1 : ¬ 1 ≤ (s.size : Int) - 1 := by omega
    refine ⟨false, ?_, by simp [h1]⟩
    cases b <;> simp [h2]
  · have h1 : 1 ≤ (s.size : Int) - 1 := by omega
    cases b with
    | false => exact ⟨false, by simp, by simp [h1]⟩
    | true =>
      obtain ⟨hp, hd⟩ := e3 rfl
      obtain ⟨d1, d2⟩ := hd ((s.size : Int) - 1) (by omega) (by omega)
      obtain ⟨y, q1, q2⟩ := Luhn_tot (s.extract 0 ((s.size : Int) - 1).toNat) (by simp; omega)
      have c1 : (0 : Int) ≤ (s.size : Int) - 1 := by omega
      have c2 : (s.size : Int) - 1 ≤ s.size := by omega
      have c3 : (s.size : Int) - 1 < s.size := by omega
      have hu : u8 (sAt s ((s.size : Int) - 1) - 48) = sAt s ((s.size : Int) - 1) - 48 := u8_of (by omega) (by omega)
      have hi2 : i64 (sAt s ((s.size : Int) - 1)) = sAt s ((s.size : Int) - 1) := i64_of (by omega) (by omega)
      refine ⟨y == i64 (sAt s ((s.size : Int) - 1) - 48), ?_, ?_⟩
      · simp only [Option.bind_some, if_true, h2, decide_false, Bool.false_eq_true, if_false, c1, c2, c3, decide_true, q1, hi2]
      · simp only [Option.bind_some, if_true, h1, c1, c2, c3, decide_true, q2, hu]
theorem AcctIdOk_eq (s : ByteArray) : ∃ y, spec_AcctIdOk s = some y ∧ impl_AcctIdOk s = some y ∧ (y = true → s.size ≤ 19) := by
  unfold spec_AcctIdOk impl_AcctIdOk
  by_cases h : (s.size : Int) ≤ 19
  · obtain ⟨y, e1, e2⟩ := LuhnOk_eq s (by omega)
    exact ⟨y, by simp [h, e1], by simp [h, e2], fun _ => by omega⟩
  · exact ⟨false, by simp [h], by simp [h], fun e => by cases e⟩
theorem HoldIdOk_l0_eq : ∀ (s : ByteArray) (n : Nat) (v : Int), impl_HoldIdOk_l0 s n v = spec_HoldIdOk_l0 s n v
  | s, 0, v => rfl
  | s, n + 1, v => by unfold impl_HoldIdOk_l0 spec_HoldIdOk_l0; simp only [HoldIdOk_l0_eq s n]
theorem HoldIdOk_l0_tot (s : ByteArray) (hs : s.size ≤ 4000000) : ∀ (n : Nat) (v : Int), 0 ≤ v → v ≤ s.size → (s.size : Int) - v < n → ∃ y, spec_HoldIdOk_l0 s n v = some y
  | 0, v, h0, hv, hn => by exfalso; omega
  | n + 1, v, h0, hv, hn => by
    unfold spec_HoldIdOk_l0
    by_cases h1 : v < (s.size : Int)
    · have hi : i64 (v + 1) = v + 1 := i64_nn (by omega) (by omega)
      obtain ⟨y, e⟩ := HoldIdOk_l0_tot s hs n (v + 1) (by omega) (by omega) (by omega)
      simp only [h1, h0, decide_true, if_true, hi, e]
      repeat' split
      all_goals exact ⟨_, rfl⟩
    · exact ⟨.out (), by simp [h1]⟩
theorem bytesLess_flip : ∀ a b : List UInt8, Op.bytesLess b a = !(Op.bytesLess a b || a == b)
  | [], [] => rfl
  | [], _ :: _ => rfl
  | _ :: _, [] => rfl
  | a :: x, b :: y => by
    have ih := bytesLess_flip x y
    unfold Op.bytesLess
    rw [ih]
    by_cases h1 : a < b
    · have h2 : ¬ b < a := by have := UInt8.lt_iff_toNat_lt.1 h1; intro h; have := UInt8.lt_iff_toNat_lt.1 h; omega
      have h3 : ¬ b = a := by intro e; subst e; exact h2 h1
      simp [h1, h2, h3]
    · by_cases h2 : b < a
      · have h3 : ¬ a = b := by intro e; subst e; exact h1 h2
        have h4 : ¬ b = a := fun e => h3 e.symm
        simp [h1, h2, h3]
      · have h3 : a = b := by
          apply UInt8.toNat_inj.1
          have := mt UInt8.lt_iff_toNat_lt.2 h1
          have := mt UInt8.lt_iff_toNat_lt.2 h2
          omega
        subst h3
        simp [h1]
theorem less_flip (a b : ByteArray) : Op.bytesLess b.toList a.toList = !(Op.bytesLess a.toList b.toList || (a == b)) := by
  rw [beq_toListBytes]; exact bytesLess_flip _ _
theorem HoldIdOk_tot (s : ByteArray) (hs : s.size ≤ 4000000) : ∃ y, spec_HoldIdOk s = some y ∧ impl_HoldIdOk s = some y ∧ (y = true → s.size ≤ 6) := by
  obtain ⟨y, e⟩ := HoldIdOk_l0_tot s hs FUEL 0 (by omega) (by omega) (by unfold FUEL; omega)
  unfold spec_HoldIdOk impl_HoldIdOk
  rw [HoldIdOk_l0_eq, e]
  cases y with
  | ret u => exact ⟨false, rfl, rfl, fun h => by cases h⟩
  | out u =>
    refine ⟨decide ((1 : Int) ≤ s.size) && decide ((s.size : Int) ≤ 6), ?_, ?_, fun h => ?_⟩
    · simp only [Option.bind_some, Lo.elim, l01In_val]
    · simp only [Option.bind_some, Lo.elim, within_val]
    · simp only [Bool.and_eq_true, decide_eq_true_eq] at h; omega
theorem HoldOk_tot (h : Hold) (hs : h.Id.size ≤ 4000000) : ∃ y, spec_HoldOk h = some y ∧ impl_HoldOk h = some y ∧ (y = true → h.Id.size ≤ 6 ∧ 1 ≤ h.Amount ∧ h.Amount ≤ 9007199254740992 ∧ time h.Due = true) := by
  obtain ⟨y, e1, e2, e3⟩ := HoldIdOk_tot h.Id hs
  unfold spec_HoldOk impl_HoldOk
  rw [e1, e2]
  cases y with
  | false => exact ⟨false, rfl, rfl, fun e => by cases e⟩
  | true =>
    simp only [Option.bind_some, if_true, l01In_val, within_val, l06Time_val, isTime_val]
    by_cases ha : (decide (1 ≤ h.Amount) && decide (h.Amount ≤ 9007199254740992)) = true
    · rw [ha]
      refine ⟨time h.Due, rfl, rfl, fun ht => ⟨e3 rfl, ?_⟩⟩
      simp only [Bool.and_eq_true, decide_eq_true_eq] at ha
      exact ⟨ha.1, ha.2, ht⟩
    · have : (decide (1 ≤ h.Amount) && decide (h.Amount ≤ 9007199254740992)) = false := by simpa using ha
      rw [this]
      exact ⟨false, rfl, rfl, fun e => by cases e⟩
theorem HoldsOk_l0_tot (l : List Hold) (hl : l.length ≤ 274877906944) : ∀ (t p : List Hold), l = p ++ t → (∀ h ∈ t, h.Id.size ≤ 4000000) →
    ∃ y, spec_HoldsOk_l0 l t p = some y ∧ impl_HoldsOk_l0 l t p = some y ∧ ∀ u, y = .out u → ∀ h ∈ t, h.Id.size ≤ 6 ∧ 1 ≤ h.Amount ∧ h.Amount ≤ 9007199254740992 ∧ time h.Due = true
  | [], p, e, hs => ⟨.out (), rfl, rfl, fun _ _ h hh => by simp at hh⟩
  | x :: t, p, e, hs => by
    obtain ⟨y, e1, e2, e3⟩ := HoldOk_tot x (hs x (by simp))
    obtain ⟨z, f1, f2, f3⟩ := HoldsOk_l0_tot l hl t (p ++ [x]) (by rw [e]; simp) (fun h hh => hs h (by simp [hh]))
    unfold spec_HoldsOk_l0 impl_HoldsOk_l0
    rw [e1, e2]
    have f3' : y = true → ∀ u, z = .out u → ∀ h ∈ x :: t, h.Id.size ≤ 6 ∧ 1 ≤ h.Amount ∧ h.Amount ≤ 9007199254740992 ∧ time h.Due = true := fun hy u hz h hh => by
      rcases List.mem_cons.1 hh with rfl | hh
      · exact e3 hy
      · exact f3 u hz h hh
    cases y with
    | false => exact ⟨.ret (), rfl, rfl, fun u e => by cases e⟩
    | true =>
      simp only [Option.bind_some, if_true]
      by_cases hp : (0 : Int) < (p.length : Int)
      · have hpl : p.length ≤ l.length := by rw [e]; simp
        have hi : i64 ((p.length : Int) - 1) = (p.length : Int) - 1 := i64_of (by omega) (by omega)
        have hn : ((p.length : Int) - 1).toNat < l.length := by rw [e]; simp; omega
        have hg : l[((p.length : Int) - 1).toNat]? = some l[((p.length : Int) - 1).toNat] := List.getElem?_eq_getElem hn
        have h1 : (0 : Int) ≤ (p.length : Int) - 1 := by omega
        simp only [hp, hi, h1, decide_true, if_true, hg, Option.bind_some, less_flip x.Id]
        by_cases hb : (Op.bytesLess x.Id.toList l[((p.length : Int) - 1).toNat].Id.toList || x.Id == l[((p.length : Int) - 1).toNat].Id) = true
        · rw [hb]
          exact ⟨.ret (), by simp, by simp, fun u e => by cases e⟩
        · have hb' : (Op.bytesLess x.Id.toList l[((p.length : Int) - 1).toNat].Id.toList || x.Id == l[((p.length : Int) - 1).toNat].Id) = false := by simpa using hb
          rw [hb']
          exact ⟨z, by simpa using f1, by simpa using f2, f3' rfl⟩
      · simp only [hp, decide_false, Bool.false_eq_true, if_false]
        exact ⟨z, f1, f2, f3' rfl⟩
theorem HoldsOk_tot (l : List Hold) (hl : l.length ≤ 274877906944) (hs : ∀ h ∈ l, h.Id.size ≤ 4000000) : ∃ y, spec_HoldsOk l = some y ∧ impl_HoldsOk l = some y ∧ (y = true → l.length ≤ 4 ∧ ∀ h ∈ l, h.Id.size ≤ 6 ∧ 1 ≤ h.Amount ∧ h.Amount ≤ 9007199254740992 ∧ time h.Due = true) := by
  obtain ⟨y, e1, e2, e3⟩ := HoldsOk_l0_tot l hl l [] rfl hs
  unfold spec_HoldsOk impl_HoldsOk
  rw [capOk_of hl, e1, e2]
  cases y with
  | ret u => exact ⟨false, rfl, rfl, fun e => by cases e⟩
  | out u => exact ⟨decide ((l.length : Int) ≤ 4), rfl, rfl, fun h => ⟨by have := of_decide_eq_true h; omega, e3 u rfl⟩⟩
theorem Concat_val (a b : List Int) (ha : a.length ≤ 100000000000) (hb : b.length ≤ 100000000000) : slices_Concat_int [a, b] = some (a ++ b) := by
  have h1 : i64 (0 + (a.length : Int)) = (a.length : Int) := by rw [Int.zero_add]; exact i64_of (by omega) (by omega)
  have h2 : i64 ((a.length : Int) + (b.length : Int)) = (a.length : Int) + (b.length : Int) := i64_of (by omega) (by omega)
  have n1 : ¬ (a.length : Int) < 0 := by omega
  have n2 : ¬ (a.length : Int) + (b.length : Int) < 0 := by omega
  have hg : slices_Grow_int_nil ((a.length : Int) + (b.length : Int)) = some [] := by
    unfold slices_Grow_int_nil
    have h3 : i64 ((a.length : Int) + (b.length : Int) - 0) = (a.length : Int) + (b.length : Int) := by rw [Int.sub_zero]; exact h2
    rw [h3]
    have hc : capOk ((a.length : Int) + (b.length : Int)).toNat = true := capOk_of (by omega)
    rw [hc]
    simp [n2]
  unfold slices_Concat_int
  have c0 : capOk [a, b].length = true := rfl
  have cA : capOk (([] : List Int).length + a.length) = true := capOk_of (by simp; omega)
  have cB : capOk ((([] : List Int) ++ a).length + b.length) = true := capOk_of (by simp; omega)
  simp only [c0, if_true, slices_Concat_int_l0, h1, h2, n1, n2, decide_false, Bool.false_eq_true, if_false, Option.bind_some, hg, slices_Concat_int_l1, cA, cB]
  simp
theorem impl_RingOk_l0_val (r : Ring) (c : List Int) : ∀ t : List Int, impl_RingOk_l0 r c t = some (if t.all money = true then .out () else .ret ())
  | [] => rfl
  | x :: t => by
    unfold impl_RingOk_l0
    rw [isMoney_val, impl_RingOk_l0_val r c t]
    cases h : money x <;> simp [h]
theorem spec_RingOk_l0_val (r : Ring) : ∀ (t p : List Int), r.Counts = p ++ t → r.Sums.length = r.Counts.length → spec_RingOk_l0 r t p = some (if (t.all money && (r.Sums.drop p.length).all money) = true then .out () else .ret ())
  | [], p, e, hl => by
    have : r.Sums.drop p.length = [] := List.drop_eq_nil_of_le (by rw [hl, e]; simp)
    rw [this]; rfl
  | x :: t, p, e, hl => by
    have hlt : p.length < r.Sums.length := by rw [hl, e]; simp
    have hd : r.Sums.drop p.length = r.Sums[p.length] :: r.Sums.drop (p.length + 1) := List.drop_eq_getElem_cons hlt
    have ih := spec_RingOk_l0_val r t (p ++ [x]) (by rw [e]; simp) hl
    unfold spec_RingOk_l0
    rw [l01Money_val]
    have hg : r.Sums[((p.length : Int)).toNat]? = some r.Sums[p.length] := by simp [hlt]
    rw [hg, hd, ih]
    simp only [Option.bind_some, l01Money_val, List.length_append, List.length_cons, List.length_nil, Nat.zero_add, List.all_cons]
    by_cases h : money x = true <;> by_cases h2 : money r.Sums[p.length] = true <;> simp [h, h2]
theorem RingOk_tot (r : Ring) (hc : r.Counts.length ≤ 100000000000) (hs : r.Sums.length ≤ 100000000000) : ∃ y, spec_RingOk r = some y ∧ impl_RingOk r = some y ∧ (y = true → r.Sums.length = r.Counts.length ∧ r.Counts.length ≤ 8 ∧ 1 ≤ r.Counts.length ∧ 1 ≤ r.Span ∧ r.Span ≤ 1000 ∧ time r.Head = true ∧ r.Counts.all money = true ∧ r.Sums.all money = true) := by
  unfold spec_RingOk impl_RingOk
  rw [Concat_val _ _ hc hs]
  have cc : capOk (r.Counts ++ r.Sums).length = true := capOk_of (by simp; omega)
  have cd : capOk r.Counts.length = true := capOk_of (by omega)
  simp only [Option.bind_some, cc, cd, if_true, impl_RingOk_l0_val, l01In_val, within_val, l06Time_val, isTime_val]
  by_cases h1 : (decide (1 ≤ r.Span) && decide (r.Span ≤ 1000)) = true
  · by_cases h2 : (decide ((1 : Int) ≤ r.Counts.length) && decide ((r.Counts.length : Int) ≤ 8)) = true
    · by_cases h3 : r.Sums.length = r.Counts.length
      · have h3' : ((r.Sums.length : Int) == (r.Counts.length : Int)) = true := by rw [h3]; simp
        have h3'' : ((r.Sums.length : Int) != (r.Counts.length : Int)) = false := by rw [h3]; simp
        rw [spec_RingOk_l0_val r r.Counts [] rfl h3]
        simp only [h1, h2, h3', h3'', if_true, Bool.false_eq_true, if_false, List.all_append, List.length_nil, List.drop_zero, Option.bind_some]
        refine ⟨(r.Counts.all money && r.Sums.all money) && time r.Head, ?_, ?_, fun h => ?_⟩
        · cases time r.Head <;> cases (r.Counts.all money && r.Sums.all money) <;> simp [Lo.elim]
        · cases time r.Head <;> cases (r.Counts.all money && r.Sums.all money) <;> simp [Lo.elim]
        · simp only [Bool.and_eq_true, decide_eq_true_eq] at h h1 h2
          exact ⟨h3, by omega, by omega, h1.1, h1.2, h.2, h.1.1, h.1.2⟩
      · have h3' : ((r.Sums.length : Int) == (r.Counts.length : Int)) = false := by
          rw [beq_eq_false_iff_ne]; omega
        have h3'' : ((r.Sums.length : Int) != (r.Counts.length : Int)) = true := by
          rw [bne_iff_ne]; omega
        refine ⟨false, by simp only [h1, h2, h3'', if_true], ?_, fun e => by cases e⟩
        simp only [h1, h2, h3', if_true, Bool.false_eq_true, if_false]
        cases (r.Counts ++ r.Sums).all money <;> rfl
    · have h2' : (decide ((1 : Int) ≤ r.Counts.length) && decide ((r.Counts.length : Int) ≤ 8)) = false := by simpa using h2
      refine ⟨false, by simp only [h1, h2', if_true, Bool.false_eq_true, if_false], ?_, fun e => by cases e⟩
      simp only [h1, h2', if_true, Bool.false_eq_true, if_false]
      cases (r.Counts ++ r.Sums).all money <;> rfl
  · have h1' : (decide (1 ≤ r.Span) && decide (r.Span ≤ 1000)) = false := by simpa using h1
    refine ⟨false, by simp only [h1', Bool.false_eq_true, if_false], ?_, fun e => by cases e⟩
    simp only [h1', Bool.false_eq_true, if_false]
    cases (r.Counts ++ r.Sums).all money <;> rfl
theorem isWide_val (s : ByteArray) (n : Int) (b : Bool) (h : impl_Digits s = some b) : impl_isWide s n = some (b && ((s.size : Int) == n)) := by
  unfold impl_isWide
  rw [h]
  cases b <;> rfl
theorem SlotOk_tot (s : Slot) (h1 : s.Trace.size ≤ 4000000) (h2 : s.Mti.size ≤ 4000000) : ∃ y, spec_SlotOk s = some y ∧ impl_SlotOk s = some y ∧ (y = true → s.Trace.size = 6 ∧ s.Mti.size = 4 ∧ s.Reply.length ≤ 200) := by
  obtain ⟨a, a1, a2, a3⟩ := Digits_tot s.Trace h1
  obtain ⟨b, b1, b2, b3⟩ := Digits_tot s.Mti h2
  unfold spec_SlotOk impl_SlotOk
  rw [a1, isWide_val _ _ _ a2, b1, isWide_val _ _ _ b2]
  cases a with
  | false => exact ⟨false, rfl, rfl, fun e => by cases e⟩
  | true =>
    simp only [Option.bind_some, if_true, Bool.true_and]
    by_cases c1 : ((s.Trace.size : Int) == 6) = true
    · simp only [c1, if_true]
      cases b with
      | false => exact ⟨false, rfl, rfl, fun e => by cases e⟩
      | true =>
        simp only [if_true, Bool.true_and]
        by_cases c2 : ((s.Mti.size : Int) == 4) = true
        · simp only [c2, if_true, l01In_val, within_val, Option.bind_some]
          refine ⟨_, rfl, rfl, fun h => ?_⟩
          simp only [Bool.and_eq_true, decide_eq_true_eq] at h
          have e1 := eq_of_beq c1
          have e2 := eq_of_beq c2
          exact ⟨by omega, by omega, by omega⟩
        · have c2' : ((s.Mti.size : Int) == 4) = false := by simpa using c2
          simp only [c2', Bool.false_eq_true, if_false]
          exact ⟨false, rfl, rfl, fun e => by cases e⟩
    · have c1' : ((s.Trace.size : Int) == 6) = false := by simpa using c1
      simp only [c1', Bool.false_eq_true, if_false]
      exact ⟨false, rfl, rfl, fun e => by cases e⟩
def slotIs (a b : ByteArray) (s : Slot) : Bool := (s.Trace == a) && (s.Mti == b)
theorem slotAt_1_val (s : Slot) (a b : ByteArray) : impl_slotAt_1 s a b = some (slotIs a b s) := by
  unfold impl_slotAt_1 slotIs
  cases (s.Trace == a) <;> rfl
theorem spec_SlotsOk_l1_val (l p : List Slot) (x : Slot) : ∀ t : List Slot, spec_SlotsOk_l1 l p x t = some (if t.any (slotIs x.Trace x.Mti) = true then .ret () else .out ())
  | [] => rfl
  | y :: t => by
    unfold spec_SlotsOk_l1
    rw [spec_SlotsOk_l1_val l p x t]
    simp only [List.any_cons]
    unfold slotIs
    by_cases h : (y.Trace == x.Trace) = true <;> by_cases h2 : (y.Mti == x.Mti) = true <;> simp [h, h2]
theorem slotAt_l0_val (l : List Slot) (a b : ByteArray) : ∀ t p : List Slot, slices_IndexFunc_impl_Slot_impl_slotAt_1_l0 l a b t p = some (match t.findIdx? (slotIs a b) with | some i => .ret ((p.length + i : Nat) : Int) | none => .out ())
  | [], p => rfl
  | y :: t, p => by
    unfold slices_IndexFunc_impl_Slot_impl_slotAt_1_l0
    rw [slotAt_1_val, slotAt_l0_val l a b t (p ++ [y])]
    simp only [Option.bind_some, List.findIdx?_cons]
    by_cases h : slotIs a b y = true
    · simp [h]
    · have h' : slotIs a b y = false := by simpa using h
      rw [h']
      simp only [Bool.false_eq_true, if_false]
      cases t.findIdx? (slotIs a b) with
      | none => rfl
      | some i => simp only [Option.map_some, List.length_append, List.length_cons, List.length_nil]; congr 3; omega
theorem slotAt_val (l : List Slot) (hl : l.length ≤ 274877906944) (a b : ByteArray) : impl_slotAt l a b = some (match l.findIdx? (slotIs a b) with | some i => (i : Int) | none => -1) := by
  unfold impl_slotAt slices_IndexFunc_impl_Slot_impl_slotAt_1
  rw [capOk_of hl, slotAt_l0_val]
  cases l.findIdx? (slotIs a b) with
  | none => rfl
  | some i => simp [Lo.elim]
theorem SlotsOk_l0_tot (l : List Slot) (hl : l.length ≤ 274877906944) : ∀ (t p : List Slot), l = p ++ t → (∀ s ∈ t, s.Trace.size ≤ 4000000 ∧ s.Mti.size ≤ 4000000) →
    ∃ y, spec_SlotsOk_l0 l t p = some y ∧ impl_SlotsOk_l0 l t p = some y ∧ ∀ u, y = .out u → ∀ s ∈ t, s.Trace.size = 6 ∧ s.Mti.size = 4 ∧ s.Reply.length ≤ 200
  | [], p, e, hs => ⟨.out (), rfl, rfl, fun _ _ h hh => by simp at hh⟩
  | x :: t, p, e, hs => by
    obtain ⟨y, e1, e2, e3⟩ := SlotOk_tot x (hs x (by simp)).1 (hs x (by simp)).2
    obtain ⟨z, f1, f2, f3⟩ := SlotsOk_l0_tot l hl t (p ++ [x]) (by rw [e]; simp) (fun h hh => hs h (by simp [hh]))
    unfold spec_SlotsOk_l0 impl_SlotsOk_l0
    rw [e1, e2]
    have f3' : y = true → ∀ u, z = .out u → ∀ s ∈ x :: t, s.Trace.size = 6 ∧ s.Mti.size = 4 ∧ s.Reply.length ≤ 200 := fun hy u hz h hh => by
      rcases List.mem_cons.1 hh with rfl | hh
      · exact e3 hy
      · exact f3 u hz h hh
    cases y with
    | false => exact ⟨.ret (), rfl, rfl, fun u e => by cases e⟩
    | true =>
      have htk : (l.take ((p.length : Int).toNat)).drop 0 = p := by rw [e]; simp
      have hple : (p.length : Int) ≤ (l.length : Int) := by rw [e]; simp; omega
      have h0 : (0 : Int) ≤ (p.length : Int) := by omega
      have hcp : capOk p.length = true := capOk_of (by omega)
      have hx : slotIs x.Trace x.Mti x = true := by unfold slotIs; rw [beqB, beqB]; simp
      simp only [Option.bind_some, if_true, h0, hple, decide_true, htk, hcp, spec_SlotsOk_l1_val, slotAt_val l hl]
      by_cases ha : p.any (slotIs x.Trace x.Mti) = true
      · have : ∃ i, l.findIdx? (slotIs x.Trace x.Mti) = some i ∧ i < p.length := by
          rw [e, List.findIdx?_append]
          cases hi : p.findIdx? (slotIs x.Trace x.Mti) with
          | none =>
            exfalso
            rw [List.findIdx?_eq_none_iff] at hi
            obtain ⟨s, hs1, hs2⟩ := List.any_eq_true.1 ha
            have := hi s hs1
            rw [hs2] at this
            cases this
          | some i => exact ⟨i, rfl, (List.findIdx?_eq_some_iff_getElem.1 hi).1⟩
        obtain ⟨i, hi, hlt⟩ := this
        rw [hi]
        have hne : ((i : Int) != (p.length : Int)) = true := by rw [bne_iff_ne]; omega
        simp only [ha, if_true, Lo.elim, hne]
        exact ⟨.ret (), rfl, rfl, fun u e => by cases e⟩
      · have ha' : p.any (slotIs x.Trace x.Mti) = false := by simpa using ha
        have hi : l.findIdx? (slotIs x.Trace x.Mti) = some p.length := by
          rw [e, List.findIdx?_append]
          have : p.findIdx? (slotIs x.Trace x.Mti) = none := by
            rw [List.findIdx?_eq_none_iff]
            intro s hs1
            have := List.any_eq_false.1 ha' s hs1
            simpa using this
          rw [this, List.findIdx?_cons, hx]
          simp
        rw [hi]
        have hne : ((p.length : Int) != (p.length : Int)) = false := by simp
        simp only [ha', hne, Bool.false_eq_true, if_false, Lo.elim]
        exact ⟨z, f1, f2, f3' rfl⟩
theorem SlotsOk_tot (l : List Slot) (hl : l.length ≤ 274877906944) (hs : ∀ s ∈ l, s.Trace.size ≤ 4000000 ∧ s.Mti.size ≤ 4000000) : ∃ y, spec_SlotsOk l = some y ∧ impl_SlotsOk l = some y ∧ (y = true → l.length ≤ 6 ∧ ∀ s ∈ l, s.Trace.size = 6 ∧ s.Mti.size = 4 ∧ s.Reply.length ≤ 200) := by
  obtain ⟨y, e1, e2, e3⟩ := SlotsOk_l0_tot l hl l [] rfl hs
  unfold spec_SlotsOk impl_SlotsOk
  rw [capOk_of hl, e1, e2]
  cases y with
  | ret u => exact ⟨false, rfl, rfl, fun e => by cases e⟩
  | out u => exact ⟨decide ((l.length : Int) ≤ 6), rfl, rfl, fun h => ⟨by have := of_decide_eq_true h; omega, e3 u rfl⟩⟩
def cl (x : Int) : Int := if x < 0 then 0 else if 4611686018427387904 < x then 4611686018427387904 else x
theorem cl_rng (x : Int) : 0 ≤ cl x ∧ cl x ≤ 4611686018427387904 := by unfold cl; split; omega; split <;> omega
theorem clamp_val (x : Int) : spec_l01Clamp x 0 4611686018427387904 = some (cl x) := by
  unfold spec_l01Clamp cl
  by_cases h : x < 0 <;> by_cases h2 : 4611686018427387904 < x <;> simp [h, h2]
theorem imax_cl (x : Int) : imax 0 (imin x 4611686018427387904) = cl x := by
  unfold imax imin cl
  by_cases h : x < 0 <;> by_cases h2 : 4611686018427387904 < x <;> simp [h, h2] <;> omega
def satAdd (a b : Int) : Int := if cl a + cl b ≤ 4611686018427387904 then cl a + cl b else 4611686018427387904
theorem AddSat_val (a b : Int) : spec_AddSat a b = some (satAdd a b) ∧ impl_AddSat a b = some (satAdd a b) := by
  obtain ⟨a1, a2⟩ := cl_rng a
  obtain ⟨b1, b2⟩ := cl_rng b
  have hi : i64 (4611686018427387904 - cl b) = 4611686018427387904 - cl b := i64_of (by omega) (by omega)
  have ma : money (cl a) = true := by simp [money, a1, a2]
  have mb : money (cl b) = true := by simp [money, b1, b2]
  unfold spec_AddSat impl_AddSat spec_AddMoney satAdd
  simp only [clamp_val, imax_cl, Option.bind_some, l01Money_val, ma, mb, if_true, hi]
  by_cases h : 4611686018427387904 - cl b < cl a
  · have h2 : ¬ cl a + cl b ≤ 4611686018427387904 := by omega
    simp [h, h2]
  · have h2 : cl a + cl b ≤ 4611686018427387904 := by omega
    have hj : i64 (cl a + cl b) = cl a + cl b := i64_of (by omega) (by omega)
    simp [h, h2, hj]
theorem Stored_l0_val (l : List Hold) : ∀ (t : List Hold) (v : Int), ∃ y, spec_Stored_l0 l t v = some y ∧ impl_Stored_l0 l t v = some y
  | [], v => ⟨v, rfl, rfl⟩
  | x :: t, v => by
    obtain ⟨y, e1, e2⟩ := Stored_l0_val l t (satAdd v x.Amount)
    unfold spec_Stored_l0 impl_Stored_l0
    rw [(AddSat_val _ _).1, (AddSat_val _ _).2]
    exact ⟨y, e1, e2⟩
theorem Stored_tot (l : List Hold) (hl : l.length ≤ 274877906944) : ∃ y, spec_Stored l = some y ∧ impl_Stored l = some y := by
  obtain ⟨y, e1, e2⟩ := Stored_l0_val l l 0
  unfold spec_Stored impl_Stored
  rw [capOk_of hl, e1, e2]
  exact ⟨y, rfl, rfl⟩
/-- Of a size that a law lets through. -/
def szHold (h : Hold) : Prop := h.Id.size ≤ 4000000
def szRing (r : Ring) : Prop := r.Counts.length ≤ 4000000 ∧ r.Sums.length ≤ 4000000
def szSlot (s : Slot) : Prop := s.Trace.size ≤ 4000000 ∧ s.Mti.size ≤ 4000000 ∧ s.Reply.length ≤ 4000000
def szAcct (a : Acct) : Prop := a.Id.size ≤ 4000000 ∧ (a.Holds.length ≤ 4000000 ∧ ∀ h ∈ a.Holds, szHold h) ∧ szRing a.Ring ∧ (a.Slots.length ≤ 4000000 ∧ ∀ s ∈ a.Slots, szSlot s)
theorem AcctOk_tot (a : Acct) (h : szAcct a) : ∃ y, spec_AcctOk a = some y ∧ impl_AcctOk a = some y ∧ (y = true → a.Holds.length ≤ 4 ∧ a.Slots.length ≤ 6) := by
  obtain ⟨h1, ⟨h2, h3⟩, ⟨h4, h5⟩, h6, h7⟩ := h
  obtain ⟨b1, p1, q1, r1⟩ := AcctIdOk_eq a.Id
  obtain ⟨b2, p2, q2, r2⟩ := HoldsOk_tot a.Holds (by omega) (fun x hx => by have := h3 x hx; unfold szHold at this; omega)
  obtain ⟨b3, p3, q3, r3⟩ := RingOk_tot a.Ring (by omega) (by omega)
  obtain ⟨b4, p4, q4, r4⟩ := SlotsOk_tot a.Slots (by omega) (fun x hx => by have := h7 x hx; unfold szSlot at this; omega)
  obtain ⟨s, p5, q5⟩ := Stored_tot a.Holds (by omega)
  obtain ⟨p6, q6⟩ := AddSat_val a.Posted s
  unfold spec_AcctOk impl_AcctOk
  simp only [p1, q1, p2, q2, p3, q3, p4, q4, p5, q5, p6, q6, l01In_val, within_val, l01Money_val, isMoney_val, Option.bind_some]
  cases b1 <;> simp only [Bool.false_eq_true, if_false, if_true]
  · exact ⟨_, rfl, rfl, fun e => by cases e⟩
  repeat' split
  all_goals first
    | exact ⟨_, rfl, rfl, fun e => by cases e⟩
    | (rename_i g1 g2 g3 g4; exact ⟨_, rfl, rfl, fun _ => ⟨(r2 (by assumption)).1, (r4 (by assumption)).1⟩⟩)
theorem Clone_Hold_val (l : List Hold) (h : l.length ≤ 274877906944) : slices_Clone_impl_Hold l = some l := by unfold slices_Clone_impl_Hold; rw [capOk_of h]; rfl
theorem szAcct_of (a : Acct) (h : wtAcct a ≤ 4000000) : szAcct a := by
  rw [wtAcct_eq, wtRing_eq] at h
  have h1 := wtL_len wtHold a.Holds
  have h2 := wtL_len wtSlot a.Slots
  refine ⟨by omega, ⟨by omega, fun x hx => ?_⟩, ⟨by omega, by omega⟩, by omega, fun x hx => ?_⟩
  · have := wtL_mem wtHold a.Holds x hx
    rw [wtHold_eq] at this
    unfold szHold; omega
  · have := wtL_mem wtSlot a.Slots x hx
    rw [wtSlot_eq] at this
    refine ⟨by omega, by omega, by omega⟩
/-- Is the account valid? -/
def acctOk (a : Acct) : Bool := (spec_AcctOk a).getD false
theorem AcctOk_val (a : Acct) (h : wtAcct a ≤ 4000000) : spec_AcctOk a = some (acctOk a) ∧ impl_AcctOk a = some (acctOk a) := by
  obtain ⟨b, e1, e2, e3⟩ := AcctOk_tot a (szAcct_of a h)
  unfold acctOk
  rw [e1, e2]
  exact ⟨rfl, rfl⟩
def live (now : Int) (h : Hold) : Bool := decide (now < h.Due)
theorem spec_LiveOnes_val (l : List Hold) (now : Int) (h : l.length ≤ 4000000) : spec_LiveOnes l now = some (l.filter (live now)) := by
  unfold spec_LiveOnes
  rw [capOk_of (by omega), filter_loop (L := spec_LiveOnes_l0 l now) (live now) (fun _ => rfl) (fun x t v hv => by
    show (if live now x = true then (if capOk (v.length + 1) = true then _ else _) else _) = _
    rw [capOk_of hv]; rfl) l [] (by simp; omega)]
  rfl
theorem impl_LiveOnes_val (l : List Hold) (now : Int) (h : l.length ≤ 4000000) : impl_LiveOnes l now = some (l.filter (live now)) := by
  unfold impl_LiveOnes slices_DeleteFunc_impl_Hold_impl_LiveOnes_1 slices_IndexFunc_impl_Hold_impl_LiveOnes_1
  rw [Clone_Hold_val _ (by omega)]
  simp only [Option.bind_some, capOk_of (show l.length ≤ 274877906944 by omega), if_true]
  rw [find_loop (L := slices_IndexFunc_impl_Hold_impl_LiveOnes_1_l0 l now) (fun h => !live now h) (fun _ => rfl) (fun _ _ _ => rfl)]
  simp only [Option.bind_some, found_nil]
  rw [del_main (fun h => !live now h) (Hold.mk ByteArray.empty 0 0) (L := slices_DeleteFunc_impl_Hold_impl_LiveOnes_1_l0 now) (fun _ _ _ _ => rfl) l h]
  simp
theorem holds_len (a : Acct) (h : wtAcct a ≤ 4000000) : a.Holds.length ≤ 4000000 := by
  rw [wtAcct_eq] at h
  have := wtL_len wtHold a.Holds
  omega
theorem bstr_fold : ∀ (ns : List Int) (r : ByteArray), (ns.foldl (fun r n => r.push (UInt8.ofNat n.toNat)) r).data.toList = r.data.toList ++ ns.map (fun n => UInt8.ofNat n.toNat)
  | [], r => by simp
  | n :: ns, r => by
    rw [List.foldl_cons, bstr_fold ns]
    simp [ByteArray.push]
theorem bstr_list (ns : List Int) : (bstr ns).data.toList = ns.map (fun n => UInt8.ofNat n.toNat) := by
  unfold bstr
  rw [bstr_fold]; rfl
theorem ba_ext {a b : ByteArray} (h : a.data.toList = b.data.toList) : a = b := by
  rcases a with ⟨⟨a⟩⟩
  rcases b with ⟨⟨b⟩⟩
  have h : a = b := h
  rw [h]
theorem ba_app (a b : ByteArray) : (a ++ b).data.toList = a.data.toList ++ b.data.toList := by
  rw [ByteArray.data_append, Array.toList_append]
theorem ba_size (a : ByteArray) : a.size = a.data.toList.length := by
  rcases a with ⟨⟨a⟩⟩
  rfl
/-- The text of a number; nothing where it is none. -/
def numT (n : Int) : ByteArray := if money n = true then ⟨(Lib.itoa n).toArray⟩ else ⟨#[]⟩
theorem decDigits_len : ∀ (m u : Nat), u < 10 ^ (m + 1) → (Lib.decDigits u).length ≤ m + 1
  | m, u, h => by
    rw [Lib.decDigits]
    split
    · simp
    · rename_i h10
      cases m with
      | zero => omega
      | succ m =>
        have := decDigits_len m (u / 10) (by rw [Nat.pow_succ] at h; omega)
        simp; omega
theorem money_bounds {n : Int} (h : money n = true) : 0 ≤ n ∧ n ≤ 4611686018427387904 := by
  unfold money at h
  simpa using h
theorem numT_size (n : Int) : (numT n).size ≤ 20 := by
  unfold numT
  split
  · rename_i h
    obtain ⟨h0, h1⟩ := money_bounds h
    rw [ba_size]
    simp only [Lib.itoa, show ¬ n < 0 by omega, if_false]
    exact decDigits_len 19 n.toNat (by omega)
  · simp [ByteArray.size]
theorem digit_data (u : Nat) : (bstr [u8 (i64 (48 + (Int.tmod (u : Int) 10)))]).data.toList = [UInt8.ofNat (48 + u % 10)] := by
  rw [bstr_list, tmod10 (by omega), i64_of (by omega) (by omega), u8_of (by omega) (by omega)]
  simp only [List.map_cons, List.map_nil]
  congr 2
theorem NumText_l0_val (N : Int) : ∀ (m fuel u : Nat) (acc : ByteArray), u < 10 ^ (m + 1) → m < fuel → u ≤ 4611686018427387904 → acc.size + m ≤ 1000 →
    ∃ (v : Nat) (w : ByteArray), spec_NumText_l0 N fuel (u : Int) acc = some ((v : Int), w) ∧ v ≤ 9 ∧ w.size ≤ acc.size + m ∧ UInt8.ofNat (48 + v) :: w.data.toList = Lib.decDigits u ++ acc.data.toList
  | m, 0, u, acc, _, h, _, _ => by omega
  | m, fuel + 1, u, acc, hu, hm, hb, ha => by
    unfold spec_NumText_l0
    rw [Lib.decDigits]
    by_cases h9 : u < 10
    · have : ¬ (9 : Int) < (u : Int) := by omega
      simp only [this, decide_false, Bool.false_eq_true, if_false]
      exact ⟨u, acc, rfl, by omega, by omega, by rw [dif_pos h9]; rfl⟩
    · cases m with
      | zero => omega
      | succ m =>
        have hd := digit_data u
        have hs : (bstr [u8 (i64 (48 + (Int.tmod (u : Int) 10)))]).size + acc.size ≤ 9223372036854775807 := by rw [bstr_one]; omega
        have hq : i64 (Int.tdiv (u : Int) 10) = ((u / 10 : Nat) : Int) := by rw [Int.tdiv_eq_ediv_of_nonneg (by omega), i64_of (by omega) (by omega)]; omega
        simp only [show (9 : Int) < (u : Int) by omega, decide_true, if_true, hs, hq]
        obtain ⟨v, w, e1, e2, e3, e4⟩ := NumText_l0_val N m fuel (u / 10) (bstr [u8 (i64 (48 + (Int.tmod (u : Int) 10)))] ++ acc) (by rw [Nat.pow_succ] at hu; omega) (by omega) (by omega) (by rw [size_app, bstr_one]; omega)
        refine ⟨v, w, e1, e2, by rw [size_app, bstr_one] at e3; omega, ?_⟩
        rw [e4, ba_app, hd, dif_neg h9]
        simp
theorem spec_NumText_val (n : Int) : spec_NumText n = some (numT n) := by
  unfold spec_NumText numT
  rw [l01Money_val, Option.bind_some]
  rcases tf (money n) with h | h
  · obtain ⟨h0, h1⟩ := money_bounds h
    obtain ⟨u, rfl⟩ : ∃ u : Nat, n = (u : Int) := ⟨n.toNat, by omega⟩
    obtain ⟨v, w, e1, e2, e3, e4⟩ := NumText_l0_val u 19 FUEL u (bs []) (by omega) (by unfold FUEL; omega) (by omega) (by decide)
    have hs : (bstr [u8 (i64 (48 + (v : Int)))]).size + w.size ≤ 9223372036854775807 := by
      have : (bs []).size = 0 := rfl
      rw [bstr_one]; omega
    simp only [h, if_true, e1, Option.bind_some, hs, decide_true]
    congr 1
    apply ba_ext
    rw [ba_app, bstr_list, i64_of (by omega) (by omega), u8_of (by omega) (by omega)]
    have e5 : (bs []).data.toList = [] := rfl
    rw [e5, List.append_nil] at e4
    simp only [List.map_cons, List.map_nil, List.cons_append, List.nil_append, Lib.itoa, show ¬ ((u : Int) < 0) by omega, if_false, Int.toNat_natCast, List.toList_toArray]
    rw [← e4]
    congr 2
  · simp only [h, Bool.false_eq_true, if_false]; rfl
theorem impl_NumText_val (n : Int) : impl_NumText n = some (numT n) := by
  unfold impl_NumText numT strconv_Itoa
  rw [isMoney_val, Option.bind_some]
  rcases tf (money n) with h | h
  · obtain ⟨g1, g2⟩ := money_bounds h
    simp [h, show -9223372036854775808 ≤ n by omega, show n ≤ 9223372036854775807 by omega]
  · simp only [h, Bool.false_eq_true, if_false]; rfl
theorem ba_assoc (a b c : ByteArray) : (a ++ b) ++ c = a ++ (b ++ c) := ba_ext (by simp only [ba_app, List.append_assoc])
def holdT (h : Hold) : ByteArray := (((h.Id ++ bs [58]) ++ numT h.Amount) ++ bs [64]) ++ numT h.Due
theorem bs1_size (c : UInt8) : (bs [c]).size = 1 := rfl
theorem holdT_size (h : Hold) : (holdT h).size ≤ h.Id.size + 42 := by
  have h1 := numT_size h.Amount
  have h2 := numT_size h.Due
  unfold holdT
  simp only [size_app, bs1_size]; omega
theorem HoldShow_at (h : Hold) (hi : h.Id.size ≤ 4000000) : spec_HoldShow h = some (holdT h) ∧ impl_HoldShow h = some (holdT h) := by
  have h1 := numT_size h.Amount
  have h2 := numT_size h.Due
  have c1 : h.Id.size + (bs [58]).size ≤ 9223372036854775807 := by rw [bs1_size]; omega
  have c2 : (h.Id ++ bs [58]).size + (numT h.Amount).size ≤ 9223372036854775807 := by simp only [size_app, bs1_size]; omega
  have c3 : ((h.Id ++ bs [58]) ++ numT h.Amount).size + (bs [64]).size ≤ 9223372036854775807 := by simp only [size_app, bs1_size]; omega
  have c4 : (((h.Id ++ bs [58]) ++ numT h.Amount) ++ bs [64]).size + (numT h.Due).size ≤ 9223372036854775807 := by simp only [size_app, bs1_size]; omega
  unfold spec_HoldShow impl_HoldShow
  simp only [spec_NumText_val, impl_NumText_val, Option.bind_some, c1, c2, c3, c4, decide_true, if_true]
  exact ⟨rfl, rfl⟩
def holdsT (l : List Hold) (v : ByteArray) : ByteArray := l.foldl (fun v x => (v ++ bs [32]) ++ holdT x) v
theorem holdsT_size : ∀ (l : List Hold) (v : ByteArray), (holdsT l v).size ≤ v.size + 43 * l.length + wtL wtHold l
  | [], v => by simp [holdsT, wtL]
  | x :: t, v => by
    have := holdsT_size t ((v ++ bs [32]) ++ holdT x)
    have h1 := holdT_size x
    simp only [holdsT, List.foldl_cons, wtL, List.length_cons, wtHold_eq, size_app, bs1_size] at *
    omega
theorem AcctShow_l0_val (r : List Hold) : ∀ (t : List Hold) (v : ByteArray), v.size + 43 * t.length + wtL wtHold t ≤ 1000000000 → (∀ x ∈ t, x.Id.size ≤ 4000000) → spec_AcctShow_l0 r t v = some (holdsT t v) ∧ impl_AcctShow_l0 r t v = some (holdsT t v)
  | [], v, _, _ => ⟨rfl, rfl⟩
  | x :: t, v, hv, hs => by
    simp only [wtL, List.length_cons, wtHold_eq] at hv
    have hx := hs x (by simp)
    have h1 := holdT_size x
    have ih := AcctShow_l0_val r t ((v ++ bs [32]) ++ holdT x) (by simp only [size_app, bs1_size]; omega) (fun y hy => hs y (by simp [hy]))
    have c1 : v.size + (bs [32]).size ≤ 9223372036854775807 := by rw [bs1_size]; omega
    have c2 : (v ++ bs [32]).size + (holdT x).size ≤ 9223372036854775807 := by simp only [size_app, bs1_size]; omega
    have c3 : (bs [32]).size + (holdT x).size ≤ 9223372036854775807 := by simp only [bs1_size]; omega
    have c4 : v.size + (bs [32] ++ holdT x).size ≤ 9223372036854775807 := by simp only [size_app, bs1_size]; omega
    unfold spec_AcctShow_l0 impl_AcctShow_l0
    simp only [(HoldShow_at x hx).1, (HoldShow_at x hx).2, Option.bind_some, c1, c2, c3, c4, decide_true, if_true, ← ba_assoc]
    exact ih
theorem Room_tot (a : Acct) (now : Int) (h : wtAcct a ≤ 4000000) : ∃ r, spec_Room a now = some r ∧ impl_Room a now = some r := by
  have hl := List.length_filter_le (live now) a.Holds
  have hh := holds_len a h
  obtain ⟨y, e1, e2⟩ := Stored_tot (a.Holds.filter (live now)) (by omega)
  unfold spec_Room impl_Room spec_LiveSum impl_LiveSum
  rw [(AcctOk_val a h).1, (AcctOk_val a h).2, l06Time_val, isTime_val, spec_LiveOnes_val _ _ hh, impl_LiveOnes_val _ _ hh]
  simp only [Option.bind_some, e1, e2]
  rcases tf (acctOk a) with q | q <;> rcases tf (time now) with q2 | q2 <;> simp [q, q2]
theorem AcctShow_val (a : Acct) (now : Int) (h : wtAcct a ≤ 1048576) (hn : Wi .i64 now) : ∃ y, spec_AcctShow a now = some y ∧ impl_AcctShow a now = some y ∧ y.size ≤ 400000000 := by
  have hh := holds_len a (by omega)
  have hl := List.length_filter_le (live now) a.Holds
  have hw := wtL_filter wtHold (live now) a.Holds
  have hs := szAcct_of a (by omega)
  obtain ⟨r, e1, e2⟩ := Room_tot a now (by omega)
  have g1 := numT_size r
  have g2 := numT_size a.Limit
  have g3 := numT_size a.Posted
  have hid : a.Id.size ≤ 1048576 := by rw [wtAcct_eq] at h; omega
  have hhw : wtL wtHold a.Holds ≤ 1048576 := by rw [wtAcct_eq] at h; omega
  have hhl := wtL_len wtHold a.Holds
  have c1 : a.Id.size + (bs [32]).size ≤ 9223372036854775807 := by rw [bs1_size]; omega
  have c2 : (a.Id ++ bs [32]).size + (numT r).size ≤ 9223372036854775807 := by simp only [size_app, bs1_size]; omega
  have c3 : ((a.Id ++ bs [32]) ++ numT r).size + (bs [47]).size ≤ 9223372036854775807 := by simp only [size_app, bs1_size]; omega
  have c4 : (((a.Id ++ bs [32]) ++ numT r) ++ bs [47]).size + (numT a.Limit).size ≤ 9223372036854775807 := by simp only [size_app, bs1_size]; omega
  have c5 : ((((a.Id ++ bs [32]) ++ numT r) ++ bs [47]) ++ numT a.Limit).size + (bs [32]).size ≤ 9223372036854775807 := by simp only [size_app, bs1_size]; omega
  have c6 : (((((a.Id ++ bs [32]) ++ numT r) ++ bs [47]) ++ numT a.Limit) ++ bs [32]).size + (numT a.Posted).size ≤ 9223372036854775807 := by simp only [size_app, bs1_size]; omega
  have hsz : ((((((a.Id ++ bs [32]) ++ numT r) ++ bs [47]) ++ numT a.Limit) ++ bs [32]) ++ numT a.Posted).size ≤ 1048576 + 63 := by simp only [size_app, bs1_size]; omega
  have hloop := AcctShow_l0_val (a.Holds.filter (live now)) (a.Holds.filter (live now)) ((((((a.Id ++ bs [32]) ++ numT r) ++ bs [47]) ++ numT a.Limit) ++ bs [32]) ++ numT a.Posted) (by omega) (fun x hx => hs.2.1.2 x (List.mem_filter.1 hx).1)
  have hsz2 := holdsT_size (a.Holds.filter (live now)) ((((((a.Id ++ bs [32]) ++ numT r) ++ bs [47]) ++ numT a.Limit) ++ bs [32]) ++ numT a.Posted)
  have z : (bs []).size ≤ 400000000 := by decide
  unfold spec_AcctShow impl_AcctShow
  rw [(AcctOk_val a (by omega)).1, (AcctOk_val a (by omega)).2, l06Time_val, isTime_val, e1, e2, spec_LiveOnes_val _ _ hh, impl_LiveOnes_val _ _ hh]
  simp only [Option.bind_some, spec_NumText_val, impl_NumText_val, c1, c2, c3, c4, c5, c6, decide_true, if_true, hloop, capOk_of (show (a.Holds.filter (live now)).length ≤ 274877906944 by omega)]
  rcases tf (acctOk a) with q | q
  · rcases tf (time now) with q2 | q2
    · simp only [q, q2, if_true]
      exact ⟨_, rfl, rfl, by omega⟩
    · simp only [q, q2, if_true, if_false, Bool.false_eq_true]
      exact ⟨_, rfl, rfl, z⟩
  · simp only [q, if_false, Bool.false_eq_true]
    exact ⟨_, rfl, rfl, z⟩
namespace Pure
theorem FnExactAcctShow (aA : Acct) (aNow : Int) (h0 : W41 aA) (h1 : Wi .i64 aNow) : laws_FnExactAcctShow aA aNow = some true := by
  unfold laws_FnExactAcctShow
  obtain ⟨r1, er1, gr1⟩ := szAcct_val aA 1048576 h0 (by omega) (by omega)
  rw [er1, Option.bind_some]
  by_cases cr1 : r1 < 0
  · simp only [cr1, decide_true, decide_false, Bool.false_eq_true, if_true, if_false]
  have gr1 := gr1 (by omega)
  simp only [cr1, decide_true, decide_false, Bool.false_eq_true, if_true, if_false]
  obtain ⟨y, f1, f2, f3⟩ := AcctShow_val aA aNow (by omega) h1
  simp only [f1, f2, toAcct_val aA (by omega), eqAcct_rfl aA (by omega), Option.bind_some, decide_true, decide_false, Bool.false_eq_true, if_true, if_false, bne_rfl, beq_rfl, beq_self_eq_true]
end Pure
end Go.Proofs.YtaaiikopnadkeaaDoorM
