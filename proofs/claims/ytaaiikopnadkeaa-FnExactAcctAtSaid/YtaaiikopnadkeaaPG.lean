/- Laws of the plain functions. No condition. -/
import Derived.Test.YtaaiikopnadkeaaPF
import Derived.Laws.StructEq
namespace Go.Proofs.YtaaiikopnadkeaaM
set_option linter.unusedVariables false
set_option linter.unusedSimpArgs false
set_option maxRecDepth 100000
/-! the laws' own copies, equality -/
theorem set_take {α : Type} {v p : List α} {x : α} (hv : v.take p.length = p) (hl : p.length < v.length) : (v.set p.length x).take (p ++ [x]).length = p ++ [x] := by
  rw [List.length_append, List.length_cons, List.length_nil, List.take_add_one, List.take_set_of_le (Nat.le_refl _), hv]
  simp [hl]
theorem idx_some {α : Type} {v p : List α} (hl : p.length < v.length) : ∃ y, v[((p.length : Int)).toNat]? = some y := ⟨v[p.length], by simp [hl]⟩
theorem toIntS_l0_val (a : List Int) : ∀ (t p v : List Int), a = p ++ t → v.length = a.length → v.take p.length = p → laws_toIntS_l0 a t p v = some a
  | [], p, v, e, hl, hv => by
    have : v = p := by rw [← hv, List.take_of_length_le (by rw [hl, e]; simp)]
    simp [laws_toIntS_l0, this, e]
  | x :: t, p, v, e, hl, hv => by
    have hlt : p.length < v.length := by rw [hl, e]; simp
    obtain ⟨y, hy⟩ := idx_some (v := v) hlt
    unfold laws_toIntS_l0
    rw [hy, Option.bind_some, Int.toNat_natCast]
    exact toIntS_l0_val a t (p ++ [x]) _ (by rw [e]; simp) (by simp [hl]) (set_take hv hlt)
theorem toIntS_val (a : List Int) (h : a.length ≤ 274877906944) : laws_toIntS a = some a := by
  unfold laws_toIntS
  simp only [Int.natCast_nonneg, decide_true, if_true, Int.toNat_natCast, capOk_of h]
  rw [toIntS_l0_val a a [] _ rfl (by simp) rfl]
  rfl
theorem toByteS_l0_val (a : List Int) : ∀ (t p v : List Int), a = p ++ t → v.length = a.length → v.take p.length = p → laws_toByteS_l0 a t p v = some a
  | [], p, v, e, hl, hv => by
    have : v = p := by rw [← hv, List.take_of_length_le (by rw [hl, e]; simp)]
    simp [laws_toByteS_l0, this, e]
  | x :: t, p, v, e, hl, hv => by
    have hlt : p.length < v.length := by rw [hl, e]; simp
    obtain ⟨y, hy⟩ := idx_some (v := v) hlt
    unfold laws_toByteS_l0
    rw [hy, Option.bind_some, Int.toNat_natCast]
    exact toByteS_l0_val a t (p ++ [x]) _ (by rw [e]; simp) (by simp [hl]) (set_take hv hlt)
theorem toByteS_val (a : List Int) (h : a.length ≤ 274877906944) : laws_toByteS a = some a := by
  unfold laws_toByteS
  simp only [Int.natCast_nonneg, decide_true, if_true, Int.toNat_natCast, capOk_of h]
  rw [toByteS_l0_val a a [] _ rfl (by simp) rfl]
  rfl
theorem toHoldS_l0_val (a : List Hold) : ∀ (t p v : List Hold), a = p ++ t → v.length = a.length → v.take p.length = p → laws_toHoldS_l0 a t p v = some a
  | [], p, v, e, hl, hv => by
    have : v = p := by rw [← hv, List.take_of_length_le (by rw [hl, e]; simp)]
    simp [laws_toHoldS_l0, this, e]
  | x :: t, p, v, e, hl, hv => by
    have hlt : p.length < v.length := by rw [hl, e]; simp
    obtain ⟨y, hy⟩ := idx_some (v := v) hlt
    unfold laws_toHoldS_l0
    have : laws_toHold x = some x := rfl
    rw [this, Option.bind_some, hy, Option.bind_some, Int.toNat_natCast]
    exact toHoldS_l0_val a t (p ++ [x]) _ (by rw [e]; simp) (by simp [hl]) (set_take hv hlt)
theorem toHoldS_val (a : List Hold) (h : a.length ≤ 274877906944) : laws_toHoldS a = some a := by
  unfold laws_toHoldS
  simp only [Int.natCast_nonneg, decide_true, if_true, Int.toNat_natCast, capOk_of h]
  rw [toHoldS_l0_val a a [] _ rfl (by simp) rfl]
  rfl
theorem toSlot_val (x : Slot) (h : szSlot x) : laws_toSlot x = some x := by
  unfold laws_toSlot
  rw [toByteS_val _ (by have := h.2.2; omega)]
  rfl
theorem toSlotS_l0_val (a : List Slot) : ∀ (t p v : List Slot), a = p ++ t → (∀ s ∈ t, szSlot s) → v.length = a.length → v.take p.length = p → laws_toSlotS_l0 a t p v = some a
  | [], p, v, e, hs, hl, hv => by
    have : v = p := by rw [← hv, List.take_of_length_le (by rw [hl, e]; simp)]
    simp [laws_toSlotS_l0, this, e]
  | x :: t, p, v, e, hs, hl, hv => by
    have hlt : p.length < v.length := by rw [hl, e]; simp
    obtain ⟨y, hy⟩ := idx_some (v := v) hlt
    unfold laws_toSlotS_l0
    rw [toSlot_val x (hs x (by simp)), Option.bind_some, hy, Option.bind_some, Int.toNat_natCast]
    exact toSlotS_l0_val a t (p ++ [x]) _ (by rw [e]; simp) (fun s hs' => hs s (by simp [hs'])) (by simp [hl]) (set_take hv hlt)
theorem toSlotS_val (a : List Slot) (h : a.length ≤ 274877906944) (hs : ∀ s ∈ a, szSlot s) : laws_toSlotS a = some a := by
  unfold laws_toSlotS
  simp only [Int.natCast_nonneg, decide_true, if_true, Int.toNat_natCast, capOk_of h]
  rw [toSlotS_l0_val a a [] _ rfl hs (by simp) rfl]
  rfl
theorem toAcct_val (a : Acct) (h : szAcct a) : laws_toAcct a = some a := by
  obtain ⟨h1, ⟨h2, h3⟩, ⟨h4, h5⟩, h6, h7⟩ := h
  unfold laws_toAcct laws_toRing
  rw [toHoldS_val _ (by omega), toIntS_val _ (by omega), toIntS_val _ (by omega), toSlotS_val _ (by omega) h7]
  rfl
theorem beq_rfl (s : ByteArray) : (s == s) = true := by rw [beqB]; simp
theorem bne_rfl (n : Int) : (n != n) = false := by simp
theorem mid_get {α : Type} {a p t : List α} {x : α} (e : a = p ++ x :: t) : a[((p.length : Int)).toNat]? = some x := by rw [e]; simp
theorem eqHold_rfl (a : Hold) : laws_eqHold a a = some true := by
  unfold laws_eqHold
  simp only [beq_rfl, bne_rfl, if_true, Bool.false_eq_true, if_false]
theorem eqHoldS_l0_rfl (a : List Hold) : ∀ t p : List Hold, a = p ++ t → laws_eqHoldS_l0 a a t p = some (.out ())
  | [], p, e => rfl
  | x :: t, p, e => by
    unfold laws_eqHoldS_l0
    rw [mid_get e, Option.bind_some, eqHold_rfl, Option.bind_some]
    simpa using eqHoldS_l0_rfl a t (p ++ [x]) (by rw [e]; simp)
theorem eqHoldS_rfl (a : List Hold) (h : a.length ≤ 274877906944) : laws_eqHoldS a a = some true := by
  unfold laws_eqHoldS
  rw [eqHoldS_l0_rfl a a [] rfl, capOk_of h]
  simp only [bne_rfl, Bool.false_eq_true, if_false, if_true]
  rfl
theorem eqIntS_l0_rfl (a : List Int) : ∀ t p : List Int, a = p ++ t → laws_eqIntS_l0 a a t p = some (.out ())
  | [], p, e => rfl
  | x :: t, p, e => by
    unfold laws_eqIntS_l0
    rw [mid_get e, Option.bind_some]
    simp only [bne_rfl, Bool.false_eq_true, if_false]
    exact eqIntS_l0_rfl a t (p ++ [x]) (by rw [e]; simp)
theorem eqIntS_rfl (a : List Int) (h : a.length ≤ 274877906944) : laws_eqIntS a a = some true := by
  unfold laws_eqIntS
  rw [eqIntS_l0_rfl a a [] rfl, capOk_of h]
  simp only [bne_rfl, Bool.false_eq_true, if_false, if_true]
  rfl
theorem eqByteS_l0_rfl (a : List Int) : ∀ t p : List Int, a = p ++ t → laws_eqByteS_l0 a a t p = some (.out ())
  | [], p, e => rfl
  | x :: t, p, e => by
    unfold laws_eqByteS_l0
    rw [mid_get e, Option.bind_some]
    simp only [bne_rfl, Bool.false_eq_true, if_false]
    exact eqByteS_l0_rfl a t (p ++ [x]) (by rw [e]; simp)
theorem eqByteS_rfl (a : List Int) (h : a.length ≤ 274877906944) : laws_eqByteS a a = some true := by
  unfold laws_eqByteS
  rw [eqByteS_l0_rfl a a [] rfl, capOk_of h]
  simp only [bne_rfl, Bool.false_eq_true, if_false, if_true]
  rfl
theorem eqRing_rfl (a : Ring) (h : szRing a) : laws_eqRing a a = some true := by
  unfold laws_eqRing
  rw [eqIntS_rfl _ (by have := h.1; omega), eqIntS_rfl _ (by have := h.2; omega)]
  simp only [bne_rfl, Bool.false_eq_true, if_false, if_true, Option.bind_some]
theorem eqSlot_rfl (a : Slot) (h : szSlot a) : laws_eqSlot a a = some true := by
  unfold laws_eqSlot
  rw [eqByteS_rfl _ (by have := h.2.2; omega)]
  simp only [beq_rfl, if_true, Option.bind_some]
theorem eqSlotS_l0_rfl (a : List Slot) : ∀ t p : List Slot, a = p ++ t → (∀ s ∈ t, szSlot s) → laws_eqSlotS_l0 a a t p = some (.out ())
  | [], p, e, _ => rfl
  | x :: t, p, e, hs => by
    unfold laws_eqSlotS_l0
    rw [mid_get e, Option.bind_some, eqSlot_rfl x (hs x (by simp)), Option.bind_some]
    simpa using eqSlotS_l0_rfl a t (p ++ [x]) (by rw [e]; simp) (fun s hs' => hs s (by simp [hs']))
theorem eqSlotS_rfl (a : List Slot) (h : a.length ≤ 274877906944) (hs : ∀ s ∈ a, szSlot s) : laws_eqSlotS a a = some true := by
  unfold laws_eqSlotS
  rw [eqSlotS_l0_rfl a a [] rfl hs, capOk_of h]
  simp only [bne_rfl, Bool.false_eq_true, if_false, if_true]
  rfl
theorem eqAcct_rfl (a : Acct) (h : szAcct a) : laws_eqAcct a a = some true := by
  obtain ⟨h1, ⟨h2, h3⟩, h45, h6, h7⟩ := h
  unfold laws_eqAcct
  rw [eqHoldS_rfl _ (by omega), eqRing_rfl _ h45, eqSlotS_rfl _ (by omega) h7]
  simp only [beq_rfl, bne_rfl, Bool.false_eq_true, if_false, if_true, Option.bind_some]
end Go.Proofs.YtaaiikopnadkeaaM
