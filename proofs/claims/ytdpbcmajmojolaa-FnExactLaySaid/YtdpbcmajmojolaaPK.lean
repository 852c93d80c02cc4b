/- Laws of the plain functions. No condition. -/
import Derived.Test.YtdpbcmajmojolaaPS
import Derived.Laws.StructEq
namespace Go.Proofs.YtdpbcmajmojolaaM
set_option linter.unusedVariables false
set_option linter.unusedSimpArgs false
set_option maxRecDepth 100000
/-! copies -/
theorem Clone_int_val (l : List Int) (h : l.length ≤ 274877906944) : slices_Clone_int l = some l := by unfold slices_Clone_int; rw [capOk_of h]; rfl
theorem Clone_byte_val (l : List Int) (h : l.length ≤ 274877906944) : slices_Clone_byte l = some l := by unfold slices_Clone_byte; rw [capOk_of h]; rfl
theorem Clone_Hold_val (l : List Hold) (h : l.length ≤ 274877906944) : slices_Clone_impl_Hold l = some l := by unfold slices_Clone_impl_Hold; rw [capOk_of h]; rfl
theorem l08Copy_l0_val (l : List Slot) : ∀ (t v : List Slot), v.length + t.length ≤ 274877906944 → (∀ s ∈ t, s.Reply.length ≤ 4000000) → spec_l08Copy_l0 l t v = some (v ++ t)
  | [], v, _, _ => by simp [spec_l08Copy_l0]
  | x :: t, v, hl, hs => by
    unfold spec_l08Copy_l0
    have h1 : capOk (0 + x.Reply.length) = true := capOk_of (by have := hs x (by simp); omega)
    have h2 : capOk (v.length + 1) = true := capOk_of (by simp at hl; omega)
    rw [h1, h2, l08Copy_l0_val l t (v ++ [x]) (by simp at hl ⊢; omega) (fun s hs' => hs s (by simp [hs']))]
    simp
theorem wtSlot_reply (s : Slot) (h : wtSlot s ≤ 4000000) : s.Reply.length ≤ 4000000 := by rw [wtSlot_eq] at h; omega
theorem l08Copy_val (l : List Slot) (h : wtL wtSlot l ≤ 4000000) : spec_l08Copy l = some l := by
  have hl := wtL_len wtSlot l
  unfold spec_l08Copy
  rw [capOk_of (by omega), l08Copy_l0_val _ _ _ (by simp; omega) (fun s hs => wtSlot_reply s (by have := wtL_mem wtSlot l s hs; omega))]
  rfl
theorem l06Copy_val (r : Ring) (h : wtRing r ≤ 4000000) : spec_l06Copy r = some r := by
  rw [wtRing_eq] at h
  unfold spec_l06Copy
  rw [capOk_of (show 0 + r.Counts.length ≤ 274877906944 by omega), capOk_of (show 0 + r.Sums.length ≤ 274877906944 by omega)]
  rfl
theorem l09Copy_val (a : Acct) (h : wtAcct a ≤ 4000000) : spec_l09Copy a = some a := by
  rw [wtAcct_eq] at h
  have hl := wtL_len wtHold a.Holds
  unfold spec_l09Copy
  rw [capOk_of (show 0 + a.Holds.length ≤ 274877906944 by omega), l06Copy_val _ (by omega), l08Copy_val _ (by omega)]
  rfl
theorem copySlots_l0_val (l : List Slot) : ∀ (t v : List Slot), v.length + t.length ≤ 274877906944 → (∀ s ∈ t, s.Reply.length ≤ 4000000) → impl_copySlots_l0 l t v = some (v ++ t)
  | [], v, _, _ => by simp [impl_copySlots_l0]
  | x :: t, v, hl, hs => by
    unfold impl_copySlots_l0
    have h2 : capOk (v.length + 1) = true := capOk_of (by simp at hl; omega)
    rw [Clone_byte_val _ (by have := hs x (by simp); omega), Option.bind_some, h2, copySlots_l0_val l t _ (by simp at hl ⊢; omega) (fun s hs' => hs s (by simp [hs']))]
    simp
theorem copySlots_val (l : List Slot) (h : wtL wtSlot l ≤ 4000000) : impl_copySlots l = some l := by
  have hl := wtL_len wtSlot l
  unfold impl_copySlots
  rw [capOk_of (by omega), copySlots_l0_val _ _ _ (by simp; omega) (fun s hs => wtSlot_reply s (by have := wtL_mem wtSlot l s hs; omega))]
  rfl
theorem Ring_copied_val (r : Ring) (h : wtRing r ≤ 4000000) : impl_Ring_copied r = some r := by
  rw [wtRing_eq] at h
  unfold impl_Ring_copied
  rw [Clone_int_val _ (by omega), Clone_int_val _ (by omega)]
  rfl
theorem Acct_copied_val (a : Acct) (h : wtAcct a ≤ 4000000) : impl_Acct_copied a = some a := by
  rw [wtAcct_eq] at h
  have hl := wtL_len wtHold a.Holds
  unfold impl_Acct_copied
  rw [Clone_Hold_val _ (by omega), Ring_copied_val _ (by omega), copySlots_val _ (by omega)]
  rfl
/-- Each account of a list is small. -/
def okAs (l : List Acct) : Prop := ∀ x ∈ l, wtAcct x ≤ 4000000
theorem okAs_of {l : List Acct} (h : wtL wtAcct l ≤ 4000000) : okAs l := fun x hx => by have := wtL_mem wtAcct l x hx; omega
theorem okAs_tail {x : Acct} {l : List Acct} (h : okAs (x :: l)) : okAs l := fun y hy => h y (by simp [hy])
theorem l12Copy_l0_val (b : Book) : ∀ t v : List Acct, v.length + t.length ≤ 274877906944 → okAs t → spec_l12Copy_l0 b t v = some (v ++ t)
  | [], v, _, _ => by simp [spec_l12Copy_l0]
  | x :: t, v, hl, hs => by
    unfold spec_l12Copy_l0
    rw [l09Copy_val x (hs x (by simp)), Option.bind_some, capOk_of (show v.length + 1 ≤ 274877906944 by simp at hl; omega), l12Copy_l0_val b t (v ++ [x]) (by simp at hl ⊢; omega) (okAs_tail hs)]
    simp
theorem l12Copy_val (b : Book) (h : wtL wtAcct b.Accts ≤ 4000000) : spec_l12Copy b = some b := by
  have hl := wtL_len wtAcct b.Accts
  unfold spec_l12Copy
  rw [capOk_of (by omega), l12Copy_l0_val b _ _ (by simp; omega) (okAs_of h)]
  rfl
end Go.Proofs.YtdpbcmajmojolaaM
