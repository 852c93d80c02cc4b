/- Laws of the plain functions. No condition. -/
import Derived.Test.YtaaiikopnadkeaaPE
import Derived.Laws.StructEq
namespace Go.Proofs.YtaaiikopnadkeaaM
set_option linter.unusedVariables false
set_option linter.unusedSimpArgs false
set_option maxRecDepth 100000
/-! sizes -/
theorem sub_val {left : Int} {n : Nat} (h0 : 0 ≤ left) (h1 : left ≤ 1048576) (hn : n ≤ 140737488351232) : i64 (left - (n : Int)) = left - n := i64_of (by omega) (by omega)
theorem szHold_val (a : Hold) (left : Int) (h0 : 0 ≤ left) (h1 : left ≤ 1048576) (hw : Ws a.Id) : ∃ r, laws_szHold a left = some r ∧ r ≤ left ∧ (0 ≤ r → szHold a) := by
  unfold laws_szHold
  unfold Ws at hw
  rw [sub_val h0 h1 hw]
  by_cases h : left - (a.Id.size : Int) < 0
  · exact ⟨-1, by simp [h], by omega, fun h => by omega⟩
  · exact ⟨left - a.Id.size, by simp [h], by omega, fun _ => by unfold szHold; omega⟩
theorem szHoldS_l0_val (a : List Hold) : ∀ (t : List Hold) (v : Int), 0 ≤ v → v ≤ 1048576 → (∀ h ∈ t, Ws h.Id) → ∃ r, laws_szHoldS_l0 a t v = some r ∧ ∀ s, r = .out s → 0 ≤ s ∧ s ≤ v ∧ ∀ h ∈ t, szHold h
  | [], v, h0, h1, _ => ⟨.out v, rfl, fun s e => by cases e; exact ⟨h0, Int.le_refl _, fun h hh => by cases hh⟩⟩
  | x :: t, v, h0, h1, hw => by
    obtain ⟨r, e1, e2, e3⟩ := szHold_val x v h0 h1 (hw x (by simp))
    unfold laws_szHoldS_l0
    rw [e1, Option.bind_some]
    by_cases h : r < 0
    · exact ⟨.ret (), by simp [h], fun s e => by cases e⟩
    · obtain ⟨z, f1, f2⟩ := szHoldS_l0_val a t r (by omega) (by omega) (fun y hy => hw y (by simp [hy]))
      refine ⟨z, by simp [h, f1], fun s e => ?_⟩
      obtain ⟨g1, g2, g3⟩ := f2 s e
      refine ⟨g1, by omega, fun y hy => ?_⟩
      rcases List.mem_cons.1 hy with rfl | hy
      · exact e3 (by omega)
      · exact g3 y hy
theorem szHoldS_val (a : List Hold) (left : Int) (h0 : 0 ≤ left) (h1 : left ≤ 1048576) (hl : a.length ≤ 140737488351232) (hw : ∀ h ∈ a, Ws h.Id) : ∃ r, laws_szHoldS a left = some r ∧ r ≤ left ∧ (0 ≤ r → a.length ≤ 1048576 ∧ ∀ h ∈ a, szHold h) := by
  unfold laws_szHoldS
  rw [sub_val h0 h1 hl]
  by_cases h : left - (a.length : Int) < 0
  · exact ⟨-1, by simp [h], by omega, fun h => by omega⟩
  · obtain ⟨z, f1, f2⟩ := szHoldS_l0_val a a (left - a.length) (by omega) (by omega) hw
    simp only [h, decide_false, Bool.false_eq_true, if_false, capOk_of (show a.length ≤ 274877906944 by omega), if_true, f1, Option.bind_some]
    cases z with
    | ret u => exact ⟨-1, rfl, by omega, fun h => by omega⟩
    | out s =>
      obtain ⟨g1, g2, g3⟩ := f2 s rfl
      exact ⟨s, rfl, by omega, fun _ => ⟨by omega, g3⟩⟩
theorem szIntS_val (a : List Int) (left : Int) (h0 : 0 ≤ left) (h1 : left ≤ 1048576) (hl : a.length ≤ 140737488351232) : ∃ r, laws_szIntS a left = some r ∧ r ≤ left ∧ (0 ≤ r → a.length ≤ 1048576) := by
  unfold laws_szIntS
  rw [sub_val h0 h1 hl]
  by_cases h : left - (a.length : Int) < 0
  · exact ⟨-1, by simp [h], by omega, fun h => by omega⟩
  · exact ⟨left - a.length, by simp [h], by omega, fun _ => by omega⟩
theorem szByteS_val (a : List Int) (left : Int) (h0 : 0 ≤ left) (h1 : left ≤ 1048576) (hl : a.length ≤ 140737488351232) : ∃ r, laws_szByteS a left = some r ∧ r ≤ left ∧ (0 ≤ r → a.length ≤ 1048576) := by
  unfold laws_szByteS
  rw [sub_val h0 h1 hl]
  by_cases h : left - (a.length : Int) < 0
  · exact ⟨-1, by simp [h], by omega, fun h => by omega⟩
  · exact ⟨left - a.length, by simp [h], by omega, fun _ => by omega⟩
theorem szRing_val (a : Ring) (left : Int) (h0 : 0 ≤ left) (h1 : left ≤ 1048576) (hl : a.Counts.length ≤ 140737488351232) (hl2 : a.Sums.length ≤ 140737488351232) : ∃ r, laws_szRing a left = some r ∧ r ≤ left ∧ (0 ≤ r → szRing a) := by
  obtain ⟨r, e1, e2, e3⟩ := szIntS_val a.Counts left h0 h1 hl
  unfold laws_szRing
  rw [e1, Option.bind_some]
  by_cases h : r < 0
  · exact ⟨-1, by simp [h], by omega, fun h => by omega⟩
  · obtain ⟨s, f1, f2, f3⟩ := szIntS_val a.Sums r (by omega) (by omega) hl2
    simp only [h, decide_false, Bool.false_eq_true, if_false, f1, Option.bind_some]
    by_cases h2 : s < 0
    · exact ⟨-1, by simp [h2], by omega, fun h => by omega⟩
    · exact ⟨s, by simp [h2], by omega, fun _ => ⟨e3 (by omega), f3 (by omega)⟩⟩
theorem szSlot_val (a : Slot) (left : Int) (h0 : 0 ≤ left) (h1 : left ≤ 1048576) (hw1 : Ws a.Trace) (hw2 : Ws a.Mti) (hl : a.Reply.length ≤ 140737488351232) : ∃ r, laws_szSlot a left = some r ∧ r ≤ left ∧ (0 ≤ r → szSlot a) := by
  unfold laws_szSlot
  unfold Ws at hw1 hw2
  rw [sub_val h0 h1 hw1]
  by_cases h : left - (a.Trace.size : Int) < 0
  · exact ⟨-1, by simp [h], by omega, fun h => by omega⟩
  · rw [sub_val (show 0 ≤ left - (a.Trace.size : Int) by omega) (by omega) hw2]
    by_cases h2 : left - (a.Trace.size : Int) - (a.Mti.size : Int) < 0
    · exact ⟨-1, by simp [h, h2], by omega, fun h => by omega⟩
    · obtain ⟨s, f1, f2, f3⟩ := szByteS_val a.Reply (left - (a.Trace.size : Int) - (a.Mti.size : Int)) (by omega) (by omega) hl
      simp only [h, h2, decide_false, Bool.false_eq_true, if_false, f1, Option.bind_some]
      by_cases h3 : s < 0
      · exact ⟨-1, by simp [h3], by omega, fun h => by omega⟩
      · exact ⟨s, by simp [h3], by omega, fun _ => ⟨by omega, by omega, f3 (by omega)⟩⟩
def wSlot (s : Slot) : Prop := Ws s.Trace ∧ Ws s.Mti ∧ s.Reply.length ≤ 140737488351232
theorem szSlotS_l0_val (a : List Slot) : ∀ (t : List Slot) (v : Int), 0 ≤ v → v ≤ 1048576 → (∀ h ∈ t, wSlot h) → ∃ r, laws_szSlotS_l0 a t v = some r ∧ ∀ s, r = .out s → 0 ≤ s ∧ s ≤ v ∧ ∀ h ∈ t, szSlot h
  | [], v, h0, h1, _ => ⟨.out v, rfl, fun s e => by cases e; exact ⟨h0, Int.le_refl _, fun h hh => by cases hh⟩⟩
  | x :: t, v, h0, h1, hw => by
    obtain ⟨w1, w2, w3⟩ := hw x (by simp)
    obtain ⟨r, e1, e2, e3⟩ := szSlot_val x v h0 h1 w1 w2 w3
    unfold laws_szSlotS_l0
    rw [e1, Option.bind_some]
    by_cases h : r < 0
    · exact ⟨.ret (), by simp [h], fun s e => by cases e⟩
    · obtain ⟨z, f1, f2⟩ := szSlotS_l0_val a t r (by omega) (by omega) (fun y hy => hw y (by simp [hy]))
      refine ⟨z, by simp [h, f1], fun s e => ?_⟩
      obtain ⟨g1, g2, g3⟩ := f2 s e
      refine ⟨g1, by omega, fun y hy => ?_⟩
      rcases List.mem_cons.1 hy with rfl | hy
      · exact e3 (by omega)
      · exact g3 y hy
theorem szSlotS_val (a : List Slot) (left : Int) (h0 : 0 ≤ left) (h1 : left ≤ 1048576) (hl : a.length ≤ 140737488351232) (hw : ∀ h ∈ a, wSlot h) : ∃ r, laws_szSlotS a left = some r ∧ r ≤ left ∧ (0 ≤ r → a.length ≤ 1048576 ∧ ∀ h ∈ a, szSlot h) := by
  unfold laws_szSlotS
  rw [sub_val h0 h1 hl]
  by_cases h : left - (a.length : Int) < 0
  · exact ⟨-1, by simp [h], by omega, fun h => by omega⟩
  · obtain ⟨z, f1, f2⟩ := szSlotS_l0_val a a (left - a.length) (by omega) (by omega) hw
    simp only [h, decide_false, Bool.false_eq_true, if_false, capOk_of (show a.length ≤ 274877906944 by omega), if_true, f1, Option.bind_some]
    cases z with
    | ret u => exact ⟨-1, rfl, by omega, fun h => by omega⟩
    | out s =>
      obtain ⟨g1, g2, g3⟩ := f2 s rfl
      exact ⟨s, rfl, by omega, fun _ => ⟨by omega, g3⟩⟩
def wRing (r : Ring) : Prop := r.Counts.length ≤ 140737488351232 ∧ r.Sums.length ≤ 140737488351232
def wAcct (a : Acct) : Prop := Ws a.Id ∧ (a.Holds.length ≤ 140737488351232 ∧ ∀ h ∈ a.Holds, Ws h.Id) ∧ wRing a.Ring ∧ a.Slots.length ≤ 140737488351232 ∧ ∀ s ∈ a.Slots, wSlot s
theorem szAcct_val (a : Acct) (left : Int) (h0 : 0 ≤ left) (h1 : left ≤ 1048576) (hw : wAcct a) : ∃ r, laws_szAcct a left = some r ∧ r ≤ left ∧ (0 ≤ r → szAcct a) := by
  obtain ⟨w1, ⟨w2, w3⟩, ⟨w4, w5⟩, w6, w7⟩ := hw
  unfold laws_szAcct
  have w1' := w1
  unfold Ws at w1'
  rw [sub_val h0 h1 w1']
  by_cases h : left - (a.Id.size : Int) < 0
  · exact ⟨-1, by simp [h], by omega, fun h => by omega⟩
  · obtain ⟨r, e1, e2, e3⟩ := szHoldS_val a.Holds (left - (a.Id.size : Int)) (by omega) (by omega) w2 w3
    simp only [h, decide_false, Bool.false_eq_true, if_false, e1, Option.bind_some]
    by_cases hr : r < 0
    · exact ⟨-1, by simp [hr], by omega, fun h => by omega⟩
    · obtain ⟨s, f1, f2, f3⟩ := szRing_val a.Ring r (by omega) (by omega) w4 w5
      simp only [hr, decide_false, Bool.false_eq_true, if_false, f1, Option.bind_some]
      by_cases hs : s < 0
      · exact ⟨-1, by simp [hs], by omega, fun h => by omega⟩
      · obtain ⟨q, g1, g2, g3⟩ := szSlotS_val a.Slots s (by omega) (by omega) w6 w7
        simp only [hs, decide_false, Bool.false_eq_true, if_false, g1, Option.bind_some]
        by_cases hq : q < 0
        · exact ⟨-1, by simp [hq], by omega, fun h => by omega⟩
        · exact ⟨q, by simp [hq], by omega, fun _ => ⟨by omega, e3 (by omega), f3 (by omega), g3 (by omega)⟩⟩
end Go.Proofs.YtaaiikopnadkeaaM
