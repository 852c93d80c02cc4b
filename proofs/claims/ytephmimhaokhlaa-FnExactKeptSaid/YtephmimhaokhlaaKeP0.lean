/- Laws of the plain functions. No condition. -/
import Derived.Test.YtephmimhaokhlaaKeOp
import Derived.Laws.StructEq
namespace Go.Proofs.YtephmimhaokhlaaM
set_option linter.unusedVariables false
set_option linter.unusedSimpArgs false
set_option maxRecDepth 100000
theorem i64_of {x : Int} (h : -9223372036854775808 ≤ x) (h2 : x ≤ 9223372036854775807) : i64 x = x := by unfold i64; rw [IntKind.wrap_i64]; omega
theorem capOk_of {n : Nat} (h : n ≤ 274877906944) : capOk n = true := decide_eq_true h
theorem beqB (a b : ByteArray) : (a == b) = decide (a = b) := by
  rcases a with ⟨a⟩
  rcases b with ⟨b⟩
  have h1 : ((⟨a⟩ : ByteArray) == ⟨b⟩) = (a == b) := rfl
  rw [h1]
  by_cases h : a = b
  · subst h; simp
  · have h2 : ¬ ((⟨a⟩ : ByteArray) = ⟨b⟩) := fun e => h (by cases e; rfl)
    rw [decide_eq_false h2]
    simpa using h
theorem sub_val {left : Int} {n : Nat} (h0 : 0 ≤ left) (h1 : left ≤ 1048576) (hn : n ≤ 140737488351232) : i64 (left - (n : Int)) = left - n := i64_of (by omega) (by omega)
theorem set_take {α : Type} {v p : List α} {x : α} (hv : v.take p.length = p) (hl : p.length < v.length) : (v.set p.length x).take (p ++ [x]).length = p ++ [x] := by
  rw [List.length_append, List.length_cons, List.length_nil, List.take_add_one, List.take_set_of_le (Nat.le_refl _), hv]
  simp [hl]
theorem idx_some {α : Type} {v p : List α} (hl : p.length < v.length) : ∃ y, v[((p.length : Int)).toNat]? = some y := ⟨v[p.length], by simp [hl]⟩
theorem beq_rfl (s : ByteArray) : (s == s) = true := by rw [beqB]; simp
theorem bne_rfl (n : Int) : (n != n) = false := by simp
theorem mid_get {α : Type} {a p t : List α} {x : α} (e : a = p ++ x :: t) : a[((p.length : Int)).toNat]? = some x := by rw [e]; simp
def byB (l : List Int) : Prop := ∀ b ∈ l, 0 ≤ b ∧ b ≤ 255
theorem byB_of {l : List Int} {n : Nat} (h : Wl n (Wi .u8) l) : byB l := fun b hb => by
  have := h.2 b hb
  unfold Wi at this
  simpa [Lit.wf, IntKind.min, IntKind.max, IntKind.signed, IntKind.bits] using this
/-- The weight of a list: its length, and its elements' weights. -/
def wtL {α : Type} (f : α → Nat) : List α → Nat
  | [] => 0
  | x :: t => 1 + f x + wtL f t
def wtS {α : Type} (f : α → Nat) : List α → Nat
  | [] => 0
  | x :: t => f x + wtS f t
theorem wtL_eq {α : Type} (f : α → Nat) : ∀ l : List α, wtL f l = l.length + wtS f l
  | [] => rfl
  | x :: t => by simp only [wtL, wtS, List.length_cons]; rw [wtL_eq f t]; omega
theorem wtL_len {α : Type} (f : α → Nat) (l : List α) : l.length ≤ wtL f l := by rw [wtL_eq]; omega
theorem wtL_mem {α : Type} (f : α → Nat) : ∀ (l : List α) (x : α), x ∈ l → f x + 1 ≤ wtL f l
  | y :: t, x, h => by
    simp only [wtL]
    rcases List.mem_cons.1 h with rfl | h
    · omega
    · have := wtL_mem f t x h; omega
def wtHold (a : Hold) : Nat := a.Id.size
theorem wtHold_eq (a : Hold) : wtHold a = a.Id.size := rfl
theorem szHold_val (a : Hold) (left : Int) (hw : W123 a) (h0 : 0 ≤ left) (h1 : left ≤ 1048576) : ∃ r, laws_szHold a left = some r ∧ (0 ≤ r → r = left - (wtHold a : Nat)) := by
  unfold W123 at hw
  obtain ⟨w0, w1, w2⟩ := hw
  rw [wtHold_eq]
  unfold laws_szHold
  have b1 := w0
  unfold Ws at b1
  rw [sub_val (show 0 ≤ left by omega) (by omega) b1]
  by_cases c1 : (left - (a.Id.size : Int)) < 0
  · exact ⟨-1, by simp only [c1, decide_true, decide_false, Bool.false_eq_true, if_true, if_false, Option.bind_some], fun h => by omega⟩
  · simp only [c1, decide_true, decide_false, Bool.false_eq_true, if_true, if_false, Option.bind_some]
    exact ⟨_, rfl, fun _ => by omega⟩
theorem toHold_val (a : Hold) (h : wtHold a ≤ 4000000) : laws_toHold a = some a := by
  rw [wtHold_eq] at h
  unfold laws_toHold
  rfl
theorem eqHold_rfl (a : Hold) (h : wtHold a ≤ 4000000) : laws_eqHold a a = some true := by
  rw [wtHold_eq] at h
  unfold laws_eqHold
  simp only [beq_rfl, bne_rfl, Bool.false_eq_true, if_false, if_true, Option.bind_some]
theorem szHoldS_l0_val (a : List Hold) : ∀ (t : List Hold) (v : Int), 0 ≤ v → v ≤ 1048576 → (∀ x ∈ t, W123 x) → ∃ r, laws_szHoldS_l0 a t v = some r ∧ ∀ s, r = .out s → 0 ≤ s ∧ s = v - (wtS wtHold t : Nat)
  | [], v, h0, h1, _ => ⟨.out v, rfl, fun s e => by cases e; exact ⟨h0, by simp [wtS]⟩⟩
  | x :: t, v, h0, h1, hw => by
    obtain ⟨r, e1, e3⟩ := szHold_val x v (hw x (by simp)) h0 h1
    unfold laws_szHoldS_l0
    rw [e1, Option.bind_some]
    by_cases h : r < 0
    · exact ⟨.ret (), by simp [h], fun s e => by cases e⟩
    · have e3 := e3 (by omega)
      obtain ⟨z, f1, f2⟩ := szHoldS_l0_val a t r (by omega) (by omega) (fun y hy => hw y (by simp [hy]))
      refine ⟨z, by simp [h, f1], fun s e => ?_⟩
      obtain ⟨g1, g2⟩ := f2 s e
      exact ⟨g1, by rw [g2]; simp only [wtS]; omega⟩
theorem szHoldS_val (a : List Hold) (left : Int) (hw : W79 a) (h0 : 0 ≤ left) (h1 : left ≤ 1048576) : ∃ r, laws_szHoldS a left = some r ∧ (0 ≤ r → r = left - (wtL wtHold a : Nat)) := by
  unfold W79 Wl at hw
  have hl : a.length ≤ 140737488351232 := by have := hw.1; omega
  unfold laws_szHoldS
  rw [sub_val h0 h1 hl]
  by_cases h : left - (a.length : Int) < 0
  · exact ⟨-1, by simp [h], fun h => by omega⟩
  · obtain ⟨z, f1, f2⟩ := szHoldS_l0_val a a (left - a.length) (by omega) (by omega) hw.2
    simp only [h, decide_false, Bool.false_eq_true, if_false, capOk_of (show a.length ≤ 274877906944 by omega), if_true, f1, Option.bind_some]
    cases z with
    | ret u => exact ⟨-1, rfl, fun h => by omega⟩
    | out s =>
      obtain ⟨g1, g2⟩ := f2 s rfl
      exact ⟨s, rfl, fun _ => by rw [g2, wtL_eq]; omega⟩
theorem toHoldS_l0_val (a : List Hold) : ∀ (t p v : List Hold), a = p ++ t → (∀ s ∈ t, wtHold s ≤ 4000000) → v.length = a.length → v.take p.length = p → laws_toHoldS_l0 a t p v = some a
  | [], p, v, e, hs, hl, hv => by
    have : v = p := by rw [← hv, List.take_of_length_le (by rw [hl, e]; simp)]
    simp [laws_toHoldS_l0, this, e]
  | x :: t, p, v, e, hs, hl, hv => by
    have hlt : p.length < v.length := by rw [hl, e]; simp
    obtain ⟨y, hy⟩ := idx_some (v := v) hlt
    unfold laws_toHoldS_l0
    rw [toHold_val x (hs x (by simp)), Option.bind_some, hy, Option.bind_some, Int.toNat_natCast]
    exact toHoldS_l0_val a t (p ++ [x]) _ (by rw [e]; simp) (fun s hs' => hs s (by simp [hs'])) (by simp [hl]) (set_take hv hlt)
theorem toHoldS_val (a : List Hold) (h : wtL wtHold a ≤ 4000000) : laws_toHoldS a = some a := by
  have hl : a.length ≤ 4000000 := (by have := wtL_len wtHold a; omega)
  unfold laws_toHoldS
  simp only [Int.natCast_nonneg, decide_true, if_true, Int.toNat_natCast, capOk_of (show a.length ≤ 274877906944 by omega)]
  rw [toHoldS_l0_val a a [] _ rfl (fun s hs => by have := wtL_mem wtHold a s hs; omega) (by simp) rfl]
  rfl
theorem eqHoldS_l0_rfl (a : List Hold) : ∀ t p : List Hold, a = p ++ t → (∀ s ∈ t, wtHold s ≤ 4000000) → laws_eqHoldS_l0 a a t p = some (.out ())
  | [], p, e, _ => rfl
  | x :: t, p, e, hs => by
    unfold laws_eqHoldS_l0
    rw [mid_get e, Option.bind_some, eqHold_rfl x (hs x (by simp)), Option.bind_some]
    simpa using eqHoldS_l0_rfl a t (p ++ [x]) (by rw [e]; simp) (fun s hs' => hs s (by simp [hs']))
theorem eqHoldS_rfl (a : List Hold) (h : wtL wtHold a ≤ 4000000) : laws_eqHoldS a a = some true := by
  have hl : a.length ≤ 4000000 := (by have := wtL_len wtHold a; omega)
  unfold laws_eqHoldS
  rw [eqHoldS_l0_rfl a a [] rfl (fun s hs => by have := wtL_mem wtHold a s hs; omega), capOk_of (show a.length ≤ 274877906944 by omega)]
  simp only [bne_rfl, Bool.false_eq_true, if_false, if_true]
  rfl
theorem szIntS_val (a : List Int) (left : Int) (hw : W51 a) (h0 : 0 ≤ left) (h1 : left ≤ 1048576) : ∃ r, laws_szIntS a left = some r ∧ (0 ≤ r → r = left - (a.length : Nat)) := by
  unfold W51 Wl at hw
  have hl : a.length ≤ 140737488351232 := by have := hw.1; omega
  unfold laws_szIntS
  rw [sub_val h0 h1 hl]
  by_cases h : left - (a.length : Int) < 0
  · exact ⟨-1, by simp [h], fun h => by omega⟩
  · exact ⟨left - a.length, by simp [h], fun _ => rfl⟩
theorem toIntS_l0_val (a : List Int) : ∀ (t p v : List Int), a = p ++ t → v.length = a.length → v.take p.length = p → laws_toIntS_l0 a t p v = some a
  | [], p, v, e, hl, hv => by
    have : v = p := by rw [← hv, List.take_of_length_le (by rw [hl, e]; simp)]
    simp [laws_toIntS_l0, this, e]
  | x :: t, p, v, e, hl, hv => by
    have hlt : p.length < v.length := by rw [hl, e]; simp
    obtain ⟨y, hy⟩ := idx_some (v := v) hlt
    unfold laws_toIntS_l0
    rw [hy, Option.bind_some, Int.toNat_natCast]
    exact toIntS_l0_val a t (p ++ [x]) _ (by rw [e]; simp) (by simp [hl]) (set_take hv hlt)
theorem toIntS_val (a : List Int) (h : a.length ≤ 4000000) : laws_toIntS a = some a := by
  have hl : a.length ≤ 4000000 := h
  unfold laws_toIntS
  simp only [Int.natCast_nonneg, decide_true, if_true, Int.toNat_natCast, capOk_of (show a.length ≤ 274877906944 by omega)]
  rw [toIntS_l0_val a a [] _ rfl (by simp) rfl]
  rfl
theorem eqIntS_l0_rfl (a : List Int) : ∀ t p : List Int, a = p ++ t → laws_eqIntS_l0 a a t p = some (.out ())
  | [], p, e => rfl
  | x :: t, p, e => by
    unfold laws_eqIntS_l0
    rw [mid_get e, Option.bind_some]
    simp only [bne_rfl, beq_rfl, Bool.false_eq_true, if_false, if_true]
    exact eqIntS_l0_rfl a t (p ++ [x]) (by rw [e]; simp)
theorem eqIntS_rfl (a : List Int) (h : a.length ≤ 4000000) : laws_eqIntS a a = some true := by
  have hl : a.length ≤ 4000000 := h
  unfold laws_eqIntS
  rw [eqIntS_l0_rfl a a [] rfl, capOk_of (show a.length ≤ 274877906944 by omega)]
  simp only [bne_rfl, Bool.false_eq_true, if_false, if_true]
  rfl
def wtRing (a : Ring) : Nat := a.Counts.length + a.Sums.length
theorem wtRing_eq (a : Ring) : wtRing a = a.Counts.length + a.Sums.length := rfl
theorem szRing_val (a : Ring) (left : Int) (hw : W80 a) (h0 : 0 ≤ left) (h1 : left ≤ 1048576) : ∃ r, laws_szRing a left = some r ∧ (0 ≤ r → r = left - (wtRing a : Nat)) := by
  unfold W80 at hw
  obtain ⟨w0, w1, w2, w3⟩ := hw
  rw [wtRing_eq]
  unfold laws_szRing
  obtain ⟨r1, e1, g1⟩ := szIntS_val a.Counts left w2 (by omega) (by omega)
  simp only [e1, decide_true, decide_false, Bool.false_eq_true, if_true, if_false, Option.bind_some]
  by_cases c1 : r1 < 0
  · exact ⟨-1, by simp only [c1, decide_true, decide_false, Bool.false_eq_true, if_true, if_false, Option.bind_some], fun h => by omega⟩
  · have g1 := g1 (by omega)
    simp only [c1, decide_true, decide_false, Bool.false_eq_true, if_true, if_false, Option.bind_some]
    obtain ⟨r2, e2, g2⟩ := szIntS_val a.Sums r1 w3 (by omega) (by omega)
    simp only [e2, decide_true, decide_false, Bool.false_eq_true, if_true, if_false, Option.bind_some]
    by_cases c2 : r2 < 0
    · exact ⟨-1, by simp only [c2, decide_true, decide_false, Bool.false_eq_true, if_true, if_false, Option.bind_some], fun h => by omega⟩
    · have g2 := g2 (by omega)
      simp only [c2, decide_true, decide_false, Bool.false_eq_true, if_true, if_false, Option.bind_some]
      exact ⟨_, rfl, fun _ => by omega⟩
theorem toRing_val (a : Ring) (h : wtRing a ≤ 4000000) : laws_toRing a = some a := by
  rw [wtRing_eq] at h
  unfold laws_toRing
  simp only [toIntS_val a.Counts (by omega), toIntS_val a.Sums (by omega), Option.bind_some]
theorem eqRing_rfl (a : Ring) (h : wtRing a ≤ 4000000) : laws_eqRing a a = some true := by
  rw [wtRing_eq] at h
  unfold laws_eqRing
  simp only [eqIntS_rfl a.Counts (by omega), eqIntS_rfl a.Sums (by omega), beq_rfl, bne_rfl, Bool.false_eq_true, if_false, if_true, Option.bind_some]
theorem szByteS_val (a : List Int) (left : Int) (hw : W63 a) (h0 : 0 ≤ left) (h1 : left ≤ 1048576) : ∃ r, laws_szByteS a left = some r ∧ (0 ≤ r → r = left - (a.length : Nat)) := by
  unfold W63 Wl at hw
  have hl : a.length ≤ 140737488351232 := by have := hw.1; omega
  unfold laws_szByteS
  rw [sub_val h0 h1 hl]
  by_cases h : left - (a.length : Int) < 0
  · exact ⟨-1, by simp [h], fun h => by omega⟩
  · exact ⟨left - a.length, by simp [h], fun _ => rfl⟩
theorem toByteS_l0_val (a : List Int) : ∀ (t p v : List Int), a = p ++ t → v.length = a.length → v.take p.length = p → laws_toByteS_l0 a t p v = some a
  | [], p, v, e, hl, hv => by
    have : v = p := by rw [← hv, List.take_of_length_le (by rw [hl, e]; simp)]
    simp [laws_toByteS_l0, this, e]
  | x :: t, p, v, e, hl, hv => by
    have hlt : p.length < v.length := by rw [hl, e]; simp
    obtain ⟨y, hy⟩ := idx_some (v := v) hlt
    unfold laws_toByteS_l0
    rw [hy, Option.bind_some, Int.toNat_natCast]
    exact toByteS_l0_val a t (p ++ [x]) _ (by rw [e]; simp) (by simp [hl]) (set_take hv hlt)
theorem toByteS_val (a : List Int) (h : a.length ≤ 4000000) : laws_toByteS a = some a := by
  have hl : a.length ≤ 4000000 := h
  unfold laws_toByteS
  simp only [Int.natCast_nonneg, decide_true, if_true, Int.toNat_natCast, capOk_of (show a.length ≤ 274877906944 by omega)]
  rw [toByteS_l0_val a a [] _ rfl (by simp) rfl]
  rfl
theorem eqByteS_l0_rfl (a : List Int) : ∀ t p : List Int, a = p ++ t → laws_eqByteS_l0 a a t p = some (.out ())
  | [], p, e => rfl
  | x :: t, p, e => by
    unfold laws_eqByteS_l0
    rw [mid_get e, Option.bind_some]
    simp only [bne_rfl, beq_rfl, Bool.false_eq_true, if_false, if_true]
    exact eqByteS_l0_rfl a t (p ++ [x]) (by rw [e]; simp)
theorem eqByteS_rfl (a : List Int) (h : a.length ≤ 4000000) : laws_eqByteS a a = some true := by
  have hl : a.length ≤ 4000000 := h
  unfold laws_eqByteS
  rw [eqByteS_l0_rfl a a [] rfl, capOk_of (show a.length ≤ 274877906944 by omega)]
  simp only [bne_rfl, Bool.false_eq_true, if_false, if_true]
  rfl
def wtSlot (a : Slot) : Nat := a.Trace.size + a.Mti.size + a.Reply.length
theorem wtSlot_eq (a : Slot) : wtSlot a = a.Trace.size + a.Mti.size + a.Reply.length := rfl
theorem szSlot_val (a : Slot) (left : Int) (hw : W125 a) (h0 : 0 ≤ left) (h1 : left ≤ 1048576) : ∃ r, laws_szSlot a left = some r ∧ (0 ≤ r → r = left - (wtSlot a : Nat)) := by
  unfold W125 at hw
  obtain ⟨w0, w1, w2⟩ := hw
  rw [wtSlot_eq]
  unfold laws_szSlot
  have b1 := w0
  unfold Ws at b1
  rw [sub_val (show 0 ≤ left by omega) (by omega) b1]
  by_cases c1 : (left - (a.Trace.size : Int)) < 0
  · exact ⟨-1, by simp only [c1, decide_true, decide_false, Bool.false_eq_true, if_true, if_false, Option.bind_some], fun h => by omega⟩
  · simp only [c1, decide_true, decide_false, Bool.false_eq_true, if_true, if_false, Option.bind_some]
    have b2 := w1
    unfold Ws at b2
    rw [sub_val (show 0 ≤ (left - (a.Trace.size : Int)) by omega) (by omega) b2]
    by_cases c2 : (((left - (a.Trace.size : Int))) - (a.Mti.size : Int)) < 0
    · exact ⟨-1, by simp only [c2, decide_true, decide_false, Bool.false_eq_true, if_true, if_false, Option.bind_some], fun h => by omega⟩
    · simp only [c2, decide_true, decide_false, Bool.false_eq_true, if_true, if_false, Option.bind_some]
      obtain ⟨r3, e3, g3⟩ := szByteS_val a.Reply (((left - (a.Trace.size : Int))) - (a.Mti.size : Int)) w2 (by omega) (by omega)
      simp only [e3, decide_true, decide_false, Bool.false_eq_true, if_true, if_false, Option.bind_some]
      by_cases c3 : r3 < 0
      · exact ⟨-1, by simp only [c3, decide_true, decide_false, Bool.false_eq_true, if_true, if_false, Option.bind_some], fun h => by omega⟩
      · have g3 := g3 (by omega)
        simp only [c3, decide_true, decide_false, Bool.false_eq_true, if_true, if_false, Option.bind_some]
        exact ⟨_, rfl, fun _ => by omega⟩
def bySlot (a : Slot) : Prop := byB a.Reply
theorem bySlot_of (a : Slot) (h : W125 a) : bySlot a := by
  unfold W125 at h
  obtain ⟨w0, w1, w2⟩ := h
  exact (byB_of w2)
theorem toSlot_val (a : Slot) (h : wtSlot a ≤ 4000000) : laws_toSlot a = some a := by
  rw [wtSlot_eq] at h
  unfold laws_toSlot
  simp only [toByteS_val a.Reply (by omega), Option.bind_some]
theorem eqSlot_rfl (a : Slot) (h : wtSlot a ≤ 4000000) : laws_eqSlot a a = some true := by
  rw [wtSlot_eq] at h
  unfold laws_eqSlot
  simp only [eqByteS_rfl a.Reply (by omega), beq_rfl, bne_rfl, Bool.false_eq_true, if_false, if_true, Option.bind_some]
theorem szSlotS_l0_val (a : List Slot) : ∀ (t : List Slot) (v : Int), 0 ≤ v → v ≤ 1048576 → (∀ x ∈ t, W125 x) → ∃ r, laws_szSlotS_l0 a t v = some r ∧ ∀ s, r = .out s → 0 ≤ s ∧ s = v - (wtS wtSlot t : Nat)
  | [], v, h0, h1, _ => ⟨.out v, rfl, fun s e => by cases e; exact ⟨h0, by simp [wtS]⟩⟩
  | x :: t, v, h0, h1, hw => by
    obtain ⟨r, e1, e3⟩ := szSlot_val x v (hw x (by simp)) h0 h1
    unfold laws_szSlotS_l0
    rw [e1, Option.bind_some]
    by_cases h : r < 0
    · exact ⟨.ret (), by simp [h], fun s e => by cases e⟩
    · have e3 := e3 (by omega)
      obtain ⟨z, f1, f2⟩ := szSlotS_l0_val a t r (by omega) (by omega) (fun y hy => hw y (by simp [hy]))
      refine ⟨z, by simp [h, f1], fun s e => ?_⟩
      obtain ⟨g1, g2⟩ := f2 s e
      exact ⟨g1, by rw [g2]; simp only [wtS]; omega⟩
theorem szSlotS_val (a : List Slot) (left : Int) (hw : W81 a) (h0 : 0 ≤ left) (h1 : left ≤ 1048576) : ∃ r, laws_szSlotS a left = some r ∧ (0 ≤ r → r = left - (wtL wtSlot a : Nat)) := by
  unfold W81 Wl at hw
  have hl : a.length ≤ 140737488351232 := by have := hw.1; omega
  unfold laws_szSlotS
  rw [sub_val h0 h1 hl]
  by_cases h : left - (a.length : Int) < 0
  · exact ⟨-1, by simp [h], fun h => by omega⟩
  · obtain ⟨z, f1, f2⟩ := szSlotS_l0_val a a (left - a.length) (by omega) (by omega) hw.2
    simp only [h, decide_false, Bool.false_eq_true, if_false, capOk_of (show a.length ≤ 274877906944 by omega), if_true, f1, Option.bind_some]
    cases z with
    | ret u => exact ⟨-1, rfl, fun h => by omega⟩
    | out s =>
      obtain ⟨g1, g2⟩ := f2 s rfl
      exact ⟨s, rfl, fun _ => by rw [g2, wtL_eq]; omega⟩
theorem toSlotS_l0_val (a : List Slot) : ∀ (t p v : List Slot), a = p ++ t → (∀ s ∈ t, wtSlot s ≤ 4000000) → v.length = a.length → v.take p.length = p → laws_toSlotS_l0 a t p v = some a
  | [], p, v, e, hs, hl, hv => by
    have : v = p := by rw [← hv, List.take_of_length_le (by rw [hl, e]; simp)]
    simp [laws_toSlotS_l0, this, e]
  | x :: t, p, v, e, hs, hl, hv => by
    have hlt : p.length < v.length := by rw [hl, e]; simp
    obtain ⟨y, hy⟩ := idx_some (v := v) hlt
    unfold laws_toSlotS_l0
    rw [toSlot_val x (hs x (by simp)), Option.bind_some, hy, Option.bind_some, Int.toNat_natCast]
    exact toSlotS_l0_val a t (p ++ [x]) _ (by rw [e]; simp) (fun s hs' => hs s (by simp [hs'])) (by simp [hl]) (set_take hv hlt)
theorem toSlotS_val (a : List Slot) (h : wtL wtSlot a ≤ 4000000) : laws_toSlotS a = some a := by
  have hl : a.length ≤ 4000000 := (by have := wtL_len wtSlot a; omega)
  unfold laws_toSlotS
  simp only [Int.natCast_nonneg, decide_true, if_true, Int.toNat_natCast, capOk_of (show a.length ≤ 274877906944 by omega)]
  rw [toSlotS_l0_val a a [] _ rfl (fun s hs => by have := wtL_mem wtSlot a s hs; omega) (by simp) rfl]
  rfl
theorem eqSlotS_l0_rfl (a : List Slot) : ∀ t p : List Slot, a = p ++ t → (∀ s ∈ t, wtSlot s ≤ 4000000) → laws_eqSlotS_l0 a a t p = some (.out ())
  | [], p, e, _ => rfl
  | x :: t, p, e, hs => by
    unfold laws_eqSlotS_l0
    rw [mid_get e, Option.bind_some, eqSlot_rfl x (hs x (by simp)), Option.bind_some]
    simpa using eqSlotS_l0_rfl a t (p ++ [x]) (by rw [e]; simp) (fun s hs' => hs s (by simp [hs']))
theorem eqSlotS_rfl (a : List Slot) (h : wtL wtSlot a ≤ 4000000) : laws_eqSlotS a a = some true := by
  have hl : a.length ≤ 4000000 := (by have := wtL_len wtSlot a; omega)
  unfold laws_eqSlotS
  rw [eqSlotS_l0_rfl a a [] rfl (fun s hs => by have := wtL_mem wtSlot a s hs; omega), capOk_of (show a.length ≤ 274877906944 by omega)]
  simp only [bne_rfl, Bool.false_eq_true, if_false, if_true]
  rfl
def wtAcct (a : Acct) : Nat := a.Id.size + wtL wtHold a.Holds + wtRing a.Ring + wtL wtSlot a.Slots
theorem wtAcct_eq (a : Acct) : wtAcct a = a.Id.size + wtL wtHold a.Holds + wtRing a.Ring + wtL wtSlot a.Slots := rfl
theorem szAcct_val (a : Acct) (left : Int) (hw : W83 a) (h0 : 0 ≤ left) (h1 : left ≤ 1048576) : ∃ r, laws_szAcct a left = some r ∧ (0 ≤ r → r = left - (wtAcct a : Nat)) := by
  unfold W83 at hw
  obtain ⟨w0, w1, w2, w3, w4, w5, w6, w7⟩ := hw
  rw [wtAcct_eq]
  unfold laws_szAcct
  have b1 := w0
  unfold Ws at b1
  rw [sub_val (show 0 ≤ left by omega) (by omega) b1]
  by_cases c1 : (left - (a.Id.size : Int)) < 0
  · exact ⟨-1, by simp only [c1, decide_true, decide_false, Bool.false_eq_true, if_true, if_false, Option.bind_some], fun h => by omega⟩
  · simp only [c1, decide_true, decide_false, Bool.false_eq_true, if_true, if_false, Option.bind_some]
    obtain ⟨r2, e2, g2⟩ := szHoldS_val a.Holds (left - (a.Id.size : Int)) w5 (by omega) (by omega)
    simp only [e2, decide_true, decide_false, Bool.false_eq_true, if_true, if_false, Option.bind_some]
    by_cases c2 : r2 < 0
    · exact ⟨-1, by simp only [c2, decide_true, decide_false, Bool.false_eq_true, if_true, if_false, Option.bind_some], fun h => by omega⟩
    · have g2 := g2 (by omega)
      simp only [c2, decide_true, decide_false, Bool.false_eq_true, if_true, if_false, Option.bind_some]
      obtain ⟨r3, e3, g3⟩ := szRing_val a.Ring r2 w6 (by omega) (by omega)
      simp only [e3, decide_true, decide_false, Bool.false_eq_true, if_true, if_false, Option.bind_some]
      by_cases c3 : r3 < 0
      · exact ⟨-1, by simp only [c3, decide_true, decide_false, Bool.false_eq_true, if_true, if_false, Option.bind_some], fun h => by omega⟩
      · have g3 := g3 (by omega)
        simp only [c3, decide_true, decide_false, Bool.false_eq_true, if_true, if_false, Option.bind_some]
        obtain ⟨r4, e4, g4⟩ := szSlotS_val a.Slots r3 w7 (by omega) (by omega)
        simp only [e4, decide_true, decide_false, Bool.false_eq_true, if_true, if_false, Option.bind_some]
        by_cases c4 : r4 < 0
        · exact ⟨-1, by simp only [c4, decide_true, decide_false, Bool.false_eq_true, if_true, if_false, Option.bind_some], fun h => by omega⟩
        · have g4 := g4 (by omega)
          simp only [c4, decide_true, decide_false, Bool.false_eq_true, if_true, if_false, Option.bind_some]
          exact ⟨_, rfl, fun _ => by omega⟩
def byAcct (a : Acct) : Prop := ∀ x ∈ a.Slots, bySlot x
theorem byAcct_of (a : Acct) (h : W83 a) : byAcct a := by
  unfold W83 at h
  obtain ⟨w0, w1, w2, w3, w4, w5, w6, w7⟩ := h
  exact (fun x hx => (bySlot_of x (w7.2 x hx)))
theorem toAcct_val (a : Acct) (h : wtAcct a ≤ 4000000) : laws_toAcct a = some a := by
  rw [wtAcct_eq] at h
  unfold laws_toAcct
  simp only [toHoldS_val a.Holds (by omega), toRing_val a.Ring (by omega), toSlotS_val a.Slots (by omega), Option.bind_some]
theorem eqAcct_rfl (a : Acct) (h : wtAcct a ≤ 4000000) : laws_eqAcct a a = some true := by
  rw [wtAcct_eq] at h
  unfold laws_eqAcct
  simp only [eqHoldS_rfl a.Holds (by omega), eqRing_rfl a.Ring (by omega), eqSlotS_rfl a.Slots (by omega), beq_rfl, bne_rfl, Bool.false_eq_true, if_false, if_true, Option.bind_some]
theorem szAcctS_l0_val (a : List Acct) : ∀ (t : List Acct) (v : Int), 0 ≤ v → v ≤ 1048576 → (∀ x ∈ t, W83 x) → ∃ r, laws_szAcctS_l0 a t v = some r ∧ ∀ s, r = .out s → 0 ≤ s ∧ s = v - (wtS wtAcct t : Nat)
  | [], v, h0, h1, _ => ⟨.out v, rfl, fun s e => by cases e; exact ⟨h0, by simp [wtS]⟩⟩
  | x :: t, v, h0, h1, hw => by
    obtain ⟨r, e1, e3⟩ := szAcct_val x v (hw x (by simp)) h0 h1
    unfold laws_szAcctS_l0
    rw [e1, Option.bind_some]
    by_cases h : r < 0
    · exact ⟨.ret (), by simp [h], fun s e => by cases e⟩
    · have e3 := e3 (by omega)
      obtain ⟨z, f1, f2⟩ := szAcctS_l0_val a t r (by omega) (by omega) (fun y hy => hw y (by simp [hy]))
      refine ⟨z, by simp [h, f1], fun s e => ?_⟩
      obtain ⟨g1, g2⟩ := f2 s e
      exact ⟨g1, by rw [g2]; simp only [wtS]; omega⟩
theorem szAcctS_val (a : List Acct) (left : Int) (hw : W22 a) (h0 : 0 ≤ left) (h1 : left ≤ 1048576) : ∃ r, laws_szAcctS a left = some r ∧ (0 ≤ r → r = left - (wtL wtAcct a : Nat)) := by
  unfold W22 Wl at hw
  have hl : a.length ≤ 140737488351232 := by have := hw.1; omega
  unfold laws_szAcctS
  rw [sub_val h0 h1 hl]
  by_cases h : left - (a.length : Int) < 0
  · exact ⟨-1, by simp [h], fun h => by omega⟩
  · obtain ⟨z, f1, f2⟩ := szAcctS_l0_val a a (left - a.length) (by omega) (by omega) hw.2
    simp only [h, decide_false, Bool.false_eq_true, if_false, capOk_of (show a.length ≤ 274877906944 by omega), if_true, f1, Option.bind_some]
    cases z with
    | ret u => exact ⟨-1, rfl, fun h => by omega⟩
    | out s =>
      obtain ⟨g1, g2⟩ := f2 s rfl
      exact ⟨s, rfl, fun _ => by rw [g2, wtL_eq]; omega⟩
theorem toAcctS_l0_val (a : List Acct) : ∀ (t p v : List Acct), a = p ++ t → (∀ s ∈ t, wtAcct s ≤ 4000000) → v.length = a.length → v.take p.length = p → laws_toAcctS_l0 a t p v = some a
  | [], p, v, e, hs, hl, hv => by
    have : v = p := by rw [← hv, List.take_of_length_le (by rw [hl, e]; simp)]
    simp [laws_toAcctS_l0, this, e]
  | x :: t, p, v, e, hs, hl, hv => by
    have hlt : p.length < v.length := by rw [hl, e]; simp
    obtain ⟨y, hy⟩ := idx_some (v := v) hlt
    unfold laws_toAcctS_l0
    rw [toAcct_val x (hs x (by simp)), Option.bind_some, hy, Option.bind_some, Int.toNat_natCast]
    exact toAcctS_l0_val a t (p ++ [x]) _ (by rw [e]; simp) (fun s hs' => hs s (by simp [hs'])) (by simp [hl]) (set_take hv hlt)
theorem toAcctS_val (a : List Acct) (h : wtL wtAcct a ≤ 4000000) : laws_toAcctS a = some a := by
  have hl : a.length ≤ 4000000 := (by have := wtL_len wtAcct a; omega)
  unfold laws_toAcctS
  simp only [Int.natCast_nonneg, decide_true, if_true, Int.toNat_natCast, capOk_of (show a.length ≤ 274877906944 by omega)]
  rw [toAcctS_l0_val a a [] _ rfl (fun s hs => by have := wtL_mem wtAcct a s hs; omega) (by simp) rfl]
  rfl
theorem eqAcctS_l0_rfl (a : List Acct) : ∀ t p : List Acct, a = p ++ t → (∀ s ∈ t, wtAcct s ≤ 4000000) → laws_eqAcctS_l0 a a t p = some (.out ())
  | [], p, e, _ => rfl
  | x :: t, p, e, hs => by
    unfold laws_eqAcctS_l0
    rw [mid_get e, Option.bind_some, eqAcct_rfl x (hs x (by simp)), Option.bind_some]
    simpa using eqAcctS_l0_rfl a t (p ++ [x]) (by rw [e]; simp) (fun s hs' => hs s (by simp [hs']))
theorem eqAcctS_rfl (a : List Acct) (h : wtL wtAcct a ≤ 4000000) : laws_eqAcctS a a = some true := by
  have hl : a.length ≤ 4000000 := (by have := wtL_len wtAcct a; omega)
  unfold laws_eqAcctS
  rw [eqAcctS_l0_rfl a a [] rfl (fun s hs => by have := wtL_mem wtAcct a s hs; omega), capOk_of (show a.length ≤ 274877906944 by omega)]
  simp only [bne_rfl, Bool.false_eq_true, if_false, if_true]
  rfl
def wtBook (a : Book) : Nat := wtL wtAcct a.Accts
theorem wtBook_eq (a : Book) : wtBook a = wtL wtAcct a.Accts := rfl
theorem szBook_val (a : Book) (left : Int) (hw : W24 a) (h0 : 0 ≤ left) (h1 : left ≤ 1048576) : ∃ r, laws_szBook a left = some r ∧ (0 ≤ r → r = left - (wtBook a : Nat)) := by
  unfold W24 at hw
  have w0 := hw
  rw [wtBook_eq]
  unfold laws_szBook
  obtain ⟨r1, e1, g1⟩ := szAcctS_val a.Accts left w0 (by omega) (by omega)
  simp only [e1, decide_true, decide_false, Bool.false_eq_true, if_true, if_false, Option.bind_some]
  by_cases c1 : r1 < 0
  · exact ⟨-1, by simp only [c1, decide_true, decide_false, Bool.false_eq_true, if_true, if_false, Option.bind_some], fun h => by omega⟩
  · have g1 := g1 (by omega)
    simp only [c1, decide_true, decide_false, Bool.false_eq_true, if_true, if_false, Option.bind_some]
    exact ⟨_, rfl, fun _ => by omega⟩
def byBook (a : Book) : Prop := ∀ x ∈ a.Accts, byAcct x
theorem byBook_of (a : Book) (h : W24 a) : byBook a := by
  unfold W24 at h
  have w0 := h
  exact (fun x hx => (byAcct_of x (w0.2 x hx)))
theorem toBook_val (a : Book) (h : wtBook a ≤ 4000000) : laws_toBook a = some a := by
  rw [wtBook_eq] at h
  unfold laws_toBook
  simp only [toAcctS_val a.Accts (by omega), Option.bind_some]
theorem eqBook_rfl (a : Book) (h : wtBook a ≤ 4000000) : laws_eqBook a a = some true := by
  rw [wtBook_eq] at h
  unfold laws_eqBook
  simp only [eqAcctS_rfl a.Accts (by omega), beq_rfl, bne_rfl, Bool.false_eq_true, if_false, if_true, Option.bind_some]
theorem tf (b : Bool) : b = true ∨ b = false := by cases b <;> simp
def all2 {α β : Type} (q : α → β → Bool) : List α → List β → Bool
  | [], _ => true
  | x :: t, y :: u => q x y && all2 q t u
  | _ :: _, [] => false
theorem all2_iff {α : Type} (q : α → α → Bool) (hq : ∀ x y, q x y = true ↔ x = y) : ∀ (a b : List α), a.length = b.length → (all2 q a b = true ↔ a = b)
  | [], [], _ => by simp [all2]
  | x :: t, y :: u, h => by
    simp only [List.length_cons, Nat.add_right_cancel_iff] at h
    simp only [all2, Bool.and_eq_true, hq, all2_iff q hq t u h, List.cons.injEq]
  | [], y :: u, h => by simp at h
  | x :: t, [], h => by simp at h
theorem pair_loop {α β : Type} {L : List α → List α → Option (Lo Unit Unit)} (b : List β) (Qx : α → Prop) (Qy : β → Prop) (q : α → β → Bool) (h0 : ∀ p, L [] p = some (.out ()))
    (h1 : ∀ x t p y, b[p.length]? = some y → Qx x → Qy y → L (x :: t) p = if q x y = true then L t (p ++ [x]) else some (.ret ())) (hy : ∀ y ∈ b, Qy y) :
    ∀ (t p : List α), (∀ x ∈ t, Qx x) → p.length + t.length ≤ b.length → L t p = some (if all2 q t (b.drop p.length) = true then .out () else .ret ())
  | [], p, _, _ => by rw [h0]; simp [all2]
  | x :: t, p, hx, h => by
    simp only [List.length_cons] at h
    have hlt : p.length < b.length := by omega
    rw [h1 x t p b[p.length] (List.getElem?_eq_getElem hlt) (hx x (by simp)) (hy _ (List.getElem_mem hlt)), List.drop_eq_getElem_cons hlt]
    have ih := pair_loop b Qx Qy q h0 h1 hy t (p ++ [x]) (fun z hz => hx z (by simp [hz])) (by simp; omega)
    simp only [List.length_append, List.length_cons, List.length_nil, Nat.zero_add] at ih
    simp only [all2]
    rcases tf (q x b[p.length]) with hq | hq
    · simp only [hq, if_true, Bool.true_and]; exact ih
    · simp [hq]
theorem lo_bool (c : Bool) : ((some (if c = true then Lo.out () else Lo.ret ()) : Option (Lo Unit Unit)).bind fun r => Lo.elim r (fun _ => some true) (fun _ => some false)) = some c := by cases c <;> rfl
/-- Two lists alike. -/
def listEq {α : Type} (q : α → α → Bool) (a b : List α) : Bool := !((a.length : Int) != (b.length : Int)) && all2 q a b
/-- A comparison of two lists: lengths first, then pair by pair. -/
theorem pair_main {α : Type} {L : List α → List α → Option (Lo Unit Unit)} (a b : List α) (Q : α → Prop) (q : α → α → Bool) (h0 : ∀ p, L [] p = some (.out ()))
    (h1 : ∀ x t p y, b[p.length]? = some y → Q x → Q y → L (x :: t) p = if q x y = true then L t (p ++ [x]) else some (.ret ())) (hx : ∀ x ∈ a, Q x) (hy : ∀ y ∈ b, Q y) (hl : a.length ≤ 274877906944) :
    (if ((a.length : Int) != (b.length : Int)) = true then some false else (if (capOk a.length) = true then (L a []).bind fun r => Lo.elim r (fun _ => some true) (fun _ => some false) else none)) = some (listEq q a b) := by
  unfold listEq
  by_cases h : a.length = b.length
  · have h2 : ((a.length : Int) != (b.length : Int)) = false := by rw [h]; simp
    rw [h2, capOk_of hl, pair_loop b Q Q q h0 h1 hy a [] hx (by simp; omega)]
    simp only [Bool.false_eq_true, if_false, if_true, lo_bool]
    rfl
  · have h2 : ((a.length : Int) != (b.length : Int)) = true := by rw [bne_iff_ne]; omega
    rw [h2]; rfl
/-- Each account of a list is small. -/
def okAs (l : List Acct) : Prop := ∀ x ∈ l, wtAcct x ≤ 4000000
theorem okAs_of {l : List Acct} (h : wtL wtAcct l ≤ 4000000) : okAs l := fun x hx => by have := wtL_mem wtAcct l x hx; omega
theorem bstr_fold : ∀ (ns : List Int) (r : ByteArray), (ns.foldl (fun r n => r.push (UInt8.ofNat n.toNat)) r).data.toList = r.data.toList ++ ns.map (fun n => UInt8.ofNat n.toNat)
  | [], r => by simp
  | n :: ns, r => by
    rw [List.foldl_cons, bstr_fold ns]
    simp [ByteArray.push]
theorem bstr_list (ns : List Int) : (bstr ns).data.toList = ns.map (fun n => UInt8.ofNat n.toNat) := by
  unfold bstr
  rw [bstr_fold]; rfl
theorem byte_inj {a b : Int} (ha : 0 ≤ a ∧ a ≤ 255) (hb : 0 ≤ b ∧ b ≤ 255) (h : UInt8.ofNat a.toNat = UInt8.ofNat b.toNat) : a = b := by
  have := congrArg UInt8.toNat h
  simp at this
  omega
theorem bstr_eq {a b : List Int} (ha : byB a) (hb : byB b) (h : bstr a = bstr b) : a = b := by
  have h2 : a.map (fun n => UInt8.ofNat n.toNat) = b.map (fun n => UInt8.ofNat n.toNat) := by rw [← bstr_list, ← bstr_list, h]
  clear h
  induction a generalizing b with
  | nil => cases b with
    | nil => rfl
    | cons y u => simp at h2
  | cons x t ih => cases b with
    | nil => simp at h2
    | cons y u =>
      simp only [List.map_cons, List.cons.injEq] at h2
      rw [byte_inj (ha x (by simp)) (hb y (by simp)) h2.1, ih (fun z hz => ha z (by simp [hz])) (fun z hz => hb z (by simp [hz])) h2.2]
theorem listEq_int (a b : List Int) : listEq (fun x y : Int => x == y) a b = decide (a = b) := by
  unfold listEq
  by_cases h : a.length = b.length
  · have h2 : ((a.length : Int) != (b.length : Int)) = false := by rw [h]; simp
    rw [h2]
    have := all2_iff (fun x y : Int => x == y) (fun x y => beq_iff_eq) a b h
    cases hq : all2 (fun x y : Int => x == y) a b with
    | true => simp [this.1 hq]
    | false => simp only [Bool.not_false, Bool.true_and]; symm; rw [decide_eq_false_iff_not]; intro e; rw [this.2 e] at hq; cases hq
  · have h2 : ((a.length : Int) != (b.length : Int)) = true := by rw [bne_iff_ne]; omega
    rw [h2]
    simp only [Bool.not_true, Bool.false_and]
    symm; rw [decide_eq_false_iff_not]; intro e; exact h (by rw [e])
theorem bstr_beq {a b : List Int} (ha : byB a) (hb : byB b) : (bstr a == bstr b) = decide (a = b) := by
  rw [beqB]
  by_cases h : a = b
  · rw [h]; simp
  · have : ¬ bstr a = bstr b := fun e => h (bstr_eq ha hb e)
    simp [h, this]
theorem Equal_byte_val (a b : List Int) (h : a.length ≤ 4000000) : slices_Equal_byte a b = some (decide (a = b)) := by
  unfold slices_Equal_byte
  rw [pair_main (L := slices_Equal_byte_l0 a b) a b (fun _ => True) (fun x y => x == y) (fun _ => rfl) (fun x t p y hy _ _ => by
    show ((b[((p.length : Int)).toNat]?).bind _) = _
    rw [Int.toNat_natCast, hy]
    by_cases hq : x = y <;> simp [hq]) (fun _ _ => trivial) (fun _ _ => trivial) (by omega), listEq_int]
def slotEq (x y : Slot) : Bool := (x.Trace == y.Trace) && ((x.Mti == y.Mti) && decide (x.Reply = y.Reply))
def okSlot (s : Slot) : Prop := s.Reply.length ≤ 4000000 ∧ byB s.Reply
theorem spec_SlotsSame_val (a b : List Slot) (ha : ∀ s ∈ a, okSlot s) (hb : ∀ s ∈ b, okSlot s) (h : a.length ≤ 4000000) : spec_SlotsSame a b = some (listEq slotEq a b) := by
  unfold spec_SlotsSame
  exact pair_main (L := spec_SlotsSame_l0 a b) a b okSlot slotEq (fun _ => rfl) (fun x t p y hy hx hz => by
    show ((b[((p.length : Int)).toNat]?).bind _) = _
    rw [Int.toNat_natCast, hy]
    simp only [Option.bind_some, bstr_beq hx.2 hz.2, slotEq]
    rcases tf (x.Trace == y.Trace) with h1 | h1 <;> rcases tf (x.Mti == y.Mti) with h2 | h2 <;> rcases tf (decide (x.Reply = y.Reply)) with h3 | h3 <;> simp [h1, h2, h3]) ha hb (by omega)
theorem impl_SlotsSame_val (a b : List Slot) (ha : ∀ s ∈ a, okSlot s) (hb : ∀ s ∈ b, okSlot s) (h : a.length ≤ 4000000) : impl_SlotsSame a b = some (listEq slotEq a b) := by
  unfold impl_SlotsSame slices_EqualFunc_impl_Slot_impl_SlotsSame_1
  rw [pair_main (L := slices_EqualFunc_impl_Slot_impl_SlotsSame_1_l0 a b) a b okSlot slotEq (fun _ => rfl) (fun x t p y hy hx hz => by
    show ((b[((p.length : Int)).toNat]?).bind _) = _
    rw [Int.toNat_natCast, hy]
    simp only [Option.bind_some, impl_SlotsSame_1, Equal_byte_val _ _ hx.1, slotEq]
    rcases tf (x.Trace == y.Trace) with h1 | h1 <;> rcases tf (x.Mti == y.Mti) with h2 | h2 <;> rcases tf (decide (x.Reply = y.Reply)) with h3 | h3 <;> simp [h1, h2, h3]) ha hb (by omega)]
  rfl
def okA (a : Acct) : Prop := wtAcct a ≤ 4000000 ∧ ∀ s ∈ a.Slots, byB s.Reply
theorem okA_slots {a : Acct} (h : okA a) : a.Slots.length ≤ 4000000 ∧ ∀ s ∈ a.Slots, okSlot s := by
  obtain ⟨h1, h2⟩ := h
  rw [wtAcct_eq] at h1
  have := wtL_len wtSlot a.Slots
  refine ⟨by omega, fun s hs => ⟨?_, h2 s hs⟩⟩
  have h3 := wtL_mem wtSlot a.Slots s hs
  rw [wtSlot_eq] at h3
  omega
/-- Is no slot lost? -/
def keptQ (x y : Acct) : Bool := !decide ((y.Slots.length : Int) < (x.Slots.length : Int)) && listEq slotEq x.Slots (y.Slots.take x.Slots.length)
theorem Kept_val (a b : Book) (ha : wtBook a ≤ 1048576) (hb : wtBook b ≤ 1048576) (ba : byBook a) (bb : byBook b) : ∃ y, spec_Kept a b = some y ∧ impl_Kept a b = some y ∧ True := by
  rw [wtBook_eq] at ha hb
  have hla := wtL_len wtAcct a.Accts
  have oka : ∀ x ∈ a.Accts, okA x := fun x hx => ⟨okAs_of (show wtL wtAcct a.Accts ≤ 4000000 by omega) x hx, ba x hx⟩
  have okb : ∀ x ∈ b.Accts, okA x := fun x hx => ⟨okAs_of (show wtL wtAcct b.Accts ≤ 4000000 by omega) x hx, bb x hx⟩
  have step : ∀ (x y : Acct), okA x → okA y → spec_SlotsSame x.Slots (y.Slots.take x.Slots.length) = some (listEq slotEq x.Slots (y.Slots.take x.Slots.length)) ∧ impl_SlotsSame x.Slots (y.Slots.take x.Slots.length) = some (listEq slotEq x.Slots (y.Slots.take x.Slots.length)) := fun x y hx hy => by
    have hy2 : ∀ s ∈ y.Slots.take x.Slots.length, okSlot s := fun s hs => (okA_slots hy).2 s (List.mem_of_mem_take hs)
    exact ⟨spec_SlotsSame_val _ _ (okA_slots hx).2 hy2 (okA_slots hx).1, impl_SlotsSame_val _ _ (okA_slots hx).2 hy2 (okA_slots hx).1⟩
  refine ⟨listEq keptQ a.Accts b.Accts, ?_, ?_, trivial⟩
  · unfold spec_Kept
    exact pair_main (L := spec_Kept_l0 a b) a.Accts b.Accts okA keptQ (fun _ => rfl) (fun x t p y hy hx hz => by
      show ((b.Accts[((p.length : Int)).toNat]?).bind _) = _
      rw [Int.toNat_natCast, hy]
      simp only [Option.bind_some, Int.natCast_nonneg, decide_true, if_true, Int.toNat_natCast, List.drop_zero, (step x y hx hz).1, keptQ]
      by_cases hlt : (y.Slots.length : Int) < (x.Slots.length : Int)
      · simp [hlt]
      · have hle : (x.Slots.length : Int) ≤ (y.Slots.length : Int) := by omega
        simp [hlt, hle]) oka okb (by omega)
  · unfold impl_Kept
    exact pair_main (L := impl_Kept_l0 a b) a.Accts b.Accts okA keptQ (fun _ => rfl) (fun x t p y hy hx hz => by
      show ((b.Accts[((p.length : Int)).toNat]?).bind _) = _
      rw [Int.toNat_natCast, hy]
      simp only [Option.bind_some, Int.natCast_nonneg, decide_true, if_true, Int.toNat_natCast, List.drop_zero, (step x y hx hz).2, keptQ]
      by_cases hlt : (y.Slots.length : Int) < (x.Slots.length : Int)
      · simp [hlt]
      · have hle : (x.Slots.length : Int) ≤ (y.Slots.length : Int) := by omega
        simp [hlt, hle]) oka okb (by omega)
namespace Pure
theorem FnExactKept (aA : Book) (aB : Book) (h0 : W24 aA) (h1 : W24 aB) : laws_FnExactKept aA aB = some true := by
  unfold laws_FnExactKept
  obtain ⟨r1, er1, gr1⟩ := szBook_val aA 1048576 h0 (by omega) (by omega)
  rw [er1, Option.bind_some]
  by_cases cr1 : r1 < 0
  · simp only [cr1, decide_true, decide_false, Bool.false_eq_true, if_true, if_false]
  have gr1 := gr1 (by omega)
  simp only [cr1, decide_true, decide_false, Bool.false_eq_true, if_true, if_false]
  obtain ⟨r2, er2, gr2⟩ := szBook_val aB r1 h1 (by omega) (by omega)
  rw [er2, Option.bind_some]
  by_cases cr2 : r2 < 0
  · simp only [cr2, decide_true, decide_false, Bool.false_eq_true, if_true, if_false]
  have gr2 := gr2 (by omega)
  simp only [cr2, decide_true, decide_false, Bool.false_eq_true, if_true, if_false]
  obtain ⟨y, f1, f2, f3⟩ := Kept_val aA aB (by omega) (by omega) (byBook_of aA h0) (byBook_of aB h1)
  simp only [f1, f2, toBook_val aA (by omega), eqBook_rfl aA (by omega), toBook_val aB (by omega), eqBook_rfl aB (by omega), Option.bind_some, decide_true, decide_false, Bool.false_eq_true, if_true, if_false, bne_rfl, beq_rfl, beq_self_eq_true]
end Pure
end Go.Proofs.YtephmimhaokhlaaM
