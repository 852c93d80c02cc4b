/- Laws of the plain functions. No condition. -/
import Derived.Test.YthonbclgdbigpaaDoorEvOp
import Derived.Laws.StructEq
namespace Go.Proofs.YthonbclgdbigpaaDoorM
set_option linter.unusedVariables false
set_option linter.unusedSimpArgs false
set_option maxRecDepth 100000
theorem i64_of {x : Int} (h : -9223372036854775808 ≤ x) (h2 : x ≤ 9223372036854775807) : i64 x = x := by unfold i64; rw [IntKind.wrap_i64]; omega
theorem u8_of {x : Int} (h : 0 ≤ x) (h2 : x ≤ 255) : u8 x = x := by unfold u8 IntKind.wrap; simp [IntKind.bits, IntKind.signed]; omega
theorem capOk_of {n : Nat} (h : n ≤ 274877906944) : capOk n = true := decide_eq_true h
theorem beqB (a b : ByteArray) : (a == b) = decide (a = b) := by
  rcases a with ⟨a⟩
  rcases b with ⟨b⟩
  have h1 : ((⟨a⟩ : ByteArray) == ⟨b⟩) = (a == b) := rfl
  rw [h1]
  by_cases h : a = b
  · subst h; simp
  · have h2 : ¬ ((⟨a⟩ : ByteArray) = ⟨b⟩) := fun e => h (by cases e; rfl)
    rw [decide_eq_false h2]
    simpa using h
theorem tmod10 {x : Int} (h : 0 ≤ x) : Int.tmod x 10 = x % 10 := Int.tmod_eq_emod_of_nonneg h
theorem sub_val {left : Int} {n : Nat} (h0 : 0 ≤ left) (h1 : left ≤ 1048576) (hn : n ≤ 140737488351232) : i64 (left - (n : Int)) = left - n := i64_of (by omega) (by omega)
theorem set_take {α : Type} {v p : List α} {x : α} (hv : v.take p.length = p) (hl : p.length < v.length) : (v.set p.length x).take (p ++ [x]).length = p ++ [x] := by
  rw [List.length_append, List.length_cons, List.length_nil, List.take_add_one, List.take_set_of_le (Nat.le_refl _), hv]
  simp [hl]
theorem idx_some {α : Type} {v p : List α} (hl : p.length < v.length) : ∃ y, v[((p.length : Int)).toNat]? = some y := ⟨v[p.length], by simp [hl]⟩
theorem beq_rfl (s : ByteArray) : (s == s) = true := by rw [beqB]; simp
theorem bne_rfl (n : Int) : (n != n) = false := by simp
theorem mid_get {α : Type} {a p t : List α} {x : α} (e : a = p ++ x :: t) : a[((p.length : Int)).toNat]? = some x := by rw [e]; simp
theorem bstr_one (n : Int) : (bstr [n]).size = 1 := rfl
theorem size_app (a b : ByteArray) : (a ++ b).size = a.size + b.size := ByteArray.size_append
def byB (l : List Int) : Prop := ∀ b ∈ l, 0 ≤ b ∧ b ≤ 255
theorem byB_of {l : List Int} {n : Nat} (h : Wl n (Wi .u8) l) : byB l := fun b hb => by
  have := h.2 b hb
  unfold Wi at this
  simpa [Lit.wf, IntKind.min, IntKind.max, IntKind.signed, IntKind.bits] using this
/-- The weight of a list: its length, and its elements' weights. -/
def wtL {α : Type} (f : α → Nat) : List α → Nat
  | [] => 0
  | x :: t => 1 + f x + wtL f t
def wtS {α : Type} (f : α → Nat) : List α → Nat
  | [] => 0
  | x :: t => f x + wtS f t
theorem wtL_eq {α : Type} (f : α → Nat) : ∀ l : List α, wtL f l = l.length + wtS f l
  | [] => rfl
  | x :: t => by simp only [wtL, wtS, List.length_cons]; rw [wtL_eq f t]; omega
theorem wtL_len {α : Type} (f : α → Nat) (l : List α) : l.length ≤ wtL f l := by rw [wtL_eq]; omega
theorem wtL_mem {α : Type} (f : α → Nat) : ∀ (l : List α) (x : α), x ∈ l → f x + 1 ≤ wtL f l
  | y :: t, x, h => by
    simp only [wtL]
    rcases List.mem_cons.1 h with rfl | h
    · omega
    · have := wtL_mem f t x h; omega
theorem szByteS_val (a : List Int) (left : Int) (hw : W29 a) (h0 : 0 ≤ left) (h1 : left ≤ 1048576) : ∃ r, laws_szByteS a left = some r ∧ (0 ≤ r → r = left - (a.length : Nat)) := by
  unfold W29 Wl at hw
  have hl : a.length ≤ 140737488351232 := by have := hw.1; omega
  unfold laws_szByteS
  rw [sub_val h0 h1 hl]
  by_cases h : left - (a.length : Int) < 0
  · exact ⟨-1, by simp [h], fun h => by omega⟩
  · exact ⟨left - a.length, by simp [h], fun _ => rfl⟩
theorem toByteS_l0_val (a : List Int) : ∀ (t p v : List Int), a = p ++ t → v.length = a.length → v.take p.length = p → laws_toByteS_l0 a t p v = some a
  | [], p, v, e, hl, hv => by
    have : v = p := by rw [← hv, List.take_of_length_le (by rw [hl, e]; simp)]
    simp [laws_toByteS_l0, this, e]
  | x :: t, p, v, e, hl, hv => by
    have hlt : p.length < v.length := by rw [hl, e]; simp
    obtain ⟨y, hy⟩ := idx_some (v := v) hlt
    unfold laws_toByteS_l0
    rw [hy, Option.bind_some, Int.toNat_natCast]
    exact toByteS_l0_val a t (p ++ [x]) _ (by rw [e]; simp) (by simp [hl]) (set_take hv hlt)
theorem toByteS_val (a : List Int) (h : a.length ≤ 4000000) : laws_toByteS a = some a := by
  have hl : a.length ≤ 4000000 := h
  unfold laws_toByteS
  simp only [Int.natCast_nonneg, decide_true, if_true, Int.toNat_natCast, capOk_of (show a.length ≤ 274877906944 by omega)]
  rw [toByteS_l0_val a a [] _ rfl (by simp) rfl]
  rfl
theorem eqByteS_l0_rfl (a : List Int) : ∀ t p : List Int, a = p ++ t → laws_eqByteS_l0 a a t p = some (.out ())
  | [], p, e => rfl
  | x :: t, p, e => by
    unfold laws_eqByteS_l0
    rw [mid_get e, Option.bind_some]
    simp only [bne_rfl, beq_rfl, Bool.false_eq_true, if_false, if_true]
    exact eqByteS_l0_rfl a t (p ++ [x]) (by rw [e]; simp)
theorem eqByteS_rfl (a : List Int) (h : a.length ≤ 4000000) : laws_eqByteS a a = some true := by
  have hl : a.length ≤ 4000000 := h
  unfold laws_eqByteS
  rw [eqByteS_l0_rfl a a [] rfl, capOk_of (show a.length ≤ 274877906944 by omega)]
  simp only [bne_rfl, Bool.false_eq_true, if_false, if_true]
  rfl
def wtEvent (a : Event) : Nat := a.Data.length
theorem wtEvent_eq (a : Event) : wtEvent a = a.Data.length := rfl
theorem szEvent_val (a : Event) (left : Int) (hw : W31 a) (h0 : 0 ≤ left) (h1 : left ≤ 1048576) : ∃ r, laws_szEvent a left = some r ∧ (0 ≤ r → r = left - (wtEvent a : Nat)) := by
  unfold W31 at hw
  obtain ⟨w0, w1, w2⟩ := hw
  rw [wtEvent_eq]
  unfold laws_szEvent
  obtain ⟨r1, e1, g1⟩ := szByteS_val a.Data left w2 (by omega) (by omega)
  simp only [e1, decide_true, decide_false, Bool.false_eq_true, if_true, if_false, Option.bind_some]
  by_cases c1 : r1 < 0
  · exact ⟨-1, by simp only [c1, decide_true, decide_false, Bool.false_eq_true, if_true, if_false, Option.bind_some], fun h => by omega⟩
  · have g1 := g1 (by omega)
    simp only [c1, decide_true, decide_false, Bool.false_eq_true, if_true, if_false, Option.bind_some]
    exact ⟨_, rfl, fun _ => by omega⟩
def byEvent (a : Event) : Prop := byB a.Data
theorem byEvent_of (a : Event) (h : W31 a) : byEvent a := by
  unfold W31 at h
  obtain ⟨w0, w1, w2⟩ := h
  exact (byB_of w2)
theorem toEvent_val (a : Event) (h : wtEvent a ≤ 4000000) : laws_toEvent a = some a := by
  rw [wtEvent_eq] at h
  unfold laws_toEvent
  simp only [toByteS_val a.Data (by omega), Option.bind_some]
theorem eqEvent_rfl (a : Event) (h : wtEvent a ≤ 4000000) : laws_eqEvent a a = some true := by
  rw [wtEvent_eq] at h
  unfold laws_eqEvent
  simp only [eqByteS_rfl a.Data (by omega), beq_rfl, bne_rfl, Bool.false_eq_true, if_false, if_true, Option.bind_some]
theorem szEventS_l0_val (a : List Event) : ∀ (t : List Event) (v : Int), 0 ≤ v → v ≤ 1048576 → (∀ x ∈ t, W31 x) → ∃ r, laws_szEventS_l0 a t v = some r ∧ ∀ s, r = .out s → 0 ≤ s ∧ s = v - (wtS wtEvent t : Nat)
  | [], v, h0, h1, _ => ⟨.out v, rfl, fun s e => by cases e; exact ⟨h0, by simp [wtS]⟩⟩
  | x :: t, v, h0, h1, hw => by
    obtain ⟨r, e1, e3⟩ := szEvent_val x v (hw x (by simp)) h0 h1
    unfold laws_szEventS_l0
    rw [e1, Option.bind_some]
    by_cases h : r < 0
    · exact ⟨.ret (), by simp [h], fun s e => by cases e⟩
    · have e3 := e3 (by omega)
      obtain ⟨z, f1, f2⟩ := szEventS_l0_val a t r (by omega) (by omega) (fun y hy => hw y (by simp [hy]))
      refine ⟨z, by simp [h, f1], fun s e => ?_⟩
      obtain ⟨g1, g2⟩ := f2 s e
      exact ⟨g1, by rw [g2]; simp only [wtS]; omega⟩
theorem szEventS_val (a : List Event) (left : Int) (hw : W38 a) (h0 : 0 ≤ left) (h1 : left ≤ 1048576) : ∃ r, laws_szEventS a left = some r ∧ (0 ≤ r → r = left - (wtL wtEvent a : Nat)) := by
  unfold W38 Wl at hw
  have hl : a.length ≤ 140737488351232 := by have := hw.1; omega
  unfold laws_szEventS
  rw [sub_val h0 h1 hl]
  by_cases h : left - (a.length : Int) < 0
  · exact ⟨-1, by simp [h], fun h => by omega⟩
  · obtain ⟨z, f1, f2⟩ := szEventS_l0_val a a (left - a.length) (by omega) (by omega) hw.2
    simp only [h, decide_false, Bool.false_eq_true, if_false, capOk_of (show a.length ≤ 274877906944 by omega), if_true, f1, Option.bind_some]
    cases z with
    | ret u => exact ⟨-1, rfl, fun h => by omega⟩
    | out s =>
      obtain ⟨g1, g2⟩ := f2 s rfl
      exact ⟨s, rfl, fun _ => by rw [g2, wtL_eq]; omega⟩
theorem toEventS_l0_val (a : List Event) : ∀ (t p v : List Event), a = p ++ t → (∀ s ∈ t, wtEvent s ≤ 4000000) → v.length = a.length → v.take p.length = p → laws_toEventS_l0 a t p v = some a
  | [], p, v, e, hs, hl, hv => by
    have : v = p := by rw [← hv, List.take_of_length_le (by rw [hl, e]; simp)]
    simp [laws_toEventS_l0, this, e]
  | x :: t, p, v, e, hs, hl, hv => by
    have hlt : p.length < v.length := by rw [hl, e]; simp
    obtain ⟨y, hy⟩ := idx_some (v := v) hlt
    unfold laws_toEventS_l0
    rw [toEvent_val x (hs x (by simp)), Option.bind_some, hy, Option.bind_some, Int.toNat_natCast]
    exact toEventS_l0_val a t (p ++ [x]) _ (by rw [e]; simp) (fun s hs' => hs s (by simp [hs'])) (by simp [hl]) (set_take hv hlt)
theorem toEventS_val (a : List Event) (h : wtL wtEvent a ≤ 4000000) : laws_toEventS a = some a := by
  have hl : a.length ≤ 4000000 := (by have := wtL_len wtEvent a; omega)
  unfold laws_toEventS
  simp only [Int.natCast_nonneg, decide_true, if_true, Int.toNat_natCast, capOk_of (show a.length ≤ 274877906944 by omega)]
  rw [toEventS_l0_val a a [] _ rfl (fun s hs => by have := wtL_mem wtEvent a s hs; omega) (by simp) rfl]
  rfl
theorem eqEventS_l0_rfl (a : List Event) : ∀ t p : List Event, a = p ++ t → (∀ s ∈ t, wtEvent s ≤ 4000000) → laws_eqEventS_l0 a a t p = some (.out ())
  | [], p, e, _ => rfl
  | x :: t, p, e, hs => by
    unfold laws_eqEventS_l0
    rw [mid_get e, Option.bind_some, eqEvent_rfl x (hs x (by simp)), Option.bind_some]
    simpa using eqEventS_l0_rfl a t (p ++ [x]) (by rw [e]; simp) (fun s hs' => hs s (by simp [hs']))
theorem eqEventS_rfl (a : List Event) (h : wtL wtEvent a ≤ 4000000) : laws_eqEventS a a = some true := by
  have hl : a.length ≤ 4000000 := (by have := wtL_len wtEvent a; omega)
  unfold laws_eqEventS
  rw [eqEventS_l0_rfl a a [] rfl (fun s hs => by have := wtL_mem wtEvent a s hs; omega), capOk_of (show a.length ≤ 274877906944 by omega)]
  simp only [bne_rfl, Bool.false_eq_true, if_false, if_true]
  rfl
theorem tf (b : Bool) : b = true ∨ b = false := by cases b <;> simp
theorem l01In_val (n lo hi : Int) : spec_l01In n lo hi = some (decide (lo ≤ n) && decide (n ≤ hi)) := by
  unfold spec_l01In
  by_cases h : lo ≤ n <;> simp [h]
theorem within_val (n lo hi : Int) : impl_within n lo hi = some (decide (lo ≤ n) && decide (n ≤ hi)) := by
  unfold impl_within
  by_cases h : lo ≤ n <;> simp [h]
def money (n : Int) : Bool := decide (0 ≤ n) && decide (n ≤ 4611686018427387904)
theorem l01Money_val (n : Int) : spec_l01Money n = some (money n) := by
  unfold spec_l01Money money
  by_cases h : 0 ≤ n <;> simp [h]
theorem isMoney_val (n : Int) : impl_isMoney n = some (money n) := by unfold impl_isMoney; rw [within_val]; rfl
theorem bstr_fold : ∀ (ns : List Int) (r : ByteArray), (ns.foldl (fun r n => r.push (UInt8.ofNat n.toNat)) r).data.toList = r.data.toList ++ ns.map (fun n => UInt8.ofNat n.toNat)
  | [], r => by simp
  | n :: ns, r => by
    rw [List.foldl_cons, bstr_fold ns]
    simp [ByteArray.push]
theorem bstr_list (ns : List Int) : (bstr ns).data.toList = ns.map (fun n => UInt8.ofNat n.toNat) := by
  unfold bstr
  rw [bstr_fold]; rfl
theorem ba_ext {a b : ByteArray} (h : a.data.toList = b.data.toList) : a = b := by
  rcases a with ⟨⟨a⟩⟩
  rcases b with ⟨⟨b⟩⟩
  have h : a = b := h
  rw [h]
theorem ba_app (a b : ByteArray) : (a ++ b).data.toList = a.data.toList ++ b.data.toList := by
  rw [ByteArray.data_append, Array.toList_append]
theorem ba_size (a : ByteArray) : a.size = a.data.toList.length := by
  rcases a with ⟨⟨a⟩⟩
  rfl
/-- The text of a number; nothing where it is none. -/
def numT (n : Int) : ByteArray := if money n = true then ⟨(Lib.itoa n).toArray⟩ else ⟨#[]⟩
theorem decDigits_len : ∀ (m u : Nat), u < 10 ^ (m + 1) → (Lib.decDigits u).length ≤ m + 1
  | m, u, h => by
    rw [Lib.decDigits]
    split
    · simp
    · rename_i h10
      cases m with
      | zero => omega
      | succ m =>
        have := decDigits_len m (u / 10) (by rw [Nat.pow_succ] at h; omega)
        simp; omega
theorem money_bounds {n : Int} (h : money n = true) : 0 ≤ n ∧ n ≤ 4611686018427387904 := by
  unfold money at h
  simpa using h
theorem numT_size (n : Int) : (numT n).size ≤ 20 := by
  unfold numT
  split
  · rename_i h
    obtain ⟨h0, h1⟩ := money_bounds h
    rw [ba_size]
    simp only [Lib.itoa, show ¬ n < 0 by omega, if_false]
    exact decDigits_len 19 n.toNat (by omega)
  · simp [ByteArray.size]
theorem digit_data (u : Nat) : (bstr [u8 (i64 (48 + (Int.tmod (u : Int) 10)))]).data.toList = [UInt8.ofNat (48 + u % 10)] := by
  rw [bstr_list, tmod10 (by omega), i64_of (by omega) (by omega), u8_of (by omega) (by omega)]
  simp only [List.map_cons, List.map_nil]
  congr 2
theorem NumText_l0_val (N : Int) : ∀ (m fuel u : Nat) (acc : ByteArray), u < 10 ^ (m + 1) → m < fuel → u ≤ 4611686018427387904 → acc.size + m ≤ 1000 →
    ∃ (v : Nat) (w : ByteArray), spec_NumText_l0 N fuel (u : Int) acc = some ((v : Int), w) ∧ v ≤ 9 ∧ w.size ≤ acc.size + m ∧ UInt8.ofNat (48 + v) :: w.data.toList = Lib.decDigits u ++ acc.data.toList
  | m, 0, u, acc, _, h, _, _ => by omega
  | m, fuel + 1, u, acc, hu, hm, hb, ha => by
    unfold spec_NumText_l0
    rw [Lib.decDigits]
    by_cases h9 : u < 10
    · have : ¬ (9 : Int) < (u : Int) := by omega
      simp only [this, decide_false, Bool.false_eq_true, if_false]
      exact ⟨u, acc, rfl, by omega, by omega, by rw [dif_pos h9]; rfl⟩
    · cases m with
      | zero => omega
      | succ m =>
        have hd := digit_data u
        have hs : (bstr [u8 (i64 (48 + (Int.tmod (u : Int) 10)))]).size + acc.size ≤ 9223372036854775807 := by rw [bstr_one]; omega
        have hq : i64 (Int.tdiv (u : Int) 10) = ((u / 10 : Nat) : Int) := by rw [Int.tdiv_eq_ediv_of_nonneg (by omega), i64_of (by omega) (by omega)]; omega
        simp only [show (9 : Int) < (u : Int) by omega, decide_true, if_true, hs, hq]
        obtain ⟨v, w, e1, e2, e3, e4⟩ := NumText_l0_val N m fuel (u / 10) (bstr [u8 (i64 (48 + (Int.tmod (u : Int) 10)))] ++ acc) (by rw [Nat.pow_succ] at hu; omega) (by omega) (by omega) (by rw [size_app, bstr_one]; omega)
        refine ⟨v, w, e1, e2, by rw [size_app, bstr_one] at e3; omega, ?_⟩
        rw [e4, ba_app, hd, dif_neg h9]
        simp
theorem spec_NumText_val (n : Int) : spec_NumText n = some (numT n) := by
  unfold spec_NumText numT
  rw [l01Money_val, Option.bind_some]
  rcases tf (money n) with h | h
  · obtain ⟨h0, h1⟩ := money_bounds h
    obtain ⟨u, rfl⟩ : ∃ u : Nat, n = (u : Int) := ⟨n.toNat, by omega⟩
    obtain ⟨v, w, e1, e2, e3, e4⟩ := NumText_l0_val u 19 FUEL u (bs []) (by omega) (by unfold FUEL; omega) (by omega) (by decide)
    have hs : (bstr [u8 (i64 (48 + (v : Int)))]).size + w.size ≤ 9223372036854775807 := by
      have : (bs []).size = 0 := rfl
      rw [bstr_one]; omega
    simp only [h, if_true, e1, Option.bind_some, hs, decide_true]
    congr 1
    apply ba_ext
    rw [ba_app, bstr_list, i64_of (by omega) (by omega), u8_of (by omega) (by omega)]
    have e5 : (bs []).data.toList = [] := rfl
    rw [e5, List.append_nil] at e4
    simp only [List.map_cons, List.map_nil, List.cons_append, List.nil_append, Lib.itoa, show ¬ ((u : Int) < 0) by omega, if_false, Int.toNat_natCast, List.toList_toArray]
    rw [← e4]
    congr 2
  · simp only [h, Bool.false_eq_true, if_false]; rfl
theorem impl_NumText_val (n : Int) : impl_NumText n = some (numT n) := by
  unfold impl_NumText numT strconv_Itoa
  rw [isMoney_val, Option.bind_some]
  rcases tf (money n) with h | h
  · obtain ⟨g1, g2⟩ := money_bounds h
    simp [h, show -9223372036854775808 ≤ n by omega, show n ≤ 9223372036854775807 by omega]
  · simp only [h, Bool.false_eq_true, if_false]; rfl
theorem ba_nil_app (a : ByteArray) : bs [] ++ a = a := ba_ext (by rw [ba_app]; rfl)
theorem ba_app_nil (a : ByteArray) : a ++ bs [] = a := ba_ext (by rw [ba_app]; exact List.append_nil _)
theorem ba_assoc (a b c : ByteArray) : (a ++ b) ++ c = a ++ (b ++ c) := ba_ext (by simp only [ba_app, List.append_assoc])
def hexS : ByteArray := bs [48, 49, 50, 51, 52, 53, 54, 55, 56, 57, 97, 98, 99, 100, 101, 102]
def hexL (x : Int) : List Int := [sAt hexS (x / 16), sAt hexS (x % 16)]
theorem byte_shr (x : Int) (h : 0 ≤ x ∧ x ≤ 255) : bshr .u8 x 4 = x / 16 := by
  have key : ∀ n : Fin 256, bshr .u8 ((n.val : Nat) : Int) 4 = ((n.val : Nat) : Int) / 16 := by decide +kernel
  have := key ⟨x.toNat, by omega⟩
  have e : ((x.toNat : Nat) : Int) = x := by omega
  simpa [e] using this
theorem byte_and (x : Int) (h : 0 ≤ x ∧ x ≤ 255) : band .u8 x 15 = x % 16 := by
  have key : ∀ n : Fin 256, band .u8 ((n.val : Nat) : Int) 15 = ((n.val : Nat) : Int) % 16 := by decide +kernel
  have := key ⟨x.toNat, by omega⟩
  have e : ((x.toNat : Nat) : Int) = x := by omega
  simpa [e] using this
theorem bstr_app (a b : List Int) : bstr (a ++ b) = bstr a ++ bstr b := ba_ext (by rw [ba_app, bstr_list, bstr_list, bstr_list, List.map_append])
theorem bstr_size (a : List Int) : (bstr a).size = a.length := by rw [ba_size, bstr_list, List.length_map]
theorem spec_HexText_l0_val (b : List Int) : ∀ (t : List Int) (v : ByteArray), byB t → v.size + 2 * t.length ≤ 100000000 → spec_HexText_l0 b t v = some (v ++ bstr (t.flatMap hexL))
  | [], v, _, _ => by simp only [spec_HexText_l0, List.flatMap_nil]; rw [show bstr [] = bs [] from rfl, ba_app_nil]
  | x :: t, v, hb, hv => by
    simp only [List.length_cons] at hv
    have hx := hb x (by simp)
    have ih := spec_HexText_l0_val b t (v ++ bstr (hexL x)) (fun y hy => hb y (by simp [hy])) (by rw [size_app, bstr_size]; simp [hexL]; omega)
    have e1 : i64 x = x := i64_of (by omega) (by omega)
    have e2 : Int.tdiv x 16 = x / 16 := Int.tdiv_eq_ediv_of_nonneg (by omega)
    have e3 : Int.tmod x 16 = x % 16 := Int.tmod_eq_emod_of_nonneg (by omega)
    have e4 : i64 (x / 16) = x / 16 := i64_of (by omega) (by omega)
    have hs : (bs [48, 49, 50, 51, 52, 53, 54, 55, 56, 57, 97, 98, 99, 100, 101, 102]).size = 16 := rfl
    have c1 : v.size + (bstr [sAt (bs [48, 49, 50, 51, 52, 53, 54, 55, 56, 57, 97, 98, 99, 100, 101, 102]) (x / 16), sAt (bs [48, 49, 50, 51, 52, 53, 54, 55, 56, 57, 97, 98, 99, 100, 101, 102]) (x % 16)]).size ≤ 9223372036854775807 := by rw [bstr_size]; simp only [List.length_cons, List.length_nil]; omega
    unfold spec_HexText_l0
    simp only [e1, e2, e3, e4, hs, show (0 : Int) ≤ x / 16 by omega, show x / 16 < ((16 : Nat) : Int) by omega, show (0 : Int) ≤ x % 16 by omega, show x % 16 < ((16 : Nat) : Int) by omega, c1, decide_true, if_true]
    rw [show bstr [sAt (bs [48, 49, 50, 51, 52, 53, 54, 55, 56, 57, 97, 98, 99, 100, 101, 102]) (x / 16), sAt (bs [48, 49, 50, 51, 52, 53, 54, 55, 56, 57, 97, 98, 99, 100, 101, 102]) (x % 16)] = bstr (hexL x) from rfl, ih, List.flatMap_cons, bstr_app, ba_assoc]
theorem impl_HexText_l0_val (b : List Int) : ∀ (t v : List Int), byB t → v.length + 2 * t.length ≤ 100000000 → impl_HexText_l0 b t v = some (v ++ t.flatMap hexL)
  | [], v, _, _ => by simp [impl_HexText_l0]
  | x :: t, v, hb, hv => by
    simp only [List.length_cons] at hv
    have hx := hb x (by simp)
    have ih := impl_HexText_l0_val b t (v ++ hexL x) (fun y hy => hb y (by simp [hy])) (by simp [hexL]; omega)
    have hs : (bs [48, 49, 50, 51, 52, 53, 54, 55, 56, 57, 97, 98, 99, 100, 101, 102]).size = 16 := rfl
    unfold impl_HexText_l0
    simp only [byte_shr x hx, byte_and x hx, hs, show (0 : Int) ≤ x / 16 by omega, show x / 16 < ((16 : Nat) : Int) by omega, show (0 : Int) ≤ x % 16 by omega, show x % 16 < ((16 : Nat) : Int) by omega, capOk_of (show v.length + 2 ≤ 274877906944 by omega), decide_true, if_true]
    rw [show [sAt (bs [48, 49, 50, 51, 52, 53, 54, 55, 56, 57, 97, 98, 99, 100, 101, 102]) (x / 16), sAt (bs [48, 49, 50, 51, 52, 53, 54, 55, 56, 57, 97, 98, 99, 100, 101, 102]) (x % 16)] = hexL x from rfl, ih, List.flatMap_cons, List.append_assoc]
def hexT (l : List Int) : ByteArray := bstr (l.flatMap hexL)
theorem hexT_size (l : List Int) : (hexT l).size = 2 * l.length := by
  unfold hexT
  rw [bstr_size]
  induction l with
  | nil => rfl
  | cons x t ih => rw [List.flatMap_cons, List.length_append, ih]; simp [hexL]; omega
theorem HexText_val (l : List Int) (hb : byB l) (h : l.length ≤ 4000000) : spec_HexText l = some (hexT l) ∧ impl_HexText l = some (hexT l) := by
  unfold spec_HexText impl_HexText
  rw [spec_HexText_l0_val l l (bs []) hb (by rw [show (bs []).size = 0 from rfl]; omega), impl_HexText_l0_val l l [] hb (by simp; omega), ba_nil_app]
  simp only [capOk_of (show l.length ≤ 274877906944 by omega), if_true, Option.bind_some, List.nil_append]
  exact ⟨rfl, rfl⟩
theorem EventOk_tot (e : Event) : ∃ b, spec_EventOk e = some b ∧ impl_EventOk e = some b := by
  unfold spec_EventOk impl_EventOk
  simp only [l01In_val, within_val, Option.bind_some]
  rcases tf (e.Kind == 1) with q | q
  · rcases tf (e.K == 0) with q2 | q2 <;> simp [q, q2]
  · rcases tf (e.Kind == 2) with q2 | q2
    · rcases tf (decide (0 ≤ e.K) && decide (e.K ≤ 11)) with q3 | q3 <;> simp only [q, q2, q3, if_true, if_false, Bool.false_eq_true] <;> exact ⟨_, rfl, rfl⟩
    · rcases tf (e.Kind == 3) with q4 | q4
      · rcases tf (decide (1 ≤ e.K) && decide (e.K ≤ 1000)) with q3 | q3 <;> simp only [q, q2, q3, q4, if_true, if_false, Bool.false_eq_true] <;> exact ⟨_, rfl, rfl⟩
      · simp only [q, q2, q4, if_false, Bool.false_eq_true]; exact ⟨_, rfl, rfl⟩
/-- The text of an event; nothing where it is none. -/
def eventT (e : Event) : ByteArray := (spec_EventText e).getD (bs [])
theorem EventText_at (e : Event) (h : e.Data.length ≤ 4000000) (hb : byB e.Data) : spec_EventText e = some (eventT e) ∧ impl_EventText e = some (eventT e) ∧ (eventT e).size ≤ 2 * e.Data.length + 30 := by
  obtain ⟨b, e1, e2⟩ := EventOk_tot e
  obtain ⟨x1, x2⟩ := HexText_val e.Data hb h
  have hz := hexT_size e.Data
  have hn := numT_size e.K
  have s1 : (bs [97, 114, 114, 105, 118, 101, 32]).size = 7 := rfl
  have s2 : (bs [112, 105, 99, 107, 32]).size = 5 := rfl
  have s3 : (bs [112, 97, 115, 115, 32]).size = 5 := rfl
  have c1 : (bs [97, 114, 114, 105, 118, 101, 32]).size + (hexT e.Data).size ≤ 9223372036854775807 := by omega
  have c2 : (bs [112, 105, 99, 107, 32]).size + (numT e.K).size ≤ 9223372036854775807 := by omega
  have c3 : (bs [112, 97, 115, 115, 32]).size + (numT e.K).size ≤ 9223372036854775807 := by omega
  have z : (bs []).size = 0 := rfl
  suffices hh : ∃ y, spec_EventText e = some y ∧ impl_EventText e = some y ∧ y.size ≤ 2 * e.Data.length + 30 by
    obtain ⟨y, p, q, r⟩ := hh
    unfold eventT
    rw [p]
    exact ⟨rfl, q, r⟩
  unfold spec_EventText impl_EventText
  rw [e1, e2, x1, x2]
  simp only [Option.bind_some, spec_NumText_val, impl_NumText_val, c1, c2, c3, decide_true, if_true]
  rcases tf b with q | q
  · rcases tf (e.Kind == 1) with q2 | q2
    · simp only [q, q2, if_true]
      exact ⟨_, rfl, rfl, by rw [size_app]; omega⟩
    · rcases tf (e.Kind == 2) with q3 | q3
      · simp only [q, q2, q3, if_true, if_false, Bool.false_eq_true]
        exact ⟨_, rfl, rfl, by rw [size_app]; omega⟩
      · simp only [q, q2, q3, if_true, if_false, Bool.false_eq_true]
        exact ⟨_, rfl, rfl, by rw [size_app]; omega⟩
  · simp only [q, if_false, Bool.false_eq_true]
    exact ⟨_, rfl, rfl, by omega⟩
theorem EventsText_l0_val (l : List Event) : ∀ (t : List Event) (v : ByteArray), (∀ x ∈ t, byEvent x) → v.size + 40 * wtL wtEvent t ≤ 100000000 →
    ∃ y, spec_EventsText_l0 l t v = some y ∧ impl_EventsText_l0 l t v = some y ∧ ∀ s, y = .out s → s.size ≤ v.size + 40 * wtL wtEvent t
  | [], v, _, _ => ⟨.out v, rfl, rfl, fun s h => by cases h; simp [wtL]⟩
  | x :: t, v, hb, hv => by
    simp only [wtL, wtEvent_eq] at hv
    obtain ⟨p, q, r⟩ := EventText_at x (by omega) (hb x (by simp))
    have s1 : (bs [10]).size = 1 := rfl
    have c1 : v.size + (eventT x).size ≤ 9223372036854775807 := by omega
    have c2 : (v ++ eventT x).size + (bs [10]).size ≤ 9223372036854775807 := by rw [size_app]; omega
    have c3 : (eventT x).size + (bs [10]).size ≤ 9223372036854775807 := by omega
    have c4 : v.size + (eventT x ++ bs [10]).size ≤ 9223372036854775807 := by rw [size_app]; omega
    unfold spec_EventsText_l0 impl_EventsText_l0
    simp only [p, q, Option.bind_some]
    rcases tf (eventT x == bs []) with g | g
    · simp only [g, if_true]
      exact ⟨_, rfl, rfl, fun s h => by cases h⟩
    · simp only [g, if_false, Bool.false_eq_true, c1, c2, c3, c4, decide_true, if_true, ← ba_assoc]
      obtain ⟨y, a1, a2, a3⟩ := EventsText_l0_val l t ((v ++ eventT x) ++ bs [10]) (fun y hy => hb y (by simp [hy])) (by simp only [size_app]; omega)
      refine ⟨y, a1, a2, fun s h => ?_⟩
      have := a3 s h
      simp only [size_app] at this
      simp only [wtL, wtEvent_eq]; omega
theorem EventsText_val (l : List Event) (h : wtL wtEvent l ≤ 1048576) (hb : ∀ x ∈ l, byEvent x) : ∃ y, spec_EventsText l = some y ∧ impl_EventsText l = some y ∧ y.size ≤ 400000000 := by
  have hl := wtL_len wtEvent l
  have s0 : (bs []).size = 0 := rfl
  obtain ⟨y, a1, a2, a3⟩ := EventsText_l0_val l l (bs []) hb (by omega)
  unfold spec_EventsText impl_EventsText
  simp only [capOk_of (show l.length ≤ 274877906944 by omega), if_true, a1, a2, Option.bind_some]
  cases y with
  | out s =>
    have := a3 s rfl
    exact ⟨s, rfl, rfl, by omega⟩
  | ret u => exact ⟨bs [], rfl, rfl, by decide⟩
namespace Pure
theorem FnExactEventsText (aL : List Event) (h0 : W38 aL) : laws_FnExactEventsText aL = some true := by
  unfold laws_FnExactEventsText
  obtain ⟨r1, er1, gr1⟩ := szEventS_val aL 1048576 h0 (by omega) (by omega)
  rw [er1, Option.bind_some]
  by_cases cr1 : r1 < 0
  · simp only [cr1, decide_true, decide_false, Bool.false_eq_true, if_true, if_false]
  have gr1 := gr1 (by omega)
  simp only [cr1, decide_true, decide_false, Bool.false_eq_true, if_true, if_false]
  obtain ⟨y, f1, f2, f3⟩ := EventsText_val aL (by omega) (fun x hx => (byEvent_of x (h0.2 x hx)))
  simp only [f1, f2, toEventS_val aL (by omega), eqEventS_rfl aL (by omega), Option.bind_some, decide_true, decide_false, Bool.false_eq_true, if_true, if_false, bne_rfl, beq_rfl, beq_self_eq_true]
end Pure
end Go.Proofs.YthonbclgdbigpaaDoorM
