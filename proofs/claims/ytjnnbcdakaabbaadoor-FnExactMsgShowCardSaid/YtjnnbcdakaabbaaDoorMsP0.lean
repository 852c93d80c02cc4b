/- Laws of the plain functions. No condition. -/
import Derived.Test.YtjnnbcdakaabbaaDoorMsOp
import Derived.Laws.StructEq
namespace Go.Proofs.YtjnnbcdakaabbaaDoorM
set_option linter.unusedVariables false
set_option linter.unusedSimpArgs false
set_option maxRecDepth 100000
theorem i64_of {x : Int} (h : -9223372036854775808 ≤ x) (h2 : x ≤ 9223372036854775807) : i64 x = x := by unfold i64; rw [IntKind.wrap_i64]; omega
theorem u8_of {x : Int} (h : 0 ≤ x) (h2 : x ≤ 255) : u8 x = x := by unfold u8 IntKind.wrap; simp [IntKind.bits, IntKind.signed]; omega
theorem capOk_of {n : Nat} (h : n ≤ 274877906944) : capOk n = true := decide_eq_true h
theorem beqB (a b : ByteArray) : (a == b) = decide (a = b) := by
  rcases a with ⟨a⟩
  rcases b with ⟨b⟩
  have h1 : ((⟨a⟩ : ByteArray) == ⟨b⟩) = (a == b) := rfl
  rw [h1]
  by_cases h : a = b
  · subst h; simp
  · have h2 : ¬ ((⟨a⟩ : ByteArray) = ⟨b⟩) := fun e => h (by cases e; rfl)
    rw [decide_eq_false h2]
    simpa using h
theorem tmod10 {x : Int} (h : 0 ≤ x) : Int.tmod x 10 = x % 10 := Int.tmod_eq_emod_of_nonneg h
theorem sub_val {left : Int} {n : Nat} (h0 : 0 ≤ left) (h1 : left ≤ 1048576) (hn : n ≤ 140737488351232) : i64 (left - (n : Int)) = left - n := i64_of (by omega) (by omega)
theorem set_take {α : Type} {v p : List α} {x : α} (hv : v.take p.length = p) (hl : p.length < v.length) : (v.set p.length x).take (p ++ [x]).length = p ++ [x] := by
  rw [List.length_append, List.length_cons, List.length_nil, List.take_add_one, List.take_set_of_le (Nat.le_refl _), hv]
  simp [hl]
theorem idx_some {α : Type} {v p : List α} (hl : p.length < v.length) : ∃ y, v[((p.length : Int)).toNat]? = some y := ⟨v[p.length], by simp [hl]⟩
theorem beq_rfl (s : ByteArray) : (s == s) = true := by rw [beqB]; simp
theorem bne_rfl (n : Int) : (n != n) = false := by simp
theorem mid_get {α : Type} {a p t : List α} {x : α} (e : a = p ++ x :: t) : a[((p.length : Int)).toNat]? = some x := by rw [e]; simp
theorem bstr_one (n : Int) : (bstr [n]).size = 1 := rfl
theorem size_app (a b : ByteArray) : (a ++ b).size = a.size + b.size := ByteArray.size_append
/-- The weight of a list: its length, and its elements' weights. -/
def wtL {α : Type} (f : α → Nat) : List α → Nat
  | [] => 0
  | x :: t => 1 + f x + wtL f t
def wtS {α : Type} (f : α → Nat) : List α → Nat
  | [] => 0
  | x :: t => f x + wtS f t
theorem wtL_eq {α : Type} (f : α → Nat) : ∀ l : List α, wtL f l = l.length + wtS f l
  | [] => rfl
  | x :: t => by simp only [wtL, wtS, List.length_cons]; rw [wtL_eq f t]; omega
theorem wtL_len {α : Type} (f : α → Nat) (l : List α) : l.length ≤ wtL f l := by rw [wtL_eq]; omega
theorem wtL_mem {α : Type} (f : α → Nat) : ∀ (l : List α) (x : α), x ∈ l → f x + 1 ≤ wtL f l
  | y :: t, x, h => by
    simp only [wtL]
    rcases List.mem_cons.1 h with rfl | h
    · omega
    · have := wtL_mem f t x h; omega
def wtField (a : Field) : Nat := a.Text.size
theorem wtField_eq (a : Field) : wtField a = a.Text.size := rfl
theorem szField_val (a : Field) (left : Int) (hw : W106 a) (h0 : 0 ≤ left) (h1 : left ≤ 1048576) : ∃ r, laws_szField a left = some r ∧ (0 ≤ r → r = left - (wtField a : Nat)) := by
  unfold W106 at hw
  obtain ⟨w0, w1⟩ := hw
  rw [wtField_eq]
  unfold laws_szField
  have b1 := w1
  unfold Ws at b1
  rw [sub_val (show 0 ≤ left by omega) (by omega) b1]
  by_cases c1 : (left - (a.Text.size : Int)) < 0
  · exact ⟨-1, by simp only [c1, decide_true, decide_false, Bool.false_eq_true, if_true, if_false, Option.bind_some], fun h => by omega⟩
  · simp only [c1, decide_true, decide_false, Bool.false_eq_true, if_true, if_false, Option.bind_some]
    exact ⟨_, rfl, fun _ => by omega⟩
theorem toField_val (a : Field) (h : wtField a ≤ 4000000) : laws_toField a = some a := by
  rw [wtField_eq] at h
  unfold laws_toField
  rfl
theorem eqField_rfl (a : Field) (h : wtField a ≤ 4000000) : laws_eqField a a = some true := by
  rw [wtField_eq] at h
  unfold laws_eqField
  simp only [beq_rfl, bne_rfl, Bool.false_eq_true, if_false, if_true, Option.bind_some]
theorem szFieldS_l0_val (a : List Field) : ∀ (t : List Field) (v : Int), 0 ≤ v → v ≤ 1048576 → (∀ x ∈ t, W106 x) → ∃ r, laws_szFieldS_l0 a t v = some r ∧ ∀ s, r = .out s → 0 ≤ s ∧ s = v - (wtS wtField t : Nat)
  | [], v, h0, h1, _ => ⟨.out v, rfl, fun s e => by cases e; exact ⟨h0, by simp [wtS]⟩⟩
  | x :: t, v, h0, h1, hw => by
    obtain ⟨r, e1, e3⟩ := szField_val x v (hw x (by simp)) h0 h1
    unfold laws_szFieldS_l0
    rw [e1, Option.bind_some]
    by_cases h : r < 0
    · exact ⟨.ret (), by simp [h], fun s e => by cases e⟩
    · have e3 := e3 (by omega)
      obtain ⟨z, f1, f2⟩ := szFieldS_l0_val a t r (by omega) (by omega) (fun y hy => hw y (by simp [hy]))
      refine ⟨z, by simp [h, f1], fun s e => ?_⟩
      obtain ⟨g1, g2⟩ := f2 s e
      exact ⟨g1, by rw [g2]; simp only [wtS]; omega⟩
theorem szFieldS_val (a : List Field) (left : Int) (hw : W29 a) (h0 : 0 ≤ left) (h1 : left ≤ 1048576) : ∃ r, laws_szFieldS a left = some r ∧ (0 ≤ r → r = left - (wtL wtField a : Nat)) := by
  unfold W29 Wl at hw
  have hl : a.length ≤ 140737488351232 := by have := hw.1; omega
  unfold laws_szFieldS
  rw [sub_val h0 h1 hl]
  by_cases h : left - (a.length : Int) < 0
  · exact ⟨-1, by simp [h], fun h => by omega⟩
  · obtain ⟨z, f1, f2⟩ := szFieldS_l0_val a a (left - a.length) (by omega) (by omega) hw.2
    simp only [h, decide_false, Bool.false_eq_true, if_false, capOk_of (show a.length ≤ 274877906944 by omega), if_true, f1, Option.bind_some]
    cases z with
    | ret u => exact ⟨-1, rfl, fun h => by omega⟩
    | out s =>
      obtain ⟨g1, g2⟩ := f2 s rfl
      exact ⟨s, rfl, fun _ => by rw [g2, wtL_eq]; omega⟩
theorem toFieldS_l0_val (a : List Field) : ∀ (t p v : List Field), a = p ++ t → (∀ s ∈ t, wtField s ≤ 4000000) → v.length = a.length → v.take p.length = p → laws_toFieldS_l0 a t p v = some a
  | [], p, v, e, hs, hl, hv => by
    have : v = p := by rw [← hv, List.take_of_length_le (by rw [hl, e]; simp)]
    simp [laws_toFieldS_l0, this, e]
  | x :: t, p, v, e, hs, hl, hv => by
    have hlt : p.length < v.length := by rw [hl, e]; simp
    obtain ⟨y, hy⟩ := idx_some (v := v) hlt
    unfold laws_toFieldS_l0
    rw [toField_val x (hs x (by simp)), Option.bind_some, hy, Option.bind_some, Int.toNat_natCast]
    exact toFieldS_l0_val a t (p ++ [x]) _ (by rw [e]; simp) (fun s hs' => hs s (by simp [hs'])) (by simp [hl]) (set_take hv hlt)
theorem toFieldS_val (a : List Field) (h : wtL wtField a ≤ 4000000) : laws_toFieldS a = some a := by
  have hl : a.length ≤ 4000000 := (by have := wtL_len wtField a; omega)
  unfold laws_toFieldS
  simp only [Int.natCast_nonneg, decide_true, if_true, Int.toNat_natCast, capOk_of (show a.length ≤ 274877906944 by omega)]
  rw [toFieldS_l0_val a a [] _ rfl (fun s hs => by have := wtL_mem wtField a s hs; omega) (by simp) rfl]
  rfl
theorem eqFieldS_l0_rfl (a : List Field) : ∀ t p : List Field, a = p ++ t → (∀ s ∈ t, wtField s ≤ 4000000) → laws_eqFieldS_l0 a a t p = some (.out ())
  | [], p, e, _ => rfl
  | x :: t, p, e, hs => by
    unfold laws_eqFieldS_l0
    rw [mid_get e, Option.bind_some, eqField_rfl x (hs x (by simp)), Option.bind_some]
    simpa using eqFieldS_l0_rfl a t (p ++ [x]) (by rw [e]; simp) (fun s hs' => hs s (by simp [hs']))
theorem eqFieldS_rfl (a : List Field) (h : wtL wtField a ≤ 4000000) : laws_eqFieldS a a = some true := by
  have hl : a.length ≤ 4000000 := (by have := wtL_len wtField a; omega)
  unfold laws_eqFieldS
  rw [eqFieldS_l0_rfl a a [] rfl (fun s hs => by have := wtL_mem wtField a s hs; omega), capOk_of (show a.length ≤ 274877906944 by omega)]
  simp only [bne_rfl, Bool.false_eq_true, if_false, if_true]
  rfl
def wtMsg (a : Msg) : Nat := a.Mti.size + wtL wtField a.List
theorem wtMsg_eq (a : Msg) : wtMsg a = a.Mti.size + wtL wtField a.List := rfl
theorem szMsg_val (a : Msg) (left : Int) (hw : W31 a) (h0 : 0 ≤ left) (h1 : left ≤ 1048576) : ∃ r, laws_szMsg a left = some r ∧ (0 ≤ r → r = left - (wtMsg a : Nat)) := by
  unfold W31 at hw
  obtain ⟨w0, w1⟩ := hw
  rw [wtMsg_eq]
  unfold laws_szMsg
  have b1 := w0
  unfold Ws at b1
  rw [sub_val (show 0 ≤ left by omega) (by omega) b1]
  by_cases c1 : (left - (a.Mti.size : Int)) < 0
  · exact ⟨-1, by simp only [c1, decide_true, decide_false, Bool.false_eq_true, if_true, if_false, Option.bind_some], fun h => by omega⟩
  · simp only [c1, decide_true, decide_false, Bool.false_eq_true, if_true, if_false, Option.bind_some]
    obtain ⟨r2, e2, g2⟩ := szFieldS_val a.List (left - (a.Mti.size : Int)) w1 (by omega) (by omega)
    simp only [e2, decide_true, decide_false, Bool.false_eq_true, if_true, if_false, Option.bind_some]
    by_cases c2 : r2 < 0
    · exact ⟨-1, by simp only [c2, decide_true, decide_false, Bool.false_eq_true, if_true, if_false, Option.bind_some], fun h => by omega⟩
    · have g2 := g2 (by omega)
      simp only [c2, decide_true, decide_false, Bool.false_eq_true, if_true, if_false, Option.bind_some]
      exact ⟨_, rfl, fun _ => by omega⟩
theorem toMsg_val (a : Msg) (h : wtMsg a ≤ 4000000) : laws_toMsg a = some a := by
  rw [wtMsg_eq] at h
  unfold laws_toMsg
  simp only [toFieldS_val a.List (by omega), Option.bind_some]
theorem eqMsg_rfl (a : Msg) (h : wtMsg a ≤ 4000000) : laws_eqMsg a a = some true := by
  rw [wtMsg_eq] at h
  unfold laws_eqMsg
  simp only [eqFieldS_rfl a.List (by omega), beq_rfl, bne_rfl, Bool.false_eq_true, if_false, if_true, Option.bind_some]
theorem tf (b : Bool) : b = true ∨ b = false := by cases b <;> simp
theorem l01In_val (n lo hi : Int) : spec_l01In n lo hi = some (decide (lo ≤ n) && decide (n ≤ hi)) := by
  unfold spec_l01In
  by_cases h : lo ≤ n <;> simp [h]
theorem within_val (n lo hi : Int) : impl_within n lo hi = some (decide (lo ≤ n) && decide (n ≤ hi)) := by
  unfold impl_within
  by_cases h : lo ≤ n <;> simp [h]
def money (n : Int) : Bool := decide (0 ≤ n) && decide (n ≤ 4611686018427387904)
theorem l01Money_val (n : Int) : spec_l01Money n = some (money n) := by
  unfold spec_l01Money money
  by_cases h : 0 ≤ n <;> simp [h]
theorem isMoney_val (n : Int) : impl_isMoney n = some (money n) := by unfold impl_isMoney; rw [within_val]; rfl
theorem beq_empty (s : ByteArray) : (s == bs []) = decide (s.size = 0) := by
  rw [beqB]
  by_cases h : s.size = 0
  · have : s = bs [] := by
      rcases s with ⟨d⟩
      have hd : d.size = 0 := h
      have : d = #[] := Array.eq_empty_of_size_eq_zero hd
      subst this; rfl
    rw [decide_eq_true h, decide_eq_true this]
  · rw [decide_eq_false h, decide_eq_false (fun e => h (by rw [e]; rfl))]
theorem bstr_fold : ∀ (ns : List Int) (r : ByteArray), (ns.foldl (fun r n => r.push (UInt8.ofNat n.toNat)) r).data.toList = r.data.toList ++ ns.map (fun n => UInt8.ofNat n.toNat)
  | [], r => by simp
  | n :: ns, r => by
    rw [List.foldl_cons, bstr_fold ns]
    simp [ByteArray.push]
theorem bstr_list (ns : List Int) : (bstr ns).data.toList = ns.map (fun n => UInt8.ofNat n.toNat) := by
  unfold bstr
  rw [bstr_fold]; rfl
theorem ba_ext {a b : ByteArray} (h : a.data.toList = b.data.toList) : a = b := by
  rcases a with ⟨⟨a⟩⟩
  rcases b with ⟨⟨b⟩⟩
  have h : a = b := h
  rw [h]
theorem ba_app (a b : ByteArray) : (a ++ b).data.toList = a.data.toList ++ b.data.toList := by
  rw [ByteArray.data_append, Array.toList_append]
theorem ba_size (a : ByteArray) : a.size = a.data.toList.length := by
  rcases a with ⟨⟨a⟩⟩
  rfl
/-- The text of a number; nothing where it is none. -/
def numT (n : Int) : ByteArray := if money n = true then ⟨(Lib.itoa n).toArray⟩ else ⟨#[]⟩
theorem decDigits_len : ∀ (m u : Nat), u < 10 ^ (m + 1) → (Lib.decDigits u).length ≤ m + 1
  | m, u, h => by
    rw [Lib.decDigits]
    split
    · simp
    · rename_i h10
      cases m with
      | zero => omega
      | succ m =>
        have := decDigits_len m (u / 10) (by rw [Nat.pow_succ] at h; omega)
        simp; omega
theorem money_bounds {n : Int} (h : money n = true) : 0 ≤ n ∧ n ≤ 4611686018427387904 := by
  unfold money at h
  simpa using h
theorem numT_size (n : Int) : (numT n).size ≤ 20 := by
  unfold numT
  split
  · rename_i h
    obtain ⟨h0, h1⟩ := money_bounds h
    rw [ba_size]
    simp only [Lib.itoa, show ¬ n < 0 by omega, if_false]
    exact decDigits_len 19 n.toNat (by omega)
  · simp [ByteArray.size]
theorem digit_data (u : Nat) : (bstr [u8 (i64 (48 + (Int.tmod (u : Int) 10)))]).data.toList = [UInt8.ofNat (48 + u % 10)] := by
  rw [bstr_list, tmod10 (by omega), i64_of (by omega) (by omega), u8_of (by omega) (by omega)]
  simp only [List.map_cons, List.map_nil]
  congr 2
theorem NumText_l0_val (N : Int) : ∀ (m fuel u : Nat) (acc : ByteArray), u < 10 ^ (m + 1) → m < fuel → u ≤ 4611686018427387904 → acc.size + m ≤ 1000 →
    ∃ (v : Nat) (w : ByteArray), spec_NumText_l0 N fuel (u : Int) acc = some ((v : Int), w) ∧ v ≤ 9 ∧ w.size ≤ acc.size + m ∧ UInt8.ofNat (48 + v) :: w.data.toList = Lib.decDigits u ++ acc.data.toList
  | m, 0, u, acc, _, h, _, _ => by omega
  | m, fuel + 1, u, acc, hu, hm, hb, ha => by
    unfold spec_NumText_l0
    rw [Lib.decDigits]
    by_cases h9 : u < 10
    · have : ¬ (9 : Int) < (u : Int) := by omega
      simp only [this, decide_false, Bool.false_eq_true, if_false]
      exact ⟨u, acc, rfl, by omega, by omega, by rw [dif_pos h9]; rfl⟩
    · cases m with
      | zero => omega
      | succ m =>
        have hd := digit_data u
        have hs : (bstr [u8 (i64 (48 + (Int.tmod (u : Int) 10)))]).size + acc.size ≤ 9223372036854775807 := by rw [bstr_one]; omega
        have hq : i64 (Int.tdiv (u : Int) 10) = ((u / 10 : Nat) : Int) := by rw [Int.tdiv_eq_ediv_of_nonneg (by omega), i64_of (by omega) (by omega)]; omega
        simp only [show (9 : Int) < (u : Int) by omega, decide_true, if_true, hs, hq]
        obtain ⟨v, w, e1, e2, e3, e4⟩ := NumText_l0_val N m fuel (u / 10) (bstr [u8 (i64 (48 + (Int.tmod (u : Int) 10)))] ++ acc) (by rw [Nat.pow_succ] at hu; omega) (by omega) (by omega) (by rw [size_app, bstr_one]; omega)
        refine ⟨v, w, e1, e2, by rw [size_app, bstr_one] at e3; omega, ?_⟩
        rw [e4, ba_app, hd, dif_neg h9]
        simp
theorem spec_NumText_val (n : Int) : spec_NumText n = some (numT n) := by
  unfold spec_NumText numT
  rw [l01Money_val, Option.bind_some]
  rcases tf (money n) with h | h
  · obtain ⟨h0, h1⟩ := money_bounds h
    obtain ⟨u, rfl⟩ : ∃ u : Nat, n = (u : Int) := ⟨n.toNat, by omega⟩
    obtain ⟨v, w, e1, e2, e3, e4⟩ := NumText_l0_val u 19 FUEL u (bs []) (by omega) (by unfold FUEL; omega) (by omega) (by decide)
    have hs : (bstr [u8 (i64 (48 + (v : Int)))]).size + w.size ≤ 9223372036854775807 := by
      have : (bs []).size = 0 := rfl
      rw [bstr_one]; omega
    simp only [h, if_true, e1, Option.bind_some, hs, decide_true]
    congr 1
    apply ba_ext
    rw [ba_app, bstr_list, i64_of (by omega) (by omega), u8_of (by omega) (by omega)]
    have e5 : (bs []).data.toList = [] := rfl
    rw [e5, List.append_nil] at e4
    simp only [List.map_cons, List.map_nil, List.cons_append, List.nil_append, Lib.itoa, show ¬ ((u : Int) < 0) by omega, if_false, Int.toNat_natCast, List.toList_toArray]
    rw [← e4]
    congr 2
  · simp only [h, Bool.false_eq_true, if_false]; rfl
theorem impl_NumText_val (n : Int) : impl_NumText n = some (numT n) := by
  unfold impl_NumText numT strconv_Itoa
  rw [isMoney_val, Option.bind_some]
  rcases tf (money n) with h | h
  · obtain ⟨g1, g2⟩ := money_bounds h
    simp [h, show -9223372036854775808 ≤ n by omega, show n ≤ 9223372036854775807 by omega]
  · simp only [h, Bool.false_eq_true, if_false]; rfl
theorem ba_assoc (a b c : ByteArray) : (a ++ b) ++ c = a ++ (b ++ c) := ba_ext (by simp only [ba_app, List.append_assoc])
theorem bstr_size (a : List Int) : (bstr a).size = a.length := by rw [ba_size, bstr_list, List.length_map]
theorem sbytes_len (s : ByteArray) : (sbytes s).length = s.size := by unfold sbytes; rw [List.length_map, ← ba_size]
theorem sAt_get (s : ByteArray) {i : Nat} (h : i < s.size) : (sbytes s)[i]? = some (sAt s (i : Int)) := by
  rcases s with ⟨⟨l⟩⟩
  have h : i < l.length := h
  simp [sbytes, sAt, h]
def digI (x : Int) : Bool := decide (48 ≤ x) && decide (x ≤ 57)
def prtI (x : Int) : Bool := decide (32 ≤ x) && decide (x ≤ 126)
def digB (s : ByteArray) : Bool := decide (0 < s.size) && (sbytes s).all digI
def prtB (s : ByteArray) : Bool := (sbytes s).all prtI
/-- A loop that looks at each byte. -/
theorem scan_loop {L : Nat → Int → Option (Lo Unit Unit)} (s : ByteArray) (hs : s.size ≤ 4000000) (lo hi : Int) (q : Int → Bool) (hq : ∀ x, q x = (decide (lo ≤ x) && decide (x ≤ hi)))
    (h1 : ∀ n v, L (n + 1) v = if (decide (v < (s.size : Int))) = true then if (decide (0 ≤ v)) = true then if (decide ((v : Int) < (s.size : Int))) = true then if (decide ((sAt s v) < lo)) = true then some (.ret ()) else if (decide (hi < (sAt s v))) = true then some (.ret ()) else L n (i64 (v + 1)) else none else none else some (.out ())) :
    ∀ (n v : Nat), v ≤ s.size → s.size - v < n → L n (v : Int) = some (if ((sbytes s).drop v).all q = true then .out () else .ret ())
  | 0, v, h, hn => by omega
  | n + 1, v, h, hn => by
    rw [h1]
    by_cases hv : v < s.size
    · have hl : v < (sbytes s).length := by rw [sbytes_len]; exact hv
      have hd : (sbytes s).drop v = sAt s v :: (sbytes s).drop (v + 1) := by
        have := sAt_get s hv
        rw [List.getElem?_eq_getElem hl] at this
        rw [List.drop_eq_getElem_cons hl, Option.some.inj this]
      have hi' : i64 ((v : Int) + 1) = ((v + 1 : Nat) : Int) := by rw [i64_of (by omega) (by omega)]; omega
      have ih := scan_loop s hs lo hi q hq h1 n (v + 1) (by omega) (by omega)
      rw [hd, List.all_cons, hq, hi', ih]
      simp only [show (v : Int) < (s.size : Int) by omega, show (0 : Int) ≤ (v : Int) by omega, decide_true, if_true]
      by_cases a : sAt s v < lo
      · simp [a, show ¬ lo ≤ sAt s v by omega]
      · by_cases b : hi < sAt s v
        · simp [a, b, show ¬ sAt s v ≤ hi by omega]
        · simp [a, b, show lo ≤ sAt s v by omega, show sAt s v ≤ hi by omega]
    · have : (sbytes s).drop v = [] := List.drop_eq_nil_of_le (by rw [sbytes_len]; omega)
      rw [this]
      simp [show ¬ (v : Int) < (s.size : Int) by omega]
theorem Digits_eq (s : ByteArray) (hs : s.size ≤ 4000000) : spec_Digits s = some (digB s) ∧ impl_Digits s = some (digB s) := by
  have e1 : spec_Digits_l0 s FUEL 0 = some (if (sbytes s).all digI = true then .out () else .ret ()) := scan_loop (L := spec_Digits_l0 s) s hs 48 57 digI (fun _ => rfl) (fun _ _ => rfl) FUEL 0 (by omega) (by unfold FUEL; omega)
  have e2 : impl_Digits_l0 s FUEL 0 = some (if (sbytes s).all digI = true then .out () else .ret ()) := scan_loop (L := impl_Digits_l0 s) s hs 48 57 digI (fun _ => rfl) (fun _ _ => rfl) FUEL 0 (by omega) (by unfold FUEL; omega)
  unfold spec_Digits impl_Digits digB
  rw [e1, e2, beq_empty]
  cases (sbytes s).all digI with
  | false => simp [Lo.elim]
  | true =>
    by_cases h : s.size = 0
    · simp [Lo.elim, h]
    · simp [Lo.elim, h, show (0 : Int) < (s.size : Int) by omega, show 0 < s.size by omega]
theorem Printable_eq (s : ByteArray) (hs : s.size ≤ 4000000) : spec_Printable s = some (prtB s) ∧ impl_Printable s = some (prtB s) := by
  have e1 : spec_Printable_l0 s FUEL 0 = some (if (sbytes s).all prtI = true then .out () else .ret ()) := scan_loop (L := spec_Printable_l0 s) s hs 32 126 prtI (fun _ => rfl) (fun _ _ => rfl) FUEL 0 (by omega) (by unfold FUEL; omega)
  have e2 : impl_Printable_l0 s FUEL 0 = some (if (sbytes s).all prtI = true then .out () else .ret ()) := scan_loop (L := impl_Printable_l0 s) s hs 32 126 prtI (fun _ => rfl) (fun _ _ => rfl) FUEL 0 (by omega) (by unfold FUEL; omega)
  unfold spec_Printable impl_Printable prtB
  rw [e1, e2]
  cases (sbytes s).all prtI <;> simp [Lo.elim]
def fkind (no : Int) : Int := (spec_FieldKind no).getD 0
def fsize (no : Int) : Int := (spec_FieldSize no).getD 0
def rowW (no : Int) : Bool := (spec_FieldKind no == some (fkind no)) && (spec_FieldSize no == some (fsize no)) && (decide (1 ≤ fkind no) && decide (fkind no ≤ 5)) && (decide (2 ≤ fsize no) && decide (fsize no ≤ 60)) && (match impl_rowOf no with | some r => (r.kind == fkind no) && (r.size == fsize no) | none => false)
theorem Row_val (no : Int) : spec_FieldKind no = some (fkind no) ∧ spec_FieldSize no = some (fsize no) ∧ (∃ r, impl_rowOf no = some r ∧ r.kind = fkind no ∧ r.size = fsize no) ∧ (fkind no = 0 ∧ fsize no = 0 ∨ 1 ≤ fkind no ∧ fkind no ≤ 5 ∧ 2 ≤ fsize no ∧ fsize no ≤ 60) := by
  have key : ∀ n : Int, rowW n = true → spec_FieldKind n = some (fkind n) ∧ spec_FieldSize n = some (fsize n) ∧ (∃ r, impl_rowOf n = some r ∧ r.kind = fkind n ∧ r.size = fsize n) ∧ (fkind n = 0 ∧ fsize n = 0 ∨ 1 ≤ fkind n ∧ fkind n ≤ 5 ∧ 2 ≤ fsize n ∧ fsize n ≤ 60) := fun n h => by
    unfold rowW at h
    simp only [Bool.and_eq_true, decide_eq_true_eq, beq_iff_eq] at h
    obtain ⟨⟨⟨⟨h1, h2⟩, h3, h4⟩, h5, h6⟩, h7⟩ := h
    refine ⟨h1, h2, ?_, .inr ⟨h3, h4, h5, h6⟩⟩
    cases hr : impl_rowOf n with
    | none => rw [hr] at h7; cases h7
    | some r =>
      rw [hr] at h7
      simp only [Bool.and_eq_true, beq_iff_eq] at h7
      exact ⟨r, rfl, h7.1, h7.2⟩
  by_cases h2 : no = 2
  · subst h2; exact key 2 (by decide +kernel)
  by_cases h3 : no = 3
  · subst h3; exact key 3 (by decide +kernel)
  by_cases h4 : no = 4
  · subst h4; exact key 4 (by decide +kernel)
  by_cases h7 : no = 7
  · subst h7; exact key 7 (by decide +kernel)
  by_cases h11 : no = 11
  · subst h11; exact key 11 (by decide +kernel)
  by_cases h14 : no = 14
  · subst h14; exact key 14 (by decide +kernel)
  by_cases h37 : no = 37
  · subst h37; exact key 37 (by decide +kernel)
  by_cases h38 : no = 38
  · subst h38; exact key 38 (by decide +kernel)
  by_cases h39 : no = 39
  · subst h39; exact key 39 (by decide +kernel)
  by_cases h41 : no = 41
  · subst h41; exact key 41 (by decide +kernel)
  by_cases h48 : no = 48
  · subst h48; exact key 48 (by decide +kernel)
  by_cases h49 : no = 49
  · subst h49; exact key 49 (by decide +kernel)
  by_cases h54 : no = 54
  · subst h54; exact key 54 (by decide +kernel)
  by_cases h95 : no = 95
  · subst h95; exact key 95 (by decide +kernel)
  by_cases h102 : no = 102
  · subst h102; exact key 102 (by decide +kernel)
  by_cases h103 : no = 103
  · subst h103; exact key 103 (by decide +kernel)
  have b2 : (no == 2) = false := beq_false_of_ne h2
  have c2 : ((2 : Int) == no) = false := beq_false_of_ne (Ne.symm h2)
  have b3 : (no == 3) = false := beq_false_of_ne h3
  have c3 : ((3 : Int) == no) = false := beq_false_of_ne (Ne.symm h3)
  have b4 : (no == 4) = false := beq_false_of_ne h4
  have c4 : ((4 : Int) == no) = false := beq_false_of_ne (Ne.symm h4)
  have b7 : (no == 7) = false := beq_false_of_ne h7
  have c7 : ((7 : Int) == no) = false := beq_false_of_ne (Ne.symm h7)
  have b11 : (no == 11) = false := beq_false_of_ne h11
  have c11 : ((11 : Int) == no) = false := beq_false_of_ne (Ne.symm h11)
  have b14 : (no == 14) = false := beq_false_of_ne h14
  have c14 : ((14 : Int) == no) = false := beq_false_of_ne (Ne.symm h14)
  have b37 : (no == 37) = false := beq_false_of_ne h37
  have c37 : ((37 : Int) == no) = false := beq_false_of_ne (Ne.symm h37)
  have b38 : (no == 38) = false := beq_false_of_ne h38
  have c38 : ((38 : Int) == no) = false := beq_false_of_ne (Ne.symm h38)
  have b39 : (no == 39) = false := beq_false_of_ne h39
  have c39 : ((39 : Int) == no) = false := beq_false_of_ne (Ne.symm h39)
  have b41 : (no == 41) = false := beq_false_of_ne h41
  have c41 : ((41 : Int) == no) = false := beq_false_of_ne (Ne.symm h41)
  have b48 : (no == 48) = false := beq_false_of_ne h48
  have c48 : ((48 : Int) == no) = false := beq_false_of_ne (Ne.symm h48)
  have b49 : (no == 49) = false := beq_false_of_ne h49
  have c49 : ((49 : Int) == no) = false := beq_false_of_ne (Ne.symm h49)
  have b54 : (no == 54) = false := beq_false_of_ne h54
  have c54 : ((54 : Int) == no) = false := beq_false_of_ne (Ne.symm h54)
  have b95 : (no == 95) = false := beq_false_of_ne h95
  have c95 : ((95 : Int) == no) = false := beq_false_of_ne (Ne.symm h95)
  have b102 : (no == 102) = false := beq_false_of_ne h102
  have c102 : ((102 : Int) == no) = false := beq_false_of_ne (Ne.symm h102)
  have b103 : (no == 103) = false := beq_false_of_ne h103
  have c103 : ((103 : Int) == no) = false := beq_false_of_ne (Ne.symm h103)
  have k0 : spec_FieldKind no = some 0 := by unfold spec_FieldKind; simp only [b2, b3, b4, b7, b11, b14, b37, b38, b39, b41, b48, b49, b54, b95, b102, b103, Bool.false_eq_true, if_false]
  have s0 : spec_FieldSize no = some 0 := by unfold spec_FieldSize; simp only [b2, b3, b4, b7, b11, b14, b37, b38, b39, b41, b48, b49, b54, b95, b102, b103, Bool.false_eq_true, if_false]
  have r0 : impl_rowOf no = some ⟨0, 0, 0⟩ := by
    unfold impl_rowOf impl_fieldRows
    simp only [Option.bind_some, List.length_cons, List.length_nil, impl_rowOf_l0, c2, c3, c4, c7, c11, c14, c37, c38, c39, c41, c48, c49, c54, c95, c102, c103, Bool.false_eq_true, if_false, Lo.elim]
    rfl
  have k1 : fkind no = 0 := by unfold fkind; rw [k0]; rfl
  have s1 : fsize no = 0 := by unfold fsize; rw [s0]; rfl
  exact ⟨by rw [k0, k1], by rw [s0, s1], ⟨_, r0, k1.symm, s1.symm⟩, .inl ⟨k1, s1⟩⟩
def fok (no : Int) (s : ByteArray) : Bool :=
  if (fkind no == 1) = true then digB s && ((s.size : Int) == fsize no) else if (fkind no == 2) = true then prtB s && ((s.size : Int) == fsize no) else
  if (fkind no == 3) = true then digB s && decide ((s.size : Int) ≤ fsize no) else if ((fkind no == 4) || (fkind no == 5)) = true then prtB s && (decide (1 ≤ (s.size : Int)) && decide ((s.size : Int) ≤ fsize no)) else false
theorem digB_pos {s : ByteArray} (h : digB s = true) : 1 ≤ s.size := by
  unfold digB at h
  simp only [Bool.and_eq_true, decide_eq_true_eq] at h
  omega
theorem FieldOk_val (no : Int) (s : ByteArray) (hs : s.size ≤ 4000000) : spec_FieldOk no s = some (fok no s) ∧ impl_FieldOk no s = some (fok no s) := by
  obtain ⟨k1, s1, ⟨r, r1, rk, rs⟩, _⟩ := Row_val no
  obtain ⟨d1, d2⟩ := Digits_eq s hs
  obtain ⟨p1, p2⟩ := Printable_eq s hs
  have hd : digB s = true → decide (1 ≤ (s.size : Int)) = true := fun h => decide_eq_true (by have := digB_pos h; omega)
  unfold spec_FieldOk impl_FieldOk fok
  rw [s1, r1]
  simp only [Option.bind_some]
  unfold spec_FieldOk_c0 impl_FieldOk_c0
  rw [k1, rk, rs]
  simp only [Option.bind_some]
  unfold spec_FieldOk_c1 impl_FieldOk_c1
  rw [rk]
  simp only [d1, d2, p1, p2, l01In_val, within_val, Option.bind_some]
  generalize fkind no = k
  generalize fsize no = n
  rcases tf (k == 1) with a1 | a1
  · rcases tf (digB s) with x | x <;> simp [a1, x, Lo.elim]
  · rcases tf (k == 2) with a2 | a2
    · rcases tf (prtB s) with x | x <;> simp [a1, a2, x, Lo.elim]
    · rcases tf (k == 3) with a3 | a3
      · rcases tf (digB s) with x | x
        · have := hd x
          rw [decide_eq_true_eq] at this
          simp [a1, a2, a3, x, this, Lo.elim]
        · simp [a1, a2, a3, x, Lo.elim]
      · rcases tf (k == 4) with a4 | a4
        · rcases tf (prtB s) with x | x <;> simp [a1, a2, a3, a4, x, Lo.elim]
        · rcases tf (k == 5) with a5 | a5
          · rcases tf (prtB s) with x | x <;> simp [a1, a2, a3, a4, a5, x, Lo.elim]
          · simp [a1, a2, a3, a4, a5, Lo.elim]
def msgL : Option Int → List Field → Bool
  | _, [] => true
  | p, f :: t => fok f.No f.Text && (match p with | none => true | some k => decide (k < f.No)) && msgL (some f.No) t
def msgB (m : Msg) : Bool := digB m.Mti && ((m.Mti.size : Int) == 4) && msgL none m.List
/-- What comes ahead of place v. -/
def prevNo (l : List Field) : Nat → Option Int
  | 0 => none
  | v + 1 => l[v]?.map (·.No)
theorem MsgOk_l0_val (m : Msg) (hl : m.List.length ≤ 4000000) (hm : ∀ f ∈ m.List, f.Text.size ≤ 4000000) : ∀ (n v : Nat), v ≤ m.List.length → m.List.length - v < n →
    spec_MsgOk_l0 m n (v : Int) = some (if msgL (prevNo m.List v) (m.List.drop v) = true then .out () else .ret ()) ∧ impl_MsgOk_l0 m n (v : Int) = some (if msgL (prevNo m.List v) (m.List.drop v) = true then .out () else .ret ())
  | 0, v, h, hn => by omega
  | n + 1, v, h, hn => by
    unfold spec_MsgOk_l0 impl_MsgOk_l0
    unfold spec_MsgOk_c3 impl_MsgOk_c2
    by_cases hv : v < m.List.length
    · obtain ⟨f1, f2⟩ := FieldOk_val m.List[v].No m.List[v].Text (hm _ (List.getElem_mem hv))
      have hi' : i64 ((v : Int) + 1) = ((v + 1 : Nat) : Int) := by rw [i64_of (by omega) (by omega)]; omega
      obtain ⟨i1, i2⟩ := MsgOk_l0_val m hl hm n (v + 1) (by omega) (by omega)
      have hp : prevNo m.List (v + 1) = some m.List[v].No := by simp [prevNo, hv]
      rw [hp] at i1 i2
      have hg : m.List[((v : Int)).toNat]? = some m.List[v] := by rw [Int.toNat_natCast]; exact List.getElem?_eq_getElem hv
      unfold spec_MsgOk_c4 impl_MsgOk_c3
      rw [List.drop_eq_getElem_cons hv]
      simp only [show (v : Int) < (m.List.length : Int) by omega, show (0 : Int) ≤ (v : Int) by omega, decide_true, if_true, Option.bind_some, Lo.elim, hg, f1, f2, hi', i1, i2, msgL]
      rcases tf (fok m.List[v].No m.List[v].Text) with x | x
      · cases v with
        | zero => simp [x, prevNo]
        | succ u =>
          have hu : u < m.List.length := by omega
          have h1 : i64 (((u + 1 : Nat) : Int) - 1) = (u : Int) := by rw [i64_of (by omega) (by omega)]; omega
          have hg1 : m.List[((u : Int)).toNat]? = some m.List[u] := by rw [Int.toNat_natCast]; exact List.getElem?_eq_getElem hu
          have hp1 : prevNo m.List (u + 1) = some m.List[u].No := by simp [prevNo, hu]
          simp only [x, if_true, show (0 : Int) < ((u + 1 : Nat) : Int) by omega, decide_true, h1, show (0 : Int) ≤ (u : Int) by omega, hg1, Option.bind_some, hp1]
          by_cases q : m.List[u + 1].No ≤ m.List[u].No
          · simp [q, show ¬ m.List[u].No < m.List[u + 1].No by omega]
          · simp [q, show m.List[u].No < m.List[u + 1].No by omega]
      · simp [x]
    · have : m.List.drop v = [] := List.drop_eq_nil_of_le (by omega)
      rw [this]
      simp [show ¬ (v : Int) < (m.List.length : Int) by omega, Lo.elim, msgL]
theorem MsgOk_val (m : Msg) (h0 : m.Mti.size ≤ 4000000) (hl : m.List.length ≤ 4000000) (hm : ∀ f ∈ m.List, f.Text.size ≤ 4000000) : spec_MsgOk m = some (msgB m) ∧ impl_MsgOk m = some (msgB m) := by
  obtain ⟨d1, d2⟩ := Digits_eq m.Mti h0
  obtain ⟨e1, e2⟩ := MsgOk_l0_val m hl hm FUEL 0 (by omega) (by unfold FUEL; omega)
  have e1 : spec_MsgOk_l0 m FUEL 0 = some (if msgL none m.List = true then .out () else .ret ()) := e1
  have e2 : impl_MsgOk_l0 m FUEL 0 = some (if msgL none m.List = true then .out () else .ret ()) := e2
  unfold spec_MsgOk impl_MsgOk msgB spec_MsgOk_c0 impl_isWide
  rw [d1, d2, e1, e2]
  simp only [Option.bind_some]
  rcases tf (digB m.Mti) with x | x <;> rcases tf ((m.Mti.size : Int) == 4) with y | y <;> rcases tf (msgL none m.List) with z | z <;> simp [x, y, z, Lo.elim, bne]
theorem Msg_small {m : Msg} (h : wtMsg m ≤ 4000000) : m.Mti.size ≤ 4000000 ∧ m.List.length ≤ 4000000 ∧ ∀ f ∈ m.List, f.Text.size ≤ 4000000 := by
  rw [wtMsg_eq] at h
  have := wtL_len wtField m.List
  refine ⟨by omega, by omega, fun f hf => ?_⟩
  have := wtL_mem wtField m.List f hf
  rw [wtField_eq] at this
  omega
theorem index_one (c b : UInt8) (l : List UInt8) : Lib.index (b :: l) [c] = if b = c then 0 else if Lib.index l [c] = -1 then -1 else Lib.index l [c] + 1 := by
  rw [Lib.index]
  by_cases h : b = c
  · subst h; simp
  · have : ¬ c = b := fun e => h e.symm
    simp [h, this]
theorem split_one (c : UInt8) : ∀ l : List UInt8, (c ∉ l ∧ Lib.index l [c] = -1) ∨ ∃ p t, l = p ++ c :: t ∧ c ∉ p ∧ Lib.index l [c] = (p.length : Nat)
  | [] => .inl ⟨by simp, rfl⟩
  | b :: l => by
    rw [index_one]
    by_cases h : b = c
    · subst h; exact .inr ⟨[], l, rfl, by simp, by simp⟩
    · rcases split_one c l with ⟨h1, h2⟩ | ⟨p, t, h1, h2, h3⟩
      · exact .inl ⟨by simp [h1, Ne.symm h], by simp [h, h2]⟩
      · refine .inr ⟨b :: p, t, by rw [h1]; rfl, by simp [h2, Ne.symm h], ?_⟩
        rw [h3]
        simp only [h, if_false, List.length_cons]
        rw [if_neg (by omega)]
        omega
theorem replace_one (c d : UInt8) : ∀ (n : Nat) (l : List UInt8), l.length ≤ n → Lib.replaceK [c] [d] (Lib.count l [c]) l = l.map (fun b => if b = c then d else b)
  | n, l, hn => by
    have hid : ∀ p : List UInt8, c ∉ p → p.map (fun b => if b = c then d else b) = p := fun p hp => by
      conv => rhs; rw [← List.map_id p]
      apply List.map_congr_left
      intro x hx
      rw [if_neg (fun e : x = c => hp (e ▸ hx))]; rfl
    rcases split_one c l with ⟨h1, h2⟩ | ⟨p, t, h1, h2, h3⟩
    · rw [Lib.count_miss h2, hid l h1]; rfl
    · have hl : l.length = p.length + 1 + t.length := by rw [h1]; simp; omega
      cases n with
      | zero => omega
      | succ n =>
        have hd : l.drop (p.length + [c].length) = t := by
          rw [h1, show p ++ c :: t = (p ++ [c]) ++ t by simp]
          exact List.drop_left' (by simp)
        have ht : l.take p.length = p := by rw [h1]; exact List.take_left' rfl
        rw [Lib.count_hit (by simp) h3, Nat.add_comm, Lib.replaceK_hit _ _ _ _ _ h3, hd, ht, replace_one c d n t (by omega), h1, List.map_append, hid p h2]
        simp
def und (x : Int) : Int := if (x == 32) = true then 95 else x
def undT (s : ByteArray) : ByteArray := bstr ((sbytes s).map und)
theorem undT_size (s : ByteArray) : (undT s).size = s.size := by unfold undT; rw [bstr_size, List.length_map, sbytes_len]
theorem MsgShow_l1_val (m : Msg) (v1 : ByteArray) (p1 : List Field) (x1 : Field) : ∀ (t p v : List Int), v = p.map und ++ t → spec_MsgShow_l1 m v1 p1 x1 t p v = some (v.take p.length ++ t.map und)
  | [], p, v, h => by
    unfold spec_MsgShow_l1
    subst h
    simp [List.take_of_length_le]
  | x :: t, p, v, h => by
    have hl : p.length = (p.map und).length := by simp
    have hg : v[((p.length : Int)).toNat]? = some x := by rw [Int.toNat_natCast, h, hl]; simp
    have hs : v.set p.length (und x) = (p ++ [x]).map und ++ t := by
      rw [h, hl, List.set_append_right _ _ (Nat.le_refl _)]
      simp
    unfold spec_MsgShow_l1
    rw [hg, Option.bind_some]
    have ht : v.take p.length = p.map und := by rw [h, hl]; exact List.take_left' rfl
    rcases tf (x == 32) with q | q
    · have hu : und x = 95 := by unfold und; rw [if_pos q]
      rw [hu] at hs
      rw [if_pos q, Int.toNat_natCast, hs, MsgShow_l1_val m v1 p1 x1 t (p ++ [x]) _ rfl, ht]
      congr 1
      rw [List.take_left' (by simp)]
      simp
    · have hu : und x = x := by unfold und; rw [if_neg (by rw [q]; simp)]
      have hv : v = (p ++ [x]).map und ++ t := by rw [h]; simp [hu]
      rw [if_neg (by rw [q]; simp), MsgShow_l1_val m v1 p1 x1 t (p ++ [x]) v hv, ht]
      congr 1
      conv => lhs; rw [hv]
      rw [List.take_left' (by simp)]
      simp
theorem repl_und (s : ByteArray) : replP s (bs [32]) (bs [95]) = undT s := by
  apply ba_ext
  unfold undT replP
  rw [bstr_list]
  show Lib.replaceAll s.data.toList [32] [95] = _
  unfold Lib.replaceAll Lib.replace Lib.replaceNum
  rw [if_neg (by decide), if_pos (Or.inl (by decide)), replace_one 32 95 _ _ (Nat.le_refl _), List.map_map]
  unfold sbytes
  rw [List.map_map]
  apply List.map_congr_left
  intro x _
  simp only [Function.comp, und]
  by_cases h : x = 32
  · subst h; rfl
  · have : ¬ ((x.toNat : Int) == 32) = true := fun e => h (by
      have : (x.toNat : Int) = 32 := by simpa using e
      have : x.toNat = 32 := by omega
      exact UInt8.toNat_inj.1 this)
    rw [if_neg h, if_neg this]
    simp
theorem ReplaceAll_und (s : ByteArray) (h : s.size ≤ 4000000) : strings_ReplaceAll s (bs [32]) (bs [95]) = some (undT s) := by
  unfold strings_ReplaceAll
  have h1 : Lib.countB s (bs [32]) ≤ s.size + 1 := by
    have := Lib.count_le s.data.toList (bs [32]).data.toList
    rw [← ba_size] at this; exact this
  have s1 : (bs [32]).size = 1 := rfl
  have s2 : (bs [95]).size = 1 := rfl
  rw [repl_und, s1, s2, if_pos]
  simp only [Bool.and_eq_true, decide_eq_true_eq]
  omega
def fldT (f : Field) : ByteArray := ((bs [32] ++ numT f.No) ++ bs [61]) ++ undT f.Text
def showL (t : List Field) (v : ByteArray) : ByteArray := t.foldl (fun r f => r ++ fldT f) v
theorem fldT_size (f : Field) : (fldT f).size ≤ f.Text.size + 22 := by
  have := numT_size f.No
  have s1 : (bs [32]).size = 1 := rfl
  have s2 : (bs [61]).size = 1 := rfl
  simp only [fldT, size_app, undT_size]; omega
theorem showL_size : ∀ (t : List Field) (v : ByteArray), (showL t v).size ≤ v.size + 22 * t.length + wtL wtField t
  | [], v => by simp [showL, wtL]
  | f :: t, v => by
    have ih := showL_size t (v ++ fldT f)
    have := fldT_size f
    simp only [showL, List.foldl_cons, List.length_cons, wtL, wtField_eq, size_app] at *
    omega
theorem MsgShow_l0_val (m : Msg) : ∀ (t p : List Field) (v : ByteArray), v.size + 22 * t.length + wtL wtField t ≤ 1000000000 → (∀ f ∈ t, f.Text.size ≤ 4000000) → spec_MsgShow_l0 m t p v = some (showL t v) ∧ impl_MsgShow_l0 m t v = some (showL t v)
  | [], p, v, _, _ => ⟨rfl, rfl⟩
  | f :: t, p, v, hv, hm => by
    have hf := hm f (by simp)
    have hn := numT_size f.No
    have hu := undT_size f.Text
    have hs := fldT_size f
    simp only [List.length_cons, wtL, wtField_eq] at hv
    obtain ⟨i1, i2⟩ := MsgShow_l0_val m t (p ++ [f]) (v ++ fldT f) (by rw [size_app]; omega) (fun g hg => hm g (by simp [hg]))
    have s1 : (bs [32]).size = 1 := rfl
    have s2 : (bs [61]).size = 1 := rfl
    have s3 : (bstr ((sbytes f.Text).map und)).size = f.Text.size := undT_size f.Text
    have e : (((v ++ bs [32]) ++ numT f.No) ++ bs [61]) ++ undT f.Text = v ++ fldT f := by unfold fldT; simp only [ba_assoc]
    unfold spec_MsgShow_l0 impl_MsgShow_l0
    constructor
    · rw [MsgShow_l1_val m v p f (sbytes f.Text) [] (sbytes f.Text) (by simp), spec_NumText_val]
      simp only [Option.bind_some, List.length_nil, List.take_zero, List.nil_append, sbytes_len, size_app, s1, s2, s3, capOk_of (show f.Text.size ≤ 274877906944 by omega), show f.Text.size ≤ 9223372036854775807 by omega, show v.size + 1 ≤ 9223372036854775807 by omega, show v.size + 1 + (numT f.No).size ≤ 9223372036854775807 by omega,
        show v.size + 1 + (numT f.No).size + 1 ≤ 9223372036854775807 by omega, show v.size + 1 + (numT f.No).size + 1 + f.Text.size ≤ 9223372036854775807 by omega, decide_true, if_true]
      rw [show bstr ((sbytes f.Text).map und) = undT f.Text from rfl, e, i1]
      rfl
    · rw [impl_NumText_val, ReplaceAll_und f.Text hf]
      simp only [Option.bind_some, size_app, s1, s2, hu, show 1 + (numT f.No).size ≤ 9223372036854775807 by omega, show 1 + (numT f.No).size + 1 ≤ 9223372036854775807 by omega, show 1 + (numT f.No).size + 1 + f.Text.size ≤ 9223372036854775807 by omega,
        show v.size + (1 + (numT f.No).size + 1 + f.Text.size) ≤ 9223372036854775807 by omega, decide_true, if_true]
      rw [show ((bs [32] ++ numT f.No) ++ bs [61]) ++ undT f.Text = fldT f from rfl, i2]
      rfl
theorem MsgShow_val (m : Msg) (h : wtMsg m ≤ 1048576) : ∃ y, spec_MsgShow m = some y ∧ impl_MsgShow m = some y ∧ y.size ≤ 400000000 := by
  obtain ⟨h1, h2, h3⟩ := Msg_small (show wtMsg m ≤ 4000000 by omega)
  obtain ⟨e1, e2⟩ := MsgOk_val m h1 h2 h3
  rw [wtMsg_eq] at h
  have hl := wtL_len wtField m.List
  obtain ⟨i1, i2⟩ := MsgShow_l0_val m m.List [] m.Mti (by omega) h3
  have hz := showL_size m.List m.Mti
  unfold spec_MsgShow impl_MsgShow
  rw [e1, e2]
  simp only [Option.bind_some, capOk_of (show m.List.length ≤ 274877906944 by omega), if_true, i1, i2]
  rcases tf (msgB m) with x | x
  · simp only [x, if_true]
    exact ⟨_, rfl, rfl, by omega⟩
  · simp only [x, Bool.false_eq_true, if_false]
    exact ⟨_, rfl, rfl, by decide⟩
namespace Pure
theorem FnExactMsgShow (aM : Msg) (h0 : W31 aM) : laws_FnExactMsgShow aM = some true := by
  unfold laws_FnExactMsgShow
  obtain ⟨r1, er1, gr1⟩ := szMsg_val aM 1048576 h0 (by omega) (by omega)
  rw [er1, Option.bind_some]
  by_cases cr1 : r1 < 0
  · simp only [cr1, decide_true, decide_false, Bool.false_eq_true, if_true, if_false]
  have gr1 := gr1 (by omega)
  simp only [cr1, decide_true, decide_false, Bool.false_eq_true, if_true, if_false]
  obtain ⟨y, f1, f2, f3⟩ := MsgShow_val aM (by omega)
  simp only [f1, f2, toMsg_val aM (by omega), eqMsg_rfl aM (by omega), Option.bind_some, decide_true, decide_false, Bool.false_eq_true, if_true, if_false, bne_rfl, beq_rfl, beq_self_eq_true]
end Pure
end Go.Proofs.YtjnnbcdakaabbaaDoorM
