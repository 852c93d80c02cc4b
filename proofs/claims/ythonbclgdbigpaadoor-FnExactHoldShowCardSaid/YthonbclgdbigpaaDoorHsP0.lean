/- Laws of the plain functions. No condition. -/
import Derived.Test.YthonbclgdbigpaaDoorHsOp
import Derived.Laws.StructEq
namespace Go.Proofs.YthonbclgdbigpaaDoorM
set_option linter.unusedVariables false
set_option linter.unusedSimpArgs false
set_option maxRecDepth 100000
theorem i64_of {x : Int} (h : -9223372036854775808 ≤ x) (h2 : x ≤ 9223372036854775807) : i64 x = x := by unfold i64; rw [IntKind.wrap_i64]; omega
theorem u8_of {x : Int} (h : 0 ≤ x) (h2 : x ≤ 255) : u8 x = x := by unfold u8 IntKind.wrap; simp [IntKind.bits, IntKind.signed]; omega
theorem beqB (a b : ByteArray) : (a == b) = decide (a = b) := by
  rcases a with ⟨a⟩
  rcases b with ⟨b⟩
  have h1 : ((⟨a⟩ : ByteArray) == ⟨b⟩) = (a == b) := rfl
  rw [h1]
  by_cases h : a = b
  · subst h; simp
  · have h2 : ¬ ((⟨a⟩ : ByteArray) = ⟨b⟩) := fun e => h (by cases e; rfl)
    rw [decide_eq_false h2]
    simpa using h
theorem tmod10 {x : Int} (h : 0 ≤ x) : Int.tmod x 10 = x % 10 := Int.tmod_eq_emod_of_nonneg h
theorem sub_val {left : Int} {n : Nat} (h0 : 0 ≤ left) (h1 : left ≤ 1048576) (hn : n ≤ 140737488351232) : i64 (left - (n : Int)) = left - n := i64_of (by omega) (by omega)
theorem beq_rfl (s : ByteArray) : (s == s) = true := by rw [beqB]; simp
theorem bne_rfl (n : Int) : (n != n) = false := by simp
theorem bstr_one (n : Int) : (bstr [n]).size = 1 := rfl
theorem size_app (a b : ByteArray) : (a ++ b).size = a.size + b.size := ByteArray.size_append
def wtHold (a : Hold) : Nat := a.Id.size
theorem wtHold_eq (a : Hold) : wtHold a = a.Id.size := rfl
theorem szHold_val (a : Hold) (left : Int) (hw : W23 a) (h0 : 0 ≤ left) (h1 : left ≤ 1048576) : ∃ r, laws_szHold a left = some r ∧ (0 ≤ r → r = left - (wtHold a : Nat)) := by
  unfold W23 at hw
  obtain ⟨w0, w1, w2⟩ := hw
  rw [wtHold_eq]
  unfold laws_szHold
  have b1 := w0
  unfold Ws at b1
  rw [sub_val (show 0 ≤ left by omega) (by omega) b1]
  by_cases c1 : (left - (a.Id.size : Int)) < 0
  · exact ⟨-1, by simp only [c1, decide_true, decide_false, Bool.false_eq_true, if_true, if_false, Option.bind_some], fun h => by omega⟩
  · simp only [c1, decide_true, decide_false, Bool.false_eq_true, if_true, if_false, Option.bind_some]
    exact ⟨_, rfl, fun _ => by omega⟩
theorem toHold_val (a : Hold) (h : wtHold a ≤ 4000000) : laws_toHold a = some a := by
  rw [wtHold_eq] at h
  unfold laws_toHold
  rfl
theorem tf (b : Bool) : b = true ∨ b = false := by cases b <;> simp
theorem within_val (n lo hi : Int) : impl_within n lo hi = some (decide (lo ≤ n) && decide (n ≤ hi)) := by
  unfold impl_within
  by_cases h : lo ≤ n <;> simp [h]
def money (n : Int) : Bool := decide (0 ≤ n) && decide (n ≤ 4611686018427387904)
theorem l01Money_val (n : Int) : spec_l01Money n = some (money n) := by
  unfold spec_l01Money money
  by_cases h : 0 ≤ n <;> simp [h]
theorem isMoney_val (n : Int) : impl_isMoney n = some (money n) := by unfold impl_isMoney; rw [within_val]; rfl
theorem bstr_fold : ∀ (ns : List Int) (r : ByteArray), (ns.foldl (fun r n => r.push (UInt8.ofNat n.toNat)) r).data.toList = r.data.toList ++ ns.map (fun n => UInt8.ofNat n.toNat)
  | [], r => by simp
  | n :: ns, r => by
    rw [List.foldl_cons, bstr_fold ns]
    simp [ByteArray.push]
theorem bstr_list (ns : List Int) : (bstr ns).data.toList = ns.map (fun n => UInt8.ofNat n.toNat) := by
  unfold bstr
  rw [bstr_fold]; rfl
theorem ba_ext {a b : ByteArray} (h : a.data.toList = b.data.toList) : a = b := by
  rcases a with ⟨⟨a⟩⟩
  rcases b with ⟨⟨b⟩⟩
  have h : a = b := h
  rw [h]
theorem ba_app (a b : ByteArray) : (a ++ b).data.toList = a.data.toList ++ b.data.toList := by
  rw [ByteArray.data_append, Array.toList_append]
theorem ba_size (a : ByteArray) : a.size = a.data.toList.length := by
  rcases a with ⟨⟨a⟩⟩
  rfl
/-- The text of a number; nothing where it is none. -/
def numT (n : Int) : ByteArray := if money n = true then ⟨(Lib.itoa n).toArray⟩ else ⟨#[]⟩
theorem decDigits_len : ∀ (m u : Nat), u < 10 ^ (m + 1) → (Lib.decDigits u).length ≤ m + 1
  | m, u, h => by
    rw [Lib.decDigits]
    split
    · simp
    · rename_i h10
      cases m with
      | zero => omega
      | succ m =>
        have := decDigits_len m (u / 10) (by rw [Nat.pow_succ] at h; omega)
        simp; omega
theorem money_bounds {n : Int} (h : money n = true) : 0 ≤ n ∧ n ≤ 4611686018427387904 := by
  unfold money at h
  simpa using h
theorem numT_size (n : Int) : (numT n).size ≤ 20 := by
  unfold numT
  split
  · rename_i h
    obtain ⟨h0, h1⟩ := money_bounds h
    rw [ba_size]
    simp only [Lib.itoa, show ¬ n < 0 by omega, if_false]
    exact decDigits_len 19 n.toNat (by omega)
  · simp [ByteArray.size]
theorem digit_data (u : Nat) : (bstr [u8 (i64 (48 + (Int.tmod (u : Int) 10)))]).data.toList = [UInt8.ofNat (48 + u % 10)] := by
  rw [bstr_list, tmod10 (by omega), i64_of (by omega) (by omega), u8_of (by omega) (by omega)]
  simp only [List.map_cons, List.map_nil]
  congr 2
theorem NumText_l0_val (N : Int) : ∀ (m fuel u : Nat) (acc : ByteArray), u < 10 ^ (m + 1) → m < fuel → u ≤ 4611686018427387904 → acc.size + m ≤ 1000 →
    ∃ (v : Nat) (w : ByteArray), spec_NumText_l0 N fuel (u : Int) acc = some ((v : Int), w) ∧ v ≤ 9 ∧ w.size ≤ acc.size + m ∧ UInt8.ofNat (48 + v) :: w.data.toList = Lib.decDigits u ++ acc.data.toList
  | m, 0, u, acc, _, h, _, _ => by omega
  | m, fuel + 1, u, acc, hu, hm, hb, ha => by
    unfold spec_NumText_l0
    rw [Lib.decDigits]
    by_cases h9 : u < 10
    · have : ¬ (9 : Int) < (u : Int) := by omega
      simp only [this, decide_false, Bool.false_eq_true, if_false]
      exact ⟨u, acc, rfl, by omega, by omega, by rw [dif_pos h9]; rfl⟩
    · cases m with
      | zero => omega
      | succ m =>
        have hd := digit_data u
        have hs : (bstr [u8 (i64 (48 + (Int.tmod (u : Int) 10)))]).size + acc.size ≤ 9223372036854775807 := by rw [bstr_one]; omega
        have hq : i64 (Int.tdiv (u : Int) 10) = ((u / 10 : Nat) : Int) := by rw [Int.tdiv_eq_ediv_of_nonneg (by omega), i64_of (by omega) (by omega)]; omega
        simp only [show (9 : Int) < (u : Int) by omega, decide_true, if_true, hs, hq]
        obtain ⟨v, w, e1, e2, e3, e4⟩ := NumText_l0_val N m fuel (u / 10) (bstr [u8 (i64 (48 + (Int.tmod (u : Int) 10)))] ++ acc) (by rw [Nat.pow_succ] at hu; omega) (by omega) (by omega) (by rw [size_app, bstr_one]; omega)
        refine ⟨v, w, e1, e2, by rw [size_app, bstr_one] at e3; omega, ?_⟩
        rw [e4, ba_app, hd, dif_neg h9]
        simp
theorem spec_NumText_val (n : Int) : spec_NumText n = some (numT n) := by
  unfold spec_NumText numT
  rw [l01Money_val, Option.bind_some]
  rcases tf (money n) with h | h
  · obtain ⟨h0, h1⟩ := money_bounds h
    obtain ⟨u, rfl⟩ : ∃ u : Nat, n = (u : Int) := ⟨n.toNat, by omega⟩
    obtain ⟨v, w, e1, e2, e3, e4⟩ := NumText_l0_val u 19 FUEL u (bs []) (by omega) (by unfold FUEL; omega) (by omega) (by decide)
    have hs : (bstr [u8 (i64 (48 + (v : Int)))]).size + w.size ≤ 9223372036854775807 := by
      have : (bs []).size = 0 := rfl
      rw [bstr_one]; omega
    simp only [h, if_true, e1, Option.bind_some, hs, decide_true]
    congr 1
    apply ba_ext
    rw [ba_app, bstr_list, i64_of (by omega) (by omega), u8_of (by omega) (by omega)]
    have e5 : (bs []).data.toList = [] := rfl
    rw [e5, List.append_nil] at e4
    simp only [List.map_cons, List.map_nil, List.cons_append, List.nil_append, Lib.itoa, show ¬ ((u : Int) < 0) by omega, if_false, Int.toNat_natCast, List.toList_toArray]
    rw [← e4]
    congr 2
  · simp only [h, Bool.false_eq_true, if_false]; rfl
theorem impl_NumText_val (n : Int) : impl_NumText n = some (numT n) := by
  unfold impl_NumText numT strconv_Itoa
  rw [isMoney_val, Option.bind_some]
  rcases tf (money n) with h | h
  · obtain ⟨g1, g2⟩ := money_bounds h
    simp [h, show -9223372036854775808 ≤ n by omega, show n ≤ 9223372036854775807 by omega]
  · simp only [h, Bool.false_eq_true, if_false]; rfl
def holdT (h : Hold) : ByteArray := (((h.Id ++ bs [58]) ++ numT h.Amount) ++ bs [64]) ++ numT h.Due
theorem bs1_size (c : UInt8) : (bs [c]).size = 1 := rfl
theorem holdT_size (h : Hold) : (holdT h).size ≤ h.Id.size + 42 := by
  have h1 := numT_size h.Amount
  have h2 := numT_size h.Due
  unfold holdT
  simp only [size_app, bs1_size]; omega
theorem HoldShow_at (h : Hold) (hi : h.Id.size ≤ 4000000) : spec_HoldShow h = some (holdT h) ∧ impl_HoldShow h = some (holdT h) := by
  have h1 := numT_size h.Amount
  have h2 := numT_size h.Due
  have c1 : h.Id.size + (bs [58]).size ≤ 9223372036854775807 := by rw [bs1_size]; omega
  have c2 : (h.Id ++ bs [58]).size + (numT h.Amount).size ≤ 9223372036854775807 := by simp only [size_app, bs1_size]; omega
  have c3 : ((h.Id ++ bs [58]) ++ numT h.Amount).size + (bs [64]).size ≤ 9223372036854775807 := by simp only [size_app, bs1_size]; omega
  have c4 : (((h.Id ++ bs [58]) ++ numT h.Amount) ++ bs [64]).size + (numT h.Due).size ≤ 9223372036854775807 := by simp only [size_app, bs1_size]; omega
  unfold spec_HoldShow impl_HoldShow
  simp only [spec_NumText_val, impl_NumText_val, Option.bind_some, c1, c2, c3, c4, decide_true, if_true]
  exact ⟨rfl, rfl⟩
theorem HoldShow_val (h : Hold) (hw : wtHold h ≤ 1048576) : ∃ y, spec_HoldShow h = some y ∧ impl_HoldShow h = some y ∧ y.size ≤ 4000000 := by
  rw [wtHold_eq] at hw
  have := holdT_size h
  exact ⟨holdT h, (HoldShow_at h (by omega)).1, (HoldShow_at h (by omega)).2, by omega⟩
namespace Pure
theorem FnExactHoldShow (aH : Hold) (h0 : W23 aH) : laws_FnExactHoldShow aH = some true := by
  unfold laws_FnExactHoldShow
  obtain ⟨r1, er1, gr1⟩ := szHold_val aH 1048576 h0 (by omega) (by omega)
  rw [er1, Option.bind_some]
  by_cases cr1 : r1 < 0
  · simp only [cr1, decide_true, decide_false, Bool.false_eq_true, if_true, if_false]
  have gr1 := gr1 (by omega)
  simp only [cr1, decide_true, decide_false, Bool.false_eq_true, if_true, if_false]
  obtain ⟨y, f1, f2, f3⟩ := HoldShow_val aH (by omega)
  simp only [f1, f2, toHold_val aH (by omega), Option.bind_some, decide_true, decide_false, Bool.false_eq_true, if_true, if_false, bne_rfl, beq_rfl, beq_self_eq_true]
end Pure
end Go.Proofs.YthonbclgdbigpaaDoorM
