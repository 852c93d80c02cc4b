/- Laws of the plain functions. No condition. -/
import Derived.Test.YtdpbcmajmojolaaPK1
import Derived.Laws.StructEq
namespace Go.Proofs.YtdpbcmajmojolaaM
set_option linter.unusedVariables false
set_option linter.unusedSimpArgs false
set_option maxRecDepth 100000
/-! stripes' numbers; accounts laid back -/
theorem ofInt_nat (n : Nat) (a : Int) (h0 : 0 ≤ a) : BitVec.ofInt n a = BitVec.ofNat n a.toNat := by
  obtain ⟨m, rfl⟩ := Int.eq_ofNat_of_zero_le h0
  apply BitVec.eq_of_toNat_eq
  simp [BitVec.toNat_ofInt]
theorem bxor_nat (k : IntKind) (a b : Int) (h0 : 0 ≤ a) (h1 : 0 ≤ b) (ha : a.toNat < 2 ^ k.bits) (hb : b.toNat < 2 ^ k.bits) : bxor k a b = k.wrap ((a.toNat ^^^ b.toNat : Nat) : Int) := by
  unfold bxor
  rw [ofInt_nat _ _ h0, ofInt_nat _ _ h1, BitVec.toNat_xor, BitVec.toNat_ofNat, BitVec.toNat_ofNat, Nat.mod_eq_of_lt ha, Nat.mod_eq_of_lt hb]
theorem band_nat (k : IntKind) (a b : Int) (h0 : 0 ≤ a) (h1 : 0 ≤ b) (ha : a.toNat < 2 ^ k.bits) (hb : b.toNat < 2 ^ k.bits) : band k a b = k.wrap ((a.toNat &&& b.toNat : Nat) : Int) := by
  unfold band
  rw [ofInt_nat _ _ h0, ofInt_nat _ _ h1, BitVec.toNat_and, BitVec.toNat_ofNat, BitVec.toNat_ofNat, Nat.mod_eq_of_lt ha, Nat.mod_eq_of_lt hb]
theorem u32_val (x : Int) : u32 x = x % 4294967296 := by
  unfold u32 IntKind.wrap
  simp [IntKind.bits, IntKind.signed]
theorem Fnv_step (v c : Int) (h0 : 0 ≤ v) (h1 : v < 4294967296) (c0 : 0 ≤ c) (c1 : c ≤ 255) :
    ∃ y, band .i64 (i64 ((bxor .i64 v (i64 c)) * 16777619)) 4294967295 = y ∧ u32 ((bxor .u32 v (u32 c)) * 16777619) = y ∧ 0 ≤ y ∧ y < 4294967296 := by
  have hc : i64 c = c := i64_of (by omega) (by omega)
  have hu : u32 c = c := by rw [u32_val]; omega
  have hx : v.toNat ^^^ c.toNat < 2 ^ 32 := Nat.xor_lt_two_pow (by omega) (by omega)
  rw [hc, hu]
  rw [bxor_nat .i64 v c h0 c0 (by simp [IntKind.bits]; omega) (by simp [IntKind.bits]; omega), bxor_nat .u32 v c h0 c0 (by simp [IntKind.bits]; omega) (by simp [IntKind.bits]; omega)]
  generalize v.toNat ^^^ c.toNat = x at hx
  have e1 : IntKind.i64.wrap (x : Int) = x := i64_of (by omega) (by omega)
  have e2 : IntKind.u32.wrap (x : Int) = x := by show u32 (x : Int) = x; rw [u32_val]; omega
  rw [e1, e2]
  have e3 : i64 ((x : Int) * 16777619) = (x : Int) * 16777619 := i64_of (by omega) (by omega)
  rw [e3, band_nat .i64 _ _ (by omega) (by omega) (by simp [IntKind.bits]; omega) (by simp [IntKind.bits])]
  have e4 : ((x : Int) * 16777619).toNat &&& (4294967295 : Int).toNat = (x * 16777619) % 4294967296 := by
    have : (4294967295 : Int).toNat = 2 ^ 32 - 1 := rfl
    rw [this, Nat.and_two_pow_sub_one_eq_mod]
    have : ((x : Int) * 16777619).toNat = x * 16777619 := by omega
    rw [this]
  rw [e4]
  refine ⟨_, rfl, ?_, ?_, ?_⟩
  · rw [u32_val]
    have : IntKind.i64.wrap ((x * 16777619 % 4294967296 : Nat) : Int) = ((x * 16777619 % 4294967296 : Nat) : Int) := i64_of (by omega) (by omega)
    rw [this]; omega
  · have : IntKind.i64.wrap ((x * 16777619 % 4294967296 : Nat) : Int) = ((x * 16777619 % 4294967296 : Nat) : Int) := i64_of (by omega) (by omega)
    rw [this]; omega
  · have : IntKind.i64.wrap ((x * 16777619 % 4294967296 : Nat) : Int) = ((x * 16777619 % 4294967296 : Nat) : Int) := i64_of (by omega) (by omega)
    rw [this]; omega
theorem Fnv_l0_tot (s : ByteArray) (hs : s.size ≤ 4000000) : ∀ (n : Nat) (h v : Int), 0 ≤ v → v ≤ s.size → (s.size : Int) - v < n → 0 ≤ h → h < 4294967296 →
    ∃ y, spec_Fnv_l0 s n h v = some y ∧ impl_Fnv_l0 s n h v = some y ∧ 0 ≤ y ∧ y < 4294967296
  | 0, h, v, h0, hv, hn, _, _ => by exfalso; omega
  | n + 1, h, v, h0, hv, hn, g0, g1 => by
    unfold spec_Fnv_l0 impl_Fnv_l0
    by_cases h1 : v < (s.size : Int)
    · obtain ⟨z, e1, e2, z0, z1⟩ := Fnv_step h (sAt s v) g0 g1 (sAt_nn s v) (sAt_le s v)
      have hi : i64 (v + 1) = v + 1 := i64_of (by omega) (by omega)
      obtain ⟨y, f1, f2, f3⟩ := Fnv_l0_tot s hs n z (v + 1) (by omega) (by omega) (by omega) z0 z1
      exact ⟨y, by simp only [h1, h0, decide_true, if_true, e1, hi]; exact f1, by simp only [h1, h0, decide_true, if_true, e2, hi]; exact f2, f3⟩
    · exact ⟨h, by simp [h1], by simp [h1], g0, g1⟩
theorem Fnv_tot (s : ByteArray) (hs : s.size ≤ 4000000) : ∃ y, spec_Fnv s = some y ∧ impl_Fnv s = some y ∧ 0 ≤ y ∧ y < 4294967296 := by
  obtain ⟨y, e1, e2, h0, h1⟩ := Fnv_l0_tot s hs FUEL 2166136261 0 (by omega) (by omega) (by unfold FUEL; omega) (by omega) (by omega)
  have hi : i64 y = y := i64_of (by omega) (by omega)
  unfold spec_Fnv impl_Fnv
  rw [e1, e2, Option.bind_some, Option.bind_some, hi]
  exact ⟨y, rfl, rfl, h0, h1⟩
theorem StripeNo_tot (s : ByteArray) (n : Int) (hs : s.size ≤ 4000000) : ∃ y, spec_StripeNo s n = some y ∧ impl_StripeNo s n = some y ∧ 0 ≤ y ∧ (1 ≤ n → y < n) := by
  obtain ⟨y, e1, e2, h0, h1⟩ := Fnv_tot s hs
  unfold spec_StripeNo impl_StripeNo
  by_cases h : n < 1
  · exact ⟨0, by simp [h], by simp [h], by omega, fun h2 => by omega⟩
  · have hn : n ≠ 0 := by omega
    refine ⟨Int.tmod y n, by simp only [h, hn, e1, decide_false, Bool.false_eq_true, if_false, Option.bind_some, ne_eq, not_false_eq_true, decide_true, if_true], by simp only [h, hn, e2, decide_false, Bool.false_eq_true, if_false, Option.bind_some, ne_eq, not_false_eq_true, decide_true, if_true], ?_, fun _ => ?_⟩
    · rw [Int.tmod_eq_emod_of_nonneg h0]; exact Int.emod_nonneg _ hn
    · rw [Int.tmod_eq_emod_of_nonneg h0]; exact Int.emod_lt_of_pos _ (by omega)
def isId (id : ByteArray) (a : Acct) : Bool := a.Id == id
def bookAt (l : List Acct) (id : ByteArray) : Int := match l.findIdx? (isId id) with | some i => (i : Int) | none => -1
theorem spec_BookAt_l0_val (b : Book) (id : ByteArray) : ∀ t p : List Acct, spec_BookAt_l0 b id t p = some (match t.findIdx? (isId id) with | some i => .ret ((p.length + i : Nat) : Int) | none => .out ())
  | [], p => rfl
  | x :: t, p => by
    show (if isId id x = true then some (.ret (p.length : Int)) else spec_BookAt_l0 b id t (p ++ [x])) = _
    rw [List.findIdx?_cons]
    cases hx : isId id x with
    | true => simp
    | false =>
      simp only [Bool.false_eq_true, if_false]
      rw [spec_BookAt_l0_val b id t (p ++ [x])]
      cases t.findIdx? (isId id) with
      | none => rfl
      | some i => simp only [Option.map_some, List.length_append, List.length_cons, List.length_nil]; congr 3; omega
theorem impl_BookAt_l0_val (l : List Acct) (id : ByteArray) : ∀ t p : List Acct, slices_IndexFunc_impl_Acct_impl_BookAt_1_l0 l id t p = some (match t.findIdx? (isId id) with | some i => .ret ((p.length + i : Nat) : Int) | none => .out ())
  | [], p => rfl
  | x :: t, p => by
    show (if isId id x = true then some (.ret (p.length : Int)) else slices_IndexFunc_impl_Acct_impl_BookAt_1_l0 l id t (p ++ [x])) = _
    rw [List.findIdx?_cons]
    cases hx : isId id x with
    | true => simp
    | false =>
      simp only [Bool.false_eq_true, if_false]
      rw [impl_BookAt_l0_val l id t (p ++ [x])]
      cases t.findIdx? (isId id) with
      | none => rfl
      | some i => simp only [Option.map_some, List.length_append, List.length_cons, List.length_nil]; congr 3; omega
theorem BookAt_val (b : Book) (id : ByteArray) (h : b.Accts.length ≤ 274877906944) : spec_BookAt b id = some (bookAt b.Accts id) ∧ impl_BookAt b id = some (bookAt b.Accts id) := by
  unfold spec_BookAt impl_BookAt slices_IndexFunc_impl_Acct_impl_BookAt_1 bookAt
  rw [capOk_of h, spec_BookAt_l0_val, impl_BookAt_l0_val]
  cases b.Accts.findIdx? (isId id) with
  | none => exact ⟨rfl, rfl⟩
  | some i => simp [Lo.elim]
theorem bookAt_lt {l : List Acct} {id : ByteArray} (h : 0 ≤ bookAt l id) : (bookAt l id).toNat < l.length ∧ ∃ x, l[(bookAt l id).toNat]? = some x := by
  unfold bookAt at h ⊢
  cases hi : l.findIdx? (isId id) with
  | none => rw [hi] at h; exfalso; exact absurd h (by decide)
  | some i =>
    have := (List.findIdx?_eq_some_iff_getElem.1 hi).1
    exact ⟨by simpa using this, ⟨l[i], by simp [this]⟩⟩
theorem wtL_set_get {α : Type} (f : α → Nat) (x : α) : ∀ {l : List α} {i : Nat} {y : α}, l[i]? = some y → wtL f (l.set i x) + f y = wtL f l + f x
  | [], i, y, h => by simp at h
  | z :: t, 0, y, h => by
    simp only [List.getElem?_cons_zero, Option.some.injEq] at h
    subst h
    simp only [List.set_cons_zero, wtL]; omega
  | z :: t, i + 1, y, h => by
    simp only [List.getElem?_cons_succ] at h
    have := wtL_set_get f x h
    simp only [List.set_cons_succ, wtL]; omega
theorem set_self {α : Type} {l : List α} {i : Nat} {x : α} (h : l[i]? = some x) : l.set i x = l := by
  apply List.ext_getElem?
  intro j
  rw [List.getElem?_set]
  split
  · rename_i e; subst e; rw [h]; split
    · rfl
    · rename_i hl; rw [List.getElem?_eq_none (by omega)] at h; exact h
  · rfl
end Go.Proofs.YtdpbcmajmojolaaM
