/- Laws of the plain functions. No condition. -/
import Derived.Test.YtbophjkjmlenpaaDoorRyOp
import Derived.Laws.StructEq
namespace Go.Proofs.YtbophjkjmlenpaaDoorM
set_option linter.unusedVariables false
set_option linter.unusedSimpArgs false
set_option maxRecDepth 100000
theorem i64_of {x : Int} (h : -9223372036854775808 ≤ x) (h2 : x ≤ 9223372036854775807) : i64 x = x := by unfold i64; rw [IntKind.wrap_i64]; omega
theorem u8_of {x : Int} (h : 0 ≤ x) (h2 : x ≤ 255) : u8 x = x := by unfold u8 IntKind.wrap; simp [IntKind.bits, IntKind.signed]; omega
theorem capOk_of {n : Nat} (h : n ≤ 274877906944) : capOk n = true := decide_eq_true h
theorem beqB (a b : ByteArray) : (a == b) = decide (a = b) := by
  rcases a with ⟨a⟩
  rcases b with ⟨b⟩
  have h1 : ((⟨a⟩ : ByteArray) == ⟨b⟩) = (a == b) := rfl
  rw [h1]
  by_cases h : a = b
  · subst h; simp
  · have h2 : ¬ ((⟨a⟩ : ByteArray) = ⟨b⟩) := fun e => h (by cases e; rfl)
    rw [decide_eq_false h2]
    simpa using h
theorem beq_rfl (s : ByteArray) : (s == s) = true := by rw [beqB]; simp
theorem size_app (a b : ByteArray) : (a ++ b).size = a.size + b.size := ByteArray.size_append
def byB (l : List Int) : Prop := ∀ b ∈ l, 0 ≤ b ∧ b ≤ 255
theorem tf (b : Bool) : b = true ∨ b = false := by cases b <;> simp
/-- Where the first one is, told behind p. -/
def found {α : Type} (q : α → Bool) (t p : List α) : Lo Unit Int := match t.findIdx? q with | some i => .ret ((p.length + i : Nat) : Int) | none => .out ()
theorem find_loop {α : Type} {L : List α → List α → Option (Lo Unit Int)} (q : α → Bool) (h0 : ∀ p, L [] p = some (.out ()))
    (h1 : ∀ x t p, L (x :: t) p = if q x = true then some (.ret (p.length : Int)) else L t (p ++ [x])) : ∀ (t p : List α), L t p = some (found q t p)
  | [], p => by rw [h0]; rfl
  | x :: t, p => by
    rw [h1, find_loop q h0 h1 t (p ++ [x])]
    unfold found
    rw [List.findIdx?_cons]
    cases q x with
    | true => simp
    | false =>
      simp only [Bool.false_eq_true, if_false]
      cases t.findIdx? q with
      | none => rfl
      | some i => simp only [Option.map_some, List.length_append, List.length_cons, List.length_nil]; congr 3; omega
/-- The index of the first one, or -1. -/
def idxOf {α : Type} (q : α → Bool) (l : List α) : Int := match l.findIdx? q with | some i => (i : Int) | none => -1
theorem found_nil {α : Type} (q : α → Bool) (l : List α) : (Lo.elim (found q l []) (fun _ => some (-1)) (fun i => some i) : Option Int) = some (idxOf q l) := by
  unfold found idxOf
  cases l.findIdx? q with
  | none => rfl
  | some i => simp [Lo.elim]
theorem within_val (n lo hi : Int) : impl_within n lo hi = some (decide (lo ≤ n) && decide (n ≤ hi)) := by
  unfold impl_within
  by_cases h : lo ≤ n <;> simp [h]
theorem beq_empty (s : ByteArray) : (s == bs []) = decide (s.size = 0) := by
  rw [beqB]
  by_cases h : s.size = 0
  · have : s = bs [] := by
      rcases s with ⟨d⟩
      have hd : d.size = 0 := h
      have : d = #[] := Array.eq_empty_of_size_eq_zero hd
      subst this; rfl
    rw [decide_eq_true h, decide_eq_true this]
  · rw [decide_eq_false h, decide_eq_false (fun e => h (by rw [e]; rfl))]
theorem bstr_fold : ∀ (ns : List Int) (r : ByteArray), (ns.foldl (fun r n => r.push (UInt8.ofNat n.toNat)) r).data.toList = r.data.toList ++ ns.map (fun n => UInt8.ofNat n.toNat)
  | [], r => by simp
  | n :: ns, r => by
    rw [List.foldl_cons, bstr_fold ns]
    simp [ByteArray.push]
theorem bstr_list (ns : List Int) : (bstr ns).data.toList = ns.map (fun n => UInt8.ofNat n.toNat) := by
  unfold bstr
  rw [bstr_fold]; rfl
def cur (c : l01Cur) : Prop := 0 ≤ c.i ∧ c.i ≤ c.b.length ∧ c.b.length ≤ 1048576
theorem band255 (x : Int) : 0 ≤ band .i64 x 255 ∧ band .i64 x 255 ≤ 255 := by
  unfold band
  rw [BitVec.toNat_and]
  have h1 : (BitVec.ofInt IntKind.i64.bits 255).toNat = 255 := by decide
  rw [h1]
  have h2 : (BitVec.ofInt IntKind.i64.bits x).toNat &&& 255 ≤ 255 := Nat.and_le_right
  generalize (BitVec.ofInt IntKind.i64.bits x).toNat &&& 255 = y at h2
  have : IntKind.i64.wrap (y : Int) = y := i64_of (by omega) (by omega)
  rw [this]; omega
theorem Byte_tot (c : l01Cur) (h : cur c) : ∃ r c', spec_l01Byte c = some (r, c') ∧ cur c' ∧ 0 ≤ r ∧ r ≤ 255 := by
  obtain ⟨h1, h2, h3⟩ := h
  unfold spec_l01Byte
  by_cases hi : c.i < (c.b.length : Int)
  · have hx : c.b[c.i.toNat]? = some (c.b[c.i.toNat]'(by omega)) := List.getElem?_eq_getElem _
    simp only [hi, h1, decide_true, if_true, hx, Option.bind_some]
    have e : i64 (c.i + 1) = c.i + 1 := i64_of (by omega) (by omega)
    exact ⟨_, _, rfl, ⟨by show 0 ≤ i64 (c.i + 1); omega, by show i64 (c.i + 1) ≤ (c.b.length : Int); omega, h3⟩, band255 _⟩
  · simp only [hi, decide_false, Bool.false_eq_true, if_false]
    exact ⟨_, _, rfl, ⟨h1, h2, h3⟩, band255 _⟩
theorem Below_tot (c : l01Cur) (n : Int) (h : cur c) : ∃ r c', spec_l01Below c n = some (r, c') ∧ cur c' ∧ 0 ≤ r ∧ (0 < n → r < n) := by
  unfold spec_l01Below
  by_cases h0 : n ≤ 0
  · simp only [h0, decide_true, if_true]
    exact ⟨0, c, rfl, h, by omega, by omega⟩
  · have hn : n ≠ 0 := by omega
    have fin : ∀ x : Int, 0 ≤ x → 0 ≤ Int.tmod x n ∧ (0 < n → Int.tmod x n < n) := fun x hx => by
      rw [Int.tmod_eq_emod_of_nonneg hx]
      exact ⟨Int.emod_nonneg _ hn, fun hp => Int.emod_lt_of_pos _ hp⟩
    obtain ⟨r1, c1, e1, k1, a1, b1⟩ := Byte_tot c h
    by_cases h2 : n ≤ 256
    · simp only [h0, h2, hn, e1, decide_true, decide_false, Bool.false_eq_true, if_false, if_true, Option.bind_some, ne_eq, not_false_eq_true]
      exact ⟨_, _, rfl, k1, fin r1 a1⟩
    · obtain ⟨r2, c2, e2, k2, a2, b2⟩ := Byte_tot c1 k1
      obtain ⟨r3, c3, e3, k3, a3, b3⟩ := Byte_tot c2 k2
      obtain ⟨r4, c4, e4, k4, a4, b4⟩ := Byte_tot c3 k3
      simp only [h0, h2, hn, e1, e2, e3, e4, decide_true, decide_false, Bool.false_eq_true, if_false, if_true, Option.bind_some, ne_eq, not_false_eq_true]
      have q1 : i64 (r1 * 16777216) = r1 * 16777216 := i64_of (by omega) (by omega)
      have q2 : i64 (r2 * 65536) = r2 * 65536 := i64_of (by omega) (by omega)
      have q3 : i64 (r3 * 256) = r3 * 256 := i64_of (by omega) (by omega)
      rw [q1, q2, q3, i64_of (show -9223372036854775808 ≤ r1 * 16777216 + r2 * 65536 by omega) (by omega), i64_of (show -9223372036854775808 ≤ r1 * 16777216 + r2 * 65536 + r3 * 256 by omega) (by omega), i64_of (show -9223372036854775808 ≤ r1 * 16777216 + r2 * 65536 + r3 * 256 + r4 by omega) (by omega)]
      exact ⟨_, _, rfl, k4, fin _ (by omega)⟩
theorem Once_tot (c : l01Cur) (n : Int) (h : cur c) : ∃ r c', spec_l01Once c n = some (r, c') ∧ cur c' := by
  obtain ⟨r, c', e, k, _⟩ := Below_tot c n h
  unfold spec_l01Once
  rw [e]
  exact ⟨_, _, rfl, k⟩
theorem Str_tot (c : l01Cur) (l : List ByteArray) (h : cur c) (hl : 0 < l.length) (hm : l.length ≤ 1000000) : ∃ r c', spec_l01Str c l = some (r, c', l) ∧ cur c' ∧ r ∈ l := by
  obtain ⟨r, c', e, k, a, b⟩ := Below_tot c l.length h
  have b := b (by omega)
  unfold spec_l01Str
  have hx : l[r.toNat]? = some (l[r.toNat]'(by omega)) := List.getElem?_eq_getElem _
  simp only [e, a, hx, decide_true, if_true, Option.bind_some]
  exact ⟨_, _, rfl, k, List.getElem_mem _⟩
theorem New_l0_tot (code : List Int) : ∀ (t p : List Int) (v : Int), ∃ y, spec_l01New_l0 code t p v = some y
  | [], p, v => ⟨v, rfl⟩
  | x :: t, p, v => by
    unfold spec_l01New_l0
    split
    · exact New_l0_tot code t _ _
    · exact ⟨_, rfl⟩
theorem New_tot (code : List Int) (h : code.length ≤ 1048576) : ∃ c, spec_l01New code = some c ∧ cur c := by
  obtain ⟨y, e⟩ := New_l0_tot code code [] (i64 (1539 + (code.length : Int)))
  unfold spec_l01New
  rw [capOk_of (by omega), e]
  exact ⟨_, rfl, by show (0 : Int) ≤ 0; omega, by show (0 : Int) ≤ _; omega, h⟩
theorem cur_h {c : l01Cur} (h : cur c) (x : Int) : cur (l01Cur.mk c.b c.i x) := h
theorem MakeNum_tot (code : List Int) (n : Int) (h : code.length ≤ 1048576) : ∃ y, spec_MakeNum code n = some y ∧ 0 ≤ y ∧ (0 < n → y < n) := by
  obtain ⟨c, e, k⟩ := New_tot code h
  obtain ⟨r, c', e2, k2, a, b⟩ := Below_tot _ n (cur_h k (i64 (c.h + 777)))
  unfold spec_MakeNum
  rw [e, Option.bind_some, e2]
  exact ⟨r, rfl, a, b⟩
theorem ba_ext {a b : ByteArray} (h : a.data.toList = b.data.toList) : a = b := by
  rcases a with ⟨⟨a⟩⟩
  rcases b with ⟨⟨b⟩⟩
  have h : a = b := h
  rw [h]
theorem ba_app (a b : ByteArray) : (a ++ b).data.toList = a.data.toList ++ b.data.toList := by
  rw [ByteArray.data_append, Array.toList_append]
theorem ba_size (a : ByteArray) : a.size = a.data.toList.length := by
  rcases a with ⟨⟨a⟩⟩
  rfl
theorem decDigits_len : ∀ (m u : Nat), u < 10 ^ (m + 1) → (Lib.decDigits u).length ≤ m + 1
  | m, u, h => by
    rw [Lib.decDigits]
    split
    · simp
    · rename_i h10
      cases m with
      | zero => omega
      | succ m =>
        have := decDigits_len m (u / 10) (by rw [Nat.pow_succ] at h; omega)
        simp; omega
def hexS : ByteArray := bs [48, 49, 50, 51, 52, 53, 54, 55, 56, 57, 97, 98, 99, 100, 101, 102]
theorem byte_shr (x : Int) (h : 0 ≤ x ∧ x ≤ 255) : bshr .u8 x 4 = x / 16 := by
  have key : ∀ n : Fin 256, bshr .u8 ((n.val : Nat) : Int) 4 = ((n.val : Nat) : Int) / 16 := by decide +kernel
  have := key ⟨x.toNat, by omega⟩
  have e : ((x.toNat : Nat) : Int) = x := by omega
  simpa [e] using this
theorem byte_and (x : Int) (h : 0 ≤ x ∧ x ≤ 255) : band .u8 x 15 = x % 16 := by
  have key : ∀ n : Fin 256, band .u8 ((n.val : Nat) : Int) 15 = ((n.val : Nat) : Int) % 16 := by decide +kernel
  have := key ⟨x.toNat, by omega⟩
  have e : ((x.toNat : Nat) : Int) = x := by omega
  simpa [e] using this
theorem bstr_size (a : List Int) : (bstr a).size = a.length := by rw [ba_size, bstr_list, List.length_map]
theorem sbytes_len (s : ByteArray) : (sbytes s).length = s.size := by unfold sbytes; rw [List.length_map, ← ba_size]
theorem sAt_get (s : ByteArray) {i : Nat} (h : i < s.size) : (sbytes s)[i]? = some (sAt s (i : Int)) := by
  rcases s with ⟨⟨l⟩⟩
  have h : i < l.length := h
  simp [sbytes, sAt, h]
theorem sbytes_by (s : ByteArray) : byB (sbytes s) := fun b hb => by
  unfold sbytes at hb
  rw [List.mem_map] at hb
  obtain ⟨x, _, rfl⟩ := hb
  have := x.toNat_lt
  omega
theorem sbytes_bstr {l : List Int} (h : byB l) : sbytes (bstr l) = l := by
  unfold sbytes
  rw [bstr_list, List.map_map]
  conv => rhs; rw [← List.map_id l]
  apply List.map_congr_left
  intro x hx
  have := h x hx
  simp only [Function.comp, id]
  rw [UInt8.toNat_ofNat']
  omega
theorem bstr_sbytes (s : ByteArray) : bstr (sbytes s) = s := by
  apply ba_ext
  rw [bstr_list]
  unfold sbytes
  rw [List.map_map]
  conv => rhs; rw [← List.map_id s.data.toList]
  apply List.map_congr_left
  intro x hx
  simp
theorem sbytes_app (a b : ByteArray) : sbytes (a ++ b) = sbytes a ++ sbytes b := by unfold sbytes; rw [ba_app, List.map_append]
def digI (x : Int) : Bool := decide (48 ≤ x) && decide (x ≤ 57)
def prtI (x : Int) : Bool := decide (32 ≤ x) && decide (x ≤ 126)
def digB (s : ByteArray) : Bool := decide (0 < s.size) && (sbytes s).all digI
def prtB (s : ByteArray) : Bool := (sbytes s).all prtI
/-- A loop that looks at each byte. -/
theorem scan_loop {L : Nat → Int → Option (Lo Unit Unit)} (s : ByteArray) (hs : s.size ≤ 4000000) (lo hi : Int) (q : Int → Bool) (hq : ∀ x, q x = (decide (lo ≤ x) && decide (x ≤ hi)))
    (h1 : ∀ n v, L (n + 1) v = if (decide (v < (s.size : Int))) = true then if (decide (0 ≤ v)) = true then if (decide ((v : Int) < (s.size : Int))) = true then if (decide ((sAt s v) < lo)) = true then some (.ret ()) else if (decide (hi < (sAt s v))) = true then some (.ret ()) else L n (i64 (v + 1)) else none else none else some (.out ())) :
    ∀ (n v : Nat), v ≤ s.size → s.size - v < n → L n (v : Int) = some (if ((sbytes s).drop v).all q = true then .out () else .ret ())
  | 0, v, h, hn => by omega
  | n + 1, v, h, hn => by
    rw [h1]
    by_cases hv : v < s.size
    · have hl : v < (sbytes s).length := by rw [sbytes_len]; exact hv
      have hd : (sbytes s).drop v = sAt s v :: (sbytes s).drop (v + 1) := by
        have := sAt_get s hv
        rw [List.getElem?_eq_getElem hl] at this
        rw [List.drop_eq_getElem_cons hl, Option.some.inj this]
      have hi' : i64 ((v : Int) + 1) = ((v + 1 : Nat) : Int) := by rw [i64_of (by omega) (by omega)]; omega
      have ih := scan_loop s hs lo hi q hq h1 n (v + 1) (by omega) (by omega)
      rw [hd, List.all_cons, hq, hi', ih]
      simp only [show (v : Int) < (s.size : Int) by omega, show (0 : Int) ≤ (v : Int) by omega, decide_true, if_true]
      by_cases a : sAt s v < lo
      · simp [a, show ¬ lo ≤ sAt s v by omega]
      · by_cases b : hi < sAt s v
        · simp [a, b, show ¬ sAt s v ≤ hi by omega]
        · simp [a, b, show lo ≤ sAt s v by omega, show sAt s v ≤ hi by omega]
    · have : (sbytes s).drop v = [] := List.drop_eq_nil_of_le (by rw [sbytes_len]; omega)
      rw [this]
      simp [show ¬ (v : Int) < (s.size : Int) by omega]
theorem Digits_i (s : ByteArray) (hs : s.size ≤ 4000000) : impl_Digits s = some (digB s) := by
  have e2 : impl_Digits_l0 s FUEL 0 = some (if (sbytes s).all digI = true then .out () else .ret ()) := scan_loop (L := impl_Digits_l0 s) s hs 48 57 digI (fun _ => rfl) (fun _ _ => rfl) FUEL 0 (by omega) (by unfold FUEL; omega)
  unfold impl_Digits digB
  rw [e2, beq_empty]
  cases (sbytes s).all digI with
  | false => simp [Lo.elim]
  | true =>
    by_cases h : s.size = 0
    · simp [Lo.elim, h]
    · simp [Lo.elim, h, show 0 < s.size by omega]
theorem Printable_i (s : ByteArray) (hs : s.size ≤ 4000000) : impl_Printable s = some (prtB s) := by
  have e2 : impl_Printable_l0 s FUEL 0 = some (if (sbytes s).all prtI = true then .out () else .ret ()) := scan_loop (L := impl_Printable_l0 s) s hs 32 126 prtI (fun _ => rfl) (fun _ _ => rfl) FUEL 0 (by omega) (by unfold FUEL; omega)
  unfold impl_Printable prtB
  rw [e2]
  cases (sbytes s).all prtI <;> simp [Lo.elim]
def frow (no : Int) : Int × Int :=
  if (no == 2) = true then (3, 19) else if (no == 3) = true then (1, 6) else if (no == 4) = true then (1, 12) else if (no == 7) = true then (1, 10) else if (no == 11) = true then (1, 6) else if (no == 14) = true then (1, 4) else if (no == 37) = true then (2, 12) else if (no == 38) = true then (2, 6) else if (no == 39) = true then (2, 2) else if (no == 41) = true then (2, 8) else if (no == 48) = true then (5, 60) else if (no == 49) = true then (1, 3) else if (no == 54) = true then (5, 60) else if (no == 95) = true then (2, 12) else if (no == 102) = true then (4, 20) else if (no == 103) = true then (4, 20) else (0, 0)
def fkind (no : Int) : Int := (frow no).1
def fsize (no : Int) : Int := (frow no).2
def noCases : List Int := [2, 3, 4, 7, 11, 14, 37, 38, 39, 41, 48, 49, 54, 95, 102, 103]
theorem frow_none {no : Int} (h : no ∉ noCases) : frow no = (0, 0) := by
  unfold noCases at h
  simp only [List.mem_cons, List.not_mem_nil, or_false, not_or] at h
  obtain ⟨h2, h3, h4, h7, h11, h14, h37, h38, h39, h41, h48, h49, h54, h95, h102, h103⟩ := h
  have b2 : (no == 2) = false := beq_false_of_ne h2
  have b3 : (no == 3) = false := beq_false_of_ne h3
  have b4 : (no == 4) = false := beq_false_of_ne h4
  have b7 : (no == 7) = false := beq_false_of_ne h7
  have b11 : (no == 11) = false := beq_false_of_ne h11
  have b14 : (no == 14) = false := beq_false_of_ne h14
  have b37 : (no == 37) = false := beq_false_of_ne h37
  have b38 : (no == 38) = false := beq_false_of_ne h38
  have b39 : (no == 39) = false := beq_false_of_ne h39
  have b41 : (no == 41) = false := beq_false_of_ne h41
  have b48 : (no == 48) = false := beq_false_of_ne h48
  have b49 : (no == 49) = false := beq_false_of_ne h49
  have b54 : (no == 54) = false := beq_false_of_ne h54
  have b95 : (no == 95) = false := beq_false_of_ne h95
  have b102 : (no == 102) = false := beq_false_of_ne h102
  have b103 : (no == 103) = false := beq_false_of_ne h103
  unfold frow
  simp only [b2, b3, b4, b7, b11, b14, b37, b38, b39, b41, b48, b49, b54, b95, b102, b103, Bool.false_eq_true, if_false]
theorem Row_k (no : Int) : spec_FieldKind no = some (fkind no) := by
  by_cases h : no ∈ noCases
  · have key : ∀ no ∈ noCases, spec_FieldKind no = some (fkind no) := by decide +kernel
    exact key no h
  · have hz := frow_none h
    unfold fkind
    rw [hz]
    unfold noCases at h
    simp only [List.mem_cons, List.not_mem_nil, or_false, not_or] at h
    obtain ⟨h2, h3, h4, h7, h11, h14, h37, h38, h39, h41, h48, h49, h54, h95, h102, h103⟩ := h
    have b2 : (no == 2) = false := beq_false_of_ne h2
    have b3 : (no == 3) = false := beq_false_of_ne h3
    have b4 : (no == 4) = false := beq_false_of_ne h4
    have b7 : (no == 7) = false := beq_false_of_ne h7
    have b11 : (no == 11) = false := beq_false_of_ne h11
    have b14 : (no == 14) = false := beq_false_of_ne h14
    have b37 : (no == 37) = false := beq_false_of_ne h37
    have b38 : (no == 38) = false := beq_false_of_ne h38
    have b39 : (no == 39) = false := beq_false_of_ne h39
    have b41 : (no == 41) = false := beq_false_of_ne h41
    have b48 : (no == 48) = false := beq_false_of_ne h48
    have b49 : (no == 49) = false := beq_false_of_ne h49
    have b54 : (no == 54) = false := beq_false_of_ne h54
    have b95 : (no == 95) = false := beq_false_of_ne h95
    have b102 : (no == 102) = false := beq_false_of_ne h102
    have b103 : (no == 103) = false := beq_false_of_ne h103
    unfold spec_FieldKind
    simp only [b2, b3, b4, b7, b11, b14, b37, b38, b39, b41, b48, b49, b54, b95, b102, b103, Bool.false_eq_true, if_false]
theorem Row_s (no : Int) : spec_FieldSize no = some (fsize no) := by
  by_cases h : no ∈ noCases
  · have key : ∀ no ∈ noCases, spec_FieldSize no = some (fsize no) := by decide +kernel
    exact key no h
  · have hz := frow_none h
    unfold fsize
    rw [hz]
    unfold noCases at h
    simp only [List.mem_cons, List.not_mem_nil, or_false, not_or] at h
    obtain ⟨h2, h3, h4, h7, h11, h14, h37, h38, h39, h41, h48, h49, h54, h95, h102, h103⟩ := h
    have b2 : (no == 2) = false := beq_false_of_ne h2
    have b3 : (no == 3) = false := beq_false_of_ne h3
    have b4 : (no == 4) = false := beq_false_of_ne h4
    have b7 : (no == 7) = false := beq_false_of_ne h7
    have b11 : (no == 11) = false := beq_false_of_ne h11
    have b14 : (no == 14) = false := beq_false_of_ne h14
    have b37 : (no == 37) = false := beq_false_of_ne h37
    have b38 : (no == 38) = false := beq_false_of_ne h38
    have b39 : (no == 39) = false := beq_false_of_ne h39
    have b41 : (no == 41) = false := beq_false_of_ne h41
    have b48 : (no == 48) = false := beq_false_of_ne h48
    have b49 : (no == 49) = false := beq_false_of_ne h49
    have b54 : (no == 54) = false := beq_false_of_ne h54
    have b95 : (no == 95) = false := beq_false_of_ne h95
    have b102 : (no == 102) = false := beq_false_of_ne h102
    have b103 : (no == 103) = false := beq_false_of_ne h103
    unfold spec_FieldSize
    simp only [b2, b3, b4, b7, b11, b14, b37, b38, b39, b41, b48, b49, b54, b95, b102, b103, Bool.false_eq_true, if_false]
theorem Row_b (no : Int) : fkind no = 0 ∧ fsize no = 0 ∨ 1 ≤ fkind no ∧ fkind no ≤ 5 ∧ 2 ≤ fsize no ∧ fsize no ≤ 60 := by
  by_cases h : no ∈ noCases
  · have key : ∀ no ∈ noCases, fkind no = 0 ∧ fsize no = 0 ∨ 1 ≤ fkind no ∧ fkind no ≤ 5 ∧ 2 ≤ fsize no ∧ fsize no ≤ 60 := by decide +kernel
    exact key no h
  · have hz := frow_none h
    exact .inl ⟨by unfold fkind; rw [hz], by unfold fsize; rw [hz]⟩
def rowW (no : Int) : Bool := match impl_rowOf no with
  | some r => (r.kind == fkind no) && (r.size == fsize no)
  | none => false
theorem Row_i (no : Int) : ∃ r, impl_rowOf no = some r ∧ r.kind = fkind no ∧ r.size = fsize no := by
  by_cases h : no ∈ noCases
  · have key : ∀ no ∈ noCases, rowW no = true := by decide +kernel
    have h7 := key no h
    unfold rowW at h7
    cases hr : impl_rowOf no with
    | none => rw [hr] at h7; cases h7
    | some r =>
      rw [hr] at h7
      simp only [Bool.and_eq_true, beq_iff_eq] at h7
      exact ⟨r, rfl, h7.1, h7.2⟩
  · have hz := frow_none h
    refine ⟨⟨0, 0, 0⟩, ?_, by unfold fkind; rw [hz], by unfold fsize; rw [hz]⟩
    unfold noCases at h
    simp only [List.mem_cons, List.not_mem_nil, or_false, not_or] at h
    obtain ⟨h2, h3, h4, h7, h11, h14, h37, h38, h39, h41, h48, h49, h54, h95, h102, h103⟩ := h
    have c2 : ((2 : Int) == no) = false := beq_false_of_ne (Ne.symm h2)
    have c3 : ((3 : Int) == no) = false := beq_false_of_ne (Ne.symm h3)
    have c4 : ((4 : Int) == no) = false := beq_false_of_ne (Ne.symm h4)
    have c7 : ((7 : Int) == no) = false := beq_false_of_ne (Ne.symm h7)
    have c11 : ((11 : Int) == no) = false := beq_false_of_ne (Ne.symm h11)
    have c14 : ((14 : Int) == no) = false := beq_false_of_ne (Ne.symm h14)
    have c37 : ((37 : Int) == no) = false := beq_false_of_ne (Ne.symm h37)
    have c38 : ((38 : Int) == no) = false := beq_false_of_ne (Ne.symm h38)
    have c39 : ((39 : Int) == no) = false := beq_false_of_ne (Ne.symm h39)
    have c41 : ((41 : Int) == no) = false := beq_false_of_ne (Ne.symm h41)
    have c48 : ((48 : Int) == no) = false := beq_false_of_ne (Ne.symm h48)
    have c49 : ((49 : Int) == no) = false := beq_false_of_ne (Ne.symm h49)
    have c54 : ((54 : Int) == no) = false := beq_false_of_ne (Ne.symm h54)
    have c95 : ((95 : Int) == no) = false := beq_false_of_ne (Ne.symm h95)
    have c102 : ((102 : Int) == no) = false := beq_false_of_ne (Ne.symm h102)
    have c103 : ((103 : Int) == no) = false := beq_false_of_ne (Ne.symm h103)
    unfold impl_rowOf impl_fieldRows
    simp only [Option.bind_some, List.length_cons, List.length_nil, impl_rowOf_l0, c2, c3, c4, c7, c11, c14, c37, c38, c39, c41, c48, c49, c54, c95, c102, c103, Bool.false_eq_true, if_false, Lo.elim]
    rfl
def fok (no : Int) (s : ByteArray) : Bool :=
  if (fkind no == 1) = true then digB s && ((s.size : Int) == fsize no) else if (fkind no == 2) = true then prtB s && ((s.size : Int) == fsize no) else
  if (fkind no == 3) = true then digB s && decide ((s.size : Int) ≤ fsize no) else if ((fkind no == 4) || (fkind no == 5)) = true then prtB s && (decide (1 ≤ (s.size : Int)) && decide ((s.size : Int) ≤ fsize no)) else false
theorem digB_pos {s : ByteArray} (h : digB s = true) : 1 ≤ s.size := by
  unfold digB at h
  simp only [Bool.and_eq_true, decide_eq_true_eq] at h
  omega
theorem FieldOk_i (no : Int) (s : ByteArray) (hs : s.size ≤ 4000000) : impl_FieldOk no s = some (fok no s) := by
  have hd : digB s = true → decide (1 ≤ (s.size : Int)) = true := fun h => decide_eq_true (by have := digB_pos h; omega)
  obtain ⟨r, r1, rk, rs⟩ := Row_i no
  unfold impl_FieldOk fok
  rw [r1, Option.bind_some]
  unfold impl_FieldOk_c0
  rw [rk, rs]
  unfold impl_FieldOk_c1
  rw [rk]
  simp only [Digits_i s hs, Printable_i s hs, within_val, Option.bind_some]
  generalize fkind no = k
  generalize fsize no = n
  rcases tf (k == 1) with a1 | a1
  · rcases tf (digB s) with x | x <;> simp [a1, x, Lo.elim]
  · rcases tf (k == 2) with a2 | a2
    · rcases tf (prtB s) with x | x <;> simp [a1, a2, x, Lo.elim]
    · rcases tf (k == 3) with a3 | a3
      · rcases tf (digB s) with x | x
        · have := hd x
          rw [decide_eq_true_eq] at this
          simp [a1, a2, a3, x, this, Lo.elim]
        · simp [a1, a2, a3, x, Lo.elim]
      · rcases tf (k == 4) with a4 | a4
        · rcases tf (prtB s) with x | x <;> simp [a1, a2, a3, a4, x, Lo.elim]
        · rcases tf (k == 5) with a5 | a5
          · rcases tf (prtB s) with x | x <;> simp [a1, a2, a3, a4, a5, x, Lo.elim]
          · simp [a1, a2, a3, a4, a5, Lo.elim]
def msgL : Option Int → List Field → Bool
  | _, [] => true
  | p, f :: t => fok f.No f.Text && (match p with | none => true | some k => decide (k < f.No)) && msgL (some f.No) t
def msgB (m : Msg) : Bool := digB m.Mti && ((m.Mti.size : Int) == 4) && msgL none m.List
/-- What comes ahead of place v. -/
def prevNo (l : List Field) : Nat → Option Int
  | 0 => none
  | v + 1 => l[v]?.map (·.No)
theorem MsgOk_l0_i (m : Msg) (hl : m.List.length ≤ 4000000) (hm : ∀ f ∈ m.List, f.Text.size ≤ 4000000) : ∀ (n v : Nat), v ≤ m.List.length → m.List.length - v < n →
    impl_MsgOk_l0 m n (v : Int) = some (if msgL (prevNo m.List v) (m.List.drop v) = true then .out () else .ret ())
  | 0, v, h, hn => by omega
  | n + 1, v, h, hn => by
    unfold impl_MsgOk_l0
    unfold impl_MsgOk_c2
    by_cases hv : v < m.List.length
    · have f1 := FieldOk_i m.List[v].No m.List[v].Text (hm _ (List.getElem_mem hv))
      have hi' : i64 ((v : Int) + 1) = ((v + 1 : Nat) : Int) := by rw [i64_of (by omega) (by omega)]; omega
      have i1 := MsgOk_l0_i m hl hm n (v + 1) (by omega) (by omega)
      have hp : prevNo m.List (v + 1) = some m.List[v].No := by simp [prevNo, hv]
      rw [hp] at i1
      have hg : m.List[((v : Int)).toNat]? = some m.List[v] := by rw [Int.toNat_natCast]; exact List.getElem?_eq_getElem hv
      unfold impl_MsgOk_c3
      rw [List.drop_eq_getElem_cons hv]
      simp only [show (v : Int) < (m.List.length : Int) by omega, show (0 : Int) ≤ (v : Int) by omega, decide_true, if_true, Option.bind_some, Lo.elim, hg, f1, hi', i1, msgL]
      rcases tf (fok m.List[v].No m.List[v].Text) with x | x
      · cases v with
        | zero => simp [x, prevNo]
        | succ u =>
          have hu : u < m.List.length := by omega
          have h1 : i64 (((u + 1 : Nat) : Int) - 1) = (u : Int) := by rw [i64_of (by omega) (by omega)]; omega
          have hg1 : m.List[((u : Int)).toNat]? = some m.List[u] := by rw [Int.toNat_natCast]; exact List.getElem?_eq_getElem hu
          have hp1 : prevNo m.List (u + 1) = some m.List[u].No := by simp [prevNo, hu]
          simp only [x, if_true, show (0 : Int) < ((u + 1 : Nat) : Int) by omega, decide_true, h1, show (0 : Int) ≤ (u : Int) by omega, hg1, Option.bind_some, hp1]
          by_cases q : m.List[u + 1].No ≤ m.List[u].No
          · simp [q, show ¬ m.List[u].No < m.List[u + 1].No by omega]
          · simp [q, show m.List[u].No < m.List[u + 1].No by omega]
      · simp [x]
    · have : m.List.drop v = [] := List.drop_eq_nil_of_le (by omega)
      rw [this]
      simp [show ¬ (v : Int) < (m.List.length : Int) by omega, Lo.elim, msgL]
theorem MsgOk_i (m : Msg) (h0 : m.Mti.size ≤ 4000000) (hl : m.List.length ≤ 4000000) (hm : ∀ f ∈ m.List, f.Text.size ≤ 4000000) : impl_MsgOk m = some (msgB m) := by
  have e1 : impl_MsgOk_l0 m FUEL 0 = some (if msgL none m.List = true then .out () else .ret ()) := MsgOk_l0_i m hl hm FUEL 0 (by omega) (by unfold FUEL; omega)
  unfold impl_MsgOk msgB impl_isWide
  rw [Digits_i m.Mti h0, e1]
  simp only [Option.bind_some]
  rcases tf (digB m.Mti) with x | x <;> rcases tf ((m.Mti.size : Int) == 4) with y | y <;> rcases tf (msgL none m.List) with z | z <;> simp [x, y, z, Lo.elim, bne]
def nib (l : List Int) : List Int := l.flatMap fun x => [48 + x / 16, 48 + x % 16]
theorem nib_cons (x : Int) (t : List Int) : nib (x :: t) = [48 + x / 16, 48 + x % 16] ++ nib t := rfl
theorem nib_len (l : List Int) : (nib l).length = 2 * l.length := by
  induction l with
  | nil => rfl
  | cons x t ih => rw [nib_cons, List.length_append, ih]; simp; omega
theorem nib_by {l : List Int} (h : byB l) : byB (nib l) := by
  induction l with
  | nil => intro b hb; cases hb
  | cons x t ih =>
    intro b hb
    have hx := h x (by simp)
    rw [nib_cons, List.mem_append] at hb
    rcases hb with hb | hb
    · simp at hb
      rcases hb with rfl | rfl <;> omega
    · exact ih (fun y hy => h y (by simp [hy])) b hb
theorem byB_take {l : List Int} (h : byB l) (n : Nat) : byB (l.take n) := fun x hx => h x (List.mem_of_mem_take hx)
theorem byB_drop {l : List Int} (h : byB l) (n : Nat) : byB (l.drop n) := fun x hx => h x (List.mem_of_mem_drop hx)
/-- A piece of a row. -/
def sect (b : List Int) (a n : Int) : Option (List Int) :=
  if ((decide (0 ≤ a) && decide (a ≤ (b.length : Int))) && (decide (0 ≤ n) && decide (n ≤ (b.length : Int) - a))) = true then some ((b.drop a.toNat).take n.toNat) else none
theorem sect_some {b l : List Int} {a n : Int} (h : sect b a n = some l) : 0 ≤ a ∧ 0 ≤ n ∧ a + n ≤ b.length ∧ l = (b.drop a.toNat).take n.toNat ∧ (l.length : Int) = n := by
  unfold sect at h
  split at h
  · rename_i q
    simp only [Bool.and_eq_true, decide_eq_true_eq] at q
    obtain rfl := Option.some.inj h
    refine ⟨q.1.1, q.2.1, by omega, rfl, ?_⟩
    rw [List.length_take, List.length_drop]
    omega
  · cases h
theorem take_drop_sect (b : List Int) {a n : Int} (h0 : 0 ≤ a) (h1 : 0 ≤ n) : (b.take (a + n).toNat).drop a.toNat = (b.drop a.toNat).take n.toNat := by
  rw [List.drop_take]
  congr 1
  omega
theorem piece_val (b : List Int) (a n : Int) (hb : b.length ≤ 4000000) : impl_piece b a n = some (match sect b a n with | some l => (l, true) | none => ([], false)) := by
  unfold impl_piece sect
  rw [within_val, Option.bind_some]
  by_cases h1 : 0 ≤ a
  · by_cases h2 : a ≤ (b.length : Int)
    · by_cases h3 : 0 ≤ n
      · have e1 : i64 ((b.length : Int) - a) = (b.length : Int) - a := i64_of (by omega) (by omega)
        by_cases h4 : n ≤ (b.length : Int) - a
        · have e2 : i64 (a + n) = a + n := i64_of (by omega) (by omega)
          simp only [h1, h2, h3, h4, e1, e2, show ¬ n < 0 by omega, show ¬ (b.length : Int) - a < n by omega, show a ≤ a + n by omega, show a + n ≤ (b.length : Int) by omega, decide_true, decide_false, Bool.and_self, if_true, if_false, Bool.false_eq_true, take_drop_sect b h1 h3]
        · simp [h1, h2, h3, h4, e1, show ¬ n < 0 by omega, show (b.length : Int) - a < n by omega]
      · simp [h1, h2, h3, show n < 0 by omega]
    · simp [h1, h2]
  · simp [h1]
/-- Packed digits read. -/
def bcdOk (l : List Int) (n : Int) : Bool := (nib l).all digI && !((n % 2 == 1) && !((nib l).head? == some 48))
def bcdG (b : List Int) (a n : Int) : Option (ByteArray × Int) :=
  if (decide (1 ≤ n) && decide (n ≤ 38)) = true then
    match sect b a ((n + 1) / 2) with
    | none => none
    | some l => if bcdOk l n = true then some (bstr ((nib l).drop ((nib l).length - n.toNat)), a + (n + 1) / 2) else none
  else none
def bcdR : Option (ByteArray × Int) → ByteArray × Int × Bool
  | some y => (y.1, y.2, true)
  | none => (bs [], 0, false)
theorem bcdhalf {n : Int} (h1 : 1 ≤ n) (h2 : n ≤ 38) : i64 (Int.tdiv (i64 (n + 1)) 2) = (n + 1) / 2 := by
  rw [i64_of (show -9223372036854775808 ≤ n + 1 by omega) (by omega), Int.tdiv_eq_ediv_of_nonneg (by omega), i64_of (by omega) (by omega)]
theorem impl_bcd_l0 (a n : Int) (r : List Int × Bool) (hb : byB r.1) (hl : r.1.length ≤ 4000000) : ∀ (fuel v : Nat) (w : List Int), v ≤ r.1.length → r.1.length - v < fuel → w.length + 2 * (r.1.length - v) ≤ 100000000 →
    impl_GetBcd_l0 a n r fuel (v : Int) w = some (w ++ nib (r.1.drop v))
  | 0, v, w, h, hf, hw => by omega
  | fuel + 1, v, w, h, hf, hw => by
    unfold impl_GetBcd_l0 impl_GetBcd_c2
    by_cases hv : v < r.1.length
    · have hx := hb _ (List.getElem_mem hv)
      have hg : r.1[((v : Int)).toNat]? = some r.1[v] := by rw [Int.toNat_natCast]; exact List.getElem?_eq_getElem hv
      have hi' : i64 ((v : Int) + 1) = ((v + 1 : Nat) : Int) := by rw [i64_of (by omega) (by omega)]; omega
      rw [List.drop_eq_getElem_cons hv, nib_cons]
      generalize r.1[v] = x at *
      have e7 : u8 (48 + x / 16) = 48 + x / 16 := u8_of (by omega) (by omega)
      have e8 : u8 (48 + x % 16) = 48 + x % 16 := u8_of (by omega) (by omega)
      have ih := impl_bcd_l0 a n r hb hl fuel (v + 1) (w ++ [48 + x / 16, 48 + x % 16]) (by omega) (by omega) (by simp; omega)
      simp only [show (v : Int) < (r.1.length : Int) by omega, show (0 : Int) ≤ (v : Int) by omega, decide_true, if_true, Option.bind_some, Lo.elim, hg, byte_shr x hx, byte_and x hx, e7, e8, capOk_of (show w.length + 2 ≤ 274877906944 by omega), hi', ih, List.append_assoc]
    · have : r.1.drop v = [] := List.drop_eq_nil_of_le (by omega)
      rw [this]
      simp only [show ¬ (v : Int) < (r.1.length : Int) by omega, decide_false, Bool.false_eq_true, if_false, Option.bind_some, Lo.elim]
      simp [nib]
theorem digB_bstr {l : List Int} (h : byB l) : digB (bstr l) = (decide (0 < l.length) && l.all digI) := by unfold digB; rw [bstr_size, sbytes_bstr h]
theorem prtB_bstr {l : List Int} (h : byB l) : prtB (bstr l) = l.all prtI := by unfold prtB; rw [sbytes_bstr h]
theorem impl_GetBcd_val (b : List Int) (hb : byB b) (hl : b.length ≤ 4000000) (a n : Int) : impl_GetBcd b a n = some (bcdR (bcdG b a n)) := by
  unfold impl_GetBcd impl_GetBcd_c0 bcdG
  rw [within_val, Option.bind_some]
  rcases tf (decide (1 ≤ n) && decide (n ≤ 38)) with h | h
  · have h' := h
    simp only [Bool.and_eq_true, decide_eq_true_eq] at h'
    obtain ⟨h1, h2⟩ := h'
    rw [bcdhalf h1 h2, piece_val b a _ hl]
    simp only [h, if_true, Option.bind_some, Lo.elim]
    cases hsec : sect b a ((n + 1) / 2) with
    | none =>
      have := impl_bcd_l0 a n ([], false) (fun _ hb => by cases hb) (by simp) FUEL 0 [] (by simp) (by unfold FUEL; simp) (by simp)
      have e0 : ((0 : Nat) : Int) = 0 := rfl
      rw [e0] at this
      simp only [this, Option.bind_some]
      unfold impl_GetBcd_c3
      simp [bcdR]
    | some l =>
      obtain ⟨g1, g2, g3, g4, g5⟩ := sect_some hsec
      have hby : byB l := by rw [g4]; exact byB_take (byB_drop hb _) _
      have hL := impl_bcd_l0 a n (l, true) hby (by show l.length ≤ _; omega) FUEL 0 [] (by simp) (by show l.length - 0 < _; unfold FUEL; omega) (by show 0 + 2 * (l.length - 0) ≤ _; omega)
      have e0 : ((0 : Nat) : Int) = 0 := rfl
      rw [e0, List.nil_append, List.drop_zero] at hL
      simp only [hL, Option.bind_some]
      have hn := nib_len l
      have hnb := nib_by hby
      have d2 := Digits_i (bstr (nib l)) (by rw [bstr_size]; omega)
      rw [digB_bstr hnb, decide_eq_true (show 0 < (nib l).length by omega), Bool.true_and] at d2
      unfold impl_GetBcd_c3 bcdOk
      have hm : Int.tmod n 2 = n % 2 := Int.tmod_eq_emod_of_nonneg (by omega)
      have e1 : i64 (((nib l).length : Int) - n) = ((nib l).length : Int) - n := i64_of (by omega) (by omega)
      have e2 : i64 (a + (l.length : Int)) = a + (n + 1) / 2 := by rw [g5, i64_of (by omega) (by omega)]
      have e3 : (((nib l).length : Int) - n).toNat = (nib l).length - n.toNat := by omega
      have e4 : ((nib l).drop ((nib l).length - n.toNat)).take ((nib l).length - ((nib l).length - n.toNat)) = (nib l).drop ((nib l).length - n.toNat) := List.take_of_length_le (by rw [List.length_drop]; omega)
      rw [hm, d2]
      simp only [if_true, Option.bind_some, e1, e2, e3, e4, show (0 : Int) ≤ ((nib l).length : Int) - n by omega, show ((nib l).length : Int) - n ≤ ((nib l).length : Int) by omega, decide_true]
      rcases tf ((nib l).all digI) with q | q
      · rw [q]
        simp only [Bool.true_and, if_true]
        rcases tf (n % 2 == 1) with hp | hp
        · cases hq : nib l with
          | nil => rw [hq] at hn; simp at hn; omega
          | cons y t =>
            rcases tf (y == 48) with hy | hy
            · have : y = 48 := by simpa using hy
              simp [q, hp, hy, this, bne, bcdR, Lo.elim]
            · have : ¬ y = 48 := by simpa using hy
              simp [q, hp, hy, this, bne, bcdR, Lo.elim]
        · simp [q, hp, bcdR, Lo.elim]
      · simp [q, bcdR, Lo.elim]
  · simp [h, bcdR, Lo.elim]
theorem bcdG_some {b : List Int} {a n : Int} {y : ByteArray × Int} (hb : byB b) (h : bcdG b a n = some y) : digB y.1 = true ∧ (y.1.size : Int) = n ∧ 1 ≤ n ∧ n ≤ 38 ∧ 0 ≤ a ∧ y.2 = a + (n + 1) / 2 ∧ y.2 ≤ b.length := by
  unfold bcdG at h
  split at h
  · rename_i hn
    simp only [Bool.and_eq_true, decide_eq_true_eq] at hn
    split at h
    · cases h
    · rename_i l hs
      split at h
      · rename_i hk
        obtain rfl := Option.some.inj h
        obtain ⟨g1, g2, g3, g4, g5⟩ := sect_some hs
        have hby : byB l := by rw [g4]; exact byB_take (byB_drop hb _) _
        have hnl := nib_len l
        unfold bcdOk at hk
        simp only [Bool.and_eq_true] at hk
        refine ⟨?_, ?_, hn.1, hn.2, g1, rfl, by show a + (n + 1) / 2 ≤ _; omega⟩
        · show digB (bstr _) = true
          rw [digB_bstr (byB_drop (nib_by hby) _), decide_eq_true (show 0 < ((nib l).drop ((nib l).length - n.toNat)).length by rw [List.length_drop]; omega), Bool.true_and, List.all_eq_true]
          exact fun x hx => List.all_eq_true.1 hk.1 x (List.mem_of_mem_drop hx)
        · show ((bstr _).size : Int) = n
          rw [bstr_size, List.length_drop]; omega
      · cases h
  · cases h
def numF (n : Int) (l : List Int) : Int := l.foldl (fun n x => n * 10 + (x - 48)) n
def numL (l : List Int) : Int := numF 0 l
theorem numF_cons (n x : Int) (t : List Int) : numF n (x :: t) = numF (n * 10 + (x - 48)) t := rfl
theorem digI_iff {x : Int} : digI x = true ↔ 48 ≤ x ∧ x ≤ 57 := by unfold digI; simp
theorem parse_digits : ∀ (l : List UInt8) (acc k : Nat), (∀ b ∈ l, digI (b.toNat : Int) = true) → acc < 10 ^ k → k + l.length ≤ 18 → ∃ u, Lib.parseUint10 acc l = .ok u ∧ (u : Int) = numF (acc : Int) (l.map fun b => (b.toNat : Int)) ∧ u < 10 ^ (k + l.length)
  | [], acc, k, _, h1, _ => ⟨acc, rfl, rfl, h1⟩
  | c :: r, acc, k, hd, h1, h2 => by
    have hx := digI_iff.1 (hd c (by simp))
    simp only [List.length_cons] at h2
    have hk : (10 : Nat) ^ k ≤ 10 ^ 17 := Nat.pow_le_pow_right (by decide) (by omega)
    have hk2 : (10 : Nat) ^ (k + 1) = 10 ^ k * 10 := Nat.pow_succ _ _
    obtain ⟨u, e1, e2, e3⟩ := parse_digits r (acc * 10 + (c.toNat - 48)) (k + 1) (fun b hb => hd b (by simp [hb])) (by omega) (by omega)
    refine ⟨u, ?_, ?_, by rw [List.length_cons, show k + (r.length + 1) = k + 1 + r.length by omega]; exact e3⟩
    · rw [Lib.parseUint10, if_pos (by omega), if_neg (by omega), if_neg (by omega), e1]
    · rw [List.map_cons, numF_cons, e2]
      congr 1
      omega
theorem digB_mem {s : ByteArray} (h : digB s = true) : 1 ≤ s.size ∧ ∀ x ∈ sbytes s, digI x = true := by
  unfold digB at h
  simp only [Bool.and_eq_true, decide_eq_true_eq, List.all_eq_true] at h
  exact ⟨by omega, h.2⟩
theorem atoi_digits (s : ByteArray) (h : digB s = true) (hs : s.size ≤ 18) : Lib.atoiAll s.data.toList = .ok (numL (sbytes s)) := by
  obtain ⟨h1, h2⟩ := digB_mem h
  have hd : ∀ b ∈ s.data.toList, digI (b.toNat : Int) = true := fun b hb => h2 _ (by unfold sbytes; exact List.mem_map_of_mem hb)
  have hl : s.data.toList.length = s.size := (ba_size s).symm
  obtain ⟨u, e1, e2, e3⟩ := parse_digits s.data.toList 0 0 hd (by decide) (by omega)
  have e2 : (u : Int) = numL (sbytes s) := e2
  rw [← e2]
  cases hq : s.data.toList with
  | nil => rw [hq] at hl; simp at hl; omega
  | cons c r =>
    have hc := digI_iff.1 (hd c (by rw [hq]; simp))
    rw [hq] at e1 e3
    have hk : (10 : Nat) ^ (0 + (c :: r).length) ≤ 10 ^ 18 := Nat.pow_le_pow_right (by decide) (by rw [← hq]; omega)
    unfold Lib.atoiAll
    simp only [show ¬ (c.toNat = 43 ∨ c.toNat = 45) by omega, if_false]
    unfold Lib.parseMag
    rw [if_neg (by simp), e1]
    simp only [show ¬ (c.toNat = 45) by omega, not_false_eq_true, true_and, false_and, if_false, show ¬ 9223372036854775808 ≤ u by omega]
def narB (s : ByteArray) : Int × Bool := if (digB s && decide (s.size ≤ 18)) = true then (numL (sbytes s), true) else (0, false)
theorem Narrow_i (s : ByteArray) (hs : s.size ≤ 4000000) : impl_Narrow s = some (narB s) := by
  have d2 := Digits_i s hs
  unfold impl_Narrow narB
  rw [d2]
  simp only [Option.bind_some]
  rcases tf (digB s) with x | x
  · by_cases h : s.size ≤ 18
    · simp only [x, h, decide_true, Bool.and_self, if_true, atoi_digits s x h]
    · simp [x, h, show s.size ≤ 140737488355328 by omega]
  · simp [x, show s.size ≤ 140737488355328 by omega]
/-- A length read. -/
def lenG (b : List Int) (a d : Int) : Option (Int × Int) := (bcdG b a d).map fun y => (numL (sbytes y.1), y.2)
def lenR : Option (Int × Int) → Int × Int × Bool
  | some y => (y.1, y.2, true)
  | none => (0, 0, false)
theorem GetLen_i (b : List Int) (hb : byB b) (hl : b.length ≤ 4000000) (a d : Int) (hd : d = 2 ∨ d = 3) : impl_GetLen b a d = some (lenR (lenG b a d)) := by
  have e2 := impl_GetBcd_val b hb hl a d
  unfold impl_GetLen impl_GetLen_c0 lenG
  rw [e2, within_val]
  have hw : (decide ((2 : Int) ≤ d) && decide (d ≤ 3)) = true := by rcases hd with rfl | rfl <;> rfl
  simp only [hw, if_true, Option.bind_some, Lo.elim]
  unfold impl_GetLen_c1
  cases hq : bcdG b a d with
  | none => simp only [bcdR, Option.bind_some, Option.map_none, lenR, Bool.false_eq_true, if_false]
  | some y =>
    obtain ⟨g1, g2, g3, _⟩ := bcdG_some hb hq
    have n2 := Narrow_i y.1 (by rcases hd with rfl | rfl <;> omega)
    have n0 : narB y.1 = (numL (sbytes y.1), true) := by
      unfold narB
      rw [if_pos]
      rw [g1, decide_eq_true (by rcases hd with rfl | rfl <;> omega)]; rfl
    simp only [bcdR, n2, n0, Option.bind_some, Option.map_some, lenR, if_true]
def bitB (l : List Int) (k : Nat) : Bool := (l.getD ((k - 1) / 8) 0 / 2 ^ (7 - (k - 1) % 8)) % 2 == 1
def bitsF (l : List Int) (v : Nat) : List Int := ((List.range' v (65 - v)).filter (bitB l)).map fun k : Nat => (k : Int)
def bitsL (l : List Int) : List Int := bitsF l 1
theorem bit_byte (x : Int) (h : 0 ≤ x ∧ x ≤ 255) (i : Nat) (hi : i < 8) : (Int.tmod (bshr .i64 x (7 - (i : Int))) 2 == 1) = (x / 2 ^ (7 - i) % 2 == 1) ∧ (band .u8 x (bshr .u8 128 (i : Int)) != 0) = (x / 2 ^ (7 - i) % 2 == 1) := by
  have key : ∀ (n : Fin 256) (i : Fin 8), (Int.tmod (bshr .i64 ((n.val : Nat) : Int) (7 - ((i.val : Nat) : Int))) 2 == 1) = (((n.val : Nat) : Int) / 2 ^ (7 - i.val) % 2 == 1) ∧ (band .u8 ((n.val : Nat) : Int) (bshr .u8 128 ((i.val : Nat) : Int)) != 0) = (((n.val : Nat) : Int) / 2 ^ (7 - i.val) % 2 == 1) := by decide +kernel
  have := key ⟨x.toNat, by omega⟩ ⟨i, hi⟩
  have e : ((x.toNat : Nat) : Int) = x := by omega
  simpa only [e] using this
theorem bitsF_step (l : List Int) (v : Nat) (h : v ≤ 64) : bitsF l v = (if bitB l v = true then [(v : Int)] else []) ++ bitsF l (v + 1) := by
  unfold bitsF
  rw [show 65 - v = (65 - (v + 1)) + 1 by omega, List.range'_succ, List.filter_cons]
  rcases tf (bitB l v) with q | q <;> simp [q]
theorem bitsF_end (l : List Int) : bitsF l 65 = [] := by unfold bitsF; simp
theorem bitsF_len (l : List Int) (v : Nat) : (bitsF l v).length ≤ 64 + 1 - v := by
  unfold bitsF
  rw [List.length_map]
  have := List.length_filter_le (bitB l) (List.range' v (65 - v))
  rw [List.length_range'] at this
  omega
theorem bits_arith {v : Nat} (h1 : 1 ≤ v) (h2 : v ≤ 64) : i64 ((v : Int) - 1) = ((v - 1 : Nat) : Int) ∧ Int.tdiv ((v - 1 : Nat) : Int) 8 = (((v - 1) / 8 : Nat) : Int) ∧ Int.tmod ((v - 1 : Nat) : Int) 8 = (((v - 1) % 8 : Nat) : Int) ∧ i64 (((v - 1) / 8 : Nat) : Int) = (((v - 1) / 8 : Nat) : Int) ∧ i64 (7 - (((v - 1) % 8 : Nat) : Int)) = 7 - (((v - 1) % 8 : Nat) : Int) := by
  refine ⟨by rw [i64_of (by omega) (by omega)]; omega, ?_, ?_, i64_of (by omega) (by omega), i64_of (by omega) (by omega)⟩
  · rw [Int.tdiv_eq_ediv_of_nonneg (by omega)]; omega
  · rw [Int.tmod_eq_emod_of_nonneg (by omega)]; omega
theorem impl_GetBits_l0_val (a : Int) (r : List Int × Bool) (hb : byB r.1) (hl : r.1.length = 8) : ∀ (fuel v : Nat) (w : List Int), 1 ≤ v → v ≤ 65 → 65 - v < fuel → w.length + (65 - v) ≤ 1000 →
    impl_GetBits_l0 a r fuel (v : Int) w = some (w ++ bitsF r.1 v)
  | 0, v, w, _, _, hf, _ => by omega
  | fuel + 1, v, w, h1, h2, hf, hw => by
    unfold impl_GetBits_l0 impl_GetBits_c3
    by_cases hv : v ≤ 64
    · obtain ⟨e1, e2, e3, e4, e5⟩ := bits_arith h1 hv
      have hi' : i64 ((v : Int) + 1) = ((v + 1 : Nat) : Int) := by rw [i64_of (by omega) (by omega)]; omega
      have hq : (v - 1) / 8 < r.1.length := by omega
      have hg : r.1[(v - 1) / 8]? = some r.1[(v - 1) / 8] := List.getElem?_eq_getElem hq
      have hx := hb _ (List.getElem_mem hq)
      have hgd : r.1.getD ((v - 1) / 8) 0 = r.1[(v - 1) / 8] := by rw [List.getD_eq_getElem?_getD, hg]; rfl
      have hbit : bitB r.1 v = (r.1[(v - 1) / 8] / 2 ^ (7 - (v - 1) % 8) % 2 == 1) := by unfold bitB; rw [hgd]
      rw [bitsF_step _ v hv, hbit]
      unfold impl_GetBits_c4
      generalize r.1[(v - 1) / 8] = x at *
      obtain ⟨_, k1⟩ := bit_byte x hx ((v - 1) % 8) (by omega)
      have ih := fun w' hw' => impl_GetBits_l0_val a r hb hl fuel (v + 1) w' (by omega) (by omega) (by omega) hw'
      simp only [show (v : Int) ≤ 64 by omega, decide_true, if_true, Option.bind_some, Lo.elim, e1, e2, e3, e4, k1, Int.toNat_natCast, hg, Int.natCast_nonneg, show ¬ (((v - 1) % 8 : Nat) : Int) < 0 by omega, not_false_eq_true, hi']
      rcases tf (x / 2 ^ (7 - (v - 1) % 8) % 2 == 1) with q | q
      · simp only [q, if_true, capOk_of (show w.length + 1 ≤ 274877906944 by omega), Option.bind_some]
        rw [ih (w ++ [(v : Int)]) (by simp; omega), List.append_assoc]
      · simp only [q, Bool.false_eq_true, if_false, Option.bind_some, List.nil_append]
        exact ih w (by omega)
    · have : v = 65 := by omega
      subst this
      rw [bitsF_end]
      simp [Lo.elim]
/-- A bit map read. -/
def bitG (b : List Int) (a : Int) : Option (List Int × Int) := (sect b a 8).map fun l => (bitsL l, a + 8)
def bitR : Option (List Int × Int) → List Int × Int × Bool
  | some y => (y.1, y.2, true)
  | none => ([], 0, false)
theorem GetBits_i (b : List Int) (hb : byB b) (hl : b.length ≤ 4000000) (a : Int) : impl_GetBits b a = some (bitR (bitG b a)) := by
  unfold impl_GetBits impl_GetBits_c0 bitG
  rw [piece_val b a 8 hl]
  cases hs : sect b a 8 with
  | none => simp only [Option.bind_some, Bool.false_eq_true, if_false, Lo.elim, Option.map_none, bitR]
  | some l =>
    obtain ⟨g1, g2, g3, g4, g5⟩ := sect_some hs
    obtain ⟨u, rfl⟩ : ∃ u : Nat, a = (u : Int) := ⟨a.toNat, by omega⟩
    have hl8 : l.length = 8 := by omega
    have hg4 : l = (b.drop u).take 8 := by rw [g4]; rfl
    have hby : byB l := by rw [hg4]; exact byB_take (byB_drop hb _) _
    have L2 := impl_GetBits_l0_val (u : Int) (l, true) hby hl8 FUEL 1 [] (by omega) (by omega) (by unfold FUEL; omega) (by simp)
    have L2 : impl_GetBits_l0 (u : Int) (l, true) FUEL 1 [] = some (bitsL l) := L2
    have e2 : i64 ((u : Int) + 8) = (u : Int) + 8 := i64_of (by omega) (by omega)
    simp only [Option.bind_some, if_true, Lo.elim, Option.map_some, bitR, L2, e2]
theorem bitsL_mem {l : List Int} {x : Int} (h : x ∈ bitsL l) : 1 ≤ x ∧ x ≤ 64 := by
  unfold bitsL bitsF at h
  rw [List.mem_map] at h
  obtain ⟨k, hk, rfl⟩ := h
  have := List.mem_range'.1 (List.mem_filter.1 hk).1
  omega
theorem bitG_some {b : List Int} {a : Int} {y : List Int × Int} (h : bitG b a = some y) : (∀ x ∈ y.1, 1 ≤ x ∧ x ≤ 64) ∧ y.1.length ≤ 64 ∧ 0 ≤ a ∧ y.2 = a + 8 ∧ y.2 ≤ b.length := by
  unfold bitG at h
  rw [Option.map_eq_some_iff] at h
  obtain ⟨l, hl, rfl⟩ := h
  obtain ⟨g1, g2, g3, g4, g5⟩ := sect_some hl
  exact ⟨fun x hx => bitsL_mem hx, bitsF_len l 1, g1, rfl, g3⟩
def known (k : Int) : Bool := !(fkind k == 0)
/-- The numbers of the fields that a message names, and where they begin. -/
def nosG (b : List Int) (a : Int) : Option (List Int × Int) :=
  match bitG b a with
  | none => none
  | some y =>
    if (y.1.any fun x => x == 1) = true then
      match bitG b y.2 with
      | none => none
      | some z => if ((z.1.length : Int) == 0) = true then none else
        if ((y.1.filter fun x => !(x == 1)) ++ z.1.map fun x => x + 64).all known = true then some ((y.1.filter fun x => !(x == 1)) ++ z.1.map (fun x => x + 64), z.2) else none
    else if (y.1.filter fun x => !(x == 1)).all known = true then some (y.1.filter (fun x => !(x == 1)), y.2) else none
theorem filter_len {y : List Int} (q : Int → Bool) (h : y.length ≤ 64) : (y.filter q).length ≤ 64 := Nat.le_trans (List.length_filter_le _ _) h
theorem FieldKind_val (no : Int) : impl_FieldKind no = some (fkind no) ∧ impl_FieldSize no = some (fsize no) := by
  obtain ⟨r, r1, rk, rs⟩ := Row_i no
  unfold impl_FieldKind impl_FieldSize
  rw [r1, Option.bind_some, Option.bind_some, rk, rs]
  exact ⟨rfl, rfl⟩
def lowOk (l : List Int) : Bool := l.all fun x => (x == 1) || known x
theorem Parse_l0_val (o : List Int) (r1 : ByteArray × Int × Bool) (r : List Int × Int × Bool) (hl : r.1.length ≤ 64) : ∀ (fuel v : Nat) (m : Bool) (w : List Int), v ≤ r.1.length → r.1.length - v < fuel → w.length + (r.1.length - v) ≤ 1000 →
    impl_Parse_l0 o r1 r fuel (v : Int) m w = some (if lowOk (r.1.drop v) = true then .out ((m || (r.1.drop v).any fun x => x == 1), w ++ (r.1.drop v).filter fun x => !(x == 1)) else .ret ())
  | 0, v, m, w, _, hf, _ => by omega
  | fuel + 1, v, m, w, h, hf, hw => by
    unfold impl_Parse_l0 impl_Parse_c4 impl_Parse_c5
    by_cases hv : v < r.1.length
    · have hg : r.1[((v : Int)).toNat]? = some r.1[v] := by rw [Int.toNat_natCast]; exact List.getElem?_eq_getElem hv
      have hi' : i64 ((v : Int) + 1) = ((v + 1 : Nat) : Int) := by rw [i64_of (by omega) (by omega)]; omega
      rw [List.drop_eq_getElem_cons hv, List.any_cons, List.filter_cons]
      generalize r.1[v] = x at *
      simp only [show (v : Int) < (r.1.length : Int) by omega, show (0 : Int) ≤ (v : Int) by omega, decide_true, if_true, Option.bind_some, Lo.elim, hg, hi', (FieldKind_val x).1]
      rcases tf (x == 1) with q | q
      · have hk : lowOk (x :: r.1.drop (v + 1)) = lowOk (r.1.drop (v + 1)) := by unfold lowOk; rw [List.all_cons, q, Bool.true_or, Bool.true_and]
        simp only [q, if_true, Option.bind_some, Bool.true_or, Bool.or_true, Bool.not_true, Bool.false_eq_true, if_false, hk]
        rw [Parse_l0_val o r1 r hl fuel (v + 1) true w (by omega) (by omega) (by omega), Bool.true_or]
      · rcases tf (fkind x == 0) with p | p
        · have hk : lowOk (x :: r.1.drop (v + 1)) = false := by unfold lowOk known; rw [List.all_cons, q, p]; rfl
          simp only [q, p, hk, if_true, Bool.false_eq_true, if_false, Option.bind_some]
        · have hk : lowOk (x :: r.1.drop (v + 1)) = lowOk (r.1.drop (v + 1)) := by unfold lowOk known; rw [List.all_cons, q, p]; simp
          simp only [q, p, hk, Bool.false_eq_true, if_false, capOk_of (show w.length + 1 ≤ 274877906944 by omega), if_true, Option.bind_some, Bool.false_or, Bool.not_false]
          rw [Parse_l0_val o r1 r hl fuel (v + 1) m (w ++ [x]) (by omega) (by omega) (by simp; omega), List.append_assoc]
          rfl
    · have : r.1.drop v = [] := List.drop_eq_nil_of_le (by omega)
      rw [this]
      simp [show ¬ (v : Int) < (r.1.length : Int) by omega, Lo.elim, lowOk]
theorem Parse_l1_val (o : List Int) (r1 : ByteArray × Int × Bool) (r : List Int × Int × Bool) (hl : r.1.length ≤ 64) (hm : ∀ x ∈ r.1, 1 ≤ x ∧ x ≤ 64) : ∀ (fuel v : Nat) (w : List Int), v ≤ r.1.length → r.1.length - v < fuel → w.length + (r.1.length - v) ≤ 1000 →
    impl_Parse_l1 o r1 r fuel (v : Int) w = some (if ((r.1.drop v).map fun x => x + 64).all known = true then .out (w ++ (r.1.drop v).map fun x => x + 64) else .ret ())
  | 0, v, w, _, hf, _ => by omega
  | fuel + 1, v, w, h, hf, hw => by
    unfold impl_Parse_l1 impl_Parse_c11 impl_Parse_c12 impl_Parse_c13
    by_cases hv : v < r.1.length
    · have hg : r.1[((v : Int)).toNat]? = some r.1[v] := by rw [Int.toNat_natCast]; exact List.getElem?_eq_getElem hv
      have hx := hm _ (List.getElem_mem hv)
      have hi' : i64 ((v : Int) + 1) = ((v + 1 : Nat) : Int) := by rw [i64_of (by omega) (by omega)]; omega
      rw [List.drop_eq_getElem_cons hv, List.map_cons, List.all_cons]
      generalize r.1[v] = x at *
      have e1 : i64 (x + 64) = x + 64 := i64_of (by omega) (by omega)
      simp only [show (v : Int) < (r.1.length : Int) by omega, show (0 : Int) ≤ (v : Int) by omega, decide_true, if_true, Option.bind_some, Lo.elim, hg, hi', e1, (FieldKind_val (x + 64)).1]
      rcases tf (fkind (x + 64) == 0) with p | p
      · have hk : known (x + 64) = false := by unfold known; rw [p]; rfl
        simp only [p, hk, if_true, Option.bind_some, Bool.false_and, Bool.false_eq_true, if_false]
      · have hk : known (x + 64) = true := by unfold known; rw [p]; rfl
        simp only [p, hk, Bool.false_eq_true, if_false, Option.bind_some, capOk_of (show w.length + 1 ≤ 274877906944 by omega), if_true, Bool.true_and]
        rw [Parse_l1_val o r1 r hl hm fuel (v + 1) (w ++ [x + 64]) (by omega) (by omega) (by simp; omega), List.append_assoc]
        rfl
    · have : r.1.drop v = [] := List.drop_eq_nil_of_le (by omega)
      rw [this]
      simp [show ¬ (v : Int) < (r.1.length : Int) by omega, Lo.elim]
theorem lowOk_eq (l : List Int) : lowOk l = (l.filter fun x => !(x == 1)).all known := by
  induction l with
  | nil => rfl
  | cons x t ih =>
    unfold lowOk at ih ⊢
    rw [List.all_cons, List.filter_cons, ih]
    rcases tf (x == 1) with q | q <;> simp [q]
theorem Parse_c6_val (b : List Int) (hb : byB b) (hl : b.length ≤ 4000000) (r1 : ByteArray × Int × Bool) (a : Int) (y : List Int × Int) (hy : bitG b a = some y) (hk : (y.1.filter fun x => !(x == 1)).all known = true) :
    impl_Parse_c6 b r1 (y.1, y.2, true) ((y.1.any fun x => x == 1), y.1.filter fun x => !(x == 1)) = some (match nosG b a with | none => .ret () | some z => .out (z.2, z.1)) := by
  obtain ⟨y1, y2, y3, y4, y5⟩ := bitG_some hy
  have hf := filter_len (fun x => !(x == 1)) y2
  unfold impl_Parse_c6 nosG
  rw [hy]
  simp only [hk]
  rcases tf (y.1.any fun x => x == 1) with q | q
  · simp only [q, if_true]
    rw [GetBits_i b hb hl y.2]
    unfold impl_Parse_c7
    cases hz : bitG b y.2 with
    | none => simp [bitR, Lo.elim]
    | some z =>
      obtain ⟨z1, z2, z3, z4, z5⟩ := bitG_some hz
      simp only [bitR, if_true, Option.bind_some]
      rcases tf ((z.1.length : Int) == 0) with p | p
      · simp [p, Lo.elim]
      · simp only [p, Bool.false_eq_true, if_false, Option.bind_some, Lo.elim]
        have L1 := Parse_l1_val b r1 (z.1, z.2, true) z2 z1 FUEL 0 (y.1.filter fun x => !(x == 1)) (by omega) (by show z.1.length - 0 < _; unfold FUEL; omega) (by show _ + (z.1.length - 0) ≤ _; omega)
        have L1 : impl_Parse_l1 b r1 (z.1, z.2, true) FUEL 0 (y.1.filter fun x => !(x == 1)) = some (if (z.1.map fun x => x + 64).all known = true then .out ((y.1.filter fun x => !(x == 1)) ++ z.1.map fun x => x + 64) else .ret ()) := L1
        rw [L1, List.all_append, hk, Bool.true_and]
        simp only [Option.bind_some]
        rcases tf ((z.1.map fun x => x + 64).all known) with g | g <;> simp only [g, if_true, Bool.false_eq_true, if_false]
  · simp only [q, Bool.false_eq_true, if_false, if_true]
theorem nosG_none {b : List Int} {a : Int} {y : List Int × Int} (hy : bitG b a = some y) (hk : (y.1.filter fun x => !(x == 1)).all known = false) : nosG b a = none := by
  unfold nosG
  rw [hy]
  simp only [hk, Bool.false_eq_true, if_false]
  rcases tf (y.1.any fun x => x == 1) with q | q
  · simp only [q, if_true]
    cases bitG b y.2 with
    | none => rfl
    | some z => simp only [List.all_append, hk, Bool.false_and, Bool.false_eq_true, if_false, ite_self]
  · simp only [q, Bool.false_eq_true, if_false]
theorem nosG_some {b : List Int} {a : Int} {z : List Int × Int} (h : nosG b a = some z) : z.1.length ≤ 128 ∧ 0 ≤ z.2 ∧ z.2 ≤ b.length := by
  unfold nosG at h
  cases hy : bitG b a with
  | none => rw [hy] at h; cases h
  | some y =>
    rw [hy] at h
    obtain ⟨y1, y2, y3, y4, y5⟩ := bitG_some hy
    have hf := filter_len (fun x => !(x == 1)) y2
    simp only at h
    split at h
    · cases hw : bitG b y.2 with
      | none => rw [hw] at h; cases h
      | some w =>
        rw [hw] at h
        obtain ⟨w1, w2, w3, w4, w5⟩ := bitG_some hw
        simp only at h
        split at h
        · cases h
        · split at h
          · obtain rfl := Option.some.inj h
            refine ⟨?_, by show 0 ≤ w.2; omega, w5⟩
            show (_ ++ _ : List Int).length ≤ 128
            rw [List.length_append, List.length_map]; omega
          · cases h
    · split at h
      · obtain rfl := Option.some.inj h
        exact ⟨by show (y.1.filter _).length ≤ 128; omega, by show 0 ≤ y.2; omega, y5⟩
      · cases h
/-- A field read. -/
def txtG (b : List Int) (h : Int × Int) : Option (ByteArray × Int) := match sect b h.1 h.2 with
  | none => none
  | some l => if l.all prtI = true then some (bstr l, h.1 + h.2) else none
def fwid (no : Int) : Int := if (fkind no == 5) = true then 3 else 2
def varB (no : Int) : Bool := (fkind no == 3) || (fkind no == 4) || (fkind no == 5)
/-- Where a field's text begins, and how long it is. -/
def headG (b : List Int) (a no : Int) : Option (Int × Int) :=
  if varB no = true then
    match lenG b a (fwid no) with
    | none => none
    | some y => if (decide (1 ≤ y.1) && decide (y.1 ≤ fsize no)) = true then some (y.2, y.1) else none
  else some (a, fsize no)
def fldG (b : List Int) (a no : Int) : Option (ByteArray × Int) :=
  if (fkind no == 0) = true then none else
  match headG b a no with
  | none => none
  | some h => if ((fkind no == 1) || (fkind no == 3)) = true then bcdG b h.1 h.2 else txtG b h
theorem kinds (no : Int) : fkind no = 0 ∨ fkind no = 1 ∨ fkind no = 2 ∨ fkind no = 3 ∨ fkind no = 4 ∨ fkind no = 5 := by
  have h := Row_b no
  omega
theorem impl_txt (b : List Int) (hb : byB b) (hl : b.length ≤ 4000000) (no : Int) (s : Int × Int) (hk : (fkind no == 1) = false) (hk3 : (fkind no == 3) = false) :
    ((impl_piece b s.1 s.2).bind fun r13 => (impl_GetField_c3 no (i64 (s.1 + s.2), bstr r13.1, r13.2)).bind fun r16 => Lo.elim r16 (fun s3 => some (bstr r13.1, i64 (s.1 + s.2), true)) (fun s4 => some (bs [], 0, false)))
      = some (bcdR (match sect b s.1 s.2 with | none => none | some l => if fok no (bstr l) = true then some (bstr l, s.1 + s.2) else none)) := by
  rw [piece_val b s.1 s.2 hl]
  unfold impl_GetField_c3
  cases hs : sect b s.1 s.2 with
  | none => simp [Lo.elim, bcdR]
  | some l =>
    obtain ⟨g1, g2, g3, g4, g5⟩ := sect_some hs
    have f2 := FieldOk_i no (bstr l) (by rw [bstr_size]; omega)
    have e : i64 (s.1 + s.2) = s.1 + s.2 := i64_of (by omega) (by omega)
    simp only [if_true, Option.bind_some, f2, e]
    rcases tf (fok no (bstr l)) with q | q <;> simp only [q, if_true, Bool.false_eq_true, if_false, Option.bind_some, Lo.elim, bcdR]
theorem fok_txt {no : Int} {l : List Int} (hb : byB l) : (fkind no = 0 → fok no (bstr l) = false) ∧ (fkind no = 2 → fok no (bstr l) = (l.all prtI && ((l.length : Int) == fsize no))) ∧
    (fkind no = 4 ∨ fkind no = 5 → fok no (bstr l) = (l.all prtI && (decide (1 ≤ (l.length : Int)) && decide ((l.length : Int) ≤ fsize no)))) := by
  unfold fok
  rw [prtB_bstr hb, bstr_size]
  refine ⟨fun h => by rw [h]; rfl, fun h => by rw [h]; rfl, fun h => ?_⟩
  rcases h with h | h <;> rw [h] <;> rfl
theorem impl_GetField_val (b : List Int) (hb : byB b) (hl : b.length ≤ 4000000) (a no : Int) : impl_GetField b a no = some (bcdR (fldG b a no)) := by
  obtain ⟨k1, s1⟩ := FieldKind_val no
  have hks := Row_b no
  have hn : 0 ≤ fsize no ∧ fsize no ≤ 60 := by omega
  have hlen : impl_lenDigits no = some (fwid no) := by
    unfold impl_lenDigits fwid
    rw [k1, Option.bind_some]
    rcases tf (fkind no == 5) with q | q <;> simp [q]
  have hbcd : ∀ s : Int × Int, (fkind no = 1 ∧ s.2 = fsize no ∨ fkind no = 3) → ((impl_GetBcd b s.1 s.2).bind fun r11 => (impl_GetField_c3 no (r11.2.1, r11.1, r11.2.2)).bind fun r16 => Lo.elim r16 (fun s3 => some (r11.1, r11.2.1, true)) (fun s4 => some (bs [], 0, false)))
      = some (bcdR (if (fkind no == 1) = true then bcdG b s.1 s.2 else if (decide (1 ≤ s.2) && decide (s.2 ≤ fsize no)) = true then bcdG b s.1 s.2 else none)) := fun s hk => by
    rw [impl_GetBcd_val b hb hl s.1 s.2]
    unfold impl_GetField_c3
    cases hq : bcdG b s.1 s.2 with
    | none => simp [bcdR, Lo.elim]
    | some y =>
      obtain ⟨g1, g2, g3, g4, g5, g6, g7⟩ := bcdG_some hb hq
      have f2 := FieldOk_i no y.1 (by omega)
      simp only [bcdR, if_true, Option.bind_some, f2]
      unfold fok
      rcases hk with ⟨h, hs⟩ | h
      · rw [h]
        simp [g1, g2, hs, Lo.elim]
      · rw [h]
        by_cases hc : s.2 ≤ fsize no
        · simp [g1, g2, g3, hc, Lo.elim]
        · simp [g1, g2, g3, hc, Lo.elim]
  unfold impl_GetField
  rw [s1, k1]
  simp only [Option.bind_some]
  unfold impl_GetField_c0 impl_GetField_c1 impl_GetField_c2 fldG headG varB
  rw [hlen]
  simp only [Option.bind_some]
  have hby : ∀ {x n : Int} {l : List Int}, sect b x n = some l → byB l := fun h => by rw [(sect_some h).2.2.2.1]; exact byB_take (byB_drop hb _) _
  have hlb : ∀ {x n : Int} {l : List Int}, sect b x n = some l → (l.length : Int) = n := fun h => (sect_some h).2.2.2.2
  rcases kinds no with h | h | h | h | h | h
  · have t := impl_txt b hb hl no (a, fsize no) (by rw [h]; rfl) (by rw [h]; rfl)
    rw [h]
    simp only [show ((0 : Int) == 0) = true from rfl, show ((0 : Int) == 1) = false from rfl, show ((0 : Int) == 3) = false from rfl, show ((0 : Int) == 4) = false from rfl, show ((0 : Int) == 5) = false from rfl, Bool.false_eq_true, if_false, if_true, Lo.elim, Option.bind_some, Option.bind_assoc]
    refine t.trans ?_
    cases hs : sect b a (fsize no) with
    | none => simp only [hs]
    | some l => simp only [hs, (fok_txt (hby hs)).1 h, Bool.false_eq_true, if_false]
  · have t := hbcd (a, fsize no) (.inl ⟨h, rfl⟩)
    rw [h] at t ⊢
    simp only [show ((1 : Int) == 0) = false from rfl, show ((1 : Int) == 1) = true from rfl, show ((1 : Int) == 3) = false from rfl, show ((1 : Int) == 4) = false from rfl, show ((1 : Int) == 5) = false from rfl, Bool.false_eq_true, if_false, if_true, Lo.elim, Option.bind_some, Option.bind_assoc, Bool.or_self, Bool.true_or] at t ⊢
    exact t
  · have t := impl_txt b hb hl no (a, fsize no) (by rw [h]; rfl) (by rw [h]; rfl)
    rw [h]
    simp only [show ((2 : Int) == 0) = false from rfl, show ((2 : Int) == 1) = false from rfl, show ((2 : Int) == 3) = false from rfl, show ((2 : Int) == 4) = false from rfl, show ((2 : Int) == 5) = false from rfl, Bool.false_eq_true, if_false, if_true, Lo.elim, Option.bind_some, Option.bind_assoc, Bool.or_self]
    refine t.trans ?_
    unfold txtG
    cases hs : sect b a (fsize no) with
    | none => simp only [hs]
    | some l => simp only [hs, (fok_txt (hby hs)).2.1 h, hlb hs, beq_self_eq_true, Bool.and_true]
  · rw [GetLen_i b hb hl a (fwid no) (by unfold fwid; split <;> simp)]
    have t := fun s => hbcd s (.inr h)
    rw [h] at t ⊢
    simp only [show ((3 : Int) == 0) = false from rfl, show ((3 : Int) == 1) = false from rfl, show ((3 : Int) == 3) = true from rfl, show ((3 : Int) == 4) = false from rfl, show ((3 : Int) == 5) = false from rfl, Bool.false_eq_true, if_false, if_true, Option.bind_some, Bool.or_false, Bool.true_or, Bool.or_true] at t ⊢
    cases hy : lenG b a (fwid no) with
    | none => simp [lenR, Lo.elim, bcdR]
    | some y =>
      simp only [lenR, if_true, Option.bind_some, Lo.elim, Option.bind_assoc]
      refine (t (y.2, y.1)).trans ?_
      simp only
      rcases tf (decide (1 ≤ y.1) && decide (y.1 ≤ fsize no)) with q | q <;> simp only [q, if_true, Bool.false_eq_true, if_false]
  · rw [GetLen_i b hb hl a (fwid no) (by unfold fwid; split <;> simp)]
    have t := fun s => impl_txt b hb hl no s (by rw [h]; rfl) (by rw [h]; rfl)
    rw [h]
    simp only [show ((4 : Int) == 0) = false from rfl, show ((4 : Int) == 1) = false from rfl, show ((4 : Int) == 3) = false from rfl, show ((4 : Int) == 4) = true from rfl, show ((4 : Int) == 5) = false from rfl, Bool.false_eq_true, if_false, if_true, Option.bind_some, Bool.or_false, Bool.or_self, Bool.true_or, Bool.or_true]
    cases hy : lenG b a (fwid no) with
    | none => simp [lenR, Lo.elim, bcdR]
    | some y =>
      simp only [lenR, if_true, Option.bind_some, Lo.elim, Option.bind_assoc]
      refine (t (y.2, y.1)).trans ?_
      unfold txtG
      cases hs : sect b y.2 y.1 with
      | none => simp only [hs, ite_self]; rcases tf (decide (1 ≤ y.1) && decide (y.1 ≤ fsize no)) with q | q <;> simp [q, hs]
      | some l =>
        simp only [hs, (fok_txt (hby hs)).2.2 (.inl h), hlb hs]
        rcases tf (decide (1 ≤ y.1) && decide (y.1 ≤ fsize no)) with q | q <;> simp [q, hs]
  · rw [GetLen_i b hb hl a (fwid no) (by unfold fwid; split <;> simp)]
    have t := fun s => impl_txt b hb hl no s (by rw [h]; rfl) (by rw [h]; rfl)
    rw [h]
    simp only [show ((5 : Int) == 0) = false from rfl, show ((5 : Int) == 1) = false from rfl, show ((5 : Int) == 3) = false from rfl, show ((5 : Int) == 4) = false from rfl, show ((5 : Int) == 5) = true from rfl, Bool.false_eq_true, if_false, if_true, Option.bind_some, Bool.or_false, Bool.or_self, Bool.true_or, Bool.or_true]
    cases hy : lenG b a (fwid no) with
    | none => simp [lenR, Lo.elim, bcdR]
    | some y =>
      simp only [lenR, if_true, Option.bind_some, Lo.elim, Option.bind_assoc]
      refine (t (y.2, y.1)).trans ?_
      unfold txtG
      cases hs : sect b y.2 y.1 with
      | none => simp only [hs, ite_self]; rcases tf (decide (1 ≤ y.1) && decide (y.1 ≤ fsize no)) with q | q <;> simp [q, hs]
      | some l =>
        simp only [hs, (fok_txt (hby hs)).2.2 (.inr h), hlb hs]
        rcases tf (decide (1 ≤ y.1) && decide (y.1 ≤ fsize no)) with q | q <;> simp [q, hs]
/-- What a field's text is, and where the next one begins. -/
theorem fldG_some {b : List Int} (hb : byB b) {a no : Int} {y : ByteArray × Int} (h : fldG b a no = some y) : y.1.size ≤ 60 ∧ 0 ≤ y.2 ∧ y.2 ≤ b.length := by
  have hks := Row_b no
  unfold fldG at h
  split at h
  · cases h
  · have hd : ∀ q, headG b a no = some q → q.2 ≤ 60 := fun q hq => by
      unfold headG at hq
      split at hq
      · split at hq
        · cases hq
        · split at hq
          · rename_i z hz hc
            simp only [Bool.and_eq_true, decide_eq_true_eq] at hc
            obtain rfl := Option.some.inj hq
            show z.1 ≤ 60
            omega
          · cases hq
      · obtain rfl := Option.some.inj hq
        show fsize no ≤ 60
        omega
    split at h
    · cases h
    · rename_i q hq
      have := hd q hq
      split at h
      · obtain ⟨g1, g2, g3, g4, g5, g6, g7⟩ := bcdG_some hb h
        exact ⟨by omega, by omega, g7⟩
      · unfold txtG at h
        cases hs : sect b q.1 q.2 with
        | none => rw [hs] at h; cases h
        | some l =>
          rw [hs] at h
          obtain ⟨g1, g2, g3, g4, g5⟩ := sect_some hs
          simp only at h
          split at h
          · obtain rfl := Option.some.inj h
            refine ⟨?_, by show 0 ≤ q.1 + q.2; omega, g3⟩
            show (bstr l).size ≤ 60
            rw [bstr_size]; omega
          · cases h
/-- All fields, one behind the other. -/
def fldsG (b : List Int) : List Int → Int → Option (List Field × Int)
  | [], a => some ([], a)
  | k :: t, a => match fldG b a k with
    | none => none
    | some y => match fldsG b t y.2 with
      | none => none
      | some r => some (⟨k, y.1⟩ :: r.1, r.2)
def fldsR (w : List Field) : Option (List Field × Int) → Lo (Int × List Field) Unit
  | none => .ret ()
  | some r => .out (r.2, w ++ r.1)
theorem impl_Parse_l2_val (b : List Int) (hb : byB b) (hl : b.length ≤ 4000000) (r1 : ByteArray × Int × Bool) (r : Int × List Int) (hr : r.2.length ≤ 128) : ∀ (fuel v : Nat) (a : Int) (w : List Field), v ≤ r.2.length → r.2.length - v < fuel → w.length + (r.2.length - v) ≤ 1000 →
    impl_Parse_l2 b r1 r fuel a (v : Int) w = some (fldsR w (fldsG b (r.2.drop v) a))
  | 0, v, a, w, _, hf, _ => by omega
  | fuel + 1, v, a, w, h, hf, hw => by
    unfold impl_Parse_l2 impl_Parse_c20 impl_Parse_c21 impl_Parse_c22
    by_cases hv : v < r.2.length
    · have hg : r.2[((v : Int)).toNat]? = some r.2[v] := by rw [Int.toNat_natCast]; exact List.getElem?_eq_getElem hv
      have hi' : i64 ((v : Int) + 1) = ((v + 1 : Nat) : Int) := by rw [i64_of (by omega) (by omega)]; omega
      rw [List.drop_eq_getElem_cons hv, fldsG]
      generalize r.2[v] = x at *
      simp only [show (v : Int) < (r.2.length : Int) by omega, show (0 : Int) ≤ (v : Int) by omega, decide_true, if_true, Option.bind_some, Lo.elim, hg, hi', impl_GetField_val b hb hl]
      cases hy : fldG b a x with
      | none => simp [bcdR, fldsR]
      | some y =>
        simp only [bcdR, if_true, Option.bind_some, capOk_of (show w.length + 1 ≤ 274877906944 by omega)]
        rw [impl_Parse_l2_val b hb hl r1 r hr fuel (v + 1) y.2 (w ++ [Field.mk x y.1]) (by omega) (by omega) (by simp; omega)]
        cases fldsG b (r.2.drop (v + 1)) y.2 with
        | none => rfl
        | some z => simp [fldsR]
    · have : r.2.drop v = [] := List.drop_eq_nil_of_le (by omega)
      rw [this]
      simp [show ¬ (v : Int) < (r.2.length : Int) by omega, Lo.elim, fldsG, fldsR]
theorem fldsG_some {b : List Int} (hb : byB b) : ∀ {l : List Int} {a : Int} {z : List Field × Int}, fldsG b l a = some z → z.1.length = l.length ∧ ∀ f ∈ z.1, f.Text.size ≤ 60
  | [], a, z, h => by
    obtain rfl := Option.some.inj h
    exact ⟨rfl, fun f hf => by cases hf⟩
  | k :: t, a, z, h => by
    rw [fldsG] at h
    split at h
    · cases h
    · rename_i y hy
      split at h
      · cases h
      · rename_i r hr
        obtain rfl := Option.some.inj h
        obtain ⟨g1, g2⟩ := fldsG_some hb hr
        refine ⟨by simp [g1], fun f hf => ?_⟩
        rcases List.mem_cons.1 hf with rfl | hf
        · exact (fldG_some hb hy).1
        · exact g2 f hf
/-- A message read from its bytes: what it is, and how that went. -/
def noMsg : Msg := ⟨ByteArray.empty, []⟩
def parseG (b : List Int) : Msg × Int :=
  match bcdG b 0 4 with
  | none => (noMsg, 1)
  | some y => match nosG b 2 with
    | none => (noMsg, 2)
    | some z => match fldsG b z.1 z.2 with
      | none => (noMsg, 3)
      | some r => if (r.2 != (b.length : Int)) = true then (noMsg, 4) else (⟨y.1, r.1⟩, 0)
theorem Parse_i (b : List Int) (hb : byB b) (hl : b.length ≤ 4000000) : impl_Parse b = some (parseG b) := by
  unfold impl_Parse parseG impl_Parse_c0
  rw [impl_GetBcd_val b hb hl 0 4]
  cases hy : bcdG b 0 4 with
  | none => simp [bcdR, Lo.elim, noMsg]
  | some y =>
    obtain ⟨_, _, _, _, _, g6, _⟩ := bcdG_some hb hy
    have g6 : y.2 = 2 := g6
    simp only [bcdR, if_true, Option.bind_some, Lo.elim, g6]
    rw [GetBits_i b hb hl 2]
    unfold impl_Parse_c1
    cases hb2 : bitG b 2 with
    | none =>
      have : nosG b 2 = none := by unfold nosG; rw [hb2]
      simp [bitR, this, noMsg]
    | some x =>
      obtain ⟨x1, x2, x3, x4, x5⟩ := bitG_some hb2
      simp only [bitR, if_true, Option.bind_some]
      have L0 := Parse_l0_val b (y.1, 2, true) (x.1, x.2, true) x2 FUEL 0 false [] (by omega) (by show x.1.length - 0 < _; unfold FUEL; omega) (by show 0 + (x.1.length - 0) ≤ _; omega)
      have L0 : impl_Parse_l0 b (y.1, 2, true) (x.1, x.2, true) FUEL 0 false [] = some (if lowOk x.1 = true then .out ((x.1.any fun x => x == 1), x.1.filter fun x => !(x == 1)) else .ret ()) := L0
      rw [L0, lowOk_eq]
      rcases tf ((x.1.filter fun x => !(x == 1)).all known) with q | q
      · have C6 := Parse_c6_val b hb hl (y.1, 2, true) 2 x hb2 q
        simp only [q, if_true, Option.bind_some]
        rw [C6]
        cases hz : nosG b 2 with
        | none => rfl
        | some z =>
          obtain ⟨z1, z2, z3⟩ := nosG_some hz
          simp only [Option.bind_some]
          have L := impl_Parse_l2_val b hb hl (y.1, 2, true) (z.2, z.1) z1 FUEL 0 z.2 [] (by omega) (by show z.1.length - 0 < _; unfold FUEL; omega) (by show 0 + (z.1.length - 0) ≤ _; omega)
          have L : impl_Parse_l2 b (y.1, 2, true) (z.2, z.1) FUEL z.2 0 [] = some (fldsR [] (fldsG b z.1 z.2)) := L
          rw [L]
          unfold impl_Parse_c23
          cases fldsG b z.1 z.2 with
          | none => rfl
          | some r =>
            simp only [fldsR, Option.bind_some, List.nil_append]
            rcases tf (r.2 != (b.length : Int)) with p | p <;> simp only [p, if_true, Bool.false_eq_true, if_false, Option.bind_some, noMsg]
      · rw [nosG_none hb2 q]
        simp only [q, Bool.false_eq_true, if_false, Option.bind_some, noMsg]
theorem parseG_small {b : List Int} (hb : byB b) : (parseG b).1.List.length ≤ 128 ∧ ∀ f ∈ (parseG b).1.List, f.Text.size ≤ 60 := by
  unfold parseG
  have h0 : noMsg.List.length ≤ 128 ∧ ∀ f ∈ noMsg.List, f.Text.size ≤ 60 := ⟨by decide, fun f hf => by cases hf⟩
  split
  · exact h0
  · split
    · exact h0
    · rename_i z hz
      split
      · exact h0
      · rename_i r hr
        obtain ⟨g1, g2⟩ := fldsG_some hb hr
        obtain ⟨z1, _, _⟩ := nosG_some hz
        split
        · exact h0
        · exact ⟨by show r.1.length ≤ 128; omega, g2⟩
/-- The text of the first field of a number. -/
def fieldG (l : List Field) (no : Int) : Option ByteArray := (l.find? fun f => f.No == no).map (·.Text)
def fieldR : Option ByteArray → ByteArray × Bool
  | some s => (s, true)
  | none => (bs [], false)
theorem FieldOf_l0_i (m : Msg) (no : Int) : ∀ t : List Field, impl_FieldOf_l0 m no t = some (match fieldG t no with | some s => .ret s | none => .out ())
  | [] => rfl
  | f :: t => by
    have i1 := FieldOf_l0_i m no t
    unfold impl_FieldOf_l0 fieldG
    rw [List.find?_cons, i1]
    rcases tf (f.No == no) with q | q <;> simp [q, fieldG]
theorem FieldOf_i (m : Msg) (no : Int) (hl : m.List.length ≤ 4000000) : impl_FieldOf m no = some (fieldR (fieldG m.List no)) := by
  unfold impl_FieldOf
  rw [FieldOf_l0_i m no m.List, capOk_of (show m.List.length ≤ 274877906944 by omega)]
  cases fieldG m.List no <;> simp [fieldR, Lo.elim]
/-- The codes' texts. -/
def rsL : List ByteArray := [bs [48, 48], bs [51, 48], bs [49, 50], bs [49, 52], bs [49, 51], bs [50, 53], bs [57, 52], bs [53, 49], bs [54, 53], bs [54, 49], bs [57, 54]]
theorem beq_comm_ba (a b : ByteArray) : (a == b) = (b == a) := by
  rw [beqB, beqB]
  by_cases h : a = b
  · simp [h]
  · simp [h, Ne.symm h]
def rsI (s : ByteArray) : Int := idxOf (fun x => x == s) rsL
theorem TextRs_i (s : ByteArray) : impl_TextRs s = some (imax (rsI s) 0, decide (0 ≤ rsI s)) := by
  have h2 := find_loop (L := slices_Index_string_l0 rsL s) (fun x => x == s) (fun _ => rfl) (fun x t p => by show (if (s == x) = true then _ else _) = _; rw [beq_comm_ba]) rsL []
  unfold impl_TextRs impl_rsTexts slices_Index_string
  show ((if capOk rsL.length = true then (slices_Index_string_l0 rsL s rsL []).bind _ else none).bind _) = _
  rw [h2, if_pos (show capOk rsL.length = true from rfl)]
  show ((Lo.elim _ _ _ : Option Int).bind _) = _
  rw [found_nil]
  rfl
def rsT (code : Int) : ByteArray := if (decide (0 ≤ code) && decide (code ≤ 10)) = true then rsL.getD code.toNat (bs []) else bs []
theorem rsL_get {code : Int} (h : 0 ≤ code) (h2 : code ≤ 10) : rsL[code.toNat]? = some (rsL.getD code.toNat (bs [])) := by
  have : code.toNat < rsL.length := by show code.toNat < 11; omega
  rw [List.getD_eq_getElem?_getD, List.getElem?_eq_getElem this]; rfl
theorem RsText_i (code : Int) : impl_RsText code = some (rsT code) := by
  unfold impl_RsText rsT impl_rsTexts
  rw [within_val, Option.bind_some]
  rcases tf (decide (0 ≤ code) && decide (code ≤ 10)) with q | q
  · simp only [q, if_true, Option.bind_some]
    simp only [Bool.and_eq_true, decide_eq_true_eq] at q
    have hg2 := rsL_get q.1 q.2
    unfold rsL at hg2
    simp only [q.1, decide_true, if_true, hg2, Option.bind_some]
    rfl
  · simp only [q, Bool.false_eq_true, if_false]
/-- The code of a reply. -/
def repG (b : List Int) : Int × Bool :=
  if ((parseG b).2 != 0) = true then (0, false) else match fieldG (parseG b).1.List 39 with
    | none => (0, false)
    | some s => (imax (rsI s) 0, decide (0 ≤ rsI s))
theorem ReplyCode_i (b : List Int) (hb : byB b) (hl : b.length ≤ 4000000) : impl_ReplyCode b = some (repG b) := by
  obtain ⟨z1, z2⟩ := parseG_small hb
  have f1 := FieldOf_i (parseG b).1 39 (by omega)
  unfold impl_ReplyCode repG
  rw [Parse_i b hb hl]
  simp only [Option.bind_some, f1]
  rcases tf ((parseG b).2 != 0) with q | q
  · simp only [q, if_true]
  · simp only [q, Bool.false_eq_true, if_false]
    cases fieldG (parseG b).1.List 39 with
    | none => simp [fieldR]
    | some s => simp [fieldR, TextRs_i s]
def mkB (l : List UInt8) : ByteArray := ⟨l.toArray⟩
theorem mkB_list (l : List UInt8) : (mkB l).data.toList = l := rfl
theorem mkB_size (l : List UInt8) : (mkB l).size = l.length := rfl
theorem decDigits_dig (u : Nat) : ∀ b ∈ Lib.decDigits u, 48 ≤ b.toNat ∧ b.toNat ≤ 57 := by
  induction u using Nat.strongRecOn with
  | _ u ih =>
    rw [Lib.decDigits]
    split
    · intro b hb
      simp only [List.mem_singleton] at hb
      subst hb
      rw [UInt8.toNat_ofNat']
      omega
    · intro b hb
      rw [List.mem_append] at hb
      rcases hb with hb | hb
      · exact ih (u / 10) (by omega) b hb
      · simp only [List.mem_singleton] at hb
        subst hb
        rw [UInt8.toNat_ofNat']
        omega
def hx (x : Int) : Int := idxbP hexS x
def pack : List Int → List Int
  | x :: y :: t => ((x - 48) * 16 + (y - 48)) :: pack t
  | _ => []
def padL (l : List Int) : List Int := if (l.length % 2 == 1) = true then 48 :: l else l
def putB (s : ByteArray) : List Int := pack (padL (sbytes s))
theorem pack_nib : ∀ l : List Int, (∀ x ∈ l, digI x = true) → l.length % 2 = 0 → nib (pack l) = l ∧ 2 * (pack l).length = l.length ∧ byB (pack l)
  | [], _, _ => ⟨rfl, rfl, fun _ h => by cases h⟩
  | [_], _, h => by simp at h
  | x :: y :: t, hd, h => by
    have hx := digI_iff.1 (hd x (by simp))
    have hy := digI_iff.1 (hd y (by simp))
    obtain ⟨i1, i2, i3⟩ := pack_nib t (fun z hz => hd z (by simp [hz])) (by simp only [List.length_cons] at h; omega)
    refine ⟨?_, by simp only [pack, List.length_cons]; omega, fun b hb => ?_⟩
    · rw [pack, nib_cons, i1]
      have e1 : 48 + ((x - 48) * 16 + (y - 48)) / 16 = x := by omega
      have e2 : 48 + ((x - 48) * 16 + (y - 48)) % 16 = y := by omega
      rw [e1, e2]; rfl
    · rcases List.mem_cons.1 hb with rfl | hb
      · omega
      · exact i3 b hb
theorem nib_or (d e : Int) (h1 : 0 ≤ d ∧ d ≤ 9) (h2 : 0 ≤ e ∧ e ≤ 9) : bor .u8 (bshl .u8 d 4) e = d * 16 + e := by
  have key : ∀ a b : Fin 10, bor .u8 (bshl .u8 ((a.val : Nat) : Int) 4) ((b.val : Nat) : Int) = ((a.val : Nat) : Int) * 16 + ((b.val : Nat) : Int) := by decide +kernel
  have := key ⟨d.toNat, by omega⟩ ⟨e.toNat, by omega⟩
  have e1 : ((d.toNat : Nat) : Int) = d := by omega
  have e2 : ((e.toNat : Nat) : Int) = e := by omega
  simpa only [e1, e2] using this
theorem pack_loop {L : Nat → Int → List Int → Option (List Int)} (s : ByteArray) (hs : s.size ≤ 4000000) (hd : ∀ x ∈ sbytes s, digI x = true) (h0 : ∀ n v w, L (n + 1) v w = if (decide (v < (s.size : Int))) = true then
     if (decide (0 ≤ v)) = true then
     if (decide ((v : Int) < (s.size : Int))) = true then
     if (decide (0 ≤ i64 (v + 1))) = true then
     if (decide ((i64 (v + 1) : Int) < (s.size : Int))) = true then
     if (capOk (w.length + 1)) = true then
     L n (i64 (v + 2)) (w ++ [bor .u8 (bshl .u8 (u8 ((sAt s v) - 48)) 4) (u8 ((sAt s (i64 (v + 1))) - 48))])
     else none
     else none
     else none
     else none
     else none
     else
     some w) : ∀ (n v : Nat) (w : List Int), v ≤ s.size → (s.size - v) % 2 = 0 → s.size - v < n → w.length + s.size ≤ 100000000 + v → L n (v : Int) w = some (w ++ pack ((sbytes s).drop v))
  | 0, v, w, _, _, hf, _ => by omega
  | n + 1, v, w, h, hp, hf, hw => by
    rw [h0]
    by_cases hv : v < s.size
    · have hl : v + 1 < (sbytes s).length := by rw [sbytes_len]; omega
      have g0 : (sbytes s)[v] = sAt s (v : Int) := by
        have := sAt_get s hv
        rw [List.getElem?_eq_getElem (by omega)] at this
        exact Option.some.inj this
      have g1 : (sbytes s)[v + 1] = sAt s ((v + 1 : Nat) : Int) := by
        have := sAt_get s (i := v + 1) (by omega)
        rw [List.getElem?_eq_getElem hl] at this
        exact Option.some.inj this
      have d0 := digI_iff.1 (hd _ (List.getElem_mem (show v < (sbytes s).length by omega)))
      have d1 := digI_iff.1 (hd _ (List.getElem_mem hl))
      rw [g0] at d0
      rw [g1] at d1
      rw [List.drop_eq_getElem_cons (show v < (sbytes s).length by omega), g0, List.drop_eq_getElem_cons hl, g1, pack]
      have hi' : i64 ((v : Int) + 1) = ((v + 1 : Nat) : Int) := by rw [i64_of (by omega) (by omega)]; omega
      have hi2 : i64 ((v : Int) + 2) = ((v + 2 : Nat) : Int) := by rw [i64_of (by omega) (by omega)]; omega
      simp only [hi', hi2]
      generalize sAt s (v : Int) = x at *
      generalize sAt s ((v + 1 : Nat) : Int) = y at *
      have u0 : u8 (x - 48) = x - 48 := u8_of (by omega) (by omega)
      have u1 : u8 (y - 48) = y - 48 := u8_of (by omega) (by omega)
      have ih := pack_loop s hs hd h0 n (v + 2) (w ++ [(x - 48) * 16 + (y - 48)]) (by omega) (by omega) (by omega) (by simp; omega)
      simp only [show (v : Int) < (s.size : Int) by omega, show (0 : Int) ≤ (v : Int) by omega, show (0 : Int) ≤ ((v + 1 : Nat) : Int) by omega, show ((v + 1 : Nat) : Int) < (s.size : Int) by omega, decide_true, if_true, u0, u1,
        nib_or (x - 48) (y - 48) (by omega) (by omega), capOk_of (show w.length + 1 ≤ 274877906944 by omega), ih, List.append_assoc]
      rfl
    · have : (sbytes s).drop v = [] := List.drop_eq_nil_of_le (by rw [sbytes_len]; omega)
      rw [this]
      simp [show ¬ (v : Int) < (s.size : Int) by omega, pack]
theorem impl_PutBcd_val (s : ByteArray) (hd : digB s = true) (hs : s.size ≤ 38) : impl_PutBcd s = some (putB s, true) := by
  have d2 := Digits_i s (by omega)
  obtain ⟨h1, h2⟩ := digB_mem hd
  have hm : Int.tmod (s.size : Int) 2 = (s.size : Int) % 2 := Int.tmod_eq_emod_of_nonneg (by omega)
  unfold impl_PutBcd putB padL
  rw [d2, hm, hd, sbytes_len]
  simp only [Option.bind_some, if_true, show ¬ (38 : Int) < (s.size : Int) by omega, decide_false, Bool.false_eq_true, if_false]
  by_cases hp : s.size % 2 = 1
  · have q1 : ((s.size : Int) % 2 == 1) = true := by rw [beq_iff_eq]; omega
    have q2 : (s.size % 2 == 1) = true := by rw [beq_iff_eq]; exact hp
    have hz : (bs [48] ++ s).size = s.size + 1 := by rw [size_app]; show 1 + s.size = _; omega
    have hb : sbytes (bs [48] ++ s) = 48 :: sbytes s := by rw [sbytes_app]; rfl
    have hL := pack_loop (L := impl_PutBcd_l0 s) (bs [48] ++ s) (by omega) (fun x hx => by
      rw [hb] at hx
      rcases List.mem_cons.1 hx with rfl | hx
      · rfl
      · exact h2 x hx) (fun _ _ _ => rfl) FUEL 0 [] (by omega) (by omega) (by unfold FUEL; omega) (by show 0 + (bs [48] ++ s).size ≤ 100000000 + 0; omega)
    rw [List.drop_zero, hb] at hL
    have hL : impl_PutBcd_l0 s FUEL 0 [] = some (pack (48 :: sbytes s)) := hL
    have hc : (bs [48]).size + s.size ≤ 9223372036854775807 := by show 1 + s.size ≤ _; omega
    simp only [q1, q2, if_true, hc, decide_true, hL, Option.bind_some]
  · have q1 : ((s.size : Int) % 2 == 1) = false := beq_false_of_ne (by omega)
    have q2 : (s.size % 2 == 1) = false := beq_false_of_ne hp
    have hL : impl_PutBcd_l1 s FUEL 0 [] = some (pack (sbytes s)) := pack_loop (L := impl_PutBcd_l1 s) s (by omega) h2 (fun _ _ _ => rfl) FUEL 0 [] (by omega) (by omega) (by unfold FUEL; omega) (by simp; omega)
    simp only [q1, q2, Bool.false_eq_true, if_false, hL, Option.bind_some]
theorem putB_nib {s : ByteArray} (hd : digB s = true) : nib (putB s) = padL (sbytes s) ∧ (putB s).length = (s.size + 1) / 2 ∧ byB (putB s) := by
  obtain ⟨h1, h2⟩ := digB_mem hd
  have hl := sbytes_len s
  unfold putB
  by_cases hp : s.size % 2 = 1
  · have q2 : ((sbytes s).length % 2 == 1) = true := by rw [beq_iff_eq, hl]; exact hp
    have e : padL (sbytes s) = 48 :: sbytes s := by unfold padL; rw [if_pos q2]
    rw [e]
    obtain ⟨i1, i2, i3⟩ := pack_nib (48 :: sbytes s) (fun x hx => by
      rcases List.mem_cons.1 hx with rfl | hx
      · rfl
      · exact h2 x hx) (by simp only [List.length_cons]; omega)
    refine ⟨i1, ?_, i3⟩
    simp only [List.length_cons] at i2
    omega
  · have q2 : ((sbytes s).length % 2 == 1) = false := beq_false_of_ne (by rw [hl]; exact hp)
    have e : padL (sbytes s) = sbytes s := by unfold padL; rw [if_neg (by rw [q2]; simp)]
    rw [e]
    obtain ⟨i1, i2, i3⟩ := pack_nib (sbytes s) h2 (by omega)
    exact ⟨i1, by omega, i3⟩
theorem sect_mid (A M B : List Int) : sect (A ++ (M ++ B)) (A.length : Int) (M.length : Int) = some M := by
  unfold sect
  rw [if_pos (by simp only [Bool.and_eq_true, decide_eq_true_eq, List.length_append]; omega)]
  simp
theorem bcdG_put (A B : List Int) (s : ByteArray) (hd : digB s = true) (hs : s.size ≤ 38) : bcdG (A ++ (putB s ++ B)) (A.length : Int) (s.size : Int) = some (s, (A.length : Int) + (putB s).length) := by
  obtain ⟨h1, h2⟩ := digB_mem hd
  obtain ⟨i1, i2, i3⟩ := putB_nib hd
  have hl := sbytes_len s
  have hn : ((s.size : Int) + 1) / 2 = ((putB s).length : Int) := by omega
  unfold bcdG
  rw [if_pos (by simp only [Bool.and_eq_true, decide_eq_true_eq]; omega), hn, sect_mid]
  have hk : bcdOk (putB s) (s.size : Int) = true := by
    unfold bcdOk
    rw [i1]
    unfold padL
    by_cases hp : s.size % 2 = 1
    · have q2 : ((sbytes s).length % 2 == 1) = true := by rw [beq_iff_eq, hl]; exact hp
      rw [if_pos q2]
      simp only [List.all_cons, List.head?_cons, Bool.and_eq_true, Bool.not_eq_true', Bool.and_eq_false_iff]
      refine ⟨⟨rfl, List.all_eq_true.2 h2⟩, .inr (by simp)⟩
    · have q2 : ((sbytes s).length % 2 == 1) = false := beq_false_of_ne (by rw [hl]; exact hp)
      rw [if_neg (by rw [q2]; simp)]
      have q1 : ((s.size : Int) % 2 == 1) = false := beq_false_of_ne (by omega)
      rw [q1, Bool.false_and, Bool.not_false, Bool.and_true, List.all_eq_true]
      exact h2
  simp only [hk, if_true]
  have hdr : bstr ((nib (putB s)).drop ((nib (putB s)).length - (s.size : Int).toNat)) = s := by
    rw [i1, Int.toNat_natCast]
    unfold padL
    by_cases hp : s.size % 2 = 1
    · have q2 : ((sbytes s).length % 2 == 1) = true := by rw [beq_iff_eq, hl]; exact hp
      rw [if_pos q2, List.length_cons, hl, show s.size + 1 - s.size = 1 by omega]
      exact bstr_sbytes s
    · have q2 : ((sbytes s).length % 2 == 1) = false := beq_false_of_ne (by rw [hl]; exact hp)
      rw [if_neg (by rw [q2]; simp), hl, show s.size - s.size = 0 by omega]
      exact bstr_sbytes s
  rw [hdr]
theorem numF_app (n : Int) (a b : List Int) : numF n (a ++ b) = numF (numF n a) b := by unfold numF; rw [List.foldl_append]
theorem numF_dec (u : Nat) : numF 0 ((Lib.decDigits u).map fun b => (b.toNat : Int)) = (u : Int) := by
  induction u using Nat.strongRecOn with
  | _ u ih =>
    rw [Lib.decDigits]
    split
    · rename_i h
      simp only [List.map_cons, List.map_nil, numF, List.foldl_cons, List.foldl_nil]
      rw [UInt8.toNat_ofNat']
      omega
    · rename_i h
      rw [List.map_append, numF_app, ih (u / 10) (by omega)]
      simp only [List.map_cons, List.map_nil, numF, List.foldl_cons, List.foldl_nil]
      rw [UInt8.toNat_ofNat']
      omega
theorem numF_zeros (l : List Int) : ∀ k : Nat, numF 0 (List.replicate k 48 ++ l) = numF 0 l
  | 0 => rfl
  | k + 1 => by rw [List.replicate_succ, List.cons_append, numF_cons]; exact numF_zeros l k
theorem repeat_one (c : UInt8) : ∀ k : Nat, Lib.repeatL [c] k = List.replicate k c
  | 0 => rfl
  | k + 1 => by rw [Lib.repeatL, repeat_one c k]; rfl
def wideT (n : Nat) (d : Nat) : ByteArray := mkB (List.replicate (d - (Lib.decDigits n).length) 48 ++ Lib.decDigits n)
theorem dec_len (n d : Nat) (hd : 1 ≤ d) (h : n < 10 ^ d) : 1 ≤ (Lib.decDigits n).length ∧ (Lib.decDigits n).length ≤ d := by
  obtain ⟨m, rfl⟩ : ∃ m, d = m + 1 := ⟨d - 1, by omega⟩
  refine ⟨?_, decDigits_len m n h⟩
  rw [Lib.decDigits]; split <;> simp
theorem wideT_ok (n d : Nat) (hd : 1 ≤ d) (h : n < 10 ^ d) : (wideT n d).size = d ∧ digB (wideT n d) = true ∧ numL (sbytes (wideT n d)) = (n : Int) := by
  obtain ⟨l1, l2⟩ := dec_len n d hd h
  have hz : (wideT n d).size = d := by unfold wideT; rw [mkB_size]; simp; omega
  have hb : sbytes (wideT n d) = List.replicate (d - (Lib.decDigits n).length) 48 ++ (Lib.decDigits n).map (fun b => (b.toNat : Int)) := by
    unfold sbytes wideT
    rw [mkB_list, List.map_append, List.map_replicate]
    rfl
  refine ⟨hz, ?_, ?_⟩
  · unfold digB
    rw [hz, decide_eq_true (show 0 < d by omega), Bool.true_and, List.all_eq_true, hb]
    intro x hx
    rw [List.mem_append] at hx
    rcases hx with hx | hx
    · rw [List.mem_replicate] at hx
      rw [hx.2]; rfl
    · rw [List.mem_map] at hx
      obtain ⟨b, hb, rfl⟩ := hx
      have := decDigits_dig n b hb
      exact digI_iff.2 (by omega)
  · unfold numL
    rw [hb, numF_zeros, numF_dec]
theorem impl_Wide_val (n d : Nat) (hd : 1 ≤ d) (hd2 : d ≤ 18) (h : n < 10 ^ d) : impl_Wide (n : Int) (d : Int) = some (wideT n d) := by
  obtain ⟨l1, l2⟩ := dec_len n d hd h
  have hb : n < 10 ^ 18 := Nat.lt_of_lt_of_le h (Nat.pow_le_pow_right (by decide) hd2)
  have hit : Lib.itoa (n : Int) = Lib.decDigits n := by unfold Lib.itoa; rw [if_neg (by omega), Int.toNat_natCast]
  have hz : (⟨(Lib.decDigits n).toArray⟩ : ByteArray).size = (Lib.decDigits n).length := rfl
  unfold impl_Wide strconv_Itoa strings_Repeat
  rw [if_pos (by simp only [Bool.and_eq_true, decide_eq_true_eq]; omega), hit, within_val]
  have hw : (decide ((1 : Int) ≤ (d : Int)) && decide ((d : Int) ≤ 18)) = true := by simp only [Bool.and_eq_true, decide_eq_true_eq]; omega
  have e1 : i64 ((d : Int) - ((Lib.decDigits n).length : Int)) = ((d - (Lib.decDigits n).length : Nat) : Int) := by rw [i64_of (by omega) (by omega)]; omega
  simp only [Option.bind_some, hz, show ¬ (n : Int) < 0 by omega, decide_false, Bool.false_eq_true, if_false, hw, if_true, show ¬ (d : Int) < ((Lib.decDigits n).length : Int) by omega, e1, Int.toNat_natCast]
  have hs1 : (bs [48]).size = 1 := rfl
  rw [if_pos (by simp only [Bool.and_eq_true, decide_eq_true_eq, hs1]; omega), Option.bind_some]
  have er : repP (bs [48]) ((d - (Lib.decDigits n).length : Nat) : Int) = mkB (List.replicate (d - (Lib.decDigits n).length) 48) := by
    unfold repP
    rw [Int.toNat_natCast]
    show (⟨(Lib.repeatL [48] _).toArray⟩ : ByteArray) = _
    rw [repeat_one]; rfl
  rw [er]
  have hc : (mkB (List.replicate (d - (Lib.decDigits n).length) 48)).size + (Lib.decDigits n).length ≤ 9223372036854775807 := by rw [mkB_size, List.length_replicate]; omega
  simp only [hz, hc, decide_true, if_true]
  congr 1
theorem impl_PutLen_val (n d : Nat) (hd : d = 2 ∨ d = 3) (h : n ≤ 60) : impl_PutLen (n : Int) (d : Int) = some (putB (wideT n d), true) := by
  have hp : n < 10 ^ d := by rcases hd with rfl | rfl <;> omega
  obtain ⟨w1, w2, w3⟩ := wideT_ok n d (by omega) hp
  unfold impl_PutLen
  rw [within_val, impl_Wide_val n d (by omega) (by omega) hp]
  have hw : (decide ((2 : Int) ≤ (d : Int)) && decide ((d : Int) ≤ 3)) = true := by simp only [Bool.and_eq_true, decide_eq_true_eq]; omega
  simp only [Option.bind_some, hw, if_true, impl_PutBcd_val (wideT n d) w2 (by omega)]
def lenB (no : Int) (n : Nat) : List Int := putB (wideT n (fwid no).toNat)
/-- A field written. -/
def putF (no : Int) (s : ByteArray) : List Int :=
  if (fkind no == 1) = true then putB s else if (fkind no == 2) = true then sbytes s else if (fkind no == 3) = true then lenB no s.size ++ putB s else lenB no s.size ++ sbytes s
theorem fwid_two (no : Int) : fwid no = 2 ∨ fwid no = 3 := by unfold fwid; split <;> simp
theorem impl_lenDigits_val (no : Int) : impl_lenDigits no = some (fwid no) := by
  obtain ⟨k1, s1⟩ := FieldKind_val no
  unfold impl_lenDigits fwid
  rw [k1, Option.bind_some]
  rcases tf (fkind no == 5) with q | q <;> simp [q]
theorem fok_kinds {no : Int} {s : ByteArray} (h : fok no s = true) : 1 ≤ s.size ∧ s.size ≤ 60 ∧ fkind no ≠ 0 ∧ ((fkind no = 1 ∨ fkind no = 3) → digB s = true ∧ (fkind no = 1 → (s.size : Int) = fsize no) ∧ (s.size : Int) ≤ fsize no) ∧
    ((fkind no = 2 ∨ fkind no = 4 ∨ fkind no = 5) → prtB s = true ∧ (fkind no = 2 → (s.size : Int) = fsize no) ∧ (s.size : Int) ≤ fsize no) ∧ (fkind no = 1 → s.size ≤ 12) ∧ (fkind no = 3 → s.size ≤ 19) := by
  have hb := Row_b no
  have h12 : fkind no = 1 → fsize no ≤ 12 := fun hk => by
    by_cases hm : no ∈ noCases
    · have key : ∀ n ∈ noCases, fkind n = 1 → fsize n ≤ 12 := by decide +kernel
      exact key no hm hk
    · have := frow_none hm
      unfold fkind at hk
      rw [this] at hk
      cases hk
  have h19 : fkind no = 3 → fsize no ≤ 19 := fun hk => by
    by_cases hm : no ∈ noCases
    · have key : ∀ n ∈ noCases, fkind n = 3 → fsize n ≤ 19 := by decide +kernel
      exact key no hm hk
    · have := frow_none hm
      unfold fkind at hk
      rw [this] at hk
      cases hk
  unfold fok at h
  rcases kinds no with k | k | k | k | k | k
  · rw [k] at h
    exact absurd h (by simp)
  · rw [k] at h
    simp at h
    have := digB_pos h.1
    refine ⟨by omega, by omega, by omega, fun _ => ⟨h.1, fun _ => h.2, by omega⟩, fun hh => by omega, fun _ => by have := h12 k; omega, fun hh => by omega⟩
  · rw [k] at h
    simp at h
    refine ⟨by omega, by omega, by omega, fun hh => by omega, fun _ => ⟨h.1, fun _ => h.2, by omega⟩, fun hh => by omega, fun hh => by omega⟩
  · rw [k] at h
    simp at h
    have := digB_pos h.1
    refine ⟨by omega, by omega, by omega, fun _ => ⟨h.1, fun hh => by omega, h.2⟩, fun hh => by omega, fun hh => by omega, fun _ => by have := h19 k; omega⟩
  · rw [k] at h
    simp at h
    refine ⟨by omega, by omega, by omega, fun hh => by omega, fun _ => ⟨h.1, fun hh => by omega, h.2.2⟩, fun hh => by omega, fun hh => by omega⟩
  · rw [k] at h
    simp at h
    refine ⟨by omega, by omega, by omega, fun hh => by omega, fun _ => ⟨h.1, fun hh => by omega, h.2.2⟩, fun hh => by omega, fun hh => by omega⟩
theorem lenB_val (no : Int) (n : Nat) (h : n ≤ 60) : impl_PutLen (n : Int) (fwid no) = some (lenB no n, true) ∧ (lenB no n).length ≤ 2 ∧ byB (lenB no n) := by
  unfold lenB
  have hf := fwid_two no
  obtain ⟨d, hd⟩ : ∃ d : Nat, fwid no = (d : Int) := ⟨(fwid no).toNat, by omega⟩
  have hd2 : d = 2 ∨ d = 3 := by omega
  rw [hd, Int.toNat_natCast]
  have hp : n < 10 ^ d := by rcases hd2 with rfl | rfl <;> omega
  obtain ⟨w1, w2, w3⟩ := wideT_ok n d (by omega) hp
  obtain ⟨i1, i2, i3⟩ := putB_nib w2
  exact ⟨impl_PutLen_val n d hd2 h, by rw [i2, w1]; omega, i3⟩
theorem impl_PutField_val (no : Int) (s : ByteArray) (h : fok no s = true) : impl_PutField no s = some (putF no s, true) ∧ (putF no s).length ≤ 62 ∧ byB (putF no s) := by
  obtain ⟨f1, f2, f3, f4, f5, f6, f7⟩ := fok_kinds h
  have fo := FieldOk_i no s (by omega)
  obtain ⟨k1, s1⟩ := FieldKind_val no
  obtain ⟨l1, l2, l3⟩ := lenB_val no s.size f2
  have hsl := sbytes_len s
  have hsb := sbytes_by s
  unfold impl_PutField putF
  rw [fo, h, k1, impl_lenDigits_val]
  simp only [Option.bind_some, if_true, show s.size ≤ 9223372036854775807 by omega, decide_true, l1]
  rcases kinds no with k | k | k | k | k | k
  · exact absurd k f3
  · have p1 := impl_PutBcd_val s (f4 (.inl k)).1 (by have := f6 k; omega)
    obtain ⟨i1, i2, i3⟩ := putB_nib (f4 (.inl k)).1
    rw [k]
    simp only [show ((1 : Int) == 1) = true from rfl, if_true, p1, Option.bind_some]
    exact ⟨trivial, by omega, i3⟩
  · rw [k]
    simp only [show ((2 : Int) == 1) = false from rfl, show ((2 : Int) == 2) = true from rfl, show ((2 : Int) == 3) = false from rfl, if_true, Bool.false_eq_true, if_false]
    exact ⟨trivial, by omega, hsb⟩
  · have p1 := impl_PutBcd_val s (f4 (.inr k)).1 (by have := f7 k; omega)
    obtain ⟨i1, i2, i3⟩ := putB_nib (f4 (.inr k)).1
    rw [k]
    simp only [show ((3 : Int) == 1) = false from rfl, show ((3 : Int) == 2) = false from rfl, show ((3 : Int) == 3) = true from rfl, if_true, Bool.false_eq_true, if_false, p1, Option.bind_some, capOk_of (show (lenB no s.size).length + (putB s).length ≤ 274877906944 by omega)]
    refine ⟨trivial, by rw [List.length_append]; omega, fun b hb => ?_⟩
    rcases List.mem_append.1 hb with hb | hb
    · exact l3 b hb
    · exact i3 b hb
  · rw [k]
    simp only [show ((4 : Int) == 1) = false from rfl, show ((4 : Int) == 2) = false from rfl, show ((4 : Int) == 3) = false from rfl, if_true, Bool.false_eq_true, if_false, Option.bind_some, capOk_of (show (lenB no s.size).length + (sbytes s).length ≤ 274877906944 by omega)]
    refine ⟨trivial, by rw [List.length_append]; omega, fun b hb => ?_⟩
    rcases List.mem_append.1 hb with hb | hb
    · exact l3 b hb
    · exact hsb b hb
  · rw [k]
    simp only [show ((5 : Int) == 1) = false from rfl, show ((5 : Int) == 2) = false from rfl, show ((5 : Int) == 3) = false from rfl, if_true, Bool.false_eq_true, if_false, Option.bind_some, capOk_of (show (lenB no s.size).length + (sbytes s).length ≤ 274877906944 by omega)]
    refine ⟨trivial, by rw [List.length_append]; omega, fun b hb => ?_⟩
    rcases List.mem_append.1 hb with hb | hb
    · exact l3 b hb
    · exact hsb b hb
/-- A length is read as it was written. -/
theorem lenG_put (A B : List Int) (no : Int) (n : Nat) (h : n ≤ 60) : lenG (A ++ (lenB no n ++ B)) (A.length : Int) (fwid no) = some ((n : Int), (A.length : Int) + (lenB no n).length) := by
  unfold lenB lenG
  have hf := fwid_two no
  obtain ⟨d, hd⟩ : ∃ d : Nat, fwid no = (d : Int) := ⟨(fwid no).toNat, by omega⟩
  have hd2 : d = 2 ∨ d = 3 := by omega
  rw [hd, Int.toNat_natCast]
  have hp : n < 10 ^ d := by rcases hd2 with rfl | rfl <;> omega
  obtain ⟨w1, w2, w3⟩ := wideT_ok n d (by omega) hp
  have hb := bcdG_put A B (wideT n d) w2 (by omega)
  rw [w1] at hb
  rw [hb, Option.map_some, w3]
theorem txtG_put (A B : List Int) (s : ByteArray) (hp : prtB s = true) : txtG (A ++ (sbytes s ++ B)) ((A.length : Int), (s.size : Int)) = some (s, (A.length : Int) + (s.size : Int)) := by
  unfold txtG
  have := sect_mid A (sbytes s) B
  rw [sbytes_len] at this
  simp only [this]
  rw [if_pos (show (sbytes s).all prtI = true from hp), bstr_sbytes]
theorem fldG_put (A B : List Int) (no : Int) (s : ByteArray) (h : fok no s = true) : fldG (A ++ (putF no s ++ B)) (A.length : Int) no = some (s, (A.length : Int) + (putF no s).length) := by
  obtain ⟨f1, f2, f3, f4, f5, f6, f7⟩ := fok_kinds h
  have hsl := sbytes_len s
  unfold fldG headG varB putF
  rcases kinds no with k | k | k | k | k | k
  · exact absurd k f3
  · rw [k]
    have hz := (f4 (.inl k)).2.1 k
    have hb := bcdG_put A B s (f4 (.inl k)).1 (by have := f6 k; omega)
    simp only [show ((1 : Int) == 0) = false from rfl, show ((1 : Int) == 1) = true from rfl, show ((1 : Int) == 3) = false from rfl, show ((1 : Int) == 4) = false from rfl, show ((1 : Int) == 5) = false from rfl, Bool.or_self, Bool.true_or, if_true, Bool.false_eq_true, if_false]
    rw [← hz]
    exact hb
  · rw [k]
    have hz := (f5 (.inl k)).2.1 k
    have hb := txtG_put A B s (f5 (.inl k)).1
    simp only [show ((2 : Int) == 0) = false from rfl, show ((2 : Int) == 1) = false from rfl, show ((2 : Int) == 2) = true from rfl, show ((2 : Int) == 3) = false from rfl, show ((2 : Int) == 4) = false from rfl, show ((2 : Int) == 5) = false from rfl, Bool.or_self, if_true, Bool.false_eq_true, if_false, hsl]
    rw [← hz]
    exact hb
  · rw [k]
    have hle := (f4 (.inr k)).2.2
    have hL := lenG_put A (putB s ++ B) no s.size f2
    have hb := bcdG_put (A ++ lenB no s.size) B s (f4 (.inr k)).1 (by have := f7 k; omega)
    have ea : A ++ (lenB no s.size ++ (putB s ++ B)) = (A ++ lenB no s.size) ++ (putB s ++ B) := by simp
    simp only [show ((3 : Int) == 0) = false from rfl, show ((3 : Int) == 1) = false from rfl, show ((3 : Int) == 2) = false from rfl, show ((3 : Int) == 3) = true from rfl, show ((3 : Int) == 4) = false from rfl, show ((3 : Int) == 5) = false from rfl, Bool.true_or, Bool.or_true, Bool.or_false, if_true, Bool.false_eq_true, if_false, List.append_assoc, hL, show (1 : Int) ≤ (s.size : Int) by omega, hle, decide_true, Bool.and_self]
    rw [ea, show (A.length : Int) + ((lenB no s.size).length : Int) = ((A ++ lenB no s.size).length : Int) by rw [List.length_append]; omega, hb]
    simp only [List.length_append]
    congr 2
    omega
  · rw [k]
    have hle := (f5 (.inr (.inl k))).2.2
    have hL := lenG_put A (sbytes s ++ B) no s.size f2
    have hb := txtG_put (A ++ lenB no s.size) B s (f5 (.inr (.inl k))).1
    have ea : A ++ (lenB no s.size ++ (sbytes s ++ B)) = (A ++ lenB no s.size) ++ (sbytes s ++ B) := by simp
    simp only [show ((4 : Int) == 0) = false from rfl, show ((4 : Int) == 1) = false from rfl, show ((4 : Int) == 2) = false from rfl, show ((4 : Int) == 3) = false from rfl, show ((4 : Int) == 4) = true from rfl, show ((4 : Int) == 5) = false from rfl, Bool.true_or, Bool.or_true, Bool.or_false, Bool.or_self, if_true, Bool.false_eq_true, if_false, List.append_assoc, hL, show (1 : Int) ≤ (s.size : Int) by omega, hle, decide_true, Bool.and_self]
    rw [ea, show (A.length : Int) + ((lenB no s.size).length : Int) = ((A ++ lenB no s.size).length : Int) by rw [List.length_append]; omega, hb]
    simp only [List.length_append, hsl]
    congr 2
    omega
  · rw [k]
    have hle := (f5 (.inr (.inr k))).2.2
    have hL := lenG_put A (sbytes s ++ B) no s.size f2
    have hb := txtG_put (A ++ lenB no s.size) B s (f5 (.inr (.inr k))).1
    have ea : A ++ (lenB no s.size ++ (sbytes s ++ B)) = (A ++ lenB no s.size) ++ (sbytes s ++ B) := by simp
    simp only [show ((5 : Int) == 0) = false from rfl, show ((5 : Int) == 1) = false from rfl, show ((5 : Int) == 2) = false from rfl, show ((5 : Int) == 3) = false from rfl, show ((5 : Int) == 4) = false from rfl, show ((5 : Int) == 5) = true from rfl, Bool.true_or, Bool.or_true, Bool.or_false, Bool.or_self, if_true, Bool.false_eq_true, if_false, List.append_assoc, hL, show (1 : Int) ≤ (s.size : Int) by omega, hle, decide_true, Bool.and_self]
    rw [ea, show (A.length : Int) + ((lenB no s.size).length : Int) = ((A ++ lenB no s.size).length : Int) by rw [List.length_append]; omega, hb]
    simp only [List.length_append, hsl]
    congr 2
    omega
def ascI (v : Int) : List Int → Prop
  | [] => True
  | x :: t => v ≤ x ∧ ascI (x + 1) t
theorem ascI_ge : ∀ {l : List Int} {v : Int}, ascI v l → ∀ x ∈ l, v ≤ x
  | x :: t, v, h, y, hy => by
    rcases List.mem_cons.1 hy with rfl | hy
    · exact h.1
    · have := ascI_ge h.2 y hy
      have := h.1
      omega
theorem ascI_le {l : List Int} {v u : Int} (h : ascI v l) (hu : u ≤ v) : ascI u l := by
  cases l with
  | nil => trivial
  | cons x t => exact ⟨by have := h.1; omega, h.2⟩
theorem filt_asc : ∀ (n v : Nat) (l : List Int), ascI (v : Int) l → (∀ x ∈ l, x < (v : Int) + n) → ((List.range' v n).filter (fun k : Nat => l.contains (k : Int))).map (fun k : Nat => (k : Int)) = l
  | 0, v, l, h, hl => by
    cases l with
    | nil => rfl
    | cons x t => have := h.1; have := hl x (by simp); omega
  | n + 1, v, l, h, hl => by
    rw [List.range'_succ, List.filter_cons]
    cases l with
    | nil => simp
    | cons x t =>
      by_cases hx : x = (v : Int)
      · subst hx
        have h0 : (((v : Nat) : Int) :: t).contains (v : Int) = true := by simp
        rw [if_pos h0, List.map_cons]
        have hf : (List.range' (v + 1) n).filter (fun k : Nat => (((v : Nat) : Int) :: t).contains (k : Int)) = (List.range' (v + 1) n).filter (fun k : Nat => t.contains (k : Int)) := by
          apply List.filter_congr
          intro k hk
          have := List.mem_range'.1 hk
          rw [List.contains_cons]
          have : ((k : Int) == (v : Int)) = false := beq_false_of_ne (by omega)
          rw [this, Bool.false_or]
        rw [hf, filt_asc n (v + 1) t (by have := h.2; exact_mod_cast this) (fun y hy => by have := hl y (by simp [hy]); omega)]
      · have hv : (x :: t).contains (v : Int) = false := by
          rw [← Bool.not_eq_true, List.contains_iff_mem]
          intro hm
          have := ascI_ge h _ hm
          rcases List.mem_cons.1 hm with e | hm
          · exact hx e.symm
          · have := ascI_ge h.2 _ hm
            have := h.1
            omega
        rw [if_neg (by rw [hv]; simp)]
        exact filt_asc n (v + 1) (x :: t) ⟨by have := h.1; omega, h.2⟩ (fun y hy => by have := hl y hy; omega)
theorem bit_or (b : Int) (hb : 0 ≤ b ∧ b ≤ 255) (i j : Nat) (hi : i < 8) (hj : j < 8) : (bor .u8 b (bshr .u8 128 (i : Int)) / 2 ^ (7 - j) % 2 == 1) = (decide (i = j) || (b / 2 ^ (7 - j) % 2 == 1)) ∧ 0 ≤ bor .u8 b (bshr .u8 128 (i : Int)) ∧ bor .u8 b (bshr .u8 128 (i : Int)) ≤ 255 := by
  have key : ∀ (n : Fin 256) (i j : Fin 8), (bor .u8 ((n.val : Nat) : Int) (bshr .u8 128 ((i.val : Nat) : Int)) / 2 ^ (7 - j.val) % 2 == 1) = (decide (i.val = j.val) || (((n.val : Nat) : Int) / 2 ^ (7 - j.val) % 2 == 1)) ∧ 0 ≤ bor .u8 ((n.val : Nat) : Int) (bshr .u8 128 ((i.val : Nat) : Int)) ∧ bor .u8 ((n.val : Nat) : Int) (bshr .u8 128 ((i.val : Nat) : Int)) ≤ 255 := by decide +kernel
  have := key ⟨b.toNat, by omega⟩ ⟨i, hi⟩ ⟨j, hj⟩
  have e : ((b.toNat : Nat) : Int) = b := by omega
  simpa only [e] using this
/-- A row of eight bytes holds just these bits. -/
def holds8 (r : List Int) (l : List Int) : Prop := r.length = 8 ∧ byB r ∧ ∀ k : Nat, 1 ≤ k → k ≤ 64 → bitB r k = l.contains (k : Int)
theorem PutBits_l0_val (L : List Int) : ∀ (t d r : List Int), holds8 r d → (∀ x ∈ t, 1 ≤ x ∧ x ≤ 64) → ∃ y, impl_PutBits_l0 L t r = some y ∧ holds8 y (d ++ t)
  | [], d, r, h, _ => ⟨r, rfl, by rw [List.append_nil]; exact h⟩
  | x :: t, d, r, ⟨hl, hb, hk⟩, ht => by
    have hx := ht x (by simp)
    obtain ⟨v, rfl⟩ : ∃ v : Nat, x = (v : Int) := ⟨x.toNat, by omega⟩
    obtain ⟨e1, e2, e3, e4, _⟩ := bits_arith (v := v) (by omega) (by omega)
    have hq : (v - 1) / 8 < r.length := by omega
    have hg : r[(v - 1) / 8]? = some r[(v - 1) / 8] := List.getElem?_eq_getElem hq
    have hxb := hb _ (List.getElem_mem hq)
    have hor := fun j hj => bit_or r[(v - 1) / 8] hxb ((v - 1) % 8) j (by omega) hj
    unfold impl_PutBits_l0
    rw [within_val]
    have hw : (decide ((1 : Int) ≤ (v : Int)) && decide ((v : Int) ≤ 64)) = true := by simp only [Bool.and_eq_true, decide_eq_true_eq]; omega
    simp only [Option.bind_some, hw, if_true, e1, e2, e3, e4, Int.natCast_nonneg, decide_true, Int.toNat_natCast, hg, show ¬ (((v - 1) % 8 : Nat) : Int) < 0 by omega, not_false_eq_true]
    have h2 : holds8 (r.set ((v - 1) / 8) (bor .u8 r[(v - 1) / 8] (bshr .u8 128 (((v - 1) % 8 : Nat) : Int)))) (d ++ [(v : Int)]) := by
      refine ⟨by rw [List.length_set]; exact hl, fun y hy => ?_, fun k hk1 hk2 => ?_⟩
      · rcases List.mem_or_eq_of_mem_set hy with hy | rfl
        · exact hb y hy
        · exact (hor 0 (by omega)).2
      · have hkk := hk k hk1 hk2
        unfold bitB at hkk ⊢
        rw [List.getD_eq_getElem?_getD, List.getElem?_set]
        have hc : (d ++ [(v : Int)]).contains (k : Int) = (d.contains (k : Int) || decide (k = v)) := by
          rw [List.contains_append]
          congr 1
          by_cases hkv : k = v
          · subst hkv; simp
          · have : ¬ (k : Int) = (v : Int) := by omega
            simp [hkv, this]
        rw [hc, ← hkk]
        by_cases hi : (v - 1) / 8 = (k - 1) / 8
        · rw [if_pos hi, if_pos hq, Option.getD_some, (hor ((k - 1) % 8) (by omega)).1, List.getD_eq_getElem?_getD, ← hi, hg, Option.getD_some, Bool.or_comm]
          congr 1
          by_cases hkv : k = v
          · subst hkv; simp
          · have : ¬ (v - 1) % 8 = (k - 1) % 8 := by omega
            simp [hkv, this]
        · rw [if_neg hi]
          have : ¬ k = v := fun e => hi (by rw [e])
          rw [List.getD_eq_getElem?_getD, decide_eq_false this, Bool.or_false]
    obtain ⟨y, y1, y2⟩ := PutBits_l0_val L t (d ++ [(v : Int)]) _ h2 (fun z hz => ht z (by simp [hz]))
    exact ⟨y, y1, by simpa using y2⟩
theorem PutBits_val (l : List Int) (hl : l.length ≤ 1000) (h : ∀ x ∈ l, 1 ≤ x ∧ x ≤ 64) : ∃ y, impl_PutBits l = some y ∧ holds8 y l := by
  have h0 : holds8 (List.replicate 8 0) [] := by
    refine ⟨by simp, fun b hb => ?_, fun k hk1 hk2 => ?_⟩
    · rw [List.mem_replicate] at hb
      omega
    · have key : ∀ k : Fin 65, bitB (List.replicate 8 0) k.val = false := by decide +kernel
      rw [key ⟨k, by omega⟩]
      rfl
  obtain ⟨y, y1, y2⟩ := PutBits_l0_val l l [] (List.replicate 8 0) h0 h
  refine ⟨y, ?_, by simpa using y2⟩
  unfold impl_PutBits
  simp only [Nat.zero_le, decide_true, if_true, show capOk 8 = true from rfl, capOk_of (show l.length ≤ 274877906944 by omega), y1, Option.bind_some]
theorem bitsL_of {r l : List Int} (h : holds8 r l) (a : List Int) (ha : ascI 1 a) (hle : ∀ x ∈ a, x ≤ 64) (hm : ∀ k : Int, l.contains k = a.contains k) : bitsL r = a := by
  unfold bitsL bitsF
  have hf : (List.range' 1 (65 - 1)).filter (bitB r) = (List.range' 1 64).filter (fun k : Nat => a.contains (k : Int)) := by
    apply List.filter_congr
    intro k hk
    have := List.mem_range'.1 hk
    rw [h.2.2 k (by omega) (by omega), hm]
  rw [hf]
  exact filt_asc 64 1 a ha (fun x hx => by have := hle x hx; omega)
theorem bitG_put (A B : List Int) {r l : List Int} (h : holds8 r l) (a : List Int) (ha : ascI 1 a) (hle : ∀ x ∈ a, x ≤ 64) (hm : ∀ k : Int, l.contains k = a.contains k) : bitG (A ++ (r ++ B)) (A.length : Int) = some (a, (A.length : Int) + 8) := by
  unfold bitG
  have hs : sect (A ++ (r ++ B)) (A.length : Int) 8 = some r := by
    have := sect_mid A r B
    rw [h.1] at this
    exact this
  rw [hs, Option.map_some, bitsL_of h a ha hle hm]
/-- The fields' numbers rise. -/
theorem msgL_asc : ∀ {l : List Field} {p : Option Int}, msgL p l = true → (∀ f ∈ l, fok f.No f.Text = true) ∧ ascI (match p with | none => 0 | some k => k + 1) (l.map (·.No))
  | [], p, _ => ⟨fun _ h => (by cases h), trivial⟩
  | f :: t, p, h => by
    unfold msgL at h
    simp only [Bool.and_eq_true] at h
    obtain ⟨⟨h1, h2⟩, h3⟩ := h
    obtain ⟨i1, i2⟩ := msgL_asc h3
    have hk := (fok_kinds h1).2.2.1
    refine ⟨fun g hg => ?_, ?_⟩
    · rcases List.mem_cons.1 hg with rfl | hg
      · exact h1
      · exact i1 g hg
    · rw [List.map_cons]
      refine ⟨?_, i2⟩
      cases p with
      | none =>
        have : 2 ≤ f.No := by
          by_cases hm : f.No ∈ noCases
          · have key : ∀ n ∈ noCases, 2 ≤ n := by decide
            exact key _ hm
          · have := frow_none hm
            unfold fkind at hk
            rw [this] at hk
            exact absurd rfl hk
        show (0 : Int) ≤ f.No
        omega
      | some k => 
        simp only [decide_eq_true_eq] at h2
        show k + 1 ≤ f.No
        omega
theorem no_bounds {f : Field} (h : fok f.No f.Text = true) : 2 ≤ f.No ∧ f.No ≤ 103 ∧ known f.No = true := by
  have hk := (fok_kinds h).2.2.1
  by_cases hm : f.No ∈ noCases
  · have key : ∀ n ∈ noCases, 2 ≤ n ∧ n ≤ 103 ∧ known n = true := by decide
    exact key _ hm
  · have := frow_none hm
    unfold fkind at hk
    rw [this] at hk
    exact absurd rfl hk
def lowL (l : List Field) : List Int := (l.filter fun f => decide (f.No ≤ 64)).map (·.No)
def highL (l : List Field) : List Int := (l.filter fun f => !decide (f.No ≤ 64)).map fun f => f.No - 64
def bodyL (l : List Field) : List Int := l.flatMap fun f => putF f.No f.Text
theorem bodyL_len : ∀ {l : List Field}, (∀ f ∈ l, fok f.No f.Text = true) → (bodyL l).length ≤ 62 * l.length ∧ byB (bodyL l)
  | [], _ => ⟨Nat.le_refl _, fun _ h => (by cases h)⟩
  | f :: t, h => by
    obtain ⟨p1, p2, p3⟩ := impl_PutField_val f.No f.Text (h f (by simp))
    obtain ⟨i1, i2⟩ := bodyL_len (l := t) (fun g hg => h g (by simp [hg]))
    have e : bodyL (f :: t) = putF f.No f.Text ++ bodyL t := rfl
    rw [e]
    refine ⟨by rw [List.length_append, List.length_cons]; omega, fun b hb => ?_⟩
    rcases List.mem_append.1 hb with hb | hb
    · exact p3 b hb
    · exact i2 b hb
theorem Encode_l0_val (o : Msg) : ∀ (t : List Field) (a b c : List Int), (∀ f ∈ t, fok f.No f.Text = true) → a.length + t.length ≤ 1000 → b.length + t.length ≤ 1000 → c.length + 62 * t.length ≤ 1000000 → impl_Encode_l0 o t a b c = some (a ++ lowL t, b ++ highL t, c ++ bodyL t)
  | [], a, b, c, _, _, _, _ => by simp [impl_Encode_l0, lowL, highL, bodyL]
  | f :: t, a, b, c, h, ha, hb, hc => by
    have hf := h f (by simp)
    obtain ⟨n1, n2, n3⟩ := no_bounds hf
    obtain ⟨p1, p2, p3⟩ := impl_PutField_val f.No f.Text hf
    simp only [List.length_cons] at ha hb hc
    have e : bodyL (f :: t) = putF f.No f.Text ++ bodyL t := rfl
    unfold impl_Encode_l0
    have ih := fun a' b' h1 h2 => Encode_l0_val o t a' b' (c ++ putF f.No f.Text) (fun g hg => h g (by simp [hg])) h1 h2 (by rw [List.length_append]; omega)
    simp only [p1, Option.bind_some, capOk_of (show c.length + (putF f.No f.Text).length ≤ 274877906944 by omega), capOk_of (show a.length + 1 ≤ 274877906944 by omega), capOk_of (show b.length + 1 ≤ 274877906944 by omega), if_true]
    by_cases g : 64 < f.No
    · have e1 : i64 (f.No - 64) = f.No - 64 := i64_of (by omega) (by omega)
      simp only [g, decide_true, if_true, e1]
      rw [ih a (b ++ [f.No - 64]) (by omega) (by simp; omega), e]
      have gl : lowL (f :: t) = lowL t := by unfold lowL; rw [List.filter_cons, if_neg (by simp; omega)]
      have gh : highL (f :: t) = (f.No - 64) :: highL t := by unfold highL; rw [List.filter_cons, if_pos (by simp; omega)]; rfl
      rw [gl, gh]
      simp
    · simp only [g, decide_false, Bool.false_eq_true, if_false]
      rw [ih (a ++ [f.No]) b (by simp; omega) (by omega), e]
      have gl : lowL (f :: t) = f.No :: lowL t := by unfold lowL; rw [List.filter_cons, if_pos (by simp; omega)]; rfl
      have gh : highL (f :: t) = highL t := by unfold highL; rw [List.filter_cons, if_neg (by simp; omega)]
      rw [gl, gh]
      simp
theorem asc_len : ∀ {l : List Int} {v : Int}, ascI v l → (∀ x ∈ l, x ≤ 103) → v ≤ 104 → (l.length : Int) ≤ 104 - v
  | [], v, _, _, hv => by simp; omega
  | x :: t, v, h, hl, hv => by
    have := hl x (by simp)
    have := asc_len h.2 (fun y hy => hl y (by simp [hy])) (by omega)
    have := h.1
    simp only [List.length_cons]
    omega
theorem low_asc : ∀ {l : List Field} {v : Int}, ascI v (l.map (·.No)) → ascI v (lowL l) ∧ (∀ x ∈ lowL l, x ≤ 64)
  | [], v, _ => ⟨trivial, fun _ h => (by cases h)⟩
  | f :: t, v, h => by
    rw [List.map_cons] at h
    obtain ⟨i1, i2⟩ := low_asc (l := t) h.2
    unfold lowL at i1 i2 ⊢
    rw [List.filter_cons]
    by_cases g : f.No ≤ 64
    · rw [if_pos (decide_eq_true g), List.map_cons]
      refine ⟨⟨h.1, i1⟩, fun x hx => ?_⟩
      rcases List.mem_cons.1 hx with rfl | hx
      · exact g
      · exact i2 x hx
    · rw [if_neg (by simp; omega)]
      exact ⟨ascI_le i1 (by have := h.1; omega), i2⟩
theorem high_asc : ∀ {l : List Field} {v : Int}, ascI v (l.map (·.No)) → 65 ≤ v → lowL l = [] ∧ ascI (v - 64) (highL l) ∧ (highL l).map (fun x => x + 64) = l.map (·.No)
  | [], v, _, _ => ⟨rfl, trivial, rfl⟩
  | f :: t, v, h, hv => by
    rw [List.map_cons] at h
    have h1 := h.1
    obtain ⟨i1, i2, i3⟩ := high_asc (l := t) h.2 (by omega)
    have gl : lowL (f :: t) = lowL t := by unfold lowL; rw [List.filter_cons, if_neg (by simp; omega)]
    have gh : highL (f :: t) = (f.No - 64) :: highL t := by unfold highL; rw [List.filter_cons, if_pos (by simp; omega)]; rfl
    rw [gl, gh]
    refine ⟨i1, ⟨by omega, ?_⟩, ?_⟩
    · have : f.No + 1 - 64 = f.No - 64 + 1 := by omega
      rw [← this]; exact i2
    · rw [List.map_cons, i3, List.map_cons]
      congr 1
      omega
theorem nos_split : ∀ {l : List Field} {v : Int}, ascI v (l.map (·.No)) → lowL l ++ (highL l).map (fun x => x + 64) = l.map (·.No) ∧ ascI 1 (highL l)
  | [], v, _ => ⟨rfl, trivial⟩
  | f :: t, v, h => by
    by_cases g : f.No ≤ 64
    · rw [List.map_cons] at h
      obtain ⟨i1, i2⟩ := nos_split (l := t) h.2
      have gl : lowL (f :: t) = f.No :: lowL t := by unfold lowL; rw [List.filter_cons, if_pos (decide_eq_true g)]; rfl
      have gh : highL (f :: t) = highL t := by unfold highL; rw [List.filter_cons, if_neg (by simp; omega)]
      rw [gl, gh, List.map_cons, ← i1]
      exact ⟨rfl, i2⟩
    · have h' : ascI 65 ((f :: t).map (·.No)) := by rw [List.map_cons] at h ⊢; exact ⟨by omega, h.2⟩
      obtain ⟨i1, i2, i3⟩ := high_asc h' (Int.le_refl _)
      rw [i1, i3]
      exact ⟨rfl, i2⟩
theorem fldsG_put : ∀ (l : List Field) (A : List Int), (∀ f ∈ l, fok f.No f.Text = true) → fldsG (A ++ bodyL l) (l.map (·.No)) (A.length : Int) = some (l, ((A ++ bodyL l).length : Int))
  | [], A, _ => by simp [fldsG, bodyL]
  | f :: t, A, h => by
    have e : bodyL (f :: t) = putF f.No f.Text ++ bodyL t := rfl
    have hp := fldG_put A (bodyL t) f.No f.Text (h f (by simp))
    have ih := fldsG_put t (A ++ putF f.No f.Text) (fun g hg => h g (by simp [hg]))
    rw [List.append_assoc] at ih
    rw [List.map_cons, fldsG, e, hp]
    simp only
    rw [show (A.length : Int) + ((putF f.No f.Text).length : Int) = ((A ++ putF f.No f.Text).length : Int) by rw [List.length_append]; omega, ih]
/-- What is written is read again. -/
theorem Encode_parse (m : Msg) (h : msgB m = true) : ∃ b, impl_Encode m = some (b, true) ∧ byB b ∧ b.length ≤ 10000 ∧ parseG b = (m, 0) := by
  have h' := h
  unfold msgB at h
  simp only [Bool.and_eq_true] at h
  obtain ⟨⟨h1, h2⟩, h3⟩ := h
  have hz : m.Mti.size = 4 := by have : (m.Mti.size : Int) = 4 := by simpa using h2
                                 omega
  obtain ⟨f1, f2⟩ := msgL_asc h3
  have f2 : ascI 0 (m.List.map (·.No)) := f2
  have hnb : ∀ x ∈ m.List.map (·.No), 2 ≤ x ∧ x ≤ 103 ∧ known x = true := fun x hx => by
    rw [List.mem_map] at hx
    obtain ⟨f, hf, rfl⟩ := hx
    exact no_bounds (f1 f hf)
  have hasc : ascI 2 (m.List.map (·.No)) := by
    cases hq : m.List.map (·.No) with
    | nil => trivial
    | cons x t =>
      rw [hq] at f2 hnb
      exact ⟨(hnb x (by simp)).1, f2.2⟩
  have hlen : m.List.length ≤ 102 := by
    have := asc_len hasc (fun x hx => (hnb x hx).2.1) (by omega)
    rw [List.length_map] at this
    omega
  have hmk := MsgOk_i m (by omega) (by omega) (fun f hf => by have := (fok_kinds (f1 f hf)).2.1; omega)
  obtain ⟨l1, l2⟩ := low_asc hasc
  obtain ⟨s1, s2⟩ := nos_split hasc
  obtain ⟨b1, b2⟩ := bodyL_len f1
  have hll : (lowL m.List).length ≤ 102 := by unfold lowL; rw [List.length_map]; exact Nat.le_trans (List.length_filter_le _ _) hlen
  have hhl : (highL m.List).length ≤ 102 := by unfold highL; rw [List.length_map]; exact Nat.le_trans (List.length_filter_le _ _) hlen
  have hhb : ∀ x ∈ highL m.List, 1 ≤ x ∧ x ≤ 64 := fun x hx => by
    unfold highL at hx
    rw [List.mem_map] at hx
    obtain ⟨f, hf, rfl⟩ := hx
    have := List.mem_filter.1 hf
    have hb := no_bounds (f1 f this.1)
    have h3 := this.2
    simp at h3
    omega
  have hlb : ∀ x ∈ lowL m.List, 2 ≤ x ∧ x ≤ 64 := fun x hx => ⟨ascI_ge l1 x hx, l2 x hx⟩
  have E := Encode_l0_val m m.List [] [] [] f1 (by simp; omega) (by simp; omega) (by simp; omega)
  simp only [List.nil_append] at E
  have P := impl_PutBcd_val m.Mti h1 (by omega)
  obtain ⟨i1, i2, i3⟩ := putB_nib h1
  rw [hz] at i2
  have hG := fun X => bcdG_put [] X m.Mti h1 (by omega)
  have hG : ∀ X, bcdG (putB m.Mti ++ X) 0 4 = some (m.Mti, 2) := fun X => by
    have := hG X
    rw [hz, i2] at this
    exact this
  have hk : (lowL m.List).filter (fun x => !(x == 1)) = lowL m.List := List.filter_eq_self.2 (fun x hx => by have := hlb x hx; have : (x == 1) = false := beq_false_of_ne (by omega); rw [this]; rfl)
  have hka : (m.List.map (·.No)).all known = true := List.all_eq_true.2 (fun x hx => (hnb x hx).2.2)
  unfold impl_Encode
  rw [hmk, h']
  simp only [Option.bind_some, if_true, capOk_of (show m.List.length ≤ 274877906944 by omega), E, P]
  by_cases hh : highL m.List = []
  · obtain ⟨y, y1, y2⟩ := PutBits_val (lowL m.List) (by omega) (fun x hx => by have := hlb x hx; omega)
    have hc0 : ¬ (0 : Int) < ((highL m.List).length : Int) := by rw [hh]; simp
    simp only [hc0, decide_false, Bool.false_eq_true, if_false, y1, Option.bind_some, capOk_of (show (putB m.Mti).length + y.length ≤ 274877906944 by have := y2.1; omega), if_true,
      capOk_of (show (putB m.Mti ++ y).length + (bodyL m.List).length ≤ 274877906944 by rw [List.length_append]; have := y2.1; omega)]
    refine ⟨_, rfl, ?_, ?_, ?_⟩
    · intro b hb
      rcases List.mem_append.1 hb with hb | hb
      · rcases List.mem_append.1 hb with hb | hb
        · exact i3 b hb
        · exact y2.2.1 b hb
      · exact b2 b hb
    · simp only [List.length_append]
      have := y2.1
      omega
    · have hbit := bitG_put (putB m.Mti) (bodyL m.List) y2 (lowL m.List) (ascI_le l1 (by omega)) l2 (fun _ => rfl)
      rw [i2] at hbit
      have hbit : bitG (putB m.Mti ++ (y ++ bodyL m.List)) 2 = some (lowL m.List, 10) := hbit
      have hany : (lowL m.List).any (fun x => x == 1) = false := by
        rw [List.any_eq_false]
        intro x hx
        have := hlb x hx
        simp
        omega
      have hnos : lowL m.List = m.List.map (·.No) := by rw [hh] at s1; simpa using s1
      unfold parseG
      rw [List.append_assoc, hG]
      simp only
      unfold nosG
      rw [hbit]
      simp only [hany, Bool.false_eq_true, if_false, hk]
      rw [hnos, hka]
      simp only [if_true]
      have hF := fldsG_put m.List (putB m.Mti ++ y) f1
      rw [List.append_assoc] at hF
      have hle : ((putB m.Mti ++ y).length : Int) = 10 := by rw [List.length_append, i2, y2.1]; rfl
      rw [hle] at hF
      rw [hF]
      simp
  · obtain ⟨y, y1, y2⟩ := PutBits_val (lowL m.List ++ [1]) (by simp; omega) (fun x hx => by
      rcases List.mem_append.1 hx with hx | hx
      · have := hlb x hx; omega
      · simp at hx; omega)
    obtain ⟨z, z1, z2⟩ := PutBits_val (highL m.List) (by omega) hhb
    have hc0 : (0 : Int) < ((highL m.List).length : Int) := by
      have : 0 < (highL m.List).length := List.length_pos_iff.2 hh
      omega
    have ye := y2.1
    have ze := z2.1
    simp only [hc0, decide_true, if_true, y1, z1, Option.bind_some, capOk_of (show (lowL m.List).length + 1 ≤ 274877906944 by omega), capOk_of (show (putB m.Mti).length + y.length ≤ 274877906944 by omega),
      capOk_of (show (putB m.Mti ++ y).length + z.length ≤ 274877906944 by rw [List.length_append]; omega), capOk_of (show ((putB m.Mti ++ y) ++ z).length + (bodyL m.List).length ≤ 274877906944 by simp only [List.length_append]; omega)]
    refine ⟨_, rfl, ?_, ?_, ?_⟩
    · intro b hb
      rcases List.mem_append.1 hb with hb | hb
      · rcases List.mem_append.1 hb with hb | hb
        · rcases List.mem_append.1 hb with hb | hb
          · exact i3 b hb
          · exact y2.2.1 b hb
        · exact z2.2.1 b hb
      · exact b2 b hb
    · simp only [List.length_append]
      omega
    · have hbit := bitG_put (putB m.Mti) (z ++ bodyL m.List) y2 (1 :: lowL m.List) ⟨Int.le_refl _, l1⟩ (fun x hx => by
        rcases List.mem_cons.1 hx with rfl | hx
        · decide
        · exact l2 x hx) (fun k => by rw [List.contains_append, List.contains_cons, List.contains_cons, Bool.or_comm]; simp)
      rw [i2] at hbit
      have hbit : bitG (putB m.Mti ++ (y ++ (z ++ bodyL m.List))) 2 = some (1 :: lowL m.List, 10) := hbit
      have hbit2 := bitG_put (putB m.Mti ++ y) (bodyL m.List) z2 (highL m.List) s2 (fun x hx => (hhb x hx).2) (fun _ => rfl)
      have hle : ((putB m.Mti ++ y).length : Int) = 10 := by rw [List.length_append, i2, y2.1]; rfl
      rw [hle, List.append_assoc] at hbit2
      have hbit2 : bitG (putB m.Mti ++ (y ++ (z ++ bodyL m.List))) 10 = some (highL m.List, 18) := hbit2
      have hany : ((1 : Int) :: lowL m.List).any (fun x => x == 1) = true := by simp
      have hk2 : ((1 : Int) :: lowL m.List).filter (fun x => !(x == 1)) = lowL m.List := by rw [List.filter_cons, if_neg (by simp), hk]
      have hl0 : (((highL m.List).length : Int) == 0) = false := beq_false_of_ne (by omega)
      unfold parseG
      simp only [List.append_assoc]
      rw [hG]
      simp only
      unfold nosG
      rw [hbit]
      simp only [hany, if_true, hbit2, hl0, Bool.false_eq_true, if_false, hk2]
      rw [s1, hka]
      simp only [if_true]
      have hF := fldsG_put m.List ((putB m.Mti ++ y) ++ z) f1
      simp only [List.append_assoc] at hF
      have hle2 : ((putB m.Mti ++ (y ++ z)).length : Int) = 18 := by simp only [List.length_append, i2, y2.1, z2.1]; rfl
      rw [hle2] at hF
      rw [hF]
      simp
theorem Row_b3 (no : Int) (h : no ∈ noCases) : fkind no ≠ 0 := by
  have key : ∀ n ∈ noCases, fkind n ≠ 0 := by decide
  exact key no h
def okc (k x : Int) : Bool := if ((k == 1) || (k == 3)) = true then digI x else prtI x
theorem text_loop {L : Nat → List Int → Int → Int → ByteArray → Option (ByteArray × List Int × Int × Int)} (k : Int) (T : Nat) (hT : T ≤ 1000) (h0 : ∀ n b i h w, L (n + 1) b i h w =
   if (decide ((w.size : Int) < (T : Int))) = true then
   if (k == 1) = true then
   (spec_l01Below (l01Cur.mk b i h) 10).bind fun r5 =>
   if (decide (w.size + (bstr [u8 (i64 (48 + r5.1))]).size ≤ 9223372036854775807)) = true then
   L n r5.2.b r5.2.i r5.2.h (w ++ (bstr [u8 (i64 (48 + r5.1))]))
   else none
   else
   if (k == 3) = true then
   (spec_l01Below (l01Cur.mk b i h) 10).bind fun r6 =>
   if (decide (w.size + (bstr [u8 (i64 (48 + r6.1))]).size ≤ 9223372036854775807)) = true then
   L n r6.2.b r6.2.i r6.2.h (w ++ (bstr [u8 (i64 (48 + r6.1))]))
   else none
   else
   (spec_l01Str (l01Cur.mk b i h) [bs [97], bs [98], bs [55], bs [32], bs [126]]).bind fun r7 =>
   if (decide (w.size + r7.1.size ≤ 9223372036854775807)) = true then
   L n r7.2.1.b r7.2.1.i r7.2.1.h (w ++ r7.1)
   else none
   else
   some (w, b, i, h)) : ∀ (n : Nat) (b : List Int) (i h : Int) (w : ByteArray), cur (l01Cur.mk b i h) → w.size ≤ T → T - w.size < n → (∀ x ∈ sbytes w, okc k x = true) → ∃ y b' i' h', L n b i h w = some (y, b', i', h') ∧ cur (l01Cur.mk b' i' h') ∧ y.size = T ∧ ∀ x ∈ sbytes y, okc k x = true
  | 0, b, i, h, w, _, _, hf, _ => by omega
  | n + 1, b, i, h, w, hc, hw, hf, hk => by
    rw [h0]
    by_cases hs : w.size < T
    · have step : ∀ (c : l01Cur) (z : ByteArray), cur c → z.size = 1 → (∀ x ∈ sbytes z, okc k x = true) → ∃ y b' i' h', L n c.b c.i c.h (w ++ z) = some (y, b', i', h') ∧ cur (l01Cur.mk b' i' h') ∧ y.size = T ∧ ∀ x ∈ sbytes y, okc k x = true := fun c z hc hz hx =>
        text_loop k T hT h0 n c.b c.i c.h (w ++ z) hc (by rw [size_app]; omega) (by rw [size_app]; omega) (fun x hx2 => by
          rw [sbytes_app] at hx2
          rcases List.mem_append.1 hx2 with h | h
          · exact hk x h
          · exact hx x h)
      simp only [show (w.size : Int) < (T : Int) by omega, decide_true, if_true]
      obtain ⟨r, c1, e1, k1, a1, b1⟩ := Below_tot _ 10 hc
      have b1 := b1 (by omega)
      have hdig : (bstr [u8 (i64 (48 + r))]).size = 1 := rfl
      have hcc : w.size + (bstr [u8 (i64 (48 + r))]).size ≤ 9223372036854775807 := by rw [hdig]; omega
      have hds : sbytes (bstr [u8 (i64 (48 + r))]) = [48 + r] := by
        rw [i64_of (by omega) (by omega), u8_of (by omega) (by omega)]
        exact sbytes_bstr (fun x hx => by simp at hx; omega)
      rcases tf (k == 1) with q1 | q1
      · simp only [q1, if_true, e1, Option.bind_some, hcc, decide_true]
        exact step c1 _ k1 rfl (fun x hx => by
          rw [hds] at hx
          simp at hx
          unfold okc
          rw [if_pos (by rw [q1]; rfl)]
          exact digI_iff.2 (by omega))
      · rcases tf (k == 3) with q3 | q3
        · simp only [q1, q3, if_true, Bool.false_eq_true, if_false, e1, Option.bind_some, hcc, decide_true]
          exact step c1 _ k1 rfl (fun x hx => by
            rw [hds] at hx
            simp at hx
            unfold okc
            rw [if_pos (by rw [q3, Bool.or_true])]
            exact digI_iff.2 (by omega))
        · obtain ⟨s, c2, e2, k2, m2⟩ := Str_tot _ [bs [97], bs [98], bs [55], bs [32], bs [126]] hc (by decide) (by decide)
          have hz : s.size = 1 ∧ ∀ x ∈ sbytes s, prtI x = true := by
            have key : ∀ s ∈ [bs [97], bs [98], bs [55], bs [32], bs [126]], s.size = 1 ∧ ∀ x ∈ sbytes s, prtI x = true := by decide +kernel
            exact key s m2
          have hcs : w.size + s.size ≤ 9223372036854775807 := by omega
          simp only [q1, q3, Bool.false_eq_true, if_false, e2, Option.bind_some, hcs, decide_true, if_true]
          exact step c2 s k2 hz.1 (fun x hx => by
            unfold okc
            rw [if_neg (by rw [q1, q3]; simp)]
            exact hz.2 x hx)
    · simp only [show ¬ (w.size : Int) < (T : Int) by omega, decide_false, Bool.false_eq_true, if_false]
      exact ⟨w, b, i, h, rfl, hc, by omega, hk⟩
theorem l03Text_tot (c : l01Cur) (no : Int) (h : cur c) (hn : fkind no ≠ 0) : ∃ s c', spec_l03Text c no = some (s, c') ∧ cur c' ∧ fok no s = true := by
  have hb := Row_b no
  have hF : ∀ (s : ByteArray) (T : Nat), 1 ≤ T → (T : Int) ≤ fsize no → (fkind no = 1 ∨ fkind no = 2 → (T : Int) = fsize no) → s.size = T → (∀ x ∈ sbytes s, okc (fkind no) x = true) → fok no s = true := fun s T h1 h2 h3 h4 h5 => by
    unfold fok digB prtB
    rcases kinds no with k | k | k | k | k | k
    · exact absurd k hn
    · rw [k] at h5 ⊢
      have := h3 (.inl k)
      simp only [show ((1 : Int) == 1) = true from rfl, if_true]
      rw [h4, decide_eq_true (show 0 < T by omega), show (sbytes s).all digI = true from List.all_eq_true.2 (fun x hx => h5 x hx), ← this]
      simp
    · rw [k] at h5 ⊢
      have := h3 (.inr k)
      simp only [show ((2 : Int) == 1) = false from rfl, show ((2 : Int) == 2) = true from rfl, if_true, Bool.false_eq_true, if_false]
      rw [h4, show (sbytes s).all prtI = true from List.all_eq_true.2 (fun x hx => h5 x hx), ← this]
      simp
    · rw [k] at h5 ⊢
      simp only [show ((3 : Int) == 1) = false from rfl, show ((3 : Int) == 2) = false from rfl, show ((3 : Int) == 3) = true from rfl, if_true, Bool.false_eq_true, if_false]
      rw [h4, decide_eq_true (show 0 < T by omega), show (sbytes s).all digI = true from List.all_eq_true.2 (fun x hx => h5 x hx), decide_eq_true h2]
      rfl
    · rw [k] at h5 ⊢
      simp only [show ((4 : Int) == 1) = false from rfl, show ((4 : Int) == 2) = false from rfl, show ((4 : Int) == 3) = false from rfl, show ((4 : Int) == 4) = true from rfl, Bool.true_or, if_true, Bool.false_eq_true, if_false]
      rw [h4, show (sbytes s).all prtI = true from List.all_eq_true.2 (fun x hx => h5 x hx), decide_eq_true h2, decide_eq_true (show (1 : Int) ≤ (T : Int) by omega)]
      rfl
    · rw [k] at h5 ⊢
      simp only [show ((5 : Int) == 1) = false from rfl, show ((5 : Int) == 2) = false from rfl, show ((5 : Int) == 3) = false from rfl, show ((5 : Int) == 4) = false from rfl, show ((5 : Int) == 5) = true from rfl, Bool.false_or, if_true, Bool.false_eq_true, if_false]
      rw [h4, show (sbytes s).all prtI = true from List.all_eq_true.2 (fun x hx => h5 x hx), decide_eq_true h2, decide_eq_true (show (1 : Int) ≤ (T : Int) by omega)]
      rfl
  have he : ∀ x ∈ sbytes (bs []), okc (fkind no) x = true := fun x hx => by cases hx
  unfold spec_l03Text
  rw [Row_s, Row_k]
  simp only [Option.bind_some]
  by_cases hv : fkind no = 3 ∨ fkind no = 4 ∨ fkind no = 5
  · have hw : ∃ w, spec_l03Width (fkind no) = some w ∧ 0 < w := by
      rcases hv with k | k | k <;> rw [k]
      · exact ⟨2, rfl, by decide⟩
      · exact ⟨2, rfl, by decide⟩
      · exact ⟨3, rfl, by decide⟩
    obtain ⟨w, w1, w2⟩ := hw
    obtain ⟨r, c1, e1, k1, a1, b1⟩ := Below_tot c (fsize no) h
    have b1 := b1 (by omega)
    obtain ⟨T, hT⟩ : ∃ T : Nat, 1 + r = (T : Int) := ⟨(1 + r).toNat, by omega⟩
    have eT : i64 (1 + r) = (T : Int) := by rw [i64_of (by omega) (by omega), hT]
    obtain ⟨y, b', i', h', y1, y2, y3, y4⟩ := text_loop (L := spec_l03Text_l0 (fkind no) (r, c1)) (fkind no) T (by omega) (fun n b i h w => by rw [← eT]; rfl) FUEL c1.b c1.i c1.h (bs []) k1 (by show 0 ≤ T; omega) (by show T - 0 < FUEL; unfold FUEL; omega) he
    simp only [w1, w2, Option.bind_some, decide_true, if_true, e1, y1]
    exact ⟨y, _, rfl, y2, hF y T (by omega) (by omega) (fun hh => by omega) y3 y4⟩
  · have w1 : spec_l03Width (fkind no) = some 0 := by
      rcases kinds no with k | k | k | k | k | k
      · exact absurd k hn
      · rw [k]; rfl
      · rw [k]; rfl
      · exact absurd (.inl k) hv
      · exact absurd (.inr (.inl k)) hv
      · exact absurd (.inr (.inr k)) hv
    obtain ⟨T, hT⟩ : ∃ T : Nat, fsize no = (T : Int) := ⟨(fsize no).toNat, by omega⟩
    obtain ⟨y, b', i', h', y1, y2, y3, y4⟩ := text_loop (L := spec_l03Text_l1 (fsize no) (fkind no)) (fkind no) T (by omega) (fun n b i h w => by rw [← hT]; rfl) FUEL c.b c.i c.h (bs []) h (by show 0 ≤ T; omega) (by show T - 0 < FUEL; unfold FUEL; omega) he
    simp only [w1, Option.bind_some, show ¬ (0 : Int) < 0 by omega, decide_false, Bool.false_eq_true, if_false, y1]
    exact ⟨y, _, rfl, y2, hF y T (by omega) (by omega) (fun _ => hT.symm) y3 y4⟩
theorem FieldNos_val : spec_FieldNos = some noCases := by decide +kernel
theorem msgL_snoc {f : Field} (hf : fok f.No f.Text = true) : ∀ {l : List Field} {p : Option Int}, msgL p l = true → (∀ g ∈ l, g.No < f.No) → (∀ k, p = some k → k < f.No) → msgL p (l ++ [f]) = true
  | [], p, _, _, hp => by
    rw [List.nil_append]
    unfold msgL
    cases p with
    | none => simp [hf, msgL]
    | some k => simp [hf, hp k rfl, msgL]
  | g :: t, p, h, hl, hp => by
    rw [List.cons_append]
    unfold msgL at h ⊢
    simp only [Bool.and_eq_true] at h ⊢
    exact ⟨h.1, msgL_snoc hf h.2 (fun z hz => hl z (by simp [hz])) (fun k hk => by
      have := hl g (by simp)
      injection hk with hk
      omega)⟩
theorem l04Draw_l0_tot (r1 : ByteArray × l01Cur × List ByteArray) (r2 : List Int) : ∀ (t : List Int) (b : List Int) (i h : Int) (w : List Field), cur (l01Cur.mk b i h) → (∀ x ∈ t, x ∈ noCases) → t.Pairwise (fun x y => x < y) → msgL none w = true → (∀ g ∈ w, ∀ x ∈ t, g.No < x) → w.length + t.length ≤ 1000 →
    ∃ b' i' h' y, spec_l04Draw_l0 r1 r2 t b i h w = some (b', i', h', y) ∧ cur (l01Cur.mk b' i' h') ∧ msgL none y = true ∧ y.length ≤ w.length + t.length
  | [], b, i, h, w, hc, _, _, hm, _, _ => ⟨b, i, h, w, rfl, hc, hm, by simp⟩
  | x :: t, b, i, h, w, hc, hx, hp, hm, hl, hw => by
    obtain ⟨q, c1, e1, k1⟩ := Once_tot _ 3 hc
    have hk := Row_b3 x (hx x (by simp))
    have hp2 := List.pairwise_cons.1 hp
    simp only [List.length_cons] at hw
    unfold spec_l04Draw_l0
    rw [e1]
    simp only [Option.bind_some]
    cases q with
    | false =>
      obtain ⟨b', i', h', y, y1, y2, y3, y4⟩ := l04Draw_l0_tot r1 r2 t c1.b c1.i c1.h w k1 (fun z hz => hx z (by simp [hz])) hp2.2 hm (fun g hg z hz => hl g hg z (by simp [hz])) (by omega)
      exact ⟨b', i', h', y, y1, y2, y3, by simp only [List.length_cons]; omega⟩
    | true =>
      obtain ⟨s, c2, e2, k2, fo⟩ := l03Text_tot c1 x k1 hk
      simp only [if_true, e2, Option.bind_some, capOk_of (show w.length + 1 ≤ 274877906944 by omega)]
      obtain ⟨b', i', h', y, y1, y2, y3, y4⟩ := l04Draw_l0_tot r1 r2 t c2.b c2.i c2.h (w ++ [⟨x, s⟩]) k2 (fun z hz => hx z (by simp [hz])) hp2.2
        (msgL_snoc (f := ⟨x, s⟩) fo hm (fun g hg => hl g hg x (by simp)) (fun k hk => by cases hk)) (fun g hg z hz => by
          rcases List.mem_append.1 hg with hg | hg
          · exact hl g hg z (by simp [hz])
          · simp only [List.mem_singleton] at hg
            subst hg
            exact hp2.1 z hz) (by simp; omega)
      exact ⟨b', i', h', y, y1, y2, y3, by simp only [List.length_append, List.length_cons, List.length_nil] at y4 ⊢; omega⟩
def mtiL : List ByteArray := [bs [48, 49, 48, 48], bs [48, 50, 48, 48], bs [48, 50, 50, 48], bs [48, 49, 49, 48], bs [48, 56, 48, 48], bs [49, 50, 51, 52], bs [48, 48, 48, 48]]
theorem l04Draw_tot (c : l01Cur) (h : cur c) : ∃ m c', spec_l04Draw c = some (m, c') ∧ cur c' ∧ msgB m = true ∧ m.Mti ∈ mtiL ∧ m.List.length ≤ 16 := by
  obtain ⟨s, c1, e1, k1, m1⟩ := Str_tot c mtiL h (by decide) (by decide)
  have hp : noCases.Pairwise (fun x y => x < y) := by decide
  obtain ⟨b', i', h', y, y1, y2, y3, y4⟩ := l04Draw_l0_tot (s, c1, mtiL) noCases noCases c1.b c1.i c1.h [] k1 (fun x hx => hx) hp rfl (fun g hg => by cases hg) (by decide)
  have hmti : ∀ s ∈ mtiL, digB s = true ∧ s.size = 4 := by decide +kernel
  obtain ⟨d1, d2⟩ := hmti s m1
  unfold spec_l04Draw
  show ∃ m c', ((spec_l01Str c mtiL).bind _) = _ ∧ _
  rw [e1, Option.bind_some, FieldNos_val, Option.bind_some, if_pos (show capOk noCases.length = true from rfl), y1]
  have hn : noCases.length = 16 := rfl
  have y5 : y.length ≤ 16 := by simp only [List.length_nil] at y4; omega
  refine ⟨⟨s, y⟩, _, rfl, y2, ?_, m1, y5⟩
  unfold msgB
  rw [y3, d1, d2]; rfl
theorem MakeMsg_tot (code : List Int) (h : code.length ≤ 1048576) : ∃ m, spec_MakeMsg code = some m ∧ msgB m = true ∧ m.Mti ∈ mtiL ∧ m.List.length ≤ 16 := by
  obtain ⟨c, e, k⟩ := New_tot code h
  obtain ⟨m, c', e2, k2, m1, m2, m3⟩ := l04Draw_tot c k
  unfold spec_MakeMsg
  rw [e, Option.bind_some, e2]
  exact ⟨m, rfl, m1, m2, m3⟩
/-- A strict weak order. -/
def SwB {α : Type} (lt : α → α → Bool) : Prop := (∀ a b, lt a b = true → lt b a = false) ∧ ∀ a b c, lt a b = false → lt b c = false → lt a c = false
theorem SwB.trans {α : Type} {lt : α → α → Bool} (h : SwB lt) {a b c : α} (h1 : lt a b = true) (h2 : lt b c = true) : lt a c = true := by
  rcases hx : lt a c with _ | _
  · have := h.2 a c b hx (h.1 _ _ h2)
    rw [h1] at this; cases this
  · rfl
def noL : List Int := [2, 3, 4, 7, 11, 37, 38, 39, 41, 49, 54, 102, 103]
def fit1 : ByteArray := bs [104, 49, 32, 32, 32, 32]
/-- What the reply holds in a field. -/
def repF (m : Msg) (code no : Int) : Option ByteArray :=
  if (no == 38) = true then (if (code == 0) = true then some fit1 else none) else if (no == 39) = true then some (rsT code) else if (no == 54) = true then none else fieldG m.List no
def repL (g : Int → Option ByteArray) (l : List Int) : List Field := l.filterMap fun k => (g k).map (Field.mk k)
theorem repL_cons (g : Int → Option ByteArray) (k : Int) (t : List Int) : repL g (k :: t) = (match g k with | none => [] | some s => [Field.mk k s]) ++ repL g t := by
  unfold repL
  rw [List.filterMap_cons]
  cases g k <;> rfl
theorem repL_mem {g : Int → Option ByteArray} {l : List Int} {f : Field} (h : f ∈ repL g l) : f.No ∈ l ∧ g f.No = some f.Text := by
  unfold repL at h
  rw [List.mem_filterMap] at h
  obtain ⟨k, hk, e⟩ := h
  rw [Option.map_eq_some_iff] at e
  obtain ⟨s, hs, rfl⟩ := e
  exact ⟨hk, hs⟩
theorem repL_len (g : Int → Option ByteArray) (l : List Int) : (repL g l).length ≤ l.length := List.length_filterMap_le _ _
theorem repL_get (g : Int → Option ByteArray) (no : Int) : ∀ {l : List Int}, l.Pairwise (fun x y => x < y) → fieldG (repL g l) no = if l.contains no = true then g no else none
  | [], _ => rfl
  | k :: t, h => by
    have hp := List.pairwise_cons.1 h
    have ih := repL_get g no hp.2
    rw [repL_cons, List.contains_cons]
    by_cases e : no = k
    · subst e
      have hnt : t.contains no = false := by
        rw [← Bool.not_eq_true, List.contains_iff_mem]
        intro hm
        have := hp.1 no hm
        omega
      rw [hnt] at ih
      cases hg : g no with
      | none => simp only [List.nil_append]; rw [ih]; simp
      | some s => simp [fieldG]
    · have e1 : (no == k) = false := beq_false_of_ne e
      have e2 : (k == no) = false := beq_false_of_ne (Ne.symm e)
      rw [e1, Bool.false_or, ← ih]
      cases hg : g k with
      | none => rfl
      | some s =>
        unfold fieldG
        rw [List.cons_append, List.find?_cons]
        simp [e2]
theorem repL_msg (g : Int → Option ByteArray) : ∀ {l : List Int} {p : Option Int}, l.Pairwise (fun x y => x < y) → (∀ k, p = some k → ∀ x ∈ l, k < x) → (∀ k ∈ l, ∀ s, g k = some s → fok k s = true) → msgL p (repL g l) = true
  | [], _, _, _, _ => rfl
  | k :: t, p, h, hp, hf => by
    have hp2 := List.pairwise_cons.1 h
    rw [repL_cons]
    cases hg : g k with
    | none => exact repL_msg g hp2.2 (fun q hq x hx => hp q hq x (by simp [hx])) (fun x hx => hf x (by simp [hx]))
    | some s =>
      have ih := repL_msg g (p := some k) hp2.2 (fun q hq x hx => by injection hq with hq; subst hq; exact hp2.1 x hx) (fun x hx => hf x (by simp [hx]))
      rw [List.cons_append, List.nil_append]
      unfold msgL
      simp only [Bool.and_eq_true]
      refine ⟨⟨hf k (by simp) s hg, ?_⟩, ih⟩
      cases p with
      | none => rfl
      | some q => exact decide_eq_true (hp q rfl k (by simp))
theorem fieldG_some {l : List Field} {no : Int} {s : ByteArray} (h : fieldG l no = some s) : ∃ f ∈ l, f.No = no ∧ f.Text = s := by
  unfold fieldG at h
  rw [Option.map_eq_some_iff] at h
  obtain ⟨f, hf, rfl⟩ := h
  have := List.find?_some hf
  exact ⟨f, List.mem_of_find?_eq_some hf, by simpa using this, rfl⟩
theorem FieldFit_one : impl_FieldFit 38 (bs [104, 49]) = some fit1 := by decide +kernel
theorem Reply_l0_val (m : Msg) (code : Int) (mti : ByteArray) (hl : m.List.length ≤ 1000) : ∀ (n v : Nat) (w : List Field), v ≤ 13 → 13 - v < n → w.length + (13 - v) ≤ 1000 →
    impl_Reply_l0 m code (bs [104, 49]) (bs []) n mti (v : Int) w = some (mti, w ++ repL (repF m code) (noL.drop v))
  | 0, v, w, _, hf, _ => by omega
  | n + 1, v, w, hv, hf, hw => by
    unfold impl_Reply_l0
    by_cases h : v < 13
    · have hlt : v < noL.length := h
      have hg : noL[((v : Int)).toNat]? = some noL[v] := by rw [Int.toNat_natCast]; exact List.getElem?_eq_getElem hlt
      have hi' : i64 ((v : Int) + 1) = ((v + 1 : Nat) : Int) := by rw [i64_of (by omega) (by omega)]; omega
      have ih := fun w' hw' => Reply_l0_val m code mti hl n (v + 1) w' (by omega) (by omega) hw'
      have hE : ∀ k s, impl_Reply_1 k s (Msg.mk mti w) = some (Msg.mk mti (w ++ [Field.mk k s])) := fun k s => by
        unfold impl_Reply_1
        rw [if_pos (capOk_of (show w.length + 1 ≤ 274877906944 by omega))]
      rw [List.drop_eq_getElem_cons hlt, repL_cons]
      simp only [show (v : Int) < 13 by omega, decide_true, if_true, show (0 : Int) ≤ (v : Int) by omega]
      show ((noL[((v : Int)).toNat]?).bind _) = _
      rw [hg]
      have hne : (bs [104, 49] == bs []) = false := by decide +kernel
      have hee : (bs [] == bs []) = true := by decide +kernel
      generalize noL[v] = x at *
      simp only [Option.bind_some, FieldOf_i m x (by omega), hi', FieldFit_one, RsText_i, hE, hne, hee, Bool.false_eq_true, if_false, if_true]
      rw [show repF m code x = (if (x == 38) = true then (if (code == 0) = true then some fit1 else none) else if (x == 39) = true then some (rsT code) else if (x == 54) = true then none else fieldG m.List x) from rfl]
      have app : ∀ k s, impl_Reply_l0 m code (bs [104, 49]) (bs []) n mti ((v + 1 : Nat) : Int) (w ++ [Field.mk k s]) = some (mti, w ++ ([Field.mk k s] ++ repL (repF m code) (noL.drop (v + 1)))) := fun k s => by
        rw [ih (w ++ [Field.mk k s]) (by simp; omega), List.append_assoc]
      have skip : impl_Reply_l0 m code (bs [104, 49]) (bs []) n mti ((v + 1 : Nat) : Int) w = some (mti, w ++ ([] ++ repL (repF m code) (noL.drop (v + 1)))) := by
        rw [ih w (by omega), List.nil_append]
      rcases tf (x == 38) with a | a
      · have : x = 38 := by simpa using a
        subst this
        rcases tf (code == 0) with q | q
        · simp only [a, q, if_true]
          exact app 38 fit1
        · simp only [a, q, if_true, Bool.false_eq_true, if_false]
          exact skip
      · rcases tf (x == 39) with a2 | a2
        · have : x = 39 := by simpa using a2
          subst this
          simp only [a, a2, if_true, Bool.false_eq_true, if_false]
          exact app 39 _
        · rcases tf (x == 54) with a3 | a3
          · simp only [a, a2, a3, if_true, Bool.false_eq_true, if_false]
            exact skip
          · simp only [a, a2, a3, Bool.false_eq_true, if_false]
            cases hq : fieldG m.List x with
            | none => simp only [fieldR, Bool.false_eq_true, if_false]; exact skip
            | some s => simp only [fieldR, if_true]; exact app x s
    · have hv13 : v = 13 := by omega
      subst hv13
      have hd : noL.drop 13 = [] := rfl
      rw [hd]
      simp [repL]
def mtiW (s : ByteArray) : Bool := match impl_ReplyMti s, spec_ReplyMti s with
  | some a, some b => (a == b) && ((a == bs []) || (digB a && (a.size == 4)))
  | _, _ => false
theorem ReplyMti_val (s : ByteArray) (h : s ∈ mtiL) : ∃ r, impl_ReplyMti s = some r ∧ spec_ReplyMti s = some r ∧ ((r == bs []) = true ∨ (r == bs []) = false ∧ digB r = true ∧ r.size = 4) := by
  have key : ∀ s ∈ mtiL, mtiW s = true := by decide +kernel
  have hk := key s h
  unfold mtiW at hk
  split at hk
  · rename_i a b ha hb
    simp only [Bool.and_eq_true, Bool.or_eq_true, beq_iff_eq] at hk
    have e : a = b := by have := hk.1; rw [beqB, decide_eq_true_eq] at this; exact this
    refine ⟨a, ha, by rw [hb, e], ?_⟩
    rcases tf (a == bs []) with q | q
    · exact .inl q
    · rcases hk.2 with g | g
      · rw [g] at q; cases q
      · exact .inr ⟨q, g.1, g.2⟩
  · cases hk
theorem rs_tab (code : Int) (h0 : 0 ≤ code) (h1 : code < 11) : (rsT code == bs []) = false ∧ fok 39 (rsT code) = true ∧ imax (rsI (rsT code)) 0 = code ∧ 0 ≤ rsI (rsT code) := by
  have key : ∀ n : Fin 11, (rsT ((n.val : Nat) : Int) == bs []) = false ∧ fok 39 (rsT ((n.val : Nat) : Int)) = true ∧ imax (rsI (rsT ((n.val : Nat) : Int))) 0 = ((n.val : Nat) : Int) ∧ 0 ≤ rsI (rsT ((n.val : Nat) : Int)) := by decide +kernel
  have := key ⟨code.toNat, by omega⟩
  have e : ((code.toNat : Nat) : Int) = code := by omega
  simpa only [e] using this
theorem Reply_loop (m r : Msg) (code : Int) (a : Msg × Bool) (ha : a.1 = r) (x5 : List Int × Bool) (x6 : Int × Bool) (hm : m.List.length ≤ 1000) (hr : r.List.length ≤ 1000) (he : ∀ x ∈ ([2, 3, 4, 7, 11, 37, 41, 49, 102, 103] : List Int), fieldG m.List x = fieldG r.List x) :
    ∀ (n v : Nat), v ≤ 10 → 10 - v < n → laws_FnReply_l0 m code a x5 x6 n (v : Int) = some (.out ())
  | 0, v, _, hf => by omega
  | n + 1, v, hv, hf => by
    unfold laws_FnReply_l0
    by_cases h : v < 10
    · have hlt : v < ([2, 3, 4, 7, 11, 37, 41, 49, 102, 103] : List Int).length := h
      have hg : ([2, 3, 4, 7, 11, 37, 41, 49, 102, 103] : List Int)[((v : Int)).toNat]? = some ([2, 3, 4, 7, 11, 37, 41, 49, 102, 103] : List Int)[v] := by rw [Int.toNat_natCast]; exact List.getElem?_eq_getElem hlt
      have hi' : i64 ((v : Int) + 1) = ((v + 1 : Nat) : Int) := by rw [i64_of (by omega) (by omega)]; omega
      have hx := he _ (List.getElem_mem hlt)
      have ih := Reply_loop m r code a ha x5 x6 hm hr he n (v + 1) (by omega) (by omega)
      rw [ha]
      simp only [show (v : Int) < 10 by omega, decide_true, if_true, show (0 : Int) ≤ (v : Int) by omega, hg, Option.bind_some, FieldOf_i m _ (show m.List.length ≤ 4000000 by omega), FieldOf_i r _ (show r.List.length ≤ 4000000 by omega), ← hx, hi', beq_rfl, ih]
      simp
    · have : v = 10 := by omega
      subst this
      simp
namespace Pure
theorem FnReply (o : List Int) (h0 : W22 o) : laws_FnReply o = some true := by
  unfold laws_FnReply
  by_cases s1 : (1048576 : Int) < (o.length : Int)
  · simp only [s1, decide_true, if_true]
  simp only [s1, decide_false, Bool.false_eq_true, if_false]
  obtain ⟨m, e1, mb, mt, ml⟩ := MakeMsg_tot o (by omega)
  obtain ⟨code, e2, c0, c1⟩ := MakeNum_tot o 11 (by omega)
  have c1 := c1 (by omega)
  obtain ⟨rm, r1, r2, rr⟩ := ReplyMti_val m.Mti mt
  obtain ⟨t1, t2, t3, t4⟩ := rs_tab code c0 c1
  have mb' := mb
  unfold msgB at mb'
  simp only [Bool.and_eq_true, beq_iff_eq] at mb'
  obtain ⟨f1, _⟩ := msgL_asc mb'.2
  have hmk := MsgOk_i m (by omega) (by omega) (fun f hf => by have := (fok_kinds (f1 f hf)).2.1; omega)
  rw [mb] at hmk
  simp only [e1, e2, Option.bind_some, r2]
  unfold impl_Reply
  simp only [hmk, Option.bind_some, if_true, r1, RsText_i, t1, Bool.false_eq_true, if_false]
  rcases rr with q | ⟨q, d1, d2⟩
  · simp only [q, if_true, Option.bind_some, Bool.false_eq_true, if_false]
    rfl
  · have L := Reply_l0_val m code rm (by omega) FUEL 0 [] (by omega) (by unfold FUEL; omega) (by simp)
    have L : impl_Reply_l0 m code (bs [104, 49]) (bs []) FUEL rm 0 [] = some (rm, repL (repF m code) noL) := L
    have hlen := repL_len (repF m code) noL
    have hn13 : noL.length = 13 := rfl
    have hfok : ∀ k ∈ noL, ∀ s, repF m code k = some s → fok k s = true := fun k hk s hs => by
      unfold repF at hs
      split at hs
      · rename_i a
        have : k = 38 := by simpa using a
        subst this
        split at hs
        · obtain rfl := Option.some.inj hs
          decide +kernel
        · cases hs
      · split at hs
        · rename_i a
          have : k = 39 := by simpa using a
          subst this
          obtain rfl := Option.some.inj hs
          exact t2
        · split at hs
          · cases hs
          · obtain ⟨f, hf, rfl, rfl⟩ := fieldG_some hs
            exact f1 f hf
    have hpw : noL.Pairwise (fun x y => x < y) := by decide
    have hml : msgL none (repL (repF m code) noL) = true := repL_msg (repF m code) hpw (fun k hk => by cases hk) hfok
    have hbo : msgB (Msg.mk rm (repL (repF m code) noL)) = true := by
      unfold msgB
      rw [hml, d1, d2]; rfl
    have hmk2 := MsgOk_i (Msg.mk rm (repL (repF m code) noL)) (by show rm.size ≤ _; omega) (by show (repL (repF m code) noL).length ≤ _; omega) (fun f hf => by
      have hf := repL_mem hf
      have := (fok_kinds (hfok f.No hf.1 f.Text hf.2)).2.1
      omega)
    rw [hbo] at hmk2
    obtain ⟨b, b1, b2, b3, b4⟩ := Encode_parse _ hbo
    have hrc := ReplyCode_i b b2 (by omega)
    have hget := fun no => repL_get (repF m code) no hpw
    have h39 : fieldG (repL (repF m code) noL) 39 = some (rsT code) := by rw [hget 39]; rfl
    have hrep : repG b = (code, true) := by
      unfold repG
      rw [b4]
      simp only [h39]
      rw [t3, decide_eq_true t4]
      rfl
    rw [hrep] at hrc
    have hloop : ∀ x6, laws_FnReply_l0 m code (Msg.mk rm (repL (repF m code) noL), true) (b, true) x6 FUEL 0 = some (.out ()) := fun x6 =>
      Reply_loop m (Msg.mk rm (repL (repF m code) noL)) code (Msg.mk rm (repL (repF m code) noL), true) rfl (b, true) x6 (by omega) (by show (repL (repF m code) noL).length ≤ 1000; omega) (fun x hx => by
        show _ = fieldG (repL (repF m code) noL) x
        rw [hget x]
        simp only [List.mem_cons, List.not_mem_nil, or_false] at hx
        rcases hx with rfl | rfl | rfl | rfl | rfl | rfl | rfl | rfl | rfl | rfl <;> rfl) FUEL 0 (by omega) (by unfold FUEL; omega)
    have h38 := FieldOf_i (Msg.mk rm (repL (repF m code) noL)) 38 (by show (repL (repF m code) noL).length ≤ _; omega)
    simp only [q, Bool.false_eq_true, if_false, Option.bind_some, L, hmk2, if_true, b1, hrc, hloop, Lo.elim, h38, beq_self_eq_true]
    show some ((fieldR (fieldG (repL (repF m code) noL) 38)).2 == (code == 0)) = some true
    rw [hget 38]
    have : (if noL.contains 38 = true then repF m code 38 else none) = (if (code == 0) = true then some fit1 else none) := rfl
    rw [this]
    rcases tf (code == 0) with z | z
    · rw [z]; rfl
    · rw [z]; rfl
end Pure
end Go.Proofs.YtbophjkjmlenpaaDoorM
