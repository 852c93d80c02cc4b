/- FnRing: what is added to a ring is counted and summed where it is young enough. Conditions: none beside the statement's own. -/
import Derived.Test.YtbhcahiafibhfaaRNxp
import Derived.Test.YtbhcahiafibhfaaOFnRing
namespace Go.Proofs.Ytbhcahiafibhfaa.Pure
open Go Go.RowKit Go.Proofs.Ytbhcahiafibhfaa.RN Go.Proofs.YtbhcahiafibhfaaW.PrintWords Go.Proofs.YtbhcahiafibhfaaW.PrintLast

theorem ok_iff (s h : Int) (c d : List Int) : ringOkB s h c d = true ↔ (c ++ d).all moneyB = true ∧ (1 ≤ s ∧ s ≤ 1000) ∧ (1 ≤ (c.length : Int) ∧ (c.length : Int) ≤ 8) ∧ (d.length : Int) = c.length ∧ 0 ≤ h ∧ h ≤ 1000000000 := by
  unfold ringOkB ringTailB
  simp only [Bool.and_eq_true, decide_eq_true_eq]
theorem ok_false {s h : Int} {c d : List Int} (n : ¬ ((c ++ d).all moneyB = true ∧ (1 ≤ s ∧ s ≤ 1000) ∧ (1 ≤ (c.length : Int) ∧ (c.length : Int) ≤ 8) ∧ (d.length : Int) = c.length ∧ 0 ≤ h ∧ h ≤ 1000000000)) : ringOkB s h c d = false := by
  cases e : ringOkB s h c d with
  | false => rfl
  | true => exact absurd ((ok_iff s h c d).1 e) n
theorem impl_ok (s h : Int) (c d : List Int) (hc : c.length ≤ 1048576) (hd : d.length ≤ 1048576) : impl_RingOk.f s h c d = some (ringOkB s h c d) := by
  unfold impl_RingOk.f
  exact if_pos (by omega)

def sv (l : List Int) (k j : Nat) : Int := if k ≤ j then l.getD (j - k) 0 else 0
def shiftB (l : List Int) (k : Nat) : List Int := (List.range l.length).map (sv l k)
theorem shift_len (l : List Int) (k : Nat) : (shiftB l k).length = l.length := by simp [shiftB]
theorem shift_get (l : List Int) (k j : Nat) (h : j < (shiftB l k).length) : (shiftB l k)[j] = sv l k j := by simp [shiftB]
theorem sv_at (l : List Int) (k i : Nat) (h : k ≤ i) (hi : i - k < l.length) : sv l k i = l[i - k] := by
  unfold sv
  rw [if_pos h, List.getD_eq_getElem?_getD, List.getElem?_eq_getElem hi]
  rfl
theorem impl_shift (l : List Int) (k : Nat) (hl : l.length ≤ 1048576) (hk : k ≤ 1000000000) : Ev (fun n => impl_shifted.f n l (k : Int)) (shiftB l k) := by
  have loop : ∀ (e i : Nat) (o : List Int), i + e = l.length → o.length = l.length → (∀ j (hj : j < o.length), o[j] = if j < i then sv l k j else 0) → Ev (fun n => impl_shifted.l0 n l (k : Int) o (l.length : Int) (i : Int)) (shiftB l k) := by
    intro e
    induction e with
    | zero =>
      intro i o hi ho hp
      refine Ev.step (fun k => rfl) (Ev.neg (by omega) (Ev.val ?_))
      exact List.ext_getElem (by rw [shift_len, ho]) (fun j h1 h2 => by rw [hp j h1, if_pos (by omega), shift_get])
    | succ e ih =>
      intro i o hi ho hp
      have hi' : i < l.length := by omega
      refine Ev.step (fun k => rfl) (Ev.pos (by omega) ?_)
      rw [wr1 i (by omega)]
      by_cases hki : k ≤ i
      · have hw : wrap64 ((i : Int) - (k : Int)) = ((i - k : Nat) : Int) := by rw [wr_id _ (by omega) (by omega)]; omega
        refine Ev.pos (by omega) ?_
        rw [hw, rd_at l (i - k) (by omega), Int.toNat_natCast]
        refine Ev.pos (by omega) (Ev.pos (by omega) (Ev.pos (by omega) (Ev.pos (by omega) (ih (i + 1) _ (by omega) (by simpa using ho) (fun j hj => ?_)))))
        have hj' : j < o.length := by simpa using hj
        rw [List.getElem_set]
        by_cases e : i = j
        · subst e
          rw [if_pos rfl, if_pos (by omega), sv_at l k i hki (by omega)]
        · rw [if_neg e, hp j hj']
          by_cases z : j < i
          · rw [if_pos z, if_pos (by omega)]
          · rw [if_neg z, if_neg (by omega)]
      · refine Ev.neg (by omega) (ih (i + 1) o (by omega) ho (fun j hj => ?_))
        rw [hp j hj]
        by_cases z : j < i
        · rw [if_pos z, if_pos (by omega)]
        · rw [if_neg z]
          by_cases e : i = j
          · subst e
            rw [if_pos (by omega)]
            unfold sv
            rw [if_neg hki]
          · rw [if_neg (by omega)]
  unfold impl_shifted.f
  exact Ev.pos (by omega) (Ev.pos (by omega) (loop l.length 0 _ (by omega) (by simp) (fun j hj => by simp)))
def rollB (s h : Int) (c d : List Int) (t : Int) : Int × Int × List Int × List Int :=
  if ringOkB s h c d = true ∧ (0 ≤ t ∧ t ≤ 1000000000) ∧ h < t / s then (s, t / s, shiftB c (t / s - h).toNat, shiftB d (t / s - h).toNat) else (s, h, c, d)
theorem roll_len (s h : Int) (c d : List Int) (t : Int) : (rollB s h c d t).2.2.1.length = c.length ∧ (rollB s h c d t).2.2.2.length = d.length := by
  unfold rollB
  split
  · exact ⟨shift_len _ _, shift_len _ _⟩
  · exact ⟨rfl, rfl⟩
theorem impl_copy (s h : Int) (c d : List Int) (hc : c.length ≤ 1048576) (hd : d.length ≤ 1048576) : impl_Ring_copied.f s h c d = some (s, h, c, d) := by
  unfold impl_Ring_copied.f slices_Clone_int_int.f
  rw [if_pos (by omega), if_pos (by omega)]
  rfl
theorem quot (t s : Int) (h0 : 0 ≤ t) (h1 : t ≤ 1000000000) (h2 : 1 ≤ s) : wrap64 (Int.tdiv t s) = t / s ∧ 0 ≤ t / s ∧ t / s ≤ 1000000000 := by
  have h3 : 0 ≤ t / s := Int.ediv_nonneg h0 (by omega)
  have h4 : t / s ≤ t := Int.ediv_le_self s h0
  rw [Int.tdiv_eq_ediv_of_nonneg h0]
  exact ⟨wr_id _ (by omega) (by omega), h3, by omega⟩
theorem impl_roll (s h : Int) (c d : List Int) (t : Int) (hc : c.length ≤ 1048576) (hd : d.length ≤ 1048576) : Ev (fun k => impl_RingRoll.f k s h c d t) (rollB s h c d t) := by
  have bad : Ev (fun k => impl_RingRoll.j0 k t true s h c d s h c d) (s, h, c, d) := Ev.step (f := fun _ => some (s, h, c, d)) (fun k => rfl) (Ev.now _)
  unfold impl_RingRoll.f
  refine Ev.bind (Ev.is (impl_copy s h c d hc hd)) (Ev.bind (Ev.is (impl_ok s h c d hc hd)) ?_)
  by_cases ok : ringOkB s h c d = true
  · refine Ev.pos ok (Ev.bind (Ev.is (hisTime _)) ?_)
    obtain ⟨_, k1, k2, k3, k4⟩ := (ok_iff s h c d).1 ok
    by_cases tm : 0 ≤ t ∧ t ≤ 1000000000
    · obtain ⟨q1, q2, q3⟩ := quot t s tm.1 tm.2 k1.1
      refine Ev.pos (by simpa using tm) (Ev.neg (by omega) ?_)
      by_cases hq : t / s ≤ h
      · unfold rollB
        rw [q1, decide_eq_true hq, if_neg (fun z => by omega)]
        exact bad
      · unfold rollB
        rw [q1, decide_eq_false hq, if_pos ⟨ok, tm, by omega⟩]
        refine Ev.step (fun k => rfl) (Ev.neg (by omega) ?_)
        have hw : wrap64 (wrap64 (Int.tdiv t s) - h) = (((t / s - h).toNat : Nat) : Int) := by rw [q1, wr_id _ (by omega) (by omega)]; omega
        rw [hw, q1]
        exact Ev.bind (impl_shift c _ hc (by omega)) (Ev.bind (impl_shift d _ hd (by omega)) (Ev.now _))
    · unfold rollB
      rw [if_neg (fun z => tm z.2.1)]
      exact Ev.neg (by simpa using tm) bad
  · unfold rollB
    rw [if_neg (fun z => ok z.1)]
    exact Ev.neg ok bad
def satB (a b : Int) : Int := min (max 0 (min a 4611686018427387904) + max 0 (min b 4611686018427387904)) 4611686018427387904
theorem impl_sat (a b : Int) : impl_AddSat.f a b = some (satB a b) := by
  unfold impl_AddSat.f satB mx mn
  repeat' split
  all_goals (first | (congr 1; omega) | (rw [wr_id _ (by omega) (by omega)]; congr 1; omega) | omega)

-- what the code's bytes give: a byte lies in 0..255, a number below a in 0..a-1
theorem and255 (x : Int) : 0 ≤ Go.bits .and .i64 x 255 ∧ Go.bits .and .i64 x 255 ≤ 255 := by
  have h : (BitVec.ofInt 64 x &&& BitVec.ofInt 64 255).toNat ≤ 255 := by
    rw [BitVec.toNat_and]
    exact Nat.le_trans Nat.and_le_right (by decide)
  have e : Go.bits .and .i64 x 255 = wrap64 (((BitVec.ofInt 64 x &&& BitVec.ofInt 64 255).toNat : Nat) : Int) := by
    show IntKind.i64.wrap _ = _
    rw [i64_w]
    rfl
  rw [e, wr_id _ (by omega) (by omega)]
  omega
theorem a_byte (s : List Int) (i h : Int) (hs : s.length ≤ 140737488351232) (hi : 0 ≤ i) : ∃ b i' h', spec_l01Byte.f s i h = some (b, i', h') ∧ (0 ≤ b ∧ b ≤ 255) ∧ 0 ≤ i' := by
  unfold spec_l01Byte.f
  by_cases c : i < (s.length : Int)
  · rw [if_pos c, if_pos hi]
    exact ⟨_, _, _, rfl, and255 _, by rw [wr_id _ (by omega) (by omega)]; omega⟩
  · rw [if_neg c]
    exact ⟨_, _, _, rfl, and255 _, hi⟩
theorem a_below (s : List Int) (i h a : Int) (hs : s.length ≤ 140737488351232) (hi : 0 ≤ i) (ha : 0 < a) (hb : a ≤ 256) : ∃ v i' h', spec_l01Below.f s i h a = some (v, i', h') ∧ (0 ≤ v ∧ v < a) ∧ 0 ≤ i' := by
  obtain ⟨b, i', h', e, hb', hi'⟩ := a_byte s i h hs hi
  unfold spec_l01Below.f
  rw [if_neg (by omega), if_pos hb, e, Option.bind_some, if_neg (by omega)]
  exact ⟨_, _, _, rfl, ⟨Int.tmod_nonneg _ hb'.1, Int.tmod_lt_of_pos _ ha⟩, hi'⟩
theorem a_cursor (s : List Int) (_hs : s.length ≤ 140737488351232) : ∃ h, Ev (fun k => spec_l01New.f k s) (s, 0, h) := by
  have loop : ∀ (d i : Nat) (h : Int), i + d = s.length → ∃ h', Ev (fun k => spec_l01New.l0 k s h (i : Int)) (s, 0, h') := by
    intro d
    induction d with
    | zero => intro i h hi; exact ⟨h, Ev.step (fun k => rfl) (Ev.neg (by omega) (Ev.now _))⟩
    | succ d ih =>
      intro i h hi
      by_cases c : (i : Int) < 4000
      · obtain ⟨h', e⟩ := ih (i + 1) (Go.bits .and .i64 (wrap64 ((wrap64 ((wrap64 (h * 31)) + (wrap64 (rd s (i : Int))))) + 7)) 1073741823) (by omega)
        refine ⟨h', Ev.step (fun k => rfl) (Ev.pos (by omega) (Ev.pos c (Ev.pos (by omega) ?_)))⟩
        rw [wr1 i (by omega)]
        exact e
      · exact ⟨h, Ev.step (fun k => rfl) (Ev.pos (by omega) (Ev.neg c (Ev.now _)))⟩
  unfold spec_l01New.f
  exact loop s.length 0 _ (by omega)

def addB (s h : Int) (c d : List Int) (t m : Int) : Int × Int × List Int × List Int :=
  if ringOkB s h c d = true ∧ (0 ≤ t ∧ t ≤ 1000000000) ∧ moneyB m = true then ((rollB s h c d t).1, (rollB s h c d t).2.1, (rollB s h c d t).2.2.1.set 0 (satB (rd (rollB s h c d t).2.2.1 0) 1), (rollB s h c d t).2.2.2.set 0 (satB (rd (rollB s h c d t).2.2.2 0) m)) else (s, h, c, d)
theorem add_len (s h : Int) (c d : List Int) (t m : Int) : (addB s h c d t m).2.2.1.length = c.length ∧ (addB s h c d t m).2.2.2.length = d.length := by
  obtain ⟨a, b⟩ := roll_len s h c d t
  unfold addB
  split
  · exact ⟨by simpa using a, by simpa using b⟩
  · exact ⟨rfl, rfl⟩
theorem impl_add (s h : Int) (c d : List Int) (t m : Int) (hc : c.length ≤ 1048576) (hd : d.length ≤ 1048576) : Ev (fun k => impl_RingAdd.f k s h c d t m) (addB s h c d t m) := by
  have bad : Ev (fun k => impl_RingAdd.j0 k t m true s h c d) (s, h, c, d) := Ev.step (f := fun _ => (impl_Ring_copied.f s h c d).bind fun b => some (b.1, b.2.1, b.2.2.1, b.2.2.2)) (fun k => rfl) (Ev.bind (Ev.is (impl_copy s h c d hc hd)) (Ev.now _))
  unfold impl_RingAdd.f addB
  refine Ev.bind (Ev.is (impl_ok s h c d hc hd)) ?_
  by_cases ok : ringOkB s h c d = true
  · refine Ev.pos ok (Ev.bind (Ev.is (hisTime _)) ?_)
    obtain ⟨_, k1, k2, k3, k4⟩ := (ok_iff s h c d).1 ok
    by_cases tm : 0 ≤ t ∧ t ≤ 1000000000
    · refine Ev.pos (by simpa using tm) (Ev.bind (Ev.is (hisMoney _)) ?_)
      by_cases mo : moneyB m = true
      · rw [if_pos ⟨ok, tm, mo⟩, mo]
        obtain ⟨lc, ld⟩ := roll_len s h c d t
        refine Ev.step (fun k => rfl) (Ev.bind (impl_roll s h c d t hc hd) ?_)
        exact Ev.pos (by omega) (Ev.bind (Ev.is (impl_sat _ _)) (Ev.pos (by omega) (Ev.bind (Ev.is (impl_sat _ _)) (Ev.now _))))
      · rw [if_neg (fun z => mo z.2.2), Bool.eq_false_iff.mpr mo]
        exact bad
    · rw [if_neg (fun z => tm z.2.1)]
      exact Ev.neg (by simpa using tm) bad
  · rw [if_neg (fun z => ok z.1)]
    exact Ev.neg ok bad

theorem impl_tot (l : List Int) (hl : l.length ≤ 1048576) : Ev (fun k => impl_total.f k l) (l.foldl satB 0) := by
  have loop : ∀ (e i : Nat) (a : Int), i + e = l.length → Ev (fun k => impl_total.l0 k a l (l.length : Int) (i : Int)) ((l.drop i).foldl satB a) := by
    intro e
    induction e with
    | zero =>
      intro i a hi
      refine Ev.step (fun k => rfl) (Ev.neg (by omega) (Ev.val ?_))
      rw [List.drop_of_length_le (by omega)]
      rfl
    | succ e ih =>
      intro i a hi
      have hi' : i < l.length := by omega
      refine Ev.step (fun k => rfl) (Ev.pos (by omega) (Ev.pos (by omega) (Ev.pos (by omega) ?_)))
      rw [rd_at l i hi', wr1 i (by omega), List.drop_eq_getElem_cons hi']
      exact Ev.bind (Ev.is (impl_sat _ _)) (ih (i + 1) _ (by omega))
  exact loop l.length 0 0 (by omega)

/-- what the pairs (time, amount) of the quotient q weigh -/
def wQ (w : Int × Int → Int) (sp : Int) (ps : List (Int × Int)) (q : Int) : Int := (ps.map (fun p => if p.1 / sp = q then w p else 0)).sum
theorem wQ_cons (w : Int × Int → Int) (sp : Int) (p : Int × Int) (ps : List (Int × Int)) (q : Int) : wQ w sp (p :: ps) q = (if p.1 / sp = q then w p else 0) + wQ w sp ps q := by simp [wQ]
theorem wQ_snoc (w : Int × Int → Int) (sp : Int) (p : Int × Int) (ps : List (Int × Int)) (q : Int) : wQ w sp (ps ++ [p]) q = wQ w sp ps q + (if p.1 / sp = q then w p else 0) := by simp [wQ]
theorem wQ_zero (w : Int × Int → Int) (sp : Int) (q : Int) : ∀ (ps : List (Int × Int)), (∀ p ∈ ps, p.1 / sp < q) → wQ w sp ps q = 0
  | [], _ => rfl
  | p :: ps, h => by
    rw [wQ_cons, if_neg (by have := h p (List.mem_cons_self ..); omega), wQ_zero w sp q ps (fun p hp => h p (List.mem_cons_of_mem _ hp))]
    rfl
theorem wQ_bound (w : Int × Int → Int) (sp : Int) (q : Int) : ∀ (ps : List (Int × Int)), (∀ p ∈ ps, 0 ≤ w p ∧ w p ≤ 90) → 0 ≤ wQ w sp ps q ∧ wQ w sp ps q ≤ 90 * (ps.length : Int)
  | [], _ => by simp [wQ]
  | p :: ps, h => by
    have h1 := wQ_bound w sp q ps (fun p hp => h p (List.mem_cons_of_mem _ hp))
    have h2 := h p (List.mem_cons_self ..)
    rw [wQ_cons, List.length_cons]
    split <;> omega
/-- what the pairs weigh whose quotient is above q -/
def wR (w : Int × Int → Int) (sp : Int) (ps : List (Int × Int)) (q : Int) : Int := (ps.map (fun p => if p.1 / sp > q then w p else 0)).sum
theorem one_row (a H : Int) (v : Int) (ha : a ≤ H) : ∀ n : Nat, ((List.range n).map (fun j : Nat => if a = H - (j : Int) then v else 0)).sum = if a > H - (n : Int) then v else 0
  | 0 => by simp; omega
  | n + 1 => by
    rw [List.range_succ, List.map_append, List.sum_append, one_row a H v ha n]
    simp only [List.map_cons, List.map_nil, List.sum_cons, List.sum_nil, Int.add_zero]
    by_cases h1 : a > H - (n : Int)
    · rw [if_pos h1, if_neg (by omega), if_pos (by omega)]
      omega
    · rw [if_neg h1]
      by_cases h2 : a = H - (n : Int)
      · rw [if_pos h2, if_pos (by omega)]
        omega
      · rw [if_neg h2, if_neg (by omega)]
        rfl
theorem sum_add (f g : Nat → Int) : ∀ l : List Nat, (l.map (fun j => f j + g j)).sum = (l.map f).sum + (l.map g).sum
  | [] => rfl
  | j :: l => by
    simp only [List.map_cons, List.sum_cons, sum_add f g l]
    omega
theorem rows_sum (w : Int × Int → Int) (sp H : Int) (n : Nat) : ∀ ps : List (Int × Int), (∀ p ∈ ps, p.1 / sp ≤ H) → ((List.range n).map (fun j : Nat => wQ w sp ps (H - (j : Int)))).sum = wR w sp ps (H - (n : Int))
  | [], _ => by
    have : ∀ l : List Nat, (l.map (fun j : Nat => wQ w sp [] (H - (j : Int)))).sum = 0 := fun l => by
      induction l with
      | nil => rfl
      | cons j l ih => rw [List.map_cons, List.sum_cons, ih]; rfl
    rw [this]
    rfl
  | p :: ps, h => by
    have e : (fun j : Nat => wQ w sp (p :: ps) (H - (j : Int))) = fun j : Nat => (if p.1 / sp = H - (j : Int) then w p else 0) + wQ w sp ps (H - (j : Int)) := funext (fun j => wQ_cons w sp p ps _)
    rw [e, sum_add, rows_sum w sp H n ps (fun p hp => h p (List.mem_cons_of_mem _ hp)), one_row _ _ _ (h p (List.mem_cons_self ..))]
    simp [wR]
theorem sat_sum : ∀ (l : List Int) (a : Int), 0 ≤ a → (∀ x ∈ l, 0 ≤ x) → a + l.sum ≤ 4611686018427387904 → l.foldl satB a = a + l.sum
  | [], a, _, _, _ => by simp
  | x :: l, a, h0, h1, h2 => by
    have hx := h1 x (List.mem_cons_self ..)
    have hs : 0 ≤ l.sum := by
      have : ∀ l : List Int, (∀ x ∈ l, 0 ≤ x) → 0 ≤ l.sum := fun l => by
        induction l with
        | nil => intro _; simp
        | cons y l ih => intro h; rw [List.sum_cons]; have := h y (List.mem_cons_self ..); have := ih (fun x hx => h x (List.mem_cons_of_mem _ hx)); omega
      exact this l (fun x hx => h1 x (List.mem_cons_of_mem _ hx))
    rw [List.sum_cons] at h2
    have e : satB a x = a + x := by unfold satB; omega
    rw [List.foldl_cons, e, sat_sum l (a + x) (by omega) (fun x hx => h1 x (List.mem_cons_of_mem _ hx)) (by omega), List.sum_cons]
    omega
/-- what a ring's list holds -/
def Holds (w : Int × Int → Int) (sp : Int) (ps : List (Int × Int)) (h : Int) (n : Nat) (c : List Int) : Prop := c.length = n ∧ ∀ j (hj : j < c.length), c[j] = wQ w sp ps (h - (j : Int))
theorem Holds.eq {w : Int × Int → Int} {sp : Int} {ps : List (Int × Int)} {h : Int} {n : Nat} {c : List Int} (hc : Holds w sp ps h n c) : c = (List.range n).map (fun j : Nat => wQ w sp ps (h - (j : Int))) :=
  List.ext_getElem (by simp [hc.1]) (fun j h1 h2 => by rw [hc.2 j h1]; simp)
theorem Holds.shift {w : Int × Int → Int} {sp : Int} {ps : List (Int × Int)} {h : Int} {n : Nat} {c : List Int} (hc : Holds w sp ps h n c) (hp : ∀ p ∈ ps, p.1 / sp ≤ h) (k : Nat) : Holds w sp ps (h + (k : Int)) n (shiftB c k) := by
  refine ⟨by rw [shift_len, hc.1], fun j hj => ?_⟩
  rw [shift_get]
  rw [shift_len] at hj
  by_cases hk : k ≤ j
  · rw [sv_at c k j hk (by omega), hc.2 (j - k) (by omega)]
    congr 1
    omega
  · unfold sv
    rw [if_neg hk, wQ_zero _ _ _ _ (fun p h' => by have := hp p h'; omega)]
theorem Holds.total {w : Int × Int → Int} {sp : Int} {ps : List (Int × Int)} {h : Int} {n : Nat} {c : List Int} (hc : Holds w sp ps h n c) (hp : ∀ p ∈ ps, p.1 / sp ≤ h) (hw : ∀ p ∈ ps, 0 ≤ w p ∧ w p ≤ 90) (hn : n ≤ 8) (hl : ps.length ≤ 13) : c.foldl satB 0 = wR w sp ps (h - (n : Int)) := by
  have hb : ∀ x ∈ c, 0 ≤ x ∧ x ≤ 1170 := fun x hx => by
    obtain ⟨j, hj, rfl⟩ := List.mem_iff_getElem.1 hx
    have := wQ_bound w sp (h - (j : Int)) ps hw
    rw [hc.2 j hj]
    omega
  have hs : ∀ l : List Int, (∀ x ∈ l, 0 ≤ x ∧ x ≤ 1170) → l.sum ≤ 1170 * (l.length : Int) := fun l => by
    induction l with
    | nil => intro _; simp
    | cons y l ih => intro h; rw [List.sum_cons, List.length_cons]; have := h y (List.mem_cons_self ..); have := ih (fun x hx => h x (List.mem_cons_of_mem _ hx)); omega
  have h1 := hs c hb
  have h2 := hc.1
  rw [sat_sum c 0 (by omega) (fun x hx => (hb x hx).1) (by omega), Int.zero_add, hc.eq, rows_sum w sp h n ps hp]

/-- times and amounts zs MakeAdds draws them -/
structure Adds (ts zs : List Int) (now : Int) : Prop where
  len : zs.length = ts.length
  nn : 0 ≤ now
  tm : ∀ j (h : j < ts.length), 0 ≤ ts[j] ∧ ts[j] ≤ now
  up : ∀ j (h : j + 1 < ts.length), ts[j]'(by omega) ≤ ts[j + 1]
  am : ∀ j (h : j < zs.length), 0 ≤ zs[j] ∧ zs[j] < 90
theorem Adds.nil : Adds [] [] 0 := ⟨rfl, by omega, fun j h => absurd h (Nat.not_lt_zero _), fun j h => absurd h (Nat.not_lt_zero _), fun j h => absurd h (Nat.not_lt_zero _)⟩
theorem Adds.snoc {ts zs : List Int} {now x a : Int} (h : Adds ts zs now) (hx : 0 ≤ x) (ha : 0 ≤ a ∧ a < 90) : Adds (ts ++ [now + x]) (zs ++ [a]) (now + x) := by
  refine ⟨by simp [h.len], by have := h.nn; omega, fun j hj => ?_, fun j hj => ?_, fun j hj => ?_⟩
  · rw [List.getElem_append]
    split
    · rename_i hl
      have := h.tm j hl
      omega
    · have := h.nn
      simp only [List.getElem_singleton]
      omega
  · rw [List.getElem_append, List.getElem_append]
    have hl : j < ts.length := by simp at hj; omega
    rw [dif_pos hl]
    split
    · rename_i hl'
      exact h.up j hl'
    · have := (h.tm j hl).2
      simp only [List.getElem_singleton]
      omega
  · rw [List.getElem_append]
    split
    · rename_i hl
      exact h.am j hl
    · simpa using ha
theorem makes_adds (l : List Int) (hl : l.length ≤ 140737488351232) : ∃ n sp ts zs now, Ev (fun k => spec_MakeAdds.f k l) (n, sp, ts, zs) ∧ (1 ≤ n ∧ n ≤ 8) ∧ (1 ≤ sp ∧ sp ≤ 6) ∧ Adds ts zs now ∧ ts.length ≤ 13 ∧ now ≤ 78 := by
  have loop : ∀ (n sp : Int) (d : Nat) (ts zs : List Int) (now i h : Int), 0 ≤ i → d + ts.length ≤ 13 → now ≤ 6 * (ts.length : Int) → Adds ts zs now → ∃ ts' zs' now', Ev (fun k => spec_MakeAdds.l0 k n sp ts zs now (d : Int) l i h) (n, sp, ts', zs') ∧ Adds ts' zs' now' ∧ ts'.length ≤ 13 ∧ now' ≤ 78 := by
    intro n sp d
    induction d with
    | zero =>
      intro ts zs now i h hi hd hn ha
      exact ⟨ts, zs, now, Ev.step (fun k => rfl) (Ev.neg (by omega) (Ev.now _)), ha, by omega, by omega⟩
    | succ d ih =>
      intro ts zs now i h hi hd hn ha
      obtain ⟨x, i1, h1, e1, hx, hi1⟩ := a_below l i h 7 hl hi (by omega) (by omega)
      obtain ⟨a, i2, h2, e2, hx2, hi2⟩ := a_below l i1 h1 90 hl hi1 (by omega) (by omega)
      have hnn := ha.nn
      have hw : wrap64 (now + x) = now + x := wr_id _ (by omega) (by omega)
      have hw2 : wrap64 (((d + 1 : Nat) : Int) - 1) = (d : Int) := by rw [wr_id _ (by omega) (by omega)]; omega
      obtain ⟨ts', zs', now', hE, hA, hL, hN⟩ := ih (ts ++ [now + x]) (zs ++ [a]) (now + x) i2 h2 hi2 (by simp; omega) (by simp; omega) (ha.snoc hx.1 hx2)
      refine ⟨ts', zs', now', Ev.step (fun k => rfl) (Ev.pos (by omega) (Ev.bind (Ev.is e1) (Ev.pos (by omega) (Ev.bind (Ev.is e2) (Ev.pos (by have := ha.len; omega) ?_))))), hA, hL, hN⟩
      rw [hw, hw2]
      exact hE
  obtain ⟨h, hc⟩ := a_cursor l hl
  obtain ⟨v1, i1, h1, e1, b1, c1⟩ := a_below l 0 h 8 hl (by omega) (by omega) (by omega)
  obtain ⟨v2, i2, h2, e2, b2, c2⟩ := a_below l i1 h1 6 hl c1 (by omega) (by omega)
  obtain ⟨v3, i3, h3, e3, b3, c3⟩ := a_below l i2 h2 14 hl c2 (by omega) (by omega)
  obtain ⟨ts, zs, now, hE, hA, hL, hN⟩ := loop (1 + v1) (1 + v2) v3.toNat [] [] 0 i3 h3 c3 (by simp; omega) (by simp) Adds.nil
  refine ⟨1 + v1, 1 + v2, ts, zs, now, ?_, by omega, by omega, hA, hL, hN⟩
  unfold spec_MakeAdds.f
  refine Ev.bind hc (Ev.bind (Ev.is e1) (Ev.bind (Ev.is e2) (Ev.bind (Ev.is e3) ?_)))
  rw [wr_id (1 + v1) (by omega) (by omega), wr_id (1 + v2) (by omega) (by omega)]
  rw [Int.toNat_of_nonneg b3.1] at hE
  exact hE
theorem makes_num (l : List Int) (a : Int) (hl : l.length ≤ 140737488351232) (ha : 0 < a) (hb : a ≤ 256) : ∃ v, Ev (fun k => spec_MakeNum.f k l a) v ∧ 0 ≤ v ∧ v < a := by
  obtain ⟨h, hc⟩ := a_cursor l hl
  obtain ⟨v1, i1, h1, e1, b1, c1⟩ := a_below l 0 (wrap64 (h + 777)) a hl (by omega) ha hb
  refine ⟨v1, ?_, b1⟩
  unfold spec_MakeNum.f
  exact Ev.bind hc (Ev.bind (Ev.is e1) (Ev.now _))
theorem Holds.put {w : Int × Int → Int} {sp : Int} {ps : List (Int × Int)} {h : Int} {n : Nat} {c : List Int} (hc : Holds w sp ps h n c) (hw : ∀ p ∈ ps, 0 ≤ w p ∧ w p ≤ 90) (hl : ps.length ≤ 13) (p : Int × Int) (hp : p.1 / sp = h) (hwp : 0 ≤ w p ∧ w p ≤ 90) : Holds w sp (ps ++ [p]) h n (c.set 0 (satB (rd c 0) (w p))) := by
  refine ⟨by rw [List.length_set, hc.1], fun j hj => ?_⟩
  rw [List.length_set] at hj
  rw [List.getElem_set, wQ_snoc]
  by_cases e : 0 = j
  · subst e
    have hb := wQ_bound w sp (h - ((0 : Nat) : Int)) ps hw
    rw [if_pos rfl, if_pos (by omega), show rd c 0 = c[0] from rd_at c 0 hj, hc.2 0 hj]
    unfold satB
    omega
  · rw [if_neg e, if_neg (by omega), hc.2 j hj, Int.add_zero]
structure Inv (sp : Int) (n : Nat) (ps : List (Int × Int)) (h : Int) (c d : List Int) : Prop where
  sp1 : 1 ≤ sp ∧ sp ≤ 6
  n1 : 1 ≤ n ∧ n ≤ 8
  len : ps.length ≤ 13
  am : ∀ p ∈ ps, 0 ≤ p.2 ∧ p.2 ≤ 90
  top : ∀ p ∈ ps, p.1 / sp ≤ h
  hh : 0 ≤ h ∧ h ≤ 1000000000
  cs : Holds (fun _ => 1) sp ps h n c
  ds : Holds (fun p => p.2) sp ps h n d
theorem Inv.ok {sp : Int} {n : Nat} {ps : List (Int × Int)} {h : Int} {c d : List Int} (I : Inv sp n ps h c d) : ringOkB sp h c d = true := by
  refine (ok_iff sp h c d).2 ⟨?_, by have := I.sp1; omega, by have := I.n1; have := I.cs.1; omega, by have := I.cs.1; have := I.ds.1; omega, I.hh⟩
  have hl := I.len
  rw [List.all_eq_true]
  intro x hx
  rw [List.mem_append] at hx
  rcases hx with hx | hx
  · obtain ⟨j, hj, rfl⟩ := List.mem_iff_getElem.1 hx
    have := wQ_bound (fun _ => 1) sp (h - (j : Int)) ps (fun _ _ => by omega)
    rw [I.cs.2 j hj]
    exact decide_eq_true (by omega)
  · obtain ⟨j, hj, rfl⟩ := List.mem_iff_getElem.1 hx
    have := wQ_bound (fun p => p.2) sp (h - (j : Int)) ps I.am
    rw [I.ds.2 j hj]
    exact decide_eq_true (by omega)
theorem Inv.small {sp : Int} {n : Nat} {ps : List (Int × Int)} {h : Int} {c d : List Int} (I : Inv sp n ps h c d) : c.length ≤ 1048576 ∧ d.length ≤ 1048576 := by
  have := I.n1
  have := I.cs.1
  have := I.ds.1
  omega
theorem Inv.roll {sp : Int} {n : Nat} {ps : List (Int × Int)} {h : Int} {c d : List Int} (I : Inv sp n ps h c d) (t : Int) (h0 : 0 ≤ t) (h1 : t ≤ 1000000000) : ∃ c' d', rollB sp h c d t = (sp, max h (t / sp), c', d') ∧ Inv sp n ps (max h (t / sp)) c' d' := by
  obtain ⟨_, q2, q3⟩ := quot t sp h0 h1 I.sp1.1
  unfold rollB
  by_cases q : h < t / sp
  · have e : h + (((t / sp - h).toNat : Nat) : Int) = max h (t / sp) := by omega
    refine ⟨shiftB c (t / sp - h).toNat, shiftB d (t / sp - h).toNat, ?_, ⟨I.sp1, I.n1, I.len, I.am, fun p hp => by have := I.top p hp; omega, by have := I.hh; omega, ?_, ?_⟩⟩
    · rw [if_pos ⟨I.ok, ⟨h0, h1⟩, q⟩, show max h (t / sp) = t / sp by omega]
    · rw [← e]
      exact I.cs.shift I.top _
    · rw [← e]
      exact I.ds.shift I.top _
  · rw [if_neg (fun z => q z.2.2), show max h (t / sp) = h by omega]
    exact ⟨c, d, rfl, I⟩
theorem Inv.add {sp : Int} {n : Nat} {ps : List (Int × Int)} {h : Int} {c d : List Int} (I : Inv sp n ps h c d) (t a : Int) (h0 : 0 ≤ t) (h1 : t ≤ 78) (ht : h ≤ t / sp) (ha : 0 ≤ a ∧ a < 90) (hl : ps.length < 13) : ∃ c' d', addB sp h c d t a = (sp, t / sp, c', d') ∧ Inv sp n (ps ++ [(t, a)]) (t / sp) c' d' := by
  obtain ⟨c1, d1, e, J⟩ := I.roll t h0 (by omega)
  rw [show max h (t / sp) = t / sp by omega] at e J
  unfold addB
  rw [if_pos ⟨I.ok, ⟨h0, by omega⟩, decide_eq_true (by omega)⟩, e]
  refine ⟨_, _, rfl, ⟨J.sp1, J.n1, by rw [List.length_append]; simp; omega, fun p hp => ?_, fun p hp => ?_, J.hh, J.cs.put (fun _ _ => by omega) J.len (t, a) rfl (by omega), J.ds.put J.am J.len (t, a) rfl (by show 0 ≤ a ∧ a ≤ 90; omega)⟩⟩
  · rcases List.mem_append.1 hp with hp | hp
    · exact J.am p hp
    · obtain rfl := List.mem_singleton.1 hp
      show 0 ≤ a ∧ a ≤ 90
      omega
  · rcases List.mem_append.1 hp with hp | hp
    · exact J.top p hp
    · obtain rfl := List.mem_singleton.1 hp
      exact Int.le_refl _
theorem Inv.count {sp : Int} {n : Nat} {ps : List (Int × Int)} {h : Int} {c d : List Int} (I : Inv sp n ps h c d) (t : Int) (h0 : 0 ≤ t) (h1 : t ≤ 1000000000) (ht : h ≤ t / sp) : Ev (fun k => impl_RingCount.f k sp h c d t) (wR (fun _ => 1) sp ps (t / sp - (n : Int))) := by
  obtain ⟨c1, d1, e, J⟩ := I.roll t h0 h1
  rw [show max h (t / sp) = t / sp by omega] at e J
  obtain ⟨s1, s2⟩ := I.small
  have hr := impl_roll sp h c d t s1 s2
  rw [e] at hr
  unfold impl_RingCount.f
  refine Ev.bind (Ev.is (impl_ok sp h c d s1 s2)) (Ev.pos I.ok (Ev.bind (Ev.is (hisTime _)) ?_))
  rw [decide_eq_true (⟨h0, h1⟩ : 0 ≤ t ∧ t ≤ 1000000000)]
  refine Ev.step (fun k => rfl) (Ev.bind hr (Ev.bind (impl_tot _ J.small.1) (Ev.val ?_)))
  exact J.cs.total J.top (fun _ _ => by omega) J.n1.2 J.len
theorem Inv.sum {sp : Int} {n : Nat} {ps : List (Int × Int)} {h : Int} {c d : List Int} (I : Inv sp n ps h c d) (t : Int) (h0 : 0 ≤ t) (h1 : t ≤ 1000000000) (ht : h ≤ t / sp) : Ev (fun k => impl_RingSum.f k sp h c d t) (wR (fun p => p.2) sp ps (t / sp - (n : Int))) := by
  obtain ⟨c1, d1, e, J⟩ := I.roll t h0 h1
  rw [show max h (t / sp) = t / sp by omega] at e J
  obtain ⟨s1, s2⟩ := I.small
  have hr := impl_roll sp h c d t s1 s2
  rw [e] at hr
  unfold impl_RingSum.f
  refine Ev.bind (Ev.is (impl_ok sp h c d s1 s2)) (Ev.pos I.ok (Ev.bind (Ev.is (hisTime _)) ?_))
  rw [decide_eq_true (⟨h0, h1⟩ : 0 ≤ t ∧ t ≤ 1000000000)]
  refine Ev.step (fun k => rfl) (Ev.bind hr (Ev.bind (impl_tot _ J.small.2) (Ev.val ?_)))
  exact J.ds.total J.top J.am J.n1.2 J.len
theorem wR_snoc (w : Int × Int → Int) (sp : Int) (p : Int × Int) (ps : List (Int × Int)) (q : Int) : wR w sp (ps ++ [p]) q = wR w sp ps q + (if p.1 / sp > q then w p else 0) := by simp [wR]
theorem wR_bound (w : Int × Int → Int) (sp : Int) (q : Int) : ∀ (ps : List (Int × Int)), (∀ p ∈ ps, 0 ≤ w p ∧ w p ≤ 90) → 0 ≤ wR w sp ps q ∧ wR w sp ps q ≤ 90 * (ps.length : Int)
  | [], _ => by simp [wR]
  | p :: ps, h => by
    have h1 := wR_bound w sp q ps (fun p hp => h p (List.mem_cons_of_mem _ hp))
    have h2 := h p (List.mem_cons_self ..)
    have e : wR w sp (p :: ps) q = (if p.1 / sp > q then w p else 0) + wR w sp ps q := by simp [wR]
    rw [e, List.length_cons]
    split <;> omega
theorem zip_take (ts zs : List Int) (i : Nat) (h : i < ts.length) (hl : zs.length = ts.length) : (ts.zip zs).take (i + 1) = (ts.zip zs).take i ++ [(ts[i], zs[i]'(by omega))] := by
  have hz : i < (ts.zip zs).length := by rw [List.length_zip]; omega
  rw [List.take_succ_eq_append_getElem hz, List.getElem_zip]
theorem ends (n : Nat) (sp now h : Int) (ts zs c d : List Int) (I : Inv sp n (ts.zip zs) h c d) (hl : zs.length = ts.length) (htm : ∀ j (hj : j < ts.length), 0 ≤ ts[j] ∧ ts[j] ≤ 78) (hn0 : 0 ≤ now) (hn1 : now ≤ 100) (hh : h ≤ now / sp) : ∀ (e i : Nat), i + e = ts.length → Ev (fun k => laws_FnRing.l1 k (n : Int) sp zs true now (wR (fun _ => 1) sp ((ts.zip zs).take i) (now / sp - (n : Int))) (wR (fun p => p.2) sp ((ts.zip zs).take i) (now / sp - (n : Int))) ts (ts.length : Int) (i : Int) sp h c d) true := by
  have h13 := I.len
  rw [List.length_zip] at h13
  have hs := I.sp1
  obtain ⟨q1, q2, q3⟩ := quot now sp hn0 (by omega) hs.1
  intro e
  induction e with
  | zero =>
    intro i hi
    obtain rfl : i = ts.length := by omega
    rw [List.take_of_length_le (by rw [List.length_zip]; omega)]
    have hr : Int.tmod now 2 = now % 2 := Int.tmod_eq_emod_of_nonneg hn0
    obtain ⟨c2, d2, e2, J⟩ := I.roll (now - now % 2) (by omega) (by omega)
    obtain ⟨s1, s2⟩ := I.small
    have hroll := impl_roll sp h c d (now - now % 2) s1 s2
    rw [e2] at hroll
    have hle : (now - now % 2) / sp ≤ now / sp := Int.ediv_le_ediv (by omega) (by omega)
    refine Ev.step (fun k => rfl) (Ev.neg (by omega) ?_)
    rw [hr, wr_id _ (by omega) (by omega)]
    refine Ev.bind hroll (Ev.pos rfl (Ev.bind (Ev.is (impl_ok sp h c d s1 s2)) (Ev.pos I.ok (Ev.bind (I.count now hn0 (by omega) hh) (Ev.pos rfl (Ev.bind (I.sum now hn0 (by omega) hh) (Ev.pos rfl (Ev.bind (J.sum now hn0 (by omega) (by omega)) (Ev.val ?_)))))))))
    simp
  | succ e ih =>
    intro i hi
    have hi' : i < ts.length := by omega
    have hi2 : i < zs.length := by omega
    obtain ⟨t1, t2, t3⟩ := quot ts[i] sp (htm i hi').1 (by have := (htm i hi').2; omega) hs.1
    have ih' := ih (i + 1) (by omega)
    have hb : ∀ p ∈ (ts.zip zs).take i, 0 ≤ p.2 ∧ p.2 ≤ 90 := fun p hp => I.am p (List.mem_of_mem_take hp)
    have b1 := wR_bound (fun _ => 1) sp (now / sp - (n : Int)) ((ts.zip zs).take i) (fun _ _ => by omega)
    have b2 := wR_bound (fun p => p.2) sp (now / sp - (n : Int)) ((ts.zip zs).take i) hb
    have hlt : ((ts.zip zs).take i).length ≤ 13 := by rw [List.length_take, List.length_zip]; omega
    have ha := I.am (ts[i], zs[i]) (by
      have hz : i < (ts.zip zs).length := by rw [List.length_zip]; omega
      have := List.getElem_mem hz
      rwa [List.getElem_zip] at this)
    have ha' : 0 ≤ zs[i] ∧ zs[i] ≤ 90 := ha
    rw [zip_take ts zs i hi' hl, wR_snoc, wR_snoc] at ih'
    refine Ev.step (fun k => rfl) (Ev.pos (by omega) (Ev.pos (by omega) (Ev.pos (by omega) (Ev.neg (by omega) ?_))))
    rw [rd_at ts i hi', t1, q1, wr_id (now / sp - (n : Int)) (by have := I.n1; omega) (by have := I.n1; omega), wr1 i (by omega), rd_at zs i hi2]
    by_cases q : ts[i] / sp > now / sp - (n : Int)
    · refine Ev.pos q (Ev.pos (by omega) ?_)
      rw [if_pos (show (ts[i], zs[i]).1 / sp > now / sp - (n : Int) from q), if_pos (show (ts[i], zs[i]).1 / sp > now / sp - (n : Int) from q)] at ih'
      rw [wr_id _ (by omega) (by omega), wr_id _ (by omega) (by omega)]
      exact ih'
    · refine Ev.neg q ?_
      rw [if_neg (show ¬ (ts[i], zs[i]).1 / sp > now / sp - (n : Int) from q), if_neg (show ¬ (ts[i], zs[i]).1 / sp > now / sp - (n : Int) from q), Int.add_zero, Int.add_zero] at ih'
      exact ih'
theorem adding (l : List Int) (hll : l.length ≤ 140737488351232) (n : Nat) (sp last : Int) (ts zs : List Int) (hA : Adds ts zs last) (hlast : last ≤ 78) (h13 : ts.length ≤ 13) : ∀ (e i : Nat) (now h : Int) (c d : List Int), i + e = ts.length → Inv sp n ((ts.zip zs).take i) h c d → h = now / sp → 0 ≤ now → now ≤ 78 → (∀ hi : i < ts.length, now ≤ ts[i]) → Ev (fun k => laws_FnRing.l0 k l (n : Int) sp ts zs true now ts (ts.length : Int) (i : Int) sp h c d) true := by
  have hl := hA.len
  have htm : ∀ j (hj : j < ts.length), 0 ≤ ts[j] ∧ ts[j] ≤ 78 := fun j hj => by have := hA.tm j hj; omega
  intro e
  induction e with
  | zero =>
    intro i now h c d hi I hh h0 h1 hup
    obtain rfl : i = ts.length := by omega
    rw [List.take_of_length_le (by rw [List.length_zip]; omega)] at I
    obtain ⟨v, hv, v0, v1⟩ := makes_num l 20 hll (by omega) (by omega)
    refine Ev.step (fun k => rfl) (Ev.neg (by omega) (Ev.bind hv ?_))
    rw [wr_id _ (by omega) (by omega)]
    exact ends n sp (now + v) h ts zs c d I hl htm (by omega) (by omega) (by rw [hh]; exact Int.ediv_le_ediv (by have := I.sp1; omega) (by omega)) ts.length 0 (by omega)
  | succ e ih =>
    intro i now h c d hi I hh h0 h1 hup
    have hi' : i < ts.length := by omega
    have hi2 : i < zs.length := by omega
    have hsp := I.sp1
    have hq : h ≤ ts[i] / sp := by rw [hh]; exact Int.ediv_le_ediv (by omega) (hup hi')
    obtain ⟨c2, d2, e2, J⟩ := I.add ts[i] zs[i] (htm i hi').1 (htm i hi').2 hq (hA.am i hi2) (by rw [List.length_take, List.length_zip]; omega)
    obtain ⟨s1, s2⟩ := I.small
    have hadd := impl_add sp h c d ts[i] zs[i] s1 s2
    rw [e2] at hadd
    refine Ev.step (fun k => rfl) (Ev.pos (by omega) (Ev.pos (by omega) (Ev.pos (by omega) (Ev.pos (by omega) ?_))))
    rw [rd_at ts i hi', rd_at zs i hi2, wr1 i (by omega)]
    refine Ev.bind hadd ?_
    rw [← zip_take ts zs i hi' hl] at J
    exact ih (i + 1) ts[i] (ts[i] / sp) c2 d2 (by omega) J rfl (htm i hi').1 (htm i hi').2 (fun hi3 => hA.up i hi3)
theorem new_ring (n sp : Int) (hn : 1 ≤ n ∧ n ≤ 8) (hs : 1 ≤ sp ∧ sp ≤ 6) : impl_RingNew.f n sp = some (sp, 0, List.replicate n.toNat 0, List.replicate n.toNat 0, true) := by
  unfold impl_RingNew.f
  rw [hwithin, Option.bind_some, if_pos (decide_eq_true hn), hwithin, Option.bind_some, if_pos (decide_eq_true (by omega)), if_pos (by omega), if_pos (by omega)]
theorem new_holds (w : Int × Int → Int) (sp h : Int) (n : Nat) : Holds w sp [] h n (List.replicate n 0) := ⟨by simp, fun j hj => by rw [List.getElem_replicate]; rfl⟩

theorem FnRing : laws_FnRing.Pure := by
  intro l hB
  refine Ev.rounds (r := true) ?_
  unfold laws_FnRing.f
  refine Ev.ite (fun _ => Ev.now _) fun hlen => ?_
  obtain ⟨n, sp, ts, zs, last, hE, hn, hsp, hA, hL, hN⟩ := makes_adds l (by omega)
  obtain ⟨m, rfl⟩ : ∃ m : Nat, n = (m : Int) := ⟨n.toNat, by omega⟩
  refine Ev.bind hE (Ev.bind (Ev.is (new_ring m sp hn hsp)) ?_)
  rw [Int.toNat_natCast]
  have I : Inv sp m ((ts.zip zs).take 0) 0 (List.replicate m 0) (List.replicate m 0) := by
    rw [List.take_zero]
    exact ⟨hsp, by omega, by simp, fun p hp => by simp at hp, fun p hp => by simp at hp, by omega, new_holds _ sp 0 m, new_holds _ sp 0 m⟩
  exact adding l (by omega) m sp last ts zs hA hN hL ts.length 0 0 0 _ _ (by omega) I (by simp) (by omega) (by omega) (fun hi => (hA.tm 0 hi).1)
end Go.Proofs.Ytbhcahiafibhfaa.Pure
