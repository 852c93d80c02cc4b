-- Written by the session's own program myprint.py (the kit's print, with functions told by hand). Lean checks it.
import Derived.Test.YtdpbcmajmojolaaCx0
namespace Go.Proofs.Ytdpbcmajmojolaa.C
open Go.RowKit Go.Proofs.YtdpbcmajmojolaaW.PrintWords Go.Proofs.YtdpbcmajmojolaaW.PrintLast Go.Proofs.YtdpbcmajmojolaaW.PrintMore
attribute [local go_sem] max2_int min2_int max_two min_two max_three min_three max_four min_four   -- for this text's walks alone
set_option linter.unusedVariables false
set_option linter.unusedSimpArgs false

/-! ### slices_Index_int_int: function 175 -/
def slices_Index_int_int.l0 : Nat → List Int → Int → Int → Int → Option (Int)
 | 0, _, _, _, _ => none
 | k + 1, x0, x1, x7, x8 => if x8 < x7 then (if 0 ≤ x8 then (if x8 < (x0.length : Int) then (if x1 = (rd x0 x8) then (some x8) else (slices_Index_int_int.l0 k x0 x1 x7 (wrap64 (x8 + 1)))) else (none)) else (none)) else (some (-1))
def slices_Index_int_int.f (k : Nat) (l0 : List Int) (a1 : Int) : Option (Int) := slices_Index_int_int.l0 k l0 a1 (l0.length : Int) 0
theorem slices_Index_int_int.mono_l : ∀ k, (∀ y0 y1 y2 y3, LeO (slices_Index_int_int.l0 k y0 y1 y2 y3) (slices_Index_int_int.l0 (k + 1) y0 y1 y2 y3))
 | 0 => fun _ _ _ _ r h => by simp [slices_Index_int_int.l0] at h
 | k + 1 => by
  have ih0 := slices_Index_int_int.mono_l k
  ·intro y0 y1 y2 y3
   unfold slices_Index_int_int.l0
   repeat' first
   | (with_reducible exact ih0 _ _ _ _)
   | (with_reducible exact LeO.refl _)
   | (with_reducible exact LeO.none _)
   | (with_reducible refine LeO.ite ?_ ?_)
   | (with_reducible refine LeO.bind ?_ (fun _ => ?_))
   | exact ih0 _ _ _ _
   | exact LeO.none _
   | refine LeO.ite ?_ ?_
   | refine LeO.bind ?_ (fun _ => ?_)
theorem slices_Index_int_int.mono : ∀ a0 a1 k, LeO (slices_Index_int_int.f k a0 a1) (slices_Index_int_int.f (k + 1) a0 a1) := by
 intro a0 a1 k
 have ih0 := slices_Index_int_int.mono_l k
 unfold slices_Index_int_int.f
 repeat' first
   | (with_reducible exact ih0 _ _ _ _)
   | (with_reducible exact LeO.refl _)
   | (with_reducible exact LeO.none _)
   | (with_reducible refine LeO.ite ?_ ?_)
   | (with_reducible refine LeO.bind ?_ (fun _ => ?_))
   | exact ih0 _ _ _ _
   | exact LeO.none _
   | refine LeO.ite ?_ ?_
   | refine LeO.bind ?_ (fun _ => ?_)
set_option maxHeartbeats 8000000 in
set_option maxRecDepth 100000 in
theorem slices_Index_int_int.calls (k : Nat) (A0 : Option Addr) (c0 : Nat) (l0 : List Int) (a1 : Int) (r : Int) (w : World) (hr0 : Kd.C (Kd.int .i64) w A0 l0.length l0) (hc0 : l0.length ≤ c0) (h : slices_Index_int_int.f k l0 a1 = some r) :
  Calls Try.prog 175 #[.slice A0 l0.length c0, .int .i64 a1] w fun e w' => e = .returned (.int .i64 r) ∧ Drawn0 w w' := by
 have HR0 := Aside0.mk hr0
 have HC0 := Aside0.mk hc0
 clear hr0 hc0
 have H : (slices_Index_int_int.l0 k l0 a1 (l0.length : Int) 0) = some r := h
 clear h
 have H' := Aside0.mk H
 clear H
 go_enter Try.func175, Try.ntmps175
 go_wp2
 go_loopg [8] k (fun kq v8 w' => ∃ (x8_1 : Int), v8 = .int .i64 x8_1 ∧ Aside0 (slices_Index_int_int.l0 kq l0 a1 (l0.length : Int) x8_1 = some r) ∧ Aside0 (kq ≤ k) ∧ Drawn0 w w')
 case atStart => exact ⟨(0), (by first | rfl | (simp; done) | (simp [*]; done)), H', ⟨Nat.le_refl _⟩, by repeat (first | exact Drawn0.refl _ | apply Drawn0.step)⟩
 case round =>
  clear H'
  try clear c1
  try clear p2
  obtain ⟨x8_1, rfl, HA, HK1, ⟨m1, rfl⟩⟩ := hrel
  cases gk with
  | zero => exact absurd HA.out (by simp [slices_Index_int_int.l0])
  | succ k1 =>
   have H := HA.out
   clear HA
   simp only [slices_Index_int_int.l0] at H
   by_cases c3 : x8_1 < (l0.length : Int)
   ·rw [if_pos c3] at H
    have c3b0 : decide (x8_1 < (l0.length : Int)) = true := decide_eq_true c3
    clear c3
    by_cases c4 : 0 ≤ x8_1
    ·rw [if_pos c4] at H
     have c4b0 : decide (0 ≤ x8_1) = true := decide_eq_true c4
     clear c4
     by_cases c5 : x8_1 < (l0.length : Int)
     ·rw [if_pos c5] at H
      have c5b0 : decide (x8_1 < (l0.length : Int)) = true := decide_eq_true c5
      clear c5
      by_cases c6 : a1 = (rd l0 x8_1)
      ·rw [if_pos c6] at H
       have c6b0 : (a1 == (rd l0 x8_1)) = true := beq_iff_eq.mpr c6
       have c6b1 : (a1 != (rd l0 x8_1)) = false := bne_eq_false_iff_eq.mpr c6
       clear c6
       obtain rfl := Option.some.inj H
       have p289 : 0 ≤ (x8_1 : Int) := bwD
       have q289 : x8_1 < (l0.length : Int) := bwD
       obtain ⟨ad289, e289, hx289_0⟩ := Kd.at_int HR0.out x8_1 p289 q289
       cases e289
       replace p289 := eq_true p289
       replace q289 := eq_true q289
       go_wp2
       go_ret
       exact ⟨by first | rfl | (simp; done) | (simp [*]; done), by repeat (first | exact Drawn0.refl _ | apply Drawn0.step)⟩
      ·rw [if_neg c6] at H
       have c6b0 : (a1 == (rd l0 x8_1)) = false := beq_eq_false_iff_ne.mpr c6
       have c6b1 : (a1 != (rd l0 x8_1)) = true := bne_iff_ne.mpr c6
       have H' := Aside0.mk H
       clear H
       have p289 : 0 ≤ (x8_1 : Int) := bwD
       have q289 : x8_1 < (l0.length : Int) := bwD
       obtain ⟨ad289, e289, hx289_0⟩ := Kd.at_int HR0.out x8_1 p289 q289
       cases e289
       replace p289 := eq_true p289
       replace q289 := eq_true q289
       go_wp2
       go_roundg k1
       case measure => have := HK1.out; omega
       case rel => exact ⟨(wrap64 (x8_1 + 1)), (by first | rfl | (simp; done) | (simp [*]; done)), H', ⟨by have := HK1.out; omega⟩, by repeat (first | exact Drawn0.refl _ | apply Drawn0.step)⟩
     ·rw [if_neg c5] at H
      exact absurd H (by simp)
    ·rw [if_neg c4] at H
     exact absurd H (by simp)
   ·rw [if_neg c3] at H
    have c3b0 : decide (x8_1 < (l0.length : Int)) = false := decide_eq_false c3
    clear c3
    obtain rfl := Option.some.inj H
    go_wp2
    go_ret
    exact ⟨by first | rfl | (simp; done) | (simp [*]; done), by repeat (first | exact Drawn0.refl _ | apply Drawn0.step)⟩

/-! ### slices_Contains_int_int: function 122 -/
def slices_Contains_int_int.f (k : Nat) (l0 : List Int) (a1 : Int) : Option (Bool) := (slices_Index_int_int.f k l0 a1).bind fun t290 => (some (decide (t290 ≥ 0)))
theorem slices_Contains_int_int.mono : ∀ a0 a1 k, LeO (slices_Contains_int_int.f k a0 a1) (slices_Contains_int_int.f (k + 1) a0 a1) := by
 intro a0 a1 k
 unfold slices_Contains_int_int.f
 repeat' first
   | (with_reducible exact slices_Index_int_int.mono _ _ _)
   | (with_reducible exact LeO.refl _)
   | (with_reducible exact LeO.none _)
   | (with_reducible refine LeO.ite ?_ ?_)
   | (with_reducible refine LeO.bind ?_ (fun _ => ?_))
   | exact slices_Index_int_int.mono _ _ _
   | exact LeO.none _
   | refine LeO.ite ?_ ?_
   | refine LeO.bind ?_ (fun _ => ?_)
set_option maxHeartbeats 8000000 in
set_option maxRecDepth 100000 in
theorem slices_Contains_int_int.calls (k : Nat) (A0 : Option Addr) (c0 : Nat) (l0 : List Int) (a1 : Int) (r : Bool) (w : World) (hr0 : Kd.C (Kd.int .i64) w A0 l0.length l0) (hc0 : l0.length ≤ c0) (h : slices_Contains_int_int.f k l0 a1 = some r) :
  Calls Try.prog 122 #[.slice A0 l0.length c0, .int .i64 a1] w fun e w' => e = .returned (.bool r) ∧ Drawn0 w w' := by
 have HR0 := Aside0.mk hr0
 have HC0 := Aside0.mk hc0
 clear hr0 hc0
 have H : ((slices_Index_int_int.f k l0 a1).bind fun t290 => (some (decide (t290 ≥ 0)))) = some r := h
 clear h
 replace H := Option.bind_eq_some_iff.mp H
 obtain ⟨t290, A30, H⟩ := H
 replace H : (some (decide (t290 ≥ 0))) = some r := H
 have A3 := Aside0.mk A30
 clear A30
 obtain rfl := Option.some.inj H
 go_enter Try.func122, Try.ntmps122
 go_wp2_with (first | ((with_reducible refine gate_callee (f := 175) rfl ?_); refine goesL_ (some 7) rfl rfl Try.func175 (by kernel_rfl) rfl #[.slice A0 l0.length c0, .int .i64 a1] rfl bwA ?_; (with_reducible refine (slices_Index_int_int.calls k _ _ l0 a1 t290 _ ?side1 ?side2 A3.out).mono ?_); (case side1 => repeat (first | exact HR0.out | (with_reducible refine Kd.C_alloc ?_ _) | (with_reducible refine Kd.C_drewN ?_ _) | (with_reducible refine Kd.C_drew ?_))); (case side2 => exact HC0.out); rintro e w' ⟨rfl, ⟨nd, rfl⟩⟩; refine ⟨_, rfl, ?_⟩))
 go_ret
 exact ⟨by first | rfl | (simp; done) | (simp [*]; done), by repeat (first | exact Drawn0.refl _ | apply Drawn0.step)⟩

/-! ### impl_Meets: function 64 -/
/-- Is a number of the one list in the other? -/
def meetsB (s t : List Int) : Bool := s.any (fun k => t.contains k)
theorem hcontains (t : List Int) (a : Int) (ht : t.length ≤ 9223372036854775807) : Ev (fun k => slices_Contains_int_int.f k t a) (t.contains a) := by
 have loop : ∀ (d i : Nat), i + d = t.length → (∀ j (hj : j < t.length), j < i → ¬ a = t[j]) → ∃ r : Int, Ev (fun k => slices_Index_int_int.l0 k t a (t.length : Int) (i : Int)) r ∧ decide (r ≥ 0) = t.contains a := by
  intro d
  induction d with
  | zero =>
   intro i hi hp
   refine ⟨-1, Ev.step (fun k => rfl) (Ev.neg (by omega) (Ev.now _)), ?_⟩
   rw [show decide ((-1 : Int) ≥ 0) = false from rfl]
   symm
   rw [Bool.eq_false_iff]
   intro hc
   rw [List.contains_iff_mem] at hc
   obtain ⟨j, hj, e⟩ := List.mem_iff_getElem.1 hc
   exact hp j hj (by omega) e.symm
  | succ d ih =>
   intro i hi hp
   have hi' : i < t.length := by omega
   by_cases e : a = t[i]
   ·refine ⟨(i : Int), Ev.step (fun k => rfl) (Ev.pos (by omega) (Ev.pos (by omega) (Ev.pos (by omega) ?_))), ?_⟩
    ·rw [rd_at t i hi']
     exact Ev.pos e (Ev.now _)
    ·rw [decide_eq_true (by omega)]
     symm
     rw [List.contains_iff_mem, e]
     exact List.getElem_mem hi'
   ·obtain ⟨r, hr, hd⟩ := ih (i + 1) (by omega) (fun j hj h => by
     by_cases z : j = i
     ·subst z; exact e
     ·exact hp j hj (by omega))
    refine ⟨r, Ev.step (fun k => rfl) (Ev.pos (by omega) (Ev.pos (by omega) (Ev.pos (by omega) ?_))), hd⟩
    rw [rd_at t i hi', wr1 i (by omega)]
    exact Ev.neg e hr
 obtain ⟨r, hr, hd⟩ := loop t.length 0 (by omega) (fun j hj h => absurd h (Nat.not_lt_zero _))
 unfold slices_Contains_int_int.f
 exact Ev.bind hr (Ev.val hd)
def impl_Meets.f (l0_0 : List Int) (a0_1 : Int) (l0_2 : List Int) (a0_3 : Int) (a0_4 : Int) (a0_5 : Int) (a0_6 : Int) (a0_7 : Int) (l0_8 : List Int) (l1_0 : List Int) (a1_1 : Int) (l1_2 : List Int) (a1_3 : Int) (a1_4 : Int) (a1_5 : Int) (a1_6 : Int) (a1_7 : Int) (l1_8 : List Int) : Option (Bool) := some (meetsB l0_2 l1_2)
theorem idx_int (p : Int → Bool) (g : Nat) (lb : Array Value) (eg : ∀ args w, (callFunc g args).run Try.prog w = .ok (.enter g args) w) (A : Option Addr) (c : Nat) (xs : List Int) (w : World) (hp : PredV Try.prog g lb (Value.int .i64) p w) (hr : Kd.C (Kd.int .i64) w A xs.length xs) :
  Calls Try.prog 174 #[.slice A xs.length c, .func (.func g) #[] lb] w fun e w' => e = .returned (.int .i64 (idxOf p xs)) ∧ Below w.heap.size w w' := by
 have hn : xs.length ≤ 9223372036854775807 := hr.2.1
 go_enter Try.func174, Try.ntmps174
 go_wp2
 go_loopg [5, 8] xs.length (fun gg _ s8 wr => ∃ kk : Nat, kk ≤ xs.length ∧ xs.length - kk ≤ gg ∧ s8 = .int .i64 kk ∧ Aside0 (Below w.heap.size w wr) ∧ Aside0 (∀ j (hj : j < xs.length), j < kk → p xs[j] = false))
 case atStart => exact ⟨0, Nat.zero_le _, by omega, rfl, ⟨Below.refl _ w⟩, ⟨fun j hj h => absurd h (Nat.not_lt_zero _)⟩⟩
 case round =>
  obtain ⟨kk, hkk, hg, rfl, BW, HA⟩ := hrel
  by_cases hlt : kk < xs.length
  ·have hltz : (kk : Int) < (xs.length : Int) := by omega
   obtain ⟨ad, cs, rfl, _, hK, hcc⟩ := Kd.C_get hr (0 : Int) (kk : Int) (by omega) hltz
   have hKe : cs = [.int .i64 (xs.getD (kk : Int).toNat 0)] := hK
   subst hKe
   have hx0 := pw_cell_below BW.out (show w.cell? (ad.add kk) = some (.int .i64 (xs.getD (kk : Int).toNat 0)) by have z := hcc 0 _ rfl; simpa [Kd.int, Kd.scalar] using z)
   have hcall := hp wr (xs.getD (kk : Int).toNat 0) BW.out
   clear hp hcc hK
   generalize hy : xs.getD (kk : Int).toNat 0 = y at hcall hx0
   have hyx : y = xs[kk] := by rw [← hy]; simp [List.getD_eq_getElem?_getD, List.getElem?_eq_getElem hlt]
   have HY := Aside0.mk hyx
   clear hyx hy
   cases hq : p y with
   | true =>
    rw [hq] at hcall
    go_wp2_with fail
    refine hcall.mono ?_
    rintro e w' ⟨rfl, hb'⟩
    go_wp2
    go_ret
    refine ⟨?_, below_then BW.out BW.out.size hb'⟩
    rw [idxOf_hit p xs kk hlt (by rw [← HY.out]; exact hq) (fun j hj => HA.out j (by omega) hj)]
    rfl
   | false =>
    rw [hq] at hcall
    go_wp2_with fail
    refine hcall.mono ?_
    rintro e w' ⟨rfl, hb'⟩
    go_wp2
    go_roundg (xs.length - (kk + 1))
    case measure => omega
    case rel =>
     refine ⟨kk + 1, by omega, by omega, by go_num, ⟨below_then BW.out BW.out.size hb'⟩, ⟨fun j hj h => ?_⟩⟩
     by_cases e : j = kk
     ·subst e
      rw [← HY.out]
      exact hq
     ·exact HA.out j hj (by omega)
  ·have hltz : ¬ (kk : Int) < (xs.length : Int) := by omega
   go_wp2
   go_ret
   refine ⟨?_, BW.out⟩
   rw [idxOf_miss p xs (fun j hj => HA.out j hj (by omega))]
   rfl
theorem has_int (p : Int → Bool) (g : Nat) (lb : Array Value) (eg : ∀ args w, (callFunc g args).run Try.prog w = .ok (.enter g args) w) (A : Option Addr) (c : Nat) (xs : List Int) (w : World) (hp : PredV Try.prog g lb (Value.int .i64) p w) (hr : Kd.C (Kd.int .i64) w A xs.length xs) :
  Calls Try.prog 120 #[.slice A xs.length c, .func (.func g) #[] lb] w fun e w' => e = .returned (.bool (decide (idxOf p xs ≥ 0))) ∧ Below w.heap.size w w' := by
 go_enter Try.func120, Try.ntmps120
 go_wp2_with (go_at_call 174; refine (idx_int p g lb eg A c xs _ hp hr).mono ?_; rintro e w' ⟨rfl, hb'⟩)
 go_ret
 exact ⟨rfl, hb'⟩
theorem meets1 (w : World) (g : Nat) (A : Option Addr) (c : Nat) (t : List Int) (hg : w.cell? ⟨g, 2, none⟩ = some (.slice A t.length c)) (hr : Kd.C (Kd.int .i64) w A t.length t) (hc : t.length ≤ c) : PredV Try.prog 121 #[.pointer (some ⟨g, 0, none⟩)] (Value.int .i64) (fun k => t.contains k) w := by
 intro W x hb
 show Calls Try.prog _ _ W fun e w' => e = .returned (.bool (t.contains x)) ∧ Below W.heap.size W w'
 obtain ⟨k, hk⟩ := Ev.rounds (hcontains t x hr.2.1)
 have hcall := slices_Contains_int_int.calls k A c t x (t.contains x) W (Kd.C_below hr hb) hc hk
 have hx := pw_cell_below hb hg
 have hu := Try.underlying92
 have hB := Aside0.mk (Below.refl W.heap.size W)
 clear hk hg hr
 generalize t.contains x = tx at hcall ⊢
 go_enter Try.func121, Try.ntmps121
 go_wp2_with (go_at_call 122; refine hcall.mono ?_; rintro e w' ⟨rfl, ⟨nd, rfl⟩⟩)
 go_ret
 exact ⟨rfl, pw_below_drewN hB.out nd⟩
set_option maxHeartbeats 8000000 in
set_option maxRecDepth 100000 in
theorem impl_Meets.calls (A0_0 : Option Addr) (c0_0 : Nat) (l0_0 : List Int) (a0_1 : Int) (A0_2 : Option Addr) (c0_2 : Nat) (l0_2 : List Int) (a0_3 : Int) (a0_4 : Int) (a0_5 : Int) (a0_6 : Int) (a0_7 : Int) (A0_8 : Option Addr) (c0_8 : Nat) (l0_8 : List Int) (A1_0 : Option Addr) (c1_0 : Nat) (l1_0 : List Int) (a1_1 : Int) (A1_2 : Option Addr) (c1_2 : Nat) (l1_2 : List Int) (a1_3 : Int) (a1_4 : Int) (a1_5 : Int) (a1_6 : Int) (a1_7 : Int) (A1_8 : Option Addr) (c1_8 : Nat) (l1_8 : List Int) (r : Bool) (w : World) (hr0_0 : Kd.C (Kd.int .u8) w A0_0 l0_0.length l0_0) (hc0_0 : l0_0.length ≤ c0_0) (hr0_2 : Kd.C (Kd.int .i64) w A0_2 l0_2.length l0_2) (hc0_2 : l0_2.length ≤ c0_2) (hr0_8 : Kd.C (Kd.int .u8) w A0_8 l0_8.length l0_8) (hc0_8 : l0_8.length ≤ c0_8) (hr1_0 : Kd.C (Kd.int .u8) w A1_0 l1_0.length l1_0) (hc1_0 : l1_0.length ≤ c1_0) (hr1_2 : Kd.C (Kd.int .i64) w A1_2 l1_2.length l1_2) (hc1_2 : l1_2.length ≤ c1_2) (hr1_8 : Kd.C (Kd.int .u8) w A1_8 l1_8.length l1_8) (hc1_8 : l1_8.length ≤ c1_8) (h : impl_Meets.f l0_0 a0_1 l0_2 a0_3 a0_4 a0_5 a0_6 a0_7 l0_8 l1_0 a1_1 l1_2 a1_3 a1_4 a1_5 a1_6 a1_7 l1_8 = some r) :
  Calls Try.prog 64 #[.agg #[.slice A0_0 l0_0.length c0_0, .int .i64 a0_1, .slice A0_2 l0_2.length c0_2, .int .i64 a0_3, .int .i64 a0_4, .int .i64 a0_5, .int .i64 a0_6, .int .i64 a0_7, .slice A0_8 l0_8.length c0_8], .agg #[.slice A1_0 l1_0.length c1_0, .int .i64 a1_1, .slice A1_2 l1_2.length c1_2, .int .i64 a1_3, .int .i64 a1_4, .int .i64 a1_5, .int .i64 a1_6, .int .i64 a1_7, .slice A1_8 l1_8.length c1_8]] w fun e w' => e = .returned (.bool r) ∧ Below w.heap.size w w' := by
 simp only [impl_Meets.f, Option.some.injEq] at h
 subst h
 have hB := Aside0.mk (Below.refl w.heap.size w)
 have e1 := enters_ Try.func121 (by kernel_rfl) rfl
 have hr1 := Aside0.mk hr0_2
 have hr2 := Aside0.mk hr1_2
 have hc2 := Aside0.mk hc1_2
 clear hr0_0 hc0_0 hr0_2 hc0_2 hr0_8 hc0_8 hr1_0 hc1_0 hr1_2 hc1_2 hr1_8 hc1_8
 have hm : decide (idxOf (fun k => l1_2.contains k) l0_2 ≥ 0) = meetsB l0_2 l1_2 := by
  unfold meetsB
  rw [Bool.eq_iff_iff, decide_eq_true_iff]
  exact idxOf_nonneg _ _
 have hcall := fun W g (hW : Below w.heap.size w W) (hg : W.cell? ⟨g, 2, none⟩ = some (.slice A1_2 l1_2.length c1_2)) => has_int (fun k => l1_2.contains k) 121 #[.pointer (some ⟨g, 0, none⟩)] (fun args w => e1 args w) A0_2 c0_2 l0_2 W (meets1 W g A1_2 c1_2 l1_2 hg (Kd.C_below hr2.out hW) hc2.out) (Kd.C_below hr1.out hW)
 rw [hm] at hcall
 clear hm e1
 generalize meetsB l0_2 l1_2 = mb at hcall ⊢
 have hu := Try.underlying92
 go_enter Try.func64, Try.ntmps64
 go_wp2_with fail
 refine (hcall _ (w.heap.size + 1) (below_alloc (below_alloc hB.out _) _) (by go_simp)).mono ?_
 rintro e w1 ⟨rfl, hb1⟩
 go_wp2
 go_ret
 exact ⟨rfl, below_then (below_alloc (below_alloc hB.out _) _) (Below.size (below_alloc (below_alloc hB.out _) _)) hb1⟩


/-! ### impl_Crossings: function 16 -/
mutual
def impl_Crossings.l0 : Nat → Int → List (S92) → Int → Int → List (S124) → Int → Int → List (S92) → Option (Int)
 | 0, _, _, _, _, _, _, _, _ => none
 | k + 1, x3, x9, x10, x11, x295000, x295001, x295002, x295003 => if x11 < x10 then (if 0 ≤ x11 then (if x11 < (x9.length : Int) then (if x11 ≤ (x295003.length : Int) then ((some (x295003.take (x11 : Int).toNat : List (S92))).bind fun y297 => (impl_Crossings.l1 k x3 x9 x10 x11 y297 (y297.length : Int) 0 x295000 x295001 x295002 x295003 ((rd_T92 x9 x11).f0) ((rd_T92 x9 x11).f1) ((rd_T92 x9 x11).f2) ((rd_T92 x9 x11).f3) ((rd_T92 x9 x11).f4) ((rd_T92 x9 x11).f5) ((rd_T92 x9 x11).f6) ((rd_T92 x9 x11).f7) ((rd_T92 x9 x11).f8))) else (none)) else (none)) else (none)) else (some x3)
def impl_Crossings.l1 : Nat → Int → List (S92) → Int → Int → List (S92) → Int → Int → List (S124) → Int → Int → List (S92) → List Int → Int → List Int → Int → Int → Int → Int → Int → List Int → Option (Int)
 | 0, _, _, _, _, _, _, _, _, _, _, _, _, _, _, _, _, _, _, _, _ => none
 | k + 1, x3, x9, x10, x11, x19, x20, x21, x295000, x295001, x295002, x295003, x297000, x297001, x297002, x297003, x297004, x297005, x297006, x297007, x297008 => if x21 < x20 then (if 0 ≤ x21 then (if x21 < (x19.length : Int) then ((impl_Meets.f x297000 x297001 x297002 x297003 x297004 x297005 x297006 x297007 x297008 ((rd_T92 x19 x21).f0) ((rd_T92 x19 x21).f1) ((rd_T92 x19 x21).f2) ((rd_T92 x19 x21).f3) ((rd_T92 x19 x21).f4) ((rd_T92 x19 x21).f5) ((rd_T92 x19 x21).f6) ((rd_T92 x19 x21).f7) ((rd_T92 x19 x21).f8)).bind fun t303 => (if t303 = true then (impl_Crossings.l1 k (wrap64 (x3 + 1)) x9 x10 x11 x19 x20 (wrap64 (x21 + 1)) x295000 x295001 x295002 x295003 x297000 x297001 x297002 x297003 x297004 x297005 x297006 x297007 x297008) else (impl_Crossings.l1 k x3 x9 x10 x11 x19 x20 (wrap64 (x21 + 1)) x295000 x295001 x295002 x295003 x297000 x297001 x297002 x297003 x297004 x297005 x297006 x297007 x297008))) else (none)) else (none)) else (impl_Crossings.l0 k x3 x9 x10 (wrap64 (x11 + 1)) x295000 x295001 x295002 x295003)
end
def impl_Crossings.f (k : Nat) (l0_0 : List (S124)) (a0_1 : Int) (a0_2 : Int) (l0_3 : List (S92)) : Option (Int) := impl_Crossings.l0 k 0 l0_3 (l0_3.length : Int) 0 l0_0 a0_1 a0_2 l0_3
theorem impl_Crossings.mono_l : ∀ k, (∀ y0 y1 y2 y3 y4 y5 y6 y7, LeO (impl_Crossings.l0 k y0 y1 y2 y3 y4 y5 y6 y7) (impl_Crossings.l0 (k + 1) y0 y1 y2 y3 y4 y5 y6 y7)) ∧ (∀ y0 y1 y2 y3 y4 y5 y6 y7 y8 y9 y10 y11 y12 y13 y14 y15 y16 y17 y18 y19, LeO (impl_Crossings.l1 k y0 y1 y2 y3 y4 y5 y6 y7 y8 y9 y10 y11 y12 y13 y14 y15 y16 y17 y18 y19) (impl_Crossings.l1 (k + 1) y0 y1 y2 y3 y4 y5 y6 y7 y8 y9 y10 y11 y12 y13 y14 y15 y16 y17 y18 y19))
 | 0 => ⟨fun _ _ _ _ _ _ _ _ r h => by simp [impl_Crossings.l0] at h, fun _ _ _ _ _ _ _ _ _ _ _ _ _ _ _ _ _ _ _ _ r h => by simp [impl_Crossings.l1] at h⟩
 | k + 1 => by
  obtain ⟨ih0, ih1⟩ := impl_Crossings.mono_l k
  refine ⟨?_, ?_⟩
  ·intro y0 y1 y2 y3 y4 y5 y6 y7
   unfold impl_Crossings.l0
   repeat' first
   | (with_reducible exact ih0 _ _ _ _ _ _ _ _)
   | (with_reducible exact ih1 _ _ _ _ _ _ _ _ _ _ _ _ _ _ _ _ _ _ _ _)
   | (with_reducible exact LeO.refl _)
   | (with_reducible exact LeO.none _)
   | (with_reducible refine LeO.ite ?_ ?_)
   | (with_reducible refine LeO.bind ?_ (fun _ => ?_))
   | exact ih0 _ _ _ _ _ _ _ _
   | exact ih1 _ _ _ _ _ _ _ _ _ _ _ _ _ _ _ _ _ _ _ _
   | exact LeO.none _
   | refine LeO.ite ?_ ?_
   | refine LeO.bind ?_ (fun _ => ?_)
  ·intro y0 y1 y2 y3 y4 y5 y6 y7 y8 y9 y10 y11 y12 y13 y14 y15 y16 y17 y18 y19
   unfold impl_Crossings.l1
   repeat' first
   | (with_reducible exact ih0 _ _ _ _ _ _ _ _)
   | (with_reducible exact ih1 _ _ _ _ _ _ _ _ _ _ _ _ _ _ _ _ _ _ _ _)
   | (with_reducible exact LeO.refl _)
   | (with_reducible exact LeO.none _)
   | (with_reducible refine LeO.ite ?_ ?_)
   | (with_reducible refine LeO.bind ?_ (fun _ => ?_))
   | exact ih0 _ _ _ _ _ _ _ _
   | exact ih1 _ _ _ _ _ _ _ _ _ _ _ _ _ _ _ _ _ _ _ _
   | exact LeO.none _
   | refine LeO.ite ?_ ?_
   | refine LeO.bind ?_ (fun _ => ?_)
theorem impl_Crossings.mono : ∀ a0 a1 a2 a3 k, LeO (impl_Crossings.f k a0 a1 a2 a3) (impl_Crossings.f (k + 1) a0 a1 a2 a3) := by
 intro a0 a1 a2 a3 k
 obtain ⟨ih0, ih1⟩ := impl_Crossings.mono_l k
 unfold impl_Crossings.f
 repeat' first
   | (with_reducible exact ih0 _ _ _ _ _ _ _ _)
   | (with_reducible exact ih1 _ _ _ _ _ _ _ _ _ _ _ _ _ _ _ _ _ _ _ _)
   | (with_reducible exact LeO.refl _)
   | (with_reducible exact LeO.none _)
   | (with_reducible refine LeO.ite ?_ ?_)
   | (with_reducible refine LeO.bind ?_ (fun _ => ?_))
   | exact ih0 _ _ _ _ _ _ _ _
   | exact ih1 _ _ _ _ _ _ _ _ _ _ _ _ _ _ _ _ _ _ _ _
   | exact LeO.none _
   | refine LeO.ite ?_ ?_
   | refine LeO.bind ?_ (fun _ => ?_)
set_option maxHeartbeats 8000000 in
set_option maxRecDepth 100000 in
theorem impl_Crossings.calls (k : Nat) (A0_0 : Option Addr) (c0_0 : Nat) (l0_0 : List (S124)) (a0_1 : Int) (a0_2 : Int) (A0_3 : Option Addr) (c0_3 : Nat) (l0_3 : List (S92)) (r : Int) (w : World) (hr0_0 : Kd.C k124 w A0_0 l0_0.length l0_0) (hc0_0 : l0_0.length ≤ c0_0) (hr0_3 : Kd.C k92 w A0_3 l0_3.length l0_3) (hc0_3 : l0_3.length ≤ c0_3) (h : impl_Crossings.f k l0_0 a0_1 a0_2 l0_3 = some r) :
  Calls Try.prog 16 #[.agg #[.slice A0_0 l0_0.length c0_0, .int .i64 a0_1, .int .i64 a0_2, .slice A0_3 l0_3.length c0_3]] w fun e w' => e = .returned (.int .i64 r) ∧ Below w.heap.size w w' := by
 have hu31 := Try.underlying31
 have hu92 := Try.underlying92
 have HR0_0 := Aside0.mk hr0_0
 have HC0_0 := Aside0.mk hc0_0
 clear hr0_0 hc0_0
 have HR0_3 := Aside0.mk hr0_3
 have HC0_3 := Aside0.mk hc0_3
 clear hr0_3 hc0_3
 have HB := Aside0.mk (Below.refl w.heap.size w)
 have H : (impl_Crossings.l0 k 0 l0_3 (l0_3.length : Int) 0 l0_0 a0_1 a0_2 l0_3) = some r := h
 clear h
 have H' := Aside0.mk H
 clear H
 go_enter Try.func16, Try.ntmps16
 go_wp2_with (first | ((with_reducible refine gate_dst (N := 1) rfl ?_); refine box_event ?hg (N := 1) ?hd (cs := #[.slice A0_0 l0_0.length c0_0, .int .i64 a0_1, .int .i64 a0_2, .slice A0_3 l0_3.length c0_3]) (t := 31) ?hr ?_; (case hd => rfl); (case hg => rfl); (case hr => first | (go_simp; done) | (go_simp; rfl)); intro gb294 hg w2 hbox hb; have n0_ := Aside0.mk (below_step bwB hb); have n1_ := Aside0.mk (hbox); have n2_ := Aside0.mk ((by rw [hg]; exact (below_size bwB) : w.heap.size ≤ gb294)); have n3_ := Aside0.mk ((by rw [hg]; exact (below_size bwB) : w.heap.size ≤ gb294)); clear HB; have HB := n0_; have BK294 := n1_; have GW294 := n2_; have GE294 := n3_; clear n0_ n1_ n2_ n3_; clear hb hbox hg; obtain ⟨hcz3_0, hcz3_1, hcz3_2, hcz3_3, hfz3_0, hfz3_1, hfz3_2, hfz3_3⟩ := bwZ4 BK294.out))
 go_loopg [3, 11] k (fun kq v3 v11 w' => ∃ (x3_1 : Int) (x11_1 : Int), v3 = .int .i64 x3_1 ∧ v11 = .int .i64 x11_1 ∧ Aside0 (impl_Crossings.l0 kq x3_1 l0_3 (l0_3.length : Int) x11_1 l0_0 a0_1 a0_2 l0_3 = some r) ∧ Aside0 (kq ≤ k) ∧ Aside0 (w'.heap[gb294]? = some (.cells #[(.slice A0_0 l0_0.length c0_0), .int .i64 a0_1, .int .i64 a0_2, (.slice A0_3 l0_3.length c0_3)] 31 (0, 0))) ∧ Aside0 (Below w.heap.size w w'))
 case atStart => exact ⟨(0), (0), (by first | rfl | (simp; done) | (simp [*]; done)), (by first | rfl | (simp; done) | (simp [*]; done)), H', ⟨Nat.le_refl _⟩, ⟨bwK BK294.out⟩, ⟨bwB⟩⟩
 case round =>
  clear H'
  try clear c1
  try clear p2
  try clear hcz3_0
  try clear hcz3_1
  try clear hcz3_2
  try clear hcz3_3
  try clear hfz3_0
  try clear hfz3_1
  try clear hfz3_2
  try clear hfz3_3
  obtain ⟨x3_1, x11_1, rfl, rfl, HA, HK1, BK294, HB⟩ := hrel
  cases gk with
  | zero => exact absurd HA.out (by simp [impl_Crossings.l0])
  | succ k1 =>
   have H := HA.out
   clear HA
   simp only [impl_Crossings.l0] at H
   by_cases c4 : x11_1 < (l0_3.length : Int)
   ·rw [if_pos c4] at H
    have c4b0 : decide (x11_1 < (l0_3.length : Int)) = true := decide_eq_true c4
    clear c4
    by_cases c5 : 0 ≤ x11_1
    ·rw [if_pos c5] at H
     have c5b0 : decide (0 ≤ x11_1) = true := decide_eq_true c5
     clear c5
     by_cases c6 : x11_1 < (l0_3.length : Int)
     ·rw [if_pos c6] at H
      have c6b0 : decide (x11_1 < (l0_3.length : Int)) = true := decide_eq_true c6
      clear c6
      have c7b0 := eq_true (bwD : 0 ≤ x11_1)
      by_cases c8 : x11_1 ≤ (l0_3.length : Int)
      ·rw [if_pos c8] at H
       have c8b0 := eq_true c8
       have c8b1 : decide (x11_1 ≤ (l0_3.length : Int)) = true := decide_eq_true c8
       clear c8
       obtain ⟨y297, hy297⟩ : ∃ y_ : List (S92), y_ = (l0_3.take (x11_1 : Int).toNat) := ⟨_, rfl⟩
       replace H : (impl_Crossings.l1 k1 x3_1 l0_3 (l0_3.length : Int) x11_1 y297 (y297.length : Int) 0 l0_0 a0_1 a0_2 l0_3 ((rd_T92 l0_3 x11_1).f0) ((rd_T92 l0_3 x11_1).f1) ((rd_T92 l0_3 x11_1).f2) ((rd_T92 l0_3 x11_1).f3) ((rd_T92 l0_3 x11_1).f4) ((rd_T92 l0_3 x11_1).f5) ((rd_T92 l0_3 x11_1).f6) ((rd_T92 l0_3 x11_1).f7) ((rd_T92 l0_3 x11_1).f8)) = some r := by first | (rw [hy297]; with_reducible exact H) | (have H2_ := (Option.bind_some _ _).symm.trans H; rw [hy297]; with_reducible exact H2_) | (have H2_ := (Option.bind_some _ _).symm.trans H; with_reducible exact H2_) | with_reducible exact H | (rw [hy297]; exact H) | exact H
       have Ny297 := Aside0.mk hy297
       clear hy297
       have H' := Aside0.mk H
       clear H
       have p295 : 0 ≤ (x11_1 : Int) := bwD
       have q295 : x11_1 < (l0_3.length : Int) := bwD
       obtain ⟨ad295, A295_0, c295_0, A295_2, c295_2, A295_8, c295_8, e295, hx295_0, hx295_1, hx295_2, hx295_3, hx295_4, hx295_5, hx295_6, hx295_7, hx295_8, hl295_0, hi295_0, hl295_2, hi295_2, hl295_8, hi295_8⟩ := at_T92 HR0_3.out x11_1 p295 q295
       cases e295
       replace hx295_0 := (HB.out.cell (World.block_lt_of_cell? w _ hx295_0)).trans hx295_0
       replace hx295_1 := (HB.out.cell (World.block_lt_of_cell? w _ hx295_1)).trans hx295_1
       replace hx295_2 := (HB.out.cell (World.block_lt_of_cell? w _ hx295_2)).trans hx295_2
       replace hx295_3 := (HB.out.cell (World.block_lt_of_cell? w _ hx295_3)).trans hx295_3
       replace hx295_4 := (HB.out.cell (World.block_lt_of_cell? w _ hx295_4)).trans hx295_4
       replace hx295_5 := (HB.out.cell (World.block_lt_of_cell? w _ hx295_5)).trans hx295_5
       replace hx295_6 := (HB.out.cell (World.block_lt_of_cell? w _ hx295_6)).trans hx295_6
       replace hx295_7 := (HB.out.cell (World.block_lt_of_cell? w _ hx295_7)).trans hx295_7
       replace hx295_8 := (HB.out.cell (World.block_lt_of_cell? w _ hx295_8)).trans hx295_8
       have HR295_0 := Aside0.mk hi295_0
       have HC295_0 := Aside0.mk hl295_0
       clear hi295_0 hl295_0
       have HR295_2 := Aside0.mk hi295_2
       have HC295_2 := Aside0.mk hl295_2
       clear hi295_2 hl295_2
       have HR295_8 := Aside0.mk hi295_8
       have HC295_8 := Aside0.mk hl295_8
       clear hi295_8 hl295_8
       replace p295 := eq_true p295
       replace q295 := eq_true q295
       go_wp2_with (first | ((with_reducible refine gate_dst (N := 5) rfl ?_); refine box_event ?hg (N := 5) ?hd (cs := #[.slice none 0 0, .int .i64 0, .slice none 0 0, .int .i64 0, .int .i64 0, .int .i64 0, .int .i64 0, .int .i64 0, .slice none 0 0]) (t := 92) ?hr ?_; (case hd => rfl); (case hg => rfl); (case hr => first | (go_simp; done) | (go_simp; rfl)); intro gb296 hg w9 hbox hb; have n0_ := Aside0.mk (blk_below (g := gb294) (o := .cells #[.slice A0_0 l0_0.length c0_0, .int .i64 a0_1, .int .i64 a0_2, .slice (some ad295) l0_3.length c0_3] 31 (0, 0)) (bwK BK294.out) hb); have n1_ := Aside0.mk (below_step bwB hb); have n2_ := Aside0.mk (hbox); have n3_ := Aside0.mk ((by rw [hg]; exact (below_size bwB) : w.heap.size ≤ gb296)); have n4_ := Aside0.mk ((by rw [hg]; exact (below_size bwB) : w.heap.size ≤ gb296)); have n5_ := Aside0.mk ((by rw [hg]; exact Nat.ne_of_lt (blk_lt (g := gb294) (o := .cells #[.slice A0_0 l0_0.length c0_0, .int .i64 a0_1, .int .i64 a0_2, .slice (some ad295) l0_3.length c0_3] 31 (0, 0)) (bwK BK294.out)) : gb294 ≠ gb296)); have n6_ := Aside0.mk ((by rw [hg]; exact Nat.ne_of_gt (blk_lt (g := gb294) (o := .cells #[.slice A0_0 l0_0.length c0_0, .int .i64 a0_1, .int .i64 a0_2, .slice (some ad295) l0_3.length c0_3] 31 (0, 0)) (bwK BK294.out)) : gb296 ≠ gb294)); clear BK294; clear HB; have BK294 := n0_; have HB := n1_; have BK296 := n2_; have GW296 := n3_; have GE296 := n4_; have NB294_296 := n5_; have NB296_294 := n6_; clear n0_ n1_ n2_ n3_ n4_ n5_ n6_; clear hb hbox hg; have hnb10 := NB296_294.out; have hnc10 := NB294_296.out; obtain ⟨hcz11_0, hcz11_1, hcz11_2, hcz11_3, hcz11_4, hcz11_5, hcz11_6, hcz11_7, hcz11_8, hfz11_0, hfz11_1, hfz11_2, hfz11_3, hfz11_4, hfz11_5, hfz11_6, hfz11_7, hfz11_8⟩ := bwZ9 BK296.out) | ((with_reducible refine gate_store (t := 92) (p := 5) rfl ?_); refine store_event (t := 92) (p := 5) (v := ?vo_w12) (w1 := (((((((((w9.setCell ⟨gb296, 0, none⟩ (.slice A295_0 ((rd_T92 l0_3 x11_1).f0).length c295_0)).setCell ⟨gb296, 1, none⟩ (.int .i64 ((rd_T92 l0_3 x11_1).f1))).setCell ⟨gb296, 2, none⟩ (.slice A295_2 ((rd_T92 l0_3 x11_1).f2).length c295_2)).setCell ⟨gb296, 3, none⟩ (.int .i64 ((rd_T92 l0_3 x11_1).f3))).setCell ⟨gb296, 4, none⟩ (.int .i64 ((rd_T92 l0_3 x11_1).f4))).setCell ⟨gb296, 5, none⟩ (.int .i64 ((rd_T92 l0_3 x11_1).f5))).setCell ⟨gb296, 6, none⟩ (.int .i64 ((rd_T92 l0_3 x11_1).f6))).setCell ⟨gb296, 7, none⟩ (.int .i64 ((rd_T92 l0_3 x11_1).f7))).setCell ⟨gb296, 8, none⟩ (.slice A295_8 ((rd_T92 l0_3 x11_1).f8).length c295_8))) ?hg ?ho ?hn ?hr ?_; (case ho => rfl); (case hg => rfl); (case hn => rfl); (case hr => first | (go_simp; done) | (go_simp; rfl)); intro w12 hw; have n0_ : Aside0 (w12.heap[gb294]? = some (.cells #[.slice A0_0 l0_0.length c0_0, .int .i64 a0_1, .int .i64 a0_2, .slice (some ad295) l0_3.length c0_3] 31 (0, 0))) := ⟨(by rw [hw]; exact (by (with_reducible repeat (first | refine blk_drewN ?_ _ | refine blk_drew ?_ | refine blk_alloc ?_ _)); refine blk_far ?_ NB294_296.out _; (with_reducible repeat (first | refine blk_drewN ?_ _ | refine blk_drew ?_ | refine blk_alloc ?_ _)); refine blk_far ?_ NB294_296.out _; (with_reducible repeat (first | refine blk_drewN ?_ _ | refine blk_drew ?_ | refine blk_alloc ?_ _)); refine blk_far ?_ NB294_296.out _; (with_reducible repeat (first | refine blk_drewN ?_ _ | refine blk_drew ?_ | refine blk_alloc ?_ _)); refine blk_far ?_ NB294_296.out _; (with_reducible repeat (first | refine blk_drewN ?_ _ | refine blk_drew ?_ | refine blk_alloc ?_ _)); refine blk_far ?_ NB294_296.out _; (with_reducible repeat (first | refine blk_drewN ?_ _ | refine blk_drew ?_ | refine blk_alloc ?_ _)); refine blk_far ?_ NB294_296.out _; (with_reducible repeat (first | refine blk_drewN ?_ _ | refine blk_drew ?_ | refine blk_alloc ?_ _)); refine blk_far ?_ NB294_296.out _; (with_reducible repeat (first | refine blk_drewN ?_ _ | refine blk_drew ?_ | refine blk_alloc ?_ _)); refine blk_far ?_ NB294_296.out _; (with_reducible repeat (first | refine blk_drewN ?_ _ | refine blk_drew ?_ | refine blk_alloc ?_ _)); refine blk_far ?_ NB294_296.out _; (with_reducible repeat (first | refine blk_drewN ?_ _ | refine blk_drew ?_ | refine blk_alloc ?_ _)); exact BK294.out))⟩; have n1_ : Aside0 (w12.heap[gb296]? = some (.cells #[.slice A295_0 ((rd_T92 l0_3 x11_1).f0).length c295_0, .int .i64 ((rd_T92 l0_3 x11_1).f1), .slice A295_2 ((rd_T92 l0_3 x11_1).f2).length c295_2, .int .i64 ((rd_T92 l0_3 x11_1).f3), .int .i64 ((rd_T92 l0_3 x11_1).f4), .int .i64 ((rd_T92 l0_3 x11_1).f5), .int .i64 ((rd_T92 l0_3 x11_1).f6), .int .i64 ((rd_T92 l0_3 x11_1).f7), .slice A295_8 ((rd_T92 l0_3 x11_1).f8).length c295_8] 92 (0, 0))) := ⟨(by rw [hw]; exact (by (with_reducible repeat (first | refine blk_drewN ?_ _ | refine blk_drew ?_ | refine blk_alloc ?_ _)); refine blk_put (cs := #[.slice A295_0 ((rd_T92 l0_3 x11_1).f0).length c295_0, .int .i64 ((rd_T92 l0_3 x11_1).f1), .slice A295_2 ((rd_T92 l0_3 x11_1).f2).length c295_2, .int .i64 ((rd_T92 l0_3 x11_1).f3), .int .i64 ((rd_T92 l0_3 x11_1).f4), .int .i64 ((rd_T92 l0_3 x11_1).f5), .int .i64 ((rd_T92 l0_3 x11_1).f6), .int .i64 ((rd_T92 l0_3 x11_1).f7), .slice none 0 0]) ?_ 8 _ rfl; (with_reducible repeat (first | refine blk_drewN ?_ _ | refine blk_drew ?_ | refine blk_alloc ?_ _)); refine blk_put (cs := #[.slice A295_0 ((rd_T92 l0_3 x11_1).f0).length c295_0, .int .i64 ((rd_T92 l0_3 x11_1).f1), .slice A295_2 ((rd_T92 l0_3 x11_1).f2).length c295_2, .int .i64 ((rd_T92 l0_3 x11_1).f3), .int .i64 ((rd_T92 l0_3 x11_1).f4), .int .i64 ((rd_T92 l0_3 x11_1).f5), .int .i64 ((rd_T92 l0_3 x11_1).f6), .int .i64 0, .slice none 0 0]) ?_ 7 _ rfl; (with_reducible repeat (first | refine blk_drewN ?_ _ | refine blk_drew ?_ | refine blk_alloc ?_ _)); refine blk_put (cs := #[.slice A295_0 ((rd_T92 l0_3 x11_1).f0).length c295_0, .int .i64 ((rd_T92 l0_3 x11_1).f1), .slice A295_2 ((rd_T92 l0_3 x11_1).f2).length c295_2, .int .i64 ((rd_T92 l0_3 x11_1).f3), .int .i64 ((rd_T92 l0_3 x11_1).f4), .int .i64 ((rd_T92 l0_3 x11_1).f5), .int .i64 0, .int .i64 0, .slice none 0 0]) ?_ 6 _ rfl; (with_reducible repeat (first | refine blk_drewN ?_ _ | refine blk_drew ?_ | refine blk_alloc ?_ _)); refine blk_put (cs := #[.slice A295_0 ((rd_T92 l0_3 x11_1).f0).length c295_0, .int .i64 ((rd_T92 l0_3 x11_1).f1), .slice A295_2 ((rd_T92 l0_3 x11_1).f2).length c295_2, .int .i64 ((rd_T92 l0_3 x11_1).f3), .int .i64 ((rd_T92 l0_3 x11_1).f4), .int .i64 0, .int .i64 0, .int .i64 0, .slice none 0 0]) ?_ 5 _ rfl; (with_reducible repeat (first | refine blk_drewN ?_ _ | refine blk_drew ?_ | refine blk_alloc ?_ _)); refine blk_put (cs := #[.slice A295_0 ((rd_T92 l0_3 x11_1).f0).length c295_0, .int .i64 ((rd_T92 l0_3 x11_1).f1), .slice A295_2 ((rd_T92 l0_3 x11_1).f2).length c295_2, .int .i64 ((rd_T92 l0_3 x11_1).f3), .int .i64 0, .int .i64 0, .int .i64 0, .int .i64 0, .slice none 0 0]) ?_ 4 _ rfl; (with_reducible repeat (first | refine blk_drewN ?_ _ | refine blk_drew ?_ | refine blk_alloc ?_ _)); refine blk_put (cs := #[.slice A295_0 ((rd_T92 l0_3 x11_1).f0).length c295_0, .int .i64 ((rd_T92 l0_3 x11_1).f1), .slice A295_2 ((rd_T92 l0_3 x11_1).f2).length c295_2, .int .i64 0, .int .i64 0, .int .i64 0, .int .i64 0, .int .i64 0, .slice none 0 0]) ?_ 3 _ rfl; (with_reducible repeat (first | refine blk_drewN ?_ _ | refine blk_drew ?_ | refine blk_alloc ?_ _)); refine blk_put (cs := #[.slice A295_0 ((rd_T92 l0_3 x11_1).f0).length c295_0, .int .i64 ((rd_T92 l0_3 x11_1).f1), .slice none 0 0, .int .i64 0, .int .i64 0, .int .i64 0, .int .i64 0, .int .i64 0, .slice none 0 0]) ?_ 2 _ rfl; (with_reducible repeat (first | refine blk_drewN ?_ _ | refine blk_drew ?_ | refine blk_alloc ?_ _)); refine blk_put (cs := #[.slice A295_0 ((rd_T92 l0_3 x11_1).f0).length c295_0, .int .i64 0, .slice none 0 0, .int .i64 0, .int .i64 0, .int .i64 0, .int .i64 0, .int .i64 0, .slice none 0 0]) ?_ 1 _ rfl; (with_reducible repeat (first | refine blk_drewN ?_ _ | refine blk_drew ?_ | refine blk_alloc ?_ _)); refine blk_put (cs := #[.slice none 0 0, .int .i64 0, .slice none 0 0, .int .i64 0, .int .i64 0, .int .i64 0, .int .i64 0, .int .i64 0, .slice none 0 0]) ?_ 0 _ rfl; (with_reducible repeat (first | refine blk_drewN ?_ _ | refine blk_drew ?_ | refine blk_alloc ?_ _)); exact BK296.out))⟩; have n2_ : Aside0 (Below w.heap.size w w12) := ⟨(by rw [hw]; exact bwB)⟩; clear hw; clear BK294; clear BK296; clear HB; have BK294 := n0_; have BK296 := n1_; have HB := n2_; clear n0_ n1_ n2_; obtain ⟨hcz13_0, hcz13_1, hcz13_2, hcz13_3, hfz13_0, hfz13_1, hfz13_2, hfz13_3⟩ := bwZ4 BK294.out; have q14 : (x11_1 : Int) ≤ ((l0_3.length : Int) : Int) := bwD; obtain ⟨i014, hi014, _, hsz14, _⟩ := info_parts info92; have hroom14 : l0_3.length ≤ c0_3 := HC0_3.out; have hC14 : Kd.C k92 _ (some ad295) l0_3.length l0_3 := HR0_3.out; have hcut14 := cut_to (P := Try.prog) 29 92 .i64 Try.underlying29 hi014 (some ad295) l0_3.length c0_3 x11_1 (bwD) q14 hroom14; have hr14 := Kd.C_take (m := (x11_1 : Int).toNat) hC14 (by omega); have hy14 : y297.length = (x11_1 : Int).toNat := (by rw [Ny297.out, List.length_take]; omega); rw [← Ny297.out] at hr14; rw [← hy14] at hcut14; have HR300 := Aside0.mk hr14; have HC300 := Aside0.mk (show y297.length ≤ c0_3 from by omega); clear hr14 hC14 hroom14 hi014 hsz14; have KY14 := Aside0.mk hy14; clear hy14; replace q14 := eq_true q14))
       go_loopg [3, 21] k1 (fun kq v3 v21 w' => ∃ (x3_2 : Int) (x21_2 : Int), v3 = .int .i64 x3_2 ∧ v21 = .int .i64 x21_2 ∧ Aside0 (impl_Crossings.l1 kq x3_2 l0_3 (l0_3.length : Int) x11_1 y297 (y297.length : Int) x21_2 l0_0 a0_1 a0_2 l0_3 ((rd_T92 l0_3 x11_1).f0) ((rd_T92 l0_3 x11_1).f1) ((rd_T92 l0_3 x11_1).f2) ((rd_T92 l0_3 x11_1).f3) ((rd_T92 l0_3 x11_1).f4) ((rd_T92 l0_3 x11_1).f5) ((rd_T92 l0_3 x11_1).f6) ((rd_T92 l0_3 x11_1).f7) ((rd_T92 l0_3 x11_1).f8) = some r) ∧ Aside0 (kq ≤ k1) ∧ Aside0 (w'.heap[gb294]? = some (.cells #[(.slice A0_0 l0_0.length c0_0), .int .i64 a0_1, .int .i64 a0_2, (.slice (some ad295) l0_3.length c0_3)] 31 (0, 0))) ∧ Aside0 (w'.heap[gb296]? = some (.cells #[(.slice A295_0 ((rd_T92 l0_3 x11_1).f0).length c295_0), .int .i64 ((rd_T92 l0_3 x11_1).f1), (.slice A295_2 ((rd_T92 l0_3 x11_1).f2).length c295_2), .int .i64 ((rd_T92 l0_3 x11_1).f3), .int .i64 ((rd_T92 l0_3 x11_1).f4), .int .i64 ((rd_T92 l0_3 x11_1).f5), .int .i64 ((rd_T92 l0_3 x11_1).f6), .int .i64 ((rd_T92 l0_3 x11_1).f7), (.slice A295_8 ((rd_T92 l0_3 x11_1).f8).length c295_8)] 92 (0, 0))) ∧ Aside0 (Below w.heap.size w w'))
       case atStart => exact ⟨(x3_1), (0), (by first | rfl | (simp; done) | (simp [*]; done)), (by first | rfl | (simp; done) | (simp [*]; done)), H', ⟨Nat.le_refl _⟩, ⟨bwK BK294.out⟩, ⟨bwK BK296.out⟩, ⟨bwB⟩⟩
       case round =>
        clear H'
        try clear c1
        try clear q1
        try clear c2
        try clear p2
        try clear q2
        try clear hx2
        try clear c4
        try clear c4b0
        try clear c5
        try clear c5b0
        try clear c6
        try clear c6b0
        try clear c7
        try clear c7b0
        try clear c8
        try clear c8b0
        try clear c8b1
        try clear c10
        try clear q14
        try clear hcz11_0
        try clear hcz11_1
        try clear hcz11_2
        try clear hcz11_3
        try clear hcz11_4
        try clear hcz11_5
        try clear hcz11_6
        try clear hcz11_7
        try clear hcz11_8
        try clear hcz13_0
        try clear hcz13_1
        try clear hcz13_2
        try clear hcz13_3
        try clear hcz3_0
        try clear hcz3_1
        try clear hcz3_2
        try clear hcz3_3
        try clear hfz11_0
        try clear hfz11_1
        try clear hfz11_2
        try clear hfz11_3
        try clear hfz11_4
        try clear hfz11_5
        try clear hfz11_6
        try clear hfz11_7
        try clear hfz11_8
        try clear hfz13_0
        try clear hfz13_1
        try clear hfz13_2
        try clear hfz13_3
        try clear hfz3_0
        try clear hfz3_1
        try clear hfz3_2
        try clear hfz3_3
        try clear hx295_0
        try clear hx295_1
        try clear hx295_2
        try clear hx295_3
        try clear hx295_4
        try clear hx295_5
        try clear hx295_6
        try clear hx295_7
        try clear hx295_8
        try clear p2
        try clear p295
        try clear q14
        try clear q295
        obtain ⟨x3_2, x21_2, rfl, rfl, HA, HK2, BK294, BK296, HB⟩ := hrel
        cases gk with
        | zero => exact absurd HA.out (by simp [impl_Crossings.l1])
        | succ k2 =>
         have H := HA.out
         clear HA
         simp only [impl_Crossings.l1] at H
         by_cases c15 : x21_2 < (y297.length : Int)
         ·rw [if_pos c15] at H
          have c15b0 : decide (x21_2 < (y297.length : Int)) = true := decide_eq_true c15
          clear c15
          by_cases c16 : 0 ≤ x21_2
          ·rw [if_pos c16] at H
           have c16b0 : decide (0 ≤ x21_2) = true := decide_eq_true c16
           clear c16
           by_cases c17 : x21_2 < (y297.length : Int)
           ·rw [if_pos c17] at H
            have c17b0 : decide (x21_2 < (y297.length : Int)) = true := decide_eq_true c17
            clear c17
            replace H := Option.bind_eq_some_iff.mp H
            obtain ⟨t303, A180, H⟩ := H
            replace H : (if t303 = true then (impl_Crossings.l1 k2 (wrap64 (x3_2 + 1)) l0_3 (l0_3.length : Int) x11_1 y297 (y297.length : Int) (wrap64 (x21_2 + 1)) l0_0 a0_1 a0_2 l0_3 ((rd_T92 l0_3 x11_1).f0) ((rd_T92 l0_3 x11_1).f1) ((rd_T92 l0_3 x11_1).f2) ((rd_T92 l0_3 x11_1).f3) ((rd_T92 l0_3 x11_1).f4) ((rd_T92 l0_3 x11_1).f5) ((rd_T92 l0_3 x11_1).f6) ((rd_T92 l0_3 x11_1).f7) ((rd_T92 l0_3 x11_1).f8)) else (impl_Crossings.l1 k2 x3_2 l0_3 (l0_3.length : Int) x11_1 y297 (y297.length : Int) (wrap64 (x21_2 + 1)) l0_0 a0_1 a0_2 l0_3 ((rd_T92 l0_3 x11_1).f0) ((rd_T92 l0_3 x11_1).f1) ((rd_T92 l0_3 x11_1).f2) ((rd_T92 l0_3 x11_1).f3) ((rd_T92 l0_3 x11_1).f4) ((rd_T92 l0_3 x11_1).f5) ((rd_T92 l0_3 x11_1).f6) ((rd_T92 l0_3 x11_1).f7) ((rd_T92 l0_3 x11_1).f8))) = some r := H
            have A18 := Aside0.mk A180
            clear A180
            by_cases c19 : t303 = true
            ·subst c19
             have H1 : (impl_Crossings.l1 k2 (wrap64 (x3_2 + 1)) l0_3 (l0_3.length : Int) x11_1 y297 (y297.length : Int) (wrap64 (x21_2 + 1)) l0_0 a0_1 a0_2 l0_3 ((rd_T92 l0_3 x11_1).f0) ((rd_T92 l0_3 x11_1).f1) ((rd_T92 l0_3 x11_1).f2) ((rd_T92 l0_3 x11_1).f3) ((rd_T92 l0_3 x11_1).f4) ((rd_T92 l0_3 x11_1).f5) ((rd_T92 l0_3 x11_1).f6) ((rd_T92 l0_3 x11_1).f7) ((rd_T92 l0_3 x11_1).f8)) = some r := by rw [if_pos rfl] at H; exact H
             clear H
             have H := H1
             clear H1
             have H' := Aside0.mk H
             clear H
             have p301 : 0 ≤ (x21_2 : Int) := bwD
             have q301 : x21_2 < (y297.length : Int) := bwD
             obtain ⟨ad301, A301_0, c301_0, A301_2, c301_2, A301_8, c301_8, e301, hx301_0, hx301_1, hx301_2, hx301_3, hx301_4, hx301_5, hx301_6, hx301_7, hx301_8, hl301_0, hi301_0, hl301_2, hi301_2, hl301_8, hi301_8⟩ := at_T92 HR300.out x21_2 p301 q301
             obtain rfl : ad295 = ad301 := (by injection e301)
             replace hx301_0 := (HB.out.cell (World.block_lt_of_cell? w _ hx301_0)).trans hx301_0
             replace hx301_1 := (HB.out.cell (World.block_lt_of_cell? w _ hx301_1)).trans hx301_1
             replace hx301_2 := (HB.out.cell (World.block_lt_of_cell? w _ hx301_2)).trans hx301_2
             replace hx301_3 := (HB.out.cell (World.block_lt_of_cell? w _ hx301_3)).trans hx301_3
             replace hx301_4 := (HB.out.cell (World.block_lt_of_cell? w _ hx301_4)).trans hx301_4
             replace hx301_5 := (HB.out.cell (World.block_lt_of_cell? w _ hx301_5)).trans hx301_5
             replace hx301_6 := (HB.out.cell (World.block_lt_of_cell? w _ hx301_6)).trans hx301_6
             replace hx301_7 := (HB.out.cell (World.block_lt_of_cell? w _ hx301_7)).trans hx301_7
             replace hx301_8 := (HB.out.cell (World.block_lt_of_cell? w _ hx301_8)).trans hx301_8
             have HR301_0 := Aside0.mk hi301_0
             have HC301_0 := Aside0.mk hl301_0
             clear hi301_0 hl301_0
             have HR301_2 := Aside0.mk hi301_2
             have HC301_2 := Aside0.mk hl301_2
             clear hi301_2 hl301_2
             have HR301_8 := Aside0.mk hi301_8
             have HC301_8 := Aside0.mk hl301_8
             clear hi301_8 hl301_8
             replace p301 := eq_true p301
             replace q301 := eq_true q301
             go_wp2_with (first | ((with_reducible refine gate_dst (N := 7) rfl ?_); refine box_event ?hg (N := 7) ?hd (cs := #[.slice none 0 0, .int .i64 0, .slice none 0 0, .int .i64 0, .int .i64 0, .int .i64 0, .int .i64 0, .int .i64 0, .slice none 0 0]) (t := 92) ?hr ?_; (case hd => rfl); (case hg => rfl); (case hr => first | (go_simp; done) | (go_simp; rfl)); intro gb302 hg w20 hbox hb; have n0_ := Aside0.mk (blk_below (g := gb294) (o := .cells #[.slice A0_0 l0_0.length c0_0, .int .i64 a0_1, .int .i64 a0_2, .slice (some ad295) l0_3.length c0_3] 31 (0, 0)) (bwK BK294.out) hb); have n1_ := Aside0.mk (blk_below (g := gb296) (o := .cells #[.slice A295_0 ((rd_T92 l0_3 x11_1).f0).length c295_0, .int .i64 ((rd_T92 l0_3 x11_1).f1), .slice A295_2 ((rd_T92 l0_3 x11_1).f2).length c295_2, .int .i64 ((rd_T92 l0_3 x11_1).f3), .int .i64 ((rd_T92 l0_3 x11_1).f4), .int .i64 ((rd_T92 l0_3 x11_1).f5), .int .i64 ((rd_T92 l0_3 x11_1).f6), .int .i64 ((rd_T92 l0_3 x11_1).f7), .slice A295_8 ((rd_T92 l0_3 x11_1).f8).length c295_8] 92 (0, 0)) (bwK BK296.out) hb); have n2_ := Aside0.mk (below_step bwB hb); have n3_ := Aside0.mk (hbox); have n4_ := Aside0.mk ((by rw [hg]; exact (below_size bwB) : w.heap.size ≤ gb302)); have n5_ := Aside0.mk ((by rw [hg]; exact (below_size bwB) : w.heap.size ≤ gb302)); have n6_ := Aside0.mk ((by rw [hg]; exact Nat.ne_of_lt (blk_lt (g := gb294) (o := .cells #[.slice A0_0 l0_0.length c0_0, .int .i64 a0_1, .int .i64 a0_2, .slice (some ad295) l0_3.length c0_3] 31 (0, 0)) (bwK BK294.out)) : gb294 ≠ gb302)); have n7_ := Aside0.mk ((by rw [hg]; exact Nat.ne_of_gt (blk_lt (g := gb294) (o := .cells #[.slice A0_0 l0_0.length c0_0, .int .i64 a0_1, .int .i64 a0_2, .slice (some ad295) l0_3.length c0_3] 31 (0, 0)) (bwK BK294.out)) : gb302 ≠ gb294)); have n8_ := Aside0.mk ((by rw [hg]; exact Nat.ne_of_lt (blk_lt (g := gb296) (o := .cells #[.slice A295_0 ((rd_T92 l0_3 x11_1).f0).length c295_0, .int .i64 ((rd_T92 l0_3 x11_1).f1), .slice A295_2 ((rd_T92 l0_3 x11_1).f2).length c295_2, .int .i64 ((rd_T92 l0_3 x11_1).f3), .int .i64 ((rd_T92 l0_3 x11_1).f4), .int .i64 ((rd_T92 l0_3 x11_1).f5), .int .i64 ((rd_T92 l0_3 x11_1).f6), .int .i64 ((rd_T92 l0_3 x11_1).f7), .slice A295_8 ((rd_T92 l0_3 x11_1).f8).length c295_8] 92 (0, 0)) (bwK BK296.out)) : gb296 ≠ gb302)); have n9_ := Aside0.mk ((by rw [hg]; exact Nat.ne_of_gt (blk_lt (g := gb296) (o := .cells #[.slice A295_0 ((rd_T92 l0_3 x11_1).f0).length c295_0, .int .i64 ((rd_T92 l0_3 x11_1).f1), .slice A295_2 ((rd_T92 l0_3 x11_1).f2).length c295_2, .int .i64 ((rd_T92 l0_3 x11_1).f3), .int .i64 ((rd_T92 l0_3 x11_1).f4), .int .i64 ((rd_T92 l0_3 x11_1).f5), .int .i64 ((rd_T92 l0_3 x11_1).f6), .int .i64 ((rd_T92 l0_3 x11_1).f7), .slice A295_8 ((rd_T92 l0_3 x11_1).f8).length c295_8] 92 (0, 0)) (bwK BK296.out)) : gb302 ≠ gb296)); clear BK294; clear BK296; clear HB; have BK294 := n0_; have BK296 := n1_; have HB := n2_; have BK302 := n3_; have GW302 := n4_; have GE302 := n5_; have NB294_302 := n6_; have NB302_294 := n7_; have NB296_302 := n8_; have NB302_296 := n9_; clear n0_ n1_ n2_ n3_ n4_ n5_ n6_ n7_ n8_ n9_; clear hb hbox hg; have hnb21 := NB302_294.out; have hnc21 := NB294_302.out; have hnb22 := NB302_296.out; have hnc22 := NB296_302.out; obtain ⟨hcz23_0, hcz23_1, hcz23_2, hcz23_3, hcz23_4, hcz23_5, hcz23_6, hcz23_7, hcz23_8, hfz23_0, hfz23_1, hfz23_2, hfz23_3, hfz23_4, hfz23_5, hfz23_6, hfz23_7, hfz23_8⟩ := bwZ9 BK302.out; have hnb24 := NB296_294.out; have hnc24 := NB294_296.out; obtain ⟨hcz25_0, hcz25_1, hcz25_2, hcz25_3, hcz25_4, hcz25_5, hcz25_6, hcz25_7, hcz25_8, hfz25_0, hfz25_1, hfz25_2, hfz25_3, hfz25_4, hfz25_5, hfz25_6, hfz25_7, hfz25_8⟩ := bwZ9 BK296.out) | ((with_reducible refine gate_callee (f := 64) rfl ?_); refine goesL_ (some 27) rfl rfl Try.func64 (by kernel_rfl) rfl #[.agg #[.slice A295_0 ((rd_T92 l0_3 x11_1).f0).length c295_0, .int .i64 ((rd_T92 l0_3 x11_1).f1), .slice A295_2 ((rd_T92 l0_3 x11_1).f2).length c295_2, .int .i64 ((rd_T92 l0_3 x11_1).f3), .int .i64 ((rd_T92 l0_3 x11_1).f4), .int .i64 ((rd_T92 l0_3 x11_1).f5), .int .i64 ((rd_T92 l0_3 x11_1).f6), .int .i64 ((rd_T92 l0_3 x11_1).f7), .slice A295_8 ((rd_T92 l0_3 x11_1).f8).length c295_8], .agg #[.slice A301_0 ((rd_T92 y297 x21_2).f0).length c301_0, .int .i64 ((rd_T92 y297 x21_2).f1), .slice A301_2 ((rd_T92 y297 x21_2).f2).length c301_2, .int .i64 ((rd_T92 y297 x21_2).f3), .int .i64 ((rd_T92 y297 x21_2).f4), .int .i64 ((rd_T92 y297 x21_2).f5), .int .i64 ((rd_T92 y297 x21_2).f6), .int .i64 ((rd_T92 y297 x21_2).f7), .slice A301_8 ((rd_T92 y297 x21_2).f8).length c301_8]] rfl bwA ?_; (with_reducible refine (impl_Meets.calls _ _ ((rd_T92 l0_3 x11_1).f0) ((rd_T92 l0_3 x11_1).f1) _ _ ((rd_T92 l0_3 x11_1).f2) ((rd_T92 l0_3 x11_1).f3) ((rd_T92 l0_3 x11_1).f4) ((rd_T92 l0_3 x11_1).f5) ((rd_T92 l0_3 x11_1).f6) ((rd_T92 l0_3 x11_1).f7) _ _ ((rd_T92 l0_3 x11_1).f8) _ _ ((rd_T92 y297 x21_2).f0) ((rd_T92 y297 x21_2).f1) _ _ ((rd_T92 y297 x21_2).f2) ((rd_T92 y297 x21_2).f3) ((rd_T92 y297 x21_2).f4) ((rd_T92 y297 x21_2).f5) ((rd_T92 y297 x21_2).f6) ((rd_T92 y297 x21_2).f7) _ _ ((rd_T92 y297 x21_2).f8) true _ ?side1 ?side2 ?side3 ?side4 ?side5 ?side6 ?side7 ?side8 ?side9 ?side10 ?side11 ?side12 A18.out).mono ?_); (case side1 => exact Kd.C_below HR295_0.out bwB); (case side2 => exact HC295_0.out); (case side3 => exact Kd.C_below HR295_2.out bwB); (case side4 => exact HC295_2.out); (case side5 => exact Kd.C_below HR295_8.out bwB); (case side6 => exact HC295_8.out); (case side7 => exact Kd.C_below HR301_0.out bwB); (case side8 => exact HC301_0.out); (case side9 => exact Kd.C_below HR301_2.out bwB); (case side10 => exact HC301_2.out); (case side11 => exact Kd.C_below HR301_8.out bwB); (case side12 => exact HC301_8.out); rintro e w26 ⟨rfl, hb⟩; refine ⟨_, rfl, ?_⟩; have n0_ := Aside0.mk (blk_below (g := gb294) (o := .cells #[.slice A0_0 l0_0.length c0_0, .int .i64 a0_1, .int .i64 a0_2, .slice (some ad295) l0_3.length c0_3] 31 (0, 0)) (by (with_reducible repeat (first | refine blk_drewN ?_ _ | refine blk_drew ?_ | refine blk_alloc ?_ _)); refine blk_far ?_ NB294_302.out _; (with_reducible repeat (first | refine blk_drewN ?_ _ | refine blk_drew ?_ | refine blk_alloc ?_ _)); refine blk_far ?_ NB294_302.out _; (with_reducible repeat (first | refine blk_drewN ?_ _ | refine blk_drew ?_ | refine blk_alloc ?_ _)); refine blk_far ?_ NB294_302.out _; (with_reducible repeat (first | refine blk_drewN ?_ _ | refine blk_drew ?_ | refine blk_alloc ?_ _)); refine blk_far ?_ NB294_302.out _; (with_reducible repeat (first | refine blk_drewN ?_ _ | refine blk_drew ?_ | refine blk_alloc ?_ _)); refine blk_far ?_ NB294_302.out _; (with_reducible repeat (first | refine blk_drewN ?_ _ | refine blk_drew ?_ | refine blk_alloc ?_ _)); refine blk_far ?_ NB294_302.out _; (with_reducible repeat (first | refine blk_drewN ?_ _ | refine blk_drew ?_ | refine blk_alloc ?_ _)); refine blk_far ?_ NB294_302.out _; (with_reducible repeat (first | refine blk_drewN ?_ _ | refine blk_drew ?_ | refine blk_alloc ?_ _)); refine blk_far ?_ NB294_302.out _; (with_reducible repeat (first | refine blk_drewN ?_ _ | refine blk_drew ?_ | refine blk_alloc ?_ _)); refine blk_far ?_ NB294_302.out _; (with_reducible repeat (first | refine blk_drewN ?_ _ | refine blk_drew ?_ | refine blk_alloc ?_ _)); exact BK294.out) hb); have n1_ := Aside0.mk (blk_below (g := gb296) (o := .cells #[.slice A295_0 ((rd_T92 l0_3 x11_1).f0).length c295_0, .int .i64 ((rd_T92 l0_3 x11_1).f1), .slice A295_2 ((rd_T92 l0_3 x11_1).f2).length c295_2, .int .i64 ((rd_T92 l0_3 x11_1).f3), .int .i64 ((rd_T92 l0_3 x11_1).f4), .int .i64 ((rd_T92 l0_3 x11_1).f5), .int .i64 ((rd_T92 l0_3 x11_1).f6), .int .i64 ((rd_T92 l0_3 x11_1).f7), .slice A295_8 ((rd_T92 l0_3 x11_1).f8).length c295_8] 92 (0, 0)) (by (with_reducible repeat (first | refine blk_drewN ?_ _ | refine blk_drew ?_ | refine blk_alloc ?_ _)); refine blk_far ?_ NB296_302.out _; (with_reducible repeat (first | refine blk_drewN ?_ _ | refine blk_drew ?_ | refine blk_alloc ?_ _)); refine blk_far ?_ NB296_302.out _; (with_reducible repeat (first | refine blk_drewN ?_ _ | refine blk_drew ?_ | refine blk_alloc ?_ _)); refine blk_far ?_ NB296_302.out _; (with_reducible repeat (first | refine blk_drewN ?_ _ | refine blk_drew ?_ | refine blk_alloc ?_ _)); refine blk_far ?_ NB296_302.out _; (with_reducible repeat (first | refine blk_drewN ?_ _ | refine blk_drew ?_ | refine blk_alloc ?_ _)); refine blk_far ?_ NB296_302.out _; (with_reducible repeat (first | refine blk_drewN ?_ _ | refine blk_drew ?_ | refine blk_alloc ?_ _)); refine blk_far ?_ NB296_302.out _; (with_reducible repeat (first | refine blk_drewN ?_ _ | refine blk_drew ?_ | refine blk_alloc ?_ _)); refine blk_far ?_ NB296_302.out _; (with_reducible repeat (first | refine blk_drewN ?_ _ | refine blk_drew ?_ | refine blk_alloc ?_ _)); refine blk_far ?_ NB296_302.out _; (with_reducible repeat (first | refine blk_drewN ?_ _ | refine blk_drew ?_ | refine blk_alloc ?_ _)); refine blk_far ?_ NB296_302.out _; (with_reducible repeat (first | refine blk_drewN ?_ _ | refine blk_drew ?_ | refine blk_alloc ?_ _)); exact BK296.out) hb); have n2_ := Aside0.mk (blk_below (g := gb302) (o := .cells #[.slice A301_0 ((rd_T92 y297 x21_2).f0).length c301_0, .int .i64 ((rd_T92 y297 x21_2).f1), .slice A301_2 ((rd_T92 y297 x21_2).f2).length c301_2, .int .i64 ((rd_T92 y297 x21_2).f3), .int .i64 ((rd_T92 y297 x21_2).f4), .int .i64 ((rd_T92 y297 x21_2).f5), .int .i64 ((rd_T92 y297 x21_2).f6), .int .i64 ((rd_T92 y297 x21_2).f7), .slice A301_8 ((rd_T92 y297 x21_2).f8).length c301_8] 92 (0, 0)) (by (with_reducible repeat (first | refine blk_drewN ?_ _ | refine blk_drew ?_ | refine blk_alloc ?_ _)); refine blk_put (cs := #[.slice A301_0 ((rd_T92 y297 x21_2).f0).length c301_0, .int .i64 ((rd_T92 y297 x21_2).f1), .slice A301_2 ((rd_T92 y297 x21_2).f2).length c301_2, .int .i64 ((rd_T92 y297 x21_2).f3), .int .i64 ((rd_T92 y297 x21_2).f4), .int .i64 ((rd_T92 y297 x21_2).f5), .int .i64 ((rd_T92 y297 x21_2).f6), .int .i64 ((rd_T92 y297 x21_2).f7), .slice none 0 0]) ?_ 8 _ rfl; (with_reducible repeat (first | refine blk_drewN ?_ _ | refine blk_drew ?_ | refine blk_alloc ?_ _)); refine blk_put (cs := #[.slice A301_0 ((rd_T92 y297 x21_2).f0).length c301_0, .int .i64 ((rd_T92 y297 x21_2).f1), .slice A301_2 ((rd_T92 y297 x21_2).f2).length c301_2, .int .i64 ((rd_T92 y297 x21_2).f3), .int .i64 ((rd_T92 y297 x21_2).f4), .int .i64 ((rd_T92 y297 x21_2).f5), .int .i64 ((rd_T92 y297 x21_2).f6), .int .i64 0, .slice none 0 0]) ?_ 7 _ rfl; (with_reducible repeat (first | refine blk_drewN ?_ _ | refine blk_drew ?_ | refine blk_alloc ?_ _)); refine blk_put (cs := #[.slice A301_0 ((rd_T92 y297 x21_2).f0).length c301_0, .int .i64 ((rd_T92 y297 x21_2).f1), .slice A301_2 ((rd_T92 y297 x21_2).f2).length c301_2, .int .i64 ((rd_T92 y297 x21_2).f3), .int .i64 ((rd_T92 y297 x21_2).f4), .int .i64 ((rd_T92 y297 x21_2).f5), .int .i64 0, .int .i64 0, .slice none 0 0]) ?_ 6 _ rfl; (with_reducible repeat (first | refine blk_drewN ?_ _ | refine blk_drew ?_ | refine blk_alloc ?_ _)); refine blk_put (cs := #[.slice A301_0 ((rd_T92 y297 x21_2).f0).length c301_0, .int .i64 ((rd_T92 y297 x21_2).f1), .slice A301_2 ((rd_T92 y297 x21_2).f2).length c301_2, .int .i64 ((rd_T92 y297 x21_2).f3), .int .i64 ((rd_T92 y297 x21_2).f4), .int .i64 0, .int .i64 0, .int .i64 0, .slice none 0 0]) ?_ 5 _ rfl; (with_reducible repeat (first | refine blk_drewN ?_ _ | refine blk_drew ?_ | refine blk_alloc ?_ _)); refine blk_put (cs := #[.slice A301_0 ((rd_T92 y297 x21_2).f0).length c301_0, .int .i64 ((rd_T92 y297 x21_2).f1), .slice A301_2 ((rd_T92 y297 x21_2).f2).length c301_2, .int .i64 ((rd_T92 y297 x21_2).f3), .int .i64 0, .int .i64 0, .int .i64 0, .int .i64 0, .slice none 0 0]) ?_ 4 _ rfl; (with_reducible repeat (first | refine blk_drewN ?_ _ | refine blk_drew ?_ | refine blk_alloc ?_ _)); refine blk_put (cs := #[.slice A301_0 ((rd_T92 y297 x21_2).f0).length c301_0, .int .i64 ((rd_T92 y297 x21_2).f1), .slice A301_2 ((rd_T92 y297 x21_2).f2).length c301_2, .int .i64 0, .int .i64 0, .int .i64 0, .int .i64 0, .int .i64 0, .slice none 0 0]) ?_ 3 _ rfl; (with_reducible repeat (first | refine blk_drewN ?_ _ | refine blk_drew ?_ | refine blk_alloc ?_ _)); refine blk_put (cs := #[.slice A301_0 ((rd_T92 y297 x21_2).f0).length c301_0, .int .i64 ((rd_T92 y297 x21_2).f1), .slice none 0 0, .int .i64 0, .int .i64 0, .int .i64 0, .int .i64 0, .int .i64 0, .slice none 0 0]) ?_ 2 _ rfl; (with_reducible repeat (first | refine blk_drewN ?_ _ | refine blk_drew ?_ | refine blk_alloc ?_ _)); refine blk_put (cs := #[.slice A301_0 ((rd_T92 y297 x21_2).f0).length c301_0, .int .i64 0, .slice none 0 0, .int .i64 0, .int .i64 0, .int .i64 0, .int .i64 0, .int .i64 0, .slice none 0 0]) ?_ 1 _ rfl; (with_reducible repeat (first | refine blk_drewN ?_ _ | refine blk_drew ?_ | refine blk_alloc ?_ _)); refine blk_put (cs := #[.slice none 0 0, .int .i64 0, .slice none 0 0, .int .i64 0, .int .i64 0, .int .i64 0, .int .i64 0, .int .i64 0, .slice none 0 0]) ?_ 0 _ rfl; (with_reducible repeat (first | refine blk_drewN ?_ _ | refine blk_drew ?_ | refine blk_alloc ?_ _)); exact BK302.out) hb); have n3_ := Aside0.mk (below_step bwB hb); clear BK294; clear BK296; clear BK302; clear HB; have BK294 := n0_; have BK296 := n1_; have BK302 := n2_; have HB := n3_; clear n0_ n1_ n2_ n3_; (try clear hb); (try clear hb2); (try clear hk); (try clear hi)))
             go_roundg k2
             case measure => have := HK1.out; have := HK2.out; omega
             case rel => exact ⟨(wrap64 (x3_2 + 1)), (wrap64 (x21_2 + 1)), (by first | rfl | (simp; done) | (simp [*]; done)), (by first | rfl | (simp; done) | (simp [*]; done)), H', ⟨by have := HK1.out; have := HK2.out; omega⟩, ⟨bwK BK294.out⟩, ⟨bwK BK296.out⟩, ⟨bwB⟩⟩
            ·replace c19 := Bool.eq_false_iff.mpr c19
             subst c19
             have H1 : (impl_Crossings.l1 k2 x3_2 l0_3 (l0_3.length : Int) x11_1 y297 (y297.length : Int) (wrap64 (x21_2 + 1)) l0_0 a0_1 a0_2 l0_3 ((rd_T92 l0_3 x11_1).f0) ((rd_T92 l0_3 x11_1).f1) ((rd_T92 l0_3 x11_1).f2) ((rd_T92 l0_3 x11_1).f3) ((rd_T92 l0_3 x11_1).f4) ((rd_T92 l0_3 x11_1).f5) ((rd_T92 l0_3 x11_1).f6) ((rd_T92 l0_3 x11_1).f7) ((rd_T92 l0_3 x11_1).f8)) = some r := by rw [if_neg (show ¬ (false = true) by decide)] at H; exact H
             clear H
             have H := H1
             clear H1
             have H' := Aside0.mk H
             clear H
             have p301 : 0 ≤ (x21_2 : Int) := bwD
             have q301 : x21_2 < (y297.length : Int) := bwD
             obtain ⟨ad301, A301_0, c301_0, A301_2, c301_2, A301_8, c301_8, e301, hx301_0, hx301_1, hx301_2, hx301_3, hx301_4, hx301_5, hx301_6, hx301_7, hx301_8, hl301_0, hi301_0, hl301_2, hi301_2, hl301_8, hi301_8⟩ := at_T92 HR300.out x21_2 p301 q301
             obtain rfl : ad295 = ad301 := (by injection e301)
             replace hx301_0 := (HB.out.cell (World.block_lt_of_cell? w _ hx301_0)).trans hx301_0
             replace hx301_1 := (HB.out.cell (World.block_lt_of_cell? w _ hx301_1)).trans hx301_1
             replace hx301_2 := (HB.out.cell (World.block_lt_of_cell? w _ hx301_2)).trans hx301_2
             replace hx301_3 := (HB.out.cell (World.block_lt_of_cell? w _ hx301_3)).trans hx301_3
             replace hx301_4 := (HB.out.cell (World.block_lt_of_cell? w _ hx301_4)).trans hx301_4
             replace hx301_5 := (HB.out.cell (World.block_lt_of_cell? w _ hx301_5)).trans hx301_5
             replace hx301_6 := (HB.out.cell (World.block_lt_of_cell? w _ hx301_6)).trans hx301_6
             replace hx301_7 := (HB.out.cell (World.block_lt_of_cell? w _ hx301_7)).trans hx301_7
             replace hx301_8 := (HB.out.cell (World.block_lt_of_cell? w _ hx301_8)).trans hx301_8
             have HR301_0 := Aside0.mk hi301_0
             have HC301_0 := Aside0.mk hl301_0
             clear hi301_0 hl301_0
             have HR301_2 := Aside0.mk hi301_2
             have HC301_2 := Aside0.mk hl301_2
             clear hi301_2 hl301_2
             have HR301_8 := Aside0.mk hi301_8
             have HC301_8 := Aside0.mk hl301_8
             clear hi301_8 hl301_8
             replace p301 := eq_true p301
             replace q301 := eq_true q301
             go_wp2_with (first | ((with_reducible refine gate_dst (N := 7) rfl ?_); refine box_event ?hg (N := 7) ?hd (cs := #[.slice none 0 0, .int .i64 0, .slice none 0 0, .int .i64 0, .int .i64 0, .int .i64 0, .int .i64 0, .int .i64 0, .slice none 0 0]) (t := 92) ?hr ?_; (case hd => rfl); (case hg => rfl); (case hr => first | (go_simp; done) | (go_simp; rfl)); intro gb302 hg w27 hbox hb; have n0_ := Aside0.mk (blk_below (g := gb294) (o := .cells #[.slice A0_0 l0_0.length c0_0, .int .i64 a0_1, .int .i64 a0_2, .slice (some ad295) l0_3.length c0_3] 31 (0, 0)) (bwK BK294.out) hb); have n1_ := Aside0.mk (blk_below (g := gb296) (o := .cells #[.slice A295_0 ((rd_T92 l0_3 x11_1).f0).length c295_0, .int .i64 ((rd_T92 l0_3 x11_1).f1), .slice A295_2 ((rd_T92 l0_3 x11_1).f2).length c295_2, .int .i64 ((rd_T92 l0_3 x11_1).f3), .int .i64 ((rd_T92 l0_3 x11_1).f4), .int .i64 ((rd_T92 l0_3 x11_1).f5), .int .i64 ((rd_T92 l0_3 x11_1).f6), .int .i64 ((rd_T92 l0_3 x11_1).f7), .slice A295_8 ((rd_T92 l0_3 x11_1).f8).length c295_8] 92 (0, 0)) (bwK BK296.out) hb); have n2_ := Aside0.mk (below_step bwB hb); have n3_ := Aside0.mk (hbox); have n4_ := Aside0.mk ((by rw [hg]; exact (below_size bwB) : w.heap.size ≤ gb302)); have n5_ := Aside0.mk ((by rw [hg]; exact (below_size bwB) : w.heap.size ≤ gb302)); have n6_ := Aside0.mk ((by rw [hg]; exact Nat.ne_of_lt (blk_lt (g := gb294) (o := .cells #[.slice A0_0 l0_0.length c0_0, .int .i64 a0_1, .int .i64 a0_2, .slice (some ad295) l0_3.length c0_3] 31 (0, 0)) (bwK BK294.out)) : gb294 ≠ gb302)); have n7_ := Aside0.mk ((by rw [hg]; exact Nat.ne_of_gt (blk_lt (g := gb294) (o := .cells #[.slice A0_0 l0_0.length c0_0, .int .i64 a0_1, .int .i64 a0_2, .slice (some ad295) l0_3.length c0_3] 31 (0, 0)) (bwK BK294.out)) : gb302 ≠ gb294)); have n8_ := Aside0.mk ((by rw [hg]; exact Nat.ne_of_lt (blk_lt (g := gb296) (o := .cells #[.slice A295_0 ((rd_T92 l0_3 x11_1).f0).length c295_0, .int .i64 ((rd_T92 l0_3 x11_1).f1), .slice A295_2 ((rd_T92 l0_3 x11_1).f2).length c295_2, .int .i64 ((rd_T92 l0_3 x11_1).f3), .int .i64 ((rd_T92 l0_3 x11_1).f4), .int .i64 ((rd_T92 l0_3 x11_1).f5), .int .i64 ((rd_T92 l0_3 x11_1).f6), .int .i64 ((rd_T92 l0_3 x11_1).f7), .slice A295_8 ((rd_T92 l0_3 x11_1).f8).length c295_8] 92 (0, 0)) (bwK BK296.out)) : gb296 ≠ gb302)); have n9_ := Aside0.mk ((by rw [hg]; exact Nat.ne_of_gt (blk_lt (g := gb296) (o := .cells #[.slice A295_0 ((rd_T92 l0_3 x11_1).f0).length c295_0, .int .i64 ((rd_T92 l0_3 x11_1).f1), .slice A295_2 ((rd_T92 l0_3 x11_1).f2).length c295_2, .int .i64 ((rd_T92 l0_3 x11_1).f3), .int .i64 ((rd_T92 l0_3 x11_1).f4), .int .i64 ((rd_T92 l0_3 x11_1).f5), .int .i64 ((rd_T92 l0_3 x11_1).f6), .int .i64 ((rd_T92 l0_3 x11_1).f7), .slice A295_8 ((rd_T92 l0_3 x11_1).f8).length c295_8] 92 (0, 0)) (bwK BK296.out)) : gb302 ≠ gb296)); clear BK294; clear BK296; clear HB; have BK294 := n0_; have BK296 := n1_; have HB := n2_; have BK302 := n3_; have GW302 := n4_; have GE302 := n5_; have NB294_302 := n6_; have NB302_294 := n7_; have NB296_302 := n8_; have NB302_296 := n9_; clear n0_ n1_ n2_ n3_ n4_ n5_ n6_ n7_ n8_ n9_; clear hb hbox hg; have hnb28 := NB302_294.out; have hnc28 := NB294_302.out; have hnb29 := NB302_296.out; have hnc29 := NB296_302.out; obtain ⟨hcz30_0, hcz30_1, hcz30_2, hcz30_3, hcz30_4, hcz30_5, hcz30_6, hcz30_7, hcz30_8, hfz30_0, hfz30_1, hfz30_2, hfz30_3, hfz30_4, hfz30_5, hfz30_6, hfz30_7, hfz30_8⟩ := bwZ9 BK302.out; have hnb31 := NB296_294.out; have hnc31 := NB294_296.out; obtain ⟨hcz32_0, hcz32_1, hcz32_2, hcz32_3, hcz32_4, hcz32_5, hcz32_6, hcz32_7, hcz32_8, hfz32_0, hfz32_1, hfz32_2, hfz32_3, hfz32_4, hfz32_5, hfz32_6, hfz32_7, hfz32_8⟩ := bwZ9 BK296.out) | ((with_reducible refine gate_callee (f := 64) rfl ?_); refine goesL_ (some 27) rfl rfl Try.func64 (by kernel_rfl) rfl #[.agg #[.slice A295_0 ((rd_T92 l0_3 x11_1).f0).length c295_0, .int .i64 ((rd_T92 l0_3 x11_1).f1), .slice A295_2 ((rd_T92 l0_3 x11_1).f2).length c295_2, .int .i64 ((rd_T92 l0_3 x11_1).f3), .int .i64 ((rd_T92 l0_3 x11_1).f4), .int .i64 ((rd_T92 l0_3 x11_1).f5), .int .i64 ((rd_T92 l0_3 x11_1).f6), .int .i64 ((rd_T92 l0_3 x11_1).f7), .slice A295_8 ((rd_T92 l0_3 x11_1).f8).length c295_8], .agg #[.slice A301_0 ((rd_T92 y297 x21_2).f0).length c301_0, .int .i64 ((rd_T92 y297 x21_2).f1), .slice A301_2 ((rd_T92 y297 x21_2).f2).length c301_2, .int .i64 ((rd_T92 y297 x21_2).f3), .int .i64 ((rd_T92 y297 x21_2).f4), .int .i64 ((rd_T92 y297 x21_2).f5), .int .i64 ((rd_T92 y297 x21_2).f6), .int .i64 ((rd_T92 y297 x21_2).f7), .slice A301_8 ((rd_T92 y297 x21_2).f8).length c301_8]] rfl bwA ?_; (with_reducible refine (impl_Meets.calls _ _ ((rd_T92 l0_3 x11_1).f0) ((rd_T92 l0_3 x11_1).f1) _ _ ((rd_T92 l0_3 x11_1).f2) ((rd_T92 l0_3 x11_1).f3) ((rd_T92 l0_3 x11_1).f4) ((rd_T92 l0_3 x11_1).f5) ((rd_T92 l0_3 x11_1).f6) ((rd_T92 l0_3 x11_1).f7) _ _ ((rd_T92 l0_3 x11_1).f8) _ _ ((rd_T92 y297 x21_2).f0) ((rd_T92 y297 x21_2).f1) _ _ ((rd_T92 y297 x21_2).f2) ((rd_T92 y297 x21_2).f3) ((rd_T92 y297 x21_2).f4) ((rd_T92 y297 x21_2).f5) ((rd_T92 y297 x21_2).f6) ((rd_T92 y297 x21_2).f7) _ _ ((rd_T92 y297 x21_2).f8) false _ ?side1 ?side2 ?side3 ?side4 ?side5 ?side6 ?side7 ?side8 ?side9 ?side10 ?side11 ?side12 A18.out).mono ?_); (case side1 => exact Kd.C_below HR295_0.out bwB); (case side2 => exact HC295_0.out); (case side3 => exact Kd.C_below HR295_2.out bwB); (case side4 => exact HC295_2.out); (case side5 => exact Kd.C_below HR295_8.out bwB); (case side6 => exact HC295_8.out); (case side7 => exact Kd.C_below HR301_0.out bwB); (case side8 => exact HC301_0.out); (case side9 => exact Kd.C_below HR301_2.out bwB); (case side10 => exact HC301_2.out); (case side11 => exact Kd.C_below HR301_8.out bwB); (case side12 => exact HC301_8.out); rintro e w33 ⟨rfl, hb⟩; refine ⟨_, rfl, ?_⟩; have n0_ := Aside0.mk (blk_below (g := gb294) (o := .cells #[.slice A0_0 l0_0.length c0_0, .int .i64 a0_1, .int .i64 a0_2, .slice (some ad295) l0_3.length c0_3] 31 (0, 0)) (by (with_reducible repeat (first | refine blk_drewN ?_ _ | refine blk_drew ?_ | refine blk_alloc ?_ _)); refine blk_far ?_ NB294_302.out _; (with_reducible repeat (first | refine blk_drewN ?_ _ | refine blk_drew ?_ | refine blk_alloc ?_ _)); refine blk_far ?_ NB294_302.out _; (with_reducible repeat (first | refine blk_drewN ?_ _ | refine blk_drew ?_ | refine blk_alloc ?_ _)); refine blk_far ?_ NB294_302.out _; (with_reducible repeat (first | refine blk_drewN ?_ _ | refine blk_drew ?_ | refine blk_alloc ?_ _)); refine blk_far ?_ NB294_302.out _; (with_reducible repeat (first | refine blk_drewN ?_ _ | refine blk_drew ?_ | refine blk_alloc ?_ _)); refine blk_far ?_ NB294_302.out _; (with_reducible repeat (first | refine blk_drewN ?_ _ | refine blk_drew ?_ | refine blk_alloc ?_ _)); refine blk_far ?_ NB294_302.out _; (with_reducible repeat (first | refine blk_drewN ?_ _ | refine blk_drew ?_ | refine blk_alloc ?_ _)); refine blk_far ?_ NB294_302.out _; (with_reducible repeat (first | refine blk_drewN ?_ _ | refine blk_drew ?_ | refine blk_alloc ?_ _)); refine blk_far ?_ NB294_302.out _; (with_reducible repeat (first | refine blk_drewN ?_ _ | refine blk_drew ?_ | refine blk_alloc ?_ _)); refine blk_far ?_ NB294_302.out _; (with_reducible repeat (first | refine blk_drewN ?_ _ | refine blk_drew ?_ | refine blk_alloc ?_ _)); exact BK294.out) hb); have n1_ := Aside0.mk (blk_below (g := gb296) (o := .cells #[.slice A295_0 ((rd_T92 l0_3 x11_1).f0).length c295_0, .int .i64 ((rd_T92 l0_3 x11_1).f1), .slice A295_2 ((rd_T92 l0_3 x11_1).f2).length c295_2, .int .i64 ((rd_T92 l0_3 x11_1).f3), .int .i64 ((rd_T92 l0_3 x11_1).f4), .int .i64 ((rd_T92 l0_3 x11_1).f5), .int .i64 ((rd_T92 l0_3 x11_1).f6), .int .i64 ((rd_T92 l0_3 x11_1).f7), .slice A295_8 ((rd_T92 l0_3 x11_1).f8).length c295_8] 92 (0, 0)) (by (with_reducible repeat (first | refine blk_drewN ?_ _ | refine blk_drew ?_ | refine blk_alloc ?_ _)); refine blk_far ?_ NB296_302.out _; (with_reducible repeat (first | refine blk_drewN ?_ _ | refine blk_drew ?_ | refine blk_alloc ?_ _)); refine blk_far ?_ NB296_302.out _; (with_reducible repeat (first | refine blk_drewN ?_ _ | refine blk_drew ?_ | refine blk_alloc ?_ _)); refine blk_far ?_ NB296_302.out _; (with_reducible repeat (first | refine blk_drewN ?_ _ | refine blk_drew ?_ | refine blk_alloc ?_ _)); refine blk_far ?_ NB296_302.out _; (with_reducible repeat (first | refine blk_drewN ?_ _ | refine blk_drew ?_ | refine blk_alloc ?_ _)); refine blk_far ?_ NB296_302.out _; (with_reducible repeat (first | refine blk_drewN ?_ _ | refine blk_drew ?_ | refine blk_alloc ?_ _)); refine blk_far ?_ NB296_302.out _; (with_reducible repeat (first | refine blk_drewN ?_ _ | refine blk_drew ?_ | refine blk_alloc ?_ _)); refine blk_far ?_ NB296_302.out _; (with_reducible repeat (first | refine blk_drewN ?_ _ | refine blk_drew ?_ | refine blk_alloc ?_ _)); refine blk_far ?_ NB296_302.out _; (with_reducible repeat (first | refine blk_drewN ?_ _ | refine blk_drew ?_ | refine blk_alloc ?_ _)); refine blk_far ?_ NB296_302.out _; (with_reducible repeat (first | refine blk_drewN ?_ _ | refine blk_drew ?_ | refine blk_alloc ?_ _)); exact BK296.out) hb); have n2_ := Aside0.mk (blk_below (g := gb302) (o := .cells #[.slice A301_0 ((rd_T92 y297 x21_2).f0).length c301_0, .int .i64 ((rd_T92 y297 x21_2).f1), .slice A301_2 ((rd_T92 y297 x21_2).f2).length c301_2, .int .i64 ((rd_T92 y297 x21_2).f3), .int .i64 ((rd_T92 y297 x21_2).f4), .int .i64 ((rd_T92 y297 x21_2).f5), .int .i64 ((rd_T92 y297 x21_2).f6), .int .i64 ((rd_T92 y297 x21_2).f7), .slice A301_8 ((rd_T92 y297 x21_2).f8).length c301_8] 92 (0, 0)) (by (with_reducible repeat (first | refine blk_drewN ?_ _ | refine blk_drew ?_ | refine blk_alloc ?_ _)); refine blk_put (cs := #[.slice A301_0 ((rd_T92 y297 x21_2).f0).length c301_0, .int .i64 ((rd_T92 y297 x21_2).f1), .slice A301_2 ((rd_T92 y297 x21_2).f2).length c301_2, .int .i64 ((rd_T92 y297 x21_2).f3), .int .i64 ((rd_T92 y297 x21_2).f4), .int .i64 ((rd_T92 y297 x21_2).f5), .int .i64 ((rd_T92 y297 x21_2).f6), .int .i64 ((rd_T92 y297 x21_2).f7), .slice none 0 0]) ?_ 8 _ rfl; (with_reducible repeat (first | refine blk_drewN ?_ _ | refine blk_drew ?_ | refine blk_alloc ?_ _)); refine blk_put (cs := #[.slice A301_0 ((rd_T92 y297 x21_2).f0).length c301_0, .int .i64 ((rd_T92 y297 x21_2).f1), .slice A301_2 ((rd_T92 y297 x21_2).f2).length c301_2, .int .i64 ((rd_T92 y297 x21_2).f3), .int .i64 ((rd_T92 y297 x21_2).f4), .int .i64 ((rd_T92 y297 x21_2).f5), .int .i64 ((rd_T92 y297 x21_2).f6), .int .i64 0, .slice none 0 0]) ?_ 7 _ rfl; (with_reducible repeat (first | refine blk_drewN ?_ _ | refine blk_drew ?_ | refine blk_alloc ?_ _)); refine blk_put (cs := #[.slice A301_0 ((rd_T92 y297 x21_2).f0).length c301_0, .int .i64 ((rd_T92 y297 x21_2).f1), .slice A301_2 ((rd_T92 y297 x21_2).f2).length c301_2, .int .i64 ((rd_T92 y297 x21_2).f3), .int .i64 ((rd_T92 y297 x21_2).f4), .int .i64 ((rd_T92 y297 x21_2).f5), .int .i64 0, .int .i64 0, .slice none 0 0]) ?_ 6 _ rfl; (with_reducible repeat (first | refine blk_drewN ?_ _ | refine blk_drew ?_ | refine blk_alloc ?_ _)); refine blk_put (cs := #[.slice A301_0 ((rd_T92 y297 x21_2).f0).length c301_0, .int .i64 ((rd_T92 y297 x21_2).f1), .slice A301_2 ((rd_T92 y297 x21_2).f2).length c301_2, .int .i64 ((rd_T92 y297 x21_2).f3), .int .i64 ((rd_T92 y297 x21_2).f4), .int .i64 0, .int .i64 0, .int .i64 0, .slice none 0 0]) ?_ 5 _ rfl; (with_reducible repeat (first | refine blk_drewN ?_ _ | refine blk_drew ?_ | refine blk_alloc ?_ _)); refine blk_put (cs := #[.slice A301_0 ((rd_T92 y297 x21_2).f0).length c301_0, .int .i64 ((rd_T92 y297 x21_2).f1), .slice A301_2 ((rd_T92 y297 x21_2).f2).length c301_2, .int .i64 ((rd_T92 y297 x21_2).f3), .int .i64 0, .int .i64 0, .int .i64 0, .int .i64 0, .slice none 0 0]) ?_ 4 _ rfl; (with_reducible repeat (first | refine blk_drewN ?_ _ | refine blk_drew ?_ | refine blk_alloc ?_ _)); refine blk_put (cs := #[.slice A301_0 ((rd_T92 y297 x21_2).f0).length c301_0, .int .i64 ((rd_T92 y297 x21_2).f1), .slice A301_2 ((rd_T92 y297 x21_2).f2).length c301_2, .int .i64 0, .int .i64 0, .int .i64 0, .int .i64 0, .int .i64 0, .slice none 0 0]) ?_ 3 _ rfl; (with_reducible repeat (first | refine blk_drewN ?_ _ | refine blk_drew ?_ | refine blk_alloc ?_ _)); refine blk_put (cs := #[.slice A301_0 ((rd_T92 y297 x21_2).f0).length c301_0, .int .i64 ((rd_T92 y297 x21_2).f1), .slice none 0 0, .int .i64 0, .int .i64 0, .int .i64 0, .int .i64 0, .int .i64 0, .slice none 0 0]) ?_ 2 _ rfl; (with_reducible repeat (first | refine blk_drewN ?_ _ | refine blk_drew ?_ | refine blk_alloc ?_ _)); refine blk_put (cs := #[.slice A301_0 ((rd_T92 y297 x21_2).f0).length c301_0, .int .i64 0, .slice none 0 0, .int .i64 0, .int .i64 0, .int .i64 0, .int .i64 0, .int .i64 0, .slice none 0 0]) ?_ 1 _ rfl; (with_reducible repeat (first | refine blk_drewN ?_ _ | refine blk_drew ?_ | refine blk_alloc ?_ _)); refine blk_put (cs := #[.slice none 0 0, .int .i64 0, .slice none 0 0, .int .i64 0, .int .i64 0, .int .i64 0, .int .i64 0, .int .i64 0, .slice none 0 0]) ?_ 0 _ rfl; (with_reducible repeat (first | refine blk_drewN ?_ _ | refine blk_drew ?_ | refine blk_alloc ?_ _)); exact BK302.out) hb); have n3_ := Aside0.mk (below_step bwB hb); clear BK294; clear BK296; clear BK302; clear HB; have BK294 := n0_; have BK296 := n1_; have BK302 := n2_; have HB := n3_; clear n0_ n1_ n2_ n3_; (try clear hb); (try clear hb2); (try clear hk); (try clear hi)))
             go_roundg k2
             case measure => have := HK1.out; have := HK2.out; omega
             case rel => exact ⟨(x3_2), (wrap64 (x21_2 + 1)), (by first | rfl | (simp; done) | (simp [*]; done)), (by first | rfl | (simp; done) | (simp [*]; done)), H', ⟨by have := HK1.out; have := HK2.out; omega⟩, ⟨bwK BK294.out⟩, ⟨bwK BK296.out⟩, ⟨bwB⟩⟩
           ·rw [if_neg c17] at H
            exact absurd H (by simp)
          ·rw [if_neg c16] at H
           exact absurd H (by simp)
         ·rw [if_neg c15] at H
          have c15b0 : decide (x21_2 < (y297.length : Int)) = false := decide_eq_false c15
          clear c15
          have H' := Aside0.mk H
          clear H
          go_wp2
          go_roundg k2
          case measure => have := HK1.out; have := HK2.out; omega
          case rel => exact ⟨(x3_2), (wrap64 (x11_1 + 1)), (by first | rfl | (simp; done) | (simp [*]; done)), (by first | rfl | (simp; done) | (simp [*]; done)), H', ⟨by have := HK1.out; have := HK2.out; omega⟩, ⟨bwK BK294.out⟩, ⟨bwB⟩⟩
      ·rw [if_neg c8] at H
       exact absurd H (by simp)
     ·rw [if_neg c6] at H
      exact absurd H (by simp)
    ·rw [if_neg c5] at H
     exact absurd H (by simp)
   ·rw [if_neg c4] at H
    have c4b0 : decide (x11_1 < (l0_3.length : Int)) = false := decide_eq_false c4
    clear c4
    obtain rfl := Option.some.inj H
    go_wp2
    go_ret
    exact ⟨by first | rfl | (simp [errW_none, errW_some] <;> rfl) | (simp [*, errW_none, errW_some] <;> rfl), by repeat (first | (with_reducible first | exact HB.out | apply below_alloc | apply pw_below_drewN | apply below_drew1 | refine below_set ?_ GE294.out) | exact HB.out)⟩

/-! ### laws_eqHold: function 212 -/
def laws_eqHold.f (a0_0 : ByteArray) (a0_1 : Int) (a0_2 : Int) (a1_0 : ByteArray) (a1_1 : Int) (a1_2 : Int) : Option (Bool) := if a0_0.toList = a1_0.toList then (if a0_1 = a1_1 then (if a0_2 = a1_2 then (some true) else (some false)) else (some false)) else (some false)
set_option maxHeartbeats 8000000 in
set_option maxRecDepth 100000 in
theorem laws_eqHold.calls (a0_0 : ByteArray) (a0_1 : Int) (a0_2 : Int) (a1_0 : ByteArray) (a1_1 : Int) (a1_2 : Int) (r : Bool) (w : World) (h : laws_eqHold.f a0_0 a0_1 a0_2 a1_0 a1_1 a1_2 = some r) (hrt : r = true := by first | rfl | (with_reducible assumption)) :
  Calls Try.prog 212 #[.agg #[.string a0_0, .int .i64 a0_1, .int .i64 a0_2], .agg #[.string a1_0, .int .i64 a1_1, .int .i64 a1_2]] w fun e w' => e = .returned (.bool r) ∧ Below w.heap.size w w' := by
 have HRT := Aside0.mk hrt
 clear hrt
 have hu61 := Try.underlying61
 have HB := Aside0.mk (Below.refl w.heap.size w)
 have H : (if a0_0.toList = a1_0.toList then (if a0_1 = a1_1 then (if a0_2 = a1_2 then (some true) else (some false)) else (some false)) else (some false)) = some r := h
 clear h
 by_cases c3 : a0_0.toList = a1_0.toList
 ·rw [if_pos c3] at H
  have c3b0 : (a0_0.toList == a1_0.toList) = true := beq_iff_eq.mpr c3
  have c3b1 : (a0_0.toList != a1_0.toList) = false := bne_eq_false_iff_eq.mpr c3
  clear c3
  by_cases c4 : a0_1 = a1_1
  ·rw [if_pos c4] at H
   have c4b0 : (a0_1 == a1_1) = true := beq_iff_eq.mpr c4
   have c4b1 : (a0_1 != a1_1) = false := bne_eq_false_iff_eq.mpr c4
   clear c4
   by_cases c5 : a0_2 = a1_2
   ·rw [if_pos c5] at H
    have c5b0 : (a0_2 == a1_2) = true := beq_iff_eq.mpr c5
    have c5b1 : (a0_2 != a1_2) = false := bne_eq_false_iff_eq.mpr c5
    clear c5
    obtain rfl := Option.some.inj H
    go_enter Try.func212, Try.ntmps212
    go_wp2_with (first | ((with_reducible refine gate_dst (N := 2) rfl ?_); refine box_event ?hg (N := 2) ?hd (cs := #[.string a0_0, .int .i64 a0_1, .int .i64 a0_2]) (t := 61) ?hr ?_; (case hd => rfl); (case hg => rfl); (case hr => first | (go_simp; done) | (go_simp; rfl)); intro gb304 hg w6 hbox hb; have n0_ := Aside0.mk (below_step bwB hb); have n1_ := Aside0.mk (hbox); have n2_ := Aside0.mk ((by rw [hg]; exact (below_size bwB) : w.heap.size ≤ gb304)); have n3_ := Aside0.mk ((by rw [hg]; exact (below_size bwB) : w.heap.size ≤ gb304)); clear HB; have HB := n0_; have BK304 := n1_; have GW304 := n2_; have GE304 := n3_; clear n0_ n1_ n2_ n3_; clear hb hbox hg) | ((with_reducible refine gate_dst (N := 3) rfl ?_); refine box_event ?hg (N := 3) ?hd (cs := #[.string a1_0, .int .i64 a1_1, .int .i64 a1_2]) (t := 61) ?hr ?_; (case hd => rfl); (case hg => rfl); (case hr => first | (go_simp; done) | (go_simp; rfl)); intro gb305 hg w7 hbox hb; have n0_ := Aside0.mk (blk_below (g := gb304) (o := .cells #[.string a0_0, .int .i64 a0_1, .int .i64 a0_2] 61 (0, 0)) (bwK BK304.out) hb); have n1_ := Aside0.mk (below_step bwB hb); have n2_ := Aside0.mk (hbox); have n3_ := Aside0.mk ((by rw [hg]; exact (below_size bwB) : w.heap.size ≤ gb305)); have n4_ := Aside0.mk ((by rw [hg]; exact (below_size bwB) : w.heap.size ≤ gb305)); have n5_ := Aside0.mk ((by rw [hg]; exact Nat.ne_of_lt (blk_lt (g := gb304) (o := .cells #[.string a0_0, .int .i64 a0_1, .int .i64 a0_2] 61 (0, 0)) (bwK BK304.out)) : gb304 ≠ gb305)); have n6_ := Aside0.mk ((by rw [hg]; exact Nat.ne_of_gt (blk_lt (g := gb304) (o := .cells #[.string a0_0, .int .i64 a0_1, .int .i64 a0_2] 61 (0, 0)) (bwK BK304.out)) : gb305 ≠ gb304)); clear BK304; clear HB; have BK304 := n0_; have HB := n1_; have BK305 := n2_; have GW305 := n3_; have GE305 := n4_; have NB304_305 := n5_; have NB305_304 := n6_; clear n0_ n1_ n2_ n3_ n4_ n5_ n6_; clear hb hbox hg; have hnb8 := NB304_305.out; have hnc8 := NB305_304.out; obtain ⟨hcz9_0, hcz9_1, hcz9_2, hfz9_0, hfz9_1, hfz9_2⟩ := bwZ3 BK304.out; obtain ⟨hcz10_0, hcz10_1, hcz10_2, hfz10_0, hfz10_1, hfz10_2⟩ := bwZ3 BK305.out))
    go_ret
    exact ⟨by first | rfl | (simp [errW_none, errW_some] <;> rfl) | (simp [*, errW_none, errW_some] <;> rfl), by repeat (first | (with_reducible first | exact HB.out | apply below_alloc | apply pw_below_drewN | apply below_drew1 | refine below_set ?_ GE304.out | refine below_set ?_ GE305.out) | exact HB.out)⟩
   ·rw [if_neg c5] at H
    have c5b0 : (a0_2 == a1_2) = false := beq_eq_false_iff_ne.mpr c5
    have c5b1 : (a0_2 != a1_2) = true := bne_iff_ne.mpr c5
    exact absurd ((Option.some.inj H).trans HRT.out) (by decide)
  ·rw [if_neg c4] at H
   have c4b0 : (a0_1 == a1_1) = false := beq_eq_false_iff_ne.mpr c4
   have c4b1 : (a0_1 != a1_1) = true := bne_iff_ne.mpr c4
   exact absurd ((Option.some.inj H).trans HRT.out) (by decide)
 ·rw [if_neg c3] at H
  have c3b0 : (a0_0.toList == a1_0.toList) = false := beq_eq_false_iff_ne.mpr c3
  have c3b1 : (a0_0.toList != a1_0.toList) = true := bne_iff_ne.mpr c3
  exact absurd ((Option.some.inj H).trans HRT.out) (by decide)

end Go.Proofs.Ytdpbcmajmojolaa.C
