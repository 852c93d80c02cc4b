-- Written by the session's own program myprint.py (the kit's print, with functions told by hand). Lean checks it.
import Derived.Test.YtbhcahiafibhfaaRNx0
namespace Go.Proofs.Ytbhcahiafibhfaa.RN
open Go.RowKit Go.Proofs.YtbhcahiafibhfaaW.PrintWords Go.Proofs.YtbhcahiafibhfaaW.PrintLast Go.Proofs.YtbhcahiafibhfaaW.PrintMore
attribute [local go_sem] max2_int min2_int max_two min_two max_three min_three max_four min_four   -- for this text's walks alone
set_option linter.unusedVariables false
set_option linter.unusedSimpArgs false

/-! ### impl_within: function 72 -/
def impl_within.f (a0 : Int) (a1 : Int) (a2 : Int) : Option (Bool) := if a1 ≤ a0 then (some (decide (a0 ≤ a2))) else (some false)
set_option maxHeartbeats 8000000 in
set_option maxRecDepth 100000 in
theorem impl_within.calls (a0 : Int) (a1 : Int) (a2 : Int) (r : Bool) (w : World) (h : impl_within.f a0 a1 a2 = some r) :
  Calls Try.prog 72 #[.int .i64 a0, .int .i64 a1, .int .i64 a2] w fun e w' => e = .returned (.bool r) ∧ Drawn0 w w' := by
 have H : (if a1 ≤ a0 then (some (decide (a0 ≤ a2))) else (some false)) = some r := h
 clear h
 by_cases c4 : a1 ≤ a0
 ·rw [if_pos c4] at H
  have c4b0 : decide (a1 ≤ a0) = true := decide_eq_true c4
  clear c4
  obtain rfl := Option.some.inj H
  go_enter Try.func72, Try.ntmps72
  go_wp2
  go_ret
  exact ⟨by first | rfl | (simp; done) | (simp [*]; done), by repeat (first | exact Drawn0.refl _ | apply Drawn0.step)⟩
 ·rw [if_neg c4] at H
  have c4b0 : decide (a1 ≤ a0) = false := decide_eq_false c4
  clear c4
  obtain rfl := Option.some.inj H
  go_enter Try.func72, Try.ntmps72
  go_wp2
  go_ret
  exact ⟨by first | rfl | (simp; done) | (simp [*]; done), by repeat (first | exact Drawn0.refl _ | apply Drawn0.step)⟩

/-! ### impl_isTime: function 48 -/
def impl_isTime.f (a0 : Int) : Option (Bool) := (impl_within.f a0 0 1000000000).bind fun t101 => (some t101)
set_option maxHeartbeats 8000000 in
set_option maxRecDepth 100000 in
theorem impl_isTime.calls (a0 : Int) (r : Bool) (w : World) (h : impl_isTime.f a0 = some r) :
  Calls Try.prog 48 #[.int .i64 a0] w fun e w' => e = .returned (.bool r) ∧ Drawn0 w w' := by
 have H : ((impl_within.f a0 0 1000000000).bind fun t101 => (some t101)) = some r := h
 clear h
 replace H := Option.bind_eq_some_iff.mp H
 obtain ⟨t101, A20, H⟩ := H
 replace H : (some t101) = some r := H
 have A2 := Aside0.mk A20
 clear A20
 obtain rfl := Option.some.inj H
 go_enter Try.func48, Try.ntmps48
 go_wp2_with (first | ((with_reducible refine gate_callee (f := 72) rfl ?_); refine goesL_ (some 4) rfl rfl Try.func72 (by kernel_rfl) rfl #[.int .i64 a0, .int .i64 0, .int .i64 1000000000] rfl bwA ?_; (with_reducible refine (impl_within.calls a0 0 1000000000 t101 _ A2.out).mono ?_); rintro e w' ⟨rfl, ⟨nd, rfl⟩⟩; refine ⟨_, rfl, ?_⟩))
 go_ret
 exact ⟨by first | rfl | (simp; done) | (simp [*]; done), by repeat (first | exact Drawn0.refl _ | apply Drawn0.step)⟩

/-! ### impl_isMoney: function 73 -/
def impl_isMoney.f (a0 : Int) : Option (Bool) := (impl_within.f a0 0 4611686018427387904).bind fun t102 => (some t102)
set_option maxHeartbeats 8000000 in
set_option maxRecDepth 100000 in
theorem impl_isMoney.calls (a0 : Int) (r : Bool) (w : World) (h : impl_isMoney.f a0 = some r) :
  Calls Try.prog 73 #[.int .i64 a0] w fun e w' => e = .returned (.bool r) ∧ Drawn0 w w' := by
 have H : ((impl_within.f a0 0 4611686018427387904).bind fun t102 => (some t102)) = some r := h
 clear h
 replace H := Option.bind_eq_some_iff.mp H
 obtain ⟨t102, A20, H⟩ := H
 replace H : (some t102) = some r := H
 have A2 := Aside0.mk A20
 clear A20
 obtain rfl := Option.some.inj H
 go_enter Try.func73, Try.ntmps73
 go_wp2_with (first | ((with_reducible refine gate_callee (f := 72) rfl ?_); refine goesL_ (some 4) rfl rfl Try.func72 (by kernel_rfl) rfl #[.int .i64 a0, .int .i64 0, .int .i64 4611686018427387904] rfl bwA ?_; (with_reducible refine (impl_within.calls a0 0 4611686018427387904 t102 _ A2.out).mono ?_); rintro e w' ⟨rfl, ⟨nd, rfl⟩⟩; refine ⟨_, rfl, ?_⟩))
 go_ret
 exact ⟨by first | rfl | (simp; done) | (simp [*]; done), by repeat (first | exact Drawn0.refl _ | apply Drawn0.step)⟩

/-! ### impl_RingOk: function 36 -/
/-- What a valid ring is. -/
def moneyB (x : Int) : Bool := decide (0 ≤ x ∧ x ≤ 4611686018427387904)
def ringTailB (span head : Int) (n m : Nat) : Bool := decide (1 ≤ span ∧ span ≤ 1000) && (decide (1 ≤ (n : Int) ∧ (n : Int) ≤ 8) && (decide ((m : Int) = n) && decide (0 ≤ head ∧ head ≤ 1000000000)))
def ringOkB (span head : Int) (cs ss : List Int) : Bool := (cs ++ ss).all moneyB && ringTailB span head cs.length ss.length
theorem hisMoney (a : Int) : impl_isMoney.f a = some (moneyB a) := by
 unfold impl_isMoney.f impl_within.f moneyB
 by_cases h : (0 : Int) ≤ a
 ·simp [h]
 ·simp [h]
theorem hisTime (a : Int) : impl_isTime.f a = some (decide (0 ≤ a ∧ a ≤ 1000000000)) := by
 unfold impl_isTime.f impl_within.f
 by_cases h : (0 : Int) ≤ a
 ·simp [h]
 ·simp [h]
theorem hwithin (a b c : Int) : impl_within.f a b c = some (decide (b ≤ a ∧ a ≤ c)) := by
 unfold impl_within.f
 by_cases h : b ≤ a
 ·simp [h]
 ·simp [h]
def impl_RingOk.f (a0_0 : Int) (a0_1 : Int) (l0_2 : List Int) (l0_3 : List Int) : Option (Bool) := if l0_2.length + l0_3.length < 17592186044416 then some (ringOkB a0_0 a0_1 l0_2 l0_3) else none
set_option maxRecDepth 100000 in
theorem grow_nil (n : Int) (w : World) (h0 : 0 ≤ n) (h1 : n < 17592186044416) :
  Calls Try.prog 89 #[.slice none 0 0, .int .i64 n] w fun e w' => ∃ v : Value, e = .returned v ∧ Kd.R (Kd.int .i64) 3 w' w.heap.size (fun _ => True) v [] ∧ Below w.heap.size w w' := by
 have HB := Aside0.mk (Below.refl w.heap.size w)
 by_cases hp : 0 < n
 ·have hd : decide (0 < n) = true := decide_eq_true hp
  have hl : (0 : Int) ≤ n := h0
  have hs : (([] : List Int).length + n.toNat) * 8 ≤ 140737488355328 := by simp; omega
  have HS := Aside0.mk hs
  clear hs
  go_enter Try.func89, Try.ntmps89
  go_wp2_with (((with_reducible refine gate_builtin (b := .append) (xs := #[.tmp 20, .tmp 21]) rfl ?_); at_builtin; refine Kd.R_append_zeros (Kd.int .i64) (w0 := w) w.heap.size rfl (.tmp 20) (.tmp 21) 30 3 3 (.int .i64 0) 8 rfl Try.underlying30 Try.underlying3 (show (Try.prog.info? 3).map (fun i => (i.zero, i.size, i.bytes)) = some (some (.int .i64 0), _, 8) by kernel_rfl) rfl (by decide) (by omega) (.slice none 0 0) [] (0 : Int) n (fun _ => True) rfl rfl rfl (fun _ _ => trivial) (Kd.R_nil _ _ _ _ _) hl HB.out (Nat.le_refl _) HS.out ?_; intro v1 w1 ho1 hb1 hg1 ha1; clear hg1 ha1; obtain ⟨A1, c1, e1⟩ := Kd.R_slice ho1; subst e1; have HO1 := Aside0.mk ho1; have HB1 := Aside0.mk hb1; clear ho1 hb1))
  go_ret
  refine ⟨_, rfl, ?_, HB1.out⟩
  exact Kd.R_take (m := 0) HO1.out (Nat.zero_le _)
 ·obtain rfl : n = 0 := by omega
  go_enter Try.func89, Try.ntmps89
  go_wp2
  go_ret
  exact ⟨_, rfl, Kd.R_nil _ _ _ _ _, HB.out⟩
set_option maxRecDepth 100000 in
set_option maxHeartbeats 2000000 in
theorem concat_calls (xss : List (List Int)) (A : Option Addr) (c : Nat) (w : World) (hr : Kd.C (Kd.slice 3 (Kd.int .i64)) w A xss.length xss) (hlim : flen xss xss.length < 17592186044416) :
  Calls Try.prog 75 #[.slice A xss.length c] w fun e w' => ∃ v : Value, e = .returned v ∧ Kd.R (Kd.int .i64) 3 w' w.heap.size (fun _ => True) v xss.flatten ∧ Below w.heap.size w w' := by
 have hn : xss.length ≤ 9223372036854775807 := hr.2.1
 have HR := Aside0.mk hr
 have HL := Aside0.mk hlim
 have HB := Aside0.mk (Below.refl w.heap.size w)
 clear hr hlim
 go_enter Try.func75, Try.ntmps75
 go_wp2
 go_loopg [3, 11] xss.length (fun gg s3 s11 wr => ∃ kk : Nat, kk ≤ xss.length ∧ xss.length - kk ≤ gg ∧ s11 = .int .i64 kk ∧ s3 = .int .i64 (flen xss kk : Int) ∧ Aside0 (Below w.heap.size w wr))
 case atStart => exact ⟨0, Nat.zero_le _, by omega, rfl, rfl, HB⟩
 case round =>
  obtain ⟨kk, hkk, hg, rfl, rfl, HW⟩ := hrel
  by_cases hlt : kk < xss.length
  ·have hltz : (kk : Int) < (xss.length : Int) := by omega
   obtain ⟨ad, cs, rfl, _, ⟨Ai, ci, rfl, hli, hCi⟩, hcc⟩ := Kd.C_get HR.out ([] : List Int) (kk : Int) (by omega) hltz
   have hx0 : wr.cell? (ad.add kk) = some (.slice Ai (xss.getD (kk : Int).toNat []).length ci) := pw_cell_below HW.out (by have z := hcc 0 _ rfl; simpa [Kd.slice] using z)
   have hfn := flen_next xss kk hlt
   have hle := flen_le xss (kk + 1)
   have hge : xss.getD (kk : Int).toNat [] = xss[kk] := by simp [List.getD_eq_getElem?_getD, List.getElem?_eq_getElem hlt]
   rw [hge] at hx0
   generalize xss[kk].length = m at hx0 hfn
   have HSM : Aside0 ((flen xss (kk + 1) : Int) = (flen xss kk : Int) + (m : Int)) := ⟨by omega⟩
   generalize flen xss kk = s at *
   have hlm : (s : Int) + (m : Int) ≤ 9223372036854775807 := by have := HL.out; omega
   have hlm0 : (0 : Int) ≤ (s : Int) + (m : Int) := by omega
   clear hfn hle hcc hCi hli hge
   go_wp2
   go_roundg (xss.length - (kk + 1))
   case measure => omega
   case rel => exact ⟨kk + 1, by omega, by omega, by go_num, by rw [HSM.out], HW⟩
  ·have hltz : ¬ (kk : Int) < (xss.length : Int) := by omega
   obtain rfl : kk = xss.length := by omega
   have h0 : (0 : Int) ≤ (flen xss xss.length : Int) := by omega
   have hcall := grow_nil (flen xss xss.length : Int) wr h0 (by have := HL.out; omega)
   go_wp2_with fail
   refine hcall.mono ?_
   rintro e w1 ⟨v1, rfl, ho1, hb1⟩
   obtain ⟨A1, c1, e1⟩ := Kd.R_slice ho1
   subst e1
   have HO1 := Aside0.mk (Kd.R_lower ho1 HW.out.size)
   have HB1 := Aside0.mk (below_then HW.out HW.out.size hb1)
   clear ho1 hb1 hcall HW
   go_wp2
   go_loopg [6, 27] xss.length (fun gg s6 s27 wq => ∃ (kk : Nat) (A6 : Option Addr) (c6 : Nat), kk ≤ xss.length ∧ xss.length - kk ≤ gg ∧ s27 = .int .i64 kk ∧ s6 = .slice A6 (flen xss kk) c6 ∧ Aside0 (Kd.R (Kd.int .i64) 3 wq w.heap.size (fun _ => True) (.slice A6 (flen xss kk) c6) (xss.take kk).flatten) ∧ Aside0 (Below w.heap.size w wq))
   case atStart => exact ⟨0, A1, c1, Nat.zero_le _, by omega, rfl, rfl, HO1, HB1⟩
   case round =>
    clear HO1 HB1
    obtain ⟨kk, A6, c6, hkk, hg, rfl, rfl, HO, HW⟩ := hrel
    by_cases hlt : kk < xss.length
    ·have hltz : (kk : Int) < (xss.length : Int) := by omega
     obtain ⟨ad, cs, rfl, _, ⟨Ai, ci, rfl, hli, hCi⟩, hcc⟩ := Kd.C_get HR.out ([] : List Int) (kk : Int) (by omega) hltz
     have hge : xss.getD (kk : Int).toNat [] = xss[kk] := by simp [List.getD_eq_getElem?_getD, List.getElem?_eq_getElem hlt]
     rw [hge] at hcc hCi
     have hx0 := pw_cell_below HW.out (show w.cell? (ad.add kk) = some (.slice Ai xss[kk].length ci) by have z := hcc 0 _ rfl; simpa [Kd.slice] using z)
     have HC := Aside0.mk (Kd.C_below hCi HW.out)
     have HFN := Aside0.mk (flat_next xss kk hlt)
     have hnx := flen_next xss kk hlt
     have hle := flen_le xss (kk + 1)
     have hfl : ((xss.take kk).flatten.length + xss[kk].length) * 8 ≤ 140737488355328 := by have := HL.out; unfold flen at *; omega
     have HS := Aside0.mk hfl
     have HNX := Aside0.mk hnx
     clear hcc hCi hli hge hfl hnx hle
     generalize hy : xss[kk] = y at hx0 HC HFN HS HNX
     have hfk : flen xss kk = (xss.take kk).flatten.length := rfl
     have HFK := Aside0.mk hfk
     clear hfk
     go_wp2_with (((with_reducible refine gate_builtin (b := .append) (xs := #[.tmp 31, .tmp 32]) rfl ?_); at_builtin; refine Kd.R_append_rows (Kd.int .i64) (w0 := w) w.heap.size rfl (.tmp 31) (.tmp 32) 30 3 (.int .i64 0) 8 rfl Try.underlying30 (show (Try.prog.info? 3).map (fun i => (i.zero, i.size, i.bytes)) = some (some (.int .i64 0), _, 8) by kernel_rfl) rfl (by decide) (by omega) (.slice A6 (flen xss kk) c6) (xss.take kk).flatten y _ _ _ (fun _ => True) (fun _ => False) rfl rfl HO.out HC.out (fun _ _ h => h) (fun _ h => h.elim) (fun _ _ => trivial) HW.out HW.out.size HS.out ?_; intro v2 w2 ho2 hb2 hg2 ha2; clear hg2 ha2; rw [← HFN.out] at ho2; obtain ⟨A2, c2, e2⟩ : ∃ A c, v2 = .slice A (flen xss (kk + 1)) c := Kd.R_slice ho2; subst e2; have HO2 := Aside0.mk ho2; have HB2 := Aside0.mk hb2; clear ho2 hb2))
     go_roundg (xss.length - (kk + 1))
     case measure => omega
     case rel => exact ⟨kk + 1, A2, c2, by omega, by omega, by go_num, rfl, HO2, HB2⟩
    ·have hltz : ¬ (kk : Int) < (xss.length : Int) := by omega
     obtain rfl : kk = xss.length := by omega
     have hz := HO.out
     rw [List.take_length] at hz
     have HZ := Aside0.mk hz
     clear hz HO
     go_wp2
     go_ret
     exact ⟨_, rfl, HZ.out, HW.out⟩
theorem pair_C {W : World} {g : Nat} {A2 A3 : Option Addr} {c2 c3 : Nat} {l2 l3 : List Int} (h2 : W.cell? ⟨g, 0, none⟩ = some (.slice A2 l2.length c2)) (h3 : W.cell? ⟨g, 1, none⟩ = some (.slice A3 l3.length c3)) (k2 : l2.length ≤ c2) (k3 : l3.length ≤ c3)
  (r2 : Kd.C (Kd.int .i64) W A2 l2.length l2) (r3 : Kd.C (Kd.int .i64) W A3 l3.length l3) : Kd.C (Kd.slice 3 (Kd.int .i64)) W (some ⟨g, 0, none⟩) [l2, l3].length [l2, l3] :=
 ⟨rfl, by simp, fun _ => ⟨_, rfl, fun j p hp => by
  match j, hp with
  | 0, hp =>
   obtain rfl : l2 = p := by simpa using hp
   exact ⟨_, rfl, ⟨A2, c2, rfl, k2, r2⟩, fun i u hu => by
    match i, hu with
    | 0, hu =>
     obtain rfl : .slice A2 l2.length c2 = u := by simpa using hu
     simpa [Kd.slice, Addr.add] using h2⟩
  | 1, hp =>
   obtain rfl : l3 = p := by simpa using hp
   exact ⟨_, rfl, ⟨A3, c3, rfl, k3, r3⟩, fun i u hu => by
    match i, hu with
    | 0, hu =>
     obtain rfl : .slice A3 l3.length c3 = u := by simpa using hu
     simpa [Kd.slice, Addr.add] using h3⟩⟩⟩
set_option maxHeartbeats 8000000 in
set_option maxRecDepth 100000 in
theorem impl_RingOk.calls (a0_0 : Int) (a0_1 : Int) (A0_2 : Option Addr) (c0_2 : Nat) (l0_2 : List Int) (A0_3 : Option Addr) (c0_3 : Nat) (l0_3 : List Int) (r : Bool) (w : World) (hr0_2 : Kd.C (Kd.int .i64) w A0_2 l0_2.length l0_2) (hc0_2 : l0_2.length ≤ c0_2) (hr0_3 : Kd.C (Kd.int .i64) w A0_3 l0_3.length l0_3) (hc0_3 : l0_3.length ≤ c0_3) (h : impl_RingOk.f a0_0 a0_1 l0_2 l0_3 = some r) :
  Calls Try.prog 36 #[.agg #[.int .i64 a0_0, .int .i64 a0_1, .slice A0_2 l0_2.length c0_2, .slice A0_3 l0_3.length c0_3]] w fun e w' => e = .returned (.bool r) ∧ Below w.heap.size w w' := by
 by_cases hl : l0_2.length + l0_3.length < 17592186044416
 ·simp only [impl_RingOk.f, if_pos hl, Option.some.injEq] at h
  subst h
  have hfl : flen [l0_2, l0_3] [l0_2, l0_3].length < 17592186044416 := by simpa [flen] using hl
  have hR2 := Aside0.mk hr0_2
  have hR3 := Aside0.mk hr0_3
  have hC2 := Aside0.mk hc0_2
  have hC3 := Aside0.mk hc0_3
  have hB := Aside0.mk (Below.refl w.heap.size w)
  have hconcat := fun W A c hr => concat_calls [l0_2, l0_3] A c W hr hfl
  clear hr0_2 hr0_3 hc0_2 hc0_3 hl hfl
  have hu := Try.underlying41
  go_enter Try.func36, Try.ntmps36
  go_wp2_with fail
  refine (hconcat _ (some ⟨w.heap.size + 1, 0, none⟩) 2 (pair_C (by go_simp) (by go_simp) hC2.out hC3.out (Kd.C_below hR2.out (below_alloc (below_alloc hB.out _) _)) (Kd.C_below hR3.out (below_alloc (below_alloc hB.out _) _)))).mono ?_
  rintro e w1 ⟨v1, rfl, ho1, hb1⟩
  have hrs : [l0_2, l0_3].flatten = l0_2 ++ l0_3 := by simp
  rw [hrs] at ho1
  clear hrs hconcat
  have HRB : Aside0 (ringOkB a0_0 a0_1 l0_2 l0_3 = ((l0_2 ++ l0_3).all moneyB && ringTailB a0_0 a0_1 l0_2.length l0_3.length)) := ⟨rfl⟩
  generalize hrs : l0_2 ++ l0_3 = rs at ho1 HRB
  clear hrs
  obtain ⟨A1, c1, e1⟩ := Kd.R_slice ho1
  subst e1
  have hb0 := below_then (below_alloc (below_alloc hB.out _) _) (Below.size (below_alloc (below_alloc hB.out _) _)) hb1
  have hrd := (Kd.R_reads' ho1).2.2
  have hn1 : rs.length ≤ 9223372036854775807 := hrd.2.1
  have k0 : w1.cell? ⟨w.heap.size, 0, none⟩ = some (.int .i64 a0_0) := by rw [hb1.cell (p := ⟨w.heap.size, 0, none⟩) (by simp; omega)]; go_simp
  have k1 : w1.cell? ⟨w.heap.size, 1, none⟩ = some (.int .i64 a0_1) := by rw [hb1.cell (p := ⟨w.heap.size, 1, none⟩) (by simp; omega)]; go_simp
  have k3 : w1.cell? ⟨w.heap.size, 3, none⟩ = some (.slice A0_3 l0_3.length c0_3) := by rw [hb1.cell (p := ⟨w.heap.size, 3, none⟩) (by simp; omega)]; go_simp
  have hlt0 : w.heap.size < w1.heap.size := by have := hb1.size; simp at this; omega
  have K0 := Aside0.mk k0
  have K1 := Aside0.mk k1
  have K3 := Aside0.mk k3
  have HRD := Aside0.mk hrd
  have HB0 := Aside0.mk hb0
  have HLT0 := Aside0.mk hlt0
  clear k0 k1 k3 hrd hb0 ho1 hb1 hlt0
  go_wp2
  go_loopg [5, 16] rs.length (fun gg s5 s16 wq => ∃ kk : Nat, kk ≤ rs.length ∧ rs.length - kk ≤ gg ∧ s16 = .int .i64 kk ∧ Aside0 (Below w1.heap.size w1 wq) ∧ Aside0 (∀ j (hj : j < rs.length), j < kk → moneyB rs[j] = true))
  case atStart => exact ⟨0, Nat.zero_le _, by omega, rfl, ⟨Below.refl _ _⟩, ⟨fun j hj h => absurd h (Nat.not_lt_zero _)⟩⟩
  case round =>
   obtain ⟨kk, hkk, hg, rfl, BW, HA⟩ := hrel
   by_cases hlt : kk < rs.length
   ·have hltz : (kk : Int) < (rs.length : Int) := by omega
    obtain ⟨ad, cs, rfl, _, hK, hcc⟩ := Kd.C_get HRD.out (0 : Int) (kk : Int) (by omega) hltz
    have hKe : cs = [.int .i64 (rs.getD (kk : Int).toNat 0)] := hK
    subst hKe
    have hx0 := pw_cell_below BW.out (show w1.cell? (ad.add kk) = some (.int .i64 (rs.getD (kk : Int).toNat 0)) by have z := hcc 0 _ rfl; simpa [Kd.int, Kd.scalar] using z)
    have hge : rs.getD (kk : Int).toNat 0 = rs[kk] := by simp [List.getD_eq_getElem?_getD, List.getElem?_eq_getElem hlt]
    rw [hge] at hx0
    generalize hy : rs[kk] = y at hx0
    have HY := Aside0.mk hy
    clear hy hge hcc hK
    have hm := hisMoney y
    have HM := Aside0.mk hm
    clear hm
    cases hq : moneyB y with
    | true =>
     rw [hq] at HM
     go_wp2_with (go_at_call 73; refine (impl_isMoney.calls y true _ HM.out).mono ?_; rintro e w' ⟨rfl, ⟨nd, rfl⟩⟩)
     go_roundg (rs.length - (kk + 1))
     case measure => omega
     case rel =>
      refine ⟨kk + 1, by omega, by omega, by go_num, ⟨pw_below_drewN BW.out nd⟩, ⟨fun j hj h => ?_⟩⟩
      by_cases e : j = kk
      ·subst e
       rw [HY.out]
       exact hq
      ·exact HA.out j hj (by omega)
    | false =>
     rw [hq] at HM
     have hbf : ringOkB a0_0 a0_1 l0_2 l0_3 = false := by
      rw [HRB.out, Bool.and_eq_false_iff]
      left
      rw [List.all_eq_false]
      exact ⟨rs[kk], List.getElem_mem hlt, by rw [HY.out, hq]; simp⟩
     have HV := Aside0.mk hbf
     clear hbf hq
     go_wp2_with (go_at_call 73; refine (impl_isMoney.calls y false _ HM.out).mono ?_; rintro e w' ⟨rfl, ⟨nd, rfl⟩⟩)
     go_ret
     exact ⟨by rw [HV.out]; rfl, pw_below_drewN (below_then HB0.out HB0.out.size BW.out) nd⟩
   ·have hltz : ¬ (kk : Int) < (rs.length : Int) := by omega
    have hall : rs.all moneyB = true := by
     rw [List.all_eq_true]
     intro x hx
     obtain ⟨j, hj, rfl⟩ := List.mem_iff_getElem.1 hx
     exact HA.out j hj (by omega)
    have hbt : ringOkB a0_0 a0_1 l0_2 l0_3 = ringTailB a0_0 a0_1 l0_2.length l0_3.length := by rw [HRB.out, hall, Bool.true_and]
    have k0 := pw_cell_below BW.out K0.out
    have k1 := pw_cell_below BW.out K1.out
    have k3 := pw_cell_below BW.out K3.out
    have HBX := Aside0.mk (below_then HB0.out HB0.out.size BW.out)
    clear hall HA hg hkk HRB
    have h1 := Aside0.mk (hwithin a0_0 1 1000)
    have h2 := Aside0.mk (hwithin (l0_2.length : Int) 1 8)
    have h4 := Aside0.mk (hisTime a0_1)
    by_cases p1 : 1 ≤ a0_0 ∧ a0_0 ≤ 1000
    ·rw [decide_eq_true p1] at h1
     by_cases p2 : 1 ≤ (l0_2.length : Int) ∧ (l0_2.length : Int) ≤ 8
     ·rw [decide_eq_true p2] at h2
      by_cases p3 : (l0_3.length : Int) = (l0_2.length : Int)
      ·have HV : Aside0 (ringOkB a0_0 a0_1 l0_2 l0_3 = decide (0 ≤ a0_1 ∧ a0_1 ≤ 1000000000)) := ⟨by rw [hbt]; unfold ringTailB; rw [decide_eq_true p1, decide_eq_true p2, decide_eq_true p3, Bool.true_and, Bool.true_and, Bool.true_and]⟩
       have p3a : ((l0_3.length : Int) == (l0_2.length : Int)) = true := beq_iff_eq.2 p3
       have p3b : (l0_3.length == l0_2.length) = true := by rw [beq_iff_eq]; omega
       clear p1 p2 p3 hbt
       generalize decide (0 ≤ a0_1 ∧ a0_1 ≤ 1000000000) = b4 at h4 HV
       go_wp2_with (first | (go_at_call 72; first | (with_reducible refine (impl_within.calls a0_0 1 1000 true _ h1.out).mono ?_; rintro e w' ⟨rfl, ⟨nd, rfl⟩⟩) | (with_reducible refine (impl_within.calls (l0_2.length : Int) 1 8 true _ h2.out).mono ?_; rintro e w' ⟨rfl, ⟨nd2, rfl⟩⟩)) | (go_at_call 48; refine (impl_isTime.calls a0_1 b4 _ h4.out).mono ?_; rintro e w' ⟨rfl, ⟨nd3, rfl⟩⟩))
       go_ret
       exact ⟨by rw [HV.out]; rfl, pw_below_drewN HBX.out _⟩
      ·have HV : Aside0 (ringOkB a0_0 a0_1 l0_2 l0_3 = false) := ⟨by rw [hbt]; unfold ringTailB; rw [decide_eq_true p1, decide_eq_true p2, decide_eq_false p3, Bool.true_and, Bool.true_and, Bool.false_and]⟩
       have p3a : ((l0_3.length : Int) == (l0_2.length : Int)) = false := beq_eq_false_iff_ne.2 p3
       have p3b : (l0_3.length == l0_2.length) = false := by rw [beq_eq_false_iff_ne]; omega
       clear p1 p2 p3 hbt
       go_wp2_with (first | (go_at_call 72; first | (with_reducible refine (impl_within.calls a0_0 1 1000 true _ h1.out).mono ?_; rintro e w' ⟨rfl, ⟨nd, rfl⟩⟩) | (with_reducible refine (impl_within.calls (l0_2.length : Int) 1 8 true _ h2.out).mono ?_; rintro e w' ⟨rfl, ⟨nd2, rfl⟩⟩)))
       go_ret
       exact ⟨by rw [HV.out]; rfl, pw_below_drewN HBX.out _⟩
     ·rw [decide_eq_false p2] at h2
      have HV : Aside0 (ringOkB a0_0 a0_1 l0_2 l0_3 = false) := ⟨by rw [hbt]; unfold ringTailB; rw [decide_eq_true p1, decide_eq_false p2, Bool.true_and, Bool.false_and]⟩
      clear p1 p2 hbt
      go_wp2_with (first | (go_at_call 72; first | (with_reducible refine (impl_within.calls a0_0 1 1000 true _ h1.out).mono ?_; rintro e w' ⟨rfl, ⟨nd, rfl⟩⟩) | (with_reducible refine (impl_within.calls (l0_2.length : Int) 1 8 false _ h2.out).mono ?_; rintro e w' ⟨rfl, ⟨nd2, rfl⟩⟩)))
      go_ret
      exact ⟨by rw [HV.out]; rfl, pw_below_drewN HBX.out _⟩
    ·rw [decide_eq_false p1] at h1
     have HV : Aside0 (ringOkB a0_0 a0_1 l0_2 l0_3 = false) := ⟨by rw [hbt]; unfold ringTailB; rw [decide_eq_false p1, Bool.false_and]⟩
     clear p1 hbt
     go_wp2_with (first | (go_at_call 72; with_reducible refine (impl_within.calls a0_0 1 1000 false _ h1.out).mono ?_; rintro e w' ⟨rfl, ⟨nd, rfl⟩⟩))
     go_ret
     exact ⟨by rw [HV.out]; rfl, pw_below_drewN HBX.out _⟩
 ·simp only [impl_RingOk.f, if_neg hl] at h
  cases h


/-! ### slices_Clone_int_int: function 87 -/
def slices_Clone_int_int.f (l0 : List Int) : Option (List Int) := if l0.length < 17592186044416 then some l0 else none
set_option maxHeartbeats 8000000 in
set_option maxRecDepth 100000 in
theorem slices_Clone_int_int.calls (A0 : Option Addr) (c0 : Nat) (l0 : List Int) (r : List Int) (w : World) (hr0 : Kd.C (Kd.int .i64) w A0 l0.length l0) (hc0 : l0.length ≤ c0) (h : slices_Clone_int_int.f l0 = some r) :
  Calls Try.prog 87 #[.slice A0 l0.length c0] w fun e w' => ∃ v0_ : Value, e = .returned (v0_) ∧ Kd.R (Kd.int .i64) 3 w' w.heap.size (fun _ => True) v0_ r ∧ Below w.heap.size w w' := by
 simp only [slices_Clone_int_int.f] at h
 by_cases hl : l0.length < 17592186044416
 ·rw [if_pos hl] at h
  obtain rfl := Option.some.inj h
  clear h
  have HB := Aside0.mk (Below.refl w.heap.size w)
  have HR0 := Aside0.mk hr0
  cases A0 with
  | none =>
   have h0 : l0 = [] := by
    rcases Nat.eq_zero_or_pos l0.length with z | z
    ·exact List.eq_nil_of_length_eq_zero z
    ·obtain ⟨ad, e, _⟩ := hr0.2.2 z
     cases e
   subst h0
   clear hr0 hl
   have hq := fun W => Lib.run_eql_slice_nil (P := Try.prog) W 30 3 none 0 c0 0 0 Try.underlying30
   go_enter Try.func87, Try.ntmps87
   go_wp2
   go_ret
   exact ⟨_, rfl, Kd.R_nil _ _ _ _ _, HB.out⟩
  | some ad =>
   have HL := Aside0.mk hl
   clear hr0 hl hc0
   have hq := fun W => Lib.run_eql_slice_nil (P := Try.prog) W 30 3 (some ad) l0.length c0 0 0 Try.underlying30
   go_enter Try.func87, Try.ntmps87
   go_wp2_with (first | ((with_reducible refine gate_dst (N := 5) rfl ?_); refine Kd.R_lit (Kd.int .i64) (w0 := w) w.heap.size 3 ?hg (N := 5) ?hd (xs := ([] : List Int)) (inner := []) (ok := fun _ => True) (okp := fun _ => True) ?hr (Reps.none _ _) (fun _ hk => hk) trivial (Below.refl _ _) (Nat.le_refl _) (by simp) ?_; (case hd => rfl); (case hg => rfl); (case hr => first | (go_simp; done) | (go_simp; rfl)); intro v1 w1 ho1 hb1 hg1 hn1; clear hg1 hn1; have HO1 := Aside0.mk ho1; have HB1 := Aside0.mk hb1; clear ho1 hb1) | ((with_reducible refine gate_builtin (b := .append) (xs := #[.tmp 5, .tmp 6]) rfl ?_); at_builtin; refine Kd.R_append_rows (Kd.int .i64) (w0 := w) w.heap.size rfl (.tmp 5) (.tmp 6) 30 3 (.int .i64 0) 8 rfl Try.underlying30 (show (Try.prog.info? 3).map (fun i => (i.zero, i.size, i.bytes)) = some (some (.int .i64 0), _, 8) by kernel_rfl) rfl (by decide) (by omega) v1 [] l0 _ _ _ (fun _ => True) (fun _ => False) rfl rfl HO1.out (Kd.C_below HR0.out HB1.out) (fun _ _ h => h) (fun _ h => h.elim) (fun _ _ => trivial) HB1.out HB1.out.size (by have := HL.out; simp; omega) ?_; intro v2 w2 ho2 hb2 hg2 ha2; clear hg2 ha2; have HO2 := Aside0.mk ho2; have HB2 := Aside0.mk hb2; clear ho2 hb2))
   have ho2 := HO2.out
   have hb2 := HB2.out
   obtain ⟨A2, c2, e2⟩ := Kd.R_slice ho2
   subst e2
   go_ret
   exact ⟨_, rfl, ho2, hb2⟩
 ·rw [if_neg hl] at h
  cases h


/-! ### impl_Ring_copied: function 64 -/
def impl_Ring_copied.f (a0_0 : Int) (a0_1 : Int) (l0_2 : List Int) (l0_3 : List Int) : Option (Int × Int × List Int × List Int) := (slices_Clone_int_int.f l0_2).bind fun t111 => ((slices_Clone_int_int.f l0_3).bind fun t114 => (some (a0_0, a0_1, t111, t114)))
def impl_Ring_copied.T1 : Bool × List (List Nat × List Nat) := (true, [([], []), ([0], [0]), ([1], [1]), ([], []), ([3], [3]), ([4, 2], [4]), ([0, 1, 2, 3, 4], []), ([6, 2, 5, 0, 1, 2, 3, 4], [2, 6]), ([0, 1, 2, 3, 4, 5, 6, 7], []), ([8, 5, 7, 0, 1, 2, 3, 4, 5, 6, 7], [5, 8])])
def impl_Ring_copied.B1 : List Nat := [0, 1, 3, 0, 8, 31, 31, 127, 255, 511]
theorem impl_Ring_copied.tab1 : rtab .any (opsOf Try.f64 1) = impl_Ring_copied.T1 := by kernel_rfl
theorem impl_Ring_copied.bits1 : waitsOk impl_Ring_copied.T1.2 impl_Ring_copied.B1 = true := by kernel_rfl
set_option maxHeartbeats 8000000 in
set_option maxRecDepth 100000 in
theorem impl_Ring_copied.calls (a0_0 : Int) (a0_1 : Int) (A0_2 : Option Addr) (c0_2 : Nat) (l0_2 : List Int) (A0_3 : Option Addr) (c0_3 : Nat) (l0_3 : List Int) (r1 : Int) (r2 : Int) (r3 : List Int) (r4 : List Int) (w : World) (hr0_2 : Kd.C (Kd.int .i64) w A0_2 l0_2.length l0_2) (hc0_2 : l0_2.length ≤ c0_2) (hr0_3 : Kd.C (Kd.int .i64) w A0_3 l0_3.length l0_3) (hc0_3 : l0_3.length ≤ c0_3) (h : impl_Ring_copied.f a0_0 a0_1 l0_2 l0_3 = some (r1, r2, r3, r4)) :
  Calls Try.prog 64 #[.agg #[.int .i64 a0_0, .int .i64 a0_1, .slice A0_2 l0_2.length c0_2, .slice A0_3 l0_3.length c0_3]] w fun e w' => ∃ v2_ v3_ : Value, e = .returned (.agg #[.int .i64 r1, .int .i64 r2, v2_, v3_]) ∧ Kd.R (Kd.int .i64) 3 w' w.heap.size (fun k_ => some k_ ≠ (v3_ : Value).ownBlock) v2_ r3 ∧ Kd.R (Kd.int .i64) 3 w' w.heap.size (fun k_ => some k_ ≠ (v2_ : Value).ownBlock) v3_ r4 ∧ Below w.heap.size w w' := by
 have hu41 := Try.underlying41
 have HR0_2 := Aside0.mk hr0_2
 have HC0_2 := Aside0.mk hc0_2
 clear hr0_2 hc0_2
 have HR0_3 := Aside0.mk hr0_3
 have HC0_3 := Aside0.mk hc0_3
 clear hr0_3 hc0_3
 have HB := Aside0.mk (Below.refl w.heap.size w)
 have H : ((slices_Clone_int_int.f l0_2).bind fun t111 => ((slices_Clone_int_int.f l0_3).bind fun t114 => (some (a0_0, a0_1, t111, t114)))) = some (r1, r2, r3, r4) := h
 clear h
 replace H := Option.bind_eq_some_iff.mp H
 obtain ⟨t111, A20, H⟩ := H
 replace H : ((slices_Clone_int_int.f l0_3).bind fun t114 => (some (a0_0, a0_1, t111, t114))) = some (r1, r2, r3, r4) := H
 have A2 := Aside0.mk A20
 clear A20
 replace H := Option.bind_eq_some_iff.mp H
 obtain ⟨t114, A30, H⟩ := H
 replace H : (some (a0_0, a0_1, t111, t114)) = some (r1, r2, r3, r4) := H
 have A3 := Aside0.mk A30
 clear A30
 simp only [Option.some.injEq, Prod.mk.injEq] at H
 obtain ⟨rfl, rfl, rfl, rfl⟩ := H
 go_enter Try.func64, Try.ntmps64
 try go_wp2_with (first | ((with_reducible refine gate_dst (N := 1) rfl ?_); refine box_event ?hg (N := 1) ?hd (cs := #[.int .i64 a0_0, .int .i64 a0_1, .slice A0_2 l0_2.length c0_2, .slice A0_3 l0_3.length c0_3]) (t := 41) ?hr ?_; (case hd => rfl); (case hg => rfl); (case hr => first | (go_simp; done) | (go_simp; rfl)); intro gb109 hg w4 hbox hb; have n0_ := Aside0.mk (below_step bwB hb); have n1_ := Aside0.mk (hbox); have n2_ := Aside0.mk ((by rw [hg]; exact (below_size bwB) : w.heap.size ≤ gb109)); have n3_ := Aside0.mk ((by rw [hg]; exact (below_size bwB) : w.heap.size ≤ gb109)); clear HB; have HB := n0_; have BK109 := n1_; have GW109 := n2_; have GE109 := n3_; clear n0_ n1_ n2_ n3_; clear hb hbox hg) | ((with_reducible refine gate_dst (N := 2) rfl ?_); refine box_event ?hg (N := 2) ?hd (cs := #[.int .i64 0, .int .i64 0, .slice none 0 0, .slice none 0 0]) (t := 41) ?hr ?_; (case hd => rfl); (case hg => rfl); (case hr => first | (go_simp; done) | (go_simp; rfl)); intro gb110 hg w5 hbox hb; have n0_ := Aside0.mk (blk_below (g := gb109) (o := .cells #[.int .i64 a0_0, .int .i64 a0_1, .slice A0_2 l0_2.length c0_2, .slice A0_3 l0_3.length c0_3] 41 (0, 0)) (bwK BK109.out) hb); have n1_ := Aside0.mk (below_step bwB hb); have n2_ := Aside0.mk (hbox); have n3_ := Aside0.mk ((by rw [hg]; exact (below_size bwB) : w.heap.size ≤ gb110)); have n4_ := Aside0.mk ((by rw [hg]; exact (below_size bwB) : w.heap.size ≤ gb110)); have n5_ := Aside0.mk ((by rw [hg]; exact Nat.ne_of_lt (blk_lt (g := gb109) (o := .cells #[.int .i64 a0_0, .int .i64 a0_1, .slice A0_2 l0_2.length c0_2, .slice A0_3 l0_3.length c0_3] 41 (0, 0)) (bwK BK109.out)) : gb109 ≠ gb110)); have n6_ := Aside0.mk ((by rw [hg]; exact Nat.ne_of_gt (blk_lt (g := gb109) (o := .cells #[.int .i64 a0_0, .int .i64 a0_1, .slice A0_2 l0_2.length c0_2, .slice A0_3 l0_3.length c0_3] 41 (0, 0)) (bwK BK109.out)) : gb110 ≠ gb109)); clear BK109; clear HB; have BK109 := n0_; have HB := n1_; have BK110 := n2_; have GW110 := n3_; have GE110 := n4_; have NB109_110 := n5_; have NB110_109 := n6_; clear n0_ n1_ n2_ n3_ n4_ n5_ n6_; clear hb hbox hg))
 have n0_ := Aside0.mk (blk_drew BK109.out)
 have n1_ := Aside0.mk (blk_drew BK110.out)
 have n2_ := Aside0.mk (below_drew1 HB.out)
 clear BK109
 clear BK110
 clear HB
 have BK109 := n0_
 have BK110 := n1_
 have HB := n2_
 clear n0_ n1_ n2_
 refine start_ (n := 10) (S := fun w' => w'.cell? ⟨gb109, 0, none⟩ = some (.int .i64 a0_0) ∧ w'.cell? ⟨gb109, 1, none⟩ = some (.int .i64 a0_1) ∧ w'.cell? ⟨gb109, 2, none⟩ = some (.slice A0_2 l0_2.length c0_2) ∧ w'.cell? ⟨gb109, 3, none⟩ = some (.slice A0_3 l0_3.length c0_3)) (ds := [7, 9]) #[false, false, false, false, false, false, false, false, false, false] (by kernel_rfl) rfl rfl ⟨(blk_cell BK109.out 0).trans rfl, (blk_cell BK109.out 1).trans rfl, (blk_cell BK109.out 2).trans rfl, (blk_cell BK109.out 3).trans rfl⟩ (fun hHeld => ?_); refine with_tabW impl_Ring_copied.tab1 impl_Ring_copied.bits1 (fun HT_ HW_ => ?_)
 generalize w5.drew = w6 at BK109 BK110 HB hHeld ⊢
 refine pure_ (i := 0) (N := some 3) (v := ?_) (a' := ?_) #[true, false, false, false, false, false, false, false, false, false] rfl rfl (any_of HT_.out (by kernel_rfl)) (fun _ _ _ h => h) (Or.inl ⟨by rfl, ?_⟩) ?_ ?_
 rotate_left
 ·intro w'
  go_simp
  with_reducible rfl
 rotate_left
 ·simp only [Act.put, List.setIfInBounds_toArray, List.set_cons_zero, List.set_cons_succ, i64_w, i32_w]
  rfl
 refine pure_ (i := 3) (N := some 6) (v := ?_) (a' := ?_) #[true, false, false, true, false, false, false, false, false, false] rfl rfl (any_of HT_.out (by kernel_rfl)) (fun _ _ _ h => h) (Or.inl ⟨by rfl, ?_⟩) ?_ ?_
 rotate_left
 ·intro w'
  go_simp
  with_reducible rfl
 rotate_left
 ·simp only [Act.put, List.setIfInBounds_toArray, List.set_cons_zero, List.set_cons_succ, i64_w, i32_w]
  rfl
 refine take_ (i := 1) (N := some 4) (v := ?_) (a' := ?_) #[true, true, false, true, false, false, false, false, false, false] rfl rfl (take_ofW HT_.out HW_.out (by kernel_rfl)) (fun _ _ _ h => h) (Or.inl ⟨by rfl, ?_⟩) hHeld ?_ ?_
 rotate_left
 ·rintro w' ⟨s0, s1, s2, s3⟩
  go_simp
  with_reducible rfl
 rotate_left
 ·simp only [Act.put, List.setIfInBounds_toArray, List.set_cons_zero, List.set_cons_succ, i64_w, i32_w]
  rfl
 refine take_ (i := 4) (N := some 7) (v := ?_) (a' := ?_) #[true, true, false, true, true, false, false, false, false, false] rfl rfl (take_ofW HT_.out HW_.out (by kernel_rfl)) (fun _ _ _ h => h) (Or.inl ⟨by rfl, ?_⟩) hHeld ?_ ?_
 rotate_left
 ·rintro w' ⟨s0, s1, s2, s3⟩
  go_simp
  with_reducible rfl
 rotate_left
 ·simp only [Act.put, List.setIfInBounds_toArray, List.set_cons_zero, List.set_cons_succ, i64_w, i32_w]
  rfl
 refine one_ (i := 2) (N := some 5) #[true, true, true, true, true, false, false, false, false, false] rfl rfl (one_of HT_.out (by kernel_rfl)) (by decide) (fun K hK => ?_)
 refine goes_ Try.func87 (by kernel_rfl) rfl #[.slice A0_2 l0_2.length c0_2] (by rfl) rfl rfl bwA ?_
 with_reducible refine (slices_Clone_int_int.calls _ _ l0_2 t111 _ ?side1 ?side2 A2.out).mono ?_
 (case side1 => exact bwC (Kd.C_below HR0_2.out HB.out))
 (case side2 => exact HC0_2.out)
 rintro e w7 ⟨v112, rfl, ho0, hb⟩
 refine ⟨_, rfl, ?_⟩
 have n0_ := Aside0.mk (Kd.R_lower ho0 (below_size bwB))
 have n1_ := Aside0.mk (blk_below (g := gb109) (o := .cells #[.int .i64 a0_0, .int .i64 a0_1, .slice A0_2 l0_2.length c0_2, .slice A0_3 l0_3.length c0_3] 41 (0, 0)) (bwK BK109.out) hb)
 have n2_ := Aside0.mk (blk_below (g := gb110) (o := .cells #[.int .i64 0, .int .i64 0, .slice none 0 0, .slice none 0 0] 41 (0, 0)) (bwK BK110.out) hb)
 have n3_ := Aside0.mk (below_step bwB hb)
 clear BK109
 clear BK110
 clear HB
 have HO113 := n0_
 have BK109 := n1_
 have BK110 := n2_
 have HB := n3_
 clear n0_ n1_ n2_ n3_
 (try clear hb)
 (try clear hb2)
 (try clear hk)
 (try clear hi)
 (try clear ho0)
 refine hK.out _ _ ⟨(blk_cell BK109.out 0).trans rfl, (blk_cell BK109.out 1).trans rfl, (blk_cell BK109.out 2).trans rfl, (blk_cell BK109.out 3).trans rfl⟩ (fun hHeld => ?_)
 clear hK K
 refine norm_ (a' := ?_) ?_ ?_
 rotate_left
 ·show Act.put _ (some 5) _ = _
  simp only [Act.put, List.setIfInBounds_toArray, List.set_cons_zero, List.set_cons_succ, i64_w, i32_w]
  rfl
 refine pure_ (i := 6) (N := some 9) (v := ?_) (a' := ?_) #[true, true, true, true, true, false, true, false, false, false] rfl rfl (any_of HT_.out (by kernel_rfl)) (fun _ _ _ h => h) (Or.inl ⟨by rfl, ?_⟩) ?_ ?_
 rotate_left
 ·intro w'
  go_simp
  with_reducible rfl
 rotate_left
 ·simp only [Act.put, List.setIfInBounds_toArray, List.set_cons_zero, List.set_cons_succ, i64_w, i32_w]
  rfl
 refine one_ (i := 5) (N := some 8) #[true, true, true, true, true, true, true, false, false, false] rfl rfl (one_of HT_.out (by kernel_rfl)) (by decide) (fun K hK => ?_)
 refine goes_ Try.func87 (by kernel_rfl) rfl #[.slice A0_3 l0_3.length c0_3] (by rfl) rfl rfl bwA ?_
 with_reducible refine (slices_Clone_int_int.calls _ _ l0_3 t114 _ ?side1 ?side2 A3.out).mono ?_
 (case side1 => exact bwC (Kd.C_below HR0_3.out HB.out))
 (case side2 => exact HC0_3.out)
 rintro e w8 ⟨v115, rfl, ho0, hb⟩
 refine ⟨_, rfl, ?_⟩
 have n0_ := Aside0.mk (Kd.R_elder' (by (with_reducible repeat (first | apply Kd.R_alloc | apply Kd.R_drewN | apply Kd.R_drew)); exact HO113.out) (Kd.R_base ho0) hb)
 have n1_ := Aside0.mk (Kd.R_lower (Kd.R_new' ho0 (Kd.R_lt (by (with_reducible repeat (first | apply Kd.R_alloc | apply Kd.R_drewN | apply Kd.R_drew)); exact HO113.out))) (below_size bwB))
 have n2_ := Aside0.mk (blk_below (g := gb109) (o := .cells #[.int .i64 a0_0, .int .i64 a0_1, .slice A0_2 l0_2.length c0_2, .slice A0_3 l0_3.length c0_3] 41 (0, 0)) (bwK BK109.out) hb)
 have n3_ := Aside0.mk (blk_below (g := gb110) (o := .cells #[.int .i64 0, .int .i64 0, .slice none 0 0, .slice none 0 0] 41 (0, 0)) (bwK BK110.out) hb)
 have n4_ := Aside0.mk (below_step bwB hb)
 clear HO113
 clear BK109
 clear BK110
 clear HB
 have HO113 := n0_
 have HO116 := n1_
 have BK109 := n2_
 have BK110 := n3_
 have HB := n4_
 clear n0_ n1_ n2_ n3_ n4_
 (try clear hb)
 (try clear hb2)
 (try clear hk)
 (try clear hi)
 (try clear ho0)
 obtain ⟨Ao9, co9, eo9⟩ := Kd.R_slice HO113.out
 (first | subst eo9 | (injection eo9 with f1_ f2_ f3_; have f4_ := f1_.symm; have f5_ := f3_.symm; clear f1_ f2_ f3_; subst f4_; subst f5_))
 obtain ⟨Ao11, co11, eo11⟩ := Kd.R_slice HO116.out
 (first | subst eo11 | (injection eo11 with f1_ f2_ f3_; have f4_ := f1_.symm; have f5_ := f3_.symm; clear f1_ f2_ f3_; subst f4_; subst f5_))
 refine hK.out _ _ ⟨(blk_cell BK109.out 0).trans rfl, (blk_cell BK109.out 1).trans rfl, (blk_cell BK109.out 2).trans rfl, (blk_cell BK109.out 3).trans rfl⟩ (fun hHeld => ?_)
 clear hK K
 refine norm_ (a' := ?_) ?_ ?_
 rotate_left
 ·show Act.put _ (some 8) _ = _
  simp only [Act.put, List.setIfInBounds_toArray, List.set_cons_zero, List.set_cons_succ, i64_w, i32_w]
  rfl
 refine last_ (i := 7) (N := none) #[true, true, true, true, true, true, true, true, false, false] rfl rfl (one_of HT_.out (by kernel_rfl)) (by decide) (fun K hK => ?_)
 have hs10 : w8.cell? ⟨gb109, 2, none⟩ = some (.slice A0_2 l0_2.length c0_2) := (blk_cell BK109.out 2).trans rfl
 have hfs10 := blk_frozen BK109.out 2
 have hns10_1 := NB110_109.out
 have hms10_1 := NB109_110.out
 refine skip_ (w1 := ?_) (by rfl) rfl ?_ ?_
 rotate_left
 ·go_simp
  rfl
 refine hK.out _ _ ?_
 clear hK K
 refine pure_ (i := 8) (N := some 10) (v := ?_) (a' := ?_) #[true, true, true, true, true, true, true, true, true, false] rfl rfl (any_of HT_.out (by kernel_rfl)) (fun _ _ _ h => h) (Or.inl ⟨by rfl, ?_⟩) ?_ ?_
 rotate_left
 ·intro w'
  go_simp
  with_reducible rfl
 rotate_left
 ·simp only [Act.put, List.setIfInBounds_toArray, List.set_cons_zero, List.set_cons_succ, i64_w, i32_w]
  rfl
 refine last_ (i := 9) (N := none) #[true, true, true, true, true, true, true, true, true, true] rfl rfl (one_of HT_.out (by kernel_rfl)) (by decide) (fun K hK => ?_)
 have hs12 : w8.cell? ⟨gb109, 3, none⟩ = some (.slice A0_3 l0_3.length c0_3) := (blk_cell BK109.out 3).trans rfl
 have hfs12 := blk_frozen BK109.out 3
 have hns12_1 := NB110_109.out
 have hms12_1 := NB109_110.out
 refine skip_ (w1 := ?_) (by rfl) rfl ?_ ?_
 rotate_left
 ·go_simp
  rfl
 refine hK.out _ _ ?_
 clear hK K
 refine done_ (done_of HT_.out (by kernel_rfl)) ?_
 have hnb13 := NB109_110.out
 have hnc13 := NB110_109.out
 obtain ⟨hcz14_0, hcz14_1, hcz14_2, hcz14_3, hfz14_0, hfz14_1, hfz14_2, hfz14_3⟩ := bwZ4 BK109.out
 obtain ⟨hcz15_0, hcz15_1, hcz15_2, hcz15_3, hfz15_0, hfz15_1, hfz15_2, hfz15_3⟩ := bwZ4 BK110.out
 try go_wp2
 refine bodyPost_ret (results_cell_row rfl _ _ gb110 41 #[.int .i64 a0_0, .int .i64 a0_1, .slice Ao9 t111.length co9, .slice Ao11 t114.length co11] (0, 0) _ rfl (by (with_reducible repeat (first | refine blk_drewN ?_ _ | refine blk_drew ?_ | refine blk_alloc ?_ _)); refine blk_put (cs := #[.int .i64 a0_0, .int .i64 a0_1, .slice Ao9 t111.length co9, .slice none 0 0]) ?_ 3 _ rfl; (with_reducible repeat (first | refine blk_drewN ?_ _ | refine blk_drew ?_ | refine blk_alloc ?_ _)); refine blk_put (cs := #[.int .i64 a0_0, .int .i64 a0_1, .slice none 0 0, .slice none 0 0]) ?_ 2 _ rfl; (with_reducible repeat (first | refine blk_drewN ?_ _ | refine blk_drew ?_ | refine blk_alloc ?_ _)); refine blk_put (cs := #[.int .i64 a0_0, .int .i64 0, .slice none 0 0, .slice none 0 0]) ?_ 1 _ rfl; (with_reducible repeat (first | refine blk_drewN ?_ _ | refine blk_drew ?_ | refine blk_alloc ?_ _)); refine blk_put (cs := #[.int .i64 0, .int .i64 0, .slice none 0 0, .slice none 0 0]) ?_ 0 _ rfl; (with_reducible repeat (first | refine blk_drewN ?_ _ | refine blk_drew ?_ | refine blk_alloc ?_ _)); refine blk_far ?_ NB110_109.out _; (with_reducible repeat (first | refine blk_drewN ?_ _ | refine blk_drew ?_ | refine blk_alloc ?_ _)); refine blk_far ?_ NB110_109.out _; (with_reducible repeat (first | refine blk_drewN ?_ _ | refine blk_drew ?_ | refine blk_alloc ?_ _)); exact BK110.out) Try.underlying41 rfl (by kernel_rfl)) rfl ?_
 exact ⟨_, _, by first | rfl | (simp [errW_none, errW_some] <;> rfl) | (simp [*, errW_none, errW_some] <;> rfl), by (with_reducible repeat (first | apply Kd.R_alloc | apply Kd.R_drewN | apply Kd.R_drew)); exact Kd.R_mono (Kd.R_far (p := ⟨gb110, 3, none⟩) (Kd.R_far (p := ⟨gb110, 2, none⟩) (Kd.R_far (p := ⟨gb110, 1, none⟩) (Kd.R_far (p := ⟨gb110, 0, none⟩) (Kd.R_far (p := ⟨gb109, 3, none⟩) (Kd.R_far (p := ⟨gb109, 2, none⟩) (Kd.R_types (Kd.R_types HO113.out BK109.out (by decide)) BK110.out (by decide)) (fun _ hk => hk.1.2) (.slice Ao9 t111.length co9)) (fun _ hk => hk.1.2) (.slice Ao11 t114.length co11)) (fun _ hk => hk.2) (.int .i64 a0_0)) (fun _ hk => hk.2) (.int .i64 a0_1)) (fun _ hk => hk.2) (.slice Ao9 t111.length co9)) (fun _ hk => hk.2) (.slice Ao11 t114.length co11)) (fun _ hk => hk.1.1.2), by (with_reducible repeat (first | apply Kd.R_alloc | apply Kd.R_drewN | apply Kd.R_drew)); exact Kd.R_mono (Kd.R_far (p := ⟨gb110, 3, none⟩) (Kd.R_far (p := ⟨gb110, 2, none⟩) (Kd.R_far (p := ⟨gb110, 1, none⟩) (Kd.R_far (p := ⟨gb110, 0, none⟩) (Kd.R_far (p := ⟨gb109, 3, none⟩) (Kd.R_far (p := ⟨gb109, 2, none⟩) (Kd.R_types (Kd.R_types HO116.out BK109.out (by decide)) BK110.out (by decide)) (fun _ hk => hk.1.2) (.slice Ao9 t111.length co9)) (fun _ hk => hk.1.2) (.slice Ao11 t114.length co11)) (fun _ hk => hk.2) (.int .i64 a0_0)) (fun _ hk => hk.2) (.int .i64 a0_1)) (fun _ hk => hk.2) (.slice Ao9 t111.length co9)) (fun _ hk => hk.2) (.slice Ao11 t114.length co11)) (fun _ hk => hk.1.1.2), by repeat (first | (with_reducible first | exact HB.out | apply below_alloc | apply pw_below_drewN | apply below_drew1 | refine below_set ?_ GE109.out | refine below_set ?_ GE110.out) | exact HB.out)⟩

/-! ### impl_shifted: function 65 -/
def impl_shifted.l0 : Nat → List Int → Int → List Int → Int → Int → Option (List Int)
 | 0, _, _, _, _, _ => none
 | k + 1, x0, x1, x5, x11, x12 => if x12 < x11 then (if x12 ≥ x1 then (if 0 ≤ (wrap64 (x12 - x1)) then (if (wrap64 (x12 - x1)) < (x0.length : Int) then (if 0 ≤ x12 then (if x12 < (x5.length : Int) then (impl_shifted.l0 k x0 x1 (x5.set (x12 : Int).toNat (rd x0 (wrap64 (x12 - x1)))) x11 (wrap64 (x12 + 1))) else (none)) else (none)) else (none)) else (none)) else (impl_shifted.l0 k x0 x1 x5 x11 (wrap64 (x12 + 1)))) else (some x5)
def impl_shifted.f (k : Nat) (l0 : List Int) (a1 : Int) : Option (List Int) := if 0 ≤ (l0.length : Int) then (if ((l0.length : Int) : Int).toNat ≤ 35184372088832 then (impl_shifted.l0 k l0 a1 (List.replicate ((l0.length : Int) : Int).toNat 0) (l0.length : Int) 0) else (none)) else (none)
theorem impl_shifted.mono_l : ∀ k, (∀ y0 y1 y2 y3 y4, LeO (impl_shifted.l0 k y0 y1 y2 y3 y4) (impl_shifted.l0 (k + 1) y0 y1 y2 y3 y4))
 | 0 => fun _ _ _ _ _ r h => by simp [impl_shifted.l0] at h
 | k + 1 => by
  have ih0 := impl_shifted.mono_l k
  ·intro y0 y1 y2 y3 y4
   unfold impl_shifted.l0
   repeat' first
   | (with_reducible exact ih0 _ _ _ _ _)
   | (with_reducible exact LeO.refl _)
   | (with_reducible exact LeO.none _)
   | (with_reducible refine LeO.ite ?_ ?_)
   | (with_reducible refine LeO.bind ?_ (fun _ => ?_))
   | exact ih0 _ _ _ _ _
   | exact LeO.none _
   | refine LeO.ite ?_ ?_
   | refine LeO.bind ?_ (fun _ => ?_)
theorem impl_shifted.mono : ∀ a0 a1 k, LeO (impl_shifted.f k a0 a1) (impl_shifted.f (k + 1) a0 a1) := by
 intro a0 a1 k
 have ih0 := impl_shifted.mono_l k
 unfold impl_shifted.f
 repeat' first
   | (with_reducible exact ih0 _ _ _ _ _)
   | (with_reducible exact LeO.refl _)
   | (with_reducible exact LeO.none _)
   | (with_reducible refine LeO.ite ?_ ?_)
   | (with_reducible refine LeO.bind ?_ (fun _ => ?_))
   | exact ih0 _ _ _ _ _
   | exact LeO.none _
   | refine LeO.ite ?_ ?_
   | refine LeO.bind ?_ (fun _ => ?_)
set_option maxHeartbeats 8000000 in
set_option maxRecDepth 100000 in
theorem impl_shifted.calls (k : Nat) (A0 : Option Addr) (c0 : Nat) (l0 : List Int) (a1 : Int) (r : List Int) (w : World) (hr0 : Kd.C (Kd.int .i64) w A0 l0.length l0) (hc0 : l0.length ≤ c0) (h : impl_shifted.f k l0 a1 = some r) :
  Calls Try.prog 65 #[.slice A0 l0.length c0, .int .i64 a1] w fun e w' => ∃ v0_ : Value, e = .returned (v0_) ∧ Kd.R (Kd.int .i64) 3 w' w.heap.size (fun _ => True) v0_ r ∧ Below w.heap.size w w' := by
 have HR0 := Aside0.mk hr0
 have HC0 := Aside0.mk hc0
 clear hr0 hc0
 have HB := Aside0.mk (Below.refl w.heap.size w)
 have H : (if 0 ≤ (l0.length : Int) then (if ((l0.length : Int) : Int).toNat ≤ 35184372088832 then (impl_shifted.l0 k l0 a1 (List.replicate ((l0.length : Int) : Int).toNat 0) (l0.length : Int) 0) else (none)) else (none)) = some r := h
 clear h
 by_cases c3 : 0 ≤ (l0.length : Int)
 ·rw [if_pos c3] at H
  have c3b0 := eq_true c3
  have c3b1 : decide (0 ≤ (l0.length : Int)) = true := decide_eq_true c3
  clear c3
  by_cases c4 : ((l0.length : Int) : Int).toNat ≤ 35184372088832
  ·rw [if_pos c4] at H
   have c4b0 := eq_true c4
   have c4b1 : decide (((l0.length : Int) : Int).toNat ≤ 35184372088832) = true := decide_eq_true c4
   clear c4
   obtain ⟨y117, hy117⟩ : ∃ y_ : List Int, y_ = (List.replicate ((l0.length : Int) : Int).toNat 0) := ⟨_, rfl⟩
   replace H : (impl_shifted.l0 k l0 a1 y117 (l0.length : Int) 0) = some r := by first | (rw [hy117]; with_reducible exact H) | (have H2_ := (Option.bind_some _ _).symm.trans H; rw [hy117]; with_reducible exact H2_) | (have H2_ := (Option.bind_some _ _).symm.trans H; with_reducible exact H2_) | with_reducible exact H | (rw [hy117]; exact H) | exact H
   have Ny117 := Aside0.mk hy117
   clear hy117
   have H' := Aside0.mk H
   clear H
   go_enter Try.func65, Try.ntmps65
   go_wp2_with (first | ((with_reducible refine gate_dst (N := 9) rfl ?_); refine Kd.R_make (Kd.int .i64) _ 3 rfl (N := 9) rfl 30 _ _ rfl (l0.length : Int) rfl rfl Try.underlying30 (.int .i64 0) 8 info3 rfl (by decide) (by omega) 0 (ok := fun _ => True) (okp := fun _ => True) rfl (fun _ hk => hk) trivial (bwD) (Nat.le_trans (Nat.mul_le_mul_right _ (bwD : (l0.length : Int).toNat ≤ 35184372088832)) (by omega)) (Below.refl _ _) (Nat.le_refl _) ?_; intro v118 w5 ho6 hb hg_ hnew_; clear hg_ hnew_; (first | rw [← Ny117.out] at ho6 | (simp only [Int.reduceToNat] at ho6; rw [← Ny117.out] at ho6)); have n0_ := Aside0.mk (Kd.R_lower ho6 (below_size bwB)); have n1_ := Aside0.mk (below_step bwB hb); clear HB; have HO119 := n0_; have HB := n1_; clear n0_ n1_; clear hb ho6))
   go_loopg [12] k (fun kq v12 w' => ∃ (x5_1 : List Int) (x12_1 : Int), v12 = .int .i64 x12_1 ∧ Aside0 (impl_shifted.l0 kq l0 a1 x5_1 (l0.length : Int) x12_1 = some r) ∧ Aside0 (kq ≤ k) ∧ Aside0 (Kd.R (Kd.int .i64) 3 w' w.heap.size (fun _ => True) v118 x5_1) ∧ Aside0 (Below w.heap.size w w'))
   case atStart => exact ⟨(y117), (0), (by first | rfl | (simp; done) | (simp [*]; done)), H', ⟨Nat.le_refl _⟩, ⟨by (with_reducible repeat (first | apply Kd.R_alloc | apply Kd.R_drewN | apply Kd.R_drew)); exact HO119.out⟩, ⟨bwB⟩⟩
   case round =>
    clear H'
    try clear p2
    try clear c3
    try clear c3b0
    try clear c3b1
    try clear c4
    try clear c4b0
    try clear c4b1
    try clear c6
    obtain ⟨x5_1, x12_1, rfl, HA, HK1, HO_5, HB⟩ := hrel
    cases gk with
    | zero => exact absurd HA.out (by simp [impl_shifted.l0])
    | succ k1 =>
     have H := HA.out
     clear HA
     simp only [impl_shifted.l0] at H
     by_cases c7 : x12_1 < (l0.length : Int)
     ·rw [if_pos c7] at H
      have c7b0 : decide (x12_1 < (l0.length : Int)) = true := decide_eq_true c7
      clear c7
      by_cases c8 : x12_1 ≥ a1
      ·rw [if_pos c8] at H
       have c8b0 : decide (a1 ≤ x12_1) = true := decide_eq_true c8
       clear c8
       obtain ⟨ji9, hji9⟩ : ∃ j_ : Int, (wrap64 (x12_1 - a1)) = j_ := ⟨_, rfl⟩
       replace H : (if 0 ≤ (ji9) then (if (ji9) < (l0.length : Int) then (if 0 ≤ x12_1 then (if x12_1 < (x5_1.length : Int) then (impl_shifted.l0 k1 l0 a1 (x5_1.set (x12_1 : Int).toNat (rd l0 (ji9))) (l0.length : Int) (wrap64 (x12_1 + 1))) else (none)) else (none)) else (none)) else (none)) = some r := by first | (rw [hji9] at H; exact H) | (simp only [hji9] at H ⊢; exact H)
       have hji9w : (IntKind.i64.wrap (x12_1 - a1)) = ji9 := (i64_w _).trans hji9
       by_cases c10 : 0 ≤ (ji9)
       ·rw [if_pos c10] at H
        have c10b0 : decide (0 ≤ (ji9)) = true := decide_eq_true c10
        clear c10
        by_cases c11 : (ji9) < (l0.length : Int)
        ·rw [if_pos c11] at H
         have c11b0 : decide ((ji9) < (l0.length : Int)) = true := decide_eq_true c11
         clear c11
         by_cases c12 : 0 ≤ x12_1
         ·rw [if_pos c12] at H
          have c12b0 : decide (0 ≤ x12_1) = true := decide_eq_true c12
          clear c12
          by_cases c13 : x12_1 < (x5_1.length : Int)
          ·rw [if_pos c13] at H
           have c13b0 : decide (x12_1 < (x5_1.length : Int)) = true := decide_eq_true c13
           clear c13
           obtain ⟨y121, hy121⟩ : ∃ y_ : List Int, y_ = (x5_1.set (x12_1 : Int).toNat (rd l0 (ji9))) := ⟨_, rfl⟩
           replace H : (impl_shifted.l0 k1 l0 a1 y121 (l0.length : Int) (wrap64 (x12_1 + 1))) = some r := by first | (rw [hy121]; with_reducible exact H) | (have H2_ := (Option.bind_some _ _).symm.trans H; rw [hy121]; with_reducible exact H2_) | (have H2_ := (Option.bind_some _ _).symm.trans H; with_reducible exact H2_) | with_reducible exact H | (rw [hy121]; exact H) | exact H
           have Ny121 := Aside0.mk hy121
           clear hy121
           have H' := Aside0.mk H
           clear H
           have p120 : 0 ≤ ((ji9) : Int) := bwD
           have q120 : (ji9) < (l0.length : Int) := bwD
           obtain ⟨ad120, e120, hx120_0⟩ := Kd.at_int HR0.out (ji9) p120 q120
           cases e120
           replace hx120_0 := (HB.out.cell (World.block_lt_of_cell? w _ hx120_0)).trans hx120_0
           replace p120 := eq_true p120
           replace q120 := eq_true q120
           have p14 : 0 ≤ (x12_1 : Int) := bwD
           have q14 : (x12_1 : Int) < ((x5_1.length : Int) : Int) := bwD
           obtain ⟨go14, co14, eo14, gb14, gl14, cl14, HG14⟩ := Kd.R_form HO_5.out (by omega)
           (first | cases eo14 | (injection eo14 with ea_ en_ ec_; (first | subst ea_ | (injection ea_ with ea_; subst ea_)); subst ec_; clear en_))
           have GB14 := Aside0.mk gb14
           have GG14 := Aside0.mk HG14
           clear gb14 gl14 HG14
           obtain ⟨hx14_0, hf14_0⟩ := Kd.R_celln 0 HO_5.out (x12_1 : Int) p14 q14
           replace p14 := eq_true p14
           replace q14 := eq_true q14
           have HP15 := Kd.R_putg HO_5.out (x12_1 : Int) (rd l0 (ji9))
           go_wp2_with (first | ((with_reducible refine gate_store (t := 3) (p := 26) rfl ?_); refine store_event (t := 3) (p := 26) (v := ?vo_w16) (w1 := (wr.setCell ⟨go14, (x12_1 : Int).toNat, none⟩ (.int .i64 (rd l0 (ji9))))) ?hg ?ho ?hn ?hr ?_; (case ho => rfl); (case hg => rfl); (case hn => rfl); (case hr => first | (go_simp; done) | (go_simp; rfl)); intro w16 hw; have hg : wr.grownBy w16 (some go14) := (by rw [hw]; exact HP15.2); have hp_ : Kd.R (Kd.int .i64) 3 w16 w.heap.size (fun _ => True) (.slice (some ⟨go14, 0, none⟩) x5_1.length co14) y121 := (by rw [hw, Ny121.out]; exact HP15.1); clear HP15; have n0_ := Aside0.mk (hp_); have n1_ := Aside0.mk ((by rw [hw]; exact below_set (HB.out) GB14.out : Below w.heap.size w w16)); clear HO_5; clear HB; have HO_5 := n0_; have HB := n1_; clear n0_ n1_; clear hg hw hp_))
           go_roundg k1
           case measure => have := HK1.out; omega
           case rel => exact ⟨(y121), (wrap64 (x12_1 + 1)), (by first | rfl | (simp; done) | (simp [*]; done)), H', ⟨by have := HK1.out; omega⟩, ⟨by (with_reducible repeat (first | apply Kd.R_alloc | apply Kd.R_drewN | apply Kd.R_drew)); exact HO_5.out⟩, ⟨bwB⟩⟩
          ·rw [if_neg c13] at H
           exact absurd H (by simp)
         ·rw [if_neg c12] at H
          exact absurd H (by simp)
        ·rw [if_neg c11] at H
         exact absurd H (by simp)
       ·rw [if_neg c10] at H
        exact absurd H (by simp)
      ·rw [if_neg c8] at H
       have c8b0 : decide (a1 ≤ x12_1) = false := decide_eq_false c8
       clear c8
       have H' := Aside0.mk H
       clear H
       go_wp2
       go_roundg k1
       case measure => have := HK1.out; omega
       case rel => exact ⟨(x5_1), (wrap64 (x12_1 + 1)), (by first | rfl | (simp; done) | (simp [*]; done)), H', ⟨by have := HK1.out; omega⟩, ⟨by (with_reducible repeat (first | apply Kd.R_alloc | apply Kd.R_drewN | apply Kd.R_drew)); exact HO_5.out⟩, ⟨bwB⟩⟩
     ·rw [if_neg c7] at H
      have c7b0 : decide (x12_1 < (l0.length : Int)) = false := decide_eq_false c7
      clear c7
      obtain rfl := Option.some.inj H
      go_wp2
      go_ret
      exact ⟨_, by first | rfl | (simp [errW_none, errW_some] <;> rfl) | (simp [*, errW_none, errW_some] <;> rfl), by (with_reducible repeat (first | apply Kd.R_alloc | apply Kd.R_drewN | apply Kd.R_drew)); exact HO_5.out, by repeat (first | (with_reducible first | exact HB.out | apply below_alloc | apply pw_below_drewN | apply below_drew1) | exact HB.out)⟩
  ·rw [if_neg c4] at H
   exact absurd H (by simp)
 ·rw [if_neg c3] at H
  exact absurd H (by simp)

end Go.Proofs.Ytbhcahiafibhfaa.RN
