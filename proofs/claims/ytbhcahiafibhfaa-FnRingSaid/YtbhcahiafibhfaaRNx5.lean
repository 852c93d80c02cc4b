-- Written by the session's own program myprint.py (the kit's print, with functions told by hand). Lean checks it.
import Derived.Test.YtbhcahiafibhfaaRNx0
import Derived.Test.YtbhcahiafibhfaaRNx1
import Derived.Test.YtbhcahiafibhfaaRNx2
import Derived.Test.YtbhcahiafibhfaaRNx3
namespace Go.Proofs.Ytbhcahiafibhfaa.RN
open Go.RowKit Go.Proofs.YtbhcahiafibhfaaW.PrintWords Go.Proofs.YtbhcahiafibhfaaW.PrintLast Go.Proofs.YtbhcahiafibhfaaW.PrintMore
attribute [local go_sem] max2_int min2_int max_two min_two max_three min_three max_four min_four   -- for this text's walks alone
set_option linter.unusedVariables false
set_option linter.unusedSimpArgs false

/-! ### impl_RingAdd: function 34 -/
def impl_RingAdd.j0 : Nat → Int → Int → Bool → Int → Int → List Int → List Int → Option (Int × Int × List Int × List Int)
 | 0, _, _, _, _, _, _, _ => none
 | k + 1, x1, x2, x20, x227000, x227001, x227002, x227003 => if x20 = true then ((impl_Ring_copied.f x227000 x227001 x227002 x227003).bind fun bt231 => (some (bt231.1, bt231.2.1, bt231.2.2.1, bt231.2.2.2))) else ((impl_RingRoll.f k x227000 x227001 x227002 x227003 x1).bind fun bt239 => (if 0 < (bt239.2.2.1.length : Int) then ((impl_AddSat.f (rd bt239.2.2.1 0) 1).bind fun t249 => (if 0 < (bt239.2.2.2.length : Int) then ((impl_AddSat.f (rd bt239.2.2.2 0) x2).bind fun t252 => (some (bt239.1, bt239.2.1, (bt239.2.2.1.set (0 : Int).toNat t249), (bt239.2.2.2.set (0 : Int).toNat t252)))) else (none))) else (none)))
def impl_RingAdd.f (k : Nat) (a0_0 : Int) (a0_1 : Int) (l0_2 : List Int) (l0_3 : List Int) (a1 : Int) (a2 : Int) : Option (Int × Int × List Int × List Int) := (impl_RingOk.f a0_0 a0_1 l0_2 l0_3).bind fun t228 => (if t228 = true then ((impl_isTime.f a1).bind fun t229 => (if t229 = true then ((impl_isMoney.f a2).bind fun t230 => (impl_RingAdd.j0 k a1 a2 (!t230) a0_0 a0_1 l0_2 l0_3)) else (impl_RingAdd.j0 k a1 a2 true a0_0 a0_1 l0_2 l0_3))) else (impl_RingAdd.j0 k a1 a2 true a0_0 a0_1 l0_2 l0_3))
theorem impl_RingAdd.mono_l : ∀ k, (∀ y0 y1 y2 y3 y4 y5 y6, LeO (impl_RingAdd.j0 k y0 y1 y2 y3 y4 y5 y6) (impl_RingAdd.j0 (k + 1) y0 y1 y2 y3 y4 y5 y6))
 | 0 => fun _ _ _ _ _ _ _ r h => by simp [impl_RingAdd.j0] at h
 | k + 1 => by
  have ih0 := impl_RingAdd.mono_l k
  ·intro y0 y1 y2 y3 y4 y5 y6
   unfold impl_RingAdd.j0
   repeat' first
   | (with_reducible exact ih0 _ _ _ _ _ _ _)
   | (with_reducible exact impl_RingRoll.mono _ _ _ _ _ _)
   | (with_reducible exact LeO.refl _)
   | (with_reducible exact LeO.none _)
   | (with_reducible refine LeO.ite ?_ ?_)
   | (with_reducible refine LeO.bind ?_ (fun _ => ?_))
   | exact ih0 _ _ _ _ _ _ _
   | exact impl_RingRoll.mono _ _ _ _ _ _
   | exact LeO.none _
   | refine LeO.ite ?_ ?_
   | refine LeO.bind ?_ (fun _ => ?_)
theorem impl_RingAdd.mono : ∀ a0 a1 a2 a3 a4 a5 k, LeO (impl_RingAdd.f k a0 a1 a2 a3 a4 a5) (impl_RingAdd.f (k + 1) a0 a1 a2 a3 a4 a5) := by
 intro a0 a1 a2 a3 a4 a5 k
 have ih0 := impl_RingAdd.mono_l k
 unfold impl_RingAdd.f
 repeat' first
   | (with_reducible exact ih0 _ _ _ _ _ _ _)
   | (with_reducible exact impl_RingRoll.mono _ _ _ _ _ _)
   | (with_reducible exact LeO.refl _)
   | (with_reducible exact LeO.none _)
   | (with_reducible refine LeO.ite ?_ ?_)
   | (with_reducible refine LeO.bind ?_ (fun _ => ?_))
   | exact ih0 _ _ _ _ _ _ _
   | exact impl_RingRoll.mono _ _ _ _ _ _
   | exact LeO.none _
   | refine LeO.ite ?_ ?_
   | refine LeO.bind ?_ (fun _ => ?_)
def impl_RingAdd.TR : Bool × List (List Nat × List Nat) := (true, [([], []), ([0], [0]), ([], []), ([2], [2]), ([], []), ([4], [4]), ([5], [5]), ([6], [6]), ([7], [7]), ([], []), ([9], [9]), ([10], [10]), ([11], [11]), ([], []), ([12, 13, 8], [12, 13]), ([1, 0, 1, 4, 5, 6, 7, 8, 12, 14], [1]), ([15, 8, 14, 0, 1, 4, 5, 6, 7, 8, 12, 14], [8, 15]), ([3, 0, 1, 2, 3, 4, 5, 6, 7, 8, 9, 10, 11, 12, 13, 14, 15, 16], [3]), ([17, 14, 16, 0, 1, 2, 3, 4, 5, 6, 7, 8, 9, 10, 11, 12, 13, 14, 15, 16], [14, 17])])
def impl_RingAdd.BR : List Nat := [0, 1, 0, 4, 0, 16, 48, 112, 240, 0, 512, 1536, 3584, 0, 16368, 32755, 65523, 131071, 262143]
theorem impl_RingAdd.tabR : rtab .any (opsOf Try.f34 4) = impl_RingAdd.TR := by kernel_rfl
theorem impl_RingAdd.bitsR : waitsOk impl_RingAdd.TR.2 impl_RingAdd.BR = true := by kernel_rfl
set_option maxHeartbeats 8000000 in
set_option maxRecDepth 100000 in
theorem impl_RingAdd.calls (k : Nat) (a0_0 : Int) (a0_1 : Int) (A0_2 : Option Addr) (c0_2 : Nat) (l0_2 : List Int) (A0_3 : Option Addr) (c0_3 : Nat) (l0_3 : List Int) (a1 : Int) (a2 : Int) (r1 : Int) (r2 : Int) (r3 : List Int) (r4 : List Int) (w : World) (hr0_2 : Kd.C (Kd.int .i64) w A0_2 l0_2.length l0_2) (hc0_2 : l0_2.length ≤ c0_2) (hr0_3 : Kd.C (Kd.int .i64) w A0_3 l0_3.length l0_3) (hc0_3 : l0_3.length ≤ c0_3) (h : impl_RingAdd.f k a0_0 a0_1 l0_2 l0_3 a1 a2 = some (r1, r2, r3, r4)) :
  Calls Try.prog 34 #[.agg #[.int .i64 a0_0, .int .i64 a0_1, .slice A0_2 l0_2.length c0_2, .slice A0_3 l0_3.length c0_3], .int .i64 a1, .int .i64 a2] w fun e w' => ∃ v2_ v3_ : Value, e = .returned (.agg #[.int .i64 r1, .int .i64 r2, v2_, v3_]) ∧ Kd.R (Kd.int .i64) 3 w' w.heap.size (fun k_ => some k_ ≠ (v3_ : Value).ownBlock) v2_ r3 ∧ Kd.R (Kd.int .i64) 3 w' w.heap.size (fun k_ => some k_ ≠ (v2_ : Value).ownBlock) v3_ r4 ∧ Below w.heap.size w w' := by
 have hu41 := Try.underlying41
 have HR0_2 := Aside0.mk hr0_2
 have HC0_2 := Aside0.mk hc0_2
 clear hr0_2 hc0_2
 have HR0_3 := Aside0.mk hr0_3
 have HC0_3 := Aside0.mk hc0_3
 clear hr0_3 hc0_3
 have HB := Aside0.mk (Below.refl w.heap.size w)
 have H : ((impl_RingOk.f a0_0 a0_1 l0_2 l0_3).bind fun t176 => (if t176 = true then ((impl_isTime.f a1).bind fun t177 => (if t177 = true then ((impl_isMoney.f a2).bind fun t178 => (impl_RingAdd.j0 k a1 a2 (!t178) a0_0 a0_1 l0_2 l0_3)) else (impl_RingAdd.j0 k a1 a2 true a0_0 a0_1 l0_2 l0_3))) else (impl_RingAdd.j0 k a1 a2 true a0_0 a0_1 l0_2 l0_3))) = some (r1, r2, r3, r4) := h
 clear h
 have HC4 := Aside0.mk H
 clear H
 go_enter Try.func34, Try.ntmps34
 go_upto_region 1 with (first | ((with_reducible refine gate_dst (N := 3) rfl ?_); refine box_event ?hg (N := 3) ?hd (cs := #[.int .i64 a0_0, .int .i64 a0_1, .slice A0_2 l0_2.length c0_2, .slice A0_3 l0_3.length c0_3]) (t := 41) ?hr ?_; (case hd => rfl); (case hg => rfl); (case hr => first | (go_simp; done) | (go_simp; rfl)); intro gb174 hg w5 hbox hb; have n0_ := Aside0.mk (below_step bwB hb); have n1_ := Aside0.mk (hbox); have n2_ := Aside0.mk ((by rw [hg]; exact (below_size bwB) : w.heap.size ≤ gb174)); have n3_ := Aside0.mk ((by rw [hg]; exact (below_size bwB) : w.heap.size ≤ gb174)); clear HB; have HB := n0_; have BK174 := n1_; have GW174 := n2_; have GE174 := n3_; clear n0_ n1_ n2_ n3_; clear hb hbox hg) | ((with_reducible refine gate_dst (N := 6) rfl ?_); refine box_event ?hg (N := 6) ?hd (cs := #[.int .i64 0, .int .i64 0, .slice none 0 0, .slice none 0 0]) (t := 41) ?hr ?_; (case hd => rfl); (case hg => rfl); (case hr => first | (go_simp; done) | (go_simp; rfl)); intro gb175 hg w6 hbox hb; have n0_ := Aside0.mk (blk_below (g := gb174) (o := .cells #[.int .i64 a0_0, .int .i64 a0_1, .slice A0_2 l0_2.length c0_2, .slice A0_3 l0_3.length c0_3] 41 (0, 0)) (bwK BK174.out) hb); have n1_ := Aside0.mk (below_step bwB hb); have n2_ := Aside0.mk (hbox); have n3_ := Aside0.mk ((by rw [hg]; exact (below_size bwB) : w.heap.size ≤ gb175)); have n4_ := Aside0.mk ((by rw [hg]; exact (below_size bwB) : w.heap.size ≤ gb175)); have n5_ := Aside0.mk ((by rw [hg]; exact Nat.ne_of_lt (blk_lt (g := gb174) (o := .cells #[.int .i64 a0_0, .int .i64 a0_1, .slice A0_2 l0_2.length c0_2, .slice A0_3 l0_3.length c0_3] 41 (0, 0)) (bwK BK174.out)) : gb174 ≠ gb175)); have n6_ := Aside0.mk ((by rw [hg]; exact Nat.ne_of_gt (blk_lt (g := gb174) (o := .cells #[.int .i64 a0_0, .int .i64 a0_1, .slice A0_2 l0_2.length c0_2, .slice A0_3 l0_3.length c0_3] 41 (0, 0)) (bwK BK174.out)) : gb175 ≠ gb174)); clear BK174; clear HB; have BK174 := n0_; have HB := n1_; have BK175 := n2_; have GW175 := n3_; have GE175 := n4_; have NB174_175 := n5_; have NB175_174 := n6_; clear n0_ n1_ n2_ n3_ n4_ n5_ n6_; clear hb hbox hg))
 (try simp only [Act.put, List.setIfInBounds_toArray, List.set_cons_zero, List.set_cons_succ])
 go_cut [20] (fun v20 wc => ∃ (kq : Nat) (x20_3 : Bool), v20 = .bool x20_3 ∧ Aside0 (impl_RingAdd.j0 kq a1 a2 x20_3 a0_0 a0_1 l0_2 l0_3 = some (r1, r2, r3, r4)) ∧ Aside0 (kq ≤ k) ∧ Aside0 (wc.heap[gb174]? = some (.cells #[.int .i64 a0_0, .int .i64 a0_1, (.slice A0_2 l0_2.length c0_2), (.slice A0_3 l0_3.length c0_3)] 41 (0, 0))) ∧ Aside0 (wc.heap[gb175]? = some (.cells #[.int .i64 0, .int .i64 0, (.slice none 0 0), (.slice none 0 0)] 41 (0, 0))) ∧ Aside0 (Below w.heap.size w wc))
 case first =>
  have H := HC4.out
  clear HC4
  replace H := Option.bind_eq_some_iff.mp H
  obtain ⟨t176, A70, H⟩ := H
  replace H : (if t176 = true then ((impl_isTime.f a1).bind fun t177 => (if t177 = true then ((impl_isMoney.f a2).bind fun t178 => (impl_RingAdd.j0 k a1 a2 (!t178) a0_0 a0_1 l0_2 l0_3)) else (impl_RingAdd.j0 k a1 a2 true a0_0 a0_1 l0_2 l0_3))) else (impl_RingAdd.j0 k a1 a2 true a0_0 a0_1 l0_2 l0_3)) = some (r1, r2, r3, r4) := H
  have A7 := Aside0.mk A70
  clear A70
  by_cases c8 : t176 = true
  ·subst c8
   have H1 : ((impl_isTime.f a1).bind fun t177 => (if t177 = true then ((impl_isMoney.f a2).bind fun t178 => (impl_RingAdd.j0 k a1 a2 (!t178) a0_0 a0_1 l0_2 l0_3)) else (impl_RingAdd.j0 k a1 a2 true a0_0 a0_1 l0_2 l0_3))) = some (r1, r2, r3, r4) := by rw [if_pos rfl] at H; exact H
   clear H
   have H := H1
   clear H1
   replace H := Option.bind_eq_some_iff.mp H
   obtain ⟨t177, A90, H⟩ := H
   replace H : (if t177 = true then ((impl_isMoney.f a2).bind fun t178 => (impl_RingAdd.j0 k a1 a2 (!t178) a0_0 a0_1 l0_2 l0_3)) else (impl_RingAdd.j0 k a1 a2 true a0_0 a0_1 l0_2 l0_3)) = some (r1, r2, r3, r4) := H
   have A9 := Aside0.mk A90
   clear A90
   by_cases c10 : t177 = true
   ·subst c10
    have H1 : ((impl_isMoney.f a2).bind fun t178 => (impl_RingAdd.j0 k a1 a2 (!t178) a0_0 a0_1 l0_2 l0_3)) = some (r1, r2, r3, r4) := by rw [if_pos rfl] at H; exact H
    clear H
    have H := H1
    clear H1
    replace H := Option.bind_eq_some_iff.mp H
    obtain ⟨t178, A110, H⟩ := H
    replace H : (impl_RingAdd.j0 k a1 a2 (!t178) a0_0 a0_1 l0_2 l0_3) = some (r1, r2, r3, r4) := H
    have A11 := Aside0.mk A110
    clear A110
    have H' := Aside0.mk H
    clear H
    have hnb12 := NB174_175.out
    have hnc12 := NB175_174.out
    obtain ⟨hcz13_0, hcz13_1, hcz13_2, hcz13_3, hfz13_0, hfz13_1, hfz13_2, hfz13_3⟩ := bwZ4 BK174.out
    go_wp2_with (first | ((with_reducible refine gate_callee (f := 36) rfl ?_); refine goesL_ (some 9) rfl rfl Try.func36 (by kernel_rfl) rfl #[.agg #[.int .i64 a0_0, .int .i64 a0_1, .slice A0_2 l0_2.length c0_2, .slice A0_3 l0_3.length c0_3]] rfl bwA ?_; (with_reducible refine (impl_RingOk.calls a0_0 a0_1 _ _ l0_2 _ _ l0_3 true _ ?side1 ?side2 ?side3 ?side4 A7.out).mono ?_); (case side1 => exact bwC (Kd.C_below HR0_2.out HB.out)); (case side2 => exact HC0_2.out); (case side3 => exact bwC (Kd.C_below HR0_3.out HB.out)); (case side4 => exact HC0_3.out); rintro e w14 ⟨rfl, hb⟩; refine ⟨_, rfl, ?_⟩; have n0_ := Aside0.mk (blk_below (g := gb174) (o := .cells #[.int .i64 a0_0, .int .i64 a0_1, .slice A0_2 l0_2.length c0_2, .slice A0_3 l0_3.length c0_3] 41 (0, 0)) (bwK BK174.out) hb); have n1_ := Aside0.mk (blk_below (g := gb175) (o := .cells #[.int .i64 0, .int .i64 0, .slice none 0 0, .slice none 0 0] 41 (0, 0)) (bwK BK175.out) hb); have n2_ := Aside0.mk (below_step bwB hb); clear BK174; clear BK175; clear HB; have BK174 := n0_; have BK175 := n1_; have HB := n2_; clear n0_ n1_ n2_; (try clear hb); (try clear hb2); (try clear hk); (try clear hi)) | (go_at_call 48; (with_reducible refine (impl_isTime.calls a1 true _ A9.out).mono ?_); rintro e w' ⟨rfl, ⟨nd, rfl⟩⟩) | (go_at_call 73; (with_reducible refine (impl_isMoney.calls a2 t178 _ A11.out).mono ?_); rintro e w' ⟨rfl, ⟨nd, rfl⟩⟩))
    go_meet
    case rel => exact ⟨_, (!t178), (by first | rfl | (simp; done) | (simp [*]; done)), H', ⟨by first | omega | exact Nat.le_refl _⟩, ⟨bwK BK174.out⟩, ⟨bwK BK175.out⟩, ⟨bwB⟩⟩
   ·replace c10 := Bool.eq_false_iff.mpr c10
    subst c10
    have H1 : (impl_RingAdd.j0 k a1 a2 true a0_0 a0_1 l0_2 l0_3) = some (r1, r2, r3, r4) := by rw [if_neg (show ¬ (false = true) by decide)] at H; exact H
    clear H
    have H := H1
    clear H1
    have H' := Aside0.mk H
    clear H
    have hnb15 := NB174_175.out
    have hnc15 := NB175_174.out
    obtain ⟨hcz16_0, hcz16_1, hcz16_2, hcz16_3, hfz16_0, hfz16_1, hfz16_2, hfz16_3⟩ := bwZ4 BK174.out
    go_wp2_with (first | ((with_reducible refine gate_callee (f := 36) rfl ?_); refine goesL_ (some 9) rfl rfl Try.func36 (by kernel_rfl) rfl #[.agg #[.int .i64 a0_0, .int .i64 a0_1, .slice A0_2 l0_2.length c0_2, .slice A0_3 l0_3.length c0_3]] rfl bwA ?_; (with_reducible refine (impl_RingOk.calls a0_0 a0_1 _ _ l0_2 _ _ l0_3 true _ ?side1 ?side2 ?side3 ?side4 A7.out).mono ?_); (case side1 => exact bwC (Kd.C_below HR0_2.out HB.out)); (case side2 => exact HC0_2.out); (case side3 => exact bwC (Kd.C_below HR0_3.out HB.out)); (case side4 => exact HC0_3.out); rintro e w17 ⟨rfl, hb⟩; refine ⟨_, rfl, ?_⟩; have n0_ := Aside0.mk (blk_below (g := gb174) (o := .cells #[.int .i64 a0_0, .int .i64 a0_1, .slice A0_2 l0_2.length c0_2, .slice A0_3 l0_3.length c0_3] 41 (0, 0)) (bwK BK174.out) hb); have n1_ := Aside0.mk (blk_below (g := gb175) (o := .cells #[.int .i64 0, .int .i64 0, .slice none 0 0, .slice none 0 0] 41 (0, 0)) (bwK BK175.out) hb); have n2_ := Aside0.mk (below_step bwB hb); clear BK174; clear BK175; clear HB; have BK174 := n0_; have BK175 := n1_; have HB := n2_; clear n0_ n1_ n2_; (try clear hb); (try clear hb2); (try clear hk); (try clear hi)) | (go_at_call 48; (with_reducible refine (impl_isTime.calls a1 false _ A9.out).mono ?_); rintro e w' ⟨rfl, ⟨nd, rfl⟩⟩))
    go_meet
    case rel => exact ⟨_, (true), (by first | rfl | (simp; done) | (simp [*]; done)), H', ⟨by first | omega | exact Nat.le_refl _⟩, ⟨bwK BK174.out⟩, ⟨bwK BK175.out⟩, ⟨bwB⟩⟩
  ·replace c8 := Bool.eq_false_iff.mpr c8
   subst c8
   have H1 : (impl_RingAdd.j0 k a1 a2 true a0_0 a0_1 l0_2 l0_3) = some (r1, r2, r3, r4) := by rw [if_neg (show ¬ (false = true) by decide)] at H; exact H
   clear H
   have H := H1
   clear H1
   have H' := Aside0.mk H
   clear H
   have hnb18 := NB174_175.out
   have hnc18 := NB175_174.out
   obtain ⟨hcz19_0, hcz19_1, hcz19_2, hcz19_3, hfz19_0, hfz19_1, hfz19_2, hfz19_3⟩ := bwZ4 BK174.out
   go_wp2_with (first | ((with_reducible refine gate_callee (f := 36) rfl ?_); refine goesL_ (some 9) rfl rfl Try.func36 (by kernel_rfl) rfl #[.agg #[.int .i64 a0_0, .int .i64 a0_1, .slice A0_2 l0_2.length c0_2, .slice A0_3 l0_3.length c0_3]] rfl bwA ?_; (with_reducible refine (impl_RingOk.calls a0_0 a0_1 _ _ l0_2 _ _ l0_3 false _ ?side1 ?side2 ?side3 ?side4 A7.out).mono ?_); (case side1 => exact bwC (Kd.C_below HR0_2.out HB.out)); (case side2 => exact HC0_2.out); (case side3 => exact bwC (Kd.C_below HR0_3.out HB.out)); (case side4 => exact HC0_3.out); rintro e w20 ⟨rfl, hb⟩; refine ⟨_, rfl, ?_⟩; have n0_ := Aside0.mk (blk_below (g := gb174) (o := .cells #[.int .i64 a0_0, .int .i64 a0_1, .slice A0_2 l0_2.length c0_2, .slice A0_3 l0_3.length c0_3] 41 (0, 0)) (bwK BK174.out) hb); have n1_ := Aside0.mk (blk_below (g := gb175) (o := .cells #[.int .i64 0, .int .i64 0, .slice none 0 0, .slice none 0 0] 41 (0, 0)) (bwK BK175.out) hb); have n2_ := Aside0.mk (below_step bwB hb); clear BK174; clear BK175; clear HB; have BK174 := n0_; have BK175 := n1_; have HB := n2_; clear n0_ n1_ n2_; (try clear hb); (try clear hb2); (try clear hk); (try clear hi)))
   go_meet
   case rel => exact ⟨_, (true), (by first | rfl | (simp; done) | (simp [*]; done)), H', ⟨by first | omega | exact Nat.le_refl _⟩, ⟨bwK BK174.out⟩, ⟨bwK BK175.out⟩, ⟨bwB⟩⟩
 case rest =>
  clear HC4
  try clear c1
  try clear p2
  try clear c3
  try clear c8
  try clear c10
  try clear c12
  try clear c15
  try clear c18
  try clear hcz13_0
  try clear hcz13_1
  try clear hcz13_2
  try clear hcz13_3
  try clear hcz16_0
  try clear hcz16_1
  try clear hcz16_2
  try clear hcz16_3
  try clear hcz19_0
  try clear hcz19_1
  try clear hcz19_2
  try clear hcz19_3
  try clear hfz13_0
  try clear hfz13_1
  try clear hfz13_2
  try clear hfz13_3
  try clear hfz16_0
  try clear hfz16_1
  try clear hfz16_2
  try clear hfz16_3
  try clear hfz19_0
  try clear hfz19_1
  try clear hfz19_2
  try clear hfz19_3
  obtain ⟨kq, x20_3, rfl, HA, HJ3, BK174, BK175, HB⟩ := hcut
  cases kq with
  | zero => exact absurd HA.out (by simp [impl_RingAdd.j0])
  | succ kj3 =>
   have H := HA.out
   clear HA
   simp only [impl_RingAdd.j0] at H
   by_cases c21 : x20_3 = true
   ·subst c21
    have H1 : ((impl_Ring_copied.f a0_0 a0_1 l0_2 l0_3).bind fun bt179 => (some (bt179.1, bt179.2.1, bt179.2.2.1, bt179.2.2.2))) = some (r1, r2, r3, r4) := by rw [if_pos rfl] at H; exact H
    clear H
    have H := H1
    clear H1
    replace H := Option.bind_eq_some_iff.mp H
    obtain ⟨⟨t179, t180, t181, t184⟩, A220, H⟩ := H
    replace H : (some (t179, t180, t181, t184)) = some (r1, r2, r3, r4) := H
    have A22 := Aside0.mk A220
    clear A220
    simp only [Option.some.injEq, Prod.mk.injEq] at H
    obtain ⟨rfl, rfl, rfl, rfl⟩ := H
    have hnb23 := NB174_175.out
    have hnc23 := NB175_174.out
    obtain ⟨hcz24_0, hcz24_1, hcz24_2, hcz24_3, hfz24_0, hfz24_1, hfz24_2, hfz24_3⟩ := bwZ4 BK174.out
    go_wp2_with (first | ((with_reducible refine gate_callee (f := 64) rfl ?_); refine goesL_ (some 22) rfl rfl Try.func64 (by kernel_rfl) rfl #[.agg #[.int .i64 a0_0, .int .i64 a0_1, .slice A0_2 l0_2.length c0_2, .slice A0_3 l0_3.length c0_3]] rfl bwA ?_; (with_reducible refine (impl_Ring_copied.calls a0_0 a0_1 _ _ l0_2 _ _ l0_3 t179 t180 t181 t184 _ ?side1 ?side2 ?side3 ?side4 A22.out).mono ?_); (case side1 => exact bwC (Kd.C_below HR0_2.out HB.out)); (case side2 => exact HC0_2.out); (case side3 => exact bwC (Kd.C_below HR0_3.out HB.out)); (case side4 => exact HC0_3.out); rintro e w25 ⟨v182, v185, rfl, ho0, ho1, hb⟩; refine ⟨_, rfl, ?_⟩; have n0_ := Aside0.mk (Kd.R_lower ho0 (below_size bwB)); have n1_ := Aside0.mk (Kd.R_lower ho1 (below_size bwB)); have n2_ := Aside0.mk (blk_below (g := gb174) (o := .cells #[.int .i64 a0_0, .int .i64 a0_1, .slice A0_2 l0_2.length c0_2, .slice A0_3 l0_3.length c0_3] 41 (0, 0)) (bwK BK174.out) hb); have n3_ := Aside0.mk (blk_below (g := gb175) (o := .cells #[.int .i64 0, .int .i64 0, .slice none 0 0, .slice none 0 0] 41 (0, 0)) (bwK BK175.out) hb); have n4_ := Aside0.mk (below_step bwB hb); clear BK174; clear BK175; clear HB; have HO183 := n0_; have HO186 := n1_; have BK174 := n2_; have BK175 := n3_; have HB := n4_; clear n0_ n1_ n2_ n3_ n4_; (try clear hb); (try clear hb2); (try clear hk); (try clear hi); (try clear ho0); (try clear ho1); obtain ⟨hcz26_0, hcz26_1, hcz26_2, hcz26_3, hfz26_0, hfz26_1, hfz26_2, hfz26_3⟩ := bwZ4 BK175.out; obtain ⟨Ao27, co27, eo27⟩ := Kd.R_slice HO183.out; subst eo27; obtain ⟨Ao28, co28, eo28⟩ := Kd.R_slice HO186.out; subst eo28))
    refine bodyPost_ret (results_cell_row rfl _ _ gb175 41 #[.int .i64 t179, .int .i64 t180, .slice Ao27 t181.length co27, .slice Ao28 t184.length co28] (0, 0) _ rfl (by (with_reducible repeat (first | refine blk_drewN ?_ _ | refine blk_drew ?_ | refine blk_alloc ?_ _)); refine blk_put (cs := #[.int .i64 t179, .int .i64 t180, .slice Ao27 t181.length co27, .slice none 0 0]) ?_ 3 _ rfl; (with_reducible repeat (first | refine blk_drewN ?_ _ | refine blk_drew ?_ | refine blk_alloc ?_ _)); refine blk_put (cs := #[.int .i64 t179, .int .i64 t180, .slice none 0 0, .slice none 0 0]) ?_ 2 _ rfl; (with_reducible repeat (first | refine blk_drewN ?_ _ | refine blk_drew ?_ | refine blk_alloc ?_ _)); refine blk_put (cs := #[.int .i64 t179, .int .i64 0, .slice none 0 0, .slice none 0 0]) ?_ 1 _ rfl; (with_reducible repeat (first | refine blk_drewN ?_ _ | refine blk_drew ?_ | refine blk_alloc ?_ _)); refine blk_put (cs := #[.int .i64 0, .int .i64 0, .slice none 0 0, .slice none 0 0]) ?_ 0 _ rfl; (with_reducible repeat (first | refine blk_drewN ?_ _ | refine blk_drew ?_ | refine blk_alloc ?_ _)); exact BK175.out) Try.underlying41 rfl (by kernel_rfl)) rfl ?_
    exact ⟨_, _, by first | rfl | (simp [errW_none, errW_some] <;> rfl) | (simp [*, errW_none, errW_some] <;> rfl), by (with_reducible repeat (first | apply Kd.R_alloc | apply Kd.R_drewN | apply Kd.R_drew)); exact Kd.R_mono (Kd.R_far (p := ⟨gb175, 3, none⟩) (Kd.R_far (p := ⟨gb175, 2, none⟩) (Kd.R_far (p := ⟨gb175, 1, none⟩) (Kd.R_far (p := ⟨gb175, 0, none⟩) (Kd.R_types HO183.out BK175.out (by decide)) (fun _ hk => hk.2) (.int .i64 t179)) (fun _ hk => hk.2) (.int .i64 t180)) (fun _ hk => hk.2) (.slice Ao27 t181.length co27)) (fun _ hk => hk.2) (.slice Ao28 t184.length co28)) (fun _ hk => hk.1), by (with_reducible repeat (first | apply Kd.R_alloc | apply Kd.R_drewN | apply Kd.R_drew)); exact Kd.R_mono (Kd.R_far (p := ⟨gb175, 3, none⟩) (Kd.R_far (p := ⟨gb175, 2, none⟩) (Kd.R_far (p := ⟨gb175, 1, none⟩) (Kd.R_far (p := ⟨gb175, 0, none⟩) (Kd.R_types HO186.out BK175.out (by decide)) (fun _ hk => hk.2) (.int .i64 t179)) (fun _ hk => hk.2) (.int .i64 t180)) (fun _ hk => hk.2) (.slice Ao27 t181.length co27)) (fun _ hk => hk.2) (.slice Ao28 t184.length co28)) (fun _ hk => hk.1), by repeat (first | (with_reducible first | exact HB.out | apply below_alloc | apply pw_below_drewN | apply below_drew1 | refine below_set ?_ GE174.out | refine below_set ?_ GE175.out) | exact HB.out)⟩
   ·replace c21 := Bool.eq_false_iff.mpr c21
    subst c21
    have H1 : ((impl_RingRoll.f kj3 a0_0 a0_1 l0_2 l0_3 a1).bind fun bt187 => (if 0 < (bt187.2.2.1.length : Int) then ((impl_AddSat.f (rd bt187.2.2.1 0) 1).bind fun t197 => (if 0 < (bt187.2.2.2.length : Int) then ((impl_AddSat.f (rd bt187.2.2.2 0) a2).bind fun t200 => (some (bt187.1, bt187.2.1, (bt187.2.2.1.set (0 : Int).toNat t197), (bt187.2.2.2.set (0 : Int).toNat t200)))) else (none))) else (none))) = some (r1, r2, r3, r4) := by rw [if_neg (show ¬ (false = true) by decide)] at H; exact H
    clear H
    have H := H1
    clear H1
    replace H := Option.bind_eq_some_iff.mp H
    obtain ⟨⟨t187, t188, t189, t192⟩, A290, H⟩ := H
    replace H : (if 0 < (t189.length : Int) then ((impl_AddSat.f (rd t189 0) 1).bind fun t197 => (if 0 < (t192.length : Int) then ((impl_AddSat.f (rd t192 0) a2).bind fun t200 => (some (t187, t188, (t189.set (0 : Int).toNat t197), (t192.set (0 : Int).toNat t200)))) else (none))) else (none)) = some (r1, r2, r3, r4) := H
    have A29 := Aside0.mk A290
    clear A290
    by_cases c30 : 0 < (t189.length : Int)
    ·rw [if_pos c30] at H
     have c30b0 : decide (0 < (t189.length : Int)) = true := decide_eq_true c30
     have c30b1 : decide (0 < t189.length) = true := decide_eq_true (by omega)
     clear c30
     replace H := Option.bind_eq_some_iff.mp H
     obtain ⟨t197, A310, H⟩ := H
     replace H : (if 0 < (t192.length : Int) then ((impl_AddSat.f (rd t192 0) a2).bind fun t200 => (some (t187, t188, (t189.set (0 : Int).toNat t197), (t192.set (0 : Int).toNat t200)))) else (none)) = some (r1, r2, r3, r4) := H
     have A31 := Aside0.mk A310
     clear A310
     obtain ⟨y198, hy198⟩ : ∃ y_ : List Int, y_ = (t189.set (0 : Int).toNat t197) := ⟨_, rfl⟩
     replace H : (if 0 < (t192.length : Int) then ((impl_AddSat.f (rd t192 0) a2).bind fun t200 => (some (t187, t188, y198, (t192.set (0 : Int).toNat t200)))) else (none)) = some (r1, r2, r3, r4) := by first | (rw [hy198]; with_reducible exact H) | (have H2_ := (Option.bind_some _ _).symm.trans H; rw [hy198]; with_reducible exact H2_) | (have H2_ := (Option.bind_some _ _).symm.trans H; with_reducible exact H2_) | with_reducible exact H | (rw [hy198]; exact H) | exact H
     have Ny198 := Aside0.mk hy198
     clear hy198
     by_cases c33 : 0 < (t192.length : Int)
     ·rw [if_pos c33] at H
      have c33b0 : decide (0 < (t192.length : Int)) = true := decide_eq_true c33
      have c33b1 : decide (0 < t192.length) = true := decide_eq_true (by omega)
      clear c33
      replace H := Option.bind_eq_some_iff.mp H
      obtain ⟨t200, A340, H⟩ := H
      replace H : (some (t187, t188, y198, (t192.set (0 : Int).toNat t200))) = some (r1, r2, r3, r4) := H
      have A34 := Aside0.mk A340
      clear A340
      obtain ⟨y201, hy201⟩ : ∃ y_ : List Int, y_ = (t192.set (0 : Int).toNat t200) := ⟨_, rfl⟩
      replace H : (some (t187, t188, y198, y201)) = some (r1, r2, r3, r4) := by first | (rw [hy201]; with_reducible exact H) | (have H2_ := (Option.bind_some _ _).symm.trans H; rw [hy201]; with_reducible exact H2_) | (have H2_ := (Option.bind_some _ _).symm.trans H; with_reducible exact H2_) | with_reducible exact H | (rw [hy201]; exact H) | exact H
      have Ny201 := Aside0.mk hy201
      clear hy201
      simp only [Option.some.injEq, Prod.mk.injEq] at H
      obtain ⟨rfl, rfl, rfl, rfl⟩ := H
      have hnb36 := NB174_175.out
      have hnc36 := NB175_174.out
      obtain ⟨hcz37_0, hcz37_1, hcz37_2, hcz37_3, hfz37_0, hfz37_1, hfz37_2, hfz37_3⟩ := bwZ4 BK174.out
      try go_wp2_with (first | ((with_reducible refine gate_callee (f := 24) rfl ?_); refine goesL_ (some 25) rfl rfl Try.func24 (by kernel_rfl) rfl #[.agg #[.int .i64 a0_0, .int .i64 a0_1, .slice A0_2 l0_2.length c0_2, .slice A0_3 l0_3.length c0_3], .int .i64 a1] rfl bwA ?_; (with_reducible refine (impl_RingRoll.calls kj3 a0_0 a0_1 _ _ l0_2 _ _ l0_3 a1 t187 t188 t189 t192 _ ?side1 ?side2 ?side3 ?side4 A29.out).mono ?_); (case side1 => exact bwC (Kd.C_below HR0_2.out HB.out)); (case side2 => exact HC0_2.out); (case side3 => exact bwC (Kd.C_below HR0_3.out HB.out)); (case side4 => exact HC0_3.out); rintro e w38 ⟨v190, v193, rfl, ho0, ho1, hb⟩; refine ⟨_, rfl, ?_⟩; have n0_ := Aside0.mk (Kd.R_lower ho0 (below_size bwB)); have n1_ := Aside0.mk (Kd.R_lower ho1 (below_size bwB)); have n2_ := Aside0.mk (blk_below (g := gb174) (o := .cells #[.int .i64 a0_0, .int .i64 a0_1, .slice A0_2 l0_2.length c0_2, .slice A0_3 l0_3.length c0_3] 41 (0, 0)) (bwK BK174.out) hb); have n3_ := Aside0.mk (blk_below (g := gb175) (o := .cells #[.int .i64 0, .int .i64 0, .slice none 0 0, .slice none 0 0] 41 (0, 0)) (bwK BK175.out) hb); have n4_ := Aside0.mk (below_step bwB hb); clear BK174; clear BK175; clear HB; have HO191 := n0_; have HO194 := n1_; have BK174 := n2_; have BK175 := n3_; have HB := n4_; clear n0_ n1_ n2_ n3_ n4_; (try clear hb); (try clear hb2); (try clear hk); (try clear hi); (try clear ho0); (try clear ho1)) | ((with_reducible refine gate_dst (N := 7) rfl ?_); refine box_event ?hg (N := 7) ?hd (cs := #[.int .i64 0, .int .i64 0, .slice none 0 0, .slice none 0 0]) (t := 41) ?hr ?_; (case hd => rfl); (case hg => rfl); (case hr => first | (go_simp; done) | (go_simp; rfl)); intro gb195 hg w39 hbox hb; have n0_ := Aside0.mk (Kd.R_below (by (with_reducible repeat (first | apply Kd.R_alloc | apply Kd.R_drewN | apply Kd.R_drew)); exact HO191.out) hb); have n1_ := Aside0.mk (Kd.R_below (by (with_reducible repeat (first | apply Kd.R_alloc | apply Kd.R_drewN | apply Kd.R_drew)); exact HO194.out) hb); have n2_ := Aside0.mk (blk_below (g := gb174) (o := .cells #[.int .i64 a0_0, .int .i64 a0_1, .slice A0_2 l0_2.length c0_2, .slice A0_3 l0_3.length c0_3] 41 (0, 0)) (bwK BK174.out) hb); have n3_ := Aside0.mk (blk_below (g := gb175) (o := .cells #[.int .i64 0, .int .i64 0, .slice none 0 0, .slice none 0 0] 41 (0, 0)) (bwK BK175.out) hb); have n4_ := Aside0.mk (below_step bwB hb); have n5_ := Aside0.mk (hbox); have n6_ := Aside0.mk ((by rw [hg]; exact (below_size bwB) : w.heap.size ≤ gb195)); have n7_ := Aside0.mk ((by rw [hg]; exact (below_size bwB) : w.heap.size ≤ gb195)); have n8_ := Aside0.mk ((by rw [hg]; exact Nat.ne_of_lt (blk_lt (g := gb174) (o := .cells #[.int .i64 a0_0, .int .i64 a0_1, .slice A0_2 l0_2.length c0_2, .slice A0_3 l0_3.length c0_3] 41 (0, 0)) (bwK BK174.out)) : gb174 ≠ gb195)); have n9_ := Aside0.mk ((by rw [hg]; exact Nat.ne_of_gt (blk_lt (g := gb174) (o := .cells #[.int .i64 a0_0, .int .i64 a0_1, .slice A0_2 l0_2.length c0_2, .slice A0_3 l0_3.length c0_3] 41 (0, 0)) (bwK BK174.out)) : gb195 ≠ gb174)); have n10_ := Aside0.mk ((by rw [hg]; exact Nat.ne_of_lt (blk_lt (g := gb175) (o := .cells #[.int .i64 0, .int .i64 0, .slice none 0 0, .slice none 0 0] 41 (0, 0)) (bwK BK175.out)) : gb175 ≠ gb195)); have n11_ := Aside0.mk ((by rw [hg]; exact Nat.ne_of_gt (blk_lt (g := gb175) (o := .cells #[.int .i64 0, .int .i64 0, .slice none 0 0, .slice none 0 0] 41 (0, 0)) (bwK BK175.out)) : gb195 ≠ gb175)); clear HO191; clear HO194; clear BK174; clear BK175; clear HB; have HO191 := n0_; have HO194 := n1_; have BK174 := n2_; have BK175 := n3_; have HB := n4_; have BK195 := n5_; have GW195 := n6_; have GE195 := n7_; have NB174_195 := n8_; have NB195_174 := n9_; have NB175_195 := n10_; have NB195_175 := n11_; clear n0_ n1_ n2_ n3_ n4_ n5_ n6_ n7_ n8_ n9_ n10_ n11_; clear hb hbox hg; have hnb40 := NB195_174.out; have hnc40 := NB174_195.out; have hnb41 := NB195_175.out; have hnc41 := NB175_195.out; obtain ⟨hcz42_0, hcz42_1, hcz42_2, hcz42_3, hfz42_0, hfz42_1, hfz42_2, hfz42_3⟩ := bwZ4 BK195.out; obtain ⟨Ao43, co43, eo43⟩ := Kd.R_slice HO191.out; subst eo43; obtain ⟨Ao44, co44, eo44⟩ := Kd.R_slice HO194.out; subst eo44))
      have n0_ : Aside0 (Kd.R (Kd.int .i64) 3 ((((w39.setCell ⟨gb195, 0, none⟩ (.int .i64 t187)).setCell ⟨gb195, 1, none⟩ (.int .i64 t188)).setCell ⟨gb195, 2, none⟩ (.slice Ao43 t189.length co43)).setCell ⟨gb195, 3, none⟩ (.slice Ao44 t192.length co44)) w.heap.size (fun k_ => some k_ ≠ (.slice Ao44 t192.length co44 : Value).ownBlock) (.slice Ao43 t189.length co43) t189) := ⟨by (with_reducible repeat (first | apply Kd.R_alloc | apply Kd.R_drewN | apply Kd.R_drew)); exact Kd.R_mono (Kd.R_far (p := ⟨gb195, 3, none⟩) (Kd.R_far (p := ⟨gb195, 2, none⟩) (Kd.R_far (p := ⟨gb195, 1, none⟩) (Kd.R_far (p := ⟨gb195, 0, none⟩) (Kd.R_types HO191.out BK195.out (by decide)) (fun _ hk => hk.2) (.int .i64 t187)) (fun _ hk => hk.2) (.int .i64 t188)) (fun _ hk => hk.2) (.slice Ao43 t189.length co43)) (fun _ hk => hk.2) (.slice Ao44 t192.length co44)) (fun _ hk => hk.1)⟩
      have n1_ : Aside0 (Kd.R (Kd.int .i64) 3 ((((w39.setCell ⟨gb195, 0, none⟩ (.int .i64 t187)).setCell ⟨gb195, 1, none⟩ (.int .i64 t188)).setCell ⟨gb195, 2, none⟩ (.slice Ao43 t189.length co43)).setCell ⟨gb195, 3, none⟩ (.slice Ao44 t192.length co44)) w.heap.size (fun k_ => some k_ ≠ (.slice Ao43 t189.length co43 : Value).ownBlock) (.slice Ao44 t192.length co44) t192) := ⟨by (with_reducible repeat (first | apply Kd.R_alloc | apply Kd.R_drewN | apply Kd.R_drew)); exact Kd.R_mono (Kd.R_far (p := ⟨gb195, 3, none⟩) (Kd.R_far (p := ⟨gb195, 2, none⟩) (Kd.R_far (p := ⟨gb195, 1, none⟩) (Kd.R_far (p := ⟨gb195, 0, none⟩) (Kd.R_types HO194.out BK195.out (by decide)) (fun _ hk => hk.2) (.int .i64 t187)) (fun _ hk => hk.2) (.int .i64 t188)) (fun _ hk => hk.2) (.slice Ao43 t189.length co43)) (fun _ hk => hk.2) (.slice Ao44 t192.length co44)) (fun _ hk => hk.1)⟩
      have n2_ : Aside0 (((((w39.setCell ⟨gb195, 0, none⟩ (.int .i64 t187)).setCell ⟨gb195, 1, none⟩ (.int .i64 t188)).setCell ⟨gb195, 2, none⟩ (.slice Ao43 t189.length co43)).setCell ⟨gb195, 3, none⟩ (.slice Ao44 t192.length co44)).heap[gb174]? = some (.cells #[.int .i64 a0_0, .int .i64 a0_1, .slice A0_2 l0_2.length c0_2, .slice A0_3 l0_3.length c0_3] 41 (0, 0))) := ⟨bwR NB174_195.out BK174.out⟩
      have n3_ : Aside0 (((((w39.setCell ⟨gb195, 0, none⟩ (.int .i64 t187)).setCell ⟨gb195, 1, none⟩ (.int .i64 t188)).setCell ⟨gb195, 2, none⟩ (.slice Ao43 t189.length co43)).setCell ⟨gb195, 3, none⟩ (.slice Ao44 t192.length co44)).heap[gb175]? = some (.cells #[.int .i64 0, .int .i64 0, .slice none 0 0, .slice none 0 0] 41 (0, 0))) := ⟨bwR NB175_195.out BK175.out⟩
      have n4_ : Aside0 (((((w39.setCell ⟨gb195, 0, none⟩ (.int .i64 t187)).setCell ⟨gb195, 1, none⟩ (.int .i64 t188)).setCell ⟨gb195, 2, none⟩ (.slice Ao43 t189.length co43)).setCell ⟨gb195, 3, none⟩ (.slice Ao44 t192.length co44)).heap[gb195]? = some (.cells #[.int .i64 t187, .int .i64 t188, .slice Ao43 t189.length co43, .slice Ao44 t192.length co44] 41 (0, 0))) := ⟨by (with_reducible repeat (first | refine blk_drewN ?_ _ | refine blk_drew ?_ | refine blk_alloc ?_ _)); refine blk_put (cs := #[.int .i64 t187, .int .i64 t188, .slice Ao43 t189.length co43, .slice none 0 0]) ?_ 3 _ rfl; (with_reducible repeat (first | refine blk_drewN ?_ _ | refine blk_drew ?_ | refine blk_alloc ?_ _)); refine blk_put (cs := #[.int .i64 t187, .int .i64 t188, .slice none 0 0, .slice none 0 0]) ?_ 2 _ rfl; (with_reducible repeat (first | refine blk_drewN ?_ _ | refine blk_drew ?_ | refine blk_alloc ?_ _)); refine blk_put (cs := #[.int .i64 t187, .int .i64 0, .slice none 0 0, .slice none 0 0]) ?_ 1 _ rfl; (with_reducible repeat (first | refine blk_drewN ?_ _ | refine blk_drew ?_ | refine blk_alloc ?_ _)); refine blk_put (cs := #[.int .i64 0, .int .i64 0, .slice none 0 0, .slice none 0 0]) ?_ 0 _ rfl; (with_reducible repeat (first | refine blk_drewN ?_ _ | refine blk_drew ?_ | refine blk_alloc ?_ _)); exact BK195.out⟩
      have n5_ : Aside0 (Below w.heap.size w ((((w39.setCell ⟨gb195, 0, none⟩ (.int .i64 t187)).setCell ⟨gb195, 1, none⟩ (.int .i64 t188)).setCell ⟨gb195, 2, none⟩ (.slice Ao43 t189.length co43)).setCell ⟨gb195, 3, none⟩ (.slice Ao44 t192.length co44))) := ⟨bwB⟩
      (try clear HO191)
      (try clear HO194)
      (try clear BK174)
      (try clear BK175)
      (try clear BK195)
      (try clear HB)
      generalize ((((w39.setCell ⟨gb195, 0, none⟩ (.int .i64 t187)).setCell ⟨gb195, 1, none⟩ (.int .i64 t188)).setCell ⟨gb195, 2, none⟩ (.slice Ao43 t189.length co43)).setCell ⟨gb195, 3, none⟩ (.slice Ao44 t192.length co44)) = w45 at n0_ n1_ n2_ n3_ n4_ n5_ ⊢
      have HO191 := n0_
      have HO194 := n1_
      have BK174 := n2_
      have BK175 := n3_
      have BK195 := n4_
      have HB := n5_
      clear n0_ n1_ n2_ n3_ n4_ n5_
      have n0_ := Aside0.mk (Kd.R_drew HO191.out)
      have n1_ := Aside0.mk (Kd.R_drew HO194.out)
      have n2_ := Aside0.mk (blk_drew BK174.out)
      have n3_ := Aside0.mk (blk_drew BK175.out)
      have n4_ := Aside0.mk (blk_drew BK195.out)
      have n5_ := Aside0.mk (below_drew1 HB.out)
      clear HO191
      clear HO194
      clear BK174
      clear BK175
      clear BK195
      clear HB
      have HO191 := n0_
      have HO194 := n1_
      have BK174 := n2_
      have BK175 := n3_
      have BK195 := n4_
      have HB := n5_
      clear n0_ n1_ n2_ n3_ n4_ n5_
      have p196 : 0 ≤ (0 : Int) := (by omega)
      have q196 : 0 < (t189.length : Int) := bwD
      obtain ⟨ad196, e196, hx196_0⟩ := Kd.at_int (Kd.R_reads' HO191.out).2.2 0 p196 q196
      cases e196
      have qi196 : (0 < t189.length) = True := eq_true (by omega)
      (try rw [show ((0 : Int)).toNat = 0 from rfl] at hx196_0)
      (try rw [Addr.add_zero'] at hx196_0)
      replace p196 := eq_true p196
      replace q196 := eq_true q196
      have p199 : 0 ≤ (0 : Int) := (by omega)
      have q199 : 0 < (t192.length : Int) := bwD
      obtain ⟨ad199, e199, hx199_0⟩ := Kd.at_int (Kd.R_reads' HO194.out).2.2 0 p199 q199
      cases e199
      have qi199 : (0 < t192.length) = True := eq_true (by omega)
      (try rw [show ((0 : Int)).toNat = 0 from rfl] at hx199_0)
      (try rw [Addr.add_zero'] at hx199_0)
      replace p199 := eq_true p199
      replace q199 := eq_true q199
      refine start_ (n := 19) (S := fun w' => w'.cell? ⟨gb195, 0, none⟩ = some (.int .i64 t187) ∧ w'.cell? ⟨gb195, 1, none⟩ = some (.int .i64 t188) ∧ w'.cell? ⟨gb195, 2, none⟩ = some (.slice (some ad196) t189.length co43) ∧ w'.cell? ⟨gb195, 3, none⟩ = some (.slice (some ad199) t192.length co44) ∧ w'.cell? ad199 = some (.int .i64 (rd t192 0))) (ds := [18]) #[false, false, false, false, false, false, false, false, false, false, false, false, false, false, false, false, false, false, false] (by kernel_rfl) rfl rfl ⟨(blk_cell BK195.out 0).trans rfl, (blk_cell BK195.out 1).trans rfl, (blk_cell BK195.out 2).trans rfl, (blk_cell BK195.out 3).trans rfl, hx199_0⟩ (fun hHeld => ?_); refine with_tabW impl_RingAdd.tabR impl_RingAdd.bitsR (fun HT_ HW_ => ?_)
      generalize w45.drew = w46 at HO191 HO194 BK174 BK175 BK195 HB hx196_0 hx199_0 hHeld ⊢
      refine pure_ (i := 0) (N := some 26) (v := ?_) (a' := ?_) #[true, false, false, false, false, false, false, false, false, false, false, false, false, false, false, false, false, false, false] rfl rfl (any_of HT_.out (by kernel_rfl)) (fun _ _ _ h => h) (Or.inl ⟨by rfl, ?_⟩) ?_ ?_
      rotate_left
      ·intro w'
       go_simp
       with_reducible rfl
      rotate_left
      ·simp only [Act.put, List.setIfInBounds_toArray, List.set_cons_zero, List.set_cons_succ, i64_w, i32_w]
       rfl
      refine pure_ (i := 2) (N := some 28) (v := ?_) (a' := ?_) #[true, false, true, false, false, false, false, false, false, false, false, false, false, false, false, false, false, false, false] rfl rfl (any_of HT_.out (by kernel_rfl)) (fun _ _ _ h => h) (Or.inl ⟨by rfl, ?_⟩) ?_ ?_
      rotate_left
      ·intro w'
       go_simp
       with_reducible rfl
      rotate_left
      ·simp only [Act.put, List.setIfInBounds_toArray, List.set_cons_zero, List.set_cons_succ, i64_w, i32_w]
       rfl
      refine pure_ (i := 4) (N := some 30) (v := ?_) (a' := ?_) #[true, false, true, false, true, false, false, false, false, false, false, false, false, false, false, false, false, false, false] rfl rfl (any_of HT_.out (by kernel_rfl)) (fun _ _ _ h => h) (Or.inl ⟨by rfl, ?_⟩) ?_ ?_
      rotate_left
      ·intro w'
       go_simp
       with_reducible rfl
      rotate_left
      ·simp only [Act.put, List.setIfInBounds_toArray, List.set_cons_zero, List.set_cons_succ, i64_w, i32_w]
       rfl
      refine pure_ (i := 9) (N := some 35) (v := ?_) (a' := ?_) #[true, false, true, false, true, false, false, false, false, true, false, false, false, false, false, false, false, false, false] rfl rfl (any_of HT_.out (by kernel_rfl)) (fun _ _ _ h => h) (Or.inl ⟨by rfl, ?_⟩) ?_ ?_
      rotate_left
      ·intro w'
       go_simp
       with_reducible rfl
      rotate_left
      ·simp only [Act.put, List.setIfInBounds_toArray, List.set_cons_zero, List.set_cons_succ, i64_w, i32_w]
       rfl
      refine pure_ (i := 13) (N := some 39) (v := ?_) (a' := ?_) #[true, false, true, false, true, false, false, false, false, true, false, false, false, true, false, false, false, false, false] rfl rfl (any_of HT_.out (by kernel_rfl)) (fun _ _ _ h => h) (Or.inl ⟨by rfl, ?_⟩) ?_ ?_
      rotate_left
      ·intro w'
       go_simp
       with_reducible rfl
      rotate_left
      ·simp only [Act.put, List.setIfInBounds_toArray, List.set_cons_zero, List.set_cons_succ, i64_w, i32_w]
       rfl
      refine take_ (i := 1) (N := some 27) (v := ?_) (a' := ?_) #[true, true, true, false, true, false, false, false, false, true, false, false, false, true, false, false, false, false, false] rfl rfl (take_ofW HT_.out HW_.out (by kernel_rfl)) (fun _ _ _ h => h) (Or.inl ⟨by rfl, ?_⟩) hHeld ?_ ?_
      rotate_left
      ·rintro w' ⟨s0, s1, s2, s3, s4⟩
       go_simp
       with_reducible rfl
      rotate_left
      ·simp only [Act.put, List.setIfInBounds_toArray, List.set_cons_zero, List.set_cons_succ, i64_w, i32_w]
       rfl
      refine take_ (i := 3) (N := some 29) (v := ?_) (a' := ?_) #[true, true, true, true, true, false, false, false, false, true, false, false, false, true, false, false, false, false, false] rfl rfl (take_ofW HT_.out HW_.out (by kernel_rfl)) (fun _ _ _ h => h) (Or.inl ⟨by rfl, ?_⟩) hHeld ?_ ?_
      rotate_left
      ·rintro w' ⟨s0, s1, s2, s3, s4⟩
       go_simp
       with_reducible rfl
      rotate_left
      ·simp only [Act.put, List.setIfInBounds_toArray, List.set_cons_zero, List.set_cons_succ, i64_w, i32_w]
       rfl
      refine take_ (i := 5) (N := some 31) (v := ?_) (a' := ?_) #[true, true, true, true, true, true, false, false, false, true, false, false, false, true, false, false, false, false, false] rfl rfl (take_ofW HT_.out HW_.out (by kernel_rfl)) (fun _ _ _ h => h) (Or.inl ⟨by rfl, ?_⟩) hHeld ?_ ?_
      rotate_left
      ·rintro w' ⟨s0, s1, s2, s3, s4⟩
       go_simp
       with_reducible rfl
      rotate_left
      ·simp only [Act.put, List.setIfInBounds_toArray, List.set_cons_zero, List.set_cons_succ, i64_w, i32_w]
       rfl
      refine take_ (i := 10) (N := some 36) (v := ?_) (a' := ?_) #[true, true, true, true, true, true, false, false, false, true, true, false, false, true, false, false, false, false, false] rfl rfl (take_ofW HT_.out HW_.out (by kernel_rfl)) (fun _ _ _ h => h) (Or.inl ⟨by rfl, ?_⟩) hHeld ?_ ?_
      rotate_left
      ·rintro w' ⟨s0, s1, s2, s3, s4⟩
       go_simp
       with_reducible rfl
      rotate_left
      ·simp only [Act.put, List.setIfInBounds_toArray, List.set_cons_zero, List.set_cons_succ, i64_w, i32_w]
       rfl
      refine pure_ (i := 6) (N := some 32) (v := ?_) (a' := ?_) #[true, true, true, true, true, true, true, false, false, true, true, false, false, true, false, false, false, false, false] rfl rfl (any_of HT_.out (by kernel_rfl)) (fun _ _ _ h => h) (Or.inl ⟨by rfl, ?_⟩) ?_ ?_
      rotate_left
      ·intro w'
       go_simp
       with_reducible rfl
      rotate_left
      ·simp only [Act.put, List.setIfInBounds_toArray, List.set_cons_zero, List.set_cons_succ, i64_w, i32_w]
       rfl
      refine pure_ (i := 11) (N := some 37) (v := ?_) (a' := ?_) #[true, true, true, true, true, true, true, false, false, true, true, true, false, true, false, false, false, false, false] rfl rfl (any_of HT_.out (by kernel_rfl)) (fun _ _ _ h => h) (Or.inl ⟨by rfl, ?_⟩) ?_ ?_
      rotate_left
      ·intro w'
       go_simp
       with_reducible rfl
      rotate_left
      ·simp only [Act.put, List.setIfInBounds_toArray, List.set_cons_zero, List.set_cons_succ, i64_w, i32_w]
       rfl
      refine take_ (i := 12) (N := some 38) (v := ?_) (a' := ?_) #[true, true, true, true, true, true, true, false, false, true, true, true, true, true, false, false, false, false, false] rfl rfl (take_ofW HT_.out HW_.out (by kernel_rfl)) (fun _ _ _ h => h) (Or.inl ⟨by rfl, ?_⟩) hHeld ?_ ?_
      rotate_left
      ·rintro w' ⟨s0, s1, s2, s3, s4⟩
       go_simp
       with_reducible rfl
      rotate_left
      ·simp only [Act.put, List.setIfInBounds_toArray, List.set_cons_zero, List.set_cons_succ, i64_w, i32_w]
       rfl
      refine one_ (i := 7) (N := some 33) #[true, true, true, true, true, true, true, true, false, true, true, true, true, true, false, false, false, false, false] rfl rfl (one_of HT_.out (by kernel_rfl)) (by decide) (fun K hK => ?_)
      refine value_ (v := .int .i64 (rd t189 0)) (w1 := w46) (by rfl) rfl ?_ ?_
      ·go_simp
       try rfl
      refine hK.out _ _ hHeld (fun hHeld => ?_)
      clear hK K
      refine norm_ (a' := ?_) ?_ ?_
      rotate_left
      ·show Act.put _ (some 33) _ = _
       simp only [Act.put, List.setIfInBounds_toArray, List.set_cons_zero, List.set_cons_succ, i64_w, i32_w]
       rfl
      refine one_ (i := 8) (N := some 34) #[true, true, true, true, true, true, true, true, true, true, true, true, true, true, false, false, false, false, false] rfl rfl (one_of HT_.out (by kernel_rfl)) (by decide) (fun K hK => ?_)
      refine goes_ Try.func74 (by kernel_rfl) rfl #[.int .i64 (rd t189 0), .int .i64 1] (by rfl) rfl rfl bwA ?_
      with_reducible refine (impl_AddSat.calls (rd t189 0) 1 t197 _ A31.out).mono ?_
      rintro e w47 ⟨rfl, hb⟩
      have HS4_ := (hb.cell (World.block_lt_of_cell? _ _ (hHeld.2.2.2.2))).trans (hHeld.2.2.2.2)
      refine ⟨_, rfl, ?_⟩
      have n0_ := Aside0.mk (Kd.R_below (by (with_reducible repeat (first | apply Kd.R_alloc | apply Kd.R_drewN | apply Kd.R_drew)); exact HO191.out) hb)
      have n1_ := Aside0.mk (Kd.R_below (by (with_reducible repeat (first | apply Kd.R_alloc | apply Kd.R_drewN | apply Kd.R_drew)); exact HO194.out) hb)
      have n2_ := Aside0.mk (blk_below (g := gb174) (o := .cells #[.int .i64 a0_0, .int .i64 a0_1, .slice A0_2 l0_2.length c0_2, .slice A0_3 l0_3.length c0_3] 41 (0, 0)) (bwK BK174.out) hb)
      have n3_ := Aside0.mk (blk_below (g := gb175) (o := .cells #[.int .i64 0, .int .i64 0, .slice none 0 0, .slice none 0 0] 41 (0, 0)) (bwK BK175.out) hb)
      have n4_ := Aside0.mk (blk_below (g := gb195) (o := .cells #[.int .i64 t187, .int .i64 t188, .slice (some ad196) t189.length co43, .slice (some ad199) t192.length co44] 41 (0, 0)) (bwK BK195.out) hb)
      have n5_ := Aside0.mk (below_step bwB hb)
      clear HO191
      clear HO194
      clear BK174
      clear BK175
      clear BK195
      clear HB
      have HO191 := n0_
      have HO194 := n1_
      have BK174 := n2_
      have BK175 := n3_
      have BK195 := n4_
      have HB := n5_
      clear n0_ n1_ n2_ n3_ n4_ n5_
      (try clear hb)
      (try clear hb2)
      (try clear hk)
      (try clear hi)
      refine hK.out _ _ ⟨(blk_cell BK195.out 0).trans rfl, (blk_cell BK195.out 1).trans rfl, (blk_cell BK195.out 2).trans rfl, (blk_cell BK195.out 3).trans rfl, HS4_⟩ (fun hHeld => ?_)
      clear hK K
      refine norm_ (a' := ?_) ?_ ?_
      rotate_left
      ·show Act.put _ (some 34) _ = _
       simp only [Act.put, List.setIfInBounds_toArray, List.set_cons_zero, List.set_cons_succ, i64_w, i32_w]
       rfl
      refine one_ (i := 14) (N := some 40) #[true, true, true, true, true, true, true, true, true, true, true, true, true, true, true, false, false, false, false] rfl rfl (one_of HT_.out (by kernel_rfl)) (by decide) (fun K hK => ?_)
      refine goes_ Try.func74 (by kernel_rfl) rfl #[.int .i64 (rd t192 0), .int .i64 a2] (by rfl) rfl rfl bwA ?_
      with_reducible refine (impl_AddSat.calls (rd t192 0) a2 t200 _ A34.out).mono ?_
      rintro e w51 ⟨rfl, hb⟩
      have HS4_ := (hb.cell (World.block_lt_of_cell? _ _ (hHeld.2.2.2.2))).trans (hHeld.2.2.2.2)
      refine ⟨_, rfl, ?_⟩
      have n0_ := Aside0.mk (Kd.R_below (by (with_reducible repeat (first | apply Kd.R_alloc | apply Kd.R_drewN | apply Kd.R_drew)); exact HO191.out) hb)
      have n1_ := Aside0.mk (Kd.R_below (by (with_reducible repeat (first | apply Kd.R_alloc | apply Kd.R_drewN | apply Kd.R_drew)); exact HO194.out) hb)
      have n2_ := Aside0.mk (blk_below (g := gb174) (o := .cells #[.int .i64 a0_0, .int .i64 a0_1, .slice A0_2 l0_2.length c0_2, .slice A0_3 l0_3.length c0_3] 41 (0, 0)) (bwK BK174.out) hb)
      have n3_ := Aside0.mk (blk_below (g := gb175) (o := .cells #[.int .i64 0, .int .i64 0, .slice none 0 0, .slice none 0 0] 41 (0, 0)) (bwK BK175.out) hb)
      have n4_ := Aside0.mk (blk_below (g := gb195) (o := .cells #[.int .i64 t187, .int .i64 t188, .slice (some ad196) t189.length co43, .slice (some ad199) t192.length co44] 41 (0, 0)) (bwK BK195.out) hb)
      have n5_ := Aside0.mk (below_step bwB hb)
      clear HO191
      clear HO194
      clear BK174
      clear BK175
      clear BK195
      clear HB
      have HO191 := n0_
      have HO194 := n1_
      have BK174 := n2_
      have BK175 := n3_
      have BK195 := n4_
      have HB := n5_
      clear n0_ n1_ n2_ n3_ n4_ n5_
      (try clear hb)
      (try clear hb2)
      (try clear hk)
      (try clear hi)
      refine hK.out _ _ ⟨(blk_cell BK195.out 0).trans rfl, (blk_cell BK195.out 1).trans rfl, (blk_cell BK195.out 2).trans rfl, (blk_cell BK195.out 3).trans rfl, HS4_⟩ (fun hHeld => ?_)
      clear hK K
      refine norm_ (a' := ?_) ?_ ?_
      rotate_left
      ·show Act.put _ (some 40) _ = _
       simp only [Act.put, List.setIfInBounds_toArray, List.set_cons_zero, List.set_cons_succ, i64_w, i32_w]
       rfl
      have p32 : 0 ≤ (0 : Int) := (by omega)
      have q32 : (0 : Int) < ((t189.length : Int) : Int) := bwD
      have qi32 : (0 < t189.length) = True := eq_true (by omega)
      obtain ⟨go32, co32, eo32, gb32, gl32, cl32, HG32⟩ := Kd.R_form HO191.out (by omega)
      (first | cases eo32 | (injection eo32 with ea_ en_ ec_; (first | subst ea_ | (injection ea_ with ea_; subst ea_)); subst ec_; clear en_))
      have GB32 := Aside0.mk gb32
      have GG32 := Aside0.mk HG32
      clear gb32 gl32 HG32
      (first | simp only [add_plain] at hx196_0 | skip)
      obtain ⟨hx32_0, hf32_0⟩ := Kd.R_celln 0 HO191.out (0 : Int) p32 q32
      (try rw [show ((0 : Int)).toNat = 0 from rfl] at hx32_0)
      (try simp only [Nat.reduceMul, Nat.zero_mul, Nat.zero_add, Nat.reduceAdd] at hx32_0)
      (try rw [show ((0 : Int)).toNat = 0 from rfl] at hf32_0)
      (try simp only [Nat.reduceMul, Nat.zero_mul, Nat.zero_add, Nat.reduceAdd] at hf32_0)
      replace p32 := eq_true p32
      replace q32 := eq_true q32
      have HP48 := Kd.R_putn HO191.out (0 : Int) t197
      rw [← Ny198.out] at HP48
      have HQ48 := Aside0.mk HP48
      clear HP48
      have p35 : 0 ≤ (0 : Int) := (by omega)
      have q35 : (0 : Int) < ((t192.length : Int) : Int) := bwD
      have qi35 : (0 < t192.length) = True := eq_true (by omega)
      obtain ⟨go35, co35, eo35, gb35, gl35, cl35, HG35⟩ := Kd.R_form HO194.out (by omega)
      (first | cases eo35 | (injection eo35 with ea_ en_ ec_; (first | subst ea_ | (injection ea_ with ea_; subst ea_)); subst ec_; clear en_))
      have GB35 := Aside0.mk gb35
      have GG35 := Aside0.mk HG35
      clear gb35 gl35 HG35
      (first | simp only [add_plain] at hx199_0 | skip)
      obtain ⟨hx35_0, hf35_0⟩ := Kd.R_celln 0 HO194.out (0 : Int) p35 q35
      (try rw [show ((0 : Int)).toNat = 0 from rfl] at hx35_0)
      (try simp only [Nat.reduceMul, Nat.zero_mul, Nat.zero_add, Nat.reduceAdd] at hx35_0)
      (try rw [show ((0 : Int)).toNat = 0 from rfl] at hf35_0)
      (try simp only [Nat.reduceMul, Nat.zero_mul, Nat.zero_add, Nat.reduceAdd] at hf35_0)
      replace p35 := eq_true p35
      replace q35 := eq_true q35
      refine pure_ (i := 15) (N := some 41) (v := ?_) (a' := ?_) #[true, true, true, true, true, true, true, true, true, true, true, true, true, true, true, true, false, false, false] rfl rfl (any_of HT_.out (by kernel_rfl)) (fun _ _ _ h => h) (Or.inl ⟨by rfl, ?_⟩) ?_ ?_
      rotate_left
      ·intro w'
       go_simp
       with_reducible rfl
      rotate_left
      ·simp only [Act.put, List.setIfInBounds_toArray, List.set_cons_zero, List.set_cons_succ, i64_w, i32_w]
       rfl
      refine one_ (i := 16) (N := none) #[true, true, true, true, true, true, true, true, true, true, true, true, true, true, true, true, true, false, false] rfl rfl (one_of HT_.out (by kernel_rfl)) (by decide) (fun K hK => ?_)
      refine skip_ (w1 := ?_) (by rfl) rfl ?_ ?_
      rotate_left
      ·go_simp
       rfl
      have n0_ : Aside0 (Kd.R (Kd.int .i64) 3 (w51.setCell ⟨go32, 0, none⟩ (.int .i64 t197)) w.heap.size (fun k_ => some k_ ≠ (.slice (some ⟨go35, 0, none⟩) t192.length co44 : Value).ownBlock) (.slice (some ⟨go32, 0, none⟩) t189.length co43) y198) := ⟨by (with_reducible repeat (first | apply Kd.R_alloc | apply Kd.R_drewN | apply Kd.R_drew)); exact HQ48.out⟩
      have n1_ : Aside0 (Kd.R (Kd.int .i64) 3 (w51.setCell ⟨go32, 0, none⟩ (.int .i64 t197)) w.heap.size (fun k_ => some k_ ≠ (.slice (some ⟨go32, 0, none⟩) t189.length co43 : Value).ownBlock) (.slice (some ⟨go35, 0, none⟩) t192.length co44) t192) := ⟨by (with_reducible repeat (first | apply Kd.R_alloc | apply Kd.R_drewN | apply Kd.R_drew)); exact Kd.R_mono (Kd.R_far (p := ⟨go32, 0, none⟩) (Kd.R_mono HO194.out (fun k_ hk => (⟨hk, fun e_ => hk (by rw [e_]; rfl)⟩ : _ ∧ k_ ≠ go32))) (fun _ hk => hk.2) (.int .i64 t197)) (fun _ hk => hk.1)⟩
      have n2_ : Aside0 ((w51.setCell ⟨go32, 0, none⟩ (.int .i64 t197)).heap[gb174]? = some (.cells #[.int .i64 a0_0, .int .i64 a0_1, .slice A0_2 l0_2.length c0_2, .slice A0_3 l0_3.length c0_3] 41 (0, 0))) := ⟨by (with_reducible repeat (first | refine blk_drewN ?_ _ | refine blk_drew ?_ | refine blk_alloc ?_ _)); refine blk_far ?_ (by have h_ := Kd.R_ne HO191.out BK174.out (by decide); intro e_; exact h_ (by rw [e_]; rfl)) _; (with_reducible repeat (first | refine blk_drewN ?_ _ | refine blk_drew ?_ | refine blk_alloc ?_ _)); exact BK174.out⟩
      have n3_ : Aside0 ((w51.setCell ⟨go32, 0, none⟩ (.int .i64 t197)).heap[gb175]? = some (.cells #[.int .i64 0, .int .i64 0, .slice none 0 0, .slice none 0 0] 41 (0, 0))) := ⟨by (with_reducible repeat (first | refine blk_drewN ?_ _ | refine blk_drew ?_ | refine blk_alloc ?_ _)); refine blk_far ?_ (by have h_ := Kd.R_ne HO191.out BK175.out (by decide); intro e_; exact h_ (by rw [e_]; rfl)) _; (with_reducible repeat (first | refine blk_drewN ?_ _ | refine blk_drew ?_ | refine blk_alloc ?_ _)); exact BK175.out⟩
      have n4_ : Aside0 ((w51.setCell ⟨go32, 0, none⟩ (.int .i64 t197)).heap[gb195]? = some (.cells #[.int .i64 t187, .int .i64 t188, .slice (some ⟨go32, 0, none⟩) t189.length co43, .slice (some ⟨go35, 0, none⟩) t192.length co44] 41 (0, 0))) := ⟨by (with_reducible repeat (first | refine blk_drewN ?_ _ | refine blk_drew ?_ | refine blk_alloc ?_ _)); refine blk_far ?_ (by have h_ := Kd.R_ne HO191.out BK195.out (by decide); intro e_; exact h_ (by rw [e_]; rfl)) _; (with_reducible repeat (first | refine blk_drewN ?_ _ | refine blk_drew ?_ | refine blk_alloc ?_ _)); exact BK195.out⟩
      have n5_ : Aside0 (Below w.heap.size w (w51.setCell ⟨go32, 0, none⟩ (.int .i64 t197))) := ⟨bwB⟩
      (try clear HO191)
      (try clear HO194)
      (try clear BK174)
      (try clear BK175)
      (try clear BK195)
      (try clear HB)
      generalize (w51.setCell ⟨go32, 0, none⟩ (.int .i64 t197)) = w49 at n0_ n1_ n2_ n3_ n4_ n5_ ⊢
      have HO191 := n0_
      have HO194 := n1_
      have BK174 := n2_
      have BK175 := n3_
      have BK195 := n4_
      have HB := n5_
      clear n0_ n1_ n2_ n3_ n4_ n5_
      have p36 : 0 ≤ (0 : Int) := (by omega)
      have q36 : (0 : Int) < ((t192.length : Int) : Int) := bwD
      obtain ⟨hx36_0, hf36_0⟩ := Kd.R_celln 0 HO194.out (0 : Int) p36 q36
      (try rw [show ((0 : Int)).toNat = 0 from rfl] at hx36_0)
      (try simp only [Nat.reduceMul, Nat.zero_mul, Nat.zero_add, Nat.reduceAdd] at hx36_0)
      (try rw [show ((0 : Int)).toNat = 0 from rfl] at hf36_0)
      (try simp only [Nat.reduceMul, Nat.zero_mul, Nat.zero_add, Nat.reduceAdd] at hf36_0)
      refine hK.out _ _ ⟨(blk_cell BK195.out 0).trans rfl, (blk_cell BK195.out 1).trans rfl, (blk_cell BK195.out 2).trans rfl, (blk_cell BK195.out 3).trans rfl, hx36_0⟩ (fun hHeld => ?_)
      clear hK K
      refine pure_ (i := 17) (N := some 42) (v := ?_) (a' := ?_) #[true, true, true, true, true, true, true, true, true, true, true, true, true, true, true, true, true, true, false] rfl rfl (any_of HT_.out (by kernel_rfl)) (fun _ _ _ h => h) (Or.inl ⟨by rfl, ?_⟩) ?_ ?_
      rotate_left
      ·intro w'
       go_simp
       with_reducible rfl
      rotate_left
      ·simp only [Act.put, List.setIfInBounds_toArray, List.set_cons_zero, List.set_cons_succ, i64_w, i32_w]
       rfl
      have HP52 := Kd.R_putn HO194.out (0 : Int) t200
      rw [← Ny201.out] at HP52
      have HQ52 := Aside0.mk HP52
      clear HP52
      refine last_ (i := 18) (N := none) #[true, true, true, true, true, true, true, true, true, true, true, true, true, true, true, true, true, true, true] rfl rfl (one_of HT_.out (by kernel_rfl)) (by decide) (fun K hK => ?_)
      refine skip_ (w1 := ?_) (by rfl) rfl ?_ ?_
      rotate_left
      ·go_simp
       rfl
      refine hK.out _ _ ?_
      clear hK K
      refine done_ (done_of HT_.out (by kernel_rfl)) ?_
      have n0_ : Aside0 (Kd.R (Kd.int .i64) 3 (w49.setCell ⟨go35, 0, none⟩ (.int .i64 t200)) w.heap.size (fun k_ => some k_ ≠ (.slice (some ⟨go35, 0, none⟩) t192.length co44 : Value).ownBlock) (.slice (some ⟨go32, 0, none⟩) t189.length co43) y198) := ⟨by (with_reducible repeat (first | apply Kd.R_alloc | apply Kd.R_drewN | apply Kd.R_drew)); exact Kd.R_mono (Kd.R_far (p := ⟨go35, 0, none⟩) (Kd.R_mono HO191.out (fun k_ hk => (⟨hk, fun e_ => hk (by rw [e_]; rfl)⟩ : _ ∧ k_ ≠ go35))) (fun _ hk => hk.2) (.int .i64 t200)) (fun _ hk => hk.1)⟩
      have n1_ : Aside0 (Kd.R (Kd.int .i64) 3 (w49.setCell ⟨go35, 0, none⟩ (.int .i64 t200)) w.heap.size (fun k_ => some k_ ≠ (.slice (some ⟨go32, 0, none⟩) t189.length co43 : Value).ownBlock) (.slice (some ⟨go35, 0, none⟩) t192.length co44) y201) := ⟨by (with_reducible repeat (first | apply Kd.R_alloc | apply Kd.R_drewN | apply Kd.R_drew)); exact HQ52.out⟩
      have n2_ : Aside0 ((w49.setCell ⟨go35, 0, none⟩ (.int .i64 t200)).heap[gb174]? = some (.cells #[.int .i64 a0_0, .int .i64 a0_1, .slice A0_2 l0_2.length c0_2, .slice A0_3 l0_3.length c0_3] 41 (0, 0))) := ⟨by (with_reducible repeat (first | refine blk_drewN ?_ _ | refine blk_drew ?_ | refine blk_alloc ?_ _)); refine blk_far ?_ (by have h_ := Kd.R_ne HO194.out BK174.out (by decide); intro e_; exact h_ (by rw [e_]; rfl)) _; (with_reducible repeat (first | refine blk_drewN ?_ _ | refine blk_drew ?_ | refine blk_alloc ?_ _)); exact BK174.out⟩
      have n3_ : Aside0 ((w49.setCell ⟨go35, 0, none⟩ (.int .i64 t200)).heap[gb175]? = some (.cells #[.int .i64 0, .int .i64 0, .slice none 0 0, .slice none 0 0] 41 (0, 0))) := ⟨by (with_reducible repeat (first | refine blk_drewN ?_ _ | refine blk_drew ?_ | refine blk_alloc ?_ _)); refine blk_far ?_ (by have h_ := Kd.R_ne HO194.out BK175.out (by decide); intro e_; exact h_ (by rw [e_]; rfl)) _; (with_reducible repeat (first | refine blk_drewN ?_ _ | refine blk_drew ?_ | refine blk_alloc ?_ _)); exact BK175.out⟩
      have n4_ : Aside0 ((w49.setCell ⟨go35, 0, none⟩ (.int .i64 t200)).heap[gb195]? = some (.cells #[.int .i64 t187, .int .i64 t188, .slice (some ⟨go32, 0, none⟩) t189.length co43, .slice (some ⟨go35, 0, none⟩) t192.length co44] 41 (0, 0))) := ⟨by (with_reducible repeat (first | refine blk_drewN ?_ _ | refine blk_drew ?_ | refine blk_alloc ?_ _)); refine blk_far ?_ (by have h_ := Kd.R_ne HO194.out BK195.out (by decide); intro e_; exact h_ (by rw [e_]; rfl)) _; (with_reducible repeat (first | refine blk_drewN ?_ _ | refine blk_drew ?_ | refine blk_alloc ?_ _)); exact BK195.out⟩
      have n5_ : Aside0 (Below w.heap.size w (w49.setCell ⟨go35, 0, none⟩ (.int .i64 t200))) := ⟨bwB⟩
      (try clear HO191)
      (try clear HO194)
      (try clear BK174)
      (try clear BK175)
      (try clear BK195)
      (try clear HB)
      generalize (w49.setCell ⟨go35, 0, none⟩ (.int .i64 t200)) = w53 at n0_ n1_ n2_ n3_ n4_ n5_ ⊢
      have HO191 := n0_
      have HO194 := n1_
      have BK174 := n2_
      have BK175 := n3_
      have BK195 := n4_
      have HB := n5_
      clear n0_ n1_ n2_ n3_ n4_ n5_
      obtain ⟨hcz54_0, hcz54_1, hcz54_2, hcz54_3, hfz54_0, hfz54_1, hfz54_2, hfz54_3⟩ := bwZ4 BK195.out
      obtain ⟨hcz55_0, hcz55_1, hcz55_2, hcz55_3, hfz55_0, hfz55_1, hfz55_2, hfz55_3⟩ := bwZ4 BK175.out
      try go_wp2
      refine bodyPost_ret (results_cell_row rfl _ _ gb175 41 #[.int .i64 t187, .int .i64 t188, .slice (some ⟨go32, 0, none⟩) t189.length co43, .slice (some ⟨go35, 0, none⟩) t192.length co44] (0, 0) _ rfl (by (with_reducible repeat (first | refine blk_drewN ?_ _ | refine blk_drew ?_ | refine blk_alloc ?_ _)); refine blk_put (cs := #[.int .i64 t187, .int .i64 t188, .slice (some ⟨go32, 0, none⟩) t189.length co43, .slice none 0 0]) ?_ 3 _ rfl; (with_reducible repeat (first | refine blk_drewN ?_ _ | refine blk_drew ?_ | refine blk_alloc ?_ _)); refine blk_put (cs := #[.int .i64 t187, .int .i64 t188, .slice none 0 0, .slice none 0 0]) ?_ 2 _ rfl; (with_reducible repeat (first | refine blk_drewN ?_ _ | refine blk_drew ?_ | refine blk_alloc ?_ _)); refine blk_put (cs := #[.int .i64 t187, .int .i64 0, .slice none 0 0, .slice none 0 0]) ?_ 1 _ rfl; (with_reducible repeat (first | refine blk_drewN ?_ _ | refine blk_drew ?_ | refine blk_alloc ?_ _)); refine blk_put (cs := #[.int .i64 0, .int .i64 0, .slice none 0 0, .slice none 0 0]) ?_ 0 _ rfl; (with_reducible repeat (first | refine blk_drewN ?_ _ | refine blk_drew ?_ | refine blk_alloc ?_ _)); exact BK175.out) Try.underlying41 rfl (by kernel_rfl)) rfl ?_
      exact ⟨_, _, by first | rfl | (simp [errW_none, errW_some] <;> rfl) | (simp [*, errW_none, errW_some] <;> rfl), by (with_reducible repeat (first | apply Kd.R_alloc | apply Kd.R_drewN | apply Kd.R_drew)); exact Kd.R_mono (Kd.R_far (p := ⟨gb175, 3, none⟩) (Kd.R_far (p := ⟨gb175, 2, none⟩) (Kd.R_far (p := ⟨gb175, 1, none⟩) (Kd.R_far (p := ⟨gb175, 0, none⟩) (Kd.R_types HO191.out BK175.out (by decide)) (fun _ hk => hk.2) (.int .i64 t187)) (fun _ hk => hk.2) (.int .i64 t188)) (fun _ hk => hk.2) (.slice (some ⟨go32, 0, none⟩) t189.length co43)) (fun _ hk => hk.2) (.slice (some ⟨go35, 0, none⟩) t192.length co44)) (fun _ hk => hk.1), by (with_reducible repeat (first | apply Kd.R_alloc | apply Kd.R_drewN | apply Kd.R_drew)); exact Kd.R_mono (Kd.R_far (p := ⟨gb175, 3, none⟩) (Kd.R_far (p := ⟨gb175, 2, none⟩) (Kd.R_far (p := ⟨gb175, 1, none⟩) (Kd.R_far (p := ⟨gb175, 0, none⟩) (Kd.R_types HO194.out BK175.out (by decide)) (fun _ hk => hk.2) (.int .i64 t187)) (fun _ hk => hk.2) (.int .i64 t188)) (fun _ hk => hk.2) (.slice (some ⟨go32, 0, none⟩) t189.length co43)) (fun _ hk => hk.2) (.slice (some ⟨go35, 0, none⟩) t192.length co44)) (fun _ hk => hk.1), by repeat (first | (with_reducible first | exact HB.out | apply below_alloc | apply pw_below_drewN | apply below_drew1 | refine below_set ?_ GE174.out | refine below_set ?_ GE175.out | refine below_set ?_ GE195.out) | exact HB.out)⟩
     ·rw [if_neg c33] at H
      exact absurd H (by simp)
    ·rw [if_neg c30] at H
     exact absurd H (by simp)


/-! ### spec_MakeNum: function 35 -/
def spec_MakeNum.f (k : Nat) (l0 : List Int) (a1 : Int) : Option (Int) := (spec_l01New.f k l0).bind fun bt254 => ((spec_l01Below.f bt254.1 bt254.2.1 (wrap64 (bt254.2.2 + 777)) a1).bind fun bt258 => (some bt258.1))
theorem spec_MakeNum.mono : ∀ a0 a1 k, LeO (spec_MakeNum.f k a0 a1) (spec_MakeNum.f (k + 1) a0 a1) := by
 intro a0 a1 k
 unfold spec_MakeNum.f
 repeat' first
   | (with_reducible exact spec_l01New.mono _ _)
   | (with_reducible exact LeO.refl _)
   | (with_reducible exact LeO.none _)
   | (with_reducible refine LeO.ite ?_ ?_)
   | (with_reducible refine LeO.bind ?_ (fun _ => ?_))
   | exact spec_l01New.mono _ _
   | exact LeO.none _
   | refine LeO.ite ?_ ?_
   | refine LeO.bind ?_ (fun _ => ?_)
set_option maxHeartbeats 8000000 in
set_option maxRecDepth 100000 in
theorem spec_MakeNum.calls (k : Nat) (A0 : Option Addr) (c0 : Nat) (l0 : List Int) (a1 : Int) (r : Int) (w : World) (hr0 : Kd.C (Kd.int .u8) w A0 l0.length l0) (hc0 : l0.length ≤ c0) (h : spec_MakeNum.f k l0 a1 = some r) :
  Calls Try.prog 35 #[.slice A0 l0.length c0, .int .i64 a1] w fun e w' => e = .returned (.int .i64 r) ∧ Below w.heap.size w w' := by
 have HR0 := Aside0.mk hr0
 have HC0 := Aside0.mk hc0
 clear hr0 hc0
 have HB := Aside0.mk (Below.refl w.heap.size w)
 have H : ((spec_l01New.f k l0).bind fun bt254 => ((spec_l01Below.f bt254.1 bt254.2.1 (wrap64 (bt254.2.2 + 777)) a1).bind fun bt258 => (some bt258.1))) = some r := h
 clear h
 replace H := Option.bind_eq_some_iff.mp H
 obtain ⟨⟨t254, t255, t256⟩, A30, H⟩ := H
 replace H : ((spec_l01Below.f t254 t255 (wrap64 (t256 + 777)) a1).bind fun bt258 => (some bt258.1)) = some r := H
 have A3 := Aside0.mk A30
 clear A30
 replace H := Option.bind_eq_some_iff.mp H
 obtain ⟨⟨t258, t259, t260⟩, A40, H⟩ := H
 replace H : (some t258) = some r := H
 have A4 := Aside0.mk A40
 clear A40
 obtain rfl := Option.some.inj H
 go_enter Try.func35, Try.ntmps35
 go_wp2_with (first | ((with_reducible refine gate_callee (f := 70) rfl ?_); refine goesL_ (some 7) rfl rfl Try.func70 (by kernel_rfl) rfl #[.slice A0 l0.length c0] rfl bwA ?_; (with_reducible refine (spec_l01New.calls k _ _ l0 t254 t255 t256 w _ ?side1 ?side2 ?side3 A3.out).mono ?_); (case side1 => repeat (first | (with_reducible first | exact HB.out | apply below_alloc | apply pw_below_drewN | apply below_drew1) | exact HB.out)); (case side2 => exact HR0.out); (case side3 => exact HC0.out); rintro e w5 ⟨g257, rfl, hi, hb, hb2⟩; refine ⟨_, rfl, ?_⟩; have n0_ := Aside0.mk (hb); have n1_ := Aside0.mk (hi); clear HB; have HB := n0_; have HI257 := n1_; clear n0_ n1_; (try clear hb); (try clear hb2); (try clear hk); (try clear hi); obtain ⟨ASz6_0, cSz6_0, HGz6, hgz6, HSz6_0⟩ := HI257.out; have hcz6_0 := cellS95_0 HGz6; have hcz6_1 := cellS95_1 HGz6; have hcz6_2 := cellS95_2 HGz6; have hfz6_1 := blk_frozen HGz6 1; have hfz6_2 := blk_frozen HGz6 2; clear HGz6 hgz6) | ((with_reducible refine gate_callee (f := 71) rfl ?_); refine goesL_ (some 18) rfl rfl Try.func71 (by kernel_rfl) rfl #[.pointer (some ⟨g257, 0, none⟩), .int .i64 a1] rfl bwA ?_; (with_reducible refine (spec_l01Below.calls g257 t254 t255 (wrap64 (t256 + 777)) a1 t258 t259 t260 w _ ?side1 ?side2 A4.out).mono ?_); (case side1 => repeat (first | (with_reducible first | exact HI257.out | apply IsS95.alloc | apply IsS95.drewN | apply IsS95.drew | apply IsS95.set_1 | apply IsS95.set_2) | exact HI257.out)); (case side2 => repeat (first | (with_reducible first | exact HB.out | apply below_alloc | apply pw_below_drewN | apply below_drew1 | refine below_set ?_ (IsS95.ge HI257.out)) | exact HB.out)); rintro e w7 ⟨rfl, hi, hb, hk⟩; refine ⟨_, rfl, ?_⟩; have n0_ := Aside0.mk (hb); have n1_ := Aside0.mk (hi); clear HB; clear HI257; have HB := n0_; have HI257 := n1_; clear n0_ n1_; (try clear hb); (try clear hb2); (try clear hk); (try clear hi)))
 go_ret
 exact ⟨by first | rfl | (simp [errW_none, errW_some] <;> rfl) | (simp [*, errW_none, errW_some] <;> rfl), by repeat (first | (with_reducible first | exact HB.out | apply below_alloc | apply pw_below_drewN | apply below_drew1 | refine below_set ?_ (IsS95.ge HI257.out)) | exact HB.out)⟩

end Go.Proofs.Ytbhcahiafibhfaa.RN
