-- Written by the session's own program myprint.py (the kit's print, with functions told by hand). Lean checks it.
import Derived.Test.YtbhcahiafibhfaaRAx0
import Derived.Test.YtbhcahiafibhfaaRAx4
import Derived.Test.YtbhcahiafibhfaaRAx5
namespace Go.Proofs.Ytbhcahiafibhfaa.RA
open Go.RowKit Go.Proofs.YtbhcahiafibhfaaW.PrintWords Go.Proofs.YtbhcahiafibhfaaW.PrintLast Go.Proofs.YtbhcahiafibhfaaW.PrintMore
attribute [local go_sem] max2_int min2_int max_two min_two max_three min_three max_four min_four   -- for this text's walks alone
set_option linter.unusedVariables false
set_option linter.unusedSimpArgs false

/-! ### spec_RingRoll: function 22 -/
mutual
def spec_RingRoll.j0 : Nat → Int → Bool → Int → Int → List Int → List Int → Int → Int → List Int → List Int → Option (Int × Int × List Int × List Int)
 | 0, _, _, _, _, _, _, _, _, _, _ => none
 | k + 1, x1, x26, x226000, x226001, x226002, x226003, x236000, x236001, x236002, x236003 => if x26 = true then (some (x236000, x236001, x236002, x236003)) else (if x226000 = 0 then (none) else (spec_RingRoll.l0 k x1 (wrap64 ((wrap64 (Int.tdiv x1 x226000)) - x226001)) (x226002.length : Int) 0 x226000 x226001 x226002 x226003 x236000 x236001 x236002 x236003))
def spec_RingRoll.l0 : Nat → Int → Int → Int → Int → Int → Int → List Int → List Int → Int → Int → List Int → List Int → Option (Int × Int × List Int × List Int)
 | 0, _, _, _, _, _, _, _, _, _, _, _, _ => none
 | k + 1, x1, x6, x37, x38, x226000, x226001, x226002, x226003, x236000, x236001, x236002, x236003 => if x38 < x37 then (if 0 ≤ x38 then (if x38 < (x236002.length : Int) then ((some (x236002.set (x38 : Int).toNat 0 : List Int)).bind fun y238 => (if x38 < (x236003.length : Int) then ((some (x236003.set (x38 : Int).toNat 0 : List Int)).bind fun y239 => (if x38 ≥ x6 then (if 0 ≤ (wrap64 (x38 - x6)) then (if (wrap64 (x38 - x6)) < (x226002.length : Int) then (if (wrap64 (x38 - x6)) < (x226003.length : Int) then (spec_RingRoll.l0 k x1 x6 x37 (wrap64 (x38 + 1)) x226000 x226001 x226002 x226003 x236000 x236001 (y238.set (x38 : Int).toNat (rd x226002 (wrap64 (x38 - x6)))) (y239.set (x38 : Int).toNat (rd x226003 (wrap64 (x38 - x6))))) else (none)) else (none)) else (none)) else (spec_RingRoll.l0 k x1 x6 x37 (wrap64 (x38 + 1)) x226000 x226001 x226002 x226003 x236000 x236001 y238 y239))) else (none))) else (none)) else (none)) else (if x226000 = 0 then (none) else (some (x236000, wrap64 (Int.tdiv x1 x226000), x236002, x236003)))
end
def spec_RingRoll.f (k : Nat) (a0_0 : Int) (a0_1 : Int) (l0_2 : List Int) (l0_3 : List Int) (a1 : Int) : Option (Int × Int × List Int × List Int) := (spec_l06Copy.f a0_0 a0_1 l0_2 l0_3).bind fun bt227 => ((spec_RingOk.f k a0_0 a0_1 l0_2 l0_3).bind fun t236 => (if t236 = true then ((spec_l06Time.f a1).bind fun t237 => (if t237 = true then (if a0_0 = 0 then (none) else (spec_RingRoll.j0 k a1 (decide ((wrap64 (Int.tdiv a1 a0_0)) ≤ a0_1)) a0_0 a0_1 l0_2 l0_3 bt227.1 bt227.2.1 bt227.2.2.1 bt227.2.2.2)) else (spec_RingRoll.j0 k a1 true a0_0 a0_1 l0_2 l0_3 bt227.1 bt227.2.1 bt227.2.2.1 bt227.2.2.2))) else (spec_RingRoll.j0 k a1 true a0_0 a0_1 l0_2 l0_3 bt227.1 bt227.2.1 bt227.2.2.1 bt227.2.2.2)))
theorem spec_RingRoll.mono_l : ∀ k, (∀ y0 y1 y2 y3 y4 y5 y6 y7 y8 y9, LeO (spec_RingRoll.j0 k y0 y1 y2 y3 y4 y5 y6 y7 y8 y9) (spec_RingRoll.j0 (k + 1) y0 y1 y2 y3 y4 y5 y6 y7 y8 y9)) ∧ (∀ y0 y1 y2 y3 y4 y5 y6 y7 y8 y9 y10 y11, LeO (spec_RingRoll.l0 k y0 y1 y2 y3 y4 y5 y6 y7 y8 y9 y10 y11) (spec_RingRoll.l0 (k + 1) y0 y1 y2 y3 y4 y5 y6 y7 y8 y9 y10 y11))
 | 0 => ⟨fun _ _ _ _ _ _ _ _ _ _ r h => by simp [spec_RingRoll.j0] at h, fun _ _ _ _ _ _ _ _ _ _ _ _ r h => by simp [spec_RingRoll.l0] at h⟩
 | k + 1 => by
  obtain ⟨ih0, ih1⟩ := spec_RingRoll.mono_l k
  refine ⟨?_, ?_⟩
  ·intro y0 y1 y2 y3 y4 y5 y6 y7 y8 y9
   unfold spec_RingRoll.j0
   repeat' first
   | (with_reducible exact ih0 _ _ _ _ _ _ _ _ _ _)
   | (with_reducible exact ih1 _ _ _ _ _ _ _ _ _ _ _ _)
   | (with_reducible exact spec_RingOk.mono _ _ _ _ _)
   | (with_reducible exact LeO.refl _)
   | (with_reducible exact LeO.none _)
   | (with_reducible refine LeO.ite ?_ ?_)
   | (with_reducible refine LeO.bind ?_ (fun _ => ?_))
   | exact ih0 _ _ _ _ _ _ _ _ _ _
   | exact ih1 _ _ _ _ _ _ _ _ _ _ _ _
   | exact spec_RingOk.mono _ _ _ _ _
   | exact LeO.none _
   | refine LeO.ite ?_ ?_
   | refine LeO.bind ?_ (fun _ => ?_)
  ·intro y0 y1 y2 y3 y4 y5 y6 y7 y8 y9 y10 y11
   unfold spec_RingRoll.l0
   repeat' first
   | (with_reducible exact ih0 _ _ _ _ _ _ _ _ _ _)
   | (with_reducible exact ih1 _ _ _ _ _ _ _ _ _ _ _ _)
   | (with_reducible exact spec_RingOk.mono _ _ _ _ _)
   | (with_reducible exact LeO.refl _)
   | (with_reducible exact LeO.none _)
   | (with_reducible refine LeO.ite ?_ ?_)
   | (with_reducible refine LeO.bind ?_ (fun _ => ?_))
   | exact ih0 _ _ _ _ _ _ _ _ _ _
   | exact ih1 _ _ _ _ _ _ _ _ _ _ _ _
   | exact spec_RingOk.mono _ _ _ _ _
   | exact LeO.none _
   | refine LeO.ite ?_ ?_
   | refine LeO.bind ?_ (fun _ => ?_)
theorem spec_RingRoll.mono : ∀ a0 a1 a2 a3 a4 k, LeO (spec_RingRoll.f k a0 a1 a2 a3 a4) (spec_RingRoll.f (k + 1) a0 a1 a2 a3 a4) := by
 intro a0 a1 a2 a3 a4 k
 obtain ⟨ih0, ih1⟩ := spec_RingRoll.mono_l k
 unfold spec_RingRoll.f
 repeat' first
   | (with_reducible exact ih0 _ _ _ _ _ _ _ _ _ _)
   | (with_reducible exact ih1 _ _ _ _ _ _ _ _ _ _ _ _)
   | (with_reducible exact spec_RingOk.mono _ _ _ _ _)
   | (with_reducible exact LeO.refl _)
   | (with_reducible exact LeO.none _)
   | (with_reducible refine LeO.ite ?_ ?_)
   | (with_reducible refine LeO.bind ?_ (fun _ => ?_))
   | exact ih0 _ _ _ _ _ _ _ _ _ _
   | exact ih1 _ _ _ _ _ _ _ _ _ _ _ _
   | exact spec_RingOk.mono _ _ _ _ _
   | exact LeO.none _
   | refine LeO.ite ?_ ?_
   | refine LeO.bind ?_ (fun _ => ?_)
def spec_RingRoll.T2 : Bool × List (List Nat × List Nat) := (true, [([], []), ([0], [0]), ([1], [1]), ([2, 1], [2]), ([3], [3]), ([4, 3, 3], [3, 4]), ([5, 3], [3, 5]), ([3, 6], [3, 6]), ([7, 5], [7]), ([8], [8]), ([8], [8]), ([10, 8], [8, 10]), ([9, 11, 8], [8, 9, 11]), ([8], [8]), ([13, 8], [8, 13]), ([12, 14, 8], [8, 12, 14]), ([8, 15], [8, 15])])
def spec_RingRoll.B2 : List Nat := [0, 1, 3, 7, 15, 31, 63, 127, 255, 511, 511, 1535, 4095, 511, 8703, 32767, 65535]
theorem spec_RingRoll.tab2 : rtab .any (opsOf Try.f22 2) = spec_RingRoll.T2 := by kernel_rfl
theorem spec_RingRoll.bits2 : waitsOk spec_RingRoll.T2.2 spec_RingRoll.B2 = true := by kernel_rfl
def spec_RingRoll.T4 : Bool × List (List Nat × List Nat) := (true, [([], []), ([], []), ([1], [1]), ([0, 2], [0, 2]), ([], []), ([4], [4]), ([3, 5], [3, 5]), ([6, 0, 1, 2, 3, 4, 5, 6], [6])])
def spec_RingRoll.B4 : List Nat := [0, 0, 2, 7, 0, 16, 63, 127]
theorem spec_RingRoll.tab4 : rtab .any (opsOf Try.f22 4) = spec_RingRoll.T4 := by kernel_rfl
theorem spec_RingRoll.bits4 : waitsOk spec_RingRoll.T4.2 spec_RingRoll.B4 = true := by kernel_rfl
def spec_RingRoll.T11 : Bool × List (List Nat × List Nat) := (true, [([], []), ([0], [0]), ([], []), ([], []), ([3], [3]), ([], []), ([], []), ([5, 6], [5, 6]), ([4, 7], [4, 7]), ([8], [8]), ([1, 2, 0, 1, 2, 3, 4, 5, 6, 7, 8, 9], [1, 2]), ([10, 9, 0, 1, 2, 3, 4, 5, 6, 7, 8, 9], [9, 10])])
def spec_RingRoll.B11 : List Nat := [0, 1, 0, 0, 8, 0, 0, 96, 248, 504, 1023, 2047]
theorem spec_RingRoll.tab11 : rtab .any (opsOf Try.f22 11) = spec_RingRoll.T11 := by kernel_rfl
theorem spec_RingRoll.bits11 : waitsOk spec_RingRoll.T11.2 spec_RingRoll.B11 = true := by kernel_rfl
def spec_RingRoll.T12 : Bool × List (List Nat × List Nat) := (true, [([], []), ([0], [0]), ([], []), ([], []), ([3], [3]), ([], []), ([], []), ([5, 6], [5, 6]), ([4, 7], [4, 7]), ([8], [8]), ([1, 2, 0, 1, 2, 3, 4, 5, 6, 7, 8, 9], [1, 2]), ([10, 9, 0, 1, 2, 3, 4, 5, 6, 7, 8, 9], [9, 10])])
def spec_RingRoll.B12 : List Nat := [0, 1, 0, 0, 8, 0, 0, 96, 248, 504, 1023, 2047]
theorem spec_RingRoll.tab12 : rtab .any (opsOf Try.f22 12) = spec_RingRoll.T12 := by kernel_rfl
theorem spec_RingRoll.bits12 : waitsOk spec_RingRoll.T12.2 spec_RingRoll.B12 = true := by kernel_rfl
set_option maxHeartbeats 8000000 in
set_option maxRecDepth 100000 in
theorem spec_RingRoll.calls (k : Nat) (a0_0 : Int) (a0_1 : Int) (A0_2 : Option Addr) (c0_2 : Nat) (l0_2 : List Int) (A0_3 : Option Addr) (c0_3 : Nat) (l0_3 : List Int) (a1 : Int) (r1 : Int) (r2 : Int) (r3 : List Int) (r4 : List Int) (w : World) (hr0_2 : Kd.C (Kd.int .i64) w A0_2 l0_2.length l0_2) (hc0_2 : l0_2.length ≤ c0_2) (hr0_3 : Kd.C (Kd.int .i64) w A0_3 l0_3.length l0_3) (hc0_3 : l0_3.length ≤ c0_3) (h : spec_RingRoll.f k a0_0 a0_1 l0_2 l0_3 a1 = some (r1, r2, r3, r4)) :
  Calls Try.prog 22 #[.agg #[.int .i64 a0_0, .int .i64 a0_1, .slice A0_2 l0_2.length c0_2, .slice A0_3 l0_3.length c0_3], .int .i64 a1] w fun e w' => ∃ v2_ v3_ : Value, e = .returned (.agg #[.int .i64 r1, .int .i64 r2, v2_, v3_]) ∧ Kd.R (Kd.int .i64) 3 w' w.heap.size (fun k_ => some k_ ≠ (v3_ : Value).ownBlock) v2_ r3 ∧ Kd.R (Kd.int .i64) 3 w' w.heap.size (fun k_ => some k_ ≠ (v2_ : Value).ownBlock) v3_ r4 ∧ Below w.heap.size w w' := by
 have hu41 := Try.underlying41
 have HR0_2 := Aside0.mk hr0_2
 have HC0_2 := Aside0.mk hc0_2
 clear hr0_2 hc0_2
 have HR0_3 := Aside0.mk hr0_3
 have HC0_3 := Aside0.mk hc0_3
 clear hr0_3 hc0_3
 have HB := Aside0.mk (Below.refl w.heap.size w)
 have H : ((spec_l06Copy.f a0_0 a0_1 l0_2 l0_3).bind fun bt227 => ((spec_RingOk.f k a0_0 a0_1 l0_2 l0_3).bind fun t236 => (if t236 = true then ((spec_l06Time.f a1).bind fun t237 => (if t237 = true then (if a0_0 = 0 then (none) else (spec_RingRoll.j0 k a1 (decide ((wrap64 (Int.tdiv a1 a0_0)) ≤ a0_1)) a0_0 a0_1 l0_2 l0_3 bt227.1 bt227.2.1 bt227.2.2.1 bt227.2.2.2)) else (spec_RingRoll.j0 k a1 true a0_0 a0_1 l0_2 l0_3 bt227.1 bt227.2.1 bt227.2.2.1 bt227.2.2.2))) else (spec_RingRoll.j0 k a1 true a0_0 a0_1 l0_2 l0_3 bt227.1 bt227.2.1 bt227.2.2.1 bt227.2.2.2)))) = some (r1, r2, r3, r4) := h
 clear h
 replace H := Option.bind_eq_some_iff.mp H
 obtain ⟨⟨t227, t228, t229, t232⟩, A30, H⟩ := H
 replace H : ((spec_RingOk.f k a0_0 a0_1 l0_2 l0_3).bind fun t236 => (if t236 = true then ((spec_l06Time.f a1).bind fun t237 => (if t237 = true then (if a0_0 = 0 then (none) else (spec_RingRoll.j0 k a1 (decide ((wrap64 (Int.tdiv a1 a0_0)) ≤ a0_1)) a0_0 a0_1 l0_2 l0_3 t227 t228 t229 t232)) else (spec_RingRoll.j0 k a1 true a0_0 a0_1 l0_2 l0_3 t227 t228 t229 t232))) else (spec_RingRoll.j0 k a1 true a0_0 a0_1 l0_2 l0_3 t227 t228 t229 t232))) = some (r1, r2, r3, r4) := H
 have A3 := Aside0.mk A30
 clear A30
 have HC4 := Aside0.mk H
 clear H
 go_enter Try.func22, Try.ntmps22
 go_upto_region 2 with (first | ((with_reducible refine gate_dst (N := 2) rfl ?_); refine box_event ?hg (N := 2) ?hd (cs := #[.int .i64 a0_0, .int .i64 a0_1, .slice A0_2 l0_2.length c0_2, .slice A0_3 l0_3.length c0_3]) (t := 41) ?hr ?_; (case hd => rfl); (case hg => rfl); (case hr => first | (go_simp; done) | (go_simp; rfl)); intro gb225 hg w5 hbox hb; have n0_ := Aside0.mk (below_step bwB hb); have n1_ := Aside0.mk (hbox); have n2_ := Aside0.mk ((by rw [hg]; exact (below_size bwB) : w.heap.size ≤ gb225)); have n3_ := Aside0.mk ((by rw [hg]; exact (below_size bwB) : w.heap.size ≤ gb225)); clear HB; have HB := n0_; have BK225 := n1_; have GW225 := n2_; have GE225 := n3_; clear n0_ n1_ n2_ n3_; clear hb hbox hg) | ((with_reducible refine gate_dst (N := 4) rfl ?_); refine box_event ?hg (N := 4) ?hd (cs := #[.int .i64 0, .int .i64 0, .slice none 0 0, .slice none 0 0]) (t := 41) ?hr ?_; (case hd => rfl); (case hg => rfl); (case hr => first | (go_simp; done) | (go_simp; rfl)); intro gb226 hg w6 hbox hb; have n0_ := Aside0.mk (blk_below (g := gb225) (o := .cells #[.int .i64 a0_0, .int .i64 a0_1, .slice A0_2 l0_2.length c0_2, .slice A0_3 l0_3.length c0_3] 41 (0, 0)) (bwK BK225.out) hb); have n1_ := Aside0.mk (below_step bwB hb); have n2_ := Aside0.mk (hbox); have n3_ := Aside0.mk ((by rw [hg]; exact (below_size bwB) : w.heap.size ≤ gb226)); have n4_ := Aside0.mk ((by rw [hg]; exact (below_size bwB) : w.heap.size ≤ gb226)); have n5_ := Aside0.mk ((by rw [hg]; exact Nat.ne_of_lt (blk_lt (g := gb225) (o := .cells #[.int .i64 a0_0, .int .i64 a0_1, .slice A0_2 l0_2.length c0_2, .slice A0_3 l0_3.length c0_3] 41 (0, 0)) (bwK BK225.out)) : gb225 ≠ gb226)); have n6_ := Aside0.mk ((by rw [hg]; exact Nat.ne_of_gt (blk_lt (g := gb225) (o := .cells #[.int .i64 a0_0, .int .i64 a0_1, .slice A0_2 l0_2.length c0_2, .slice A0_3 l0_3.length c0_3] 41 (0, 0)) (bwK BK225.out)) : gb226 ≠ gb225)); clear BK225; clear HB; have BK225 := n0_; have HB := n1_; have BK226 := n2_; have GW226 := n3_; have GE226 := n4_; have NB225_226 := n5_; have NB226_225 := n6_; clear n0_ n1_ n2_ n3_ n4_ n5_ n6_; clear hb hbox hg; have hnb7 := NB225_226.out; have hnc7 := NB226_225.out; obtain ⟨hcz8_0, hcz8_1, hcz8_2, hcz8_3, hfz8_0, hfz8_1, hfz8_2, hfz8_3⟩ := bwZ4 BK225.out) | ((with_reducible refine gate_callee (f := 62) rfl ?_); refine goesL_ (some 9) rfl rfl Try.func62 (by kernel_rfl) rfl #[.agg #[.int .i64 a0_0, .int .i64 a0_1, .slice A0_2 l0_2.length c0_2, .slice A0_3 l0_3.length c0_3]] rfl bwA ?_; (with_reducible refine (spec_l06Copy.calls a0_0 a0_1 _ _ l0_2 _ _ l0_3 t227 t228 t229 t232 _ ?side1 ?side2 ?side3 ?side4 A3.out).mono ?_); (case side1 => exact bwC (Kd.C_below HR0_2.out HB.out)); (case side2 => exact HC0_2.out); (case side3 => exact bwC (Kd.C_below HR0_3.out HB.out)); (case side4 => exact HC0_3.out); rintro e w9 ⟨v230, v233, rfl, ho0, ho1, hb⟩; refine ⟨_, rfl, ?_⟩; have n0_ := Aside0.mk (Kd.R_lower ho0 (below_size bwB)); have n1_ := Aside0.mk (Kd.R_lower ho1 (below_size bwB)); have n2_ := Aside0.mk (blk_below (g := gb225) (o := .cells #[.int .i64 a0_0, .int .i64 a0_1, .slice A0_2 l0_2.length c0_2, .slice A0_3 l0_3.length c0_3] 41 (0, 0)) (bwK BK225.out) hb); have n3_ := Aside0.mk (blk_below (g := gb226) (o := .cells #[.int .i64 0, .int .i64 0, .slice none 0 0, .slice none 0 0] 41 (0, 0)) (bwK BK226.out) hb); have n4_ := Aside0.mk (below_step bwB hb); clear BK225; clear BK226; clear HB; have HO231 := n0_; have HO234 := n1_; have BK225 := n2_; have BK226 := n3_; have HB := n4_; clear n0_ n1_ n2_ n3_ n4_; (try clear hb); (try clear hb2); (try clear hk); (try clear hi); (try clear ho0); (try clear ho1)) | ((with_reducible refine gate_dst (N := 5) rfl ?_); refine box_event ?hg (N := 5) ?hd (cs := #[.int .i64 0, .int .i64 0, .slice none 0 0, .slice none 0 0]) (t := 41) ?hr ?_; (case hd => rfl); (case hg => rfl); (case hr => first | (go_simp; done) | (go_simp; rfl)); intro gb235 hg w10 hbox hb; have n0_ := Aside0.mk (Kd.R_below (by (with_reducible repeat (first | apply Kd.R_alloc | apply Kd.R_drewN | apply Kd.R_drew)); exact HO231.out) hb); have n1_ := Aside0.mk (Kd.R_below (by (with_reducible repeat (first | apply Kd.R_alloc | apply Kd.R_drewN | apply Kd.R_drew)); exact HO234.out) hb); have n2_ := Aside0.mk (blk_below (g := gb225) (o := .cells #[.int .i64 a0_0, .int .i64 a0_1, .slice A0_2 l0_2.length c0_2, .slice A0_3 l0_3.length c0_3] 41 (0, 0)) (bwK BK225.out) hb); have n3_ := Aside0.mk (blk_below (g := gb226) (o := .cells #[.int .i64 0, .int .i64 0, .slice none 0 0, .slice none 0 0] 41 (0, 0)) (bwK BK226.out) hb); have n4_ := Aside0.mk (below_step bwB hb); have n5_ := Aside0.mk (hbox); have n6_ := Aside0.mk ((by rw [hg]; exact (below_size bwB) : w.heap.size ≤ gb235)); have n7_ := Aside0.mk ((by rw [hg]; exact (below_size bwB) : w.heap.size ≤ gb235)); have n8_ := Aside0.mk ((by rw [hg]; exact Nat.ne_of_lt (blk_lt (g := gb225) (o := .cells #[.int .i64 a0_0, .int .i64 a0_1, .slice A0_2 l0_2.length c0_2, .slice A0_3 l0_3.length c0_3] 41 (0, 0)) (bwK BK225.out)) : gb225 ≠ gb235)); have n9_ := Aside0.mk ((by rw [hg]; exact Nat.ne_of_gt (blk_lt (g := gb225) (o := .cells #[.int .i64 a0_0, .int .i64 a0_1, .slice A0_2 l0_2.length c0_2, .slice A0_3 l0_3.length c0_3] 41 (0, 0)) (bwK BK225.out)) : gb235 ≠ gb225)); have n10_ := Aside0.mk ((by rw [hg]; exact Nat.ne_of_lt (blk_lt (g := gb226) (o := .cells #[.int .i64 0, .int .i64 0, .slice none 0 0, .slice none 0 0] 41 (0, 0)) (bwK BK226.out)) : gb226 ≠ gb235)); have n11_ := Aside0.mk ((by rw [hg]; exact Nat.ne_of_gt (blk_lt (g := gb226) (o := .cells #[.int .i64 0, .int .i64 0, .slice none 0 0, .slice none 0 0] 41 (0, 0)) (bwK BK226.out)) : gb235 ≠ gb226)); clear HO231; clear HO234; clear BK225; clear BK226; clear HB; have HO231 := n0_; have HO234 := n1_; have BK225 := n2_; have BK226 := n3_; have HB := n4_; have BK235 := n5_; have GW235 := n6_; have GE235 := n7_; have NB225_235 := n8_; have NB235_225 := n9_; have NB226_235 := n10_; have NB235_226 := n11_; clear n0_ n1_ n2_ n3_ n4_ n5_ n6_ n7_ n8_ n9_ n10_ n11_; clear hb hbox hg; have hnb11 := NB235_225.out; have hnc11 := NB225_235.out; have hnb12 := NB235_226.out; have hnc12 := NB226_235.out; obtain ⟨hcz13_0, hcz13_1, hcz13_2, hcz13_3, hfz13_0, hfz13_1, hfz13_2, hfz13_3⟩ := bwZ4 BK235.out; obtain ⟨Ao14, co14, eo14⟩ := Kd.R_slice HO231.out; subst eo14; obtain ⟨Ao15, co15, eo15⟩ := Kd.R_slice HO234.out; subst eo15))
 (try simp only [Act.put, List.setIfInBounds_toArray, List.set_cons_zero, List.set_cons_succ])
 go_cut [26] (fun v26 wc => ∃ (kq : Nat) (x26_3 : Bool), v26 = .bool x26_3 ∧ Aside0 (spec_RingRoll.j0 kq a1 x26_3 a0_0 a0_1 l0_2 l0_3 t227 t228 t229 t232 = some (r1, r2, r3, r4)) ∧ Aside0 (kq ≤ k) ∧ Aside0 (Kd.R (Kd.int .i64) 3 wc w.heap.size (fun k_ => some k_ ≠ ((.slice Ao15 t232.length co15) : Value).ownBlock) (.slice Ao14 t229.length co14) t229) ∧ Aside0 (Kd.R (Kd.int .i64) 3 wc w.heap.size (fun k_ => some k_ ≠ ((.slice Ao14 t229.length co14) : Value).ownBlock) (.slice Ao15 t232.length co15) t232) ∧ Aside0 (wc.heap[gb225]? = some (.cells #[.int .i64 a0_0, .int .i64 a0_1, (.slice A0_2 l0_2.length c0_2), (.slice A0_3 l0_3.length c0_3)] 41 (0, 0))) ∧ Aside0 (wc.heap[gb226]? = some (.cells #[.int .i64 0, .int .i64 0, (.slice none 0 0), (.slice none 0 0)] 41 (0, 0))) ∧ Aside0 (wc.heap[gb235]? = some (.cells #[.int .i64 t227, .int .i64 t228, (.slice Ao14 t229.length co14), (.slice Ao15 t232.length co15)] 41 (0, 0))) ∧ Aside0 (Below w.heap.size w wc))
 case first =>
  have H := HC4.out
  clear HC4
  replace H := Option.bind_eq_some_iff.mp H
  obtain ⟨t236, A160, H⟩ := H
  replace H : (if t236 = true then ((spec_l06Time.f a1).bind fun t237 => (if t237 = true then (if a0_0 = 0 then (none) else (spec_RingRoll.j0 k a1 (decide ((wrap64 (Int.tdiv a1 a0_0)) ≤ a0_1)) a0_0 a0_1 l0_2 l0_3 t227 t228 t229 t232)) else (spec_RingRoll.j0 k a1 true a0_0 a0_1 l0_2 l0_3 t227 t228 t229 t232))) else (spec_RingRoll.j0 k a1 true a0_0 a0_1 l0_2 l0_3 t227 t228 t229 t232)) = some (r1, r2, r3, r4) := H
  have A16 := Aside0.mk A160
  clear A160
  by_cases c17 : t236 = true
  ·subst c17
   have H1 : ((spec_l06Time.f a1).bind fun t237 => (if t237 = true then (if a0_0 = 0 then (none) else (spec_RingRoll.j0 k a1 (decide ((wrap64 (Int.tdiv a1 a0_0)) ≤ a0_1)) a0_0 a0_1 l0_2 l0_3 t227 t228 t229 t232)) else (spec_RingRoll.j0 k a1 true a0_0 a0_1 l0_2 l0_3 t227 t228 t229 t232))) = some (r1, r2, r3, r4) := by rw [if_pos rfl] at H; exact H
   clear H
   have H := H1
   clear H1
   replace H := Option.bind_eq_some_iff.mp H
   obtain ⟨t237, A180, H⟩ := H
   replace H : (if t237 = true then (if a0_0 = 0 then (none) else (spec_RingRoll.j0 k a1 (decide ((wrap64 (Int.tdiv a1 a0_0)) ≤ a0_1)) a0_0 a0_1 l0_2 l0_3 t227 t228 t229 t232)) else (spec_RingRoll.j0 k a1 true a0_0 a0_1 l0_2 l0_3 t227 t228 t229 t232)) = some (r1, r2, r3, r4) := H
   have A18 := Aside0.mk A180
   clear A180
   by_cases c19 : t237 = true
   ·subst c19
    have H1 : (if a0_0 = 0 then (none) else (spec_RingRoll.j0 k a1 (decide ((wrap64 (Int.tdiv a1 a0_0)) ≤ a0_1)) a0_0 a0_1 l0_2 l0_3 t227 t228 t229 t232)) = some (r1, r2, r3, r4) := by rw [if_pos rfl] at H; exact H
    clear H
    have H := H1
    clear H1
    by_cases c20 : a0_0 = 0
    ·rw [if_pos c20] at H
     exact absurd H (by simp)
    ·rw [if_neg c20] at H
     have c20b0 : (a0_0 == 0) = false := beq_eq_false_iff_ne.mpr c20
     have c20b1 : (a0_0 != 0) = true := bne_iff_ne.mpr c20
     (first | rw [c20b0] | (simp only [i64_w, i32_w]; rw [c20b0]) | skip)
     have H' := Aside0.mk H
     clear H
     try go_wp2
     have n0_ : Aside0 (Kd.R (Kd.int .i64) 3 ((((w10.setCell ⟨gb235, 0, none⟩ (.int .i64 t227)).setCell ⟨gb235, 1, none⟩ (.int .i64 t228)).setCell ⟨gb235, 2, none⟩ (.slice Ao14 t229.length co14)).setCell ⟨gb235, 3, none⟩ (.slice Ao15 t232.length co15)) w.heap.size (fun k_ => some k_ ≠ (.slice Ao15 t232.length co15 : Value).ownBlock) (.slice Ao14 t229.length co14) t229) := ⟨by (with_reducible repeat (first | apply Kd.R_alloc | apply Kd.R_drewN | apply Kd.R_drew)); exact Kd.R_mono (Kd.R_far (p := ⟨gb235, 3, none⟩) (Kd.R_far (p := ⟨gb235, 2, none⟩) (Kd.R_far (p := ⟨gb235, 1, none⟩) (Kd.R_far (p := ⟨gb235, 0, none⟩) (Kd.R_types HO231.out BK235.out (by decide)) (fun _ hk => hk.2) (.int .i64 t227)) (fun _ hk => hk.2) (.int .i64 t228)) (fun _ hk => hk.2) (.slice Ao14 t229.length co14)) (fun _ hk => hk.2) (.slice Ao15 t232.length co15)) (fun _ hk => hk.1)⟩
     have n1_ : Aside0 (Kd.R (Kd.int .i64) 3 ((((w10.setCell ⟨gb235, 0, none⟩ (.int .i64 t227)).setCell ⟨gb235, 1, none⟩ (.int .i64 t228)).setCell ⟨gb235, 2, none⟩ (.slice Ao14 t229.length co14)).setCell ⟨gb235, 3, none⟩ (.slice Ao15 t232.length co15)) w.heap.size (fun k_ => some k_ ≠ (.slice Ao14 t229.length co14 : Value).ownBlock) (.slice Ao15 t232.length co15) t232) := ⟨by (with_reducible repeat (first | apply Kd.R_alloc | apply Kd.R_drewN | apply Kd.R_drew)); exact Kd.R_mono (Kd.R_far (p := ⟨gb235, 3, none⟩) (Kd.R_far (p := ⟨gb235, 2, none⟩) (Kd.R_far (p := ⟨gb235, 1, none⟩) (Kd.R_far (p := ⟨gb235, 0, none⟩) (Kd.R_types HO234.out BK235.out (by decide)) (fun _ hk => hk.2) (.int .i64 t227)) (fun _ hk => hk.2) (.int .i64 t228)) (fun _ hk => hk.2) (.slice Ao14 t229.length co14)) (fun _ hk => hk.2) (.slice Ao15 t232.length co15)) (fun _ hk => hk.1)⟩
     have n2_ : Aside0 (((((w10.setCell ⟨gb235, 0, none⟩ (.int .i64 t227)).setCell ⟨gb235, 1, none⟩ (.int .i64 t228)).setCell ⟨gb235, 2, none⟩ (.slice Ao14 t229.length co14)).setCell ⟨gb235, 3, none⟩ (.slice Ao15 t232.length co15)).heap[gb225]? = some (.cells #[.int .i64 a0_0, .int .i64 a0_1, .slice A0_2 l0_2.length c0_2, .slice A0_3 l0_3.length c0_3] 41 (0, 0))) := ⟨bwR NB225_235.out BK225.out⟩
     have n3_ : Aside0 (((((w10.setCell ⟨gb235, 0, none⟩ (.int .i64 t227)).setCell ⟨gb235, 1, none⟩ (.int .i64 t228)).setCell ⟨gb235, 2, none⟩ (.slice Ao14 t229.length co14)).setCell ⟨gb235, 3, none⟩ (.slice Ao15 t232.length co15)).heap[gb226]? = some (.cells #[.int .i64 0, .int .i64 0, .slice none 0 0, .slice none 0 0] 41 (0, 0))) := ⟨bwR NB226_235.out BK226.out⟩
     have n4_ : Aside0 (((((w10.setCell ⟨gb235, 0, none⟩ (.int .i64 t227)).setCell ⟨gb235, 1, none⟩ (.int .i64 t228)).setCell ⟨gb235, 2, none⟩ (.slice Ao14 t229.length co14)).setCell ⟨gb235, 3, none⟩ (.slice Ao15 t232.length co15)).heap[gb235]? = some (.cells #[.int .i64 t227, .int .i64 t228, .slice Ao14 t229.length co14, .slice Ao15 t232.length co15] 41 (0, 0))) := ⟨by (with_reducible repeat (first | refine blk_drewN ?_ _ | refine blk_drew ?_ | refine blk_alloc ?_ _)); refine blk_put (cs := #[.int .i64 t227, .int .i64 t228, .slice Ao14 t229.length co14, .slice none 0 0]) ?_ 3 _ rfl; (with_reducible repeat (first | refine blk_drewN ?_ _ | refine blk_drew ?_ | refine blk_alloc ?_ _)); refine blk_put (cs := #[.int .i64 t227, .int .i64 t228, .slice none 0 0, .slice none 0 0]) ?_ 2 _ rfl; (with_reducible repeat (first | refine blk_drewN ?_ _ | refine blk_drew ?_ | refine blk_alloc ?_ _)); refine blk_put (cs := #[.int .i64 t227, .int .i64 0, .slice none 0 0, .slice none 0 0]) ?_ 1 _ rfl; (with_reducible repeat (first | refine blk_drewN ?_ _ | refine blk_drew ?_ | refine blk_alloc ?_ _)); refine blk_put (cs := #[.int .i64 0, .int .i64 0, .slice none 0 0, .slice none 0 0]) ?_ 0 _ rfl; (with_reducible repeat (first | refine blk_drewN ?_ _ | refine blk_drew ?_ | refine blk_alloc ?_ _)); exact BK235.out⟩
     have n5_ : Aside0 (Below w.heap.size w ((((w10.setCell ⟨gb235, 0, none⟩ (.int .i64 t227)).setCell ⟨gb235, 1, none⟩ (.int .i64 t228)).setCell ⟨gb235, 2, none⟩ (.slice Ao14 t229.length co14)).setCell ⟨gb235, 3, none⟩ (.slice Ao15 t232.length co15))) := ⟨bwB⟩
     (try clear HO231)
     (try clear HO234)
     (try clear BK225)
     (try clear BK226)
     (try clear BK235)
     (try clear HB)
     generalize ((((w10.setCell ⟨gb235, 0, none⟩ (.int .i64 t227)).setCell ⟨gb235, 1, none⟩ (.int .i64 t228)).setCell ⟨gb235, 2, none⟩ (.slice Ao14 t229.length co14)).setCell ⟨gb235, 3, none⟩ (.slice Ao15 t232.length co15)) = w21 at n0_ n1_ n2_ n3_ n4_ n5_ ⊢
     have HO231 := n0_
     have HO234 := n1_
     have BK225 := n2_
     have BK226 := n3_
     have BK235 := n4_
     have HB := n5_
     clear n0_ n1_ n2_ n3_ n4_ n5_
     have n0_ := Aside0.mk (Kd.R_drew HO231.out)
     have n1_ := Aside0.mk (Kd.R_drew HO234.out)
     have n2_ := Aside0.mk (blk_drew BK225.out)
     have n3_ := Aside0.mk (blk_drew BK226.out)
     have n4_ := Aside0.mk (blk_drew BK235.out)
     have n5_ := Aside0.mk (below_drew1 HB.out)
     clear HO231
     clear HO234
     clear BK225
     clear BK226
     clear BK235
     clear HB
     have HO231 := n0_
     have HO234 := n1_
     have BK225 := n2_
     have BK226 := n3_
     have BK235 := n4_
     have HB := n5_
     clear n0_ n1_ n2_ n3_ n4_ n5_
     refine start_ (n := 17) (S := fun w' => w'.cell? ⟨gb225, 0, none⟩ = some (.int .i64 a0_0) ∧ w'.cell? ⟨gb225, 1, none⟩ = some (.int .i64 a0_1) ∧ w'.cell? ⟨gb225, 2, none⟩ = some (.slice A0_2 l0_2.length c0_2) ∧ w'.cell? ⟨gb225, 3, none⟩ = some (.slice A0_3 l0_3.length c0_3)) (ds := []) #[false, false, false, false, false, false, false, false, false, false, false, false, false, false, false, false, false] (by kernel_rfl) rfl rfl ⟨(blk_cell BK225.out 0).trans rfl, (blk_cell BK225.out 1).trans rfl, (blk_cell BK225.out 2).trans rfl, (blk_cell BK225.out 3).trans rfl⟩ (fun hHeld => ?_); refine with_tabW spec_RingRoll.tab2 spec_RingRoll.bits2 (fun HT_ HW_ => ?_)
     generalize w21.drew = w22 at HO231 HO234 BK225 BK226 BK235 HB hHeld ⊢
     refine take_ (i := 0) (N := some 10) (v := ?_) (a' := ?_) #[true, false, false, false, false, false, false, false, false, false, false, false, false, false, false, false, false] rfl rfl (take_ofW HT_.out HW_.out (by kernel_rfl)) (fun _ _ _ h => h) (Or.inl ⟨by rfl, ?_⟩) hHeld ?_ ?_
     rotate_left
     ·rintro w' ⟨s0, s1, s2, s3⟩
      go_simp
      with_reducible rfl
     rotate_left
     ·simp only [Act.put, List.setIfInBounds_toArray, List.set_cons_zero, List.set_cons_succ, i64_w, i32_w]
      rfl
     refine one_ (i := 1) (N := some 11) #[true, true, false, false, false, false, false, false, false, false, false, false, false, false, false, false, false] rfl rfl (one_of HT_.out (by kernel_rfl)) (by decide) (fun K hK => ?_)
     refine goes_ Try.func63 (by kernel_rfl) rfl #[.agg #[.int .i64 a0_0, .int .i64 a0_1, .slice A0_2 l0_2.length c0_2, .slice A0_3 l0_3.length c0_3]] (by rfl) rfl rfl bwA ?_
     with_reducible refine (spec_RingOk.calls k a0_0 a0_1 _ _ l0_2 _ _ l0_3 true _ ?side1 ?side2 ?side3 ?side4 A16.out).mono ?_
     (case side1 => exact bwC (Kd.C_below HR0_2.out HB.out))
     (case side2 => exact HC0_2.out)
     (case side3 => exact bwC (Kd.C_below HR0_3.out HB.out))
     (case side4 => exact HC0_3.out)
     rintro e w23 ⟨rfl, hb⟩
     refine ⟨_, rfl, ?_⟩
     have n0_ := Aside0.mk (Kd.R_below (by (with_reducible repeat (first | apply Kd.R_alloc | apply Kd.R_drewN | apply Kd.R_drew)); exact HO231.out) hb)
     have n1_ := Aside0.mk (Kd.R_below (by (with_reducible repeat (first | apply Kd.R_alloc | apply Kd.R_drewN | apply Kd.R_drew)); exact HO234.out) hb)
     have n2_ := Aside0.mk (blk_below (g := gb225) (o := .cells #[.int .i64 a0_0, .int .i64 a0_1, .slice A0_2 l0_2.length c0_2, .slice A0_3 l0_3.length c0_3] 41 (0, 0)) (bwK BK225.out) hb)
     have n3_ := Aside0.mk (blk_below (g := gb226) (o := .cells #[.int .i64 0, .int .i64 0, .slice none 0 0, .slice none 0 0] 41 (0, 0)) (bwK BK226.out) hb)
     have n4_ := Aside0.mk (blk_below (g := gb235) (o := .cells #[.int .i64 t227, .int .i64 t228, .slice Ao14 t229.length co14, .slice Ao15 t232.length co15] 41 (0, 0)) (bwK BK235.out) hb)
     have n5_ := Aside0.mk (below_step bwB hb)
     clear HO231
     clear HO234
     clear BK225
     clear BK226
     clear BK235
     clear HB
     have HO231 := n0_
     have HO234 := n1_
     have BK225 := n2_
     have BK226 := n3_
     have BK235 := n4_
     have HB := n5_
     clear n0_ n1_ n2_ n3_ n4_ n5_
     (try clear hb)
     (try clear hb2)
     (try clear hk)
     (try clear hi)
     refine hK.out _ _ ⟨(blk_cell BK225.out 0).trans rfl, (blk_cell BK225.out 1).trans rfl, (blk_cell BK225.out 2).trans rfl, (blk_cell BK225.out 3).trans rfl⟩ (fun hHeld => ?_)
     clear hK K
     refine norm_ (a' := ?_) ?_ ?_
     rotate_left
     ·show Act.put _ (some 11) _ = _
      simp only [Act.put, List.setIfInBounds_toArray, List.set_cons_zero, List.set_cons_succ, i64_w, i32_w]
      rfl
     refine pure_ (i := 2) (N := some 12) (v := ?_) (a' := ?_) #[true, true, true, false, false, false, false, false, false, false, false, false, false, false, false, false, false] rfl rfl (any_of HT_.out (by kernel_rfl)) (fun _ _ _ h => h) (Or.inl ⟨by rfl, ?_⟩) ?_ ?_
     rotate_left
     ·intro w'
      go_simp
      with_reducible rfl
     rotate_left
     ·simp only [Act.put, List.setIfInBounds_toArray, List.set_cons_zero, List.set_cons_succ, i64_w, i32_w]
      rfl
     refine pure_ (i := 3) (N := some 13) (v := ?_) (a' := ?_) #[true, true, true, true, false, false, false, false, false, false, false, false, false, false, false, false, false] rfl rfl (any_of HT_.out (by kernel_rfl)) (fun _ _ _ h => h) (Or.inl ⟨by rfl, ?_⟩) ?_ ?_
     rotate_left
     ·intro w'
      go_simp
      with_reducible rfl
     rotate_left
     ·simp only [Act.put, List.setIfInBounds_toArray, List.set_cons_zero, List.set_cons_succ, i64_w, i32_w]
      rfl
     refine pure_ (i := 4) (N := some 14) (v := ?_) (a' := ?_) #[true, true, true, true, true, false, false, false, false, false, false, false, false, false, false, false, false] rfl rfl (any_of HT_.out (by kernel_rfl)) (fun _ _ _ h => h) (Or.inl ⟨by rfl, ?_⟩) ?_ ?_
     rotate_left
     ·intro w'
      go_simp
      with_reducible rfl
     rotate_left
     ·simp only [Act.put, List.setIfInBounds_toArray, List.set_cons_zero, List.set_cons_succ, i64_w, i32_w]
      rfl
     refine one_ (i := 5) (N := some 15) #[true, true, true, true, true, true, false, false, false, false, false, false, false, false, false, false, false] rfl rfl (one_of HT_.out (by kernel_rfl)) (by decide) (fun K hK => ?_)
     refine goes_ Try.func44 (by kernel_rfl) rfl #[.int .i64 a1] (by rfl) rfl rfl bwA ?_
     with_reducible refine (spec_l06Time.calls a1 true _ A18.out).mono ?_
     rintro e w' ⟨rfl, ⟨nd, rfl⟩⟩
     refine ⟨_, rfl, ?_⟩
     refine hK.out _ _ ⟨(blk_cell BK225.out 0).trans rfl, (blk_cell BK225.out 1).trans rfl, (blk_cell BK225.out 2).trans rfl, (blk_cell BK225.out 3).trans rfl⟩ (fun hHeld => ?_)
     clear hK K
     refine norm_ (a' := ?_) ?_ ?_
     rotate_left
     ·show Act.put _ (some 15) _ = _
      simp only [Act.put, List.setIfInBounds_toArray, List.set_cons_zero, List.set_cons_succ, i64_w, i32_w]
      rfl
     refine pure_ (i := 6) (N := some 16) (v := ?_) (a' := ?_) #[true, true, true, true, true, true, true, false, false, false, false, false, false, false, false, false, false] rfl rfl (any_of HT_.out (by kernel_rfl)) (fun _ _ _ h => h) (Or.inl ⟨by rfl, ?_⟩) ?_ ?_
     rotate_left
     ·intro w'
      go_simp
      with_reducible rfl
     rotate_left
     ·simp only [Act.put, List.setIfInBounds_toArray, List.set_cons_zero, List.set_cons_succ, i64_w, i32_w]
      rfl
     refine pure_ (i := 7) (N := some 17) (v := ?_) (a' := ?_) #[true, true, true, true, true, true, true, true, false, false, false, false, false, false, false, false, false] rfl rfl (any_of HT_.out (by kernel_rfl)) (fun _ _ _ h => h) (Or.inl ⟨by rfl, ?_⟩) ?_ ?_
     rotate_left
     ·intro w'
      go_simp
      with_reducible rfl
     rotate_left
     ·simp only [Act.put, List.setIfInBounds_toArray, List.set_cons_zero, List.set_cons_succ, i64_w, i32_w]
      rfl
     refine pure_ (i := 8) (N := some 18) (v := ?_) (a' := ?_) #[true, true, true, true, true, true, true, true, true, false, false, false, false, false, false, false, false] rfl rfl (any_of HT_.out (by kernel_rfl)) (fun _ _ _ h => h) (Or.inl ⟨by rfl, ?_⟩) ?_ ?_
     rotate_left
     ·intro w'
      go_simp
      with_reducible rfl
     rotate_left
     ·simp only [Act.put, List.setIfInBounds_toArray, List.set_cons_zero, List.set_cons_succ, i64_w, i32_w]
      rfl
     refine pure_ (i := 9) (N := some 19) (v := ?_) (a' := ?_) #[true, true, true, true, true, true, true, true, true, true, false, false, false, false, false, false, false] rfl rfl (any_of HT_.out (by kernel_rfl)) (fun _ _ _ h => h) (Or.inl ⟨by rfl, ?_⟩) ?_ ?_
     rotate_left
     ·intro w'
      go_simp
      with_reducible rfl
     rotate_left
     ·simp only [Act.put, List.setIfInBounds_toArray, List.set_cons_zero, List.set_cons_succ, i64_w, i32_w]
      rfl
     refine pure_ (i := 10) (N := some 20) (v := ?_) (a' := ?_) #[true, true, true, true, true, true, true, true, true, true, true, false, false, false, false, false, false] rfl rfl (any_of HT_.out (by kernel_rfl)) (fun _ _ _ h => h) (Or.inl ⟨by rfl, ?_⟩) ?_ ?_
     rotate_left
     ·intro w'
      go_simp
      with_reducible rfl
     rotate_left
     ·simp only [Act.put, List.setIfInBounds_toArray, List.set_cons_zero, List.set_cons_succ, i64_w, i32_w]
      rfl
     refine pure_ (i := 13) (N := some 23) (v := ?_) (a' := ?_) #[true, true, true, true, true, true, true, true, true, true, true, false, false, true, false, false, false] rfl rfl (any_of HT_.out (by kernel_rfl)) (fun _ _ _ h => h) (Or.inl ⟨by rfl, ?_⟩) ?_ ?_
     rotate_left
     ·intro w'
      go_simp
      with_reducible rfl
     rotate_left
     ·simp only [Act.put, List.setIfInBounds_toArray, List.set_cons_zero, List.set_cons_succ, i64_w, i32_w]
      rfl
     refine take_ (i := 11) (N := some 21) (v := ?_) (a' := ?_) #[true, true, true, true, true, true, true, true, true, true, true, true, false, true, false, false, false] rfl rfl (take_ofW HT_.out HW_.out (by kernel_rfl)) (fun _ _ _ h => h) (Or.inl ⟨by rfl, ?_⟩) hHeld ?_ ?_
     rotate_left
     ·rintro w' ⟨s0, s1, s2, s3⟩
      go_simp
      with_reducible rfl
     rotate_left
     ·simp only [Act.put, List.setIfInBounds_toArray, List.set_cons_zero, List.set_cons_succ, i64_w, i32_w]
      rfl
     refine pure_ (i := 12) (N := some 22) (v := ?_) (a' := ?_) #[true, true, true, true, true, true, true, true, true, true, true, true, true, true, false, false, false] rfl rfl (any_of HT_.out (by kernel_rfl)) (fun _ _ _ h => h) (Or.inl ⟨by rfl, ?_⟩) ?_ ?_
     rotate_left
     ·intro w'
      go_simp
      with_reducible rfl
     rotate_left
     ·simp only [Act.put, List.setIfInBounds_toArray, List.set_cons_zero, List.set_cons_succ, i64_w, i32_w]
      rfl
     refine take_ (i := 14) (N := some 24) (v := ?_) (a' := ?_) #[true, true, true, true, true, true, true, true, true, true, true, true, true, true, true, false, false] rfl rfl (take_ofW HT_.out HW_.out (by kernel_rfl)) (fun _ _ _ h => h) (Or.inl ⟨by rfl, ?_⟩) hHeld ?_ ?_
     rotate_left
     ·rintro w' ⟨s0, s1, s2, s3⟩
      go_simp
      with_reducible rfl
     rotate_left
     ·simp only [Act.put, List.setIfInBounds_toArray, List.set_cons_zero, List.set_cons_succ, i64_w, i32_w]
      rfl
     refine pure_ (i := 15) (N := some 25) (v := ?_) (a' := ?_) #[true, true, true, true, true, true, true, true, true, true, true, true, true, true, true, true, false] rfl rfl (any_of HT_.out (by kernel_rfl)) (fun _ _ _ h => h) (Or.inl ⟨by rfl, ?_⟩) ?_ ?_
     rotate_left
     ·intro w'
      go_simp
      with_reducible rfl
     rotate_left
     ·simp only [Act.put, List.setIfInBounds_toArray, List.set_cons_zero, List.set_cons_succ, i64_w, i32_w]
      rfl
     refine pure_ (i := 16) (N := some 26) (v := ?_) (a' := ?_) #[true, true, true, true, true, true, true, true, true, true, true, true, true, true, true, true, true] rfl rfl (any_of HT_.out (by kernel_rfl)) (fun _ _ _ h => h) (Or.inl ⟨by rfl, ?_⟩) ?_ ?_
     rotate_left
     ·intro w'
      go_simp
      with_reducible rfl
     rotate_left
     ·simp only [Act.put, List.setIfInBounds_toArray, List.set_cons_zero, List.set_cons_succ, i64_w, i32_w]
      rfl
     refine done_ (done_of HT_.out (by kernel_rfl)) ?_
     try go_wp2
     go_meet
     case rel => exact ⟨_, (decide ((wrap64 (Int.tdiv a1 a0_0)) ≤ a0_1)), (by first | rfl | (simp; done) | (simp [*]; done)), H', ⟨by first | omega | exact Nat.le_refl _⟩, ⟨by (with_reducible repeat (first | apply Kd.R_alloc | apply Kd.R_drewN | apply Kd.R_drew)); exact HO231.out⟩, ⟨by (with_reducible repeat (first | apply Kd.R_alloc | apply Kd.R_drewN | apply Kd.R_drew)); exact HO234.out⟩, ⟨bwK BK225.out⟩, ⟨bwK BK226.out⟩, ⟨bwK BK235.out⟩, ⟨bwB⟩⟩
   ·replace c19 := Bool.eq_false_iff.mpr c19
    subst c19
    have H1 : (spec_RingRoll.j0 k a1 true a0_0 a0_1 l0_2 l0_3 t227 t228 t229 t232) = some (r1, r2, r3, r4) := by rw [if_neg (show ¬ (false = true) by decide)] at H; exact H
    clear H
    have H := H1
    clear H1
    have H' := Aside0.mk H
    clear H
    try go_wp2
    have n0_ : Aside0 (Kd.R (Kd.int .i64) 3 ((((w10.setCell ⟨gb235, 0, none⟩ (.int .i64 t227)).setCell ⟨gb235, 1, none⟩ (.int .i64 t228)).setCell ⟨gb235, 2, none⟩ (.slice Ao14 t229.length co14)).setCell ⟨gb235, 3, none⟩ (.slice Ao15 t232.length co15)) w.heap.size (fun k_ => some k_ ≠ (.slice Ao15 t232.length co15 : Value).ownBlock) (.slice Ao14 t229.length co14) t229) := ⟨by (with_reducible repeat (first | apply Kd.R_alloc | apply Kd.R_drewN | apply Kd.R_drew)); exact Kd.R_mono (Kd.R_far (p := ⟨gb235, 3, none⟩) (Kd.R_far (p := ⟨gb235, 2, none⟩) (Kd.R_far (p := ⟨gb235, 1, none⟩) (Kd.R_far (p := ⟨gb235, 0, none⟩) (Kd.R_types HO231.out BK235.out (by decide)) (fun _ hk => hk.2) (.int .i64 t227)) (fun _ hk => hk.2) (.int .i64 t228)) (fun _ hk => hk.2) (.slice Ao14 t229.length co14)) (fun _ hk => hk.2) (.slice Ao15 t232.length co15)) (fun _ hk => hk.1)⟩
    have n1_ : Aside0 (Kd.R (Kd.int .i64) 3 ((((w10.setCell ⟨gb235, 0, none⟩ (.int .i64 t227)).setCell ⟨gb235, 1, none⟩ (.int .i64 t228)).setCell ⟨gb235, 2, none⟩ (.slice Ao14 t229.length co14)).setCell ⟨gb235, 3, none⟩ (.slice Ao15 t232.length co15)) w.heap.size (fun k_ => some k_ ≠ (.slice Ao14 t229.length co14 : Value).ownBlock) (.slice Ao15 t232.length co15) t232) := ⟨by (with_reducible repeat (first | apply Kd.R_alloc | apply Kd.R_drewN | apply Kd.R_drew)); exact Kd.R_mono (Kd.R_far (p := ⟨gb235, 3, none⟩) (Kd.R_far (p := ⟨gb235, 2, none⟩) (Kd.R_far (p := ⟨gb235, 1, none⟩) (Kd.R_far (p := ⟨gb235, 0, none⟩) (Kd.R_types HO234.out BK235.out (by decide)) (fun _ hk => hk.2) (.int .i64 t227)) (fun _ hk => hk.2) (.int .i64 t228)) (fun _ hk => hk.2) (.slice Ao14 t229.length co14)) (fun _ hk => hk.2) (.slice Ao15 t232.length co15)) (fun _ hk => hk.1)⟩
    have n2_ : Aside0 (((((w10.setCell ⟨gb235, 0, none⟩ (.int .i64 t227)).setCell ⟨gb235, 1, none⟩ (.int .i64 t228)).setCell ⟨gb235, 2, none⟩ (.slice Ao14 t229.length co14)).setCell ⟨gb235, 3, none⟩ (.slice Ao15 t232.length co15)).heap[gb225]? = some (.cells #[.int .i64 a0_0, .int .i64 a0_1, .slice A0_2 l0_2.length c0_2, .slice A0_3 l0_3.length c0_3] 41 (0, 0))) := ⟨bwR NB225_235.out BK225.out⟩
    have n3_ : Aside0 (((((w10.setCell ⟨gb235, 0, none⟩ (.int .i64 t227)).setCell ⟨gb235, 1, none⟩ (.int .i64 t228)).setCell ⟨gb235, 2, none⟩ (.slice Ao14 t229.length co14)).setCell ⟨gb235, 3, none⟩ (.slice Ao15 t232.length co15)).heap[gb226]? = some (.cells #[.int .i64 0, .int .i64 0, .slice none 0 0, .slice none 0 0] 41 (0, 0))) := ⟨bwR NB226_235.out BK226.out⟩
    have n4_ : Aside0 (((((w10.setCell ⟨gb235, 0, none⟩ (.int .i64 t227)).setCell ⟨gb235, 1, none⟩ (.int .i64 t228)).setCell ⟨gb235, 2, none⟩ (.slice Ao14 t229.length co14)).setCell ⟨gb235, 3, none⟩ (.slice Ao15 t232.length co15)).heap[gb235]? = some (.cells #[.int .i64 t227, .int .i64 t228, .slice Ao14 t229.length co14, .slice Ao15 t232.length co15] 41 (0, 0))) := ⟨by (with_reducible repeat (first | refine blk_drewN ?_ _ | refine blk_drew ?_ | refine blk_alloc ?_ _)); refine blk_put (cs := #[.int .i64 t227, .int .i64 t228, .slice Ao14 t229.length co14, .slice none 0 0]) ?_ 3 _ rfl; (with_reducible repeat (first | refine blk_drewN ?_ _ | refine blk_drew ?_ | refine blk_alloc ?_ _)); refine blk_put (cs := #[.int .i64 t227, .int .i64 t228, .slice none 0 0, .slice none 0 0]) ?_ 2 _ rfl; (with_reducible repeat (first | refine blk_drewN ?_ _ | refine blk_drew ?_ | refine blk_alloc ?_ _)); refine blk_put (cs := #[.int .i64 t227, .int .i64 0, .slice none 0 0, .slice none 0 0]) ?_ 1 _ rfl; (with_reducible repeat (first | refine blk_drewN ?_ _ | refine blk_drew ?_ | refine blk_alloc ?_ _)); refine blk_put (cs := #[.int .i64 0, .int .i64 0, .slice none 0 0, .slice none 0 0]) ?_ 0 _ rfl; (with_reducible repeat (first | refine blk_drewN ?_ _ | refine blk_drew ?_ | refine blk_alloc ?_ _)); exact BK235.out⟩
    have n5_ : Aside0 (Below w.heap.size w ((((w10.setCell ⟨gb235, 0, none⟩ (.int .i64 t227)).setCell ⟨gb235, 1, none⟩ (.int .i64 t228)).setCell ⟨gb235, 2, none⟩ (.slice Ao14 t229.length co14)).setCell ⟨gb235, 3, none⟩ (.slice Ao15 t232.length co15))) := ⟨bwB⟩
    (try clear HO231)
    (try clear HO234)
    (try clear BK225)
    (try clear BK226)
    (try clear BK235)
    (try clear HB)
    generalize ((((w10.setCell ⟨gb235, 0, none⟩ (.int .i64 t227)).setCell ⟨gb235, 1, none⟩ (.int .i64 t228)).setCell ⟨gb235, 2, none⟩ (.slice Ao14 t229.length co14)).setCell ⟨gb235, 3, none⟩ (.slice Ao15 t232.length co15)) = w24 at n0_ n1_ n2_ n3_ n4_ n5_ ⊢
    have HO231 := n0_
    have HO234 := n1_
    have BK225 := n2_
    have BK226 := n3_
    have BK235 := n4_
    have HB := n5_
    clear n0_ n1_ n2_ n3_ n4_ n5_
    have n0_ := Aside0.mk (Kd.R_drew HO231.out)
    have n1_ := Aside0.mk (Kd.R_drew HO234.out)
    have n2_ := Aside0.mk (blk_drew BK225.out)
    have n3_ := Aside0.mk (blk_drew BK226.out)
    have n4_ := Aside0.mk (blk_drew BK235.out)
    have n5_ := Aside0.mk (below_drew1 HB.out)
    clear HO231
    clear HO234
    clear BK225
    clear BK226
    clear BK235
    clear HB
    have HO231 := n0_
    have HO234 := n1_
    have BK225 := n2_
    have BK226 := n3_
    have BK235 := n4_
    have HB := n5_
    clear n0_ n1_ n2_ n3_ n4_ n5_
    refine start_ (n := 17) (S := fun w' => w'.cell? ⟨gb225, 0, none⟩ = some (.int .i64 a0_0) ∧ w'.cell? ⟨gb225, 1, none⟩ = some (.int .i64 a0_1) ∧ w'.cell? ⟨gb225, 2, none⟩ = some (.slice A0_2 l0_2.length c0_2) ∧ w'.cell? ⟨gb225, 3, none⟩ = some (.slice A0_3 l0_3.length c0_3)) (ds := []) #[false, false, false, false, false, false, false, false, false, false, false, false, false, false, false, false, false] (by kernel_rfl) rfl rfl ⟨(blk_cell BK225.out 0).trans rfl, (blk_cell BK225.out 1).trans rfl, (blk_cell BK225.out 2).trans rfl, (blk_cell BK225.out 3).trans rfl⟩ (fun hHeld => ?_); refine with_tabW spec_RingRoll.tab2 spec_RingRoll.bits2 (fun HT_ HW_ => ?_)
    generalize w24.drew = w25 at HO231 HO234 BK225 BK226 BK235 HB hHeld ⊢
    refine take_ (i := 0) (N := some 10) (v := ?_) (a' := ?_) #[true, false, false, false, false, false, false, false, false, false, false, false, false, false, false, false, false] rfl rfl (take_ofW HT_.out HW_.out (by kernel_rfl)) (fun _ _ _ h => h) (Or.inl ⟨by rfl, ?_⟩) hHeld ?_ ?_
    rotate_left
    ·rintro w' ⟨s0, s1, s2, s3⟩
     go_simp
     with_reducible rfl
    rotate_left
    ·simp only [Act.put, List.setIfInBounds_toArray, List.set_cons_zero, List.set_cons_succ, i64_w, i32_w]
     rfl
    refine one_ (i := 1) (N := some 11) #[true, true, false, false, false, false, false, false, false, false, false, false, false, false, false, false, false] rfl rfl (one_of HT_.out (by kernel_rfl)) (by decide) (fun K hK => ?_)
    refine goes_ Try.func63 (by kernel_rfl) rfl #[.agg #[.int .i64 a0_0, .int .i64 a0_1, .slice A0_2 l0_2.length c0_2, .slice A0_3 l0_3.length c0_3]] (by rfl) rfl rfl bwA ?_
    with_reducible refine (spec_RingOk.calls k a0_0 a0_1 _ _ l0_2 _ _ l0_3 true _ ?side1 ?side2 ?side3 ?side4 A16.out).mono ?_
    (case side1 => exact bwC (Kd.C_below HR0_2.out HB.out))
    (case side2 => exact HC0_2.out)
    (case side3 => exact bwC (Kd.C_below HR0_3.out HB.out))
    (case side4 => exact HC0_3.out)
    rintro e w26 ⟨rfl, hb⟩
    refine ⟨_, rfl, ?_⟩
    have n0_ := Aside0.mk (Kd.R_below (by (with_reducible repeat (first | apply Kd.R_alloc | apply Kd.R_drewN | apply Kd.R_drew)); exact HO231.out) hb)
    have n1_ := Aside0.mk (Kd.R_below (by (with_reducible repeat (first | apply Kd.R_alloc | apply Kd.R_drewN | apply Kd.R_drew)); exact HO234.out) hb)
    have n2_ := Aside0.mk (blk_below (g := gb225) (o := .cells #[.int .i64 a0_0, .int .i64 a0_1, .slice A0_2 l0_2.length c0_2, .slice A0_3 l0_3.length c0_3] 41 (0, 0)) (bwK BK225.out) hb)
    have n3_ := Aside0.mk (blk_below (g := gb226) (o := .cells #[.int .i64 0, .int .i64 0, .slice none 0 0, .slice none 0 0] 41 (0, 0)) (bwK BK226.out) hb)
    have n4_ := Aside0.mk (blk_below (g := gb235) (o := .cells #[.int .i64 t227, .int .i64 t228, .slice Ao14 t229.length co14, .slice Ao15 t232.length co15] 41 (0, 0)) (bwK BK235.out) hb)
    have n5_ := Aside0.mk (below_step bwB hb)
    clear HO231
    clear HO234
    clear BK225
    clear BK226
    clear BK235
    clear HB
    have HO231 := n0_
    have HO234 := n1_
    have BK225 := n2_
    have BK226 := n3_
    have BK235 := n4_
    have HB := n5_
    clear n0_ n1_ n2_ n3_ n4_ n5_
    (try clear hb)
    (try clear hb2)
    (try clear hk)
    (try clear hi)
    refine hK.out _ _ ⟨(blk_cell BK225.out 0).trans rfl, (blk_cell BK225.out 1).trans rfl, (blk_cell BK225.out 2).trans rfl, (blk_cell BK225.out 3).trans rfl⟩ (fun hHeld => ?_)
    clear hK K
    refine norm_ (a' := ?_) ?_ ?_
    rotate_left
    ·show Act.put _ (some 11) _ = _
     simp only [Act.put, List.setIfInBounds_toArray, List.set_cons_zero, List.set_cons_succ, i64_w, i32_w]
     rfl
    refine pure_ (i := 2) (N := some 12) (v := ?_) (a' := ?_) #[true, true, true, false, false, false, false, false, false, false, false, false, false, false, false, false, false] rfl rfl (any_of HT_.out (by kernel_rfl)) (fun _ _ _ h => h) (Or.inl ⟨by rfl, ?_⟩) ?_ ?_
    rotate_left
    ·intro w'
     go_simp
     with_reducible rfl
    rotate_left
    ·simp only [Act.put, List.setIfInBounds_toArray, List.set_cons_zero, List.set_cons_succ, i64_w, i32_w]
     rfl
    refine pure_ (i := 3) (N := some 13) (v := ?_) (a' := ?_) #[true, true, true, true, false, false, false, false, false, false, false, false, false, false, false, false, false] rfl rfl (any_of HT_.out (by kernel_rfl)) (fun _ _ _ h => h) (Or.inl ⟨by rfl, ?_⟩) ?_ ?_
    rotate_left
    ·intro w'
     go_simp
     with_reducible rfl
    rotate_left
    ·simp only [Act.put, List.setIfInBounds_toArray, List.set_cons_zero, List.set_cons_succ, i64_w, i32_w]
     rfl
    refine pure_ (i := 4) (N := some 14) (v := ?_) (a' := ?_) #[true, true, true, true, true, false, false, false, false, false, false, false, false, false, false, false, false] rfl rfl (any_of HT_.out (by kernel_rfl)) (fun _ _ _ h => h) (Or.inl ⟨by rfl, ?_⟩) ?_ ?_
    rotate_left
    ·intro w'
     go_simp
     with_reducible rfl
    rotate_left
    ·simp only [Act.put, List.setIfInBounds_toArray, List.set_cons_zero, List.set_cons_succ, i64_w, i32_w]
     rfl
    refine one_ (i := 5) (N := some 15) #[true, true, true, true, true, true, false, false, false, false, false, false, false, false, false, false, false] rfl rfl (one_of HT_.out (by kernel_rfl)) (by decide) (fun K hK => ?_)
    refine goes_ Try.func44 (by kernel_rfl) rfl #[.int .i64 a1] (by rfl) rfl rfl bwA ?_
    with_reducible refine (spec_l06Time.calls a1 false _ A18.out).mono ?_
    rintro e w' ⟨rfl, ⟨nd, rfl⟩⟩
    refine ⟨_, rfl, ?_⟩
    refine hK.out _ _ ⟨(blk_cell BK225.out 0).trans rfl, (blk_cell BK225.out 1).trans rfl, (blk_cell BK225.out 2).trans rfl, (blk_cell BK225.out 3).trans rfl⟩ (fun hHeld => ?_)
    clear hK K
    refine norm_ (a' := ?_) ?_ ?_
    rotate_left
    ·show Act.put _ (some 15) _ = _
     simp only [Act.put, List.setIfInBounds_toArray, List.set_cons_zero, List.set_cons_succ, i64_w, i32_w]
     rfl
    refine pure_ (i := 6) (N := some 16) (v := ?_) (a' := ?_) #[true, true, true, true, true, true, true, false, false, false, false, false, false, false, false, false, false] rfl rfl (any_of HT_.out (by kernel_rfl)) (fun _ _ _ h => h) (Or.inl ⟨by rfl, ?_⟩) ?_ ?_
    rotate_left
    ·intro w'
     go_simp
     with_reducible rfl
    rotate_left
    ·simp only [Act.put, List.setIfInBounds_toArray, List.set_cons_zero, List.set_cons_succ, i64_w, i32_w]
     rfl
    refine pure_ (i := 7) (N := some 17) (v := ?_) (a' := ?_) #[true, true, true, true, true, true, true, true, false, false, false, false, false, false, false, false, false] rfl rfl (any_of HT_.out (by kernel_rfl)) (fun _ _ _ h => h) (Or.inl ⟨by rfl, ?_⟩) ?_ ?_
    rotate_left
    ·intro w'
     go_simp
     with_reducible rfl
    rotate_left
    ·simp only [Act.put, List.setIfInBounds_toArray, List.set_cons_zero, List.set_cons_succ, i64_w, i32_w]
     rfl
    refine pure_ (i := 8) (N := some 18) (v := ?_) (a' := ?_) #[true, true, true, true, true, true, true, true, true, false, false, false, false, false, false, false, false] rfl rfl (any_of HT_.out (by kernel_rfl)) (fun _ _ _ h => h) (Or.inl ⟨by rfl, ?_⟩) ?_ ?_
    rotate_left
    ·intro w'
     go_simp
     with_reducible rfl
    rotate_left
    ·simp only [Act.put, List.setIfInBounds_toArray, List.set_cons_zero, List.set_cons_succ, i64_w, i32_w]
     rfl
    refine pure_ (i := 9) (N := some 19) (v := undef) (a' := ?_) #[true, true, true, true, true, true, true, true, true, true, false, false, false, false, false, false, false] rfl rfl (any_of HT_.out (by kernel_rfl)) (fun _ _ _ h => h) (Or.inr ⟨by rfl, rfl⟩) ?_ ?_
    rotate_left
    ·simp only [Act.put, List.setIfInBounds_toArray, List.set_cons_zero, List.set_cons_succ, i64_w, i32_w]
     rfl
    refine pure_ (i := 10) (N := some 20) (v := undef) (a' := ?_) #[true, true, true, true, true, true, true, true, true, true, true, false, false, false, false, false, false] rfl rfl (any_of HT_.out (by kernel_rfl)) (fun _ _ _ h => h) (Or.inr ⟨by rfl, rfl⟩) ?_ ?_
    rotate_left
    ·simp only [Act.put, List.setIfInBounds_toArray, List.set_cons_zero, List.set_cons_succ, i64_w, i32_w]
     rfl
    refine pure_ (i := 11) (N := some 21) (v := undef) (a' := ?_) #[true, true, true, true, true, true, true, true, true, true, true, true, false, false, false, false, false] rfl rfl (any_of HT_.out (by kernel_rfl)) (fun _ _ _ h => h) (Or.inr ⟨by rfl, rfl⟩) ?_ ?_
    rotate_left
    ·simp only [Act.put, List.setIfInBounds_toArray, List.set_cons_zero, List.set_cons_succ, i64_w, i32_w]
     rfl
    refine pure_ (i := 12) (N := some 22) (v := undef) (a' := ?_) #[true, true, true, true, true, true, true, true, true, true, true, true, true, false, false, false, false] rfl rfl (any_of HT_.out (by kernel_rfl)) (fun _ _ _ h => h) (Or.inr ⟨by rfl, rfl⟩) ?_ ?_
    rotate_left
    ·simp only [Act.put, List.setIfInBounds_toArray, List.set_cons_zero, List.set_cons_succ, i64_w, i32_w]
     rfl
    refine pure_ (i := 13) (N := some 23) (v := undef) (a' := ?_) #[true, true, true, true, true, true, true, true, true, true, true, true, true, true, false, false, false] rfl rfl (any_of HT_.out (by kernel_rfl)) (fun _ _ _ h => h) (Or.inr ⟨by rfl, rfl⟩) ?_ ?_
    rotate_left
    ·simp only [Act.put, List.setIfInBounds_toArray, List.set_cons_zero, List.set_cons_succ, i64_w, i32_w]
     rfl
    refine pure_ (i := 14) (N := some 24) (v := undef) (a' := ?_) #[true, true, true, true, true, true, true, true, true, true, true, true, true, true, true, false, false] rfl rfl (any_of HT_.out (by kernel_rfl)) (fun _ _ _ h => h) (Or.inr ⟨by rfl, rfl⟩) ?_ ?_
    rotate_left
    ·simp only [Act.put, List.setIfInBounds_toArray, List.set_cons_zero, List.set_cons_succ, i64_w, i32_w]
     rfl
    refine pure_ (i := 15) (N := some 25) (v := undef) (a' := ?_) #[true, true, true, true, true, true, true, true, true, true, true, true, true, true, true, true, false] rfl rfl (any_of HT_.out (by kernel_rfl)) (fun _ _ _ h => h) (Or.inr ⟨by rfl, rfl⟩) ?_ ?_
    rotate_left
    ·simp only [Act.put, List.setIfInBounds_toArray, List.set_cons_zero, List.set_cons_succ, i64_w, i32_w]
     rfl
    refine pure_ (i := 16) (N := some 26) (v := ?_) (a' := ?_) #[true, true, true, true, true, true, true, true, true, true, true, true, true, true, true, true, true] rfl rfl (any_of HT_.out (by kernel_rfl)) (fun _ _ _ h => h) (Or.inl ⟨by rfl, ?_⟩) ?_ ?_
    rotate_left
    ·intro w'
     go_simp
     with_reducible rfl
    rotate_left
    ·simp only [Act.put, List.setIfInBounds_toArray, List.set_cons_zero, List.set_cons_succ, i64_w, i32_w]
     rfl
    refine done_ (done_of HT_.out (by kernel_rfl)) ?_
    try go_wp2
    go_meet
    case rel => exact ⟨_, (true), (by first | rfl | (simp; done) | (simp [*]; done)), H', ⟨by first | omega | exact Nat.le_refl _⟩, ⟨by (with_reducible repeat (first | apply Kd.R_alloc | apply Kd.R_drewN | apply Kd.R_drew)); exact HO231.out⟩, ⟨by (with_reducible repeat (first | apply Kd.R_alloc | apply Kd.R_drewN | apply Kd.R_drew)); exact HO234.out⟩, ⟨bwK BK225.out⟩, ⟨bwK BK226.out⟩, ⟨bwK BK235.out⟩, ⟨bwB⟩⟩
  ·replace c17 := Bool.eq_false_iff.mpr c17
   subst c17
   have H1 : (spec_RingRoll.j0 k a1 true a0_0 a0_1 l0_2 l0_3 t227 t228 t229 t232) = some (r1, r2, r3, r4) := by rw [if_neg (show ¬ (false = true) by decide)] at H; exact H
   clear H
   have H := H1
   clear H1
   have H' := Aside0.mk H
   clear H
   try go_wp2
   have n0_ : Aside0 (Kd.R (Kd.int .i64) 3 ((((w10.setCell ⟨gb235, 0, none⟩ (.int .i64 t227)).setCell ⟨gb235, 1, none⟩ (.int .i64 t228)).setCell ⟨gb235, 2, none⟩ (.slice Ao14 t229.length co14)).setCell ⟨gb235, 3, none⟩ (.slice Ao15 t232.length co15)) w.heap.size (fun k_ => some k_ ≠ (.slice Ao15 t232.length co15 : Value).ownBlock) (.slice Ao14 t229.length co14) t229) := ⟨by (with_reducible repeat (first | apply Kd.R_alloc | apply Kd.R_drewN | apply Kd.R_drew)); exact Kd.R_mono (Kd.R_far (p := ⟨gb235, 3, none⟩) (Kd.R_far (p := ⟨gb235, 2, none⟩) (Kd.R_far (p := ⟨gb235, 1, none⟩) (Kd.R_far (p := ⟨gb235, 0, none⟩) (Kd.R_types HO231.out BK235.out (by decide)) (fun _ hk => hk.2) (.int .i64 t227)) (fun _ hk => hk.2) (.int .i64 t228)) (fun _ hk => hk.2) (.slice Ao14 t229.length co14)) (fun _ hk => hk.2) (.slice Ao15 t232.length co15)) (fun _ hk => hk.1)⟩
   have n1_ : Aside0 (Kd.R (Kd.int .i64) 3 ((((w10.setCell ⟨gb235, 0, none⟩ (.int .i64 t227)).setCell ⟨gb235, 1, none⟩ (.int .i64 t228)).setCell ⟨gb235, 2, none⟩ (.slice Ao14 t229.length co14)).setCell ⟨gb235, 3, none⟩ (.slice Ao15 t232.length co15)) w.heap.size (fun k_ => some k_ ≠ (.slice Ao14 t229.length co14 : Value).ownBlock) (.slice Ao15 t232.length co15) t232) := ⟨by (with_reducible repeat (first | apply Kd.R_alloc | apply Kd.R_drewN | apply Kd.R_drew)); exact Kd.R_mono (Kd.R_far (p := ⟨gb235, 3, none⟩) (Kd.R_far (p := ⟨gb235, 2, none⟩) (Kd.R_far (p := ⟨gb235, 1, none⟩) (Kd.R_far (p := ⟨gb235, 0, none⟩) (Kd.R_types HO234.out BK235.out (by decide)) (fun _ hk => hk.2) (.int .i64 t227)) (fun _ hk => hk.2) (.int .i64 t228)) (fun _ hk => hk.2) (.slice Ao14 t229.length co14)) (fun _ hk => hk.2) (.slice Ao15 t232.length co15)) (fun _ hk => hk.1)⟩
   have n2_ : Aside0 (((((w10.setCell ⟨gb235, 0, none⟩ (.int .i64 t227)).setCell ⟨gb235, 1, none⟩ (.int .i64 t228)).setCell ⟨gb235, 2, none⟩ (.slice Ao14 t229.length co14)).setCell ⟨gb235, 3, none⟩ (.slice Ao15 t232.length co15)).heap[gb225]? = some (.cells #[.int .i64 a0_0, .int .i64 a0_1, .slice A0_2 l0_2.length c0_2, .slice A0_3 l0_3.length c0_3] 41 (0, 0))) := ⟨bwR NB225_235.out BK225.out⟩
   have n3_ : Aside0 (((((w10.setCell ⟨gb235, 0, none⟩ (.int .i64 t227)).setCell ⟨gb235, 1, none⟩ (.int .i64 t228)).setCell ⟨gb235, 2, none⟩ (.slice Ao14 t229.length co14)).setCell ⟨gb235, 3, none⟩ (.slice Ao15 t232.length co15)).heap[gb226]? = some (.cells #[.int .i64 0, .int .i64 0, .slice none 0 0, .slice none 0 0] 41 (0, 0))) := ⟨bwR NB226_235.out BK226.out⟩
   have n4_ : Aside0 (((((w10.setCell ⟨gb235, 0, none⟩ (.int .i64 t227)).setCell ⟨gb235, 1, none⟩ (.int .i64 t228)).setCell ⟨gb235, 2, none⟩ (.slice Ao14 t229.length co14)).setCell ⟨gb235, 3, none⟩ (.slice Ao15 t232.length co15)).heap[gb235]? = some (.cells #[.int .i64 t227, .int .i64 t228, .slice Ao14 t229.length co14, .slice Ao15 t232.length co15] 41 (0, 0))) := ⟨by (with_reducible repeat (first | refine blk_drewN ?_ _ | refine blk_drew ?_ | refine blk_alloc ?_ _)); refine blk_put (cs := #[.int .i64 t227, .int .i64 t228, .slice Ao14 t229.length co14, .slice none 0 0]) ?_ 3 _ rfl; (with_reducible repeat (first | refine blk_drewN ?_ _ | refine blk_drew ?_ | refine blk_alloc ?_ _)); refine blk_put (cs := #[.int .i64 t227, .int .i64 t228, .slice none 0 0, .slice none 0 0]) ?_ 2 _ rfl; (with_reducible repeat (first | refine blk_drewN ?_ _ | refine blk_drew ?_ | refine blk_alloc ?_ _)); refine blk_put (cs := #[.int .i64 t227, .int .i64 0, .slice none 0 0, .slice none 0 0]) ?_ 1 _ rfl; (with_reducible repeat (first | refine blk_drewN ?_ _ | refine blk_drew ?_ | refine blk_alloc ?_ _)); refine blk_put (cs := #[.int .i64 0, .int .i64 0, .slice none 0 0, .slice none 0 0]) ?_ 0 _ rfl; (with_reducible repeat (first | refine blk_drewN ?_ _ | refine blk_drew ?_ | refine blk_alloc ?_ _)); exact BK235.out⟩
   have n5_ : Aside0 (Below w.heap.size w ((((w10.setCell ⟨gb235, 0, none⟩ (.int .i64 t227)).setCell ⟨gb235, 1, none⟩ (.int .i64 t228)).setCell ⟨gb235, 2, none⟩ (.slice Ao14 t229.length co14)).setCell ⟨gb235, 3, none⟩ (.slice Ao15 t232.length co15))) := ⟨bwB⟩
   (try clear HO231)
   (try clear HO234)
   (try clear BK225)
   (try clear BK226)
   (try clear BK235)
   (try clear HB)
   generalize ((((w10.setCell ⟨gb235, 0, none⟩ (.int .i64 t227)).setCell ⟨gb235, 1, none⟩ (.int .i64 t228)).setCell ⟨gb235, 2, none⟩ (.slice Ao14 t229.length co14)).setCell ⟨gb235, 3, none⟩ (.slice Ao15 t232.length co15)) = w27 at n0_ n1_ n2_ n3_ n4_ n5_ ⊢
   have HO231 := n0_
   have HO234 := n1_
   have BK225 := n2_
   have BK226 := n3_
   have BK235 := n4_
   have HB := n5_
   clear n0_ n1_ n2_ n3_ n4_ n5_
   have n0_ := Aside0.mk (Kd.R_drew HO231.out)
   have n1_ := Aside0.mk (Kd.R_drew HO234.out)
   have n2_ := Aside0.mk (blk_drew BK225.out)
   have n3_ := Aside0.mk (blk_drew BK226.out)
   have n4_ := Aside0.mk (blk_drew BK235.out)
   have n5_ := Aside0.mk (below_drew1 HB.out)
   clear HO231
   clear HO234
   clear BK225
   clear BK226
   clear BK235
   clear HB
   have HO231 := n0_
   have HO234 := n1_
   have BK225 := n2_
   have BK226 := n3_
   have BK235 := n4_
   have HB := n5_
   clear n0_ n1_ n2_ n3_ n4_ n5_
   refine start_ (n := 17) (S := fun w' => w'.cell? ⟨gb225, 0, none⟩ = some (.int .i64 a0_0) ∧ w'.cell? ⟨gb225, 1, none⟩ = some (.int .i64 a0_1) ∧ w'.cell? ⟨gb225, 2, none⟩ = some (.slice A0_2 l0_2.length c0_2) ∧ w'.cell? ⟨gb225, 3, none⟩ = some (.slice A0_3 l0_3.length c0_3)) (ds := []) #[false, false, false, false, false, false, false, false, false, false, false, false, false, false, false, false, false] (by kernel_rfl) rfl rfl ⟨(blk_cell BK225.out 0).trans rfl, (blk_cell BK225.out 1).trans rfl, (blk_cell BK225.out 2).trans rfl, (blk_cell BK225.out 3).trans rfl⟩ (fun hHeld => ?_); refine with_tabW spec_RingRoll.tab2 spec_RingRoll.bits2 (fun HT_ HW_ => ?_)
   generalize w27.drew = w28 at HO231 HO234 BK225 BK226 BK235 HB hHeld ⊢
   refine take_ (i := 0) (N := some 10) (v := ?_) (a' := ?_) #[true, false, false, false, false, false, false, false, false, false, false, false, false, false, false, false, false] rfl rfl (take_ofW HT_.out HW_.out (by kernel_rfl)) (fun _ _ _ h => h) (Or.inl ⟨by rfl, ?_⟩) hHeld ?_ ?_
   rotate_left
   ·rintro w' ⟨s0, s1, s2, s3⟩
    go_simp
    with_reducible rfl
   rotate_left
   ·simp only [Act.put, List.setIfInBounds_toArray, List.set_cons_zero, List.set_cons_succ, i64_w, i32_w]
    rfl
   refine one_ (i := 1) (N := some 11) #[true, true, false, false, false, false, false, false, false, false, false, false, false, false, false, false, false] rfl rfl (one_of HT_.out (by kernel_rfl)) (by decide) (fun K hK => ?_)
   refine goes_ Try.func63 (by kernel_rfl) rfl #[.agg #[.int .i64 a0_0, .int .i64 a0_1, .slice A0_2 l0_2.length c0_2, .slice A0_3 l0_3.length c0_3]] (by rfl) rfl rfl bwA ?_
   with_reducible refine (spec_RingOk.calls k a0_0 a0_1 _ _ l0_2 _ _ l0_3 false _ ?side1 ?side2 ?side3 ?side4 A16.out).mono ?_
   (case side1 => exact bwC (Kd.C_below HR0_2.out HB.out))
   (case side2 => exact HC0_2.out)
   (case side3 => exact bwC (Kd.C_below HR0_3.out HB.out))
   (case side4 => exact HC0_3.out)
   rintro e w29 ⟨rfl, hb⟩
   refine ⟨_, rfl, ?_⟩
   have n0_ := Aside0.mk (Kd.R_below (by (with_reducible repeat (first | apply Kd.R_alloc | apply Kd.R_drewN | apply Kd.R_drew)); exact HO231.out) hb)
   have n1_ := Aside0.mk (Kd.R_below (by (with_reducible repeat (first | apply Kd.R_alloc | apply Kd.R_drewN | apply Kd.R_drew)); exact HO234.out) hb)
   have n2_ := Aside0.mk (blk_below (g := gb225) (o := .cells #[.int .i64 a0_0, .int .i64 a0_1, .slice A0_2 l0_2.length c0_2, .slice A0_3 l0_3.length c0_3] 41 (0, 0)) (bwK BK225.out) hb)
   have n3_ := Aside0.mk (blk_below (g := gb226) (o := .cells #[.int .i64 0, .int .i64 0, .slice none 0 0, .slice none 0 0] 41 (0, 0)) (bwK BK226.out) hb)
   have n4_ := Aside0.mk (blk_below (g := gb235) (o := .cells #[.int .i64 t227, .int .i64 t228, .slice Ao14 t229.length co14, .slice Ao15 t232.length co15] 41 (0, 0)) (bwK BK235.out) hb)
   have n5_ := Aside0.mk (below_step bwB hb)
   clear HO231
   clear HO234
   clear BK225
   clear BK226
   clear BK235
   clear HB
   have HO231 := n0_
   have HO234 := n1_
   have BK225 := n2_
   have BK226 := n3_
   have BK235 := n4_
   have HB := n5_
   clear n0_ n1_ n2_ n3_ n4_ n5_
   (try clear hb)
   (try clear hb2)
   (try clear hk)
   (try clear hi)
   refine hK.out _ _ ⟨(blk_cell BK225.out 0).trans rfl, (blk_cell BK225.out 1).trans rfl, (blk_cell BK225.out 2).trans rfl, (blk_cell BK225.out 3).trans rfl⟩ (fun hHeld => ?_)
   clear hK K
   refine norm_ (a' := ?_) ?_ ?_
   rotate_left
   ·show Act.put _ (some 11) _ = _
    simp only [Act.put, List.setIfInBounds_toArray, List.set_cons_zero, List.set_cons_succ, i64_w, i32_w]
    rfl
   refine pure_ (i := 2) (N := some 12) (v := ?_) (a' := ?_) #[true, true, true, false, false, false, false, false, false, false, false, false, false, false, false, false, false] rfl rfl (any_of HT_.out (by kernel_rfl)) (fun _ _ _ h => h) (Or.inl ⟨by rfl, ?_⟩) ?_ ?_
   rotate_left
   ·intro w'
    go_simp
    with_reducible rfl
   rotate_left
   ·simp only [Act.put, List.setIfInBounds_toArray, List.set_cons_zero, List.set_cons_succ, i64_w, i32_w]
    rfl
   refine pure_ (i := 3) (N := some 13) (v := ?_) (a' := ?_) #[true, true, true, true, false, false, false, false, false, false, false, false, false, false, false, false, false] rfl rfl (any_of HT_.out (by kernel_rfl)) (fun _ _ _ h => h) (Or.inl ⟨by rfl, ?_⟩) ?_ ?_
   rotate_left
   ·intro w'
    go_simp
    with_reducible rfl
   rotate_left
   ·simp only [Act.put, List.setIfInBounds_toArray, List.set_cons_zero, List.set_cons_succ, i64_w, i32_w]
    rfl
   refine pure_ (i := 4) (N := some 14) (v := undef) (a' := ?_) #[true, true, true, true, true, false, false, false, false, false, false, false, false, false, false, false, false] rfl rfl (any_of HT_.out (by kernel_rfl)) (fun _ _ _ h => h) (Or.inr ⟨by rfl, rfl⟩) ?_ ?_
   rotate_left
   ·simp only [Act.put, List.setIfInBounds_toArray, List.set_cons_zero, List.set_cons_succ, i64_w, i32_w]
    rfl
   refine pure_ (i := 5) (N := some 15) (v := undef) (a' := ?_) #[true, true, true, true, true, true, false, false, false, false, false, false, false, false, false, false, false] rfl rfl (any_of HT_.out (by kernel_rfl)) (fun _ _ _ h => h) (Or.inr ⟨by rfl, rfl⟩) ?_ ?_
   rotate_left
   ·simp only [Act.put, List.setIfInBounds_toArray, List.set_cons_zero, List.set_cons_succ, i64_w, i32_w]
    rfl
   refine pure_ (i := 6) (N := some 16) (v := undef) (a' := ?_) #[true, true, true, true, true, true, true, false, false, false, false, false, false, false, false, false, false] rfl rfl (any_of HT_.out (by kernel_rfl)) (fun _ _ _ h => h) (Or.inr ⟨by rfl, rfl⟩) ?_ ?_
   rotate_left
   ·simp only [Act.put, List.setIfInBounds_toArray, List.set_cons_zero, List.set_cons_succ, i64_w, i32_w]
    rfl
   refine pure_ (i := 7) (N := some 17) (v := ?_) (a' := ?_) #[true, true, true, true, true, true, true, true, false, false, false, false, false, false, false, false, false] rfl rfl (any_of HT_.out (by kernel_rfl)) (fun _ _ _ h => h) (Or.inl ⟨by rfl, ?_⟩) ?_ ?_
   rotate_left
   ·intro w'
    go_simp
    with_reducible rfl
   rotate_left
   ·simp only [Act.put, List.setIfInBounds_toArray, List.set_cons_zero, List.set_cons_succ, i64_w, i32_w]
    rfl
   refine pure_ (i := 8) (N := some 18) (v := ?_) (a' := ?_) #[true, true, true, true, true, true, true, true, true, false, false, false, false, false, false, false, false] rfl rfl (any_of HT_.out (by kernel_rfl)) (fun _ _ _ h => h) (Or.inl ⟨by rfl, ?_⟩) ?_ ?_
   rotate_left
   ·intro w'
    go_simp
    with_reducible rfl
   rotate_left
   ·simp only [Act.put, List.setIfInBounds_toArray, List.set_cons_zero, List.set_cons_succ, i64_w, i32_w]
    rfl
   refine pure_ (i := 9) (N := some 19) (v := undef) (a' := ?_) #[true, true, true, true, true, true, true, true, true, true, false, false, false, false, false, false, false] rfl rfl (any_of HT_.out (by kernel_rfl)) (fun _ _ _ h => h) (Or.inr ⟨by rfl, rfl⟩) ?_ ?_
   rotate_left
   ·simp only [Act.put, List.setIfInBounds_toArray, List.set_cons_zero, List.set_cons_succ, i64_w, i32_w]
    rfl
   refine pure_ (i := 10) (N := some 20) (v := undef) (a' := ?_) #[true, true, true, true, true, true, true, true, true, true, true, false, false, false, false, false, false] rfl rfl (any_of HT_.out (by kernel_rfl)) (fun _ _ _ h => h) (Or.inr ⟨by rfl, rfl⟩) ?_ ?_
   rotate_left
   ·simp only [Act.put, List.setIfInBounds_toArray, List.set_cons_zero, List.set_cons_succ, i64_w, i32_w]
    rfl
   refine pure_ (i := 11) (N := some 21) (v := undef) (a' := ?_) #[true, true, true, true, true, true, true, true, true, true, true, true, false, false, false, false, false] rfl rfl (any_of HT_.out (by kernel_rfl)) (fun _ _ _ h => h) (Or.inr ⟨by rfl, rfl⟩) ?_ ?_
   rotate_left
   ·simp only [Act.put, List.setIfInBounds_toArray, List.set_cons_zero, List.set_cons_succ, i64_w, i32_w]
    rfl
   refine pure_ (i := 12) (N := some 22) (v := undef) (a' := ?_) #[true, true, true, true, true, true, true, true, true, true, true, true, true, false, false, false, false] rfl rfl (any_of HT_.out (by kernel_rfl)) (fun _ _ _ h => h) (Or.inr ⟨by rfl, rfl⟩) ?_ ?_
   rotate_left
   ·simp only [Act.put, List.setIfInBounds_toArray, List.set_cons_zero, List.set_cons_succ, i64_w, i32_w]
    rfl
   refine pure_ (i := 13) (N := some 23) (v := undef) (a' := ?_) #[true, true, true, true, true, true, true, true, true, true, true, true, true, true, false, false, false] rfl rfl (any_of HT_.out (by kernel_rfl)) (fun _ _ _ h => h) (Or.inr ⟨by rfl, rfl⟩) ?_ ?_
   rotate_left
   ·simp only [Act.put, List.setIfInBounds_toArray, List.set_cons_zero, List.set_cons_succ, i64_w, i32_w]
    rfl
   refine pure_ (i := 14) (N := some 24) (v := undef) (a' := ?_) #[true, true, true, true, true, true, true, true, true, true, true, true, true, true, true, false, false] rfl rfl (any_of HT_.out (by kernel_rfl)) (fun _ _ _ h => h) (Or.inr ⟨by rfl, rfl⟩) ?_ ?_
   rotate_left
   ·simp only [Act.put, List.setIfInBounds_toArray, List.set_cons_zero, List.set_cons_succ, i64_w, i32_w]
    rfl
   refine pure_ (i := 15) (N := some 25) (v := undef) (a' := ?_) #[true, true, true, true, true, true, true, true, true, true, true, true, true, true, true, true, false] rfl rfl (any_of HT_.out (by kernel_rfl)) (fun _ _ _ h => h) (Or.inr ⟨by rfl, rfl⟩) ?_ ?_
   rotate_left
   ·simp only [Act.put, List.setIfInBounds_toArray, List.set_cons_zero, List.set_cons_succ, i64_w, i32_w]
    rfl
   refine pure_ (i := 16) (N := some 26) (v := ?_) (a' := ?_) #[true, true, true, true, true, true, true, true, true, true, true, true, true, true, true, true, true] rfl rfl (any_of HT_.out (by kernel_rfl)) (fun _ _ _ h => h) (Or.inl ⟨by rfl, ?_⟩) ?_ ?_
   rotate_left
   ·intro w'
    go_simp
    with_reducible rfl
   rotate_left
   ·simp only [Act.put, List.setIfInBounds_toArray, List.set_cons_zero, List.set_cons_succ, i64_w, i32_w]
    rfl
   refine done_ (done_of HT_.out (by kernel_rfl)) ?_
   try go_wp2
   go_meet
   case rel => exact ⟨_, (true), (by first | rfl | (simp; done) | (simp [*]; done)), H', ⟨by first | omega | exact Nat.le_refl _⟩, ⟨by (with_reducible repeat (first | apply Kd.R_alloc | apply Kd.R_drewN | apply Kd.R_drew)); exact HO231.out⟩, ⟨by (with_reducible repeat (first | apply Kd.R_alloc | apply Kd.R_drewN | apply Kd.R_drew)); exact HO234.out⟩, ⟨bwK BK225.out⟩, ⟨bwK BK226.out⟩, ⟨bwK BK235.out⟩, ⟨bwB⟩⟩
 case rest =>
  clear HC4
  try clear c1
  try clear c2
  try clear p2
  try clear c4
  try clear c6
  try clear p6
  try clear c17
  try clear c19
  try clear c20
  try clear c20b0
  obtain ⟨kq, x26_3, rfl, HA, HJ3, HO_236002, HO_236003, BK225, BK226, BK235, HB⟩ := hcut
  cases kq with
  | zero => exact absurd HA.out (by simp [spec_RingRoll.j0])
  | succ kj3 =>
   have H := HA.out
   clear HA
   simp only [spec_RingRoll.j0] at H
   by_cases c30 : x26_3 = true
   ·subst c30
    have H1 : (some (t227, t228, t229, t232)) = some (r1, r2, r3, r4) := by rw [if_pos rfl] at H; exact H
    clear H
    have H := H1
    clear H1
    simp only [Option.some.injEq, Prod.mk.injEq] at H
    obtain ⟨rfl, rfl, rfl, rfl⟩ := H
    have hnb31 := NB235_225.out
    have hnc31 := NB225_235.out
    have hnb32 := NB235_226.out
    have hnc32 := NB226_235.out
    obtain ⟨hcz33_0, hcz33_1, hcz33_2, hcz33_3, hfz33_0, hfz33_1, hfz33_2, hfz33_3⟩ := bwZ4 BK235.out
    have hnb34 := NB226_225.out
    have hnc34 := NB225_226.out
    obtain ⟨hcz35_0, hcz35_1, hcz35_2, hcz35_3, hfz35_0, hfz35_1, hfz35_2, hfz35_3⟩ := bwZ4 BK226.out
    go_wp2
    refine bodyPost_ret (results_cell_row rfl _ _ gb226 41 #[.int .i64 t227, .int .i64 t228, .slice Ao14 t229.length co14, .slice Ao15 t232.length co15] (0, 0) _ rfl (by (with_reducible repeat (first | refine blk_drewN ?_ _ | refine blk_drew ?_ | refine blk_alloc ?_ _)); refine blk_put (cs := #[.int .i64 t227, .int .i64 t228, .slice Ao14 t229.length co14, .slice none 0 0]) ?_ 3 _ rfl; (with_reducible repeat (first | refine blk_drewN ?_ _ | refine blk_drew ?_ | refine blk_alloc ?_ _)); refine blk_put (cs := #[.int .i64 t227, .int .i64 t228, .slice none 0 0, .slice none 0 0]) ?_ 2 _ rfl; (with_reducible repeat (first | refine blk_drewN ?_ _ | refine blk_drew ?_ | refine blk_alloc ?_ _)); refine blk_put (cs := #[.int .i64 t227, .int .i64 0, .slice none 0 0, .slice none 0 0]) ?_ 1 _ rfl; (with_reducible repeat (first | refine blk_drewN ?_ _ | refine blk_drew ?_ | refine blk_alloc ?_ _)); refine blk_put (cs := #[.int .i64 0, .int .i64 0, .slice none 0 0, .slice none 0 0]) ?_ 0 _ rfl; (with_reducible repeat (first | refine blk_drewN ?_ _ | refine blk_drew ?_ | refine blk_alloc ?_ _)); exact BK226.out) Try.underlying41 rfl (by kernel_rfl)) rfl ?_
    exact ⟨_, _, by first | rfl | (simp [errW_none, errW_some] <;> rfl) | (simp [*, errW_none, errW_some] <;> rfl), by (with_reducible repeat (first | apply Kd.R_alloc | apply Kd.R_drewN | apply Kd.R_drew)); exact Kd.R_mono (Kd.R_far (p := ⟨gb226, 3, none⟩) (Kd.R_far (p := ⟨gb226, 2, none⟩) (Kd.R_far (p := ⟨gb226, 1, none⟩) (Kd.R_far (p := ⟨gb226, 0, none⟩) (Kd.R_types HO_236002.out BK226.out (by decide)) (fun _ hk => hk.2) (.int .i64 t227)) (fun _ hk => hk.2) (.int .i64 t228)) (fun _ hk => hk.2) (.slice Ao14 t229.length co14)) (fun _ hk => hk.2) (.slice Ao15 t232.length co15)) (fun _ hk => hk.1), by (with_reducible repeat (first | apply Kd.R_alloc | apply Kd.R_drewN | apply Kd.R_drew)); exact Kd.R_mono (Kd.R_far (p := ⟨gb226, 3, none⟩) (Kd.R_far (p := ⟨gb226, 2, none⟩) (Kd.R_far (p := ⟨gb226, 1, none⟩) (Kd.R_far (p := ⟨gb226, 0, none⟩) (Kd.R_types HO_236003.out BK226.out (by decide)) (fun _ hk => hk.2) (.int .i64 t227)) (fun _ hk => hk.2) (.int .i64 t228)) (fun _ hk => hk.2) (.slice Ao14 t229.length co14)) (fun _ hk => hk.2) (.slice Ao15 t232.length co15)) (fun _ hk => hk.1), by repeat (first | (with_reducible first | exact HB.out | apply below_alloc | apply pw_below_drewN | apply below_drew1 | refine below_set ?_ GE225.out | refine below_set ?_ GE226.out | refine below_set ?_ GE235.out) | exact HB.out)⟩
   ·replace c30 := Bool.eq_false_iff.mpr c30
    subst c30
    have H1 : (if a0_0 = 0 then (none) else (spec_RingRoll.l0 kj3 a1 (wrap64 ((wrap64 (Int.tdiv a1 a0_0)) - a0_1)) (l0_2.length : Int) 0 a0_0 a0_1 l0_2 l0_3 t227 t228 t229 t232)) = some (r1, r2, r3, r4) := by rw [if_neg (show ¬ (false = true) by decide)] at H; exact H
    clear H
    have H := H1
    clear H1
    by_cases c36 : a0_0 = 0
    ·rw [if_pos c36] at H
     exact absurd H (by simp)
    ·rw [if_neg c36] at H
     have c36b0 : (a0_0 == 0) = false := beq_eq_false_iff_ne.mpr c36
     have c36b1 : (a0_0 != 0) = true := bne_iff_ne.mpr c36
     have H' := Aside0.mk H
     clear H
     try go_wp2
     have n0_ := Aside0.mk (Kd.R_drew HO_236002.out)
     have n1_ := Aside0.mk (Kd.R_drew HO_236003.out)
     have n2_ := Aside0.mk (blk_drew BK225.out)
     have n3_ := Aside0.mk (blk_drew BK226.out)
     have n4_ := Aside0.mk (blk_drew BK235.out)
     have n5_ := Aside0.mk (below_drew1 HB.out)
     clear HO_236002
     clear HO_236003
     clear BK225
     clear BK226
     clear BK235
     clear HB
     have HO_236002 := n0_
     have HO_236003 := n1_
     have BK225 := n2_
     have BK226 := n3_
     have BK235 := n4_
     have HB := n5_
     clear n0_ n1_ n2_ n3_ n4_ n5_
     refine start_ (n := 8) (S := fun w' => w'.cell? ⟨gb225, 0, none⟩ = some (.int .i64 a0_0) ∧ w'.cell? ⟨gb225, 1, none⟩ = some (.int .i64 a0_1) ∧ w'.cell? ⟨gb225, 2, none⟩ = some (.slice A0_2 l0_2.length c0_2) ∧ w'.cell? ⟨gb225, 3, none⟩ = some (.slice A0_3 l0_3.length c0_3)) (ds := []) #[false, false, false, false, false, false, false, false] (by kernel_rfl) rfl rfl ⟨(blk_cell BK225.out 0).trans rfl, (blk_cell BK225.out 1).trans rfl, (blk_cell BK225.out 2).trans rfl, (blk_cell BK225.out 3).trans rfl⟩ (fun hHeld => ?_); refine with_tabW spec_RingRoll.tab4 spec_RingRoll.bits4 (fun HT_ HW_ => ?_)
     generalize wc.drew = w37 at HO_236002 HO_236003 BK225 BK226 BK235 HB hHeld ⊢
     refine pure_ (i := 0) (N := some 28) (v := ?_) (a' := ?_) #[true, false, false, false, false, false, false, false] rfl rfl (any_of HT_.out (by kernel_rfl)) (fun _ _ _ h => h) (Or.inl ⟨by rfl, ?_⟩) ?_ ?_
     rotate_left
     ·intro w'
      go_simp
      with_reducible rfl
     rotate_left
     ·simp only [Act.put, List.setIfInBounds_toArray, List.set_cons_zero, List.set_cons_succ, i64_w, i32_w]
      rfl
     refine pure_ (i := 1) (N := some 29) (v := ?_) (a' := ?_) #[true, true, false, false, false, false, false, false] rfl rfl (any_of HT_.out (by kernel_rfl)) (fun _ _ _ h => h) (Or.inl ⟨by rfl, ?_⟩) ?_ ?_
     rotate_left
     ·intro w'
      go_simp
      with_reducible rfl
     rotate_left
     ·simp only [Act.put, List.setIfInBounds_toArray, List.set_cons_zero, List.set_cons_succ, i64_w, i32_w]
      rfl
     refine pure_ (i := 4) (N := some 32) (v := ?_) (a' := ?_) #[true, true, false, false, true, false, false, false] rfl rfl (any_of HT_.out (by kernel_rfl)) (fun _ _ _ h => h) (Or.inl ⟨by rfl, ?_⟩) ?_ ?_
     rotate_left
     ·intro w'
      go_simp
      with_reducible rfl
     rotate_left
     ·simp only [Act.put, List.setIfInBounds_toArray, List.set_cons_zero, List.set_cons_succ, i64_w, i32_w]
      rfl
     refine take_ (i := 2) (N := some 30) (v := ?_) (a' := ?_) #[true, true, true, false, true, false, false, false] rfl rfl (take_ofW HT_.out HW_.out (by kernel_rfl)) (fun _ _ _ h => h) (Or.inl ⟨by rfl, ?_⟩) hHeld ?_ ?_
     rotate_left
     ·rintro w' ⟨s0, s1, s2, s3⟩
      go_simp
      with_reducible rfl
     rotate_left
     ·simp only [Act.put, List.setIfInBounds_toArray, List.set_cons_zero, List.set_cons_succ, i64_w, i32_w]
      rfl
     refine pure_ (i := 3) (N := some 31) (v := ?_) (a' := ?_) #[true, true, true, true, true, false, false, false] rfl rfl (any_of HT_.out (by kernel_rfl)) (fun _ _ _ h => h) (Or.inl ⟨by rfl, ?_⟩) ?_ ?_
     rotate_left
     ·intro w'
      go_simp
      with_reducible rfl
     rotate_left
     ·simp only [Act.put, List.setIfInBounds_toArray, List.set_cons_zero, List.set_cons_succ, i64_w, i32_w]
      rfl
     refine take_ (i := 5) (N := some 33) (v := ?_) (a' := ?_) #[true, true, true, true, true, true, false, false] rfl rfl (take_ofW HT_.out HW_.out (by kernel_rfl)) (fun _ _ _ h => h) (Or.inl ⟨by rfl, ?_⟩) hHeld ?_ ?_
     rotate_left
     ·rintro w' ⟨s0, s1, s2, s3⟩
      go_simp
      with_reducible rfl
     rotate_left
     ·simp only [Act.put, List.setIfInBounds_toArray, List.set_cons_zero, List.set_cons_succ, i64_w, i32_w]
      rfl
     refine pure_ (i := 6) (N := some 34) (v := ?_) (a' := ?_) #[true, true, true, true, true, true, true, false] rfl rfl (any_of HT_.out (by kernel_rfl)) (fun _ _ _ h => h) (Or.inl ⟨by rfl, ?_⟩) ?_ ?_
     rotate_left
     ·intro w'
      go_simp
      with_reducible rfl
     rotate_left
     ·simp only [Act.put, List.setIfInBounds_toArray, List.set_cons_zero, List.set_cons_succ, i64_w, i32_w]
      rfl
     refine pure_ (i := 7) (N := some 6) (v := ?_) (a' := ?_) #[true, true, true, true, true, true, true, true] rfl rfl (any_of HT_.out (by kernel_rfl)) (fun _ _ _ h => h) (Or.inl ⟨by rfl, ?_⟩) ?_ ?_
     rotate_left
     ·intro w'
      go_simp
      with_reducible rfl
     rotate_left
     ·simp only [Act.put, List.setIfInBounds_toArray, List.set_cons_zero, List.set_cons_succ, i64_w, i32_w]
      rfl
     refine done_ (done_of HT_.out (by kernel_rfl)) ?_
     have hnb38 := NB225_226.out
     have hnc38 := NB226_225.out
     have hnb39 := NB225_235.out
     have hnc39 := NB235_225.out
     obtain ⟨hcz40_0, hcz40_1, hcz40_2, hcz40_3, hfz40_0, hfz40_1, hfz40_2, hfz40_3⟩ := bwZ4 BK225.out
     try go_wp2
     go_loopg [38] kj3 (fun kq v38 w' => ∃ (x38_2 : Int) (x236002_2 : List Int) (x236003_2 : List Int) (u236002 : Value) (u236003 : Value), v38 = .int .i64 x38_2 ∧ Aside0 (spec_RingRoll.l0 kq a1 (wrap64 ((wrap64 (Int.tdiv a1 a0_0)) - a0_1)) (l0_2.length : Int) x38_2 a0_0 a0_1 l0_2 l0_3 t227 t228 x236002_2 x236003_2 = some (r1, r2, r3, r4)) ∧ Aside0 (kq ≤ kj3) ∧ Aside0 (Kd.R (Kd.int .i64) 3 w' w.heap.size (fun k_ => some k_ ≠ (u236003 : Value).ownBlock) u236002 x236002_2) ∧ Aside0 (Kd.R (Kd.int .i64) 3 w' w.heap.size (fun k_ => some k_ ≠ (u236002 : Value).ownBlock) u236003 x236003_2) ∧ Aside0 (w'.heap[gb225]? = some (.cells #[.int .i64 a0_0, .int .i64 a0_1, (.slice A0_2 l0_2.length c0_2), (.slice A0_3 l0_3.length c0_3)] 41 (0, 0))) ∧ Aside0 (w'.heap[gb226]? = some (.cells #[.int .i64 0, .int .i64 0, (.slice none 0 0), (.slice none 0 0)] 41 (0, 0))) ∧ Aside0 (w'.heap[gb235]? = some (.cells #[.int .i64 t227, .int .i64 t228, u236002, u236003] 41 (0, 0))) ∧ Aside0 (Below w.heap.size w w'))
     case atStart => exact ⟨(0), (t229), (t232), (.slice Ao14 t229.length co14), (.slice Ao15 t232.length co15), (by first | rfl | (simp; done) | (simp [*]; done)), H', ⟨Nat.le_refl _⟩, ⟨by (with_reducible repeat (first | apply Kd.R_alloc | apply Kd.R_drewN | apply Kd.R_drew)); exact HO_236002.out⟩, ⟨by (with_reducible repeat (first | apply Kd.R_alloc | apply Kd.R_drewN | apply Kd.R_drew)); exact HO_236003.out⟩, ⟨bwK BK225.out⟩, ⟨bwK BK226.out⟩, ⟨bwK BK235.out⟩, ⟨bwB⟩⟩
     case round =>
      clear H'
      try clear c1
      try clear c2
      try clear p2
      try clear c3
      try clear c4
      try clear c6
      try clear p6
      try clear c17
      try clear c19
      try clear c20
      try clear c20b0
      try clear c30
      try clear c31
      try clear c32
      try clear c34
      try clear c36
      try clear c36b0
      try clear c36b1
      try clear c38
      try clear c39
      try clear hcz33_0
      try clear hcz33_1
      try clear hcz33_2
      try clear hcz33_3
      try clear hcz35_0
      try clear hcz35_1
      try clear hcz35_2
      try clear hcz35_3
      try clear hcz40_0
      try clear hcz40_1
      try clear hcz40_2
      try clear hcz40_3
      try clear hfz33_0
      try clear hfz33_1
      try clear hfz33_2
      try clear hfz33_3
      try clear hfz35_0
      try clear hfz35_1
      try clear hfz35_2
      try clear hfz35_3
      try clear hfz40_0
      try clear hfz40_1
      try clear hfz40_2
      try clear hfz40_3
      try clear p2
      try clear p6
      obtain ⟨x38_2, x236002_2, x236003_2, u236002, u236003, rfl, HA, HK2, HO_236002, HO_236003, BK225, BK226, BK235, HB⟩ := hrel
      cases gk with
      | zero => exact absurd HA.out (by simp [spec_RingRoll.l0])
      | succ k2 =>
       have H := HA.out
       clear HA
       simp only [spec_RingRoll.l0] at H
       by_cases c41 : x38_2 < (l0_2.length : Int)
       ·rw [if_pos c41] at H
        have c41b0 : decide (x38_2 < (l0_2.length : Int)) = true := decide_eq_true c41
        clear c41
        by_cases c42 : 0 ≤ x38_2
        ·rw [if_pos c42] at H
         have c42b0 : decide (0 ≤ x38_2) = true := decide_eq_true c42
         clear c42
         by_cases c43 : x38_2 < (x236002_2.length : Int)
         ·rw [if_pos c43] at H
          have c43b0 : decide (x38_2 < (x236002_2.length : Int)) = true := decide_eq_true c43
          clear c43
          obtain ⟨y238, hy238⟩ : ∃ y_ : List Int, y_ = (x236002_2.set (x38_2 : Int).toNat 0) := ⟨_, rfl⟩
          replace H : (if x38_2 < (x236003_2.length : Int) then ((some (x236003_2.set (x38_2 : Int).toNat 0 : List Int)).bind fun y239 => (if x38_2 ≥ (wrap64 ((wrap64 (Int.tdiv a1 a0_0)) - a0_1)) then (if 0 ≤ (wrap64 (x38_2 - (wrap64 ((wrap64 (Int.tdiv a1 a0_0)) - a0_1)))) then (if (wrap64 (x38_2 - (wrap64 ((wrap64 (Int.tdiv a1 a0_0)) - a0_1)))) < (l0_2.length : Int) then (if (wrap64 (x38_2 - (wrap64 ((wrap64 (Int.tdiv a1 a0_0)) - a0_1)))) < (l0_3.length : Int) then (spec_RingRoll.l0 k2 a1 (wrap64 ((wrap64 (Int.tdiv a1 a0_0)) - a0_1)) (l0_2.length : Int) (wrap64 (x38_2 + 1)) a0_0 a0_1 l0_2 l0_3 t227 t228 (y238.set (x38_2 : Int).toNat (rd l0_2 (wrap64 (x38_2 - (wrap64 ((wrap64 (Int.tdiv a1 a0_0)) - a0_1)))))) (y239.set (x38_2 : Int).toNat (rd l0_3 (wrap64 (x38_2 - (wrap64 ((wrap64 (Int.tdiv a1 a0_0)) - a0_1))))))) else (none)) else (none)) else (none)) else (spec_RingRoll.l0 k2 a1 (wrap64 ((wrap64 (Int.tdiv a1 a0_0)) - a0_1)) (l0_2.length : Int) (wrap64 (x38_2 + 1)) a0_0 a0_1 l0_2 l0_3 t227 t228 y238 y239))) else (none)) = some (r1, r2, r3, r4) := by first | (rw [hy238]; with_reducible exact H) | (have H2_ := (Option.bind_some _ _).symm.trans H; rw [hy238]; with_reducible exact H2_) | (have H2_ := (Option.bind_some _ _).symm.trans H; with_reducible exact H2_) | with_reducible exact H | (rw [hy238]; exact H) | exact H
          have Ny238 := Aside0.mk hy238
          clear hy238
          by_cases c45 : x38_2 < (x236003_2.length : Int)
          ·rw [if_pos c45] at H
           have c45b0 : decide (x38_2 < (x236003_2.length : Int)) = true := decide_eq_true c45
           clear c45
           obtain ⟨y239, hy239⟩ : ∃ y_ : List Int, y_ = (x236003_2.set (x38_2 : Int).toNat 0) := ⟨_, rfl⟩
           replace H : (if x38_2 ≥ (wrap64 ((wrap64 (Int.tdiv a1 a0_0)) - a0_1)) then (if 0 ≤ (wrap64 (x38_2 - (wrap64 ((wrap64 (Int.tdiv a1 a0_0)) - a0_1)))) then (if (wrap64 (x38_2 - (wrap64 ((wrap64 (Int.tdiv a1 a0_0)) - a0_1)))) < (l0_2.length : Int) then (if (wrap64 (x38_2 - (wrap64 ((wrap64 (Int.tdiv a1 a0_0)) - a0_1)))) < (l0_3.length : Int) then (spec_RingRoll.l0 k2 a1 (wrap64 ((wrap64 (Int.tdiv a1 a0_0)) - a0_1)) (l0_2.length : Int) (wrap64 (x38_2 + 1)) a0_0 a0_1 l0_2 l0_3 t227 t228 (y238.set (x38_2 : Int).toNat (rd l0_2 (wrap64 (x38_2 - (wrap64 ((wrap64 (Int.tdiv a1 a0_0)) - a0_1)))))) (y239.set (x38_2 : Int).toNat (rd l0_3 (wrap64 (x38_2 - (wrap64 ((wrap64 (Int.tdiv a1 a0_0)) - a0_1))))))) else (none)) else (none)) else (none)) else (spec_RingRoll.l0 k2 a1 (wrap64 ((wrap64 (Int.tdiv a1 a0_0)) - a0_1)) (l0_2.length : Int) (wrap64 (x38_2 + 1)) a0_0 a0_1 l0_2 l0_3 t227 t228 y238 y239)) = some (r1, r2, r3, r4) := by first | (rw [hy239]; with_reducible exact H) | (have H2_ := (Option.bind_some _ _).symm.trans H; rw [hy239]; with_reducible exact H2_) | (have H2_ := (Option.bind_some _ _).symm.trans H; with_reducible exact H2_) | with_reducible exact H | (rw [hy239]; exact H) | exact H
           have Ny239 := Aside0.mk hy239
           clear hy239
           by_cases c47 : x38_2 ≥ (wrap64 ((wrap64 (Int.tdiv a1 a0_0)) - a0_1))
           ·rw [if_pos c47] at H
            have c47b0 : decide ((wrap64 ((wrap64 (Int.tdiv a1 a0_0)) - a0_1)) ≤ x38_2) = true := decide_eq_true c47
            clear c47
            obtain ⟨ji48, hji48⟩ : ∃ j_ : Int, (wrap64 (x38_2 - (wrap64 ((wrap64 (Int.tdiv a1 a0_0)) - a0_1)))) = j_ := ⟨_, rfl⟩
            replace H : (if 0 ≤ (ji48) then (if (ji48) < (l0_2.length : Int) then (if (ji48) < (l0_3.length : Int) then (spec_RingRoll.l0 k2 a1 (wrap64 ((wrap64 (Int.tdiv a1 a0_0)) - a0_1)) (l0_2.length : Int) (wrap64 (x38_2 + 1)) a0_0 a0_1 l0_2 l0_3 t227 t228 (y238.set (x38_2 : Int).toNat (rd l0_2 (ji48))) (y239.set (x38_2 : Int).toNat (rd l0_3 (ji48)))) else (none)) else (none)) else (none)) = some (r1, r2, r3, r4) := by first | (rw [hji48] at H; exact H) | (simp only [hji48] at H ⊢; exact H)
            have hji48w : (IntKind.i64.wrap (x38_2 - (wrap64 ((wrap64 (Int.tdiv a1 a0_0)) - a0_1)))) = ji48 := (i64_w _).trans hji48
            by_cases c49 : 0 ≤ (ji48)
            ·rw [if_pos c49] at H
             have c49b0 : decide (0 ≤ (ji48)) = true := decide_eq_true c49
             clear c49
             by_cases c50 : (ji48) < (l0_2.length : Int)
             ·rw [if_pos c50] at H
              have c50b0 : decide ((ji48) < (l0_2.length : Int)) = true := decide_eq_true c50
              clear c50
              obtain ⟨y241, hy241⟩ : ∃ y_ : List Int, y_ = (y238.set (x38_2 : Int).toNat (rd l0_2 (ji48))) := ⟨_, rfl⟩
              replace H : (if (ji48) < (l0_3.length : Int) then (spec_RingRoll.l0 k2 a1 (wrap64 ((wrap64 (Int.tdiv a1 a0_0)) - a0_1)) (l0_2.length : Int) (wrap64 (x38_2 + 1)) a0_0 a0_1 l0_2 l0_3 t227 t228 y241 (y239.set (x38_2 : Int).toNat (rd l0_3 (ji48)))) else (none)) = some (r1, r2, r3, r4) := by first | (rw [hy241]; with_reducible exact H) | (have H2_ := (Option.bind_some _ _).symm.trans H; rw [hy241]; with_reducible exact H2_) | (have H2_ := (Option.bind_some _ _).symm.trans H; with_reducible exact H2_) | with_reducible exact H | (rw [hy241]; exact H) | exact H
              have Ny241 := Aside0.mk hy241
              clear hy241
              by_cases c52 : (ji48) < (l0_3.length : Int)
              ·rw [if_pos c52] at H
               have c52b0 : decide ((ji48) < (l0_3.length : Int)) = true := decide_eq_true c52
               clear c52
               obtain ⟨y243, hy243⟩ : ∃ y_ : List Int, y_ = (y239.set (x38_2 : Int).toNat (rd l0_3 (ji48))) := ⟨_, rfl⟩
               replace H : (spec_RingRoll.l0 k2 a1 (wrap64 ((wrap64 (Int.tdiv a1 a0_0)) - a0_1)) (l0_2.length : Int) (wrap64 (x38_2 + 1)) a0_0 a0_1 l0_2 l0_3 t227 t228 y241 y243) = some (r1, r2, r3, r4) := by first | (rw [hy243]; with_reducible exact H) | (have H2_ := (Option.bind_some _ _).symm.trans H; rw [hy243]; with_reducible exact H2_) | (have H2_ := (Option.bind_some _ _).symm.trans H; with_reducible exact H2_) | with_reducible exact H | (rw [hy243]; exact H) | exact H
               have Ny243 := Aside0.mk hy243
               clear hy243
               have H' := Aside0.mk H
               clear H
               have hnb54 := NB235_225.out
               have hnc54 := NB225_235.out
               have hnb55 := NB235_226.out
               have hnc55 := NB226_235.out
               obtain ⟨hcz56_0, hcz56_1, hcz56_2, hcz56_3, hfz56_0, hfz56_1, hfz56_2, hfz56_3⟩ := bwZ4 BK235.out
               have p44 : 0 ≤ (x38_2 : Int) := bwD
               have q44 : (x38_2 : Int) < ((x236002_2.length : Int) : Int) := bwD
               obtain ⟨go44, co44, eo44, gb44, gl44, cl44, HG44⟩ := Kd.R_form HO_236002.out (by omega)
               (first | cases eo44 | (injection eo44 with ea_ en_ ec_; (first | subst ea_ | (injection ea_ with ea_; subst ea_)); subst ec_; clear en_))
               have GB44 := Aside0.mk gb44
               have GG44 := Aside0.mk HG44
               clear gb44 gl44 HG44
               obtain ⟨hx44_0, hf44_0⟩ := Kd.R_celln 0 HO_236002.out (x38_2 : Int) p44 q44
               replace p44 := eq_true p44
               replace q44 := eq_true q44
               have HP57 := Kd.R_putg HO_236002.out (x38_2 : Int) 0
               try go_wp2_with (first | ((with_reducible refine gate_store (t := 3) (p := 44) rfl ?_); refine store_event (t := 3) (p := 44) (v := ?vo_w58) (w1 := (wr.setCell ⟨go44, (x38_2 : Int).toNat, none⟩ (.int .i64 0))) ?hg ?ho ?hn ?hr ?_; (case ho => rfl); (case hg => rfl); (case hn => rfl); (case hr => first | (go_simp; done) | (go_simp; rfl)); intro w58 hw; have hg : wr.grownBy w58 (some go44) := (by rw [hw]; exact HP57.2); have hp_ : Kd.R (Kd.int .i64) 3 w58 w.heap.size (fun k_ => some k_ ≠ (u236003 : Value).ownBlock) (.slice (some ⟨go44, 0, none⟩) x236002_2.length co44) y238 := (by rw [hw, Ny238.out]; exact HP57.1); clear HP57; have n0_ := Aside0.mk (hp_); have n1_ := Aside0.mk (Kd.R_after (v := (.slice (some ⟨go44, 0, none⟩) x236002_2.length co44)) (v1 := (.slice (some ⟨go44, 0, none⟩) x236002_2.length co44)) (ok := (fun _ => True)) (by (with_reducible repeat (first | apply Kd.R_alloc | apply Kd.R_drewN | apply Kd.R_drew)); exact Kd.R_mono HO_236003.out (fun _ hk => ⟨trivial, hk⟩)) hg (.inl rfl)); have n2_ := Aside0.mk (blk_grown (g := gb225) (o := .cells #[.int .i64 a0_0, .int .i64 a0_1, .slice A0_2 l0_2.length c0_2, .slice A0_3 l0_3.length c0_3] 41 (0, 0)) (bwK BK225.out) hg (Kd.R_ne HO_236002.out BK225.out (by decide))); have n3_ := Aside0.mk (blk_grown (g := gb226) (o := .cells #[.int .i64 0, .int .i64 0, .slice none 0 0, .slice none 0 0] 41 (0, 0)) (bwK BK226.out) hg (Kd.R_ne HO_236002.out BK226.out (by decide))); have n4_ := Aside0.mk (blk_grown (g := gb235) (o := .cells #[.int .i64 t227, .int .i64 t228, .slice (some ⟨go44, 0, none⟩) x236002_2.length co44, u236003] 41 (0, 0)) (bwK BK235.out) hg (Kd.R_ne HO_236002.out BK235.out (by decide))); have n5_ := Aside0.mk ((by rw [hw]; exact below_set (HB.out) GB44.out : Below w.heap.size w w58)); clear HO_236002; clear HO_236003; clear BK225; clear BK226; clear BK235; clear HB; have HO_236002 := n0_; have HO_236003 := n1_; have BK225 := n2_; have BK226 := n3_; have BK235 := n4_; have HB := n5_; clear n0_ n1_ n2_ n3_ n4_ n5_; clear hg hw hp_; obtain ⟨hcz59_0, hcz59_1, hcz59_2, hcz59_3, hfz59_0, hfz59_1, hfz59_2, hfz59_3⟩ := bwZ4 BK235.out; have p46 : 0 ≤ (x38_2 : Int) := bwD; have q46 : (x38_2 : Int) < ((x236003_2.length : Int) : Int) := bwD; obtain ⟨go46, co46, eo46, gb46, gl46, cl46, HG46⟩ := Kd.R_form HO_236003.out (by omega); (first | cases eo46 | (injection eo46 with ea_ en_ ec_; (first | subst ea_ | (injection ea_ with ea_; subst ea_)); subst ec_; clear en_)); have GB46 := Aside0.mk gb46; have GG46 := Aside0.mk HG46; clear gb46 gl46 HG46; obtain ⟨hx46_0, hf46_0⟩ := Kd.R_celln 0 HO_236003.out (x38_2 : Int) p46 q46; replace p46 := eq_true p46; replace q46 := eq_true q46; have n_ := Aside0.mk (Kd.R_mono (ok' := (fun k_ => some k_ ≠ (.slice (some ⟨go44, 0, none⟩) x236002_2.length co44 : Value).ownBlock)) HO_236003.out (fun k_ hk => hk.2)); clear HO_236003; have HO_236003 := n_; clear n_; obtain ⟨hy60_, hz60_⟩ := Kd.R_celln 0 HO_236003.out (x38_2 : Int) (bwD) (bwD); have HP60 := Kd.R_putg HO_236003.out (x38_2 : Int) 0) | ((with_reducible refine gate_store (t := 3) (p := 48) rfl ?_); refine store_event (t := 3) (p := 48) (v := ?vo_w61) (w1 := (w58.setCell ⟨go46, (x38_2 : Int).toNat, none⟩ (.int .i64 0))) ?hg ?ho ?hn ?hr ?_; (case ho => rfl); (case hg => rfl); (case hn => rfl); (case hr => first | (go_simp; done) | (go_simp; rfl)); intro w61 hw; have hg : w58.grownBy w61 (some go46) := (by rw [hw]; exact HP60.2); have hp_ : Kd.R (Kd.int .i64) 3 w61 w.heap.size (fun k_ => some k_ ≠ (.slice (some ⟨go44, 0, none⟩) x236002_2.length co44 : Value).ownBlock) (.slice (some ⟨go46, 0, none⟩) x236003_2.length co46) y239 := (by rw [hw, Ny239.out]; exact HP60.1); clear HP60; have n0_ := Aside0.mk (Kd.R_after (v := (.slice (some ⟨go46, 0, none⟩) x236003_2.length co46)) (v1 := (.slice (some ⟨go46, 0, none⟩) x236003_2.length co46)) (ok := (fun _ => True)) (by (with_reducible repeat (first | apply Kd.R_alloc | apply Kd.R_drewN | apply Kd.R_drew)); exact Kd.R_mono HO_236002.out (fun _ hk => ⟨trivial, hk⟩)) hg (.inl rfl)); have n1_ := Aside0.mk (hp_); have n2_ := Aside0.mk (blk_grown (g := gb225) (o := .cells #[.int .i64 a0_0, .int .i64 a0_1, .slice A0_2 l0_2.length c0_2, .slice A0_3 l0_3.length c0_3] 41 (0, 0)) (bwK BK225.out) hg (Kd.R_ne HO_236003.out BK225.out (by decide))); have n3_ := Aside0.mk (blk_grown (g := gb226) (o := .cells #[.int .i64 0, .int .i64 0, .slice none 0 0, .slice none 0 0] 41 (0, 0)) (bwK BK226.out) hg (Kd.R_ne HO_236003.out BK226.out (by decide))); have n4_ := Aside0.mk (blk_grown (g := gb235) (o := .cells #[.int .i64 t227, .int .i64 t228, .slice (some ⟨go44, 0, none⟩) x236002_2.length co44, .slice (some ⟨go46, 0, none⟩) x236003_2.length co46] 41 (0, 0)) (bwK BK235.out) hg (Kd.R_ne HO_236003.out BK235.out (by decide))); have n5_ := Aside0.mk ((by rw [hw]; exact below_set (HB.out) GB46.out : Below w.heap.size w w61)); clear HO_236002; clear HO_236003; clear BK225; clear BK226; clear BK235; clear HB; have HO_236002 := n0_; have HO_236003 := n1_; have BK225 := n2_; have BK226 := n3_; have BK235 := n4_; have HB := n5_; clear n0_ n1_ n2_ n3_ n4_ n5_; clear hg hw hp_))
               have n0_ := Aside0.mk (Kd.R_drew HO_236002.out)
               have n1_ := Aside0.mk (Kd.R_drew HO_236003.out)
               have n2_ := Aside0.mk (blk_drew BK225.out)
               have n3_ := Aside0.mk (blk_drew BK226.out)
               have n4_ := Aside0.mk (blk_drew BK235.out)
               have n5_ := Aside0.mk (below_drew1 HB.out)
               clear HO_236002
               clear HO_236003
               clear BK225
               clear BK226
               clear BK235
               clear HB
               have HO_236002 := n0_
               have HO_236003 := n1_
               have BK225 := n2_
               have BK226 := n3_
               have BK235 := n4_
               have HB := n5_
               clear n0_ n1_ n2_ n3_ n4_ n5_
               have p240 : 0 ≤ ((ji48) : Int) := bwD
               have q240 : (ji48) < (l0_2.length : Int) := bwD
               obtain ⟨ad240, e240, hx240_0⟩ := Kd.at_int HR0_2.out (ji48) p240 q240
               have hw240_0 := hx240_0
               cases e240
               replace hx240_0 := (HB.out.cell (World.block_lt_of_cell? w _ hx240_0)).trans hx240_0
               replace p240 := eq_true p240
               replace q240 := eq_true q240
               have p51 : 0 ≤ (x38_2 : Int) := bwD
               have q51 : (x38_2 : Int) < ((x236002_2.length : Int) : Int) := bwD
               obtain ⟨hx51_0, hf51_0⟩ := Kd.R_celln 0 HO_236002.out (x38_2 : Int) p51 q51
               replace p51 := eq_true p51
               replace q51 := eq_true q51
               have HP63 := Kd.R_putn HO_236002.out (x38_2 : Int) (rd l0_2 (ji48))
               rw [← Ny241.out] at HP63
               have HQ63 := Aside0.mk HP63
               clear HP63
               refine start_ (n := 12) (S := fun w' => w'.cell? ⟨gb235, 0, none⟩ = some (.int .i64 t227) ∧ w'.cell? ⟨gb235, 1, none⟩ = some (.int .i64 t228) ∧ w'.cell? ⟨gb235, 2, none⟩ = some (.slice (some ⟨go44, 0, none⟩) x236002_2.length co44) ∧ w'.cell? ⟨gb235, 3, none⟩ = some (.slice (some ⟨go46, 0, none⟩) x236003_2.length co46) ∧ w'.cell? ⟨gb225, 0, none⟩ = some (.int .i64 a0_0) ∧ w'.cell? ⟨gb225, 1, none⟩ = some (.int .i64 a0_1) ∧ w'.cell? ⟨gb225, 2, none⟩ = some (.slice (some ad240) l0_2.length c0_2) ∧ w'.cell? ⟨gb225, 3, none⟩ = some (.slice A0_3 l0_3.length c0_3) ∧ w'.cell? (ad240.add ((ji48)).toNat) = some (.int .i64 (rd l0_2 (ji48)))) (ds := [11]) #[false, false, false, false, false, false, false, false, false, false, false, false] (by kernel_rfl) rfl rfl ⟨(blk_cell BK235.out 0).trans rfl, (blk_cell BK235.out 1).trans rfl, (blk_cell BK235.out 2).trans rfl, (blk_cell BK235.out 3).trans rfl, (blk_cell BK225.out 0).trans rfl, (blk_cell BK225.out 1).trans rfl, (blk_cell BK225.out 2).trans rfl, (blk_cell BK225.out 3).trans rfl, ((HB.out.cell (World.block_lt_of_cell? w _ hw240_0)).trans hw240_0)⟩ (fun hHeld => ?_); refine with_tabW spec_RingRoll.tab11 spec_RingRoll.bits11 (fun HT_ HW_ => ?_)
               generalize w61.drew = w62 at HO_236002 HO_236003 BK225 BK226 BK235 HB HQ63 hf51_0 hx240_0 hx51_0 hHeld ⊢
               refine pure_ (i := 0) (N := some 52) (v := ?_) (a' := ?_) #[true, false, false, false, false, false, false, false, false, false, false, false] rfl rfl (any_of HT_.out (by kernel_rfl)) (fun _ _ _ h => h) (Or.inl ⟨by rfl, ?_⟩) ?_ ?_
               rotate_left
               ·intro w'
                go_simp
                with_reducible rfl
               rotate_left
               ·simp only [Act.put, List.setIfInBounds_toArray, List.set_cons_zero, List.set_cons_succ, i64_w, i32_w]
                rfl
               refine pure_ (i := 2) (N := some 54) (v := ?_) (a' := ?_) #[true, false, true, false, false, false, false, false, false, false, false, false] rfl rfl (any_of HT_.out (by kernel_rfl)) (fun _ _ _ h => h) (Or.inl ⟨by rfl, ?_⟩) ?_ ?_
               rotate_left
               ·intro w'
                go_simp
                with_reducible rfl
               rotate_left
               ·simp only [Act.put, List.setIfInBounds_toArray, List.set_cons_zero, List.set_cons_succ, i64_w, i32_w]
                rfl
               refine pure_ (i := 3) (N := some 55) (v := ?_) (a' := ?_) #[true, false, true, true, false, false, false, false, false, false, false, false] rfl rfl (any_of HT_.out (by kernel_rfl)) (fun _ _ _ h => h) (Or.inl ⟨by rfl, ?_⟩) ?_ ?_
               rotate_left
               ·intro w'
                go_simp
                with_reducible rfl
               rotate_left
               ·simp only [Act.put, List.setIfInBounds_toArray, List.set_cons_zero, List.set_cons_succ, i64_w, i32_w]
                rfl
               refine pure_ (i := 5) (N := some 57) (v := ?_) (a' := ?_) #[true, false, true, true, false, true, false, false, false, false, false, false] rfl rfl (any_of HT_.out (by kernel_rfl)) (fun _ _ _ h => h) (Or.inl ⟨by rfl, ?_⟩) ?_ ?_
               rotate_left
               ·intro w'
                go_simp
                with_reducible rfl
               rotate_left
               ·simp only [Act.put, List.setIfInBounds_toArray, List.set_cons_zero, List.set_cons_succ, i64_w, i32_w]
                rfl
               refine pure_ (i := 6) (N := some 58) (v := ?_) (a' := ?_) #[true, false, true, true, false, true, true, false, false, false, false, false] rfl rfl (any_of HT_.out (by kernel_rfl)) (fun _ _ _ h => h) (Or.inl ⟨by rfl, ?_⟩) ?_ ?_
               rotate_left
               ·intro w'
                go_simp
                with_reducible rfl
               rotate_left
               ·simp only [Act.put, List.setIfInBounds_toArray, List.set_cons_zero, List.set_cons_succ, i64_w, i32_w]
                rfl
               refine pure_ (i := 7) (N := some 59) (v := ?_) (a' := ?_) #[true, false, true, true, false, true, true, true, false, false, false, false] rfl rfl (any_of HT_.out (by kernel_rfl)) (fun _ _ _ h => h) (Or.inl ⟨by rfl, ?_⟩) ?_ ?_
               rotate_left
               ·intro w'
                go_simp
                with_reducible rfl
               rotate_left
               ·simp only [Act.put, List.setIfInBounds_toArray, List.set_cons_zero, List.set_cons_succ, i64_w, i32_w]
                rfl
               refine take_ (i := 1) (N := some 53) (v := ?_) (a' := ?_) #[true, true, true, true, false, true, true, true, false, false, false, false] rfl rfl (take_ofW HT_.out HW_.out (by kernel_rfl)) (fun _ _ _ h => h) (Or.inl ⟨by rfl, ?_⟩) hHeld ?_ ?_
               rotate_left
               ·rintro w' ⟨s0, s1, s2, s3, s4, s5, s6, s7, s8⟩
                go_simp
                with_reducible rfl
               rotate_left
               ·simp only [Act.put, List.setIfInBounds_toArray, List.set_cons_zero, List.set_cons_succ, i64_w, i32_w]
                rfl
               refine take_ (i := 4) (N := some 56) (v := ?_) (a' := ?_) #[true, true, true, true, true, true, true, true, false, false, false, false] rfl rfl (take_ofW HT_.out HW_.out (by kernel_rfl)) (fun _ _ _ h => h) (Or.inl ⟨by rfl, ?_⟩) hHeld ?_ ?_
               rotate_left
               ·rintro w' ⟨s0, s1, s2, s3, s4, s5, s6, s7, s8⟩
                go_simp
                with_reducible rfl
               rotate_left
               ·simp only [Act.put, List.setIfInBounds_toArray, List.set_cons_zero, List.set_cons_succ, i64_w, i32_w]
                rfl
               refine pure_ (i := 8) (N := some 60) (v := ?_) (a' := ?_) #[true, true, true, true, true, true, true, true, true, false, false, false] rfl rfl (any_of HT_.out (by kernel_rfl)) (fun _ _ _ h => h) (Or.inl ⟨by rfl, ?_⟩) ?_ ?_
               rotate_left
               ·intro w'
                go_simp
                with_reducible rfl
               rotate_left
               ·simp only [Act.put, List.setIfInBounds_toArray, List.set_cons_zero, List.set_cons_succ, i64_w, i32_w]
                rfl
               refine take_ (i := 9) (N := some 61) (v := ?_) (a' := ?_) #[true, true, true, true, true, true, true, true, true, true, false, false] rfl rfl (take_ofW HT_.out HW_.out (by kernel_rfl)) (fun _ _ _ h => h) (Or.inl ⟨by rfl, ?_⟩) hHeld ?_ ?_
               rotate_left
               ·rintro w' ⟨s0, s1, s2, s3, s4, s5, s6, s7, s8⟩
                go_simp
                with_reducible rfl
               rotate_left
               ·simp only [Act.put, List.setIfInBounds_toArray, List.set_cons_zero, List.set_cons_succ, i64_w, i32_w]
                rfl
               refine pure_ (i := 10) (N := some 62) (v := ?_) (a' := ?_) #[true, true, true, true, true, true, true, true, true, true, true, false] rfl rfl (any_of HT_.out (by kernel_rfl)) (fun _ _ _ h => h) (Or.inl ⟨by rfl, ?_⟩) ?_ ?_
               rotate_left
               ·intro w'
                go_simp
                with_reducible rfl
               rotate_left
               ·simp only [Act.put, List.setIfInBounds_toArray, List.set_cons_zero, List.set_cons_succ, i64_w, i32_w]
                rfl
               refine last_ (i := 11) (N := none) #[true, true, true, true, true, true, true, true, true, true, true, true] rfl rfl (one_of HT_.out (by kernel_rfl)) (by decide) (fun K hK => ?_)
               refine skip_ (w1 := ?_) (by rfl) rfl ?_ ?_
               rotate_left
               ·go_simp
                rfl
               refine hK.out _ _ ?_
               clear hK K
               refine done_ (done_of HT_.out (by kernel_rfl)) ?_
               try go_wp2
               have n0_ : Aside0 (Kd.R (Kd.int .i64) 3 (w62.setCell ⟨go44, (x38_2 : Int).toNat, none⟩ (.int .i64 (rd l0_2 (ji48)))) w.heap.size (fun k_ => some k_ ≠ (.slice (some ⟨go46, 0, none⟩) x236003_2.length co46 : Value).ownBlock) (.slice (some ⟨go44, 0, none⟩) x236002_2.length co44) y241) := ⟨by (with_reducible repeat (first | apply Kd.R_alloc | apply Kd.R_drewN | apply Kd.R_drew)); exact Kd.R_mono HQ63.out (fun _ hk => hk.2)⟩
               have n1_ : Aside0 (Kd.R (Kd.int .i64) 3 (w62.setCell ⟨go44, (x38_2 : Int).toNat, none⟩ (.int .i64 (rd l0_2 (ji48)))) w.heap.size (fun k_ => some k_ ≠ (.slice (some ⟨go44, 0, none⟩) x236002_2.length co44 : Value).ownBlock) (.slice (some ⟨go46, 0, none⟩) x236003_2.length co46) y239) := ⟨by (with_reducible repeat (first | apply Kd.R_alloc | apply Kd.R_drewN | apply Kd.R_drew)); exact Kd.R_mono (Kd.R_far (p := ⟨go44, (x38_2 : Int).toNat, none⟩) (Kd.R_mono HO_236003.out (fun k_ hk => (⟨hk, fun e_ => hk (by rw [e_]; rfl)⟩ : _ ∧ k_ ≠ go44))) (fun _ hk => hk.2) (.int .i64 (rd l0_2 (ji48)))) (fun _ hk => hk.1)⟩
               have n2_ : Aside0 ((w62.setCell ⟨go44, (x38_2 : Int).toNat, none⟩ (.int .i64 (rd l0_2 (ji48)))).heap[gb225]? = some (.cells #[.int .i64 a0_0, .int .i64 a0_1, .slice (some ad240) l0_2.length c0_2, .slice A0_3 l0_3.length c0_3] 41 (0, 0))) := ⟨by (with_reducible repeat (first | refine blk_drewN ?_ _ | refine blk_drew ?_ | refine blk_alloc ?_ _)); refine blk_far ?_ (by have h_ := Kd.R_ne HO_236002.out BK225.out (by decide); intro e_; exact h_ (by rw [e_]; rfl)) _; (with_reducible repeat (first | refine blk_drewN ?_ _ | refine blk_drew ?_ | refine blk_alloc ?_ _)); exact BK225.out⟩
               have n3_ : Aside0 ((w62.setCell ⟨go44, (x38_2 : Int).toNat, none⟩ (.int .i64 (rd l0_2 (ji48)))).heap[gb226]? = some (.cells #[.int .i64 0, .int .i64 0, .slice none 0 0, .slice none 0 0] 41 (0, 0))) := ⟨by (with_reducible repeat (first | refine blk_drewN ?_ _ | refine blk_drew ?_ | refine blk_alloc ?_ _)); refine blk_far ?_ (by have h_ := Kd.R_ne HO_236002.out BK226.out (by decide); intro e_; exact h_ (by rw [e_]; rfl)) _; (with_reducible repeat (first | refine blk_drewN ?_ _ | refine blk_drew ?_ | refine blk_alloc ?_ _)); exact BK226.out⟩
               have n4_ : Aside0 ((w62.setCell ⟨go44, (x38_2 : Int).toNat, none⟩ (.int .i64 (rd l0_2 (ji48)))).heap[gb235]? = some (.cells #[.int .i64 t227, .int .i64 t228, .slice (some ⟨go44, 0, none⟩) x236002_2.length co44, .slice (some ⟨go46, 0, none⟩) x236003_2.length co46] 41 (0, 0))) := ⟨by (with_reducible repeat (first | refine blk_drewN ?_ _ | refine blk_drew ?_ | refine blk_alloc ?_ _)); refine blk_far ?_ (by have h_ := Kd.R_ne HO_236002.out BK235.out (by decide); intro e_; exact h_ (by rw [e_]; rfl)) _; (with_reducible repeat (first | refine blk_drewN ?_ _ | refine blk_drew ?_ | refine blk_alloc ?_ _)); exact BK235.out⟩
               have n5_ : Aside0 (Below w.heap.size w (w62.setCell ⟨go44, (x38_2 : Int).toNat, none⟩ (.int .i64 (rd l0_2 (ji48))))) := ⟨bwB⟩
               (try clear HO_236002)
               (try clear HO_236003)
               (try clear BK225)
               (try clear BK226)
               (try clear BK235)
               (try clear HB)
               generalize (w62.setCell ⟨go44, (x38_2 : Int).toNat, none⟩ (.int .i64 (rd l0_2 (ji48)))) = w64 at n0_ n1_ n2_ n3_ n4_ n5_ ⊢
               have HO_236002 := n0_
               have HO_236003 := n1_
               have BK225 := n2_
               have BK226 := n3_
               have BK235 := n4_
               have HB := n5_
               clear n0_ n1_ n2_ n3_ n4_ n5_
               have n0_ := Aside0.mk (Kd.R_drew HO_236002.out)
               have n1_ := Aside0.mk (Kd.R_drew HO_236003.out)
               have n2_ := Aside0.mk (blk_drew BK225.out)
               have n3_ := Aside0.mk (blk_drew BK226.out)
               have n4_ := Aside0.mk (blk_drew BK235.out)
               have n5_ := Aside0.mk (below_drew1 HB.out)
               clear HO_236002
               clear HO_236003
               clear BK225
               clear BK226
               clear BK235
               clear HB
               have HO_236002 := n0_
               have HO_236003 := n1_
               have BK225 := n2_
               have BK226 := n3_
               have BK235 := n4_
               have HB := n5_
               clear n0_ n1_ n2_ n3_ n4_ n5_
               have p242 : 0 ≤ ((ji48) : Int) := bwD
               have q242 : (ji48) < (l0_3.length : Int) := bwD
               obtain ⟨ad242, e242, hx242_0⟩ := Kd.at_int HR0_3.out (ji48) p242 q242
               have hw242_0 := hx242_0
               cases e242
               replace hx242_0 := (HB.out.cell (World.block_lt_of_cell? w _ hx242_0)).trans hx242_0
               replace p242 := eq_true p242
               replace q242 := eq_true q242
               have p53 : 0 ≤ (x38_2 : Int) := bwD
               have q53 : (x38_2 : Int) < ((x236003_2.length : Int) : Int) := bwD
               obtain ⟨hx53_0, hf53_0⟩ := Kd.R_celln 0 HO_236003.out (x38_2 : Int) p53 q53
               replace p53 := eq_true p53
               replace q53 := eq_true q53
               have HP66 := Kd.R_putn HO_236003.out (x38_2 : Int) (rd l0_3 (ji48))
               rw [← Ny243.out] at HP66
               have HQ66 := Aside0.mk HP66
               clear HP66
               refine start_ (n := 12) (S := fun w' => w'.cell? ⟨gb235, 0, none⟩ = some (.int .i64 t227) ∧ w'.cell? ⟨gb235, 1, none⟩ = some (.int .i64 t228) ∧ w'.cell? ⟨gb235, 2, none⟩ = some (.slice (some ⟨go44, 0, none⟩) x236002_2.length co44) ∧ w'.cell? ⟨gb235, 3, none⟩ = some (.slice (some ⟨go46, 0, none⟩) x236003_2.length co46) ∧ w'.cell? ⟨gb225, 0, none⟩ = some (.int .i64 a0_0) ∧ w'.cell? ⟨gb225, 1, none⟩ = some (.int .i64 a0_1) ∧ w'.cell? ⟨gb225, 2, none⟩ = some (.slice (some ad240) l0_2.length c0_2) ∧ w'.cell? ⟨gb225, 3, none⟩ = some (.slice (some ad242) l0_3.length c0_3) ∧ w'.cell? (ad242.add ((ji48)).toNat) = some (.int .i64 (rd l0_3 (ji48)))) (ds := [11]) #[false, false, false, false, false, false, false, false, false, false, false, false] (by kernel_rfl) rfl rfl ⟨(blk_cell BK235.out 0).trans rfl, (blk_cell BK235.out 1).trans rfl, (blk_cell BK235.out 2).trans rfl, (blk_cell BK235.out 3).trans rfl, (blk_cell BK225.out 0).trans rfl, (blk_cell BK225.out 1).trans rfl, (blk_cell BK225.out 2).trans rfl, (blk_cell BK225.out 3).trans rfl, ((HB.out.cell (World.block_lt_of_cell? w _ hw242_0)).trans hw242_0)⟩ (fun hHeld => ?_); refine with_tabW spec_RingRoll.tab12 spec_RingRoll.bits12 (fun HT_ HW_ => ?_)
               generalize w64.drew = w65 at HO_236002 HO_236003 BK225 BK226 BK235 HB HQ63 HQ66 hf53_0 hx242_0 hx53_0 hHeld ⊢
               refine pure_ (i := 0) (N := some 63) (v := ?_) (a' := ?_) #[true, false, false, false, false, false, false, false, false, false, false, false] rfl rfl (any_of HT_.out (by kernel_rfl)) (fun _ _ _ h => h) (Or.inl ⟨by rfl, ?_⟩) ?_ ?_
               rotate_left
               ·intro w'
                go_simp
                with_reducible rfl
               rotate_left
               ·simp only [Act.put, List.setIfInBounds_toArray, List.set_cons_zero, List.set_cons_succ, i64_w, i32_w]
                rfl
               refine pure_ (i := 2) (N := some 65) (v := ?_) (a' := ?_) #[true, false, true, false, false, false, false, false, false, false, false, false] rfl rfl (any_of HT_.out (by kernel_rfl)) (fun _ _ _ h => h) (Or.inl ⟨by rfl, ?_⟩) ?_ ?_
               rotate_left
               ·intro w'
                go_simp
                with_reducible rfl
               rotate_left
               ·simp only [Act.put, List.setIfInBounds_toArray, List.set_cons_zero, List.set_cons_succ, i64_w, i32_w]
                rfl
               refine pure_ (i := 3) (N := some 66) (v := ?_) (a' := ?_) #[true, false, true, true, false, false, false, false, false, false, false, false] rfl rfl (any_of HT_.out (by kernel_rfl)) (fun _ _ _ h => h) (Or.inl ⟨by rfl, ?_⟩) ?_ ?_
               rotate_left
               ·intro w'
                go_simp
                with_reducible rfl
               rotate_left
               ·simp only [Act.put, List.setIfInBounds_toArray, List.set_cons_zero, List.set_cons_succ, i64_w, i32_w]
                rfl
               refine pure_ (i := 5) (N := some 68) (v := ?_) (a' := ?_) #[true, false, true, true, false, true, false, false, false, false, false, false] rfl rfl (any_of HT_.out (by kernel_rfl)) (fun _ _ _ h => h) (Or.inl ⟨by rfl, ?_⟩) ?_ ?_
               rotate_left
               ·intro w'
                go_simp
                with_reducible rfl
               rotate_left
               ·simp only [Act.put, List.setIfInBounds_toArray, List.set_cons_zero, List.set_cons_succ, i64_w, i32_w]
                rfl
               refine pure_ (i := 6) (N := some 69) (v := ?_) (a' := ?_) #[true, false, true, true, false, true, true, false, false, false, false, false] rfl rfl (any_of HT_.out (by kernel_rfl)) (fun _ _ _ h => h) (Or.inl ⟨by rfl, ?_⟩) ?_ ?_
               rotate_left
               ·intro w'
                go_simp
                with_reducible rfl
               rotate_left
               ·simp only [Act.put, List.setIfInBounds_toArray, List.set_cons_zero, List.set_cons_succ, i64_w, i32_w]
                rfl
               refine pure_ (i := 7) (N := some 70) (v := ?_) (a' := ?_) #[true, false, true, true, false, true, true, true, false, false, false, false] rfl rfl (any_of HT_.out (by kernel_rfl)) (fun _ _ _ h => h) (Or.inl ⟨by rfl, ?_⟩) ?_ ?_
               rotate_left
               ·intro w'
                go_simp
                with_reducible rfl
               rotate_left
               ·simp only [Act.put, List.setIfInBounds_toArray, List.set_cons_zero, List.set_cons_succ, i64_w, i32_w]
                rfl
               refine take_ (i := 1) (N := some 64) (v := ?_) (a' := ?_) #[true, true, true, true, false, true, true, true, false, false, false, false] rfl rfl (take_ofW HT_.out HW_.out (by kernel_rfl)) (fun _ _ _ h => h) (Or.inl ⟨by rfl, ?_⟩) hHeld ?_ ?_
               rotate_left
               ·rintro w' ⟨s0, s1, s2, s3, s4, s5, s6, s7, s8⟩
                go_simp
                with_reducible rfl
               rotate_left
               ·simp only [Act.put, List.setIfInBounds_toArray, List.set_cons_zero, List.set_cons_succ, i64_w, i32_w]
                rfl
               refine take_ (i := 4) (N := some 67) (v := ?_) (a' := ?_) #[true, true, true, true, true, true, true, true, false, false, false, false] rfl rfl (take_ofW HT_.out HW_.out (by kernel_rfl)) (fun _ _ _ h => h) (Or.inl ⟨by rfl, ?_⟩) hHeld ?_ ?_
               rotate_left
               ·rintro w' ⟨s0, s1, s2, s3, s4, s5, s6, s7, s8⟩
                go_simp
                with_reducible rfl
               rotate_left
               ·simp only [Act.put, List.setIfInBounds_toArray, List.set_cons_zero, List.set_cons_succ, i64_w, i32_w]
                rfl
               refine pure_ (i := 8) (N := some 71) (v := ?_) (a' := ?_) #[true, true, true, true, true, true, true, true, true, false, false, false] rfl rfl (any_of HT_.out (by kernel_rfl)) (fun _ _ _ h => h) (Or.inl ⟨by rfl, ?_⟩) ?_ ?_
               rotate_left
               ·intro w'
                go_simp
                with_reducible rfl
               rotate_left
               ·simp only [Act.put, List.setIfInBounds_toArray, List.set_cons_zero, List.set_cons_succ, i64_w, i32_w]
                rfl
               refine take_ (i := 9) (N := some 72) (v := ?_) (a' := ?_) #[true, true, true, true, true, true, true, true, true, true, false, false] rfl rfl (take_ofW HT_.out HW_.out (by kernel_rfl)) (fun _ _ _ h => h) (Or.inl ⟨by rfl, ?_⟩) hHeld ?_ ?_
               rotate_left
               ·rintro w' ⟨s0, s1, s2, s3, s4, s5, s6, s7, s8⟩
                go_simp
                with_reducible rfl
               rotate_left
               ·simp only [Act.put, List.setIfInBounds_toArray, List.set_cons_zero, List.set_cons_succ, i64_w, i32_w]
                rfl
               refine pure_ (i := 10) (N := some 73) (v := ?_) (a' := ?_) #[true, true, true, true, true, true, true, true, true, true, true, false] rfl rfl (any_of HT_.out (by kernel_rfl)) (fun _ _ _ h => h) (Or.inl ⟨by rfl, ?_⟩) ?_ ?_
               rotate_left
               ·intro w'
                go_simp
                with_reducible rfl
               rotate_left
               ·simp only [Act.put, List.setIfInBounds_toArray, List.set_cons_zero, List.set_cons_succ, i64_w, i32_w]
                rfl
               refine last_ (i := 11) (N := none) #[true, true, true, true, true, true, true, true, true, true, true, true] rfl rfl (one_of HT_.out (by kernel_rfl)) (by decide) (fun K hK => ?_)
               refine skip_ (w1 := ?_) (by rfl) rfl ?_ ?_
               rotate_left
               ·go_simp
                rfl
               refine hK.out _ _ ?_
               clear hK K
               refine done_ (done_of HT_.out (by kernel_rfl)) ?_
               try go_wp2
               go_roundg k2
               case measure => have := HJ3.out; have := HK2.out; omega
               case rel => exact ⟨(wrap64 (x38_2 + 1)), (y241), (y243), (.slice (some ⟨go44, 0, none⟩) x236002_2.length co44), (.slice (some ⟨go46, 0, none⟩) x236003_2.length co46), (by first | rfl | (simp; done) | (simp [*]; done)), H', ⟨by have := HJ3.out; have := HK2.out; omega⟩, ⟨by (with_reducible repeat (first | apply Kd.R_alloc | apply Kd.R_drewN | apply Kd.R_drew)); exact Kd.R_mono (Kd.R_far (p := ⟨go46, (x38_2 : Int).toNat, none⟩) (Kd.R_mono HO_236002.out (fun k_ hk => (⟨hk, fun e_ => hk (by rw [e_]; rfl)⟩ : _ ∧ k_ ≠ go46))) (fun _ hk => hk.2) (.int .i64 (rd l0_3 (ji48)))) (fun _ hk => hk.1)⟩, ⟨by (with_reducible repeat (first | apply Kd.R_alloc | apply Kd.R_drewN | apply Kd.R_drew)); exact HQ66.out⟩, ⟨by (with_reducible repeat (first | refine blk_drewN ?_ _ | refine blk_drew ?_ | refine blk_alloc ?_ _)); refine blk_far ?_ (by have h_ := Kd.R_ne HO_236003.out BK225.out (by decide); intro e_; exact h_ (by rw [e_]; rfl)) _; (with_reducible repeat (first | refine blk_drewN ?_ _ | refine blk_drew ?_ | refine blk_alloc ?_ _)); exact BK225.out⟩, ⟨by (with_reducible repeat (first | refine blk_drewN ?_ _ | refine blk_drew ?_ | refine blk_alloc ?_ _)); refine blk_far ?_ (by have h_ := Kd.R_ne HO_236003.out BK226.out (by decide); intro e_; exact h_ (by rw [e_]; rfl)) _; (with_reducible repeat (first | refine blk_drewN ?_ _ | refine blk_drew ?_ | refine blk_alloc ?_ _)); exact BK226.out⟩, ⟨by (with_reducible repeat (first | refine blk_drewN ?_ _ | refine blk_drew ?_ | refine blk_alloc ?_ _)); refine blk_far ?_ (by have h_ := Kd.R_ne HO_236003.out BK235.out (by decide); intro e_; exact h_ (by rw [e_]; rfl)) _; (with_reducible repeat (first | refine blk_drewN ?_ _ | refine blk_drew ?_ | refine blk_alloc ?_ _)); exact BK235.out⟩, ⟨bwB⟩⟩
              ·rw [if_neg c52] at H
               exact absurd H (by simp)
             ·rw [if_neg c50] at H
              exact absurd H (by simp)
            ·rw [if_neg c49] at H
             exact absurd H (by simp)
           ·rw [if_neg c47] at H
            have c47b0 : decide ((wrap64 ((wrap64 (Int.tdiv a1 a0_0)) - a0_1)) ≤ x38_2) = false := decide_eq_false c47
            clear c47
            have H' := Aside0.mk H
            clear H
            have hnb67 := NB235_225.out
            have hnc67 := NB225_235.out
            have hnb68 := NB235_226.out
            have hnc68 := NB226_235.out
            obtain ⟨hcz69_0, hcz69_1, hcz69_2, hcz69_3, hfz69_0, hfz69_1, hfz69_2, hfz69_3⟩ := bwZ4 BK235.out
            have p44 : 0 ≤ (x38_2 : Int) := bwD
            have q44 : (x38_2 : Int) < ((x236002_2.length : Int) : Int) := bwD
            obtain ⟨go44, co44, eo44, gb44, gl44, cl44, HG44⟩ := Kd.R_form HO_236002.out (by omega)
            (first | cases eo44 | (injection eo44 with ea_ en_ ec_; (first | subst ea_ | (injection ea_ with ea_; subst ea_)); subst ec_; clear en_))
            have GB44 := Aside0.mk gb44
            have GG44 := Aside0.mk HG44
            clear gb44 gl44 HG44
            obtain ⟨hx44_0, hf44_0⟩ := Kd.R_celln 0 HO_236002.out (x38_2 : Int) p44 q44
            replace p44 := eq_true p44
            replace q44 := eq_true q44
            have HP70 := Kd.R_putg HO_236002.out (x38_2 : Int) 0
            go_wp2_with (first | ((with_reducible refine gate_store (t := 3) (p := 44) rfl ?_); refine store_event (t := 3) (p := 44) (v := ?vo_w71) (w1 := (wr.setCell ⟨go44, (x38_2 : Int).toNat, none⟩ (.int .i64 0))) ?hg ?ho ?hn ?hr ?_; (case ho => rfl); (case hg => rfl); (case hn => rfl); (case hr => first | (go_simp; done) | (go_simp; rfl)); intro w71 hw; have hg : wr.grownBy w71 (some go44) := (by rw [hw]; exact HP70.2); have hp_ : Kd.R (Kd.int .i64) 3 w71 w.heap.size (fun k_ => some k_ ≠ (u236003 : Value).ownBlock) (.slice (some ⟨go44, 0, none⟩) x236002_2.length co44) y238 := (by rw [hw, Ny238.out]; exact HP70.1); clear HP70; have n0_ := Aside0.mk (hp_); have n1_ := Aside0.mk (Kd.R_after (v := (.slice (some ⟨go44, 0, none⟩) x236002_2.length co44)) (v1 := (.slice (some ⟨go44, 0, none⟩) x236002_2.length co44)) (ok := (fun _ => True)) (by (with_reducible repeat (first | apply Kd.R_alloc | apply Kd.R_drewN | apply Kd.R_drew)); exact Kd.R_mono HO_236003.out (fun _ hk => ⟨trivial, hk⟩)) hg (.inl rfl)); have n2_ := Aside0.mk (blk_grown (g := gb225) (o := .cells #[.int .i64 a0_0, .int .i64 a0_1, .slice A0_2 l0_2.length c0_2, .slice A0_3 l0_3.length c0_3] 41 (0, 0)) (bwK BK225.out) hg (Kd.R_ne HO_236002.out BK225.out (by decide))); have n3_ := Aside0.mk (blk_grown (g := gb226) (o := .cells #[.int .i64 0, .int .i64 0, .slice none 0 0, .slice none 0 0] 41 (0, 0)) (bwK BK226.out) hg (Kd.R_ne HO_236002.out BK226.out (by decide))); have n4_ := Aside0.mk (blk_grown (g := gb235) (o := .cells #[.int .i64 t227, .int .i64 t228, .slice (some ⟨go44, 0, none⟩) x236002_2.length co44, u236003] 41 (0, 0)) (bwK BK235.out) hg (Kd.R_ne HO_236002.out BK235.out (by decide))); have n5_ := Aside0.mk ((by rw [hw]; exact below_set (HB.out) GB44.out : Below w.heap.size w w71)); clear HO_236002; clear HO_236003; clear BK225; clear BK226; clear BK235; clear HB; have HO_236002 := n0_; have HO_236003 := n1_; have BK225 := n2_; have BK226 := n3_; have BK235 := n4_; have HB := n5_; clear n0_ n1_ n2_ n3_ n4_ n5_; clear hg hw hp_; obtain ⟨hcz72_0, hcz72_1, hcz72_2, hcz72_3, hfz72_0, hfz72_1, hfz72_2, hfz72_3⟩ := bwZ4 BK235.out; have p46 : 0 ≤ (x38_2 : Int) := bwD; have q46 : (x38_2 : Int) < ((x236003_2.length : Int) : Int) := bwD; obtain ⟨go46, co46, eo46, gb46, gl46, cl46, HG46⟩ := Kd.R_form HO_236003.out (by omega); (first | cases eo46 | (injection eo46 with ea_ en_ ec_; (first | subst ea_ | (injection ea_ with ea_; subst ea_)); subst ec_; clear en_)); have GB46 := Aside0.mk gb46; have GG46 := Aside0.mk HG46; clear gb46 gl46 HG46; obtain ⟨hx46_0, hf46_0⟩ := Kd.R_celln 0 HO_236003.out (x38_2 : Int) p46 q46; replace p46 := eq_true p46; replace q46 := eq_true q46; have n_ := Aside0.mk (Kd.R_mono (ok' := (fun k_ => some k_ ≠ (.slice (some ⟨go44, 0, none⟩) x236002_2.length co44 : Value).ownBlock)) HO_236003.out (fun k_ hk => hk.2)); clear HO_236003; have HO_236003 := n_; clear n_; obtain ⟨hy73_, hz73_⟩ := Kd.R_celln 0 HO_236003.out (x38_2 : Int) (bwD) (bwD); have HP73 := Kd.R_putg HO_236003.out (x38_2 : Int) 0) | ((with_reducible refine gate_store (t := 3) (p := 48) rfl ?_); refine store_event (t := 3) (p := 48) (v := ?vo_w74) (w1 := (w71.setCell ⟨go46, (x38_2 : Int).toNat, none⟩ (.int .i64 0))) ?hg ?ho ?hn ?hr ?_; (case ho => rfl); (case hg => rfl); (case hn => rfl); (case hr => first | (go_simp; done) | (go_simp; rfl)); intro w74 hw; have hg : w71.grownBy w74 (some go46) := (by rw [hw]; exact HP73.2); have hp_ : Kd.R (Kd.int .i64) 3 w74 w.heap.size (fun k_ => some k_ ≠ (.slice (some ⟨go44, 0, none⟩) x236002_2.length co44 : Value).ownBlock) (.slice (some ⟨go46, 0, none⟩) x236003_2.length co46) y239 := (by rw [hw, Ny239.out]; exact HP73.1); clear HP73; have n0_ := Aside0.mk (Kd.R_after (v := (.slice (some ⟨go46, 0, none⟩) x236003_2.length co46)) (v1 := (.slice (some ⟨go46, 0, none⟩) x236003_2.length co46)) (ok := (fun _ => True)) (by (with_reducible repeat (first | apply Kd.R_alloc | apply Kd.R_drewN | apply Kd.R_drew)); exact Kd.R_mono HO_236002.out (fun _ hk => ⟨trivial, hk⟩)) hg (.inl rfl)); have n1_ := Aside0.mk (hp_); have n2_ := Aside0.mk (blk_grown (g := gb225) (o := .cells #[.int .i64 a0_0, .int .i64 a0_1, .slice A0_2 l0_2.length c0_2, .slice A0_3 l0_3.length c0_3] 41 (0, 0)) (bwK BK225.out) hg (Kd.R_ne HO_236003.out BK225.out (by decide))); have n3_ := Aside0.mk (blk_grown (g := gb226) (o := .cells #[.int .i64 0, .int .i64 0, .slice none 0 0, .slice none 0 0] 41 (0, 0)) (bwK BK226.out) hg (Kd.R_ne HO_236003.out BK226.out (by decide))); have n4_ := Aside0.mk (blk_grown (g := gb235) (o := .cells #[.int .i64 t227, .int .i64 t228, .slice (some ⟨go44, 0, none⟩) x236002_2.length co44, .slice (some ⟨go46, 0, none⟩) x236003_2.length co46] 41 (0, 0)) (bwK BK235.out) hg (Kd.R_ne HO_236003.out BK235.out (by decide))); have n5_ := Aside0.mk ((by rw [hw]; exact below_set (HB.out) GB46.out : Below w.heap.size w w74)); clear HO_236002; clear HO_236003; clear BK225; clear BK226; clear BK235; clear HB; have HO_236002 := n0_; have HO_236003 := n1_; have BK225 := n2_; have BK226 := n3_; have BK235 := n4_; have HB := n5_; clear n0_ n1_ n2_ n3_ n4_ n5_; clear hg hw hp_))
            go_roundg k2
            case measure => have := HJ3.out; have := HK2.out; omega
            case rel => exact ⟨(wrap64 (x38_2 + 1)), (y238), (y239), (.slice (some ⟨go44, 0, none⟩) x236002_2.length co44), (.slice (some ⟨go46, 0, none⟩) x236003_2.length co46), (by first | rfl | (simp; done) | (simp [*]; done)), H', ⟨by have := HJ3.out; have := HK2.out; omega⟩, ⟨by (with_reducible repeat (first | apply Kd.R_alloc | apply Kd.R_drewN | apply Kd.R_drew)); exact Kd.R_mono HO_236002.out (fun _ hk => hk.2)⟩, ⟨by (with_reducible repeat (first | apply Kd.R_alloc | apply Kd.R_drewN | apply Kd.R_drew)); exact HO_236003.out⟩, ⟨bwK BK225.out⟩, ⟨bwK BK226.out⟩, ⟨bwK BK235.out⟩, ⟨bwB⟩⟩
          ·rw [if_neg c45] at H
           exact absurd H (by simp)
         ·rw [if_neg c43] at H
          exact absurd H (by simp)
        ·rw [if_neg c42] at H
         exact absurd H (by simp)
       ·rw [if_neg c41] at H
        have c41b0 : decide (x38_2 < (l0_2.length : Int)) = false := decide_eq_false c41
        clear c41
        by_cases c75 : a0_0 = 0
        ·rw [if_pos c75] at H
         exact absurd H (by simp)
        ·rw [if_neg c75] at H
         have c75b0 : (a0_0 == 0) = false := beq_eq_false_iff_ne.mpr c75
         have c75b1 : (a0_0 != 0) = true := bne_iff_ne.mpr c75
         simp only [Option.some.injEq, Prod.mk.injEq] at H
         obtain ⟨rfl, rfl, rfl, rfl⟩ := H
         have hnb76 := NB225_226.out
         have hnc76 := NB226_225.out
         have hnb77 := NB225_235.out
         have hnc77 := NB235_225.out
         obtain ⟨hcz78_0, hcz78_1, hcz78_2, hcz78_3, hfz78_0, hfz78_1, hfz78_2, hfz78_3⟩ := bwZ4 BK225.out
         have hnb79 := NB235_226.out
         have hnc79 := NB226_235.out
         obtain ⟨hcz80_0, hcz80_1, hcz80_2, hcz80_3, hfz80_0, hfz80_1, hfz80_2, hfz80_3⟩ := bwZ4 BK235.out
         obtain ⟨hcz81_0, hcz81_1, hcz81_2, hcz81_3, hfz81_0, hfz81_1, hfz81_2, hfz81_3⟩ := bwZ4 BK226.out
         obtain ⟨Ao82, co82, eo82⟩ := Kd.R_slice HO_236002.out
         subst eo82
         obtain ⟨Ao83, co83, eo83⟩ := Kd.R_slice HO_236003.out
         subst eo83
         go_wp2
         refine bodyPost_ret (results_cell_row rfl _ _ gb226 41 #[.int .i64 t227, .int .i64 (wrap64 (Int.tdiv a1 a0_0)), .slice Ao82 x236002_2.length co82, .slice Ao83 x236003_2.length co83] (0, 0) _ rfl (by (with_reducible repeat (first | refine blk_drewN ?_ _ | refine blk_drew ?_ | refine blk_alloc ?_ _)); refine blk_put (cs := #[.int .i64 t227, .int .i64 (wrap64 (Int.tdiv a1 a0_0)), .slice Ao82 x236002_2.length co82, .slice none 0 0]) ?_ 3 _ rfl; (with_reducible repeat (first | refine blk_drewN ?_ _ | refine blk_drew ?_ | refine blk_alloc ?_ _)); refine blk_put (cs := #[.int .i64 t227, .int .i64 (wrap64 (Int.tdiv a1 a0_0)), .slice none 0 0, .slice none 0 0]) ?_ 2 _ rfl; (with_reducible repeat (first | refine blk_drewN ?_ _ | refine blk_drew ?_ | refine blk_alloc ?_ _)); refine blk_put (cs := #[.int .i64 t227, .int .i64 0, .slice none 0 0, .slice none 0 0]) ?_ 1 _ rfl; (with_reducible repeat (first | refine blk_drewN ?_ _ | refine blk_drew ?_ | refine blk_alloc ?_ _)); refine blk_put (cs := #[.int .i64 0, .int .i64 0, .slice none 0 0, .slice none 0 0]) ?_ 0 _ rfl; (with_reducible repeat (first | refine blk_drewN ?_ _ | refine blk_drew ?_ | refine blk_alloc ?_ _)); refine blk_far ?_ NB226_235.out _; (with_reducible repeat (first | refine blk_drewN ?_ _ | refine blk_drew ?_ | refine blk_alloc ?_ _)); exact BK226.out) Try.underlying41 rfl (by kernel_rfl)) rfl ?_
         exact ⟨_, _, by first | rfl | (simp [errW_none, errW_some] <;> rfl) | (simp [*, errW_none, errW_some] <;> rfl), by (with_reducible repeat (first | apply Kd.R_alloc | apply Kd.R_drewN | apply Kd.R_drew)); exact Kd.R_mono (Kd.R_far (p := ⟨gb226, 3, none⟩) (Kd.R_far (p := ⟨gb226, 2, none⟩) (Kd.R_far (p := ⟨gb226, 1, none⟩) (Kd.R_far (p := ⟨gb226, 0, none⟩) (Kd.R_far (p := ⟨gb235, 1, none⟩) (Kd.R_types (Kd.R_types HO_236002.out BK235.out (by decide)) BK226.out (by decide)) (fun _ hk => hk.1.2) (.int .i64 (wrap64 (Int.tdiv a1 a0_0)))) (fun _ hk => hk.2) (.int .i64 t227)) (fun _ hk => hk.2) (.int .i64 (wrap64 (Int.tdiv a1 a0_0)))) (fun _ hk => hk.2) (.slice Ao82 x236002_2.length co82)) (fun _ hk => hk.2) (.slice Ao83 x236003_2.length co83)) (fun _ hk => hk.1.1), by (with_reducible repeat (first | apply Kd.R_alloc | apply Kd.R_drewN | apply Kd.R_drew)); exact Kd.R_mono (Kd.R_far (p := ⟨gb226, 3, none⟩) (Kd.R_far (p := ⟨gb226, 2, none⟩) (Kd.R_far (p := ⟨gb226, 1, none⟩) (Kd.R_far (p := ⟨gb226, 0, none⟩) (Kd.R_far (p := ⟨gb235, 1, none⟩) (Kd.R_types (Kd.R_types HO_236003.out BK235.out (by decide)) BK226.out (by decide)) (fun _ hk => hk.1.2) (.int .i64 (wrap64 (Int.tdiv a1 a0_0)))) (fun _ hk => hk.2) (.int .i64 t227)) (fun _ hk => hk.2) (.int .i64 (wrap64 (Int.tdiv a1 a0_0)))) (fun _ hk => hk.2) (.slice Ao82 x236002_2.length co82)) (fun _ hk => hk.2) (.slice Ao83 x236003_2.length co83)) (fun _ hk => hk.1.1), by repeat (first | (with_reducible first | exact HB.out | apply below_alloc | apply pw_below_drewN | apply below_drew1 | refine below_set ?_ GE225.out | refine below_set ?_ GE226.out | refine below_set ?_ GE235.out) | exact HB.out)⟩

end Go.Proofs.Ytbhcahiafibhfaa.RA
