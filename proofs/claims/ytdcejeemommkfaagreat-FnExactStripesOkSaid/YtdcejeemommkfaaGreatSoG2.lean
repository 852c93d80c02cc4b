/- Printed by gen.py: functions on plain data, and that the program computes them. No condition. -/
import Derived.Test.YtdcejeemommkfaaGreatSoG1
namespace Go.Proofs.YtdcejeemommkfaaGreatM
set_option linter.unusedVariables false
set_option linter.unusedSimpArgs false
open Go.RowKit
set_option maxRecDepth 100000

def slices_symMergeCmpFunc_impl_Acct_impl_Gather_1_s2 (r3 : Int × (List Acct)) (v4 : Int) (x3 : Acct) (x4 : Acct) (v5 : List Acct) : St := st 220 [(0, V.ow 0), (10, V.sc (.int .i64 r3.1)), (13, V.sc (.int .i64 v4)), (61, V.ow 0), (62, V.sc (.int .i64 v4)), (63, V.ow 0), (64, V.sc (.int .i64 v4)), (65, V.sc (.int .i64 (i64 (v4 + 1)))), (66, V.ow 0), (67, V.sc (.int .i64 v4)), (68, V.sc (.int .i64 (i64 (v4 + 1)))), (69, V.ep 0 11 ((i64 (v4 + 1)).toNat) 0), (70, V.agg [V.sc (.string x3.Id), V.sc (.int .i64 x3.Limit), V.sc (.int .i64 x3.Posted), V.sc (.int .i64 x3.Most), V.sc (.int .i64 x3.MostSum), V.ow 5, V.sc (.int .i64 x3.Ring.Span), V.sc (.int .i64 x3.Ring.Head), V.ow 6, V.ow 7, V.ow 8]), (71, V.ow 0), (72, V.sc (.int .i64 v4)), (73, V.ep 0 11 v4.toNat 0), (74, V.agg [V.sc (.string x4.Id), V.sc (.int .i64 x4.Limit), V.sc (.int .i64 x4.Posted), V.sc (.int .i64 x4.Most), V.sc (.int .i64 x4.MostSum), V.ow 1, V.sc (.int .i64 x4.Ring.Span), V.sc (.int .i64 x4.Ring.Head), V.ow 2, V.ow 3, V.ow 4]), (75, V.ep 0 11 v4.toNat 0), (76, V.ep 0 11 ((i64 (v4 + 1)).toNat) 0)] [Blk.row 43 (List.map E43 v5) [((i64 (v4 + 1)).toNat, V.agg [V.sc (.string x4.Id), V.sc (.int .i64 x4.Limit), V.sc (.int .i64 x4.Posted), V.sc (.int .i64 x4.Most), V.sc (.int .i64 x4.MostSum), V.ow 1, V.sc (.int .i64 x4.Ring.Span), V.sc (.int .i64 x4.Ring.Head), V.ow 2, V.ow 3, V.ow 4]), (v4.toNat, V.agg [V.sc (.string x3.Id), V.sc (.int .i64 x3.Limit), V.sc (.int .i64 x3.Posted), V.sc (.int .i64 x3.Most), V.sc (.int .i64 x3.MostSum), V.ow 5, V.sc (.int .i64 x3.Ring.Span), V.sc (.int .i64 x3.Ring.Head), V.ow 6, V.ow 7, V.ow 8])], Blk.row 85 (List.map E85 x4.Holds) [], Blk.row 3 (List.map E3 x4.Ring.Counts) [], Blk.row 3 (List.map E3 x4.Ring.Sums) [], Blk.row 89 (List.map E89 x4.Slots) [], Blk.row 85 (List.map E85 x3.Holds) [], Blk.row 3 (List.map E3 x3.Ring.Counts) [], Blk.row 3 (List.map E3 x3.Ring.Sums) [], Blk.row 89 (List.map E89 x3.Slots) []] [some 0]
def slices_symMergeCmpFunc_impl_Acct_impl_Gather_1_s4 (r9 : Int × (List Acct)) (v9 : Int) (x7 : Acct) (x8 : Acct) (v10 : List Acct) : St := st 220 [(0, V.ow 0), (14, V.sc (.int .i64 r9.1)), (17, V.sc (.int .i64 v9)), (113, V.ow 0), (114, V.sc (.int .i64 v9)), (115, V.ow 0), (116, V.sc (.int .i64 v9)), (117, V.sc (.int .i64 (i64 (v9 - 1)))), (118, V.ow 0), (119, V.sc (.int .i64 v9)), (120, V.sc (.int .i64 (i64 (v9 - 1)))), (121, V.ep 0 11 ((i64 (v9 - 1)).toNat) 0), (122, V.agg [V.sc (.string x7.Id), V.sc (.int .i64 x7.Limit), V.sc (.int .i64 x7.Posted), V.sc (.int .i64 x7.Most), V.sc (.int .i64 x7.MostSum), V.ow 5, V.sc (.int .i64 x7.Ring.Span), V.sc (.int .i64 x7.Ring.Head), V.ow 6, V.ow 7, V.ow 8]), (123, V.ow 0), (124, V.sc (.int .i64 v9)), (125, V.ep 0 11 v9.toNat 0), (126, V.agg [V.sc (.string x8.Id), V.sc (.int .i64 x8.Limit), V.sc (.int .i64 x8.Posted), V.sc (.int .i64 x8.Most), V.sc (.int .i64 x8.MostSum), V.ow 1, V.sc (.int .i64 x8.Ring.Span), V.sc (.int .i64 x8.Ring.Head), V.ow 2, V.ow 3, V.ow 4]), (127, V.ep 0 11 v9.toNat 0), (128, V.ep 0 11 ((i64 (v9 - 1)).toNat) 0)] [Blk.row 43 (List.map E43 v10) [((i64 (v9 - 1)).toNat, V.agg [V.sc (.string x8.Id), V.sc (.int .i64 x8.Limit), V.sc (.int .i64 x8.Posted), V.sc (.int .i64 x8.Most), V.sc (.int .i64 x8.MostSum), V.ow 1, V.sc (.int .i64 x8.Ring.Span), V.sc (.int .i64 x8.Ring.Head), V.ow 2, V.ow 3, V.ow 4]), (v9.toNat, V.agg [V.sc (.string x7.Id), V.sc (.int .i64 x7.Limit), V.sc (.int .i64 x7.Posted), V.sc (.int .i64 x7.Most), V.sc (.int .i64 x7.MostSum), V.ow 5, V.sc (.int .i64 x7.Ring.Span), V.sc (.int .i64 x7.Ring.Head), V.ow 6, V.ow 7, V.ow 8])], Blk.row 85 (List.map E85 x8.Holds) [], Blk.row 3 (List.map E3 x8.Ring.Counts) [], Blk.row 3 (List.map E3 x8.Ring.Sums) [], Blk.row 89 (List.map E89 x8.Slots) [], Blk.row 85 (List.map E85 x7.Holds) [], Blk.row 3 (List.map E3 x7.Ring.Counts) [], Blk.row 3 (List.map E3 x7.Ring.Sums) [], Blk.row 89 (List.map E89 x7.Slots) []] [some 0]
def slices_symMergeCmpFunc_impl_Acct_impl_Gather_1_c2 (o_ : Int) (v1 : Int) (v2 : Int) (v3 : List Acct) : Option (Lo Unit Unit) :=
 if (decide (v1 < v2)) = true then
 some (.out ())
 else
 some (.ret ())
theorem slices_symMergeCmpFunc_impl_Acct_impl_Gather_1_c2_ok (o_ : Int) (v1 : Int) (v2 : Int) (v3 : List Acct) : Pn (JnO Tryz.prog (sub (codeOf Tryz.prog 75) [0, 1, 0, 1, 1, 0, 0, 0, 0]) (st 220 [(0, V.ow 0), (1, V.sc (.int .i64 o_)), (4, V.fn 29 []), (10, V.sc (.int .i64 v1)), (11, V.sc (.int .i64 v2))] [Blk.row 43 (List.map E43 v3) []] [some 0]) (fun (y : Lo Unit Unit) => Lo.elim y (fun s => (X.go, st 220 [(0, V.ow 0), (1, V.sc (.int .i64 o_)), (4, V.fn 29 []), (10, V.sc (.int .i64 v1)), (11, V.sc (.int .i64 v2))] [Blk.row 43 (List.map E43 v3) []] [some 0])) (fun s => (X.out 0, st 220 [(0, V.ow 0), (1, V.sc (.int .i64 o_)), (10, V.sc (.int .i64 v1))] [Blk.row 43 (List.map E43 v3) []] [some 0])))) (slices_symMergeCmpFunc_impl_Acct_impl_Gather_1_c2 o_ v1 v2 v3) := by
  unfold slices_symMergeCmpFunc_impl_Acct_impl_Gather_1_c2
  exact
   Pn.ite (fun h2 =>
   Pn.some (JnO.of [.bit true, .mask [0, 1, 4, 10, 11], .ren [0]] (p := [(decide (v1 < v2)) = true]) (by kernel_rfl) (cj1 h2))) (fun h2 =>
   Pn.some (JnO.of [.bit false, .mask [0, 1, 10], .ren [0]] (p := [(decide (v1 < v2)) = false]) (by kernel_rfl) (cj1 h2)))
def slices_symMergeCmpFunc_impl_Acct_impl_Gather_1_l0 (o_ : Int) : Nat → Int → Int → (List Acct) → Option (Int × (List Acct))
  | 0, _, _, _ => none
  | fuel + 1, v1, v2, v3 =>
   (slices_symMergeCmpFunc_impl_Acct_impl_Gather_1_c2 o_ v1 v2 v3).bind fun r1 =>
   Lo.elim r1 (fun s1 =>
   if (decide (0 ≤ (i64 (bshr .u64 (u64 (i64 (v1 + v2))) 1)))) = true then
   (v3[(i64 (bshr .u64 (u64 (i64 (v1 + v2))) 1)).toNat]?).bind fun x1 =>
   if (decide (0 ≤ o_)) = true then
   (v3[o_.toNat]?).bind fun x2 =>
   if (decide (¬ o_.toNat = ((i64 (bshr .u64 (u64 (i64 (v1 + v2))) 1)).toNat))) = true then
   (impl_Gather_1 x1 x2).bind fun r2 =>
   if (decide (r2 < 0)) = true then
   slices_symMergeCmpFunc_impl_Acct_impl_Gather_1_l0 o_ fuel (i64 ((i64 (bshr .u64 (u64 (i64 (v1 + v2))) 1)) + 1)) v2 ((v3.set ((i64 (bshr .u64 (u64 (i64 (v1 + v2))) 1)).toNat) x1).set o_.toNat x2)
   else
   slices_symMergeCmpFunc_impl_Acct_impl_Gather_1_l0 o_ fuel v1 (i64 (bshr .u64 (u64 (i64 (v1 + v2))) 1)) ((v3.set ((i64 (bshr .u64 (u64 (i64 (v1 + v2))) 1)).toNat) x1).set o_.toNat x2)
   else none
   else none
   else none) (fun s2 =>
   some (v1, v3))
theorem slices_symMergeCmpFunc_impl_Acct_impl_Gather_1_l0_ok (o_ : Int) : ∀ (fuel : Nat) (v1 : Int) (v2 : Int) (v3 : List Acct), Pn (LpO Tryz.prog (sub (codeOf Tryz.prog 75) [0, 1, 0, 1, 1, 0, 0, 0]) (st 220 [(0, V.ow 0), (1, V.sc (.int .i64 o_)), (4, V.fn 29 []), (10, V.sc (.int .i64 v1)), (11, V.sc (.int .i64 v2))] [Blk.row 43 (List.map E43 v3) []] [some 0]) (fun (y : Int × (List Acct)) => (X.out 0, st 220 [(0, V.ow 0), (1, V.sc (.int .i64 o_)), (10, V.sc (.int .i64 y.1))] [Blk.row 43 (List.map E43 y.2) []] [some 0]))) (slices_symMergeCmpFunc_impl_Acct_impl_Gather_1_l0 o_ fuel v1 v2 v3)
  | 0, _, _, _ => Pn.none
  | fuel + 1, v1, v2, v3 => by
    unfold slices_symMergeCmpFunc_impl_Acct_impl_Gather_1_l0
    exact
     Pn.bind (fun r1 h3 =>
     Pn.lo (fun s1 h4 =>
     Pn.ite (fun h6 =>
     Pn.bind (fun x1 h7 =>
     Pn.ite (fun h8 =>
     Pn.bind (fun x2 h9 =>
     Pn.ite (fun h10 =>
     Pn.bind (fun r2 h11 =>
     Pn.ite (fun h12 =>
     LpO.go [.wait 1, .mask [0, 1, 4, 10, 11], .ren [0], .join 5 (X.go) (st 220 [(0, V.ow 0), (1, V.sc (.int .i64 o_)), (4, V.fn 29 []), (10, V.sc (.int .i64 v1)), (11, V.sc (.int .i64 v2))] [Blk.row 43 (List.map E43 v3) []] [some 0]), .draw [], .wait 3, .foc 0 ((i64 (bshr .u64 (u64 (i64 (v1 + v2))) 1)).toNat) (E43 x1), .fo 0, .wait 3, .foc 0 o_.toNat (E43 x2), .fo 0, .call [] (E3 r2) [], .bit true, .wait 3, .shut 0, .nb 0 (.row 43 (List.map E43 ((v3.set ((i64 (bshr .u64 (u64 (i64 (v1 + v2))) 1)).toNat) x1).set o_.toNat x2)) []), .mask [0, 1, 4, 10, 11], .ren [0]] (p := [HT Tryz.prog (sub (codeOf Tryz.prog 75) [0, 1, 0, 1, 1, 0, 0, 0, 0]) (st 220 [(0, V.ow 0), (1, V.sc (.int .i64 o_)), (4, V.fn 29 []), (10, V.sc (.int .i64 v1)), (11, V.sc (.int .i64 v2))] [Blk.row 43 (List.map E43 v3) []] [some 0]) (X.go) (st 220 [(0, V.ow 0), (1, V.sc (.int .i64 o_)), (4, V.fn 29 []), (10, V.sc (.int .i64 v1)), (11, V.sc (.int .i64 v2))] [Blk.row 43 (List.map E43 v3) []] [some 0]),
      ¬ (1 : Int) < 0,
      (0 : Int) ≤ (i64 (bshr .u64 (u64 (i64 (v1 + v2))) 1)),
      ((i64 (bshr .u64 (u64 (i64 (v1 + v2))) 1)) : Int) < ((List.map E43 v3).length : Int),
      look [] ((i64 (bshr .u64 (u64 (i64 (v1 + v2))) 1)).toNat) = none,
      (List.map E43 v3)[(i64 (bshr .u64 (u64 (i64 (v1 + v2))) 1)).toNat]? = some (E43 x1),
      look [((i64 (bshr .u64 (u64 (i64 (v1 + v2))) 1)).toNat, V.agg [V.sc (.string x1.Id), V.sc (.int .i64 x1.Limit), V.sc (.int .i64 x1.Posted), V.sc (.int .i64 x1.Most), V.sc (.int .i64 x1.MostSum), V.ow 1, V.sc (.int .i64 x1.Ring.Span), V.sc (.int .i64 x1.Ring.Head), V.ow 2, V.ow 3, V.ow 4])] ((i64 (bshr .u64 (u64 (i64 (v1 + v2))) 1)).toNat) = some (V.agg [V.sc (.string x1.Id), V.sc (.int .i64 x1.Limit), V.sc (.int .i64 x1.Posted), V.sc (.int .i64 x1.Most), V.sc (.int .i64 x1.MostSum), V.ow 1, V.sc (.int .i64 x1.Ring.Span), V.sc (.int .i64 x1.Ring.Head), V.ow 2, V.ow 3, V.ow 4]),
      ((i64 (bshr .u64 (u64 (i64 (v1 + v2))) 1)).toNat) < (List.map E43 v3).length,
      (0 : Int) ≤ o_,
      (o_ : Int) < ((List.map E43 v3).length : Int),
      look [((i64 (bshr .u64 (u64 (i64 (v1 + v2))) 1)).toNat, V.agg [V.sc (.string x1.Id), V.sc (.int .i64 x1.Limit), V.sc (.int .i64 x1.Posted), V.sc (.int .i64 x1.Most), V.sc (.int .i64 x1.MostSum), V.ow 1, V.sc (.int .i64 x1.Ring.Span), V.sc (.int .i64 x1.Ring.Head), V.ow 2, V.ow 3, V.ow 4])] o_.toNat = none,
      (List.map E43 v3)[o_.toNat]? = some (E43 x2),
      look [(o_.toNat, V.agg [V.sc (.string x2.Id), V.sc (.int .i64 x2.Limit), V.sc (.int .i64 x2.Posted), V.sc (.int .i64 x2.Most), V.sc (.int .i64 x2.MostSum), V.ow 5, V.sc (.int .i64 x2.Ring.Span), V.sc (.int .i64 x2.Ring.Head), V.ow 6, V.ow 7, V.ow 8]), ((i64 (bshr .u64 (u64 (i64 (v1 + v2))) 1)).toNat, V.agg [V.sc (.string x1.Id), V.sc (.int .i64 x1.Limit), V.sc (.int .i64 x1.Posted), V.sc (.int .i64 x1.Most), V.sc (.int .i64 x1.MostSum), V.ow 1, V.sc (.int .i64 x1.Ring.Span), V.sc (.int .i64 x1.Ring.Head), V.ow 2, V.ow 3, V.ow 4])] o_.toNat = some (V.agg [V.sc (.string x2.Id), V.sc (.int .i64 x2.Limit), V.sc (.int .i64 x2.Posted), V.sc (.int .i64 x2.Most), V.sc (.int .i64 x2.MostSum), V.ow 5, V.sc (.int .i64 x2.Ring.Span), V.sc (.int .i64 x2.Ring.Head), V.ow 6, V.ow 7, V.ow 8]),
      o_.toNat < (List.map E43 v3).length,
      Fn Tryz.prog 29 [(false, E43 x1), (false, E43 x2)] (E3 r2) [],
      (false || ((E3 r2).nv && nvL [])) = true,
      (decide (r2 < 0)) = true,
      Blk.row 43 (((List.map E43 v3).set ((i64 (bshr .u64 (u64 (i64 (v1 + v2))) 1)).toNat) (V.agg [V.sc (.string x1.Id), V.sc (.int .i64 x1.Limit), V.sc (.int .i64 x1.Posted), V.sc (.int .i64 x1.Most), V.sc (.int .i64 x1.MostSum), V.sl true 85 (List.map E85 x1.Holds), V.sc (.int .i64 x1.Ring.Span), V.sc (.int .i64 x1.Ring.Head), V.sl true 3 (List.map E3 x1.Ring.Counts), V.sl true 3 (List.map E3 x1.Ring.Sums), V.sl true 89 (List.map E89 x1.Slots)])).set o_.toNat (V.agg [V.sc (.string x2.Id), V.sc (.int .i64 x2.Limit), V.sc (.int .i64 x2.Posted), V.sc (.int .i64 x2.Most), V.sc (.int .i64 x2.MostSum), V.sl true 85 (List.map E85 x2.Holds), V.sc (.int .i64 x2.Ring.Span), V.sc (.int .i64 x2.Ring.Head), V.sl true 3 (List.map E3 x2.Ring.Counts), V.sl true 3 (List.map E3 x2.Ring.Sums), V.sl true 89 (List.map E89 x2.Slots)])) [] = Blk.row 43 (List.map E43 ((v3.set ((i64 (bshr .u64 (u64 (i64 (v1 + v2))) 1)).toNat) x1).set o_.toNat x2)) []]) (by kernel_rfl) (cj ((slices_symMergeCmpFunc_impl_Acct_impl_Gather_1_c2_ok o_ v1 v2 v3 r1 h3).at h4) (cj (by decide) (cj (od h6) (cj (map_ltN (od h6) h7) (cj rfl (cj (map_get h7) (cj (look_cons_self _ _ _) (cj (map_lt h7) (cj (od h8) (cj (map_ltN (od h8) h9) (cj ((look_cons_ne _ _ (od h10)).trans rfl) (cj (map_get h9) (cj (look_cons_self _ _ _) (cj (map_lt h9) (cj (impl_Gather_1_ok x1 x2 r2 h11) (cj (by simp [V.nv, nvL, nvL_all, nv_E3]) (cj h12 (cj1 (nb_set2 E43 _ _ x1 _ x2))))))))))))))))))) (slices_symMergeCmpFunc_impl_Acct_impl_Gather_1_l0_ok o_ fuel (i64 ((i64 (bshr .u64 (u64 (i64 (v1 + v2))) 1)) + 1)) v2 ((v3.set ((i64 (bshr .u64 (u64 (i64 (v1 + v2))) 1)).toNat) x1).set o_.toNat x2))) (fun h12 =>
     LpO.go [.wait 1, .mask [0, 1, 4, 10, 11], .ren [0], .join 5 (X.go) (st 220 [(0, V.ow 0), (1, V.sc (.int .i64 o_)), (4, V.fn 29 []), (10, V.sc (.int .i64 v1)), (11, V.sc (.int .i64 v2))] [Blk.row 43 (List.map E43 v3) []] [some 0]), .draw [], .wait 3, .foc 0 ((i64 (bshr .u64 (u64 (i64 (v1 + v2))) 1)).toNat) (E43 x1), .fo 0, .wait 3, .foc 0 o_.toNat (E43 x2), .fo 0, .call [] (E3 r2) [], .bit false, .wait 2, .shut 0, .nb 0 (.row 43 (List.map E43 ((v3.set ((i64 (bshr .u64 (u64 (i64 (v1 + v2))) 1)).toNat) x1).set o_.toNat x2)) []), .mask [0, 1, 4, 10, 11], .ren [0]] (p := [HT Tryz.prog (sub (codeOf Tryz.prog 75) [0, 1, 0, 1, 1, 0, 0, 0, 0]) (st 220 [(0, V.ow 0), (1, V.sc (.int .i64 o_)), (4, V.fn 29 []), (10, V.sc (.int .i64 v1)), (11, V.sc (.int .i64 v2))] [Blk.row 43 (List.map E43 v3) []] [some 0]) (X.go) (st 220 [(0, V.ow 0), (1, V.sc (.int .i64 o_)), (4, V.fn 29 []), (10, V.sc (.int .i64 v1)), (11, V.sc (.int .i64 v2))] [Blk.row 43 (List.map E43 v3) []] [some 0]),
      ¬ (1 : Int) < 0,
      (0 : Int) ≤ (i64 (bshr .u64 (u64 (i64 (v1 + v2))) 1)),
      ((i64 (bshr .u64 (u64 (i64 (v1 + v2))) 1)) : Int) < ((List.map E43 v3).length : Int),
      look [] ((i64 (bshr .u64 (u64 (i64 (v1 + v2))) 1)).toNat) = none,
      (List.map E43 v3)[(i64 (bshr .u64 (u64 (i64 (v1 + v2))) 1)).toNat]? = some (E43 x1),
      look [((i64 (bshr .u64 (u64 (i64 (v1 + v2))) 1)).toNat, V.agg [V.sc (.string x1.Id), V.sc (.int .i64 x1.Limit), V.sc (.int .i64 x1.Posted), V.sc (.int .i64 x1.Most), V.sc (.int .i64 x1.MostSum), V.ow 1, V.sc (.int .i64 x1.Ring.Span), V.sc (.int .i64 x1.Ring.Head), V.ow 2, V.ow 3, V.ow 4])] ((i64 (bshr .u64 (u64 (i64 (v1 + v2))) 1)).toNat) = some (V.agg [V.sc (.string x1.Id), V.sc (.int .i64 x1.Limit), V.sc (.int .i64 x1.Posted), V.sc (.int .i64 x1.Most), V.sc (.int .i64 x1.MostSum), V.ow 1, V.sc (.int .i64 x1.Ring.Span), V.sc (.int .i64 x1.Ring.Head), V.ow 2, V.ow 3, V.ow 4]),
      ((i64 (bshr .u64 (u64 (i64 (v1 + v2))) 1)).toNat) < (List.map E43 v3).length,
      (0 : Int) ≤ o_,
      (o_ : Int) < ((List.map E43 v3).length : Int),
      look [((i64 (bshr .u64 (u64 (i64 (v1 + v2))) 1)).toNat, V.agg [V.sc (.string x1.Id), V.sc (.int .i64 x1.Limit), V.sc (.int .i64 x1.Posted), V.sc (.int .i64 x1.Most), V.sc (.int .i64 x1.MostSum), V.ow 1, V.sc (.int .i64 x1.Ring.Span), V.sc (.int .i64 x1.Ring.Head), V.ow 2, V.ow 3, V.ow 4])] o_.toNat = none,
      (List.map E43 v3)[o_.toNat]? = some (E43 x2),
      look [(o_.toNat, V.agg [V.sc (.string x2.Id), V.sc (.int .i64 x2.Limit), V.sc (.int .i64 x2.Posted), V.sc (.int .i64 x2.Most), V.sc (.int .i64 x2.MostSum), V.ow 5, V.sc (.int .i64 x2.Ring.Span), V.sc (.int .i64 x2.Ring.Head), V.ow 6, V.ow 7, V.ow 8]), ((i64 (bshr .u64 (u64 (i64 (v1 + v2))) 1)).toNat, V.agg [V.sc (.string x1.Id), V.sc (.int .i64 x1.Limit), V.sc (.int .i64 x1.Posted), V.sc (.int .i64 x1.Most), V.sc (.int .i64 x1.MostSum), V.ow 1, V.sc (.int .i64 x1.Ring.Span), V.sc (.int .i64 x1.Ring.Head), V.ow 2, V.ow 3, V.ow 4])] o_.toNat = some (V.agg [V.sc (.string x2.Id), V.sc (.int .i64 x2.Limit), V.sc (.int .i64 x2.Posted), V.sc (.int .i64 x2.Most), V.sc (.int .i64 x2.MostSum), V.ow 5, V.sc (.int .i64 x2.Ring.Span), V.sc (.int .i64 x2.Ring.Head), V.ow 6, V.ow 7, V.ow 8]),
      o_.toNat < (List.map E43 v3).length,
      Fn Tryz.prog 29 [(false, E43 x1), (false, E43 x2)] (E3 r2) [],
      (false || ((E3 r2).nv && nvL [])) = true,
      (decide (r2 < 0)) = false,
      Blk.row 43 (((List.map E43 v3).set ((i64 (bshr .u64 (u64 (i64 (v1 + v2))) 1)).toNat) (V.agg [V.sc (.string x1.Id), V.sc (.int .i64 x1.Limit), V.sc (.int .i64 x1.Posted), V.sc (.int .i64 x1.Most), V.sc (.int .i64 x1.MostSum), V.sl true 85 (List.map E85 x1.Holds), V.sc (.int .i64 x1.Ring.Span), V.sc (.int .i64 x1.Ring.Head), V.sl true 3 (List.map E3 x1.Ring.Counts), V.sl true 3 (List.map E3 x1.Ring.Sums), V.sl true 89 (List.map E89 x1.Slots)])).set o_.toNat (V.agg [V.sc (.string x2.Id), V.sc (.int .i64 x2.Limit), V.sc (.int .i64 x2.Posted), V.sc (.int .i64 x2.Most), V.sc (.int .i64 x2.MostSum), V.sl true 85 (List.map E85 x2.Holds), V.sc (.int .i64 x2.Ring.Span), V.sc (.int .i64 x2.Ring.Head), V.sl true 3 (List.map E3 x2.Ring.Counts), V.sl true 3 (List.map E3 x2.Ring.Sums), V.sl true 89 (List.map E89 x2.Slots)])) [] = Blk.row 43 (List.map E43 ((v3.set ((i64 (bshr .u64 (u64 (i64 (v1 + v2))) 1)).toNat) x1).set o_.toNat x2)) []]) (by kernel_rfl) (cj ((slices_symMergeCmpFunc_impl_Acct_impl_Gather_1_c2_ok o_ v1 v2 v3 r1 h3).at h4) (cj (by decide) (cj (od h6) (cj (map_ltN (od h6) h7) (cj rfl (cj (map_get h7) (cj (look_cons_self _ _ _) (cj (map_lt h7) (cj (od h8) (cj (map_ltN (od h8) h9) (cj ((look_cons_ne _ _ (od h10)).trans rfl) (cj (map_get h9) (cj (look_cons_self _ _ _) (cj (map_lt h9) (cj (impl_Gather_1_ok x1 x2 r2 h11) (cj (by simp [V.nv, nvL, nvL_all, nv_E3]) (cj h12 (cj1 (nb_set2 E43 _ _ x1 _ x2))))))))))))))))))) (slices_symMergeCmpFunc_impl_Acct_impl_Gather_1_l0_ok o_ fuel v1 (i64 (bshr .u64 (u64 (i64 (v1 + v2))) 1)) ((v3.set ((i64 (bshr .u64 (u64 (i64 (v1 + v2))) 1)).toNat) x1).set o_.toNat x2))))) (fun h10 =>
     Pn.none))) (fun h8 =>
     Pn.none))) (fun h6 =>
     Pn.none)) (fun s2 h5 =>
     Pn.some (LpO.out [.wait 1, .mask [0, 1, 4, 10, 11], .ren [0], .join 5 (X.out 0) (st 220 [(0, V.ow 0), (1, V.sc (.int .i64 o_)), (10, V.sc (.int .i64 v1))] [Blk.row 43 (List.map E43 v3) []] [some 0]), .wait 1, .mask [0, 1, 10], .ren [0]] (p := [HT Tryz.prog (sub (codeOf Tryz.prog 75) [0, 1, 0, 1, 1, 0, 0, 0, 0]) (st 220 [(0, V.ow 0), (1, V.sc (.int .i64 o_)), (4, V.fn 29 []), (10, V.sc (.int .i64 v1)), (11, V.sc (.int .i64 v2))] [Blk.row 43 (List.map E43 v3) []] [some 0]) (X.out 0) (st 220 [(0, V.ow 0), (1, V.sc (.int .i64 o_)), (10, V.sc (.int .i64 v1))] [Blk.row 43 (List.map E43 v3) []] [some 0])]) (by kernel_rfl) (show X.out 0 ≠ X.go from nofun) (cj1 ((slices_symMergeCmpFunc_impl_Acct_impl_Gather_1_c2_ok o_ v1 v2 v3 r1 h3).at h5)))))
def slices_symMergeCmpFunc_impl_Acct_impl_Gather_1_c4 (r3 : Int × (List Acct)) (v4 : Int) (v5 : List Acct) : Option (Lo Unit Unit) :=
 if (decide (v4 < (i64 (r3.1 - 1)))) = true then
 some (.out ())
 else
 some (.ret ())
theorem slices_symMergeCmpFunc_impl_Acct_impl_Gather_1_c4_ok (r3 : Int × (List Acct)) (v4 : Int) (v5 : List Acct) : Pn (JnO Tryz.prog (sub (codeOf Tryz.prog 75) [0, 1, 0, 1, 1, 1, 0, 1, 0, 0, 0]) (st 220 [(0, V.ow 0), (10, V.sc (.int .i64 r3.1)), (13, V.sc (.int .i64 v4))] [Blk.row 43 (List.map E43 v5) []] [some 0]) (fun (y : Lo Unit Unit) => Lo.elim y (fun s => (X.go, st 220 [(0, V.ow 0), (10, V.sc (.int .i64 r3.1)), (13, V.sc (.int .i64 v4))] [Blk.row 43 (List.map E43 v5) []] [some 0])) (fun s => (X.out 2, st 220 [] [Blk.row 43 (List.map E43 v5) []] [some 0])))) (slices_symMergeCmpFunc_impl_Acct_impl_Gather_1_c4 r3 v4 v5) := by
  unfold slices_symMergeCmpFunc_impl_Acct_impl_Gather_1_c4
  exact
   Pn.ite (fun h14 =>
   Pn.some (JnO.of [.bit true, .mask [0, 10, 13], .ren [0]] (p := [(decide (v4 < (i64 (r3.1 - 1)))) = true]) (by kernel_rfl) (cj1 h14))) (fun h14 =>
   Pn.some (JnO.of [.bit false, .mask [], .ren [0]] (p := [(decide (v4 < (i64 (r3.1 - 1)))) = false]) (by kernel_rfl) (cj1 h14)))
def slices_symMergeCmpFunc_impl_Acct_impl_Gather_1_l1 (r3 : Int × (List Acct)) : Nat → Int → (List Acct) → Option ((List Acct))
  | 0, _, _ => none
  | fuel + 1, v4, v5 =>
   (slices_symMergeCmpFunc_impl_Acct_impl_Gather_1_c4 r3 v4 v5).bind fun r4 =>
   Lo.elim r4 (fun s3 =>
   if (decide (0 ≤ (i64 (v4 + 1)))) = true then
   (v5[(i64 (v4 + 1)).toNat]?).bind fun x3 =>
   if (decide (0 ≤ v4)) = true then
   (v5[v4.toNat]?).bind fun x4 =>
   if (decide (¬ v4.toNat = ((i64 (v4 + 1)).toNat))) = true then
   slices_symMergeCmpFunc_impl_Acct_impl_Gather_1_l1 r3 fuel (i64 (v4 + 1)) ((v5.set v4.toNat x3).set ((i64 (v4 + 1)).toNat) x4)
   else none
   else none
   else none) (fun s4 =>
   some v5)
theorem slices_symMergeCmpFunc_impl_Acct_impl_Gather_1_l1_ok (r3 : Int × (List Acct)) : ∀ (fuel : Nat) (v4 : Int) (v5 : List Acct), Pn (LpO Tryz.prog (sub (codeOf Tryz.prog 75) [0, 1, 0, 1, 1, 1, 0, 1, 0, 0]) (st 220 [(0, V.ow 0), (10, V.sc (.int .i64 r3.1)), (13, V.sc (.int .i64 v4))] [Blk.row 43 (List.map E43 v5) []] [some 0]) (fun (y : (List Acct)) => (X.out 2, st 220 [] [Blk.row 43 (List.map E43 y) []] [some 0]))) (slices_symMergeCmpFunc_impl_Acct_impl_Gather_1_l1 r3 fuel v4 v5)
  | 0, _, _ => Pn.none
  | fuel + 1, v4, v5 => by
    unfold slices_symMergeCmpFunc_impl_Acct_impl_Gather_1_l1
    exact
     Pn.bind (fun r4 h15 =>
     Pn.lo (fun s3 h16 =>
     Pn.ite (fun h18 =>
     Pn.bind (fun x3 h19 =>
     Pn.ite (fun h20 =>
     Pn.bind (fun x4 h21 =>
     Pn.ite (fun h22 =>
     LpO.go [.wait 1, .mask [0, 10, 13], .ren [0], .join 5 (X.go) (st 220 [(0, V.ow 0), (10, V.sc (.int .i64 r3.1)), (13, V.sc (.int .i64 v4))] [Blk.row 43 (List.map E43 v5) []] [some 0]), .draw [15, 17], .wait 5, .foc 0 ((i64 (v4 + 1)).toNat) (E43 x3), .fo 0, .wait 3, .foc 0 v4.toNat (E43 x4), .fo 0, .loop .go ((slices_symMergeCmpFunc_impl_Acct_impl_Gather_1_s2 r3 v4 x3 x4 v5)), .loop .go ((slices_symMergeCmpFunc_impl_Acct_impl_Gather_1_s2 r3 v4 x3 x4 v5)), .loop .go ((slices_symMergeCmpFunc_impl_Acct_impl_Gather_1_s2 r3 v4 x3 x4 v5)), .fo 0, .fo 1, .ren [0, 5, 6, 7, 8, 1, 2, 3, 4], .fo 0, .fo 1, .ren [0, 5, 6, 7, 8, 1, 2, 3, 4], .ren [0, 1, 2, 3, 4, 5, 6, 7, 8], .fo 0, .fo 1, .ren [0, 5, 6, 7, 8, 1, 2, 3, 4], .ren [0, 1, 2, 3, 4, 5, 6, 7, 8], .loop .go ((slices_symMergeCmpFunc_impl_Acct_impl_Gather_1_s2 r3 v4 x3 x4 v5)), .loop .go ((slices_symMergeCmpFunc_impl_Acct_impl_Gather_1_s2 r3 v4 x3 x4 v5)), .fo 0, .fo 1, .ren [0, 5, 6, 7, 8, 1, 2, 3, 4], .fo 0, .fo 1, .ren [0, 5, 6, 7, 8, 1, 2, 3, 4], .ren [0, 1, 2, 3, 4, 5, 6, 7, 8], .loop .go ((slices_symMergeCmpFunc_impl_Acct_impl_Gather_1_s2 r3 v4 x3 x4 v5)), .fo 0, .fo 1, .ren [0, 5, 6, 7, 8, 1, 2, 3, 4], .fo 0, .fo 1, .ren [0, 5, 6, 7, 8, 1, 2, 3, 4], .ren [0, 1, 2, 3, 4, 5, 6, 7, 8], .fo 0, .fo 1, .ren [0, 5, 6, 7, 8, 1, 2, 3, 4], .ren [0, 1, 2, 3, 4, 5, 6, 7, 8], .fo 0, .fo 1, .ren [0, 5, 6, 7, 8, 1, 2, 3, 4], .wait 4, .shut 0, .nb 0 (.row 43 (List.map E43 ((v5.set v4.toNat x3).set ((i64 (v4 + 1)).toNat) x4)) []), .mask [0, 10, 13], .ren [0]] (p := [HT Tryz.prog (sub (codeOf Tryz.prog 75) [0, 1, 0, 1, 1, 1, 0, 1, 0, 0, 0]) (st 220 [(0, V.ow 0), (10, V.sc (.int .i64 r3.1)), (13, V.sc (.int .i64 v4))] [Blk.row 43 (List.map E43 v5) []] [some 0]) (X.go) (st 220 [(0, V.ow 0), (10, V.sc (.int .i64 r3.1)), (13, V.sc (.int .i64 v4))] [Blk.row 43 (List.map E43 v5) []] [some 0]),
      (0 : Int) ≤ (i64 (v4 + 1)),
      ((i64 (v4 + 1)) : Int) < ((List.map E43 v5).length : Int),
      look [] ((i64 (v4 + 1)).toNat) = none,
      (List.map E43 v5)[(i64 (v4 + 1)).toNat]? = some (E43 x3),
      look [((i64 (v4 + 1)).toNat, V.agg [V.sc (.string x3.Id), V.sc (.int .i64 x3.Limit), V.sc (.int .i64 x3.Posted), V.sc (.int .i64 x3.Most), V.sc (.int .i64 x3.MostSum), V.ow 1, V.sc (.int .i64 x3.Ring.Span), V.sc (.int .i64 x3.Ring.Head), V.ow 2, V.ow 3, V.ow 4])] ((i64 (v4 + 1)).toNat) = some (V.agg [V.sc (.string x3.Id), V.sc (.int .i64 x3.Limit), V.sc (.int .i64 x3.Posted), V.sc (.int .i64 x3.Most), V.sc (.int .i64 x3.MostSum), V.ow 1, V.sc (.int .i64 x3.Ring.Span), V.sc (.int .i64 x3.Ring.Head), V.ow 2, V.ow 3, V.ow 4]),
      ((i64 (v4 + 1)).toNat) < (List.map E43 v5).length,
      (0 : Int) ≤ v4,
      (v4 : Int) < ((List.map E43 v5).length : Int),
      look [((i64 (v4 + 1)).toNat, V.agg [V.sc (.string x3.Id), V.sc (.int .i64 x3.Limit), V.sc (.int .i64 x3.Posted), V.sc (.int .i64 x3.Most), V.sc (.int .i64 x3.MostSum), V.ow 1, V.sc (.int .i64 x3.Ring.Span), V.sc (.int .i64 x3.Ring.Head), V.ow 2, V.ow 3, V.ow 4])] v4.toNat = none,
      (List.map E43 v5)[v4.toNat]? = some (E43 x4),
      look [(v4.toNat, V.agg [V.sc (.string x4.Id), V.sc (.int .i64 x4.Limit), V.sc (.int .i64 x4.Posted), V.sc (.int .i64 x4.Most), V.sc (.int .i64 x4.MostSum), V.ow 5, V.sc (.int .i64 x4.Ring.Span), V.sc (.int .i64 x4.Ring.Head), V.ow 6, V.ow 7, V.ow 8]), ((i64 (v4 + 1)).toNat, V.agg [V.sc (.string x3.Id), V.sc (.int .i64 x3.Limit), V.sc (.int .i64 x3.Posted), V.sc (.int .i64 x3.Most), V.sc (.int .i64 x3.MostSum), V.ow 1, V.sc (.int .i64 x3.Ring.Span), V.sc (.int .i64 x3.Ring.Head), V.ow 2, V.ow 3, V.ow 4])] v4.toNat = some (V.agg [V.sc (.string x4.Id), V.sc (.int .i64 x4.Limit), V.sc (.int .i64 x4.Posted), V.sc (.int .i64 x4.Most), V.sc (.int .i64 x4.MostSum), V.ow 5, V.sc (.int .i64 x4.Ring.Span), V.sc (.int .i64 x4.Ring.Head), V.ow 6, V.ow 7, V.ow 8]),
      v4.toNat < (List.map E43 v5).length,
      (0 : Int) ≤ v4,
      (v4 : Int) < ((List.map E43 v5).length : Int),
      look [(v4.toNat, V.agg [V.sc (.string x4.Id), V.sc (.int .i64 x4.Limit), V.sc (.int .i64 x4.Posted), V.sc (.int .i64 x4.Most), V.sc (.int .i64 x4.MostSum), V.ow 5, V.sc (.int .i64 x4.Ring.Span), V.sc (.int .i64 x4.Ring.Head), V.ow 6, V.ow 7, V.ow 8]), ((i64 (v4 + 1)).toNat, V.agg [V.sc (.string x3.Id), V.sc (.int .i64 x3.Limit), V.sc (.int .i64 x3.Posted), V.sc (.int .i64 x3.Most), V.sc (.int .i64 x3.MostSum), V.ow 1, V.sc (.int .i64 x3.Ring.Span), V.sc (.int .i64 x3.Ring.Head), V.ow 2, V.ow 3, V.ow 4])] v4.toNat = some (V.agg [V.sc (.string x4.Id), V.sc (.int .i64 x4.Limit), V.sc (.int .i64 x4.Posted), V.sc (.int .i64 x4.Most), V.sc (.int .i64 x4.MostSum), V.ow 5, V.sc (.int .i64 x4.Ring.Span), V.sc (.int .i64 x4.Ring.Head), V.ow 6, V.ow 7, V.ow 8]),
      v4.toNat < (List.map E43 v5).length,
      v4.toNat = v4.toNat,
      (0 : Int) ≤ (i64 (v4 + 1)),
      ((i64 (v4 + 1)) : Int) < ((List.map E43 v5).length : Int),
      look [(v4.toNat, V.agg [V.sc (.string x3.Id), V.sc (.int .i64 x3.Limit), V.sc (.int .i64 x3.Posted), V.sc (.int .i64 x3.Most), V.sc (.int .i64 x3.MostSum), V.ow 1, V.sc (.int .i64 x3.Ring.Span), V.sc (.int .i64 x3.Ring.Head), V.ow 2, V.ow 3, V.ow 4]), ((i64 (v4 + 1)).toNat, V.agg [V.sc (.string x3.Id), V.sc (.int .i64 x3.Limit), V.sc (.int .i64 x3.Posted), V.sc (.int .i64 x3.Most), V.sc (.int .i64 x3.MostSum), V.ow 1, V.sc (.int .i64 x3.Ring.Span), V.sc (.int .i64 x3.Ring.Head), V.ow 2, V.ow 3, V.ow 4])] ((i64 (v4 + 1)).toNat) = some (V.agg [V.sc (.string x3.Id), V.sc (.int .i64 x3.Limit), V.sc (.int .i64 x3.Posted), V.sc (.int .i64 x3.Most), V.sc (.int .i64 x3.MostSum), V.ow 1, V.sc (.int .i64 x3.Ring.Span), V.sc (.int .i64 x3.Ring.Head), V.ow 2, V.ow 3, V.ow 4]),
      ((i64 (v4 + 1)).toNat) < (List.map E43 v5).length,
      ((i64 (v4 + 1)).toNat) = ((i64 (v4 + 1)).toNat),
      (slices_symMergeCmpFunc_impl_Acct_impl_Gather_1_s2 r3 v4 x3 x4 v5) = (slices_symMergeCmpFunc_impl_Acct_impl_Gather_1_s2 r3 v4 x3 x4 v5),
      look [(v4.toNat, V.agg [V.sc (.string x4.Id), V.sc (.int .i64 x4.Limit), V.sc (.int .i64 x4.Posted), V.sc (.int .i64 x4.Most), V.sc (.int .i64 x4.MostSum), V.ow 5, V.sc (.int .i64 x4.Ring.Span), V.sc (.int .i64 x4.Ring.Head), V.ow 6, V.ow 7, V.ow 8]), ((i64 (v4 + 1)).toNat, V.agg [V.sc (.string x3.Id), V.sc (.int .i64 x3.Limit), V.sc (.int .i64 x3.Posted), V.sc (.int .i64 x3.Most), V.sc (.int .i64 x3.MostSum), V.ow 1, V.sc (.int .i64 x3.Ring.Span), V.sc (.int .i64 x3.Ring.Head), V.ow 2, V.ow 3, V.ow 4])] v4.toNat = some (V.agg [V.sc (.string x4.Id), V.sc (.int .i64 x4.Limit), V.sc (.int .i64 x4.Posted), V.sc (.int .i64 x4.Most), V.sc (.int .i64 x4.MostSum), V.ow 5, V.sc (.int .i64 x4.Ring.Span), V.sc (.int .i64 x4.Ring.Head), V.ow 6, V.ow 7, V.ow 8]),
      v4.toNat < (List.map E43 v5).length,
      v4.toNat = v4.toNat,
      (0 : Int) ≤ (i64 (v4 + 1)),
      ((i64 (v4 + 1)) : Int) < ((List.map E43 v5).length : Int),
      look [(v4.toNat, V.agg [V.sc (.string x3.Id), V.sc (.int .i64 x3.Limit), V.sc (.int .i64 x3.Posted), V.sc (.int .i64 x3.Most), V.sc (.int .i64 x3.MostSum), V.ow 1, V.sc (.int .i64 x3.Ring.Span), V.sc (.int .i64 x3.Ring.Head), V.ow 2, V.ow 3, V.ow 4]), ((i64 (v4 + 1)).toNat, V.agg [V.sc (.string x3.Id), V.sc (.int .i64 x3.Limit), V.sc (.int .i64 x3.Posted), V.sc (.int .i64 x3.Most), V.sc (.int .i64 x3.MostSum), V.ow 1, V.sc (.int .i64 x3.Ring.Span), V.sc (.int .i64 x3.Ring.Head), V.ow 2, V.ow 3, V.ow 4])] ((i64 (v4 + 1)).toNat) = some (V.agg [V.sc (.string x3.Id), V.sc (.int .i64 x3.Limit), V.sc (.int .i64 x3.Posted), V.sc (.int .i64 x3.Most), V.sc (.int .i64 x3.MostSum), V.ow 1, V.sc (.int .i64 x3.Ring.Span), V.sc (.int .i64 x3.Ring.Head), V.ow 2, V.ow 3, V.ow 4]),
      ((i64 (v4 + 1)).toNat) < (List.map E43 v5).length,
      ((i64 (v4 + 1)).toNat) = ((i64 (v4 + 1)).toNat),
      (slices_symMergeCmpFunc_impl_Acct_impl_Gather_1_s2 r3 v4 x3 x4 v5) = (slices_symMergeCmpFunc_impl_Acct_impl_Gather_1_s2 r3 v4 x3 x4 v5),
      (slices_symMergeCmpFunc_impl_Acct_impl_Gather_1_s2 r3 v4 x3 x4 v5) = (slices_symMergeCmpFunc_impl_Acct_impl_Gather_1_s2 r3 v4 x3 x4 v5),
      look [(v4.toNat, V.agg [V.sc (.string x4.Id), V.sc (.int .i64 x4.Limit), V.sc (.int .i64 x4.Posted), V.sc (.int .i64 x4.Most), V.sc (.int .i64 x4.MostSum), V.ow 5, V.sc (.int .i64 x4.Ring.Span), V.sc (.int .i64 x4.Ring.Head), V.ow 6, V.ow 7, V.ow 8]), ((i64 (v4 + 1)).toNat, V.agg [V.sc (.string x3.Id), V.sc (.int .i64 x3.Limit), V.sc (.int .i64 x3.Posted), V.sc (.int .i64 x3.Most), V.sc (.int .i64 x3.MostSum), V.ow 1, V.sc (.int .i64 x3.Ring.Span), V.sc (.int .i64 x3.Ring.Head), V.ow 2, V.ow 3, V.ow 4])] v4.toNat = some (V.agg [V.sc (.string x4.Id), V.sc (.int .i64 x4.Limit), V.sc (.int .i64 x4.Posted), V.sc (.int .i64 x4.Most), V.sc (.int .i64 x4.MostSum), V.ow 5, V.sc (.int .i64 x4.Ring.Span), V.sc (.int .i64 x4.Ring.Head), V.ow 6, V.ow 7, V.ow 8]),
      v4.toNat < (List.map E43 v5).length,
      v4.toNat = v4.toNat,
      (0 : Int) ≤ (i64 (v4 + 1)),
      ((i64 (v4 + 1)) : Int) < ((List.map E43 v5).length : Int),
      look [(v4.toNat, V.agg [V.sc (.string x3.Id), V.sc (.int .i64 x3.Limit), V.sc (.int .i64 x3.Posted), V.sc (.int .i64 x3.Most), V.sc (.int .i64 x3.MostSum), V.ow 1, V.sc (.int .i64 x3.Ring.Span), V.sc (.int .i64 x3.Ring.Head), V.ow 2, V.ow 3, V.ow 4]), ((i64 (v4 + 1)).toNat, V.agg [V.sc (.string x3.Id), V.sc (.int .i64 x3.Limit), V.sc (.int .i64 x3.Posted), V.sc (.int .i64 x3.Most), V.sc (.int .i64 x3.MostSum), V.ow 1, V.sc (.int .i64 x3.Ring.Span), V.sc (.int .i64 x3.Ring.Head), V.ow 2, V.ow 3, V.ow 4])] ((i64 (v4 + 1)).toNat) = some (V.agg [V.sc (.string x3.Id), V.sc (.int .i64 x3.Limit), V.sc (.int .i64 x3.Posted), V.sc (.int .i64 x3.Most), V.sc (.int .i64 x3.MostSum), V.ow 1, V.sc (.int .i64 x3.Ring.Span), V.sc (.int .i64 x3.Ring.Head), V.ow 2, V.ow 3, V.ow 4]),
      ((i64 (v4 + 1)).toNat) < (List.map E43 v5).length,
      ((i64 (v4 + 1)).toNat) = ((i64 (v4 + 1)).toNat),
      (slices_symMergeCmpFunc_impl_Acct_impl_Gather_1_s2 r3 v4 x3 x4 v5) = (slices_symMergeCmpFunc_impl_Acct_impl_Gather_1_s2 r3 v4 x3 x4 v5),
      (slices_symMergeCmpFunc_impl_Acct_impl_Gather_1_s2 r3 v4 x3 x4 v5) = (slices_symMergeCmpFunc_impl_Acct_impl_Gather_1_s2 r3 v4 x3 x4 v5),
      look [(v4.toNat, V.agg [V.sc (.string x4.Id), V.sc (.int .i64 x4.Limit), V.sc (.int .i64 x4.Posted), V.sc (.int .i64 x4.Most), V.sc (.int .i64 x4.MostSum), V.ow 5, V.sc (.int .i64 x4.Ring.Span), V.sc (.int .i64 x4.Ring.Head), V.ow 6, V.ow 7, V.ow 8]), ((i64 (v4 + 1)).toNat, V.agg [V.sc (.string x3.Id), V.sc (.int .i64 x3.Limit), V.sc (.int .i64 x3.Posted), V.sc (.int .i64 x3.Most), V.sc (.int .i64 x3.MostSum), V.ow 1, V.sc (.int .i64 x3.Ring.Span), V.sc (.int .i64 x3.Ring.Head), V.ow 2, V.ow 3, V.ow 4])] v4.toNat = some (V.agg [V.sc (.string x4.Id), V.sc (.int .i64 x4.Limit), V.sc (.int .i64 x4.Posted), V.sc (.int .i64 x4.Most), V.sc (.int .i64 x4.MostSum), V.ow 5, V.sc (.int .i64 x4.Ring.Span), V.sc (.int .i64 x4.Ring.Head), V.ow 6, V.ow 7, V.ow 8]),
      v4.toNat < (List.map E43 v5).length,
      v4.toNat = v4.toNat,
      (0 : Int) ≤ (i64 (v4 + 1)),
      ((i64 (v4 + 1)) : Int) < ((List.map E43 v5).length : Int),
      look [(v4.toNat, V.agg [V.sc (.string x3.Id), V.sc (.int .i64 x3.Limit), V.sc (.int .i64 x3.Posted), V.sc (.int .i64 x3.Most), V.sc (.int .i64 x3.MostSum), V.ow 1, V.sc (.int .i64 x3.Ring.Span), V.sc (.int .i64 x3.Ring.Head), V.ow 2, V.ow 3, V.ow 4]), ((i64 (v4 + 1)).toNat, V.agg [V.sc (.string x3.Id), V.sc (.int .i64 x3.Limit), V.sc (.int .i64 x3.Posted), V.sc (.int .i64 x3.Most), V.sc (.int .i64 x3.MostSum), V.ow 1, V.sc (.int .i64 x3.Ring.Span), V.sc (.int .i64 x3.Ring.Head), V.ow 2, V.ow 3, V.ow 4])] ((i64 (v4 + 1)).toNat) = some (V.agg [V.sc (.string x3.Id), V.sc (.int .i64 x3.Limit), V.sc (.int .i64 x3.Posted), V.sc (.int .i64 x3.Most), V.sc (.int .i64 x3.MostSum), V.ow 1, V.sc (.int .i64 x3.Ring.Span), V.sc (.int .i64 x3.Ring.Head), V.ow 2, V.ow 3, V.ow 4]),
      ((i64 (v4 + 1)).toNat) < (List.map E43 v5).length,
      ((i64 (v4 + 1)).toNat) = ((i64 (v4 + 1)).toNat),
      (slices_symMergeCmpFunc_impl_Acct_impl_Gather_1_s2 r3 v4 x3 x4 v5) = (slices_symMergeCmpFunc_impl_Acct_impl_Gather_1_s2 r3 v4 x3 x4 v5),
      look [(v4.toNat, V.agg [V.sc (.string x4.Id), V.sc (.int .i64 x4.Limit), V.sc (.int .i64 x4.Posted), V.sc (.int .i64 x4.Most), V.sc (.int .i64 x4.MostSum), V.ow 5, V.sc (.int .i64 x4.Ring.Span), V.sc (.int .i64 x4.Ring.Head), V.ow 6, V.ow 7, V.ow 8]), ((i64 (v4 + 1)).toNat, V.agg [V.sc (.string x3.Id), V.sc (.int .i64 x3.Limit), V.sc (.int .i64 x3.Posted), V.sc (.int .i64 x3.Most), V.sc (.int .i64 x3.MostSum), V.ow 1, V.sc (.int .i64 x3.Ring.Span), V.sc (.int .i64 x3.Ring.Head), V.ow 2, V.ow 3, V.ow 4])] v4.toNat = some (V.agg [V.sc (.string x4.Id), V.sc (.int .i64 x4.Limit), V.sc (.int .i64 x4.Posted), V.sc (.int .i64 x4.Most), V.sc (.int .i64 x4.MostSum), V.ow 5, V.sc (.int .i64 x4.Ring.Span), V.sc (.int .i64 x4.Ring.Head), V.ow 6, V.ow 7, V.ow 8]),
      v4.toNat < (List.map E43 v5).length,
      v4.toNat = v4.toNat,
      (0 : Int) ≤ (i64 (v4 + 1)),
      ((i64 (v4 + 1)) : Int) < ((List.map E43 v5).length : Int),
      look [(v4.toNat, V.agg [V.sc (.string x3.Id), V.sc (.int .i64 x3.Limit), V.sc (.int .i64 x3.Posted), V.sc (.int .i64 x3.Most), V.sc (.int .i64 x3.MostSum), V.ow 1, V.sc (.int .i64 x3.Ring.Span), V.sc (.int .i64 x3.Ring.Head), V.ow 2, V.ow 3, V.ow 4]), ((i64 (v4 + 1)).toNat, V.agg [V.sc (.string x3.Id), V.sc (.int .i64 x3.Limit), V.sc (.int .i64 x3.Posted), V.sc (.int .i64 x3.Most), V.sc (.int .i64 x3.MostSum), V.ow 1, V.sc (.int .i64 x3.Ring.Span), V.sc (.int .i64 x3.Ring.Head), V.ow 2, V.ow 3, V.ow 4])] ((i64 (v4 + 1)).toNat) = some (V.agg [V.sc (.string x3.Id), V.sc (.int .i64 x3.Limit), V.sc (.int .i64 x3.Posted), V.sc (.int .i64 x3.Most), V.sc (.int .i64 x3.MostSum), V.ow 1, V.sc (.int .i64 x3.Ring.Span), V.sc (.int .i64 x3.Ring.Head), V.ow 2, V.ow 3, V.ow 4]),
      ((i64 (v4 + 1)).toNat) < (List.map E43 v5).length,
      ((i64 (v4 + 1)).toNat) = ((i64 (v4 + 1)).toNat),
      (slices_symMergeCmpFunc_impl_Acct_impl_Gather_1_s2 r3 v4 x3 x4 v5) = (slices_symMergeCmpFunc_impl_Acct_impl_Gather_1_s2 r3 v4 x3 x4 v5),
      (slices_symMergeCmpFunc_impl_Acct_impl_Gather_1_s2 r3 v4 x3 x4 v5) = (slices_symMergeCmpFunc_impl_Acct_impl_Gather_1_s2 r3 v4 x3 x4 v5),
      look [(v4.toNat, V.agg [V.sc (.string x4.Id), V.sc (.int .i64 x4.Limit), V.sc (.int .i64 x4.Posted), V.sc (.int .i64 x4.Most), V.sc (.int .i64 x4.MostSum), V.ow 5, V.sc (.int .i64 x4.Ring.Span), V.sc (.int .i64 x4.Ring.Head), V.ow 6, V.ow 7, V.ow 8]), ((i64 (v4 + 1)).toNat, V.agg [V.sc (.string x3.Id), V.sc (.int .i64 x3.Limit), V.sc (.int .i64 x3.Posted), V.sc (.int .i64 x3.Most), V.sc (.int .i64 x3.MostSum), V.ow 1, V.sc (.int .i64 x3.Ring.Span), V.sc (.int .i64 x3.Ring.Head), V.ow 2, V.ow 3, V.ow 4])] v4.toNat = some (V.agg [V.sc (.string x4.Id), V.sc (.int .i64 x4.Limit), V.sc (.int .i64 x4.Posted), V.sc (.int .i64 x4.Most), V.sc (.int .i64 x4.MostSum), V.ow 5, V.sc (.int .i64 x4.Ring.Span), V.sc (.int .i64 x4.Ring.Head), V.ow 6, V.ow 7, V.ow 8]),
      v4.toNat < (List.map E43 v5).length,
      v4.toNat = v4.toNat,
      (0 : Int) ≤ (i64 (v4 + 1)),
      ((i64 (v4 + 1)) : Int) < ((List.map E43 v5).length : Int),
      look [(v4.toNat, V.agg [V.sc (.string x3.Id), V.sc (.int .i64 x3.Limit), V.sc (.int .i64 x3.Posted), V.sc (.int .i64 x3.Most), V.sc (.int .i64 x3.MostSum), V.ow 1, V.sc (.int .i64 x3.Ring.Span), V.sc (.int .i64 x3.Ring.Head), V.ow 2, V.ow 3, V.ow 4]), ((i64 (v4 + 1)).toNat, V.agg [V.sc (.string x3.Id), V.sc (.int .i64 x3.Limit), V.sc (.int .i64 x3.Posted), V.sc (.int .i64 x3.Most), V.sc (.int .i64 x3.MostSum), V.ow 1, V.sc (.int .i64 x3.Ring.Span), V.sc (.int .i64 x3.Ring.Head), V.ow 2, V.ow 3, V.ow 4])] ((i64 (v4 + 1)).toNat) = some (V.agg [V.sc (.string x3.Id), V.sc (.int .i64 x3.Limit), V.sc (.int .i64 x3.Posted), V.sc (.int .i64 x3.Most), V.sc (.int .i64 x3.MostSum), V.ow 1, V.sc (.int .i64 x3.Ring.Span), V.sc (.int .i64 x3.Ring.Head), V.ow 2, V.ow 3, V.ow 4]),
      ((i64 (v4 + 1)).toNat) < (List.map E43 v5).length,
      ((i64 (v4 + 1)).toNat) = ((i64 (v4 + 1)).toNat),
      (slices_symMergeCmpFunc_impl_Acct_impl_Gather_1_s2 r3 v4 x3 x4 v5) = (slices_symMergeCmpFunc_impl_Acct_impl_Gather_1_s2 r3 v4 x3 x4 v5),
      look [(v4.toNat, V.agg [V.sc (.string x4.Id), V.sc (.int .i64 x4.Limit), V.sc (.int .i64 x4.Posted), V.sc (.int .i64 x4.Most), V.sc (.int .i64 x4.MostSum), V.ow 5, V.sc (.int .i64 x4.Ring.Span), V.sc (.int .i64 x4.Ring.Head), V.ow 6, V.ow 7, V.ow 8]), ((i64 (v4 + 1)).toNat, V.agg [V.sc (.string x3.Id), V.sc (.int .i64 x3.Limit), V.sc (.int .i64 x3.Posted), V.sc (.int .i64 x3.Most), V.sc (.int .i64 x3.MostSum), V.ow 1, V.sc (.int .i64 x3.Ring.Span), V.sc (.int .i64 x3.Ring.Head), V.ow 2, V.ow 3, V.ow 4])] v4.toNat = some (V.agg [V.sc (.string x4.Id), V.sc (.int .i64 x4.Limit), V.sc (.int .i64 x4.Posted), V.sc (.int .i64 x4.Most), V.sc (.int .i64 x4.MostSum), V.ow 5, V.sc (.int .i64 x4.Ring.Span), V.sc (.int .i64 x4.Ring.Head), V.ow 6, V.ow 7, V.ow 8]),
      v4.toNat < (List.map E43 v5).length,
      v4.toNat = v4.toNat,
      (0 : Int) ≤ (i64 (v4 + 1)),
      ((i64 (v4 + 1)) : Int) < ((List.map E43 v5).length : Int),
      look [(v4.toNat, V.agg [V.sc (.string x3.Id), V.sc (.int .i64 x3.Limit), V.sc (.int .i64 x3.Posted), V.sc (.int .i64 x3.Most), V.sc (.int .i64 x3.MostSum), V.ow 1, V.sc (.int .i64 x3.Ring.Span), V.sc (.int .i64 x3.Ring.Head), V.ow 2, V.ow 3, V.ow 4]), ((i64 (v4 + 1)).toNat, V.agg [V.sc (.string x3.Id), V.sc (.int .i64 x3.Limit), V.sc (.int .i64 x3.Posted), V.sc (.int .i64 x3.Most), V.sc (.int .i64 x3.MostSum), V.ow 1, V.sc (.int .i64 x3.Ring.Span), V.sc (.int .i64 x3.Ring.Head), V.ow 2, V.ow 3, V.ow 4])] ((i64 (v4 + 1)).toNat) = some (V.agg [V.sc (.string x3.Id), V.sc (.int .i64 x3.Limit), V.sc (.int .i64 x3.Posted), V.sc (.int .i64 x3.Most), V.sc (.int .i64 x3.MostSum), V.ow 1, V.sc (.int .i64 x3.Ring.Span), V.sc (.int .i64 x3.Ring.Head), V.ow 2, V.ow 3, V.ow 4]),
      ((i64 (v4 + 1)).toNat) < (List.map E43 v5).length,
      ((i64 (v4 + 1)).toNat) = ((i64 (v4 + 1)).toNat),
      (slices_symMergeCmpFunc_impl_Acct_impl_Gather_1_s2 r3 v4 x3 x4 v5) = (slices_symMergeCmpFunc_impl_Acct_impl_Gather_1_s2 r3 v4 x3 x4 v5),
      (slices_symMergeCmpFunc_impl_Acct_impl_Gather_1_s2 r3 v4 x3 x4 v5) = (slices_symMergeCmpFunc_impl_Acct_impl_Gather_1_s2 r3 v4 x3 x4 v5),
      look [(v4.toNat, V.agg [V.sc (.string x4.Id), V.sc (.int .i64 x4.Limit), V.sc (.int .i64 x4.Posted), V.sc (.int .i64 x4.Most), V.sc (.int .i64 x4.MostSum), V.ow 5, V.sc (.int .i64 x4.Ring.Span), V.sc (.int .i64 x4.Ring.Head), V.ow 6, V.ow 7, V.ow 8]), ((i64 (v4 + 1)).toNat, V.agg [V.sc (.string x3.Id), V.sc (.int .i64 x3.Limit), V.sc (.int .i64 x3.Posted), V.sc (.int .i64 x3.Most), V.sc (.int .i64 x3.MostSum), V.ow 1, V.sc (.int .i64 x3.Ring.Span), V.sc (.int .i64 x3.Ring.Head), V.ow 2, V.ow 3, V.ow 4])] v4.toNat = some (V.agg [V.sc (.string x4.Id), V.sc (.int .i64 x4.Limit), V.sc (.int .i64 x4.Posted), V.sc (.int .i64 x4.Most), V.sc (.int .i64 x4.MostSum), V.ow 5, V.sc (.int .i64 x4.Ring.Span), V.sc (.int .i64 x4.Ring.Head), V.ow 6, V.ow 7, V.ow 8]),
      v4.toNat < (List.map E43 v5).length,
      v4.toNat = v4.toNat,
      (0 : Int) ≤ (i64 (v4 + 1)),
      ((i64 (v4 + 1)) : Int) < ((List.map E43 v5).length : Int),
      look [(v4.toNat, V.agg [V.sc (.string x3.Id), V.sc (.int .i64 x3.Limit), V.sc (.int .i64 x3.Posted), V.sc (.int .i64 x3.Most), V.sc (.int .i64 x3.MostSum), V.ow 1, V.sc (.int .i64 x3.Ring.Span), V.sc (.int .i64 x3.Ring.Head), V.ow 2, V.ow 3, V.ow 4]), ((i64 (v4 + 1)).toNat, V.agg [V.sc (.string x3.Id), V.sc (.int .i64 x3.Limit), V.sc (.int .i64 x3.Posted), V.sc (.int .i64 x3.Most), V.sc (.int .i64 x3.MostSum), V.ow 1, V.sc (.int .i64 x3.Ring.Span), V.sc (.int .i64 x3.Ring.Head), V.ow 2, V.ow 3, V.ow 4])] ((i64 (v4 + 1)).toNat) = some (V.agg [V.sc (.string x3.Id), V.sc (.int .i64 x3.Limit), V.sc (.int .i64 x3.Posted), V.sc (.int .i64 x3.Most), V.sc (.int .i64 x3.MostSum), V.ow 1, V.sc (.int .i64 x3.Ring.Span), V.sc (.int .i64 x3.Ring.Head), V.ow 2, V.ow 3, V.ow 4]),
      ((i64 (v4 + 1)).toNat) < (List.map E43 v5).length,
      ((i64 (v4 + 1)).toNat) = ((i64 (v4 + 1)).toNat),
      (slices_symMergeCmpFunc_impl_Acct_impl_Gather_1_s2 r3 v4 x3 x4 v5) = (slices_symMergeCmpFunc_impl_Acct_impl_Gather_1_s2 r3 v4 x3 x4 v5),
      (slices_symMergeCmpFunc_impl_Acct_impl_Gather_1_s2 r3 v4 x3 x4 v5) = (slices_symMergeCmpFunc_impl_Acct_impl_Gather_1_s2 r3 v4 x3 x4 v5),
      look [(v4.toNat, V.agg [V.sc (.string x4.Id), V.sc (.int .i64 x4.Limit), V.sc (.int .i64 x4.Posted), V.sc (.int .i64 x4.Most), V.sc (.int .i64 x4.MostSum), V.ow 5, V.sc (.int .i64 x4.Ring.Span), V.sc (.int .i64 x4.Ring.Head), V.ow 6, V.ow 7, V.ow 8]), ((i64 (v4 + 1)).toNat, V.agg [V.sc (.string x3.Id), V.sc (.int .i64 x3.Limit), V.sc (.int .i64 x3.Posted), V.sc (.int .i64 x3.Most), V.sc (.int .i64 x3.MostSum), V.ow 1, V.sc (.int .i64 x3.Ring.Span), V.sc (.int .i64 x3.Ring.Head), V.ow 2, V.ow 3, V.ow 4])] v4.toNat = some (V.agg [V.sc (.string x4.Id), V.sc (.int .i64 x4.Limit), V.sc (.int .i64 x4.Posted), V.sc (.int .i64 x4.Most), V.sc (.int .i64 x4.MostSum), V.ow 5, V.sc (.int .i64 x4.Ring.Span), V.sc (.int .i64 x4.Ring.Head), V.ow 6, V.ow 7, V.ow 8]),
      v4.toNat < (List.map E43 v5).length,
      v4.toNat = v4.toNat,
      (0 : Int) ≤ (i64 (v4 + 1)),
      ((i64 (v4 + 1)) : Int) < ((List.map E43 v5).length : Int),
      look [(v4.toNat, V.agg [V.sc (.string x3.Id), V.sc (.int .i64 x3.Limit), V.sc (.int .i64 x3.Posted), V.sc (.int .i64 x3.Most), V.sc (.int .i64 x3.MostSum), V.ow 1, V.sc (.int .i64 x3.Ring.Span), V.sc (.int .i64 x3.Ring.Head), V.ow 2, V.ow 3, V.ow 4]), ((i64 (v4 + 1)).toNat, V.agg [V.sc (.string x3.Id), V.sc (.int .i64 x3.Limit), V.sc (.int .i64 x3.Posted), V.sc (.int .i64 x3.Most), V.sc (.int .i64 x3.MostSum), V.ow 1, V.sc (.int .i64 x3.Ring.Span), V.sc (.int .i64 x3.Ring.Head), V.ow 2, V.ow 3, V.ow 4])] ((i64 (v4 + 1)).toNat) = some (V.agg [V.sc (.string x3.Id), V.sc (.int .i64 x3.Limit), V.sc (.int .i64 x3.Posted), V.sc (.int .i64 x3.Most), V.sc (.int .i64 x3.MostSum), V.ow 1, V.sc (.int .i64 x3.Ring.Span), V.sc (.int .i64 x3.Ring.Head), V.ow 2, V.ow 3, V.ow 4]),
      ((i64 (v4 + 1)).toNat) < (List.map E43 v5).length,
      ((i64 (v4 + 1)).toNat) = ((i64 (v4 + 1)).toNat),
      (slices_symMergeCmpFunc_impl_Acct_impl_Gather_1_s2 r3 v4 x3 x4 v5) = (slices_symMergeCmpFunc_impl_Acct_impl_Gather_1_s2 r3 v4 x3 x4 v5),
      Blk.row 43 (((List.map E43 v5).set v4.toNat (V.agg [V.sc (.string x3.Id), V.sc (.int .i64 x3.Limit), V.sc (.int .i64 x3.Posted), V.sc (.int .i64 x3.Most), V.sc (.int .i64 x3.MostSum), V.sl true 85 (List.map E85 x3.Holds), V.sc (.int .i64 x3.Ring.Span), V.sc (.int .i64 x3.Ring.Head), V.sl true 3 (List.map E3 x3.Ring.Counts), V.sl true 3 (List.map E3 x3.Ring.Sums), V.sl true 89 (List.map E89 x3.Slots)])).set ((i64 (v4 + 1)).toNat) (V.agg [V.sc (.string x4.Id), V.sc (.int .i64 x4.Limit), V.sc (.int .i64 x4.Posted), V.sc (.int .i64 x4.Most), V.sc (.int .i64 x4.MostSum), V.sl true 85 (List.map E85 x4.Holds), V.sc (.int .i64 x4.Ring.Span), V.sc (.int .i64 x4.Ring.Head), V.sl true 3 (List.map E3 x4.Ring.Counts), V.sl true 3 (List.map E3 x4.Ring.Sums), V.sl true 89 (List.map E89 x4.Slots)])) [] = Blk.row 43 (List.map E43 ((v5.set v4.toNat x3).set ((i64 (v4 + 1)).toNat) x4)) []]) (by kernel_rfl) (cj ((slices_symMergeCmpFunc_impl_Acct_impl_Gather_1_c4_ok r3 v4 v5 r4 h15).at h16) (cj (od h18) (cj (map_ltN (od h18) h19) (cj rfl (cj (map_get h19) (cj (look_cons_self _ _ _) (cj (map_lt h19) (cj (od h20) (cj (map_ltN (od h20) h21) (cj ((look_cons_ne _ _ (od h22)).trans rfl) (cj (map_get h21) (cj (look_cons_self _ _ _) (cj (map_lt h21) (cj (od h20) (cj (map_ltN (od h20) h21) (cj (look_cons_self _ _ _) (cj (map_lt h21) (cj rfl (cj (od h18) (cj (map_ltN (od h18) h19) (cj ((look_cons_ne _ _ (fun z => od h22 z.symm)).trans (look_cons_self _ _ _)) (cj (map_lt h19) (cj rfl (cj rfl (cj (look_cons_self _ _ _) (cj (map_lt h21) (cj rfl (cj (od h18) (cj (map_ltN (od h18) h19) (cj ((look_cons_ne _ _ (fun z => od h22 z.symm)).trans (look_cons_self _ _ _)) (cj (map_lt h19) (cj rfl (cj rfl (cj rfl (cj (look_cons_self _ _ _) (cj (map_lt h21) (cj rfl (cj (od h18) (cj (map_ltN (od h18) h19) (cj ((look_cons_ne _ _ (fun z => od h22 z.symm)).trans (look_cons_self _ _ _)) (cj (map_lt h19) (cj rfl (cj rfl (cj rfl (cj (look_cons_self _ _ _) (cj (map_lt h21) (cj rfl (cj (od h18) (cj (map_ltN (od h18) h19) (cj ((look_cons_ne _ _ (fun z => od h22 z.symm)).trans (look_cons_self _ _ _)) (cj (map_lt h19) (cj rfl (cj rfl (cj (look_cons_self _ _ _) (cj (map_lt h21) (cj rfl (cj (od h18) (cj (map_ltN (od h18) h19) (cj ((look_cons_ne _ _ (fun z => od h22 z.symm)).trans (look_cons_self _ _ _)) (cj (map_lt h19) (cj rfl (cj rfl (cj rfl (cj (look_cons_self _ _ _) (cj (map_lt h21) (cj rfl (cj (od h18) (cj (map_ltN (od h18) h19) (cj ((look_cons_ne _ _ (fun z => od h22 z.symm)).trans (look_cons_self _ _ _)) (cj (map_lt h19) (cj rfl (cj rfl (cj (look_cons_self _ _ _) (cj (map_lt h21) (cj rfl (cj (od h18) (cj (map_ltN (od h18) h19) (cj ((look_cons_ne _ _ (fun z => od h22 z.symm)).trans (look_cons_self _ _ _)) (cj (map_lt h19) (cj rfl (cj rfl (cj rfl (cj (look_cons_self _ _ _) (cj (map_lt h21) (cj rfl (cj (od h18) (cj (map_ltN (od h18) h19) (cj ((look_cons_ne _ _ (fun z => od h22 z.symm)).trans (look_cons_self _ _ _)) (cj (map_lt h19) (cj rfl (cj rfl (cj rfl (cj (look_cons_self _ _ _) (cj (map_lt h21) (cj rfl (cj (od h18) (cj (map_ltN (od h18) h19) (cj ((look_cons_ne _ _ (fun z => od h22 z.symm)).trans (look_cons_self _ _ _)) (cj (map_lt h19) (cj rfl (cj rfl (cj1 (nb_set2 E43 _ _ x3 _ x4))))))))))))))))))))))))))))))))))))))))))))))))))))))))))))))))))))))))))))))))))))))))))))))))))))))) (slices_symMergeCmpFunc_impl_Acct_impl_Gather_1_l1_ok r3 fuel (i64 (v4 + 1)) ((v5.set v4.toNat x3).set ((i64 (v4 + 1)).toNat) x4))) (fun h22 =>
     Pn.none))) (fun h20 =>
     Pn.none))) (fun h18 =>
     Pn.none)) (fun s4 h17 =>
     Pn.some (LpO.out [.wait 1, .mask [0, 10, 13], .ren [0], .join 5 (X.out 2) (st 220 [] [Blk.row 43 (List.map E43 v5) []] [some 0]), .wait 1, .mask [], .ren [0]] (p := [HT Tryz.prog (sub (codeOf Tryz.prog 75) [0, 1, 0, 1, 1, 1, 0, 1, 0, 0, 0]) (st 220 [(0, V.ow 0), (10, V.sc (.int .i64 r3.1)), (13, V.sc (.int .i64 v4))] [Blk.row 43 (List.map E43 v5) []] [some 0]) (X.out 2) (st 220 [] [Blk.row 43 (List.map E43 v5) []] [some 0])]) (by kernel_rfl) (show X.out 2 ≠ X.go from nofun) (cj1 ((slices_symMergeCmpFunc_impl_Acct_impl_Gather_1_c4_ok r3 v4 v5 r4 h15).at h17)))))
def slices_symMergeCmpFunc_impl_Acct_impl_Gather_1_c0 (o : List Acct) (o_ : Int) (a2 : Int) (a3 : Int) : Option (Lo Unit ((List Acct))) :=
 if ((i64 (a2 - o_)) == 1) = true then
 (slices_symMergeCmpFunc_impl_Acct_impl_Gather_1_l0 o_ FUEL a2 a3 o).bind fun r3 =>
 (slices_symMergeCmpFunc_impl_Acct_impl_Gather_1_l1 r3 FUEL o_ r3.2).bind fun r5 =>
 some (.ret r5)
 else
 some (.out ())
theorem slices_symMergeCmpFunc_impl_Acct_impl_Gather_1_c0_ok (o : List Acct) (o_ : Int) (a2 : Int) (a3 : Int) : Pn (JnO Tryz.prog (sub (codeOf Tryz.prog 75) [0]) (st 220 [(0, V.ow 0), (1, V.sc (.int .i64 o_)), (2, V.sc (.int .i64 a2)), (3, V.sc (.int .i64 a3)), (4, V.fn 29 [])] [Blk.row 43 (List.map E43 o) []] [some 0]) (fun (y : Lo Unit ((List Acct))) => Lo.elim y (fun s => (X.go, st 220 [(0, V.ow 0), (1, V.sc (.int .i64 o_)), (2, V.sc (.int .i64 a2)), (3, V.sc (.int .i64 a3)), (4, V.fn 29 [])] [Blk.row 43 (List.map E43 o) []] [some 0])) (fun s => (X.ret, st 220 [] [Blk.row 43 (List.map E43 s) []] [some 0])))) (slices_symMergeCmpFunc_impl_Acct_impl_Gather_1_c0 o o_ a2 a3) := by
  unfold slices_symMergeCmpFunc_impl_Acct_impl_Gather_1_c0
  exact
   Pn.ite (fun h1 =>
   Pn.bind (fun r3 h13 =>
   Pn.bind (fun r5 h23 =>
   Pn.some (JnO.of [.bit true, .wait 4, .mask [0, 1, 4, 10, 11], .ren [0], .loop (X.out 0) (st 220 [(0, V.ow 0), (1, V.sc (.int .i64 o_)), (10, V.sc (.int .i64 r3.1))] [Blk.row 43 (List.map E43 r3.2) []] [some 0]), .wait 3, .mask [0, 10, 13], .ren [0], .loop (X.out 2) (st 220 [] [Blk.row 43 (List.map E43 r5) []] [some 0]), .wait 1, .mask [], .ren [0]] (p := [((i64 (a2 - o_)) == 1) = true,
    Loop Tryz.prog (sub (codeOf Tryz.prog 75) [0, 1, 0, 1, 1, 0, 0, 0]) (st 220 [(0, V.ow 0), (1, V.sc (.int .i64 o_)), (4, V.fn 29 []), (10, V.sc (.int .i64 a2)), (11, V.sc (.int .i64 a3))] [Blk.row 43 (List.map E43 o) []] [some 0]) (X.out 0) (st 220 [(0, V.ow 0), (1, V.sc (.int .i64 o_)), (10, V.sc (.int .i64 r3.1))] [Blk.row 43 (List.map E43 r3.2) []] [some 0]),
    Loop Tryz.prog (sub (codeOf Tryz.prog 75) [0, 1, 0, 1, 1, 1, 0, 1, 0, 0]) (st 220 [(0, V.ow 0), (10, V.sc (.int .i64 r3.1)), (13, V.sc (.int .i64 o_))] [Blk.row 43 (List.map E43 r3.2) []] [some 0]) (X.out 2) (st 220 [] [Blk.row 43 (List.map E43 r5) []] [some 0])]) (by kernel_rfl) (cj h1 (cj (slices_symMergeCmpFunc_impl_Acct_impl_Gather_1_l0_ok o_ FUEL a2 a3 o r3 h13) (cj1 (slices_symMergeCmpFunc_impl_Acct_impl_Gather_1_l1_ok r3 FUEL o_ r3.2 r5 h23)))))))) (fun h1 =>
   Pn.some (JnO.of [.bit false, .mask [0, 1, 2, 3, 4], .ren [0]] (p := [((i64 (a2 - o_)) == 1) = false]) (by kernel_rfl) (cj1 h1)))
def slices_symMergeCmpFunc_impl_Acct_impl_Gather_1_c7 (a2 : Int) (v6 : Int) (v7 : Int) (v8 : List Acct) : Option (Lo Unit Unit) :=
 if (decide (v6 < v7)) = true then
 some (.out ())
 else
 some (.ret ())
theorem slices_symMergeCmpFunc_impl_Acct_impl_Gather_1_c7_ok (a2 : Int) (v6 : Int) (v7 : Int) (v8 : List Acct) : Pn (JnO Tryz.prog (sub (codeOf Tryz.prog 75) [1, 0, 1, 0, 1, 1, 0, 0, 0, 0]) (st 220 [(0, V.ow 0), (2, V.sc (.int .i64 a2)), (4, V.fn 29 []), (14, V.sc (.int .i64 v6)), (15, V.sc (.int .i64 v7))] [Blk.row 43 (List.map E43 v8) []] [some 0]) (fun (y : Lo Unit Unit) => Lo.elim y (fun s => (X.go, st 220 [(0, V.ow 0), (2, V.sc (.int .i64 a2)), (4, V.fn 29 []), (14, V.sc (.int .i64 v6)), (15, V.sc (.int .i64 v7))] [Blk.row 43 (List.map E43 v8) []] [some 0])) (fun s => (X.out 4, st 220 [(0, V.ow 0), (2, V.sc (.int .i64 a2)), (14, V.sc (.int .i64 v6))] [Blk.row 43 (List.map E43 v8) []] [some 0])))) (slices_symMergeCmpFunc_impl_Acct_impl_Gather_1_c7 a2 v6 v7 v8) := by
  unfold slices_symMergeCmpFunc_impl_Acct_impl_Gather_1_c7
  exact
   Pn.ite (fun h28 =>
   Pn.some (JnO.of [.bit true, .mask [0, 2, 4, 14, 15], .ren [0]] (p := [(decide (v6 < v7)) = true]) (by kernel_rfl) (cj1 h28))) (fun h28 =>
   Pn.some (JnO.of [.bit false, .mask [0, 2, 14], .ren [0]] (p := [(decide (v6 < v7)) = false]) (by kernel_rfl) (cj1 h28)))
def slices_symMergeCmpFunc_impl_Acct_impl_Gather_1_l2 (a2 : Int) : Nat → Int → Int → (List Acct) → Option (Int × (List Acct))
  | 0, _, _, _ => none
  | fuel + 1, v6, v7, v8 =>
   (slices_symMergeCmpFunc_impl_Acct_impl_Gather_1_c7 a2 v6 v7 v8).bind fun r7 =>
   Lo.elim r7 (fun s7 =>
   if (decide (0 ≤ a2)) = true then
   (v8[a2.toNat]?).bind fun x5 =>
   if (decide (0 ≤ (i64 (bshr .u64 (u64 (i64 (v6 + v7))) 1)))) = true then
   (v8[(i64 (bshr .u64 (u64 (i64 (v6 + v7))) 1)).toNat]?).bind fun x6 =>
   if (decide (¬ ((i64 (bshr .u64 (u64 (i64 (v6 + v7))) 1)).toNat) = a2.toNat)) = true then
   (impl_Gather_1 x5 x6).bind fun r8 =>
   if (decide (r8 < 0)) = true then
   slices_symMergeCmpFunc_impl_Acct_impl_Gather_1_l2 a2 fuel v6 (i64 (bshr .u64 (u64 (i64 (v6 + v7))) 1)) ((v8.set a2.toNat x5).set ((i64 (bshr .u64 (u64 (i64 (v6 + v7))) 1)).toNat) x6)
   else
   slices_symMergeCmpFunc_impl_Acct_impl_Gather_1_l2 a2 fuel (i64 ((i64 (bshr .u64 (u64 (i64 (v6 + v7))) 1)) + 1)) v7 ((v8.set a2.toNat x5).set ((i64 (bshr .u64 (u64 (i64 (v6 + v7))) 1)).toNat) x6)
   else none
   else none
   else none) (fun s8 =>
   some (v6, v8))
theorem slices_symMergeCmpFunc_impl_Acct_impl_Gather_1_l2_ok (a2 : Int) : ∀ (fuel : Nat) (v6 : Int) (v7 : Int) (v8 : List Acct), Pn (LpO Tryz.prog (sub (codeOf Tryz.prog 75) [1, 0, 1, 0, 1, 1, 0, 0, 0]) (st 220 [(0, V.ow 0), (2, V.sc (.int .i64 a2)), (4, V.fn 29 []), (14, V.sc (.int .i64 v6)), (15, V.sc (.int .i64 v7))] [Blk.row 43 (List.map E43 v8) []] [some 0]) (fun (y : Int × (List Acct)) => (X.out 4, st 220 [(0, V.ow 0), (2, V.sc (.int .i64 a2)), (14, V.sc (.int .i64 y.1))] [Blk.row 43 (List.map E43 y.2) []] [some 0]))) (slices_symMergeCmpFunc_impl_Acct_impl_Gather_1_l2 a2 fuel v6 v7 v8)
  | 0, _, _, _ => Pn.none
  | fuel + 1, v6, v7, v8 => by
    unfold slices_symMergeCmpFunc_impl_Acct_impl_Gather_1_l2
    exact
     Pn.bind (fun r7 h29 =>
     Pn.lo (fun s7 h30 =>
     Pn.ite (fun h32 =>
     Pn.bind (fun x5 h33 =>
     Pn.ite (fun h34 =>
     Pn.bind (fun x6 h35 =>
     Pn.ite (fun h36 =>
     Pn.bind (fun r8 h37 =>
     Pn.ite (fun h38 =>
     LpO.go [.wait 1, .mask [0, 2, 4, 14, 15], .ren [0], .join 5 (X.go) (st 220 [(0, V.ow 0), (2, V.sc (.int .i64 a2)), (4, V.fn 29 []), (14, V.sc (.int .i64 v6)), (15, V.sc (.int .i64 v7))] [Blk.row 43 (List.map E43 v8) []] [some 0]), .draw [], .wait 3, .foc 0 a2.toNat (E43 x5), .fo 0, .wait 3, .foc 0 ((i64 (bshr .u64 (u64 (i64 (v6 + v7))) 1)).toNat) (E43 x6), .fo 0, .call [] (E3 r8) [], .bit false, .wait 2, .shut 0, .nb 0 (.row 43 (List.map E43 ((v8.set a2.toNat x5).set ((i64 (bshr .u64 (u64 (i64 (v6 + v7))) 1)).toNat) x6)) []), .mask [0, 2, 4, 14, 15], .ren [0]] (p := [HT Tryz.prog (sub (codeOf Tryz.prog 75) [1, 0, 1, 0, 1, 1, 0, 0, 0, 0]) (st 220 [(0, V.ow 0), (2, V.sc (.int .i64 a2)), (4, V.fn 29 []), (14, V.sc (.int .i64 v6)), (15, V.sc (.int .i64 v7))] [Blk.row 43 (List.map E43 v8) []] [some 0]) (X.go) (st 220 [(0, V.ow 0), (2, V.sc (.int .i64 a2)), (4, V.fn 29 []), (14, V.sc (.int .i64 v6)), (15, V.sc (.int .i64 v7))] [Blk.row 43 (List.map E43 v8) []] [some 0]),
      ¬ (1 : Int) < 0,
      (0 : Int) ≤ a2,
      (a2 : Int) < ((List.map E43 v8).length : Int),
      look [] a2.toNat = none,
      (List.map E43 v8)[a2.toNat]? = some (E43 x5),
      look [(a2.toNat, V.agg [V.sc (.string x5.Id), V.sc (.int .i64 x5.Limit), V.sc (.int .i64 x5.Posted), V.sc (.int .i64 x5.Most), V.sc (.int .i64 x5.MostSum), V.ow 1, V.sc (.int .i64 x5.Ring.Span), V.sc (.int .i64 x5.Ring.Head), V.ow 2, V.ow 3, V.ow 4])] a2.toNat = some (V.agg [V.sc (.string x5.Id), V.sc (.int .i64 x5.Limit), V.sc (.int .i64 x5.Posted), V.sc (.int .i64 x5.Most), V.sc (.int .i64 x5.MostSum), V.ow 1, V.sc (.int .i64 x5.Ring.Span), V.sc (.int .i64 x5.Ring.Head), V.ow 2, V.ow 3, V.ow 4]),
      a2.toNat < (List.map E43 v8).length,
      (0 : Int) ≤ (i64 (bshr .u64 (u64 (i64 (v6 + v7))) 1)),
      ((i64 (bshr .u64 (u64 (i64 (v6 + v7))) 1)) : Int) < ((List.map E43 v8).length : Int),
      look [(a2.toNat, V.agg [V.sc (.string x5.Id), V.sc (.int .i64 x5.Limit), V.sc (.int .i64 x5.Posted), V.sc (.int .i64 x5.Most), V.sc (.int .i64 x5.MostSum), V.ow 1, V.sc (.int .i64 x5.Ring.Span), V.sc (.int .i64 x5.Ring.Head), V.ow 2, V.ow 3, V.ow 4])] ((i64 (bshr .u64 (u64 (i64 (v6 + v7))) 1)).toNat) = none,
      (List.map E43 v8)[(i64 (bshr .u64 (u64 (i64 (v6 + v7))) 1)).toNat]? = some (E43 x6),
      look [((i64 (bshr .u64 (u64 (i64 (v6 + v7))) 1)).toNat, V.agg [V.sc (.string x6.Id), V.sc (.int .i64 x6.Limit), V.sc (.int .i64 x6.Posted), V.sc (.int .i64 x6.Most), V.sc (.int .i64 x6.MostSum), V.ow 5, V.sc (.int .i64 x6.Ring.Span), V.sc (.int .i64 x6.Ring.Head), V.ow 6, V.ow 7, V.ow 8]), (a2.toNat, V.agg [V.sc (.string x5.Id), V.sc (.int .i64 x5.Limit), V.sc (.int .i64 x5.Posted), V.sc (.int .i64 x5.Most), V.sc (.int .i64 x5.MostSum), V.ow 1, V.sc (.int .i64 x5.Ring.Span), V.sc (.int .i64 x5.Ring.Head), V.ow 2, V.ow 3, V.ow 4])] ((i64 (bshr .u64 (u64 (i64 (v6 + v7))) 1)).toNat) = some (V.agg [V.sc (.string x6.Id), V.sc (.int .i64 x6.Limit), V.sc (.int .i64 x6.Posted), V.sc (.int .i64 x6.Most), V.sc (.int .i64 x6.MostSum), V.ow 5, V.sc (.int .i64 x6.Ring.Span), V.sc (.int .i64 x6.Ring.Head), V.ow 6, V.ow 7, V.ow 8]),
      ((i64 (bshr .u64 (u64 (i64 (v6 + v7))) 1)).toNat) < (List.map E43 v8).length,
      Fn Tryz.prog 29 [(false, E43 x5), (false, E43 x6)] (E3 r8) [],
      (false || ((E3 r8).nv && nvL [])) = true,
      (!(decide (r8 < 0))) = false,
      Blk.row 43 (((List.map E43 v8).set a2.toNat (V.agg [V.sc (.string x5.Id), V.sc (.int .i64 x5.Limit), V.sc (.int .i64 x5.Posted), V.sc (.int .i64 x5.Most), V.sc (.int .i64 x5.MostSum), V.sl true 85 (List.map E85 x5.Holds), V.sc (.int .i64 x5.Ring.Span), V.sc (.int .i64 x5.Ring.Head), V.sl true 3 (List.map E3 x5.Ring.Counts), V.sl true 3 (List.map E3 x5.Ring.Sums), V.sl true 89 (List.map E89 x5.Slots)])).set ((i64 (bshr .u64 (u64 (i64 (v6 + v7))) 1)).toNat) (V.agg [V.sc (.string x6.Id), V.sc (.int .i64 x6.Limit), V.sc (.int .i64 x6.Posted), V.sc (.int .i64 x6.Most), V.sc (.int .i64 x6.MostSum), V.sl true 85 (List.map E85 x6.Holds), V.sc (.int .i64 x6.Ring.Span), V.sc (.int .i64 x6.Ring.Head), V.sl true 3 (List.map E3 x6.Ring.Counts), V.sl true 3 (List.map E3 x6.Ring.Sums), V.sl true 89 (List.map E89 x6.Slots)])) [] = Blk.row 43 (List.map E43 ((v8.set a2.toNat x5).set ((i64 (bshr .u64 (u64 (i64 (v6 + v7))) 1)).toNat) x6)) []]) (by kernel_rfl) (cj ((slices_symMergeCmpFunc_impl_Acct_impl_Gather_1_c7_ok a2 v6 v7 v8 r7 h29).at h30) (cj (by decide) (cj (od h32) (cj (map_ltN (od h32) h33) (cj rfl (cj (map_get h33) (cj (look_cons_self _ _ _) (cj (map_lt h33) (cj (od h34) (cj (map_ltN (od h34) h35) (cj ((look_cons_ne _ _ (od h36)).trans rfl) (cj (map_get h35) (cj (look_cons_self _ _ _) (cj (map_lt h35) (cj (impl_Gather_1_ok x5 x6 r8 h37) (cj (by simp [V.nv, nvL, nvL_all, nv_E3]) (cj (nf h38) (cj1 (nb_set2 E43 _ _ x5 _ x6))))))))))))))))))) (slices_symMergeCmpFunc_impl_Acct_impl_Gather_1_l2_ok a2 fuel v6 (i64 (bshr .u64 (u64 (i64 (v6 + v7))) 1)) ((v8.set a2.toNat x5).set ((i64 (bshr .u64 (u64 (i64 (v6 + v7))) 1)).toNat) x6))) (fun h38 =>
     LpO.go [.wait 1, .mask [0, 2, 4, 14, 15], .ren [0], .join 5 (X.go) (st 220 [(0, V.ow 0), (2, V.sc (.int .i64 a2)), (4, V.fn 29 []), (14, V.sc (.int .i64 v6)), (15, V.sc (.int .i64 v7))] [Blk.row 43 (List.map E43 v8) []] [some 0]), .draw [], .wait 3, .foc 0 a2.toNat (E43 x5), .fo 0, .wait 3, .foc 0 ((i64 (bshr .u64 (u64 (i64 (v6 + v7))) 1)).toNat) (E43 x6), .fo 0, .call [] (E3 r8) [], .bit true, .wait 3, .shut 0, .nb 0 (.row 43 (List.map E43 ((v8.set a2.toNat x5).set ((i64 (bshr .u64 (u64 (i64 (v6 + v7))) 1)).toNat) x6)) []), .mask [0, 2, 4, 14, 15], .ren [0]] (p := [HT Tryz.prog (sub (codeOf Tryz.prog 75) [1, 0, 1, 0, 1, 1, 0, 0, 0, 0]) (st 220 [(0, V.ow 0), (2, V.sc (.int .i64 a2)), (4, V.fn 29 []), (14, V.sc (.int .i64 v6)), (15, V.sc (.int .i64 v7))] [Blk.row 43 (List.map E43 v8) []] [some 0]) (X.go) (st 220 [(0, V.ow 0), (2, V.sc (.int .i64 a2)), (4, V.fn 29 []), (14, V.sc (.int .i64 v6)), (15, V.sc (.int .i64 v7))] [Blk.row 43 (List.map E43 v8) []] [some 0]),
      ¬ (1 : Int) < 0,
      (0 : Int) ≤ a2,
      (a2 : Int) < ((List.map E43 v8).length : Int),
      look [] a2.toNat = none,
      (List.map E43 v8)[a2.toNat]? = some (E43 x5),
      look [(a2.toNat, V.agg [V.sc (.string x5.Id), V.sc (.int .i64 x5.Limit), V.sc (.int .i64 x5.Posted), V.sc (.int .i64 x5.Most), V.sc (.int .i64 x5.MostSum), V.ow 1, V.sc (.int .i64 x5.Ring.Span), V.sc (.int .i64 x5.Ring.Head), V.ow 2, V.ow 3, V.ow 4])] a2.toNat = some (V.agg [V.sc (.string x5.Id), V.sc (.int .i64 x5.Limit), V.sc (.int .i64 x5.Posted), V.sc (.int .i64 x5.Most), V.sc (.int .i64 x5.MostSum), V.ow 1, V.sc (.int .i64 x5.Ring.Span), V.sc (.int .i64 x5.Ring.Head), V.ow 2, V.ow 3, V.ow 4]),
      a2.toNat < (List.map E43 v8).length,
      (0 : Int) ≤ (i64 (bshr .u64 (u64 (i64 (v6 + v7))) 1)),
      ((i64 (bshr .u64 (u64 (i64 (v6 + v7))) 1)) : Int) < ((List.map E43 v8).length : Int),
      look [(a2.toNat, V.agg [V.sc (.string x5.Id), V.sc (.int .i64 x5.Limit), V.sc (.int .i64 x5.Posted), V.sc (.int .i64 x5.Most), V.sc (.int .i64 x5.MostSum), V.ow 1, V.sc (.int .i64 x5.Ring.Span), V.sc (.int .i64 x5.Ring.Head), V.ow 2, V.ow 3, V.ow 4])] ((i64 (bshr .u64 (u64 (i64 (v6 + v7))) 1)).toNat) = none,
      (List.map E43 v8)[(i64 (bshr .u64 (u64 (i64 (v6 + v7))) 1)).toNat]? = some (E43 x6),
      look [((i64 (bshr .u64 (u64 (i64 (v6 + v7))) 1)).toNat, V.agg [V.sc (.string x6.Id), V.sc (.int .i64 x6.Limit), V.sc (.int .i64 x6.Posted), V.sc (.int .i64 x6.Most), V.sc (.int .i64 x6.MostSum), V.ow 5, V.sc (.int .i64 x6.Ring.Span), V.sc (.int .i64 x6.Ring.Head), V.ow 6, V.ow 7, V.ow 8]), (a2.toNat, V.agg [V.sc (.string x5.Id), V.sc (.int .i64 x5.Limit), V.sc (.int .i64 x5.Posted), V.sc (.int .i64 x5.Most), V.sc (.int .i64 x5.MostSum), V.ow 1, V.sc (.int .i64 x5.Ring.Span), V.sc (.int .i64 x5.Ring.Head), V.ow 2, V.ow 3, V.ow 4])] ((i64 (bshr .u64 (u64 (i64 (v6 + v7))) 1)).toNat) = some (V.agg [V.sc (.string x6.Id), V.sc (.int .i64 x6.Limit), V.sc (.int .i64 x6.Posted), V.sc (.int .i64 x6.Most), V.sc (.int .i64 x6.MostSum), V.ow 5, V.sc (.int .i64 x6.Ring.Span), V.sc (.int .i64 x6.Ring.Head), V.ow 6, V.ow 7, V.ow 8]),
      ((i64 (bshr .u64 (u64 (i64 (v6 + v7))) 1)).toNat) < (List.map E43 v8).length,
      Fn Tryz.prog 29 [(false, E43 x5), (false, E43 x6)] (E3 r8) [],
      (false || ((E3 r8).nv && nvL [])) = true,
      (!(decide (r8 < 0))) = true,
      Blk.row 43 (((List.map E43 v8).set a2.toNat (V.agg [V.sc (.string x5.Id), V.sc (.int .i64 x5.Limit), V.sc (.int .i64 x5.Posted), V.sc (.int .i64 x5.Most), V.sc (.int .i64 x5.MostSum), V.sl true 85 (List.map E85 x5.Holds), V.sc (.int .i64 x5.Ring.Span), V.sc (.int .i64 x5.Ring.Head), V.sl true 3 (List.map E3 x5.Ring.Counts), V.sl true 3 (List.map E3 x5.Ring.Sums), V.sl true 89 (List.map E89 x5.Slots)])).set ((i64 (bshr .u64 (u64 (i64 (v6 + v7))) 1)).toNat) (V.agg [V.sc (.string x6.Id), V.sc (.int .i64 x6.Limit), V.sc (.int .i64 x6.Posted), V.sc (.int .i64 x6.Most), V.sc (.int .i64 x6.MostSum), V.sl true 85 (List.map E85 x6.Holds), V.sc (.int .i64 x6.Ring.Span), V.sc (.int .i64 x6.Ring.Head), V.sl true 3 (List.map E3 x6.Ring.Counts), V.sl true 3 (List.map E3 x6.Ring.Sums), V.sl true 89 (List.map E89 x6.Slots)])) [] = Blk.row 43 (List.map E43 ((v8.set a2.toNat x5).set ((i64 (bshr .u64 (u64 (i64 (v6 + v7))) 1)).toNat) x6)) []]) (by kernel_rfl) (cj ((slices_symMergeCmpFunc_impl_Acct_impl_Gather_1_c7_ok a2 v6 v7 v8 r7 h29).at h30) (cj (by decide) (cj (od h32) (cj (map_ltN (od h32) h33) (cj rfl (cj (map_get h33) (cj (look_cons_self _ _ _) (cj (map_lt h33) (cj (od h34) (cj (map_ltN (od h34) h35) (cj ((look_cons_ne _ _ (od h36)).trans rfl) (cj (map_get h35) (cj (look_cons_self _ _ _) (cj (map_lt h35) (cj (impl_Gather_1_ok x5 x6 r8 h37) (cj (by simp [V.nv, nvL, nvL_all, nv_E3]) (cj (nt h38) (cj1 (nb_set2 E43 _ _ x5 _ x6))))))))))))))))))) (slices_symMergeCmpFunc_impl_Acct_impl_Gather_1_l2_ok a2 fuel (i64 ((i64 (bshr .u64 (u64 (i64 (v6 + v7))) 1)) + 1)) v7 ((v8.set a2.toNat x5).set ((i64 (bshr .u64 (u64 (i64 (v6 + v7))) 1)).toNat) x6))))) (fun h36 =>
     Pn.none))) (fun h34 =>
     Pn.none))) (fun h32 =>
     Pn.none)) (fun s8 h31 =>
     Pn.some (LpO.out [.wait 1, .mask [0, 2, 4, 14, 15], .ren [0], .join 5 (X.out 4) (st 220 [(0, V.ow 0), (2, V.sc (.int .i64 a2)), (14, V.sc (.int .i64 v6))] [Blk.row 43 (List.map E43 v8) []] [some 0]), .wait 1, .mask [0, 2, 14], .ren [0]] (p := [HT Tryz.prog (sub (codeOf Tryz.prog 75) [1, 0, 1, 0, 1, 1, 0, 0, 0, 0]) (st 220 [(0, V.ow 0), (2, V.sc (.int .i64 a2)), (4, V.fn 29 []), (14, V.sc (.int .i64 v6)), (15, V.sc (.int .i64 v7))] [Blk.row 43 (List.map E43 v8) []] [some 0]) (X.out 4) (st 220 [(0, V.ow 0), (2, V.sc (.int .i64 a2)), (14, V.sc (.int .i64 v6))] [Blk.row 43 (List.map E43 v8) []] [some 0])]) (by kernel_rfl) (show X.out 4 ≠ X.go from nofun) (cj1 ((slices_symMergeCmpFunc_impl_Acct_impl_Gather_1_c7_ok a2 v6 v7 v8 r7 h29).at h31)))))
def slices_symMergeCmpFunc_impl_Acct_impl_Gather_1_c9 (r9 : Int × (List Acct)) (v9 : Int) (v10 : List Acct) : Option (Lo Unit Unit) :=
 if (decide (r9.1 < v9)) = true then
 some (.out ())
 else
 some (.ret ())
theorem slices_symMergeCmpFunc_impl_Acct_impl_Gather_1_c9_ok (r9 : Int × (List Acct)) (v9 : Int) (v10 : List Acct) : Pn (JnO Tryz.prog (sub (codeOf Tryz.prog 75) [1, 0, 1, 0, 1, 1, 1, 0, 1, 0, 0, 0]) (st 220 [(0, V.ow 0), (14, V.sc (.int .i64 r9.1)), (17, V.sc (.int .i64 v9))] [Blk.row 43 (List.map E43 v10) []] [some 0]) (fun (y : Lo Unit Unit) => Lo.elim y (fun s => (X.go, st 220 [(0, V.ow 0), (14, V.sc (.int .i64 r9.1)), (17, V.sc (.int .i64 v9))] [Blk.row 43 (List.map E43 v10) []] [some 0])) (fun s => (X.out 6, st 220 [] [Blk.row 43 (List.map E43 v10) []] [some 0])))) (slices_symMergeCmpFunc_impl_Acct_impl_Gather_1_c9 r9 v9 v10) := by
  unfold slices_symMergeCmpFunc_impl_Acct_impl_Gather_1_c9
  exact
   Pn.ite (fun h40 =>
   Pn.some (JnO.of [.bit true, .mask [0, 14, 17], .ren [0]] (p := [(decide (r9.1 < v9)) = true]) (by kernel_rfl) (cj1 h40))) (fun h40 =>
   Pn.some (JnO.of [.bit false, .mask [], .ren [0]] (p := [(decide (r9.1 < v9)) = false]) (by kernel_rfl) (cj1 h40)))
def slices_symMergeCmpFunc_impl_Acct_impl_Gather_1_l3 (r9 : Int × (List Acct)) : Nat → Int → (List Acct) → Option ((List Acct))
  | 0, _, _ => none
  | fuel + 1, v9, v10 =>
   (slices_symMergeCmpFunc_impl_Acct_impl_Gather_1_c9 r9 v9 v10).bind fun r10 =>
   Lo.elim r10 (fun s9 =>
   if (decide (0 ≤ (i64 (v9 - 1)))) = true then
   (v10[(i64 (v9 - 1)).toNat]?).bind fun x7 =>
   if (decide (0 ≤ v9)) = true then
   (v10[v9.toNat]?).bind fun x8 =>
   if (decide (¬ v9.toNat = ((i64 (v9 - 1)).toNat))) = true then
   slices_symMergeCmpFunc_impl_Acct_impl_Gather_1_l3 r9 fuel (i64 (v9 - 1)) ((v10.set v9.toNat x7).set ((i64 (v9 - 1)).toNat) x8)
   else none
   else none
   else none) (fun s10 =>
   some v10)
theorem slices_symMergeCmpFunc_impl_Acct_impl_Gather_1_l3_ok (r9 : Int × (List Acct)) : ∀ (fuel : Nat) (v9 : Int) (v10 : List Acct), Pn (LpO Tryz.prog (sub (codeOf Tryz.prog 75) [1, 0, 1, 0, 1, 1, 1, 0, 1, 0, 0]) (st 220 [(0, V.ow 0), (14, V.sc (.int .i64 r9.1)), (17, V.sc (.int .i64 v9))] [Blk.row 43 (List.map E43 v10) []] [some 0]) (fun (y : (List Acct)) => (X.out 6, st 220 [] [Blk.row 43 (List.map E43 y) []] [some 0]))) (slices_symMergeCmpFunc_impl_Acct_impl_Gather_1_l3 r9 fuel v9 v10)
  | 0, _, _ => Pn.none
  | fuel + 1, v9, v10 => by
    unfold slices_symMergeCmpFunc_impl_Acct_impl_Gather_1_l3
    exact
     Pn.bind (fun r10 h41 =>
     Pn.lo (fun s9 h42 =>
     Pn.ite (fun h44 =>
     Pn.bind (fun x7 h45 =>
     Pn.ite (fun h46 =>
     Pn.bind (fun x8 h47 =>
     Pn.ite (fun h48 =>
     LpO.go [.wait 1, .mask [0, 14, 17], .ren [0], .join 5 (X.go) (st 220 [(0, V.ow 0), (14, V.sc (.int .i64 r9.1)), (17, V.sc (.int .i64 v9))] [Blk.row 43 (List.map E43 v10) []] [some 0]), .draw [15, 17], .wait 5, .foc 0 ((i64 (v9 - 1)).toNat) (E43 x7), .fo 0, .wait 3, .foc 0 v9.toNat (E43 x8), .fo 0, .loop .go ((slices_symMergeCmpFunc_impl_Acct_impl_Gather_1_s4 r9 v9 x7 x8 v10)), .loop .go ((slices_symMergeCmpFunc_impl_Acct_impl_Gather_1_s4 r9 v9 x7 x8 v10)), .loop .go ((slices_symMergeCmpFunc_impl_Acct_impl_Gather_1_s4 r9 v9 x7 x8 v10)), .fo 0, .fo 1, .ren [0, 5, 6, 7, 8, 1, 2, 3, 4], .fo 0, .fo 1, .ren [0, 5, 6, 7, 8, 1, 2, 3, 4], .ren [0, 1, 2, 3, 4, 5, 6, 7, 8], .fo 0, .fo 1, .ren [0, 5, 6, 7, 8, 1, 2, 3, 4], .ren [0, 1, 2, 3, 4, 5, 6, 7, 8], .loop .go ((slices_symMergeCmpFunc_impl_Acct_impl_Gather_1_s4 r9 v9 x7 x8 v10)), .loop .go ((slices_symMergeCmpFunc_impl_Acct_impl_Gather_1_s4 r9 v9 x7 x8 v10)), .fo 0, .fo 1, .ren [0, 5, 6, 7, 8, 1, 2, 3, 4], .fo 0, .fo 1, .ren [0, 5, 6, 7, 8, 1, 2, 3, 4], .ren [0, 1, 2, 3, 4, 5, 6, 7, 8], .loop .go ((slices_symMergeCmpFunc_impl_Acct_impl_Gather_1_s4 r9 v9 x7 x8 v10)), .fo 0, .fo 1, .ren [0, 5, 6, 7, 8, 1, 2, 3, 4], .fo 0, .fo 1, .ren [0, 5, 6, 7, 8, 1, 2, 3, 4], .ren [0, 1, 2, 3, 4, 5, 6, 7, 8], .fo 0, .fo 1, .ren [0, 5, 6, 7, 8, 1, 2, 3, 4], .ren [0, 1, 2, 3, 4, 5, 6, 7, 8], .fo 0, .fo 1, .ren [0, 5, 6, 7, 8, 1, 2, 3, 4], .wait 4, .shut 0, .nb 0 (.row 43 (List.map E43 ((v10.set v9.toNat x7).set ((i64 (v9 - 1)).toNat) x8)) []), .mask [0, 14, 17], .ren [0]] (p := [HT Tryz.prog (sub (codeOf Tryz.prog 75) [1, 0, 1, 0, 1, 1, 1, 0, 1, 0, 0, 0]) (st 220 [(0, V.ow 0), (14, V.sc (.int .i64 r9.1)), (17, V.sc (.int .i64 v9))] [Blk.row 43 (List.map E43 v10) []] [some 0]) (X.go) (st 220 [(0, V.ow 0), (14, V.sc (.int .i64 r9.1)), (17, V.sc (.int .i64 v9))] [Blk.row 43 (List.map E43 v10) []] [some 0]),
      (0 : Int) ≤ (i64 (v9 - 1)),
      ((i64 (v9 - 1)) : Int) < ((List.map E43 v10).length : Int),
      look [] ((i64 (v9 - 1)).toNat) = none,
      (List.map E43 v10)[(i64 (v9 - 1)).toNat]? = some (E43 x7),
      look [((i64 (v9 - 1)).toNat, V.agg [V.sc (.string x7.Id), V.sc (.int .i64 x7.Limit), V.sc (.int .i64 x7.Posted), V.sc (.int .i64 x7.Most), V.sc (.int .i64 x7.MostSum), V.ow 1, V.sc (.int .i64 x7.Ring.Span), V.sc (.int .i64 x7.Ring.Head), V.ow 2, V.ow 3, V.ow 4])] ((i64 (v9 - 1)).toNat) = some (V.agg [V.sc (.string x7.Id), V.sc (.int .i64 x7.Limit), V.sc (.int .i64 x7.Posted), V.sc (.int .i64 x7.Most), V.sc (.int .i64 x7.MostSum), V.ow 1, V.sc (.int .i64 x7.Ring.Span), V.sc (.int .i64 x7.Ring.Head), V.ow 2, V.ow 3, V.ow 4]),
      ((i64 (v9 - 1)).toNat) < (List.map E43 v10).length,
      (0 : Int) ≤ v9,
      (v9 : Int) < ((List.map E43 v10).length : Int),
      look [((i64 (v9 - 1)).toNat, V.agg [V.sc (.string x7.Id), V.sc (.int .i64 x7.Limit), V.sc (.int .i64 x7.Posted), V.sc (.int .i64 x7.Most), V.sc (.int .i64 x7.MostSum), V.ow 1, V.sc (.int .i64 x7.Ring.Span), V.sc (.int .i64 x7.Ring.Head), V.ow 2, V.ow 3, V.ow 4])] v9.toNat = none,
      (List.map E43 v10)[v9.toNat]? = some (E43 x8),
      look [(v9.toNat, V.agg [V.sc (.string x8.Id), V.sc (.int .i64 x8.Limit), V.sc (.int .i64 x8.Posted), V.sc (.int .i64 x8.Most), V.sc (.int .i64 x8.MostSum), V.ow 5, V.sc (.int .i64 x8.Ring.Span), V.sc (.int .i64 x8.Ring.Head), V.ow 6, V.ow 7, V.ow 8]), ((i64 (v9 - 1)).toNat, V.agg [V.sc (.string x7.Id), V.sc (.int .i64 x7.Limit), V.sc (.int .i64 x7.Posted), V.sc (.int .i64 x7.Most), V.sc (.int .i64 x7.MostSum), V.ow 1, V.sc (.int .i64 x7.Ring.Span), V.sc (.int .i64 x7.Ring.Head), V.ow 2, V.ow 3, V.ow 4])] v9.toNat = some (V.agg [V.sc (.string x8.Id), V.sc (.int .i64 x8.Limit), V.sc (.int .i64 x8.Posted), V.sc (.int .i64 x8.Most), V.sc (.int .i64 x8.MostSum), V.ow 5, V.sc (.int .i64 x8.Ring.Span), V.sc (.int .i64 x8.Ring.Head), V.ow 6, V.ow 7, V.ow 8]),
      v9.toNat < (List.map E43 v10).length,
      (0 : Int) ≤ v9,
      (v9 : Int) < ((List.map E43 v10).length : Int),
      look [(v9.toNat, V.agg [V.sc (.string x8.Id), V.sc (.int .i64 x8.Limit), V.sc (.int .i64 x8.Posted), V.sc (.int .i64 x8.Most), V.sc (.int .i64 x8.MostSum), V.ow 5, V.sc (.int .i64 x8.Ring.Span), V.sc (.int .i64 x8.Ring.Head), V.ow 6, V.ow 7, V.ow 8]), ((i64 (v9 - 1)).toNat, V.agg [V.sc (.string x7.Id), V.sc (.int .i64 x7.Limit), V.sc (.int .i64 x7.Posted), V.sc (.int .i64 x7.Most), V.sc (.int .i64 x7.MostSum), V.ow 1, V.sc (.int .i64 x7.Ring.Span), V.sc (.int .i64 x7.Ring.Head), V.ow 2, V.ow 3, V.ow 4])] v9.toNat = some (V.agg [V.sc (.string x8.Id), V.sc (.int .i64 x8.Limit), V.sc (.int .i64 x8.Posted), V.sc (.int .i64 x8.Most), V.sc (.int .i64 x8.MostSum), V.ow 5, V.sc (.int .i64 x8.Ring.Span), V.sc (.int .i64 x8.Ring.Head), V.ow 6, V.ow 7, V.ow 8]),
      v9.toNat < (List.map E43 v10).length,
      v9.toNat = v9.toNat,
      (0 : Int) ≤ (i64 (v9 - 1)),
      ((i64 (v9 - 1)) : Int) < ((List.map E43 v10).length : Int),
      look [(v9.toNat, V.agg [V.sc (.string x7.Id), V.sc (.int .i64 x7.Limit), V.sc (.int .i64 x7.Posted), V.sc (.int .i64 x7.Most), V.sc (.int .i64 x7.MostSum), V.ow 1, V.sc (.int .i64 x7.Ring.Span), V.sc (.int .i64 x7.Ring.Head), V.ow 2, V.ow 3, V.ow 4]), ((i64 (v9 - 1)).toNat, V.agg [V.sc (.string x7.Id), V.sc (.int .i64 x7.Limit), V.sc (.int .i64 x7.Posted), V.sc (.int .i64 x7.Most), V.sc (.int .i64 x7.MostSum), V.ow 1, V.sc (.int .i64 x7.Ring.Span), V.sc (.int .i64 x7.Ring.Head), V.ow 2, V.ow 3, V.ow 4])] ((i64 (v9 - 1)).toNat) = some (V.agg [V.sc (.string x7.Id), V.sc (.int .i64 x7.Limit), V.sc (.int .i64 x7.Posted), V.sc (.int .i64 x7.Most), V.sc (.int .i64 x7.MostSum), V.ow 1, V.sc (.int .i64 x7.Ring.Span), V.sc (.int .i64 x7.Ring.Head), V.ow 2, V.ow 3, V.ow 4]),
      ((i64 (v9 - 1)).toNat) < (List.map E43 v10).length,
      ((i64 (v9 - 1)).toNat) = ((i64 (v9 - 1)).toNat),
      (slices_symMergeCmpFunc_impl_Acct_impl_Gather_1_s4 r9 v9 x7 x8 v10) = (slices_symMergeCmpFunc_impl_Acct_impl_Gather_1_s4 r9 v9 x7 x8 v10),
      look [(v9.toNat, V.agg [V.sc (.string x8.Id), V.sc (.int .i64 x8.Limit), V.sc (.int .i64 x8.Posted), V.sc (.int .i64 x8.Most), V.sc (.int .i64 x8.MostSum), V.ow 5, V.sc (.int .i64 x8.Ring.Span), V.sc (.int .i64 x8.Ring.Head), V.ow 6, V.ow 7, V.ow 8]), ((i64 (v9 - 1)).toNat, V.agg [V.sc (.string x7.Id), V.sc (.int .i64 x7.Limit), V.sc (.int .i64 x7.Posted), V.sc (.int .i64 x7.Most), V.sc (.int .i64 x7.MostSum), V.ow 1, V.sc (.int .i64 x7.Ring.Span), V.sc (.int .i64 x7.Ring.Head), V.ow 2, V.ow 3, V.ow 4])] v9.toNat = some (V.agg [V.sc (.string x8.Id), V.sc (.int .i64 x8.Limit), V.sc (.int .i64 x8.Posted), V.sc (.int .i64 x8.Most), V.sc (.int .i64 x8.MostSum), V.ow 5, V.sc (.int .i64 x8.Ring.Span), V.sc (.int .i64 x8.Ring.Head), V.ow 6, V.ow 7, V.ow 8]),
      v9.toNat < (List.map E43 v10).length,
      v9.toNat = v9.toNat,
      (0 : Int) ≤ (i64 (v9 - 1)),
      ((i64 (v9 - 1)) : Int) < ((List.map E43 v10).length : Int),
      look [(v9.toNat, V.agg [V.sc (.string x7.Id), V.sc (.int .i64 x7.Limit), V.sc (.int .i64 x7.Posted), V.sc (.int .i64 x7.Most), V.sc (.int .i64 x7.MostSum), V.ow 1, V.sc (.int .i64 x7.Ring.Span), V.sc (.int .i64 x7.Ring.Head), V.ow 2, V.ow 3, V.ow 4]), ((i64 (v9 - 1)).toNat, V.agg [V.sc (.string x7.Id), V.sc (.int .i64 x7.Limit), V.sc (.int .i64 x7.Posted), V.sc (.int .i64 x7.Most), V.sc (.int .i64 x7.MostSum), V.ow 1, V.sc (.int .i64 x7.Ring.Span), V.sc (.int .i64 x7.Ring.Head), V.ow 2, V.ow 3, V.ow 4])] ((i64 (v9 - 1)).toNat) = some (V.agg [V.sc (.string x7.Id), V.sc (.int .i64 x7.Limit), V.sc (.int .i64 x7.Posted), V.sc (.int .i64 x7.Most), V.sc (.int .i64 x7.MostSum), V.ow 1, V.sc (.int .i64 x7.Ring.Span), V.sc (.int .i64 x7.Ring.Head), V.ow 2, V.ow 3, V.ow 4]),
      ((i64 (v9 - 1)).toNat) < (List.map E43 v10).length,
      ((i64 (v9 - 1)).toNat) = ((i64 (v9 - 1)).toNat),
      (slices_symMergeCmpFunc_impl_Acct_impl_Gather_1_s4 r9 v9 x7 x8 v10) = (slices_symMergeCmpFunc_impl_Acct_impl_Gather_1_s4 r9 v9 x7 x8 v10),
      (slices_symMergeCmpFunc_impl_Acct_impl_Gather_1_s4 r9 v9 x7 x8 v10) = (slices_symMergeCmpFunc_impl_Acct_impl_Gather_1_s4 r9 v9 x7 x8 v10),
      look [(v9.toNat, V.agg [V.sc (.string x8.Id), V.sc (.int .i64 x8.Limit), V.sc (.int .i64 x8.Posted), V.sc (.int .i64 x8.Most), V.sc (.int .i64 x8.MostSum), V.ow 5, V.sc (.int .i64 x8.Ring.Span), V.sc (.int .i64 x8.Ring.Head), V.ow 6, V.ow 7, V.ow 8]), ((i64 (v9 - 1)).toNat, V.agg [V.sc (.string x7.Id), V.sc (.int .i64 x7.Limit), V.sc (.int .i64 x7.Posted), V.sc (.int .i64 x7.Most), V.sc (.int .i64 x7.MostSum), V.ow 1, V.sc (.int .i64 x7.Ring.Span), V.sc (.int .i64 x7.Ring.Head), V.ow 2, V.ow 3, V.ow 4])] v9.toNat = some (V.agg [V.sc (.string x8.Id), V.sc (.int .i64 x8.Limit), V.sc (.int .i64 x8.Posted), V.sc (.int .i64 x8.Most), V.sc (.int .i64 x8.MostSum), V.ow 5, V.sc (.int .i64 x8.Ring.Span), V.sc (.int .i64 x8.Ring.Head), V.ow 6, V.ow 7, V.ow 8]),
      v9.toNat < (List.map E43 v10).length,
      v9.toNat = v9.toNat,
      (0 : Int) ≤ (i64 (v9 - 1)),
      ((i64 (v9 - 1)) : Int) < ((List.map E43 v10).length : Int),
      look [(v9.toNat, V.agg [V.sc (.string x7.Id), V.sc (.int .i64 x7.Limit), V.sc (.int .i64 x7.Posted), V.sc (.int .i64 x7.Most), V.sc (.int .i64 x7.MostSum), V.ow 1, V.sc (.int .i64 x7.Ring.Span), V.sc (.int .i64 x7.Ring.Head), V.ow 2, V.ow 3, V.ow 4]), ((i64 (v9 - 1)).toNat, V.agg [V.sc (.string x7.Id), V.sc (.int .i64 x7.Limit), V.sc (.int .i64 x7.Posted), V.sc (.int .i64 x7.Most), V.sc (.int .i64 x7.MostSum), V.ow 1, V.sc (.int .i64 x7.Ring.Span), V.sc (.int .i64 x7.Ring.Head), V.ow 2, V.ow 3, V.ow 4])] ((i64 (v9 - 1)).toNat) = some (V.agg [V.sc (.string x7.Id), V.sc (.int .i64 x7.Limit), V.sc (.int .i64 x7.Posted), V.sc (.int .i64 x7.Most), V.sc (.int .i64 x7.MostSum), V.ow 1, V.sc (.int .i64 x7.Ring.Span), V.sc (.int .i64 x7.Ring.Head), V.ow 2, V.ow 3, V.ow 4]),
      ((i64 (v9 - 1)).toNat) < (List.map E43 v10).length,
      ((i64 (v9 - 1)).toNat) = ((i64 (v9 - 1)).toNat),
      (slices_symMergeCmpFunc_impl_Acct_impl_Gather_1_s4 r9 v9 x7 x8 v10) = (slices_symMergeCmpFunc_impl_Acct_impl_Gather_1_s4 r9 v9 x7 x8 v10),
      (slices_symMergeCmpFunc_impl_Acct_impl_Gather_1_s4 r9 v9 x7 x8 v10) = (slices_symMergeCmpFunc_impl_Acct_impl_Gather_1_s4 r9 v9 x7 x8 v10),
      look [(v9.toNat, V.agg [V.sc (.string x8.Id), V.sc (.int .i64 x8.Limit), V.sc (.int .i64 x8.Posted), V.sc (.int .i64 x8.Most), V.sc (.int .i64 x8.MostSum), V.ow 5, V.sc (.int .i64 x8.Ring.Span), V.sc (.int .i64 x8.Ring.Head), V.ow 6, V.ow 7, V.ow 8]), ((i64 (v9 - 1)).toNat, V.agg [V.sc (.string x7.Id), V.sc (.int .i64 x7.Limit), V.sc (.int .i64 x7.Posted), V.sc (.int .i64 x7.Most), V.sc (.int .i64 x7.MostSum), V.ow 1, V.sc (.int .i64 x7.Ring.Span), V.sc (.int .i64 x7.Ring.Head), V.ow 2, V.ow 3, V.ow 4])] v9.toNat = some (V.agg [V.sc (.string x8.Id), V.sc (.int .i64 x8.Limit), V.sc (.int .i64 x8.Posted), V.sc (.int .i64 x8.Most), V.sc (.int .i64 x8.MostSum), V.ow 5, V.sc (.int .i64 x8.Ring.Span), V.sc (.int .i64 x8.Ring.Head), V.ow 6, V.ow 7, V.ow 8]),
      v9.toNat < (List.map E43 v10).length,
      v9.toNat = v9.toNat,
      (0 : Int) ≤ (i64 (v9 - 1)),
      ((i64 (v9 - 1)) : Int) < ((List.map E43 v10).length : Int),
      look [(v9.toNat, V.agg [V.sc (.string x7.Id), V.sc (.int .i64 x7.Limit), V.sc (.int .i64 x7.Posted), V.sc (.int .i64 x7.Most), V.sc (.int .i64 x7.MostSum), V.ow 1, V.sc (.int .i64 x7.Ring.Span), V.sc (.int .i64 x7.Ring.Head), V.ow 2, V.ow 3, V.ow 4]), ((i64 (v9 - 1)).toNat, V.agg [V.sc (.string x7.Id), V.sc (.int .i64 x7.Limit), V.sc (.int .i64 x7.Posted), V.sc (.int .i64 x7.Most), V.sc (.int .i64 x7.MostSum), V.ow 1, V.sc (.int .i64 x7.Ring.Span), V.sc (.int .i64 x7.Ring.Head), V.ow 2, V.ow 3, V.ow 4])] ((i64 (v9 - 1)).toNat) = some (V.agg [V.sc (.string x7.Id), V.sc (.int .i64 x7.Limit), V.sc (.int .i64 x7.Posted), V.sc (.int .i64 x7.Most), V.sc (.int .i64 x7.MostSum), V.ow 1, V.sc (.int .i64 x7.Ring.Span), V.sc (.int .i64 x7.Ring.Head), V.ow 2, V.ow 3, V.ow 4]),
      ((i64 (v9 - 1)).toNat) < (List.map E43 v10).length,
      ((i64 (v9 - 1)).toNat) = ((i64 (v9 - 1)).toNat),
      (slices_symMergeCmpFunc_impl_Acct_impl_Gather_1_s4 r9 v9 x7 x8 v10) = (slices_symMergeCmpFunc_impl_Acct_impl_Gather_1_s4 r9 v9 x7 x8 v10),
      look [(v9.toNat, V.agg [V.sc (.string x8.Id), V.sc (.int .i64 x8.Limit), V.sc (.int .i64 x8.Posted), V.sc (.int .i64 x8.Most), V.sc (.int .i64 x8.MostSum), V.ow 5, V.sc (.int .i64 x8.Ring.Span), V.sc (.int .i64 x8.Ring.Head), V.ow 6, V.ow 7, V.ow 8]), ((i64 (v9 - 1)).toNat, V.agg [V.sc (.string x7.Id), V.sc (.int .i64 x7.Limit), V.sc (.int .i64 x7.Posted), V.sc (.int .i64 x7.Most), V.sc (.int .i64 x7.MostSum), V.ow 1, V.sc (.int .i64 x7.Ring.Span), V.sc (.int .i64 x7.Ring.Head), V.ow 2, V.ow 3, V.ow 4])] v9.toNat = some (V.agg [V.sc (.string x8.Id), V.sc (.int .i64 x8.Limit), V.sc (.int .i64 x8.Posted), V.sc (.int .i64 x8.Most), V.sc (.int .i64 x8.MostSum), V.ow 5, V.sc (.int .i64 x8.Ring.Span), V.sc (.int .i64 x8.Ring.Head), V.ow 6, V.ow 7, V.ow 8]),
      v9.toNat < (List.map E43 v10).length,
      v9.toNat = v9.toNat,
      (0 : Int) ≤ (i64 (v9 - 1)),
      ((i64 (v9 - 1)) : Int) < ((List.map E43 v10).length : Int),
      look [(v9.toNat, V.agg [V.sc (.string x7.Id), V.sc (.int .i64 x7.Limit), V.sc (.int .i64 x7.Posted), V.sc (.int .i64 x7.Most), V.sc (.int .i64 x7.MostSum), V.ow 1, V.sc (.int .i64 x7.Ring.Span), V.sc (.int .i64 x7.Ring.Head), V.ow 2, V.ow 3, V.ow 4]), ((i64 (v9 - 1)).toNat, V.agg [V.sc (.string x7.Id), V.sc (.int .i64 x7.Limit), V.sc (.int .i64 x7.Posted), V.sc (.int .i64 x7.Most), V.sc (.int .i64 x7.MostSum), V.ow 1, V.sc (.int .i64 x7.Ring.Span), V.sc (.int .i64 x7.Ring.Head), V.ow 2, V.ow 3, V.ow 4])] ((i64 (v9 - 1)).toNat) = some (V.agg [V.sc (.string x7.Id), V.sc (.int .i64 x7.Limit), V.sc (.int .i64 x7.Posted), V.sc (.int .i64 x7.Most), V.sc (.int .i64 x7.MostSum), V.ow 1, V.sc (.int .i64 x7.Ring.Span), V.sc (.int .i64 x7.Ring.Head), V.ow 2, V.ow 3, V.ow 4]),
      ((i64 (v9 - 1)).toNat) < (List.map E43 v10).length,
      ((i64 (v9 - 1)).toNat) = ((i64 (v9 - 1)).toNat),
      (slices_symMergeCmpFunc_impl_Acct_impl_Gather_1_s4 r9 v9 x7 x8 v10) = (slices_symMergeCmpFunc_impl_Acct_impl_Gather_1_s4 r9 v9 x7 x8 v10),
      (slices_symMergeCmpFunc_impl_Acct_impl_Gather_1_s4 r9 v9 x7 x8 v10) = (slices_symMergeCmpFunc_impl_Acct_impl_Gather_1_s4 r9 v9 x7 x8 v10),
      look [(v9.toNat, V.agg [V.sc (.string x8.Id), V.sc (.int .i64 x8.Limit), V.sc (.int .i64 x8.Posted), V.sc (.int .i64 x8.Most), V.sc (.int .i64 x8.MostSum), V.ow 5, V.sc (.int .i64 x8.Ring.Span), V.sc (.int .i64 x8.Ring.Head), V.ow 6, V.ow 7, V.ow 8]), ((i64 (v9 - 1)).toNat, V.agg [V.sc (.string x7.Id), V.sc (.int .i64 x7.Limit), V.sc (.int .i64 x7.Posted), V.sc (.int .i64 x7.Most), V.sc (.int .i64 x7.MostSum), V.ow 1, V.sc (.int .i64 x7.Ring.Span), V.sc (.int .i64 x7.Ring.Head), V.ow 2, V.ow 3, V.ow 4])] v9.toNat = some (V.agg [V.sc (.string x8.Id), V.sc (.int .i64 x8.Limit), V.sc (.int .i64 x8.Posted), V.sc (.int .i64 x8.Most), V.sc (.int .i64 x8.MostSum), V.ow 5, V.sc (.int .i64 x8.Ring.Span), V.sc (.int .i64 x8.Ring.Head), V.ow 6, V.ow 7, V.ow 8]),
      v9.toNat < (List.map E43 v10).length,
      v9.toNat = v9.toNat,
      (0 : Int) ≤ (i64 (v9 - 1)),
      ((i64 (v9 - 1)) : Int) < ((List.map E43 v10).length : Int),
      look [(v9.toNat, V.agg [V.sc (.string x7.Id), V.sc (.int .i64 x7.Limit), V.sc (.int .i64 x7.Posted), V.sc (.int .i64 x7.Most), V.sc (.int .i64 x7.MostSum), V.ow 1, V.sc (.int .i64 x7.Ring.Span), V.sc (.int .i64 x7.Ring.Head), V.ow 2, V.ow 3, V.ow 4]), ((i64 (v9 - 1)).toNat, V.agg [V.sc (.string x7.Id), V.sc (.int .i64 x7.Limit), V.sc (.int .i64 x7.Posted), V.sc (.int .i64 x7.Most), V.sc (.int .i64 x7.MostSum), V.ow 1, V.sc (.int .i64 x7.Ring.Span), V.sc (.int .i64 x7.Ring.Head), V.ow 2, V.ow 3, V.ow 4])] ((i64 (v9 - 1)).toNat) = some (V.agg [V.sc (.string x7.Id), V.sc (.int .i64 x7.Limit), V.sc (.int .i64 x7.Posted), V.sc (.int .i64 x7.Most), V.sc (.int .i64 x7.MostSum), V.ow 1, V.sc (.int .i64 x7.Ring.Span), V.sc (.int .i64 x7.Ring.Head), V.ow 2, V.ow 3, V.ow 4]),
      ((i64 (v9 - 1)).toNat) < (List.map E43 v10).length,
      ((i64 (v9 - 1)).toNat) = ((i64 (v9 - 1)).toNat),
      (slices_symMergeCmpFunc_impl_Acct_impl_Gather_1_s4 r9 v9 x7 x8 v10) = (slices_symMergeCmpFunc_impl_Acct_impl_Gather_1_s4 r9 v9 x7 x8 v10),
      look [(v9.toNat, V.agg [V.sc (.string x8.Id), V.sc (.int .i64 x8.Limit), V.sc (.int .i64 x8.Posted), V.sc (.int .i64 x8.Most), V.sc (.int .i64 x8.MostSum), V.ow 5, V.sc (.int .i64 x8.Ring.Span), V.sc (.int .i64 x8.Ring.Head), V.ow 6, V.ow 7, V.ow 8]), ((i64 (v9 - 1)).toNat, V.agg [V.sc (.string x7.Id), V.sc (.int .i64 x7.Limit), V.sc (.int .i64 x7.Posted), V.sc (.int .i64 x7.Most), V.sc (.int .i64 x7.MostSum), V.ow 1, V.sc (.int .i64 x7.Ring.Span), V.sc (.int .i64 x7.Ring.Head), V.ow 2, V.ow 3, V.ow 4])] v9.toNat = some (V.agg [V.sc (.string x8.Id), V.sc (.int .i64 x8.Limit), V.sc (.int .i64 x8.Posted), V.sc (.int .i64 x8.Most), V.sc (.int .i64 x8.MostSum), V.ow 5, V.sc (.int .i64 x8.Ring.Span), V.sc (.int .i64 x8.Ring.Head), V.ow 6, V.ow 7, V.ow 8]),
      v9.toNat < (List.map E43 v10).length,
      v9.toNat = v9.toNat,
      (0 : Int) ≤ (i64 (v9 - 1)),
      ((i64 (v9 - 1)) : Int) < ((List.map E43 v10).length : Int),
      look [(v9.toNat, V.agg [V.sc (.string x7.Id), V.sc (.int .i64 x7.Limit), V.sc (.int .i64 x7.Posted), V.sc (.int .i64 x7.Most), V.sc (.int .i64 x7.MostSum), V.ow 1, V.sc (.int .i64 x7.Ring.Span), V.sc (.int .i64 x7.Ring.Head), V.ow 2, V.ow 3, V.ow 4]), ((i64 (v9 - 1)).toNat, V.agg [V.sc (.string x7.Id), V.sc (.int .i64 x7.Limit), V.sc (.int .i64 x7.Posted), V.sc (.int .i64 x7.Most), V.sc (.int .i64 x7.MostSum), V.ow 1, V.sc (.int .i64 x7.Ring.Span), V.sc (.int .i64 x7.Ring.Head), V.ow 2, V.ow 3, V.ow 4])] ((i64 (v9 - 1)).toNat) = some (V.agg [V.sc (.string x7.Id), V.sc (.int .i64 x7.Limit), V.sc (.int .i64 x7.Posted), V.sc (.int .i64 x7.Most), V.sc (.int .i64 x7.MostSum), V.ow 1, V.sc (.int .i64 x7.Ring.Span), V.sc (.int .i64 x7.Ring.Head), V.ow 2, V.ow 3, V.ow 4]),
      ((i64 (v9 - 1)).toNat) < (List.map E43 v10).length,
      ((i64 (v9 - 1)).toNat) = ((i64 (v9 - 1)).toNat),
      (slices_symMergeCmpFunc_impl_Acct_impl_Gather_1_s4 r9 v9 x7 x8 v10) = (slices_symMergeCmpFunc_impl_Acct_impl_Gather_1_s4 r9 v9 x7 x8 v10),
      (slices_symMergeCmpFunc_impl_Acct_impl_Gather_1_s4 r9 v9 x7 x8 v10) = (slices_symMergeCmpFunc_impl_Acct_impl_Gather_1_s4 r9 v9 x7 x8 v10),
      look [(v9.toNat, V.agg [V.sc (.string x8.Id), V.sc (.int .i64 x8.Limit), V.sc (.int .i64 x8.Posted), V.sc (.int .i64 x8.Most), V.sc (.int .i64 x8.MostSum), V.ow 5, V.sc (.int .i64 x8.Ring.Span), V.sc (.int .i64 x8.Ring.Head), V.ow 6, V.ow 7, V.ow 8]), ((i64 (v9 - 1)).toNat, V.agg [V.sc (.string x7.Id), V.sc (.int .i64 x7.Limit), V.sc (.int .i64 x7.Posted), V.sc (.int .i64 x7.Most), V.sc (.int .i64 x7.MostSum), V.ow 1, V.sc (.int .i64 x7.Ring.Span), V.sc (.int .i64 x7.Ring.Head), V.ow 2, V.ow 3, V.ow 4])] v9.toNat = some (V.agg [V.sc (.string x8.Id), V.sc (.int .i64 x8.Limit), V.sc (.int .i64 x8.Posted), V.sc (.int .i64 x8.Most), V.sc (.int .i64 x8.MostSum), V.ow 5, V.sc (.int .i64 x8.Ring.Span), V.sc (.int .i64 x8.Ring.Head), V.ow 6, V.ow 7, V.ow 8]),
      v9.toNat < (List.map E43 v10).length,
      v9.toNat = v9.toNat,
      (0 : Int) ≤ (i64 (v9 - 1)),
      ((i64 (v9 - 1)) : Int) < ((List.map E43 v10).length : Int),
      look [(v9.toNat, V.agg [V.sc (.string x7.Id), V.sc (.int .i64 x7.Limit), V.sc (.int .i64 x7.Posted), V.sc (.int .i64 x7.Most), V.sc (.int .i64 x7.MostSum), V.ow 1, V.sc (.int .i64 x7.Ring.Span), V.sc (.int .i64 x7.Ring.Head), V.ow 2, V.ow 3, V.ow 4]), ((i64 (v9 - 1)).toNat, V.agg [V.sc (.string x7.Id), V.sc (.int .i64 x7.Limit), V.sc (.int .i64 x7.Posted), V.sc (.int .i64 x7.Most), V.sc (.int .i64 x7.MostSum), V.ow 1, V.sc (.int .i64 x7.Ring.Span), V.sc (.int .i64 x7.Ring.Head), V.ow 2, V.ow 3, V.ow 4])] ((i64 (v9 - 1)).toNat) = some (V.agg [V.sc (.string x7.Id), V.sc (.int .i64 x7.Limit), V.sc (.int .i64 x7.Posted), V.sc (.int .i64 x7.Most), V.sc (.int .i64 x7.MostSum), V.ow 1, V.sc (.int .i64 x7.Ring.Span), V.sc (.int .i64 x7.Ring.Head), V.ow 2, V.ow 3, V.ow 4]),
      ((i64 (v9 - 1)).toNat) < (List.map E43 v10).length,
      ((i64 (v9 - 1)).toNat) = ((i64 (v9 - 1)).toNat),
      (slices_symMergeCmpFunc_impl_Acct_impl_Gather_1_s4 r9 v9 x7 x8 v10) = (slices_symMergeCmpFunc_impl_Acct_impl_Gather_1_s4 r9 v9 x7 x8 v10),
      (slices_symMergeCmpFunc_impl_Acct_impl_Gather_1_s4 r9 v9 x7 x8 v10) = (slices_symMergeCmpFunc_impl_Acct_impl_Gather_1_s4 r9 v9 x7 x8 v10),
      look [(v9.toNat, V.agg [V.sc (.string x8.Id), V.sc (.int .i64 x8.Limit), V.sc (.int .i64 x8.Posted), V.sc (.int .i64 x8.Most), V.sc (.int .i64 x8.MostSum), V.ow 5, V.sc (.int .i64 x8.Ring.Span), V.sc (.int .i64 x8.Ring.Head), V.ow 6, V.ow 7, V.ow 8]), ((i64 (v9 - 1)).toNat, V.agg [V.sc (.string x7.Id), V.sc (.int .i64 x7.Limit), V.sc (.int .i64 x7.Posted), V.sc (.int .i64 x7.Most), V.sc (.int .i64 x7.MostSum), V.ow 1, V.sc (.int .i64 x7.Ring.Span), V.sc (.int .i64 x7.Ring.Head), V.ow 2, V.ow 3, V.ow 4])] v9.toNat = some (V.agg [V.sc (.string x8.Id), V.sc (.int .i64 x8.Limit), V.sc (.int .i64 x8.Posted), V.sc (.int .i64 x8.Most), V.sc (.int .i64 x8.MostSum), V.ow 5, V.sc (.int .i64 x8.Ring.Span), V.sc (.int .i64 x8.Ring.Head), V.ow 6, V.ow 7, V.ow 8]),
      v9.toNat < (List.map E43 v10).length,
      v9.toNat = v9.toNat,
      (0 : Int) ≤ (i64 (v9 - 1)),
      ((i64 (v9 - 1)) : Int) < ((List.map E43 v10).length : Int),
      look [(v9.toNat, V.agg [V.sc (.string x7.Id), V.sc (.int .i64 x7.Limit), V.sc (.int .i64 x7.Posted), V.sc (.int .i64 x7.Most), V.sc (.int .i64 x7.MostSum), V.ow 1, V.sc (.int .i64 x7.Ring.Span), V.sc (.int .i64 x7.Ring.Head), V.ow 2, V.ow 3, V.ow 4]), ((i64 (v9 - 1)).toNat, V.agg [V.sc (.string x7.Id), V.sc (.int .i64 x7.Limit), V.sc (.int .i64 x7.Posted), V.sc (.int .i64 x7.Most), V.sc (.int .i64 x7.MostSum), V.ow 1, V.sc (.int .i64 x7.Ring.Span), V.sc (.int .i64 x7.Ring.Head), V.ow 2, V.ow 3, V.ow 4])] ((i64 (v9 - 1)).toNat) = some (V.agg [V.sc (.string x7.Id), V.sc (.int .i64 x7.Limit), V.sc (.int .i64 x7.Posted), V.sc (.int .i64 x7.Most), V.sc (.int .i64 x7.MostSum), V.ow 1, V.sc (.int .i64 x7.Ring.Span), V.sc (.int .i64 x7.Ring.Head), V.ow 2, V.ow 3, V.ow 4]),
      ((i64 (v9 - 1)).toNat) < (List.map E43 v10).length,
      ((i64 (v9 - 1)).toNat) = ((i64 (v9 - 1)).toNat),
      (slices_symMergeCmpFunc_impl_Acct_impl_Gather_1_s4 r9 v9 x7 x8 v10) = (slices_symMergeCmpFunc_impl_Acct_impl_Gather_1_s4 r9 v9 x7 x8 v10),
      Blk.row 43 (((List.map E43 v10).set v9.toNat (V.agg [V.sc (.string x7.Id), V.sc (.int .i64 x7.Limit), V.sc (.int .i64 x7.Posted), V.sc (.int .i64 x7.Most), V.sc (.int .i64 x7.MostSum), V.sl true 85 (List.map E85 x7.Holds), V.sc (.int .i64 x7.Ring.Span), V.sc (.int .i64 x7.Ring.Head), V.sl true 3 (List.map E3 x7.Ring.Counts), V.sl true 3 (List.map E3 x7.Ring.Sums), V.sl true 89 (List.map E89 x7.Slots)])).set ((i64 (v9 - 1)).toNat) (V.agg [V.sc (.string x8.Id), V.sc (.int .i64 x8.Limit), V.sc (.int .i64 x8.Posted), V.sc (.int .i64 x8.Most), V.sc (.int .i64 x8.MostSum), V.sl true 85 (List.map E85 x8.Holds), V.sc (.int .i64 x8.Ring.Span), V.sc (.int .i64 x8.Ring.Head), V.sl true 3 (List.map E3 x8.Ring.Counts), V.sl true 3 (List.map E3 x8.Ring.Sums), V.sl true 89 (List.map E89 x8.Slots)])) [] = Blk.row 43 (List.map E43 ((v10.set v9.toNat x7).set ((i64 (v9 - 1)).toNat) x8)) []]) (by kernel_rfl) (cj ((slices_symMergeCmpFunc_impl_Acct_impl_Gather_1_c9_ok r9 v9 v10 r10 h41).at h42) (cj (od h44) (cj (map_ltN (od h44) h45) (cj rfl (cj (map_get h45) (cj (look_cons_self _ _ _) (cj (map_lt h45) (cj (od h46) (cj (map_ltN (od h46) h47) (cj ((look_cons_ne _ _ (od h48)).trans rfl) (cj (map_get h47) (cj (look_cons_self _ _ _) (cj (map_lt h47) (cj (od h46) (cj (map_ltN (od h46) h47) (cj (look_cons_self _ _ _) (cj (map_lt h47) (cj rfl (cj (od h44) (cj (map_ltN (od h44) h45) (cj ((look_cons_ne _ _ (fun z => od h48 z.symm)).trans (look_cons_self _ _ _)) (cj (map_lt h45) (cj rfl (cj rfl (cj (look_cons_self _ _ _) (cj (map_lt h47) (cj rfl (cj (od h44) (cj (map_ltN (od h44) h45) (cj ((look_cons_ne _ _ (fun z => od h48 z.symm)).trans (look_cons_self _ _ _)) (cj (map_lt h45) (cj rfl (cj rfl (cj rfl (cj (look_cons_self _ _ _) (cj (map_lt h47) (cj rfl (cj (od h44) (cj (map_ltN (od h44) h45) (cj ((look_cons_ne _ _ (fun z => od h48 z.symm)).trans (look_cons_self _ _ _)) (cj (map_lt h45) (cj rfl (cj rfl (cj rfl (cj (look_cons_self _ _ _) (cj (map_lt h47) (cj rfl (cj (od h44) (cj (map_ltN (od h44) h45) (cj ((look_cons_ne _ _ (fun z => od h48 z.symm)).trans (look_cons_self _ _ _)) (cj (map_lt h45) (cj rfl (cj rfl (cj (look_cons_self _ _ _) (cj (map_lt h47) (cj rfl (cj (od h44) (cj (map_ltN (od h44) h45) (cj ((look_cons_ne _ _ (fun z => od h48 z.symm)).trans (look_cons_self _ _ _)) (cj (map_lt h45) (cj rfl (cj rfl (cj rfl (cj (look_cons_self _ _ _) (cj (map_lt h47) (cj rfl (cj (od h44) (cj (map_ltN (od h44) h45) (cj ((look_cons_ne _ _ (fun z => od h48 z.symm)).trans (look_cons_self _ _ _)) (cj (map_lt h45) (cj rfl (cj rfl (cj (look_cons_self _ _ _) (cj (map_lt h47) (cj rfl (cj (od h44) (cj (map_ltN (od h44) h45) (cj ((look_cons_ne _ _ (fun z => od h48 z.symm)).trans (look_cons_self _ _ _)) (cj (map_lt h45) (cj rfl (cj rfl (cj rfl (cj (look_cons_self _ _ _) (cj (map_lt h47) (cj rfl (cj (od h44) (cj (map_ltN (od h44) h45) (cj ((look_cons_ne _ _ (fun z => od h48 z.symm)).trans (look_cons_self _ _ _)) (cj (map_lt h45) (cj rfl (cj rfl (cj rfl (cj (look_cons_self _ _ _) (cj (map_lt h47) (cj rfl (cj (od h44) (cj (map_ltN (od h44) h45) (cj ((look_cons_ne _ _ (fun z => od h48 z.symm)).trans (look_cons_self _ _ _)) (cj (map_lt h45) (cj rfl (cj rfl (cj1 (nb_set2 E43 _ _ x7 _ x8))))))))))))))))))))))))))))))))))))))))))))))))))))))))))))))))))))))))))))))))))))))))))))))))))))))) (slices_symMergeCmpFunc_impl_Acct_impl_Gather_1_l3_ok r9 fuel (i64 (v9 - 1)) ((v10.set v9.toNat x7).set ((i64 (v9 - 1)).toNat) x8))) (fun h48 =>
     Pn.none))) (fun h46 =>
     Pn.none))) (fun h44 =>
     Pn.none)) (fun s10 h43 =>
     Pn.some (LpO.out [.wait 1, .mask [0, 14, 17], .ren [0], .join 5 (X.out 6) (st 220 [] [Blk.row 43 (List.map E43 v10) []] [some 0]), .wait 1, .mask [], .ren [0]] (p := [HT Tryz.prog (sub (codeOf Tryz.prog 75) [1, 0, 1, 0, 1, 1, 1, 0, 1, 0, 0, 0]) (st 220 [(0, V.ow 0), (14, V.sc (.int .i64 r9.1)), (17, V.sc (.int .i64 v9))] [Blk.row 43 (List.map E43 v10) []] [some 0]) (X.out 6) (st 220 [] [Blk.row 43 (List.map E43 v10) []] [some 0])]) (by kernel_rfl) (show X.out 6 ≠ X.go from nofun) (cj1 ((slices_symMergeCmpFunc_impl_Acct_impl_Gather_1_c9_ok r9 v9 v10 r10 h41).at h43)))))
def slices_symMergeCmpFunc_impl_Acct_impl_Gather_1_c5 (o : List Acct) (o_ : Int) (a2 : Int) (a3 : Int) : Option (Lo Unit ((List Acct))) :=
 if ((i64 (a3 - a2)) == 1) = true then
 (slices_symMergeCmpFunc_impl_Acct_impl_Gather_1_l2 a2 FUEL o_ a2 o).bind fun r9 =>
 (slices_symMergeCmpFunc_impl_Acct_impl_Gather_1_l3 r9 FUEL a2 r9.2).bind fun r11 =>
 some (.ret r11)
 else
 some (.out ())
theorem slices_symMergeCmpFunc_impl_Acct_impl_Gather_1_c5_ok (o : List Acct) (o_ : Int) (a2 : Int) (a3 : Int) : Pn (JnO Tryz.prog (sub (codeOf Tryz.prog 75) [1, 0]) (st 220 [(0, V.ow 0), (1, V.sc (.int .i64 o_)), (2, V.sc (.int .i64 a2)), (3, V.sc (.int .i64 a3)), (4, V.fn 29 [])] [Blk.row 43 (List.map E43 o) []] [some 0]) (fun (y : Lo Unit ((List Acct))) => Lo.elim y (fun s => (X.go, st 220 [(0, V.ow 0), (1, V.sc (.int .i64 o_)), (2, V.sc (.int .i64 a2)), (3, V.sc (.int .i64 a3)), (4, V.fn 29 [])] [Blk.row 43 (List.map E43 o) []] [some 0])) (fun s => (X.ret, st 220 [] [Blk.row 43 (List.map E43 s) []] [some 0])))) (slices_symMergeCmpFunc_impl_Acct_impl_Gather_1_c5 o o_ a2 a3) := by
  unfold slices_symMergeCmpFunc_impl_Acct_impl_Gather_1_c5
  exact
   Pn.ite (fun h27 =>
   Pn.bind (fun r9 h39 =>
   Pn.bind (fun r11 h49 =>
   Pn.some (JnO.of [.bit true, .wait 4, .mask [0, 2, 4, 14, 15], .ren [0], .loop (X.out 4) (st 220 [(0, V.ow 0), (2, V.sc (.int .i64 a2)), (14, V.sc (.int .i64 r9.1))] [Blk.row 43 (List.map E43 r9.2) []] [some 0]), .wait 3, .mask [0, 14, 17], .ren [0], .loop (X.out 6) (st 220 [] [Blk.row 43 (List.map E43 r11) []] [some 0]), .wait 1, .mask [], .ren [0]] (p := [((i64 (a3 - a2)) == 1) = true,
    Loop Tryz.prog (sub (codeOf Tryz.prog 75) [1, 0, 1, 0, 1, 1, 0, 0, 0]) (st 220 [(0, V.ow 0), (2, V.sc (.int .i64 a2)), (4, V.fn 29 []), (14, V.sc (.int .i64 o_)), (15, V.sc (.int .i64 a2))] [Blk.row 43 (List.map E43 o) []] [some 0]) (X.out 4) (st 220 [(0, V.ow 0), (2, V.sc (.int .i64 a2)), (14, V.sc (.int .i64 r9.1))] [Blk.row 43 (List.map E43 r9.2) []] [some 0]),
    Loop Tryz.prog (sub (codeOf Tryz.prog 75) [1, 0, 1, 0, 1, 1, 1, 0, 1, 0, 0]) (st 220 [(0, V.ow 0), (14, V.sc (.int .i64 r9.1)), (17, V.sc (.int .i64 a2))] [Blk.row 43 (List.map E43 r9.2) []] [some 0]) (X.out 6) (st 220 [] [Blk.row 43 (List.map E43 r11) []] [some 0])]) (by kernel_rfl) (cj h27 (cj (slices_symMergeCmpFunc_impl_Acct_impl_Gather_1_l2_ok a2 FUEL o_ a2 o r9 h39) (cj1 (slices_symMergeCmpFunc_impl_Acct_impl_Gather_1_l3_ok r9 FUEL a2 r9.2 r11 h49)))))))) (fun h27 =>
   Pn.some (JnO.of [.bit false, .mask [0, 1, 2, 3, 4], .ren [0]] (p := [((i64 (a3 - a2)) == 1) = false]) (by kernel_rfl) (cj1 h27)))
def slices_symMergeCmpFunc_impl_Acct_impl_Gather_1_c10 (o : List Acct) (o_ : Int) (a2 : Int) (a3 : Int) : Option (Int × Int) :=
 if (decide ((i64 (bshr .u64 (u64 (i64 (o_ + a3))) 1)) < a2)) = true then
 some (i64 ((i64 ((i64 (bshr .u64 (u64 (i64 (o_ + a3))) 1)) + a2)) - a3), i64 (bshr .u64 (u64 (i64 (o_ + a3))) 1))
 else
 some (o_, a2)
theorem slices_symMergeCmpFunc_impl_Acct_impl_Gather_1_c10_ok (o : List Acct) (o_ : Int) (a2 : Int) (a3 : Int) : Pn (JnO Tryz.prog (sub (codeOf Tryz.prog 75) [1, 1, 1, 1, 1, 0]) (st 220 [(0, V.ow 0), (1, V.sc (.int .i64 o_)), (2, V.sc (.int .i64 a2)), (3, V.sc (.int .i64 a3)), (4, V.fn 29 []), (18, V.sc (.int .i64 (i64 (bshr .u64 (u64 (i64 (o_ + a3))) 1)))), (19, V.sc (.int .i64 (i64 ((i64 (bshr .u64 (u64 (i64 (o_ + a3))) 1)) + a2))))] [Blk.row 43 (List.map E43 o) []] [some 0]) (fun (y : Int × Int) => (X.go, st 220 [(0, V.ow 0), (1, V.sc (.int .i64 o_)), (2, V.sc (.int .i64 a2)), (3, V.sc (.int .i64 a3)), (4, V.fn 29 []), (18, V.sc (.int .i64 (i64 (bshr .u64 (u64 (i64 (o_ + a3))) 1)))), (19, V.sc (.int .i64 (i64 ((i64 (bshr .u64 (u64 (i64 (o_ + a3))) 1)) + a2)))), (20, V.sc (.int .i64 y.1)), (21, V.sc (.int .i64 y.2))] [Blk.row 43 (List.map E43 o) []] [some 0]))) (slices_symMergeCmpFunc_impl_Acct_impl_Gather_1_c10 o o_ a2 a3) := by
  unfold slices_symMergeCmpFunc_impl_Acct_impl_Gather_1_c10
  exact
   Pn.ite (fun h53 =>
   Pn.some (JnO.of [.bit true, .wait 6, .mask [0, 1, 2, 3, 4, 18, 19, 20, 21], .ren [0]] (p := [(decide ((i64 (bshr .u64 (u64 (i64 (o_ + a3))) 1)) < a2)) = true]) (by kernel_rfl) (cj1 h53))) (fun h53 =>
   Pn.some (JnO.of [.bit false, .wait 4, .mask [0, 1, 2, 3, 4, 18, 19, 20, 21], .ren [0]] (p := [(decide ((i64 (bshr .u64 (u64 (i64 (o_ + a3))) 1)) < a2)) = false]) (by kernel_rfl) (cj1 h53)))
def slices_symMergeCmpFunc_impl_Acct_impl_Gather_1_c12 (o_ : Int) (a2 : Int) (a3 : Int) (v11 : Int) (v12 : Int) (v13 : List Acct) : Option (Lo Unit Unit) :=
 if (decide (v11 < v12)) = true then
 some (.out ())
 else
 some (.ret ())
theorem slices_symMergeCmpFunc_impl_Acct_impl_Gather_1_c12_ok (o_ : Int) (a2 : Int) (a3 : Int) (v11 : Int) (v12 : Int) (v13 : List Acct) : Pn (JnO Tryz.prog (sub (codeOf Tryz.prog 75) [1, 1, 1, 1, 1, 1, 1, 0, 0, 0, 0]) (st 220 [(0, V.ow 0), (1, V.sc (.int .i64 o_)), (2, V.sc (.int .i64 a2)), (3, V.sc (.int .i64 a3)), (4, V.fn 29 []), (18, V.sc (.int .i64 (i64 (bshr .u64 (u64 (i64 (o_ + a3))) 1)))), (19, V.sc (.int .i64 (i64 ((i64 (bshr .u64 (u64 (i64 (o_ + a3))) 1)) + a2)))), (20, V.sc (.int .i64 v11)), (21, V.sc (.int .i64 v12)), (22, V.sc (.int .i64 (i64 ((i64 ((i64 (bshr .u64 (u64 (i64 (o_ + a3))) 1)) + a2)) - 1))))] [Blk.row 43 (List.map E43 v13) []] [some 0]) (fun (y : Lo Unit Unit) => Lo.elim y (fun s => (X.go, st 220 [(0, V.ow 0), (1, V.sc (.int .i64 o_)), (2, V.sc (.int .i64 a2)), (3, V.sc (.int .i64 a3)), (4, V.fn 29 []), (18, V.sc (.int .i64 (i64 (bshr .u64 (u64 (i64 (o_ + a3))) 1)))), (19, V.sc (.int .i64 (i64 ((i64 (bshr .u64 (u64 (i64 (o_ + a3))) 1)) + a2)))), (20, V.sc (.int .i64 v11)), (21, V.sc (.int .i64 v12)), (22, V.sc (.int .i64 (i64 ((i64 ((i64 (bshr .u64 (u64 (i64 (o_ + a3))) 1)) + a2)) - 1))))] [Blk.row 43 (List.map E43 v13) []] [some 0])) (fun s => (X.out 8, st 220 [(0, V.ow 0), (1, V.sc (.int .i64 o_)), (2, V.sc (.int .i64 a2)), (3, V.sc (.int .i64 a3)), (4, V.fn 29 []), (18, V.sc (.int .i64 (i64 (bshr .u64 (u64 (i64 (o_ + a3))) 1)))), (19, V.sc (.int .i64 (i64 ((i64 (bshr .u64 (u64 (i64 (o_ + a3))) 1)) + a2)))), (20, V.sc (.int .i64 v11))] [Blk.row 43 (List.map E43 v13) []] [some 0])))) (slices_symMergeCmpFunc_impl_Acct_impl_Gather_1_c12 o_ a2 a3 v11 v12 v13) := by
  unfold slices_symMergeCmpFunc_impl_Acct_impl_Gather_1_c12
  exact
   Pn.ite (fun h55 =>
   Pn.some (JnO.of [.bit true, .mask [0, 1, 2, 3, 4, 18, 19, 20, 21, 22], .ren [0]] (p := [(decide (v11 < v12)) = true]) (by kernel_rfl) (cj1 h55))) (fun h55 =>
   Pn.some (JnO.of [.bit false, .mask [0, 1, 2, 3, 4, 18, 19, 20], .ren [0]] (p := [(decide (v11 < v12)) = false]) (by kernel_rfl) (cj1 h55)))
def slices_symMergeCmpFunc_impl_Acct_impl_Gather_1_l4 (o_ : Int) (a2 : Int) (a3 : Int) : Nat → Int → Int → (List Acct) → Option (Int × (List Acct))
  | 0, _, _, _ => none
  | fuel + 1, v11, v12, v13 =>
   (slices_symMergeCmpFunc_impl_Acct_impl_Gather_1_c12 o_ a2 a3 v11 v12 v13).bind fun r14 =>
   Lo.elim r14 (fun s13 =>
   if (decide (0 ≤ (i64 ((i64 ((i64 ((i64 (bshr .u64 (u64 (i64 (o_ + a3))) 1)) + a2)) - 1)) - (i64 (bshr .u64 (u64 (i64 (v11 + v12))) 1)))))) = true then
   (v13[(i64 ((i64 ((i64 ((i64 (bshr .u64 (u64 (i64 (o_ + a3))) 1)) + a2)) - 1)) - (i64 (bshr .u64 (u64 (i64 (v11 + v12))) 1)))).toNat]?).bind fun x9 =>
   if (decide (0 ≤ (i64 (bshr .u64 (u64 (i64 (v11 + v12))) 1)))) = true then
   (v13[(i64 (bshr .u64 (u64 (i64 (v11 + v12))) 1)).toNat]?).bind fun x10 =>
   if (decide (¬ ((i64 (bshr .u64 (u64 (i64 (v11 + v12))) 1)).toNat) = ((i64 ((i64 ((i64 ((i64 (bshr .u64 (u64 (i64 (o_ + a3))) 1)) + a2)) - 1)) - (i64 (bshr .u64 (u64 (i64 (v11 + v12))) 1)))).toNat))) = true then
   (impl_Gather_1 x9 x10).bind fun r15 =>
   if (decide (r15 < 0)) = true then
   slices_symMergeCmpFunc_impl_Acct_impl_Gather_1_l4 o_ a2 a3 fuel v11 (i64 (bshr .u64 (u64 (i64 (v11 + v12))) 1)) ((v13.set ((i64 ((i64 ((i64 ((i64 (bshr .u64 (u64 (i64 (o_ + a3))) 1)) + a2)) - 1)) - (i64 (bshr .u64 (u64 (i64 (v11 + v12))) 1)))).toNat) x9).set ((i64 (bshr .u64 (u64 (i64 (v11 + v12))) 1)).toNat) x10)
   else
   slices_symMergeCmpFunc_impl_Acct_impl_Gather_1_l4 o_ a2 a3 fuel (i64 ((i64 (bshr .u64 (u64 (i64 (v11 + v12))) 1)) + 1)) v12 ((v13.set ((i64 ((i64 ((i64 ((i64 (bshr .u64 (u64 (i64 (o_ + a3))) 1)) + a2)) - 1)) - (i64 (bshr .u64 (u64 (i64 (v11 + v12))) 1)))).toNat) x9).set ((i64 (bshr .u64 (u64 (i64 (v11 + v12))) 1)).toNat) x10)
   else none
   else none
   else none) (fun s14 =>
   some (v11, v13))
theorem slices_symMergeCmpFunc_impl_Acct_impl_Gather_1_l4_ok (o_ : Int) (a2 : Int) (a3 : Int) : ∀ (fuel : Nat) (v11 : Int) (v12 : Int) (v13 : List Acct), Pn (LpO Tryz.prog (sub (codeOf Tryz.prog 75) [1, 1, 1, 1, 1, 1, 1, 0, 0, 0]) (st 220 [(0, V.ow 0), (1, V.sc (.int .i64 o_)), (2, V.sc (.int .i64 a2)), (3, V.sc (.int .i64 a3)), (4, V.fn 29 []), (18, V.sc (.int .i64 (i64 (bshr .u64 (u64 (i64 (o_ + a3))) 1)))), (19, V.sc (.int .i64 (i64 ((i64 (bshr .u64 (u64 (i64 (o_ + a3))) 1)) + a2)))), (20, V.sc (.int .i64 v11)), (21, V.sc (.int .i64 v12)), (22, V.sc (.int .i64 (i64 ((i64 ((i64 (bshr .u64 (u64 (i64 (o_ + a3))) 1)) + a2)) - 1))))] [Blk.row 43 (List.map E43 v13) []] [some 0]) (fun (y : Int × (List Acct)) => (X.out 8, st 220 [(0, V.ow 0), (1, V.sc (.int .i64 o_)), (2, V.sc (.int .i64 a2)), (3, V.sc (.int .i64 a3)), (4, V.fn 29 []), (18, V.sc (.int .i64 (i64 (bshr .u64 (u64 (i64 (o_ + a3))) 1)))), (19, V.sc (.int .i64 (i64 ((i64 (bshr .u64 (u64 (i64 (o_ + a3))) 1)) + a2)))), (20, V.sc (.int .i64 y.1))] [Blk.row 43 (List.map E43 y.2) []] [some 0]))) (slices_symMergeCmpFunc_impl_Acct_impl_Gather_1_l4 o_ a2 a3 fuel v11 v12 v13)
  | 0, _, _, _ => Pn.none
  | fuel + 1, v11, v12, v13 => by
    unfold slices_symMergeCmpFunc_impl_Acct_impl_Gather_1_l4
    exact
     Pn.bind (fun r14 h56 =>
     Pn.lo (fun s13 h57 =>
     Pn.ite (fun h59 =>
     Pn.bind (fun x9 h60 =>
     Pn.ite (fun h61 =>
     Pn.bind (fun x10 h62 =>
     Pn.ite (fun h63 =>
     Pn.bind (fun r15 h64 =>
     Pn.ite (fun h65 =>
     LpO.go [.wait 1, .mask [0, 1, 2, 3, 4, 18, 19, 20, 21, 22], .ren [0], .join 5 (X.go) (st 220 [(0, V.ow 0), (1, V.sc (.int .i64 o_)), (2, V.sc (.int .i64 a2)), (3, V.sc (.int .i64 a3)), (4, V.fn 29 []), (18, V.sc (.int .i64 (i64 (bshr .u64 (u64 (i64 (o_ + a3))) 1)))), (19, V.sc (.int .i64 (i64 ((i64 (bshr .u64 (u64 (i64 (o_ + a3))) 1)) + a2)))), (20, V.sc (.int .i64 v11)), (21, V.sc (.int .i64 v12)), (22, V.sc (.int .i64 (i64 ((i64 ((i64 (bshr .u64 (u64 (i64 (o_ + a3))) 1)) + a2)) - 1))))] [Blk.row 43 (List.map E43 v13) []] [some 0]), .draw [], .wait 5, .foc 0 ((i64 ((i64 ((i64 ((i64 (bshr .u64 (u64 (i64 (o_ + a3))) 1)) + a2)) - 1)) - (i64 (bshr .u64 (u64 (i64 (v11 + v12))) 1)))).toNat) (E43 x9), .fo 0, .wait 3, .foc 0 ((i64 (bshr .u64 (u64 (i64 (v11 + v12))) 1)).toNat) (E43 x10), .fo 0, .call [] (E3 r15) [], .bit false, .wait 2, .shut 0, .nb 0 (.row 43 (List.map E43 ((v13.set ((i64 ((i64 ((i64 ((i64 (bshr .u64 (u64 (i64 (o_ + a3))) 1)) + a2)) - 1)) - (i64 (bshr .u64 (u64 (i64 (v11 + v12))) 1)))).toNat) x9).set ((i64 (bshr .u64 (u64 (i64 (v11 + v12))) 1)).toNat) x10)) []), .mask [0, 1, 2, 3, 4, 18, 19, 20, 21, 22], .ren [0]] (p := [HT Tryz.prog (sub (codeOf Tryz.prog 75) [1, 1, 1, 1, 1, 1, 1, 0, 0, 0, 0]) (st 220 [(0, V.ow 0), (1, V.sc (.int .i64 o_)), (2, V.sc (.int .i64 a2)), (3, V.sc (.int .i64 a3)), (4, V.fn 29 []), (18, V.sc (.int .i64 (i64 (bshr .u64 (u64 (i64 (o_ + a3))) 1)))), (19, V.sc (.int .i64 (i64 ((i64 (bshr .u64 (u64 (i64 (o_ + a3))) 1)) + a2)))), (20, V.sc (.int .i64 v11)), (21, V.sc (.int .i64 v12)), (22, V.sc (.int .i64 (i64 ((i64 ((i64 (bshr .u64 (u64 (i64 (o_ + a3))) 1)) + a2)) - 1))))] [Blk.row 43 (List.map E43 v13) []] [some 0]) (X.go) (st 220 [(0, V.ow 0), (1, V.sc (.int .i64 o_)), (2, V.sc (.int .i64 a2)), (3, V.sc (.int .i64 a3)), (4, V.fn 29 []), (18, V.sc (.int .i64 (i64 (bshr .u64 (u64 (i64 (o_ + a3))) 1)))), (19, V.sc (.int .i64 (i64 ((i64 (bshr .u64 (u64 (i64 (o_ + a3))) 1)) + a2)))), (20, V.sc (.int .i64 v11)), (21, V.sc (.int .i64 v12)), (22, V.sc (.int .i64 (i64 ((i64 ((i64 (bshr .u64 (u64 (i64 (o_ + a3))) 1)) + a2)) - 1))))] [Blk.row 43 (List.map E43 v13) []] [some 0]),
      ¬ (1 : Int) < 0,
      (0 : Int) ≤ (i64 ((i64 ((i64 ((i64 (bshr .u64 (u64 (i64 (o_ + a3))) 1)) + a2)) - 1)) - (i64 (bshr .u64 (u64 (i64 (v11 + v12))) 1)))),
      ((i64 ((i64 ((i64 ((i64 (bshr .u64 (u64 (i64 (o_ + a3))) 1)) + a2)) - 1)) - (i64 (bshr .u64 (u64 (i64 (v11 + v12))) 1)))) : Int) < ((List.map E43 v13).length : Int),
      look [] ((i64 ((i64 ((i64 ((i64 (bshr .u64 (u64 (i64 (o_ + a3))) 1)) + a2)) - 1)) - (i64 (bshr .u64 (u64 (i64 (v11 + v12))) 1)))).toNat) = none,
      (List.map E43 v13)[(i64 ((i64 ((i64 ((i64 (bshr .u64 (u64 (i64 (o_ + a3))) 1)) + a2)) - 1)) - (i64 (bshr .u64 (u64 (i64 (v11 + v12))) 1)))).toNat]? = some (E43 x9),
      look [((i64 ((i64 ((i64 ((i64 (bshr .u64 (u64 (i64 (o_ + a3))) 1)) + a2)) - 1)) - (i64 (bshr .u64 (u64 (i64 (v11 + v12))) 1)))).toNat, V.agg [V.sc (.string x9.Id), V.sc (.int .i64 x9.Limit), V.sc (.int .i64 x9.Posted), V.sc (.int .i64 x9.Most), V.sc (.int .i64 x9.MostSum), V.ow 1, V.sc (.int .i64 x9.Ring.Span), V.sc (.int .i64 x9.Ring.Head), V.ow 2, V.ow 3, V.ow 4])] ((i64 ((i64 ((i64 ((i64 (bshr .u64 (u64 (i64 (o_ + a3))) 1)) + a2)) - 1)) - (i64 (bshr .u64 (u64 (i64 (v11 + v12))) 1)))).toNat) = some (V.agg [V.sc (.string x9.Id), V.sc (.int .i64 x9.Limit), V.sc (.int .i64 x9.Posted), V.sc (.int .i64 x9.Most), V.sc (.int .i64 x9.MostSum), V.ow 1, V.sc (.int .i64 x9.Ring.Span), V.sc (.int .i64 x9.Ring.Head), V.ow 2, V.ow 3, V.ow 4]),
      ((i64 ((i64 ((i64 ((i64 (bshr .u64 (u64 (i64 (o_ + a3))) 1)) + a2)) - 1)) - (i64 (bshr .u64 (u64 (i64 (v11 + v12))) 1)))).toNat) < (List.map E43 v13).length,
      (0 : Int) ≤ (i64 (bshr .u64 (u64 (i64 (v11 + v12))) 1)),
      ((i64 (bshr .u64 (u64 (i64 (v11 + v12))) 1)) : Int) < ((List.map E43 v13).length : Int),
      look [((i64 ((i64 ((i64 ((i64 (bshr .u64 (u64 (i64 (o_ + a3))) 1)) + a2)) - 1)) - (i64 (bshr .u64 (u64 (i64 (v11 + v12))) 1)))).toNat, V.agg [V.sc (.string x9.Id), V.sc (.int .i64 x9.Limit), V.sc (.int .i64 x9.Posted), V.sc (.int .i64 x9.Most), V.sc (.int .i64 x9.MostSum), V.ow 1, V.sc (.int .i64 x9.Ring.Span), V.sc (.int .i64 x9.Ring.Head), V.ow 2, V.ow 3, V.ow 4])] ((i64 (bshr .u64 (u64 (i64 (v11 + v12))) 1)).toNat) = none,
      (List.map E43 v13)[(i64 (bshr .u64 (u64 (i64 (v11 + v12))) 1)).toNat]? = some (E43 x10),
      look [((i64 (bshr .u64 (u64 (i64 (v11 + v12))) 1)).toNat, V.agg [V.sc (.string x10.Id), V.sc (.int .i64 x10.Limit), V.sc (.int .i64 x10.Posted), V.sc (.int .i64 x10.Most), V.sc (.int .i64 x10.MostSum), V.ow 5, V.sc (.int .i64 x10.Ring.Span), V.sc (.int .i64 x10.Ring.Head), V.ow 6, V.ow 7, V.ow 8]), ((i64 ((i64 ((i64 ((i64 (bshr .u64 (u64 (i64 (o_ + a3))) 1)) + a2)) - 1)) - (i64 (bshr .u64 (u64 (i64 (v11 + v12))) 1)))).toNat, V.agg [V.sc (.string x9.Id), V.sc (.int .i64 x9.Limit), V.sc (.int .i64 x9.Posted), V.sc (.int .i64 x9.Most), V.sc (.int .i64 x9.MostSum), V.ow 1, V.sc (.int .i64 x9.Ring.Span), V.sc (.int .i64 x9.Ring.Head), V.ow 2, V.ow 3, V.ow 4])] ((i64 (bshr .u64 (u64 (i64 (v11 + v12))) 1)).toNat) = some (V.agg [V.sc (.string x10.Id), V.sc (.int .i64 x10.Limit), V.sc (.int .i64 x10.Posted), V.sc (.int .i64 x10.Most), V.sc (.int .i64 x10.MostSum), V.ow 5, V.sc (.int .i64 x10.Ring.Span), V.sc (.int .i64 x10.Ring.Head), V.ow 6, V.ow 7, V.ow 8]),
      ((i64 (bshr .u64 (u64 (i64 (v11 + v12))) 1)).toNat) < (List.map E43 v13).length,
      Fn Tryz.prog 29 [(false, E43 x9), (false, E43 x10)] (E3 r15) [],
      (false || ((E3 r15).nv && nvL [])) = true,
      (!(decide (r15 < 0))) = false,
      Blk.row 43 (((List.map E43 v13).set ((i64 ((i64 ((i64 ((i64 (bshr .u64 (u64 (i64 (o_ + a3))) 1)) + a2)) - 1)) - (i64 (bshr .u64 (u64 (i64 (v11 + v12))) 1)))).toNat) (V.agg [V.sc (.string x9.Id), V.sc (.int .i64 x9.Limit), V.sc (.int .i64 x9.Posted), V.sc (.int .i64 x9.Most), V.sc (.int .i64 x9.MostSum), V.sl true 85 (List.map E85 x9.Holds), V.sc (.int .i64 x9.Ring.Span), V.sc (.int .i64 x9.Ring.Head), V.sl true 3 (List.map E3 x9.Ring.Counts), V.sl true 3 (List.map E3 x9.Ring.Sums), V.sl true 89 (List.map E89 x9.Slots)])).set ((i64 (bshr .u64 (u64 (i64 (v11 + v12))) 1)).toNat) (V.agg [V.sc (.string x10.Id), V.sc (.int .i64 x10.Limit), V.sc (.int .i64 x10.Posted), V.sc (.int .i64 x10.Most), V.sc (.int .i64 x10.MostSum), V.sl true 85 (List.map E85 x10.Holds), V.sc (.int .i64 x10.Ring.Span), V.sc (.int .i64 x10.Ring.Head), V.sl true 3 (List.map E3 x10.Ring.Counts), V.sl true 3 (List.map E3 x10.Ring.Sums), V.sl true 89 (List.map E89 x10.Slots)])) [] = Blk.row 43 (List.map E43 ((v13.set ((i64 ((i64 ((i64 ((i64 (bshr .u64 (u64 (i64 (o_ + a3))) 1)) + a2)) - 1)) - (i64 (bshr .u64 (u64 (i64 (v11 + v12))) 1)))).toNat) x9).set ((i64 (bshr .u64 (u64 (i64 (v11 + v12))) 1)).toNat) x10)) []]) (by kernel_rfl) (cj ((slices_symMergeCmpFunc_impl_Acct_impl_Gather_1_c12_ok o_ a2 a3 v11 v12 v13 r14 h56).at h57) (cj (by decide) (cj (od h59) (cj (map_ltN (od h59) h60) (cj rfl (cj (map_get h60) (cj (look_cons_self _ _ _) (cj (map_lt h60) (cj (od h61) (cj (map_ltN (od h61) h62) (cj ((look_cons_ne _ _ (od h63)).trans rfl) (cj (map_get h62) (cj (look_cons_self _ _ _) (cj (map_lt h62) (cj (impl_Gather_1_ok x9 x10 r15 h64) (cj (by simp [V.nv, nvL, nvL_all, nv_E3]) (cj (nf h65) (cj1 (nb_set2 E43 _ _ x9 _ x10))))))))))))))))))) (slices_symMergeCmpFunc_impl_Acct_impl_Gather_1_l4_ok o_ a2 a3 fuel v11 (i64 (bshr .u64 (u64 (i64 (v11 + v12))) 1)) ((v13.set ((i64 ((i64 ((i64 ((i64 (bshr .u64 (u64 (i64 (o_ + a3))) 1)) + a2)) - 1)) - (i64 (bshr .u64 (u64 (i64 (v11 + v12))) 1)))).toNat) x9).set ((i64 (bshr .u64 (u64 (i64 (v11 + v12))) 1)).toNat) x10))) (fun h65 =>
     LpO.go [.wait 1, .mask [0, 1, 2, 3, 4, 18, 19, 20, 21, 22], .ren [0], .join 5 (X.go) (st 220 [(0, V.ow 0), (1, V.sc (.int .i64 o_)), (2, V.sc (.int .i64 a2)), (3, V.sc (.int .i64 a3)), (4, V.fn 29 []), (18, V.sc (.int .i64 (i64 (bshr .u64 (u64 (i64 (o_ + a3))) 1)))), (19, V.sc (.int .i64 (i64 ((i64 (bshr .u64 (u64 (i64 (o_ + a3))) 1)) + a2)))), (20, V.sc (.int .i64 v11)), (21, V.sc (.int .i64 v12)), (22, V.sc (.int .i64 (i64 ((i64 ((i64 (bshr .u64 (u64 (i64 (o_ + a3))) 1)) + a2)) - 1))))] [Blk.row 43 (List.map E43 v13) []] [some 0]), .draw [], .wait 5, .foc 0 ((i64 ((i64 ((i64 ((i64 (bshr .u64 (u64 (i64 (o_ + a3))) 1)) + a2)) - 1)) - (i64 (bshr .u64 (u64 (i64 (v11 + v12))) 1)))).toNat) (E43 x9), .fo 0, .wait 3, .foc 0 ((i64 (bshr .u64 (u64 (i64 (v11 + v12))) 1)).toNat) (E43 x10), .fo 0, .call [] (E3 r15) [], .bit true, .wait 3, .shut 0, .nb 0 (.row 43 (List.map E43 ((v13.set ((i64 ((i64 ((i64 ((i64 (bshr .u64 (u64 (i64 (o_ + a3))) 1)) + a2)) - 1)) - (i64 (bshr .u64 (u64 (i64 (v11 + v12))) 1)))).toNat) x9).set ((i64 (bshr .u64 (u64 (i64 (v11 + v12))) 1)).toNat) x10)) []), .mask [0, 1, 2, 3, 4, 18, 19, 20, 21, 22], .ren [0]] (p := [HT Tryz.prog (sub (codeOf Tryz.prog 75) [1, 1, 1, 1, 1, 1, 1, 0, 0, 0, 0]) (st 220 [(0, V.ow 0), (1, V.sc (.int .i64 o_)), (2, V.sc (.int .i64 a2)), (3, V.sc (.int .i64 a3)), (4, V.fn 29 []), (18, V.sc (.int .i64 (i64 (bshr .u64 (u64 (i64 (o_ + a3))) 1)))), (19, V.sc (.int .i64 (i64 ((i64 (bshr .u64 (u64 (i64 (o_ + a3))) 1)) + a2)))), (20, V.sc (.int .i64 v11)), (21, V.sc (.int .i64 v12)), (22, V.sc (.int .i64 (i64 ((i64 ((i64 (bshr .u64 (u64 (i64 (o_ + a3))) 1)) + a2)) - 1))))] [Blk.row 43 (List.map E43 v13) []] [some 0]) (X.go) (st 220 [(0, V.ow 0), (1, V.sc (.int .i64 o_)), (2, V.sc (.int .i64 a2)), (3, V.sc (.int .i64 a3)), (4, V.fn 29 []), (18, V.sc (.int .i64 (i64 (bshr .u64 (u64 (i64 (o_ + a3))) 1)))), (19, V.sc (.int .i64 (i64 ((i64 (bshr .u64 (u64 (i64 (o_ + a3))) 1)) + a2)))), (20, V.sc (.int .i64 v11)), (21, V.sc (.int .i64 v12)), (22, V.sc (.int .i64 (i64 ((i64 ((i64 (bshr .u64 (u64 (i64 (o_ + a3))) 1)) + a2)) - 1))))] [Blk.row 43 (List.map E43 v13) []] [some 0]),
      ¬ (1 : Int) < 0,
      (0 : Int) ≤ (i64 ((i64 ((i64 ((i64 (bshr .u64 (u64 (i64 (o_ + a3))) 1)) + a2)) - 1)) - (i64 (bshr .u64 (u64 (i64 (v11 + v12))) 1)))),
      ((i64 ((i64 ((i64 ((i64 (bshr .u64 (u64 (i64 (o_ + a3))) 1)) + a2)) - 1)) - (i64 (bshr .u64 (u64 (i64 (v11 + v12))) 1)))) : Int) < ((List.map E43 v13).length : Int),
      look [] ((i64 ((i64 ((i64 ((i64 (bshr .u64 (u64 (i64 (o_ + a3))) 1)) + a2)) - 1)) - (i64 (bshr .u64 (u64 (i64 (v11 + v12))) 1)))).toNat) = none,
      (List.map E43 v13)[(i64 ((i64 ((i64 ((i64 (bshr .u64 (u64 (i64 (o_ + a3))) 1)) + a2)) - 1)) - (i64 (bshr .u64 (u64 (i64 (v11 + v12))) 1)))).toNat]? = some (E43 x9),
      look [((i64 ((i64 ((i64 ((i64 (bshr .u64 (u64 (i64 (o_ + a3))) 1)) + a2)) - 1)) - (i64 (bshr .u64 (u64 (i64 (v11 + v12))) 1)))).toNat, V.agg [V.sc (.string x9.Id), V.sc (.int .i64 x9.Limit), V.sc (.int .i64 x9.Posted), V.sc (.int .i64 x9.Most), V.sc (.int .i64 x9.MostSum), V.ow 1, V.sc (.int .i64 x9.Ring.Span), V.sc (.int .i64 x9.Ring.Head), V.ow 2, V.ow 3, V.ow 4])] ((i64 ((i64 ((i64 ((i64 (bshr .u64 (u64 (i64 (o_ + a3))) 1)) + a2)) - 1)) - (i64 (bshr .u64 (u64 (i64 (v11 + v12))) 1)))).toNat) = some (V.agg [V.sc (.string x9.Id), V.sc (.int .i64 x9.Limit), V.sc (.int .i64 x9.Posted), V.sc (.int .i64 x9.Most), V.sc (.int .i64 x9.MostSum), V.ow 1, V.sc (.int .i64 x9.Ring.Span), V.sc (.int .i64 x9.Ring.Head), V.ow 2, V.ow 3, V.ow 4]),
      ((i64 ((i64 ((i64 ((i64 (bshr .u64 (u64 (i64 (o_ + a3))) 1)) + a2)) - 1)) - (i64 (bshr .u64 (u64 (i64 (v11 + v12))) 1)))).toNat) < (List.map E43 v13).length,
      (0 : Int) ≤ (i64 (bshr .u64 (u64 (i64 (v11 + v12))) 1)),
      ((i64 (bshr .u64 (u64 (i64 (v11 + v12))) 1)) : Int) < ((List.map E43 v13).length : Int),
      look [((i64 ((i64 ((i64 ((i64 (bshr .u64 (u64 (i64 (o_ + a3))) 1)) + a2)) - 1)) - (i64 (bshr .u64 (u64 (i64 (v11 + v12))) 1)))).toNat, V.agg [V.sc (.string x9.Id), V.sc (.int .i64 x9.Limit), V.sc (.int .i64 x9.Posted), V.sc (.int .i64 x9.Most), V.sc (.int .i64 x9.MostSum), V.ow 1, V.sc (.int .i64 x9.Ring.Span), V.sc (.int .i64 x9.Ring.Head), V.ow 2, V.ow 3, V.ow 4])] ((i64 (bshr .u64 (u64 (i64 (v11 + v12))) 1)).toNat) = none,
      (List.map E43 v13)[(i64 (bshr .u64 (u64 (i64 (v11 + v12))) 1)).toNat]? = some (E43 x10),
      look [((i64 (bshr .u64 (u64 (i64 (v11 + v12))) 1)).toNat, V.agg [V.sc (.string x10.Id), V.sc (.int .i64 x10.Limit), V.sc (.int .i64 x10.Posted), V.sc (.int .i64 x10.Most), V.sc (.int .i64 x10.MostSum), V.ow 5, V.sc (.int .i64 x10.Ring.Span), V.sc (.int .i64 x10.Ring.Head), V.ow 6, V.ow 7, V.ow 8]), ((i64 ((i64 ((i64 ((i64 (bshr .u64 (u64 (i64 (o_ + a3))) 1)) + a2)) - 1)) - (i64 (bshr .u64 (u64 (i64 (v11 + v12))) 1)))).toNat, V.agg [V.sc (.string x9.Id), V.sc (.int .i64 x9.Limit), V.sc (.int .i64 x9.Posted), V.sc (.int .i64 x9.Most), V.sc (.int .i64 x9.MostSum), V.ow 1, V.sc (.int .i64 x9.Ring.Span), V.sc (.int .i64 x9.Ring.Head), V.ow 2, V.ow 3, V.ow 4])] ((i64 (bshr .u64 (u64 (i64 (v11 + v12))) 1)).toNat) = some (V.agg [V.sc (.string x10.Id), V.sc (.int .i64 x10.Limit), V.sc (.int .i64 x10.Posted), V.sc (.int .i64 x10.Most), V.sc (.int .i64 x10.MostSum), V.ow 5, V.sc (.int .i64 x10.Ring.Span), V.sc (.int .i64 x10.Ring.Head), V.ow 6, V.ow 7, V.ow 8]),
      ((i64 (bshr .u64 (u64 (i64 (v11 + v12))) 1)).toNat) < (List.map E43 v13).length,
      Fn Tryz.prog 29 [(false, E43 x9), (false, E43 x10)] (E3 r15) [],
      (false || ((E3 r15).nv && nvL [])) = true,
      (!(decide (r15 < 0))) = true,
      Blk.row 43 (((List.map E43 v13).set ((i64 ((i64 ((i64 ((i64 (bshr .u64 (u64 (i64 (o_ + a3))) 1)) + a2)) - 1)) - (i64 (bshr .u64 (u64 (i64 (v11 + v12))) 1)))).toNat) (V.agg [V.sc (.string x9.Id), V.sc (.int .i64 x9.Limit), V.sc (.int .i64 x9.Posted), V.sc (.int .i64 x9.Most), V.sc (.int .i64 x9.MostSum), V.sl true 85 (List.map E85 x9.Holds), V.sc (.int .i64 x9.Ring.Span), V.sc (.int .i64 x9.Ring.Head), V.sl true 3 (List.map E3 x9.Ring.Counts), V.sl true 3 (List.map E3 x9.Ring.Sums), V.sl true 89 (List.map E89 x9.Slots)])).set ((i64 (bshr .u64 (u64 (i64 (v11 + v12))) 1)).toNat) (V.agg [V.sc (.string x10.Id), V.sc (.int .i64 x10.Limit), V.sc (.int .i64 x10.Posted), V.sc (.int .i64 x10.Most), V.sc (.int .i64 x10.MostSum), V.sl true 85 (List.map E85 x10.Holds), V.sc (.int .i64 x10.Ring.Span), V.sc (.int .i64 x10.Ring.Head), V.sl true 3 (List.map E3 x10.Ring.Counts), V.sl true 3 (List.map E3 x10.Ring.Sums), V.sl true 89 (List.map E89 x10.Slots)])) [] = Blk.row 43 (List.map E43 ((v13.set ((i64 ((i64 ((i64 ((i64 (bshr .u64 (u64 (i64 (o_ + a3))) 1)) + a2)) - 1)) - (i64 (bshr .u64 (u64 (i64 (v11 + v12))) 1)))).toNat) x9).set ((i64 (bshr .u64 (u64 (i64 (v11 + v12))) 1)).toNat) x10)) []]) (by kernel_rfl) (cj ((slices_symMergeCmpFunc_impl_Acct_impl_Gather_1_c12_ok o_ a2 a3 v11 v12 v13 r14 h56).at h57) (cj (by decide) (cj (od h59) (cj (map_ltN (od h59) h60) (cj rfl (cj (map_get h60) (cj (look_cons_self _ _ _) (cj (map_lt h60) (cj (od h61) (cj (map_ltN (od h61) h62) (cj ((look_cons_ne _ _ (od h63)).trans rfl) (cj (map_get h62) (cj (look_cons_self _ _ _) (cj (map_lt h62) (cj (impl_Gather_1_ok x9 x10 r15 h64) (cj (by simp [V.nv, nvL, nvL_all, nv_E3]) (cj (nt h65) (cj1 (nb_set2 E43 _ _ x9 _ x10))))))))))))))))))) (slices_symMergeCmpFunc_impl_Acct_impl_Gather_1_l4_ok o_ a2 a3 fuel (i64 ((i64 (bshr .u64 (u64 (i64 (v11 + v12))) 1)) + 1)) v12 ((v13.set ((i64 ((i64 ((i64 ((i64 (bshr .u64 (u64 (i64 (o_ + a3))) 1)) + a2)) - 1)) - (i64 (bshr .u64 (u64 (i64 (v11 + v12))) 1)))).toNat) x9).set ((i64 (bshr .u64 (u64 (i64 (v11 + v12))) 1)).toNat) x10))))) (fun h63 =>
     Pn.none))) (fun h61 =>
     Pn.none))) (fun h59 =>
     Pn.none)) (fun s14 h58 =>
     Pn.some (LpO.out [.wait 1, .mask [0, 1, 2, 3, 4, 18, 19, 20, 21, 22], .ren [0], .join 5 (X.out 8) (st 220 [(0, V.ow 0), (1, V.sc (.int .i64 o_)), (2, V.sc (.int .i64 a2)), (3, V.sc (.int .i64 a3)), (4, V.fn 29 []), (18, V.sc (.int .i64 (i64 (bshr .u64 (u64 (i64 (o_ + a3))) 1)))), (19, V.sc (.int .i64 (i64 ((i64 (bshr .u64 (u64 (i64 (o_ + a3))) 1)) + a2)))), (20, V.sc (.int .i64 v11))] [Blk.row 43 (List.map E43 v13) []] [some 0]), .wait 1, .mask [0, 1, 2, 3, 4, 18, 19, 20], .ren [0]] (p := [HT Tryz.prog (sub (codeOf Tryz.prog 75) [1, 1, 1, 1, 1, 1, 1, 0, 0, 0, 0]) (st 220 [(0, V.ow 0), (1, V.sc (.int .i64 o_)), (2, V.sc (.int .i64 a2)), (3, V.sc (.int .i64 a3)), (4, V.fn 29 []), (18, V.sc (.int .i64 (i64 (bshr .u64 (u64 (i64 (o_ + a3))) 1)))), (19, V.sc (.int .i64 (i64 ((i64 (bshr .u64 (u64 (i64 (o_ + a3))) 1)) + a2)))), (20, V.sc (.int .i64 v11)), (21, V.sc (.int .i64 v12)), (22, V.sc (.int .i64 (i64 ((i64 ((i64 (bshr .u64 (u64 (i64 (o_ + a3))) 1)) + a2)) - 1))))] [Blk.row 43 (List.map E43 v13) []] [some 0]) (X.out 8) (st 220 [(0, V.ow 0), (1, V.sc (.int .i64 o_)), (2, V.sc (.int .i64 a2)), (3, V.sc (.int .i64 a3)), (4, V.fn 29 []), (18, V.sc (.int .i64 (i64 (bshr .u64 (u64 (i64 (o_ + a3))) 1)))), (19, V.sc (.int .i64 (i64 ((i64 (bshr .u64 (u64 (i64 (o_ + a3))) 1)) + a2)))), (20, V.sc (.int .i64 v11))] [Blk.row 43 (List.map E43 v13) []] [some 0])]) (by kernel_rfl) (show X.out 8 ≠ X.go from nofun) (cj1 ((slices_symMergeCmpFunc_impl_Acct_impl_Gather_1_c12_ok o_ a2 a3 v11 v12 v13 r14 h56).at h58)))))
def slices_symMergeCmpFunc_impl_Acct_impl_Gather_1_c13 (o_ : Int) (a2 : Int) (a3 : Int) (r16 : Int × (List Acct)) : Option ((List Acct)) :=
 if (decide (r16.1 < a2)) = true then
 if (decide (a2 < (i64 ((i64 ((i64 (bshr .u64 (u64 (i64 (o_ + a3))) 1)) + a2)) - r16.1)))) = true then
 (slices_rotateCmpFunc_impl_Acct_impl_Gather_1 r16.2 r16.1 a2 (i64 ((i64 ((i64 (bshr .u64 (u64 (i64 (o_ + a3))) 1)) + a2)) - r16.1))).bind fun r17 =>
 some r17
 else
 some r16.2
 else
 some r16.2
theorem slices_symMergeCmpFunc_impl_Acct_impl_Gather_1_c13_ok (o_ : Int) (a2 : Int) (a3 : Int) (r16 : Int × (List Acct)) : Pn (JnO Tryz.prog (sub (codeOf Tryz.prog 75) [1, 1, 1, 1, 1, 1, 1, 1, 1, 0]) (st 220 [(0, V.ow 0), (1, V.sc (.int .i64 o_)), (2, V.sc (.int .i64 a2)), (3, V.sc (.int .i64 a3)), (4, V.fn 29 []), (18, V.sc (.int .i64 (i64 (bshr .u64 (u64 (i64 (o_ + a3))) 1)))), (20, V.sc (.int .i64 r16.1)), (24, V.sc (.int .i64 (i64 ((i64 ((i64 (bshr .u64 (u64 (i64 (o_ + a3))) 1)) + a2)) - r16.1))))] [Blk.row 43 (List.map E43 r16.2) []] [some 0]) (fun (y : (List Acct)) => (X.go, st 220 [(0, V.ow 0), (1, V.sc (.int .i64 o_)), (3, V.sc (.int .i64 a3)), (4, V.fn 29 []), (18, V.sc (.int .i64 (i64 (bshr .u64 (u64 (i64 (o_ + a3))) 1)))), (20, V.sc (.int .i64 r16.1)), (24, V.sc (.int .i64 (i64 ((i64 ((i64 (bshr .u64 (u64 (i64 (o_ + a3))) 1)) + a2)) - r16.1))))] [Blk.row 43 (List.map E43 y) []] [some 0]))) (slices_symMergeCmpFunc_impl_Acct_impl_Gather_1_c13 o_ a2 a3 r16) := by
  unfold slices_symMergeCmpFunc_impl_Acct_impl_Gather_1_c13
  exact
   Pn.ite (fun h67 =>
   Pn.ite (fun h68 =>
   Pn.bind (fun r17 h69 =>
   Pn.some (JnO.of [.bit true, .bit true, .bit true, .bit true, .bit true, .call [true, false, false, false, false] (V.tup []) [V.sl true 43 (List.map E43 r17)], .wait 1, .mask [0, 1, 3, 4, 18, 20, 24], .ren [0]] (p := [(decide (r16.1 < a2)) = true,
    (decide (r16.1 < a2)) = true,
    (decide (r16.1 < a2)) = true,
    (decide (r16.1 < a2)) = true,
    (decide (a2 < (i64 ((i64 ((i64 (bshr .u64 (u64 (i64 (o_ + a3))) 1)) + a2)) - r16.1)))) = true,
    Fn Tryz.prog 97 [(true, E34 r16.2), (false, E3 r16.1), (false, E3 a2), (false, E3 (i64 ((i64 ((i64 (bshr .u64 (u64 (i64 (o_ + a3))) 1)) + a2)) - r16.1))), (false, V.fn 29 [])] (V.tup []) [V.sl true 43 (List.map E43 r17)],
    (true || ((V.tup []).nv && nvL [V.sl true 43 (List.map E43 r17)])) = true]) (by kernel_rfl) (cj h67 (cj h67 (cj h67 (cj h67 (cj h68 (cj (slices_rotateCmpFunc_impl_Acct_impl_Gather_1_ok r16.2 r16.1 a2 (i64 ((i64 ((i64 (bshr .u64 (u64 (i64 (o_ + a3))) 1)) + a2)) - r16.1)) r17 h69) (cj1 rfl)))))))))) (fun h68 =>
   Pn.some (JnO.of [.bit true, .bit true, .bit true, .bit true, .bit false, .mask [0, 1, 3, 4, 18, 20, 24], .ren [0]] (p := [(decide (r16.1 < a2)) = true,
    (decide (r16.1 < a2)) = true,
    (decide (r16.1 < a2)) = true,
    (decide (r16.1 < a2)) = true,
    (decide (a2 < (i64 ((i64 ((i64 (bshr .u64 (u64 (i64 (o_ + a3))) 1)) + a2)) - r16.1)))) = false]) (by kernel_rfl) (cj h67 (cj h67 (cj h67 (cj h67 (cj1 h68)))))))) (fun h67 =>
   Pn.some (JnO.of [.bit false, .bit false, .bit false, .bit false, .bit false, .mask [0, 1, 3, 4, 18, 20, 24], .ren [0]] (p := [(decide (r16.1 < a2)) = false,
    (decide (r16.1 < a2)) = false,
    (decide (r16.1 < a2)) = false,
    (decide (r16.1 < a2)) = false,
    false = false]) (by kernel_rfl) (cj h67 (cj h67 (cj h67 (cj h67 (cj1 rfl)))))))
def slices_symMergeCmpFunc_impl_Acct_impl_Gather_1 : Nat → (List Acct) → Int → Int → Int → Option ((List Acct))
  | 0, _, _, _, _ => none
  | fuel + 1, o, o_, a2, a3 =>
   (slices_symMergeCmpFunc_impl_Acct_impl_Gather_1_c0 o o_ a2 a3).bind fun r6 =>
   Lo.elim r6 (fun s5 =>
   (slices_symMergeCmpFunc_impl_Acct_impl_Gather_1_c5 o o_ a2 a3).bind fun r12 =>
   Lo.elim r12 (fun s11 =>
   (slices_symMergeCmpFunc_impl_Acct_impl_Gather_1_c10 o o_ a2 a3).bind fun r13 =>
   (slices_symMergeCmpFunc_impl_Acct_impl_Gather_1_l4 o_ a2 a3 FUEL r13.1 r13.2 o).bind fun r16 =>
   (slices_symMergeCmpFunc_impl_Acct_impl_Gather_1_c13 o_ a2 a3 r16).bind fun r18 =>
   if (decide (o_ < r16.1)) = true then
   if (decide (r16.1 < (i64 (bshr .u64 (u64 (i64 (o_ + a3))) 1)))) = true then
   (slices_symMergeCmpFunc_impl_Acct_impl_Gather_1 fuel r18 o_ r16.1 (i64 (bshr .u64 (u64 (i64 (o_ + a3))) 1))).bind fun r19 =>
   if (decide ((i64 (bshr .u64 (u64 (i64 (o_ + a3))) 1)) < (i64 ((i64 ((i64 (bshr .u64 (u64 (i64 (o_ + a3))) 1)) + a2)) - r16.1)))) = true then
   if (decide ((i64 ((i64 ((i64 (bshr .u64 (u64 (i64 (o_ + a3))) 1)) + a2)) - r16.1)) < a3)) = true then
   (slices_symMergeCmpFunc_impl_Acct_impl_Gather_1 fuel r19 (i64 (bshr .u64 (u64 (i64 (o_ + a3))) 1)) (i64 ((i64 ((i64 (bshr .u64 (u64 (i64 (o_ + a3))) 1)) + a2)) - r16.1)) a3).bind fun r20 =>
   some r20
   else
   some r19
   else
   some r19
   else
   if (decide ((i64 (bshr .u64 (u64 (i64 (o_ + a3))) 1)) < (i64 ((i64 ((i64 (bshr .u64 (u64 (i64 (o_ + a3))) 1)) + a2)) - r16.1)))) = true then
   if (decide ((i64 ((i64 ((i64 (bshr .u64 (u64 (i64 (o_ + a3))) 1)) + a2)) - r16.1)) < a3)) = true then
   (slices_symMergeCmpFunc_impl_Acct_impl_Gather_1 fuel r18 (i64 (bshr .u64 (u64 (i64 (o_ + a3))) 1)) (i64 ((i64 ((i64 (bshr .u64 (u64 (i64 (o_ + a3))) 1)) + a2)) - r16.1)) a3).bind fun r21 =>
   some r21
   else
   some r18
   else
   some r18
   else
   if (decide ((i64 (bshr .u64 (u64 (i64 (o_ + a3))) 1)) < (i64 ((i64 ((i64 (bshr .u64 (u64 (i64 (o_ + a3))) 1)) + a2)) - r16.1)))) = true then
   if (decide ((i64 ((i64 ((i64 (bshr .u64 (u64 (i64 (o_ + a3))) 1)) + a2)) - r16.1)) < a3)) = true then
   (slices_symMergeCmpFunc_impl_Acct_impl_Gather_1 fuel r18 (i64 (bshr .u64 (u64 (i64 (o_ + a3))) 1)) (i64 ((i64 ((i64 (bshr .u64 (u64 (i64 (o_ + a3))) 1)) + a2)) - r16.1)) a3).bind fun r22 =>
   some r22
   else
   some r18
   else
   some r18) (fun s12 =>
   some s12)) (fun s6 =>
   some s6)
set_option maxHeartbeats 4000000 in
theorem slices_symMergeCmpFunc_impl_Acct_impl_Gather_1_ok : ∀ (fuel : Nat) (o : List Acct) (o_ : Int) (a2 : Int) (a3 : Int), Pn (fun y => Fn Tryz.prog 75 [(true, E34 o), (false, E3 o_), (false, E3 a2), (false, E3 a3), (false, V.fn 29 [])] (V.tup []) [V.sl true 43 (List.map E43 y)]) (slices_symMergeCmpFunc_impl_Acct_impl_Gather_1 fuel o o_ a2 a3)
  | 0, _, _, _, _ => Pn.none
  | fuel + 1, o, o_, a2, a3 => by
    unfold slices_symMergeCmpFunc_impl_Acct_impl_Gather_1
    exact
     Pn.bind (fun r6 h24 =>
     Pn.lo (fun s5 h25 =>
     Pn.bind (fun r12 h50 =>
     Pn.lo (fun s11 h51 =>
     Pn.bind (fun r13 h54 =>
     Pn.bind (fun r16 h66 =>
     Pn.bind (fun r18 h70 =>
     Pn.ite (fun h71 =>
     Pn.ite (fun h72 =>
     Pn.bind (fun r19 h73 =>
     Pn.ite (fun h74 =>
     Pn.ite (fun h75 =>
     Pn.bind (fun r20 h76 =>
     Pn.some (Fn.of [.wait 1, .mask [0, 1, 2, 3, 4], .ren [0], .join 41 (X.go) (st 220 [(0, V.ow 0), (1, V.sc (.int .i64 o_)), (2, V.sc (.int .i64 a2)), (3, V.sc (.int .i64 a3)), (4, V.fn 29 [])] [Blk.row 43 (List.map E43 o) []] [some 0]), .wait 1, .mask [0, 1, 2, 3, 4], .ren [0], .join 41 (X.go) (st 220 [(0, V.ow 0), (1, V.sc (.int .i64 o_)), (2, V.sc (.int .i64 a2)), (3, V.sc (.int .i64 a3)), (4, V.fn 29 [])] [Blk.row 43 (List.map E43 o) []] [some 0]), .wait 14, .mask [0, 1, 2, 3, 4, 18, 19], .ren [0], .join 9 (X.go) (st 220 [(0, V.ow 0), (1, V.sc (.int .i64 o_)), (2, V.sc (.int .i64 a2)), (3, V.sc (.int .i64 a3)), (4, V.fn 29 []), (18, V.sc (.int .i64 (i64 (bshr .u64 (u64 (i64 (o_ + a3))) 1)))), (19, V.sc (.int .i64 (i64 ((i64 (bshr .u64 (u64 (i64 (o_ + a3))) 1)) + a2)))), (20, V.sc (.int .i64 r13.1)), (21, V.sc (.int .i64 r13.2))] [Blk.row 43 (List.map E43 o) []] [some 0]), .wait 4, .mask [0, 1, 2, 3, 4, 18, 19, 20, 21, 22], .ren [0], .loop (X.out 8) (st 220 [(0, V.ow 0), (1, V.sc (.int .i64 o_)), (2, V.sc (.int .i64 a2)), (3, V.sc (.int .i64 a3)), (4, V.fn 29 []), (18, V.sc (.int .i64 (i64 (bshr .u64 (u64 (i64 (o_ + a3))) 1)))), (19, V.sc (.int .i64 (i64 ((i64 (bshr .u64 (u64 (i64 (o_ + a3))) 1)) + a2)))), (20, V.sc (.int .i64 r16.1))] [Blk.row 43 (List.map E43 r16.2) []] [some 0]), .wait 5, .mask [0, 1, 2, 3, 4, 18, 20, 24], .ren [0], .join 5 (X.go) (st 220 [(0, V.ow 0), (1, V.sc (.int .i64 o_)), (3, V.sc (.int .i64 a3)), (4, V.fn 29 []), (18, V.sc (.int .i64 (i64 (bshr .u64 (u64 (i64 (o_ + a3))) 1)))), (20, V.sc (.int .i64 r16.1)), (24, V.sc (.int .i64 (i64 ((i64 ((i64 (bshr .u64 (u64 (i64 (o_ + a3))) 1)) + a2)) - r16.1))))] [Blk.row 43 (List.map E43 r18) []] [some 0]), .bit true, .bit true, .bit true, .bit true, .bit true, .call [true, false, false, false, false] (V.tup []) [V.sl true 43 (List.map E43 r19)], .bit true, .bit true, .bit true, .bit true, .bit true, .call [true, false, false, false, false] (V.tup []) [V.sl true 43 (List.map E43 r20)]] (p := [HT Tryz.prog (sub (codeOf Tryz.prog 75) [0]) (st 220 [(0, V.ow 0), (1, V.sc (.int .i64 o_)), (2, V.sc (.int .i64 a2)), (3, V.sc (.int .i64 a3)), (4, V.fn 29 [])] [Blk.row 43 (List.map E43 o) []] [some 0]) (X.go) (st 220 [(0, V.ow 0), (1, V.sc (.int .i64 o_)), (2, V.sc (.int .i64 a2)), (3, V.sc (.int .i64 a3)), (4, V.fn 29 [])] [Blk.row 43 (List.map E43 o) []] [some 0]),
      HT Tryz.prog (sub (codeOf Tryz.prog 75) [1, 0]) (st 220 [(0, V.ow 0), (1, V.sc (.int .i64 o_)), (2, V.sc (.int .i64 a2)), (3, V.sc (.int .i64 a3)), (4, V.fn 29 [])] [Blk.row 43 (List.map E43 o) []] [some 0]) (X.go) (st 220 [(0, V.ow 0), (1, V.sc (.int .i64 o_)), (2, V.sc (.int .i64 a2)), (3, V.sc (.int .i64 a3)), (4, V.fn 29 [])] [Blk.row 43 (List.map E43 o) []] [some 0]),
      ¬ (1 : Int) < 0,
      HT Tryz.prog (sub (codeOf Tryz.prog 75) [1, 1, 1, 1, 1, 0]) (st 220 [(0, V.ow 0), (1, V.sc (.int .i64 o_)), (2, V.sc (.int .i64 a2)), (3, V.sc (.int .i64 a3)), (4, V.fn 29 []), (18, V.sc (.int .i64 (i64 (bshr .u64 (u64 (i64 (o_ + a3))) 1)))), (19, V.sc (.int .i64 (i64 ((i64 (bshr .u64 (u64 (i64 (o_ + a3))) 1)) + a2))))] [Blk.row 43 (List.map E43 o) []] [some 0]) (X.go) (st 220 [(0, V.ow 0), (1, V.sc (.int .i64 o_)), (2, V.sc (.int .i64 a2)), (3, V.sc (.int .i64 a3)), (4, V.fn 29 []), (18, V.sc (.int .i64 (i64 (bshr .u64 (u64 (i64 (o_ + a3))) 1)))), (19, V.sc (.int .i64 (i64 ((i64 (bshr .u64 (u64 (i64 (o_ + a3))) 1)) + a2)))), (20, V.sc (.int .i64 r13.1)), (21, V.sc (.int .i64 r13.2))] [Blk.row 43 (List.map E43 o) []] [some 0]),
      Loop Tryz.prog (sub (codeOf Tryz.prog 75) [1, 1, 1, 1, 1, 1, 1, 0, 0, 0]) (st 220 [(0, V.ow 0), (1, V.sc (.int .i64 o_)), (2, V.sc (.int .i64 a2)), (3, V.sc (.int .i64 a3)), (4, V.fn 29 []), (18, V.sc (.int .i64 (i64 (bshr .u64 (u64 (i64 (o_ + a3))) 1)))), (19, V.sc (.int .i64 (i64 ((i64 (bshr .u64 (u64 (i64 (o_ + a3))) 1)) + a2)))), (20, V.sc (.int .i64 r13.1)), (21, V.sc (.int .i64 r13.2)), (22, V.sc (.int .i64 (i64 ((i64 ((i64 (bshr .u64 (u64 (i64 (o_ + a3))) 1)) + a2)) - 1))))] [Blk.row 43 (List.map E43 o) []] [some 0]) (X.out 8) (st 220 [(0, V.ow 0), (1, V.sc (.int .i64 o_)), (2, V.sc (.int .i64 a2)), (3, V.sc (.int .i64 a3)), (4, V.fn 29 []), (18, V.sc (.int .i64 (i64 (bshr .u64 (u64 (i64 (o_ + a3))) 1)))), (19, V.sc (.int .i64 (i64 ((i64 (bshr .u64 (u64 (i64 (o_ + a3))) 1)) + a2)))), (20, V.sc (.int .i64 r16.1))] [Blk.row 43 (List.map E43 r16.2) []] [some 0]),
      HT Tryz.prog (sub (codeOf Tryz.prog 75) [1, 1, 1, 1, 1, 1, 1, 1, 1, 0]) (st 220 [(0, V.ow 0), (1, V.sc (.int .i64 o_)), (2, V.sc (.int .i64 a2)), (3, V.sc (.int .i64 a3)), (4, V.fn 29 []), (18, V.sc (.int .i64 (i64 (bshr .u64 (u64 (i64 (o_ + a3))) 1)))), (20, V.sc (.int .i64 r16.1)), (24, V.sc (.int .i64 (i64 ((i64 ((i64 (bshr .u64 (u64 (i64 (o_ + a3))) 1)) + a2)) - r16.1))))] [Blk.row 43 (List.map E43 r16.2) []] [some 0]) (X.go) (st 220 [(0, V.ow 0), (1, V.sc (.int .i64 o_)), (3, V.sc (.int .i64 a3)), (4, V.fn 29 []), (18, V.sc (.int .i64 (i64 (bshr .u64 (u64 (i64 (o_ + a3))) 1)))), (20, V.sc (.int .i64 r16.1)), (24, V.sc (.int .i64 (i64 ((i64 ((i64 (bshr .u64 (u64 (i64 (o_ + a3))) 1)) + a2)) - r16.1))))] [Blk.row 43 (List.map E43 r18) []] [some 0]),
      (decide (o_ < r16.1)) = true,
      (decide (o_ < r16.1)) = true,
      (decide (o_ < r16.1)) = true,
      (decide (o_ < r16.1)) = true,
      (decide (r16.1 < (i64 (bshr .u64 (u64 (i64 (o_ + a3))) 1)))) = true,
      Fn Tryz.prog 75 [(true, E34 r18), (false, E3 o_), (false, E3 r16.1), (false, E3 (i64 (bshr .u64 (u64 (i64 (o_ + a3))) 1))), (false, V.fn 29 [])] (V.tup []) [V.sl true 43 (List.map E43 r19)],
      (true || ((V.tup []).nv && nvL [V.sl true 43 (List.map E43 r19)])) = true,
      (decide ((i64 (bshr .u64 (u64 (i64 (o_ + a3))) 1)) < (i64 ((i64 ((i64 (bshr .u64 (u64 (i64 (o_ + a3))) 1)) + a2)) - r16.1)))) = true,
      (decide ((i64 (bshr .u64 (u64 (i64 (o_ + a3))) 1)) < (i64 ((i64 ((i64 (bshr .u64 (u64 (i64 (o_ + a3))) 1)) + a2)) - r16.1)))) = true,
      (decide ((i64 (bshr .u64 (u64 (i64 (o_ + a3))) 1)) < (i64 ((i64 ((i64 (bshr .u64 (u64 (i64 (o_ + a3))) 1)) + a2)) - r16.1)))) = true,
      (decide ((i64 (bshr .u64 (u64 (i64 (o_ + a3))) 1)) < (i64 ((i64 ((i64 (bshr .u64 (u64 (i64 (o_ + a3))) 1)) + a2)) - r16.1)))) = true,
      (decide ((i64 ((i64 ((i64 (bshr .u64 (u64 (i64 (o_ + a3))) 1)) + a2)) - r16.1)) < a3)) = true,
      Fn Tryz.prog 75 [(true, E34 r19), (false, E3 (i64 (bshr .u64 (u64 (i64 (o_ + a3))) 1))), (false, E3 (i64 ((i64 ((i64 (bshr .u64 (u64 (i64 (o_ + a3))) 1)) + a2)) - r16.1))), (false, E3 a3), (false, V.fn 29 [])] (V.tup []) [V.sl true 43 (List.map E43 r20)],
      (true || ((V.tup []).nv && nvL [V.sl true 43 (List.map E43 r20)])) = true]) (by kernel_rfl) (cj ((slices_symMergeCmpFunc_impl_Acct_impl_Gather_1_c0_ok o o_ a2 a3 r6 h24).at h25) (cj ((slices_symMergeCmpFunc_impl_Acct_impl_Gather_1_c5_ok o o_ a2 a3 r12 h50).at h51) (cj (by decide) (cj (slices_symMergeCmpFunc_impl_Acct_impl_Gather_1_c10_ok o o_ a2 a3 r13 h54) (cj (slices_symMergeCmpFunc_impl_Acct_impl_Gather_1_l4_ok o_ a2 a3 FUEL r13.1 r13.2 o r16 h66) (cj (slices_symMergeCmpFunc_impl_Acct_impl_Gather_1_c13_ok o_ a2 a3 r16 r18 h70) (cj h71 (cj h71 (cj h71 (cj h71 (cj h72 (cj (slices_symMergeCmpFunc_impl_Acct_impl_Gather_1_ok fuel r18 o_ r16.1 (i64 (bshr .u64 (u64 (i64 (o_ + a3))) 1)) r19 h73) (cj rfl (cj h74 (cj h74 (cj h74 (cj h74 (cj h75 (cj (slices_symMergeCmpFunc_impl_Acct_impl_Gather_1_ok fuel r19 (i64 (bshr .u64 (u64 (i64 (o_ + a3))) 1)) (i64 ((i64 ((i64 (bshr .u64 (u64 (i64 (o_ + a3))) 1)) + a2)) - r16.1)) a3 r20 h76) (cj1 rfl))))))))))))))))))))))) (fun h75 =>
     Pn.some (Fn.of [.wait 1, .mask [0, 1, 2, 3, 4], .ren [0], .join 41 (X.go) (st 220 [(0, V.ow 0), (1, V.sc (.int .i64 o_)), (2, V.sc (.int .i64 a2)), (3, V.sc (.int .i64 a3)), (4, V.fn 29 [])] [Blk.row 43 (List.map E43 o) []] [some 0]), .wait 1, .mask [0, 1, 2, 3, 4], .ren [0], .join 41 (X.go) (st 220 [(0, V.ow 0), (1, V.sc (.int .i64 o_)), (2, V.sc (.int .i64 a2)), (3, V.sc (.int .i64 a3)), (4, V.fn 29 [])] [Blk.row 43 (List.map E43 o) []] [some 0]), .wait 14, .mask [0, 1, 2, 3, 4, 18, 19], .ren [0], .join 9 (X.go) (st 220 [(0, V.ow 0), (1, V.sc (.int .i64 o_)), (2, V.sc (.int .i64 a2)), (3, V.sc (.int .i64 a3)), (4, V.fn 29 []), (18, V.sc (.int .i64 (i64 (bshr .u64 (u64 (i64 (o_ + a3))) 1)))), (19, V.sc (.int .i64 (i64 ((i64 (bshr .u64 (u64 (i64 (o_ + a3))) 1)) + a2)))), (20, V.sc (.int .i64 r13.1)), (21, V.sc (.int .i64 r13.2))] [Blk.row 43 (List.map E43 o) []] [some 0]), .wait 4, .mask [0, 1, 2, 3, 4, 18, 19, 20, 21, 22], .ren [0], .loop (X.out 8) (st 220 [(0, V.ow 0), (1, V.sc (.int .i64 o_)), (2, V.sc (.int .i64 a2)), (3, V.sc (.int .i64 a3)), (4, V.fn 29 []), (18, V.sc (.int .i64 (i64 (bshr .u64 (u64 (i64 (o_ + a3))) 1)))), (19, V.sc (.int .i64 (i64 ((i64 (bshr .u64 (u64 (i64 (o_ + a3))) 1)) + a2)))), (20, V.sc (.int .i64 r16.1))] [Blk.row 43 (List.map E43 r16.2) []] [some 0]), .wait 5, .mask [0, 1, 2, 3, 4, 18, 20, 24], .ren [0], .join 5 (X.go) (st 220 [(0, V.ow 0), (1, V.sc (.int .i64 o_)), (3, V.sc (.int .i64 a3)), (4, V.fn 29 []), (18, V.sc (.int .i64 (i64 (bshr .u64 (u64 (i64 (o_ + a3))) 1)))), (20, V.sc (.int .i64 r16.1)), (24, V.sc (.int .i64 (i64 ((i64 ((i64 (bshr .u64 (u64 (i64 (o_ + a3))) 1)) + a2)) - r16.1))))] [Blk.row 43 (List.map E43 r18) []] [some 0]), .bit true, .bit true, .bit true, .bit true, .bit true, .call [true, false, false, false, false] (V.tup []) [V.sl true 43 (List.map E43 r19)], .bit true, .bit true, .bit true, .bit true, .bit false] (p := [HT Tryz.prog (sub (codeOf Tryz.prog 75) [0]) (st 220 [(0, V.ow 0), (1, V.sc (.int .i64 o_)), (2, V.sc (.int .i64 a2)), (3, V.sc (.int .i64 a3)), (4, V.fn 29 [])] [Blk.row 43 (List.map E43 o) []] [some 0]) (X.go) (st 220 [(0, V.ow 0), (1, V.sc (.int .i64 o_)), (2, V.sc (.int .i64 a2)), (3, V.sc (.int .i64 a3)), (4, V.fn 29 [])] [Blk.row 43 (List.map E43 o) []] [some 0]),
      HT Tryz.prog (sub (codeOf Tryz.prog 75) [1, 0]) (st 220 [(0, V.ow 0), (1, V.sc (.int .i64 o_)), (2, V.sc (.int .i64 a2)), (3, V.sc (.int .i64 a3)), (4, V.fn 29 [])] [Blk.row 43 (List.map E43 o) []] [some 0]) (X.go) (st 220 [(0, V.ow 0), (1, V.sc (.int .i64 o_)), (2, V.sc (.int .i64 a2)), (3, V.sc (.int .i64 a3)), (4, V.fn 29 [])] [Blk.row 43 (List.map E43 o) []] [some 0]),
      ¬ (1 : Int) < 0,
      HT Tryz.prog (sub (codeOf Tryz.prog 75) [1, 1, 1, 1, 1, 0]) (st 220 [(0, V.ow 0), (1, V.sc (.int .i64 o_)), (2, V.sc (.int .i64 a2)), (3, V.sc (.int .i64 a3)), (4, V.fn 29 []), (18, V.sc (.int .i64 (i64 (bshr .u64 (u64 (i64 (o_ + a3))) 1)))), (19, V.sc (.int .i64 (i64 ((i64 (bshr .u64 (u64 (i64 (o_ + a3))) 1)) + a2))))] [Blk.row 43 (List.map E43 o) []] [some 0]) (X.go) (st 220 [(0, V.ow 0), (1, V.sc (.int .i64 o_)), (2, V.sc (.int .i64 a2)), (3, V.sc (.int .i64 a3)), (4, V.fn 29 []), (18, V.sc (.int .i64 (i64 (bshr .u64 (u64 (i64 (o_ + a3))) 1)))), (19, V.sc (.int .i64 (i64 ((i64 (bshr .u64 (u64 (i64 (o_ + a3))) 1)) + a2)))), (20, V.sc (.int .i64 r13.1)), (21, V.sc (.int .i64 r13.2))] [Blk.row 43 (List.map E43 o) []] [some 0]),
      Loop Tryz.prog (sub (codeOf Tryz.prog 75) [1, 1, 1, 1, 1, 1, 1, 0, 0, 0]) (st 220 [(0, V.ow 0), (1, V.sc (.int .i64 o_)), (2, V.sc (.int .i64 a2)), (3, V.sc (.int .i64 a3)), (4, V.fn 29 []), (18, V.sc (.int .i64 (i64 (bshr .u64 (u64 (i64 (o_ + a3))) 1)))), (19, V.sc (.int .i64 (i64 ((i64 (bshr .u64 (u64 (i64 (o_ + a3))) 1)) + a2)))), (20, V.sc (.int .i64 r13.1)), (21, V.sc (.int .i64 r13.2)), (22, V.sc (.int .i64 (i64 ((i64 ((i64 (bshr .u64 (u64 (i64 (o_ + a3))) 1)) + a2)) - 1))))] [Blk.row 43 (List.map E43 o) []] [some 0]) (X.out 8) (st 220 [(0, V.ow 0), (1, V.sc (.int .i64 o_)), (2, V.sc (.int .i64 a2)), (3, V.sc (.int .i64 a3)), (4, V.fn 29 []), (18, V.sc (.int .i64 (i64 (bshr .u64 (u64 (i64 (o_ + a3))) 1)))), (19, V.sc (.int .i64 (i64 ((i64 (bshr .u64 (u64 (i64 (o_ + a3))) 1)) + a2)))), (20, V.sc (.int .i64 r16.1))] [Blk.row 43 (List.map E43 r16.2) []] [some 0]),
      HT Tryz.prog (sub (codeOf Tryz.prog 75) [1, 1, 1, 1, 1, 1, 1, 1, 1, 0]) (st 220 [(0, V.ow 0), (1, V.sc (.int .i64 o_)), (2, V.sc (.int .i64 a2)), (3, V.sc (.int .i64 a3)), (4, V.fn 29 []), (18, V.sc (.int .i64 (i64 (bshr .u64 (u64 (i64 (o_ + a3))) 1)))), (20, V.sc (.int .i64 r16.1)), (24, V.sc (.int .i64 (i64 ((i64 ((i64 (bshr .u64 (u64 (i64 (o_ + a3))) 1)) + a2)) - r16.1))))] [Blk.row 43 (List.map E43 r16.2) []] [some 0]) (X.go) (st 220 [(0, V.ow 0), (1, V.sc (.int .i64 o_)), (3, V.sc (.int .i64 a3)), (4, V.fn 29 []), (18, V.sc (.int .i64 (i64 (bshr .u64 (u64 (i64 (o_ + a3))) 1)))), (20, V.sc (.int .i64 r16.1)), (24, V.sc (.int .i64 (i64 ((i64 ((i64 (bshr .u64 (u64 (i64 (o_ + a3))) 1)) + a2)) - r16.1))))] [Blk.row 43 (List.map E43 r18) []] [some 0]),
      (decide (o_ < r16.1)) = true,
      (decide (o_ < r16.1)) = true,
      (decide (o_ < r16.1)) = true,
      (decide (o_ < r16.1)) = true,
      (decide (r16.1 < (i64 (bshr .u64 (u64 (i64 (o_ + a3))) 1)))) = true,
      Fn Tryz.prog 75 [(true, E34 r18), (false, E3 o_), (false, E3 r16.1), (false, E3 (i64 (bshr .u64 (u64 (i64 (o_ + a3))) 1))), (false, V.fn 29 [])] (V.tup []) [V.sl true 43 (List.map E43 r19)],
      (true || ((V.tup []).nv && nvL [V.sl true 43 (List.map E43 r19)])) = true,
      (decide ((i64 (bshr .u64 (u64 (i64 (o_ + a3))) 1)) < (i64 ((i64 ((i64 (bshr .u64 (u64 (i64 (o_ + a3))) 1)) + a2)) - r16.1)))) = true,
      (decide ((i64 (bshr .u64 (u64 (i64 (o_ + a3))) 1)) < (i64 ((i64 ((i64 (bshr .u64 (u64 (i64 (o_ + a3))) 1)) + a2)) - r16.1)))) = true,
      (decide ((i64 (bshr .u64 (u64 (i64 (o_ + a3))) 1)) < (i64 ((i64 ((i64 (bshr .u64 (u64 (i64 (o_ + a3))) 1)) + a2)) - r16.1)))) = true,
      (decide ((i64 (bshr .u64 (u64 (i64 (o_ + a3))) 1)) < (i64 ((i64 ((i64 (bshr .u64 (u64 (i64 (o_ + a3))) 1)) + a2)) - r16.1)))) = true,
      (decide ((i64 ((i64 ((i64 (bshr .u64 (u64 (i64 (o_ + a3))) 1)) + a2)) - r16.1)) < a3)) = false]) (by kernel_rfl) (cj ((slices_symMergeCmpFunc_impl_Acct_impl_Gather_1_c0_ok o o_ a2 a3 r6 h24).at h25) (cj ((slices_symMergeCmpFunc_impl_Acct_impl_Gather_1_c5_ok o o_ a2 a3 r12 h50).at h51) (cj (by decide) (cj (slices_symMergeCmpFunc_impl_Acct_impl_Gather_1_c10_ok o o_ a2 a3 r13 h54) (cj (slices_symMergeCmpFunc_impl_Acct_impl_Gather_1_l4_ok o_ a2 a3 FUEL r13.1 r13.2 o r16 h66) (cj (slices_symMergeCmpFunc_impl_Acct_impl_Gather_1_c13_ok o_ a2 a3 r16 r18 h70) (cj h71 (cj h71 (cj h71 (cj h71 (cj h72 (cj (slices_symMergeCmpFunc_impl_Acct_impl_Gather_1_ok fuel r18 o_ r16.1 (i64 (bshr .u64 (u64 (i64 (o_ + a3))) 1)) r19 h73) (cj rfl (cj h74 (cj h74 (cj h74 (cj h74 (cj1 h75))))))))))))))))))))) (fun h74 =>
     Pn.some (Fn.of [.wait 1, .mask [0, 1, 2, 3, 4], .ren [0], .join 41 (X.go) (st 220 [(0, V.ow 0), (1, V.sc (.int .i64 o_)), (2, V.sc (.int .i64 a2)), (3, V.sc (.int .i64 a3)), (4, V.fn 29 [])] [Blk.row 43 (List.map E43 o) []] [some 0]), .wait 1, .mask [0, 1, 2, 3, 4], .ren [0], .join 41 (X.go) (st 220 [(0, V.ow 0), (1, V.sc (.int .i64 o_)), (2, V.sc (.int .i64 a2)), (3, V.sc (.int .i64 a3)), (4, V.fn 29 [])] [Blk.row 43 (List.map E43 o) []] [some 0]), .wait 14, .mask [0, 1, 2, 3, 4, 18, 19], .ren [0], .join 9 (X.go) (st 220 [(0, V.ow 0), (1, V.sc (.int .i64 o_)), (2, V.sc (.int .i64 a2)), (3, V.sc (.int .i64 a3)), (4, V.fn 29 []), (18, V.sc (.int .i64 (i64 (bshr .u64 (u64 (i64 (o_ + a3))) 1)))), (19, V.sc (.int .i64 (i64 ((i64 (bshr .u64 (u64 (i64 (o_ + a3))) 1)) + a2)))), (20, V.sc (.int .i64 r13.1)), (21, V.sc (.int .i64 r13.2))] [Blk.row 43 (List.map E43 o) []] [some 0]), .wait 4, .mask [0, 1, 2, 3, 4, 18, 19, 20, 21, 22], .ren [0], .loop (X.out 8) (st 220 [(0, V.ow 0), (1, V.sc (.int .i64 o_)), (2, V.sc (.int .i64 a2)), (3, V.sc (.int .i64 a3)), (4, V.fn 29 []), (18, V.sc (.int .i64 (i64 (bshr .u64 (u64 (i64 (o_ + a3))) 1)))), (19, V.sc (.int .i64 (i64 ((i64 (bshr .u64 (u64 (i64 (o_ + a3))) 1)) + a2)))), (20, V.sc (.int .i64 r16.1))] [Blk.row 43 (List.map E43 r16.2) []] [some 0]), .wait 5, .mask [0, 1, 2, 3, 4, 18, 20, 24], .ren [0], .join 5 (X.go) (st 220 [(0, V.ow 0), (1, V.sc (.int .i64 o_)), (3, V.sc (.int .i64 a3)), (4, V.fn 29 []), (18, V.sc (.int .i64 (i64 (bshr .u64 (u64 (i64 (o_ + a3))) 1)))), (20, V.sc (.int .i64 r16.1)), (24, V.sc (.int .i64 (i64 ((i64 ((i64 (bshr .u64 (u64 (i64 (o_ + a3))) 1)) + a2)) - r16.1))))] [Blk.row 43 (List.map E43 r18) []] [some 0]), .bit true, .bit true, .bit true, .bit true, .bit true, .call [true, false, false, false, false] (V.tup []) [V.sl true 43 (List.map E43 r19)], .bit false, .bit false, .bit false, .bit false, .bit false] (p := [HT Tryz.prog (sub (codeOf Tryz.prog 75) [0]) (st 220 [(0, V.ow 0), (1, V.sc (.int .i64 o_)), (2, V.sc (.int .i64 a2)), (3, V.sc (.int .i64 a3)), (4, V.fn 29 [])] [Blk.row 43 (List.map E43 o) []] [some 0]) (X.go) (st 220 [(0, V.ow 0), (1, V.sc (.int .i64 o_)), (2, V.sc (.int .i64 a2)), (3, V.sc (.int .i64 a3)), (4, V.fn 29 [])] [Blk.row 43 (List.map E43 o) []] [some 0]),
      HT Tryz.prog (sub (codeOf Tryz.prog 75) [1, 0]) (st 220 [(0, V.ow 0), (1, V.sc (.int .i64 o_)), (2, V.sc (.int .i64 a2)), (3, V.sc (.int .i64 a3)), (4, V.fn 29 [])] [Blk.row 43 (List.map E43 o) []] [some 0]) (X.go) (st 220 [(0, V.ow 0), (1, V.sc (.int .i64 o_)), (2, V.sc (.int .i64 a2)), (3, V.sc (.int .i64 a3)), (4, V.fn 29 [])] [Blk.row 43 (List.map E43 o) []] [some 0]),
      ¬ (1 : Int) < 0,
      HT Tryz.prog (sub (codeOf Tryz.prog 75) [1, 1, 1, 1, 1, 0]) (st 220 [(0, V.ow 0), (1, V.sc (.int .i64 o_)), (2, V.sc (.int .i64 a2)), (3, V.sc (.int .i64 a3)), (4, V.fn 29 []), (18, V.sc (.int .i64 (i64 (bshr .u64 (u64 (i64 (o_ + a3))) 1)))), (19, V.sc (.int .i64 (i64 ((i64 (bshr .u64 (u64 (i64 (o_ + a3))) 1)) + a2))))] [Blk.row 43 (List.map E43 o) []] [some 0]) (X.go) (st 220 [(0, V.ow 0), (1, V.sc (.int .i64 o_)), (2, V.sc (.int .i64 a2)), (3, V.sc (.int .i64 a3)), (4, V.fn 29 []), (18, V.sc (.int .i64 (i64 (bshr .u64 (u64 (i64 (o_ + a3))) 1)))), (19, V.sc (.int .i64 (i64 ((i64 (bshr .u64 (u64 (i64 (o_ + a3))) 1)) + a2)))), (20, V.sc (.int .i64 r13.1)), (21, V.sc (.int .i64 r13.2))] [Blk.row 43 (List.map E43 o) []] [some 0]),
      Loop Tryz.prog (sub (codeOf Tryz.prog 75) [1, 1, 1, 1, 1, 1, 1, 0, 0, 0]) (st 220 [(0, V.ow 0), (1, V.sc (.int .i64 o_)), (2, V.sc (.int .i64 a2)), (3, V.sc (.int .i64 a3)), (4, V.fn 29 []), (18, V.sc (.int .i64 (i64 (bshr .u64 (u64 (i64 (o_ + a3))) 1)))), (19, V.sc (.int .i64 (i64 ((i64 (bshr .u64 (u64 (i64 (o_ + a3))) 1)) + a2)))), (20, V.sc (.int .i64 r13.1)), (21, V.sc (.int .i64 r13.2)), (22, V.sc (.int .i64 (i64 ((i64 ((i64 (bshr .u64 (u64 (i64 (o_ + a3))) 1)) + a2)) - 1))))] [Blk.row 43 (List.map E43 o) []] [some 0]) (X.out 8) (st 220 [(0, V.ow 0), (1, V.sc (.int .i64 o_)), (2, V.sc (.int .i64 a2)), (3, V.sc (.int .i64 a3)), (4, V.fn 29 []), (18, V.sc (.int .i64 (i64 (bshr .u64 (u64 (i64 (o_ + a3))) 1)))), (19, V.sc (.int .i64 (i64 ((i64 (bshr .u64 (u64 (i64 (o_ + a3))) 1)) + a2)))), (20, V.sc (.int .i64 r16.1))] [Blk.row 43 (List.map E43 r16.2) []] [some 0]),
      HT Tryz.prog (sub (codeOf Tryz.prog 75) [1, 1, 1, 1, 1, 1, 1, 1, 1, 0]) (st 220 [(0, V.ow 0), (1, V.sc (.int .i64 o_)), (2, V.sc (.int .i64 a2)), (3, V.sc (.int .i64 a3)), (4, V.fn 29 []), (18, V.sc (.int .i64 (i64 (bshr .u64 (u64 (i64 (o_ + a3))) 1)))), (20, V.sc (.int .i64 r16.1)), (24, V.sc (.int .i64 (i64 ((i64 ((i64 (bshr .u64 (u64 (i64 (o_ + a3))) 1)) + a2)) - r16.1))))] [Blk.row 43 (List.map E43 r16.2) []] [some 0]) (X.go) (st 220 [(0, V.ow 0), (1, V.sc (.int .i64 o_)), (3, V.sc (.int .i64 a3)), (4, V.fn 29 []), (18, V.sc (.int .i64 (i64 (bshr .u64 (u64 (i64 (o_ + a3))) 1)))), (20, V.sc (.int .i64 r16.1)), (24, V.sc (.int .i64 (i64 ((i64 ((i64 (bshr .u64 (u64 (i64 (o_ + a3))) 1)) + a2)) - r16.1))))] [Blk.row 43 (List.map E43 r18) []] [some 0]),
      (decide (o_ < r16.1)) = true,
      (decide (o_ < r16.1)) = true,
      (decide (o_ < r16.1)) = true,
      (decide (o_ < r16.1)) = true,
      (decide (r16.1 < (i64 (bshr .u64 (u64 (i64 (o_ + a3))) 1)))) = true,
      Fn Tryz.prog 75 [(true, E34 r18), (false, E3 o_), (false, E3 r16.1), (false, E3 (i64 (bshr .u64 (u64 (i64 (o_ + a3))) 1))), (false, V.fn 29 [])] (V.tup []) [V.sl true 43 (List.map E43 r19)],
      (true || ((V.tup []).nv && nvL [V.sl true 43 (List.map E43 r19)])) = true,
      (decide ((i64 (bshr .u64 (u64 (i64 (o_ + a3))) 1)) < (i64 ((i64 ((i64 (bshr .u64 (u64 (i64 (o_ + a3))) 1)) + a2)) - r16.1)))) = false,
      (decide ((i64 (bshr .u64 (u64 (i64 (o_ + a3))) 1)) < (i64 ((i64 ((i64 (bshr .u64 (u64 (i64 (o_ + a3))) 1)) + a2)) - r16.1)))) = false,
      (decide ((i64 (bshr .u64 (u64 (i64 (o_ + a3))) 1)) < (i64 ((i64 ((i64 (bshr .u64 (u64 (i64 (o_ + a3))) 1)) + a2)) - r16.1)))) = false,
      (decide ((i64 (bshr .u64 (u64 (i64 (o_ + a3))) 1)) < (i64 ((i64 ((i64 (bshr .u64 (u64 (i64 (o_ + a3))) 1)) + a2)) - r16.1)))) = false,
      false = false]) (by kernel_rfl) (cj ((slices_symMergeCmpFunc_impl_Acct_impl_Gather_1_c0_ok o o_ a2 a3 r6 h24).at h25) (cj ((slices_symMergeCmpFunc_impl_Acct_impl_Gather_1_c5_ok o o_ a2 a3 r12 h50).at h51) (cj (by decide) (cj (slices_symMergeCmpFunc_impl_Acct_impl_Gather_1_c10_ok o o_ a2 a3 r13 h54) (cj (slices_symMergeCmpFunc_impl_Acct_impl_Gather_1_l4_ok o_ a2 a3 FUEL r13.1 r13.2 o r16 h66) (cj (slices_symMergeCmpFunc_impl_Acct_impl_Gather_1_c13_ok o_ a2 a3 r16 r18 h70) (cj h71 (cj h71 (cj h71 (cj h71 (cj h72 (cj (slices_symMergeCmpFunc_impl_Acct_impl_Gather_1_ok fuel r18 o_ r16.1 (i64 (bshr .u64 (u64 (i64 (o_ + a3))) 1)) r19 h73) (cj rfl (cj h74 (cj h74 (cj h74 (cj h74 (cj1 rfl)))))))))))))))))))))) (fun h72 =>
     Pn.ite (fun h77 =>
     Pn.ite (fun h78 =>
     Pn.bind (fun r21 h79 =>
     Pn.some (Fn.of [.wait 1, .mask [0, 1, 2, 3, 4], .ren [0], .join 41 (X.go) (st 220 [(0, V.ow 0), (1, V.sc (.int .i64 o_)), (2, V.sc (.int .i64 a2)), (3, V.sc (.int .i64 a3)), (4, V.fn 29 [])] [Blk.row 43 (List.map E43 o) []] [some 0]), .wait 1, .mask [0, 1, 2, 3, 4], .ren [0], .join 41 (X.go) (st 220 [(0, V.ow 0), (1, V.sc (.int .i64 o_)), (2, V.sc (.int .i64 a2)), (3, V.sc (.int .i64 a3)), (4, V.fn 29 [])] [Blk.row 43 (List.map E43 o) []] [some 0]), .wait 14, .mask [0, 1, 2, 3, 4, 18, 19], .ren [0], .join 9 (X.go) (st 220 [(0, V.ow 0), (1, V.sc (.int .i64 o_)), (2, V.sc (.int .i64 a2)), (3, V.sc (.int .i64 a3)), (4, V.fn 29 []), (18, V.sc (.int .i64 (i64 (bshr .u64 (u64 (i64 (o_ + a3))) 1)))), (19, V.sc (.int .i64 (i64 ((i64 (bshr .u64 (u64 (i64 (o_ + a3))) 1)) + a2)))), (20, V.sc (.int .i64 r13.1)), (21, V.sc (.int .i64 r13.2))] [Blk.row 43 (List.map E43 o) []] [some 0]), .wait 4, .mask [0, 1, 2, 3, 4, 18, 19, 20, 21, 22], .ren [0], .loop (X.out 8) (st 220 [(0, V.ow 0), (1, V.sc (.int .i64 o_)), (2, V.sc (.int .i64 a2)), (3, V.sc (.int .i64 a3)), (4, V.fn 29 []), (18, V.sc (.int .i64 (i64 (bshr .u64 (u64 (i64 (o_ + a3))) 1)))), (19, V.sc (.int .i64 (i64 ((i64 (bshr .u64 (u64 (i64 (o_ + a3))) 1)) + a2)))), (20, V.sc (.int .i64 r16.1))] [Blk.row 43 (List.map E43 r16.2) []] [some 0]), .wait 5, .mask [0, 1, 2, 3, 4, 18, 20, 24], .ren [0], .join 5 (X.go) (st 220 [(0, V.ow 0), (1, V.sc (.int .i64 o_)), (3, V.sc (.int .i64 a3)), (4, V.fn 29 []), (18, V.sc (.int .i64 (i64 (bshr .u64 (u64 (i64 (o_ + a3))) 1)))), (20, V.sc (.int .i64 r16.1)), (24, V.sc (.int .i64 (i64 ((i64 ((i64 (bshr .u64 (u64 (i64 (o_ + a3))) 1)) + a2)) - r16.1))))] [Blk.row 43 (List.map E43 r18) []] [some 0]), .bit true, .bit true, .bit true, .bit true, .bit false, .bit true, .bit true, .bit true, .bit true, .bit true, .call [true, false, false, false, false] (V.tup []) [V.sl true 43 (List.map E43 r21)]] (p := [HT Tryz.prog (sub (codeOf Tryz.prog 75) [0]) (st 220 [(0, V.ow 0), (1, V.sc (.int .i64 o_)), (2, V.sc (.int .i64 a2)), (3, V.sc (.int .i64 a3)), (4, V.fn 29 [])] [Blk.row 43 (List.map E43 o) []] [some 0]) (X.go) (st 220 [(0, V.ow 0), (1, V.sc (.int .i64 o_)), (2, V.sc (.int .i64 a2)), (3, V.sc (.int .i64 a3)), (4, V.fn 29 [])] [Blk.row 43 (List.map E43 o) []] [some 0]),
      HT Tryz.prog (sub (codeOf Tryz.prog 75) [1, 0]) (st 220 [(0, V.ow 0), (1, V.sc (.int .i64 o_)), (2, V.sc (.int .i64 a2)), (3, V.sc (.int .i64 a3)), (4, V.fn 29 [])] [Blk.row 43 (List.map E43 o) []] [some 0]) (X.go) (st 220 [(0, V.ow 0), (1, V.sc (.int .i64 o_)), (2, V.sc (.int .i64 a2)), (3, V.sc (.int .i64 a3)), (4, V.fn 29 [])] [Blk.row 43 (List.map E43 o) []] [some 0]),
      ¬ (1 : Int) < 0,
      HT Tryz.prog (sub (codeOf Tryz.prog 75) [1, 1, 1, 1, 1, 0]) (st 220 [(0, V.ow 0), (1, V.sc (.int .i64 o_)), (2, V.sc (.int .i64 a2)), (3, V.sc (.int .i64 a3)), (4, V.fn 29 []), (18, V.sc (.int .i64 (i64 (bshr .u64 (u64 (i64 (o_ + a3))) 1)))), (19, V.sc (.int .i64 (i64 ((i64 (bshr .u64 (u64 (i64 (o_ + a3))) 1)) + a2))))] [Blk.row 43 (List.map E43 o) []] [some 0]) (X.go) (st 220 [(0, V.ow 0), (1, V.sc (.int .i64 o_)), (2, V.sc (.int .i64 a2)), (3, V.sc (.int .i64 a3)), (4, V.fn 29 []), (18, V.sc (.int .i64 (i64 (bshr .u64 (u64 (i64 (o_ + a3))) 1)))), (19, V.sc (.int .i64 (i64 ((i64 (bshr .u64 (u64 (i64 (o_ + a3))) 1)) + a2)))), (20, V.sc (.int .i64 r13.1)), (21, V.sc (.int .i64 r13.2))] [Blk.row 43 (List.map E43 o) []] [some 0]),
      Loop Tryz.prog (sub (codeOf Tryz.prog 75) [1, 1, 1, 1, 1, 1, 1, 0, 0, 0]) (st 220 [(0, V.ow 0), (1, V.sc (.int .i64 o_)), (2, V.sc (.int .i64 a2)), (3, V.sc (.int .i64 a3)), (4, V.fn 29 []), (18, V.sc (.int .i64 (i64 (bshr .u64 (u64 (i64 (o_ + a3))) 1)))), (19, V.sc (.int .i64 (i64 ((i64 (bshr .u64 (u64 (i64 (o_ + a3))) 1)) + a2)))), (20, V.sc (.int .i64 r13.1)), (21, V.sc (.int .i64 r13.2)), (22, V.sc (.int .i64 (i64 ((i64 ((i64 (bshr .u64 (u64 (i64 (o_ + a3))) 1)) + a2)) - 1))))] [Blk.row 43 (List.map E43 o) []] [some 0]) (X.out 8) (st 220 [(0, V.ow 0), (1, V.sc (.int .i64 o_)), (2, V.sc (.int .i64 a2)), (3, V.sc (.int .i64 a3)), (4, V.fn 29 []), (18, V.sc (.int .i64 (i64 (bshr .u64 (u64 (i64 (o_ + a3))) 1)))), (19, V.sc (.int .i64 (i64 ((i64 (bshr .u64 (u64 (i64 (o_ + a3))) 1)) + a2)))), (20, V.sc (.int .i64 r16.1))] [Blk.row 43 (List.map E43 r16.2) []] [some 0]),
      HT Tryz.prog (sub (codeOf Tryz.prog 75) [1, 1, 1, 1, 1, 1, 1, 1, 1, 0]) (st 220 [(0, V.ow 0), (1, V.sc (.int .i64 o_)), (2, V.sc (.int .i64 a2)), (3, V.sc (.int .i64 a3)), (4, V.fn 29 []), (18, V.sc (.int .i64 (i64 (bshr .u64 (u64 (i64 (o_ + a3))) 1)))), (20, V.sc (.int .i64 r16.1)), (24, V.sc (.int .i64 (i64 ((i64 ((i64 (bshr .u64 (u64 (i64 (o_ + a3))) 1)) + a2)) - r16.1))))] [Blk.row 43 (List.map E43 r16.2) []] [some 0]) (X.go) (st 220 [(0, V.ow 0), (1, V.sc (.int .i64 o_)), (3, V.sc (.int .i64 a3)), (4, V.fn 29 []), (18, V.sc (.int .i64 (i64 (bshr .u64 (u64 (i64 (o_ + a3))) 1)))), (20, V.sc (.int .i64 r16.1)), (24, V.sc (.int .i64 (i64 ((i64 ((i64 (bshr .u64 (u64 (i64 (o_ + a3))) 1)) + a2)) - r16.1))))] [Blk.row 43 (List.map E43 r18) []] [some 0]),
      (decide (o_ < r16.1)) = true,
      (decide (o_ < r16.1)) = true,
      (decide (o_ < r16.1)) = true,
      (decide (o_ < r16.1)) = true,
      (decide (r16.1 < (i64 (bshr .u64 (u64 (i64 (o_ + a3))) 1)))) = false,
      (decide ((i64 (bshr .u64 (u64 (i64 (o_ + a3))) 1)) < (i64 ((i64 ((i64 (bshr .u64 (u64 (i64 (o_ + a3))) 1)) + a2)) - r16.1)))) = true,
      (decide ((i64 (bshr .u64 (u64 (i64 (o_ + a3))) 1)) < (i64 ((i64 ((i64 (bshr .u64 (u64 (i64 (o_ + a3))) 1)) + a2)) - r16.1)))) = true,
      (decide ((i64 (bshr .u64 (u64 (i64 (o_ + a3))) 1)) < (i64 ((i64 ((i64 (bshr .u64 (u64 (i64 (o_ + a3))) 1)) + a2)) - r16.1)))) = true,
      (decide ((i64 (bshr .u64 (u64 (i64 (o_ + a3))) 1)) < (i64 ((i64 ((i64 (bshr .u64 (u64 (i64 (o_ + a3))) 1)) + a2)) - r16.1)))) = true,
      (decide ((i64 ((i64 ((i64 (bshr .u64 (u64 (i64 (o_ + a3))) 1)) + a2)) - r16.1)) < a3)) = true,
      Fn Tryz.prog 75 [(true, E34 r18), (false, E3 (i64 (bshr .u64 (u64 (i64 (o_ + a3))) 1))), (false, E3 (i64 ((i64 ((i64 (bshr .u64 (u64 (i64 (o_ + a3))) 1)) + a2)) - r16.1))), (false, E3 a3), (false, V.fn 29 [])] (V.tup []) [V.sl true 43 (List.map E43 r21)],
      (true || ((V.tup []).nv && nvL [V.sl true 43 (List.map E43 r21)])) = true]) (by kernel_rfl) (cj ((slices_symMergeCmpFunc_impl_Acct_impl_Gather_1_c0_ok o o_ a2 a3 r6 h24).at h25) (cj ((slices_symMergeCmpFunc_impl_Acct_impl_Gather_1_c5_ok o o_ a2 a3 r12 h50).at h51) (cj (by decide) (cj (slices_symMergeCmpFunc_impl_Acct_impl_Gather_1_c10_ok o o_ a2 a3 r13 h54) (cj (slices_symMergeCmpFunc_impl_Acct_impl_Gather_1_l4_ok o_ a2 a3 FUEL r13.1 r13.2 o r16 h66) (cj (slices_symMergeCmpFunc_impl_Acct_impl_Gather_1_c13_ok o_ a2 a3 r16 r18 h70) (cj h71 (cj h71 (cj h71 (cj h71 (cj h72 (cj h77 (cj h77 (cj h77 (cj h77 (cj h78 (cj (slices_symMergeCmpFunc_impl_Acct_impl_Gather_1_ok fuel r18 (i64 (bshr .u64 (u64 (i64 (o_ + a3))) 1)) (i64 ((i64 ((i64 (bshr .u64 (u64 (i64 (o_ + a3))) 1)) + a2)) - r16.1)) a3 r21 h79) (cj1 rfl))))))))))))))))))))) (fun h78 =>
     Pn.some (Fn.of [.wait 1, .mask [0, 1, 2, 3, 4], .ren [0], .join 41 (X.go) (st 220 [(0, V.ow 0), (1, V.sc (.int .i64 o_)), (2, V.sc (.int .i64 a2)), (3, V.sc (.int .i64 a3)), (4, V.fn 29 [])] [Blk.row 43 (List.map E43 o) []] [some 0]), .wait 1, .mask [0, 1, 2, 3, 4], .ren [0], .join 41 (X.go) (st 220 [(0, V.ow 0), (1, V.sc (.int .i64 o_)), (2, V.sc (.int .i64 a2)), (3, V.sc (.int .i64 a3)), (4, V.fn 29 [])] [Blk.row 43 (List.map E43 o) []] [some 0]), .wait 14, .mask [0, 1, 2, 3, 4, 18, 19], .ren [0], .join 9 (X.go) (st 220 [(0, V.ow 0), (1, V.sc (.int .i64 o_)), (2, V.sc (.int .i64 a2)), (3, V.sc (.int .i64 a3)), (4, V.fn 29 []), (18, V.sc (.int .i64 (i64 (bshr .u64 (u64 (i64 (o_ + a3))) 1)))), (19, V.sc (.int .i64 (i64 ((i64 (bshr .u64 (u64 (i64 (o_ + a3))) 1)) + a2)))), (20, V.sc (.int .i64 r13.1)), (21, V.sc (.int .i64 r13.2))] [Blk.row 43 (List.map E43 o) []] [some 0]), .wait 4, .mask [0, 1, 2, 3, 4, 18, 19, 20, 21, 22], .ren [0], .loop (X.out 8) (st 220 [(0, V.ow 0), (1, V.sc (.int .i64 o_)), (2, V.sc (.int .i64 a2)), (3, V.sc (.int .i64 a3)), (4, V.fn 29 []), (18, V.sc (.int .i64 (i64 (bshr .u64 (u64 (i64 (o_ + a3))) 1)))), (19, V.sc (.int .i64 (i64 ((i64 (bshr .u64 (u64 (i64 (o_ + a3))) 1)) + a2)))), (20, V.sc (.int .i64 r16.1))] [Blk.row 43 (List.map E43 r16.2) []] [some 0]), .wait 5, .mask [0, 1, 2, 3, 4, 18, 20, 24], .ren [0], .join 5 (X.go) (st 220 [(0, V.ow 0), (1, V.sc (.int .i64 o_)), (3, V.sc (.int .i64 a3)), (4, V.fn 29 []), (18, V.sc (.int .i64 (i64 (bshr .u64 (u64 (i64 (o_ + a3))) 1)))), (20, V.sc (.int .i64 r16.1)), (24, V.sc (.int .i64 (i64 ((i64 ((i64 (bshr .u64 (u64 (i64 (o_ + a3))) 1)) + a2)) - r16.1))))] [Blk.row 43 (List.map E43 r18) []] [some 0]), .bit true, .bit true, .bit true, .bit true, .bit false, .bit true, .bit true, .bit true, .bit true, .bit false] (p := [HT Tryz.prog (sub (codeOf Tryz.prog 75) [0]) (st 220 [(0, V.ow 0), (1, V.sc (.int .i64 o_)), (2, V.sc (.int .i64 a2)), (3, V.sc (.int .i64 a3)), (4, V.fn 29 [])] [Blk.row 43 (List.map E43 o) []] [some 0]) (X.go) (st 220 [(0, V.ow 0), (1, V.sc (.int .i64 o_)), (2, V.sc (.int .i64 a2)), (3, V.sc (.int .i64 a3)), (4, V.fn 29 [])] [Blk.row 43 (List.map E43 o) []] [some 0]),
      HT Tryz.prog (sub (codeOf Tryz.prog 75) [1, 0]) (st 220 [(0, V.ow 0), (1, V.sc (.int .i64 o_)), (2, V.sc (.int .i64 a2)), (3, V.sc (.int .i64 a3)), (4, V.fn 29 [])] [Blk.row 43 (List.map E43 o) []] [some 0]) (X.go) (st 220 [(0, V.ow 0), (1, V.sc (.int .i64 o_)), (2, V.sc (.int .i64 a2)), (3, V.sc (.int .i64 a3)), (4, V.fn 29 [])] [Blk.row 43 (List.map E43 o) []] [some 0]),
      ¬ (1 : Int) < 0,
      HT Tryz.prog (sub (codeOf Tryz.prog 75) [1, 1, 1, 1, 1, 0]) (st 220 [(0, V.ow 0), (1, V.sc (.int .i64 o_)), (2, V.sc (.int .i64 a2)), (3, V.sc (.int .i64 a3)), (4, V.fn 29 []), (18, V.sc (.int .i64 (i64 (bshr .u64 (u64 (i64 (o_ + a3))) 1)))), (19, V.sc (.int .i64 (i64 ((i64 (bshr .u64 (u64 (i64 (o_ + a3))) 1)) + a2))))] [Blk.row 43 (List.map E43 o) []] [some 0]) (X.go) (st 220 [(0, V.ow 0), (1, V.sc (.int .i64 o_)), (2, V.sc (.int .i64 a2)), (3, V.sc (.int .i64 a3)), (4, V.fn 29 []), (18, V.sc (.int .i64 (i64 (bshr .u64 (u64 (i64 (o_ + a3))) 1)))), (19, V.sc (.int .i64 (i64 ((i64 (bshr .u64 (u64 (i64 (o_ + a3))) 1)) + a2)))), (20, V.sc (.int .i64 r13.1)), (21, V.sc (.int .i64 r13.2))] [Blk.row 43 (List.map E43 o) []] [some 0]),
      Loop Tryz.prog (sub (codeOf Tryz.prog 75) [1, 1, 1, 1, 1, 1, 1, 0, 0, 0]) (st 220 [(0, V.ow 0), (1, V.sc (.int .i64 o_)), (2, V.sc (.int .i64 a2)), (3, V.sc (.int .i64 a3)), (4, V.fn 29 []), (18, V.sc (.int .i64 (i64 (bshr .u64 (u64 (i64 (o_ + a3))) 1)))), (19, V.sc (.int .i64 (i64 ((i64 (bshr .u64 (u64 (i64 (o_ + a3))) 1)) + a2)))), (20, V.sc (.int .i64 r13.1)), (21, V.sc (.int .i64 r13.2)), (22, V.sc (.int .i64 (i64 ((i64 ((i64 (bshr .u64 (u64 (i64 (o_ + a3))) 1)) + a2)) - 1))))] [Blk.row 43 (List.map E43 o) []] [some 0]) (X.out 8) (st 220 [(0, V.ow 0), (1, V.sc (.int .i64 o_)), (2, V.sc (.int .i64 a2)), (3, V.sc (.int .i64 a3)), (4, V.fn 29 []), (18, V.sc (.int .i64 (i64 (bshr .u64 (u64 (i64 (o_ + a3))) 1)))), (19, V.sc (.int .i64 (i64 ((i64 (bshr .u64 (u64 (i64 (o_ + a3))) 1)) + a2)))), (20, V.sc (.int .i64 r16.1))] [Blk.row 43 (List.map E43 r16.2) []] [some 0]),
      HT Tryz.prog (sub (codeOf Tryz.prog 75) [1, 1, 1, 1, 1, 1, 1, 1, 1, 0]) (st 220 [(0, V.ow 0), (1, V.sc (.int .i64 o_)), (2, V.sc (.int .i64 a2)), (3, V.sc (.int .i64 a3)), (4, V.fn 29 []), (18, V.sc (.int .i64 (i64 (bshr .u64 (u64 (i64 (o_ + a3))) 1)))), (20, V.sc (.int .i64 r16.1)), (24, V.sc (.int .i64 (i64 ((i64 ((i64 (bshr .u64 (u64 (i64 (o_ + a3))) 1)) + a2)) - r16.1))))] [Blk.row 43 (List.map E43 r16.2) []] [some 0]) (X.go) (st 220 [(0, V.ow 0), (1, V.sc (.int .i64 o_)), (3, V.sc (.int .i64 a3)), (4, V.fn 29 []), (18, V.sc (.int .i64 (i64 (bshr .u64 (u64 (i64 (o_ + a3))) 1)))), (20, V.sc (.int .i64 r16.1)), (24, V.sc (.int .i64 (i64 ((i64 ((i64 (bshr .u64 (u64 (i64 (o_ + a3))) 1)) + a2)) - r16.1))))] [Blk.row 43 (List.map E43 r18) []] [some 0]),
      (decide (o_ < r16.1)) = true,
      (decide (o_ < r16.1)) = true,
      (decide (o_ < r16.1)) = true,
      (decide (o_ < r16.1)) = true,
      (decide (r16.1 < (i64 (bshr .u64 (u64 (i64 (o_ + a3))) 1)))) = false,
      (decide ((i64 (bshr .u64 (u64 (i64 (o_ + a3))) 1)) < (i64 ((i64 ((i64 (bshr .u64 (u64 (i64 (o_ + a3))) 1)) + a2)) - r16.1)))) = true,
      (decide ((i64 (bshr .u64 (u64 (i64 (o_ + a3))) 1)) < (i64 ((i64 ((i64 (bshr .u64 (u64 (i64 (o_ + a3))) 1)) + a2)) - r16.1)))) = true,
      (decide ((i64 (bshr .u64 (u64 (i64 (o_ + a3))) 1)) < (i64 ((i64 ((i64 (bshr .u64 (u64 (i64 (o_ + a3))) 1)) + a2)) - r16.1)))) = true,
      (decide ((i64 (bshr .u64 (u64 (i64 (o_ + a3))) 1)) < (i64 ((i64 ((i64 (bshr .u64 (u64 (i64 (o_ + a3))) 1)) + a2)) - r16.1)))) = true,
      (decide ((i64 ((i64 ((i64 (bshr .u64 (u64 (i64 (o_ + a3))) 1)) + a2)) - r16.1)) < a3)) = false]) (by kernel_rfl) (cj ((slices_symMergeCmpFunc_impl_Acct_impl_Gather_1_c0_ok o o_ a2 a3 r6 h24).at h25) (cj ((slices_symMergeCmpFunc_impl_Acct_impl_Gather_1_c5_ok o o_ a2 a3 r12 h50).at h51) (cj (by decide) (cj (slices_symMergeCmpFunc_impl_Acct_impl_Gather_1_c10_ok o o_ a2 a3 r13 h54) (cj (slices_symMergeCmpFunc_impl_Acct_impl_Gather_1_l4_ok o_ a2 a3 FUEL r13.1 r13.2 o r16 h66) (cj (slices_symMergeCmpFunc_impl_Acct_impl_Gather_1_c13_ok o_ a2 a3 r16 r18 h70) (cj h71 (cj h71 (cj h71 (cj h71 (cj h72 (cj h77 (cj h77 (cj h77 (cj h77 (cj1 h78))))))))))))))))))) (fun h77 =>
     Pn.some (Fn.of [.wait 1, .mask [0, 1, 2, 3, 4], .ren [0], .join 41 (X.go) (st 220 [(0, V.ow 0), (1, V.sc (.int .i64 o_)), (2, V.sc (.int .i64 a2)), (3, V.sc (.int .i64 a3)), (4, V.fn 29 [])] [Blk.row 43 (List.map E43 o) []] [some 0]), .wait 1, .mask [0, 1, 2, 3, 4], .ren [0], .join 41 (X.go) (st 220 [(0, V.ow 0), (1, V.sc (.int .i64 o_)), (2, V.sc (.int .i64 a2)), (3, V.sc (.int .i64 a3)), (4, V.fn 29 [])] [Blk.row 43 (List.map E43 o) []] [some 0]), .wait 14, .mask [0, 1, 2, 3, 4, 18, 19], .ren [0], .join 9 (X.go) (st 220 [(0, V.ow 0), (1, V.sc (.int .i64 o_)), (2, V.sc (.int .i64 a2)), (3, V.sc (.int .i64 a3)), (4, V.fn 29 []), (18, V.sc (.int .i64 (i64 (bshr .u64 (u64 (i64 (o_ + a3))) 1)))), (19, V.sc (.int .i64 (i64 ((i64 (bshr .u64 (u64 (i64 (o_ + a3))) 1)) + a2)))), (20, V.sc (.int .i64 r13.1)), (21, V.sc (.int .i64 r13.2))] [Blk.row 43 (List.map E43 o) []] [some 0]), .wait 4, .mask [0, 1, 2, 3, 4, 18, 19, 20, 21, 22], .ren [0], .loop (X.out 8) (st 220 [(0, V.ow 0), (1, V.sc (.int .i64 o_)), (2, V.sc (.int .i64 a2)), (3, V.sc (.int .i64 a3)), (4, V.fn 29 []), (18, V.sc (.int .i64 (i64 (bshr .u64 (u64 (i64 (o_ + a3))) 1)))), (19, V.sc (.int .i64 (i64 ((i64 (bshr .u64 (u64 (i64 (o_ + a3))) 1)) + a2)))), (20, V.sc (.int .i64 r16.1))] [Blk.row 43 (List.map E43 r16.2) []] [some 0]), .wait 5, .mask [0, 1, 2, 3, 4, 18, 20, 24], .ren [0], .join 5 (X.go) (st 220 [(0, V.ow 0), (1, V.sc (.int .i64 o_)), (3, V.sc (.int .i64 a3)), (4, V.fn 29 []), (18, V.sc (.int .i64 (i64 (bshr .u64 (u64 (i64 (o_ + a3))) 1)))), (20, V.sc (.int .i64 r16.1)), (24, V.sc (.int .i64 (i64 ((i64 ((i64 (bshr .u64 (u64 (i64 (o_ + a3))) 1)) + a2)) - r16.1))))] [Blk.row 43 (List.map E43 r18) []] [some 0]), .bit true, .bit true, .bit true, .bit true, .bit false, .bit false, .bit false, .bit false, .bit false, .bit false] (p := [HT Tryz.prog (sub (codeOf Tryz.prog 75) [0]) (st 220 [(0, V.ow 0), (1, V.sc (.int .i64 o_)), (2, V.sc (.int .i64 a2)), (3, V.sc (.int .i64 a3)), (4, V.fn 29 [])] [Blk.row 43 (List.map E43 o) []] [some 0]) (X.go) (st 220 [(0, V.ow 0), (1, V.sc (.int .i64 o_)), (2, V.sc (.int .i64 a2)), (3, V.sc (.int .i64 a3)), (4, V.fn 29 [])] [Blk.row 43 (List.map E43 o) []] [some 0]),
      HT Tryz.prog (sub (codeOf Tryz.prog 75) [1, 0]) (st 220 [(0, V.ow 0), (1, V.sc (.int .i64 o_)), (2, V.sc (.int .i64 a2)), (3, V.sc (.int .i64 a3)), (4, V.fn 29 [])] [Blk.row 43 (List.map E43 o) []] [some 0]) (X.go) (st 220 [(0, V.ow 0), (1, V.sc (.int .i64 o_)), (2, V.sc (.int .i64 a2)), (3, V.sc (.int .i64 a3)), (4, V.fn 29 [])] [Blk.row 43 (List.map E43 o) []] [some 0]),
      ¬ (1 : Int) < 0,
      HT Tryz.prog (sub (codeOf Tryz.prog 75) [1, 1, 1, 1, 1, 0]) (st 220 [(0, V.ow 0), (1, V.sc (.int .i64 o_)), (2, V.sc (.int .i64 a2)), (3, V.sc (.int .i64 a3)), (4, V.fn 29 []), (18, V.sc (.int .i64 (i64 (bshr .u64 (u64 (i64 (o_ + a3))) 1)))), (19, V.sc (.int .i64 (i64 ((i64 (bshr .u64 (u64 (i64 (o_ + a3))) 1)) + a2))))] [Blk.row 43 (List.map E43 o) []] [some 0]) (X.go) (st 220 [(0, V.ow 0), (1, V.sc (.int .i64 o_)), (2, V.sc (.int .i64 a2)), (3, V.sc (.int .i64 a3)), (4, V.fn 29 []), (18, V.sc (.int .i64 (i64 (bshr .u64 (u64 (i64 (o_ + a3))) 1)))), (19, V.sc (.int .i64 (i64 ((i64 (bshr .u64 (u64 (i64 (o_ + a3))) 1)) + a2)))), (20, V.sc (.int .i64 r13.1)), (21, V.sc (.int .i64 r13.2))] [Blk.row 43 (List.map E43 o) []] [some 0]),
      Loop Tryz.prog (sub (codeOf Tryz.prog 75) [1, 1, 1, 1, 1, 1, 1, 0, 0, 0]) (st 220 [(0, V.ow 0), (1, V.sc (.int .i64 o_)), (2, V.sc (.int .i64 a2)), (3, V.sc (.int .i64 a3)), (4, V.fn 29 []), (18, V.sc (.int .i64 (i64 (bshr .u64 (u64 (i64 (o_ + a3))) 1)))), (19, V.sc (.int .i64 (i64 ((i64 (bshr .u64 (u64 (i64 (o_ + a3))) 1)) + a2)))), (20, V.sc (.int .i64 r13.1)), (21, V.sc (.int .i64 r13.2)), (22, V.sc (.int .i64 (i64 ((i64 ((i64 (bshr .u64 (u64 (i64 (o_ + a3))) 1)) + a2)) - 1))))] [Blk.row 43 (List.map E43 o) []] [some 0]) (X.out 8) (st 220 [(0, V.ow 0), (1, V.sc (.int .i64 o_)), (2, V.sc (.int .i64 a2)), (3, V.sc (.int .i64 a3)), (4, V.fn 29 []), (18, V.sc (.int .i64 (i64 (bshr .u64 (u64 (i64 (o_ + a3))) 1)))), (19, V.sc (.int .i64 (i64 ((i64 (bshr .u64 (u64 (i64 (o_ + a3))) 1)) + a2)))), (20, V.sc (.int .i64 r16.1))] [Blk.row 43 (List.map E43 r16.2) []] [some 0]),
      HT Tryz.prog (sub (codeOf Tryz.prog 75) [1, 1, 1, 1, 1, 1, 1, 1, 1, 0]) (st 220 [(0, V.ow 0), (1, V.sc (.int .i64 o_)), (2, V.sc (.int .i64 a2)), (3, V.sc (.int .i64 a3)), (4, V.fn 29 []), (18, V.sc (.int .i64 (i64 (bshr .u64 (u64 (i64 (o_ + a3))) 1)))), (20, V.sc (.int .i64 r16.1)), (24, V.sc (.int .i64 (i64 ((i64 ((i64 (bshr .u64 (u64 (i64 (o_ + a3))) 1)) + a2)) - r16.1))))] [Blk.row 43 (List.map E43 r16.2) []] [some 0]) (X.go) (st 220 [(0, V.ow 0), (1, V.sc (.int .i64 o_)), (3, V.sc (.int .i64 a3)), (4, V.fn 29 []), (18, V.sc (.int .i64 (i64 (bshr .u64 (u64 (i64 (o_ + a3))) 1)))), (20, V.sc (.int .i64 r16.1)), (24, V.sc (.int .i64 (i64 ((i64 ((i64 (bshr .u64 (u64 (i64 (o_ + a3))) 1)) + a2)) - r16.1))))] [Blk.row 43 (List.map E43 r18) []] [some 0]),
      (decide (o_ < r16.1)) = true,
      (decide (o_ < r16.1)) = true,
      (decide (o_ < r16.1)) = true,
      (decide (o_ < r16.1)) = true,
      (decide (r16.1 < (i64 (bshr .u64 (u64 (i64 (o_ + a3))) 1)))) = false,
      (decide ((i64 (bshr .u64 (u64 (i64 (o_ + a3))) 1)) < (i64 ((i64 ((i64 (bshr .u64 (u64 (i64 (o_ + a3))) 1)) + a2)) - r16.1)))) = false,
      (decide ((i64 (bshr .u64 (u64 (i64 (o_ + a3))) 1)) < (i64 ((i64 ((i64 (bshr .u64 (u64 (i64 (o_ + a3))) 1)) + a2)) - r16.1)))) = false,
      (decide ((i64 (bshr .u64 (u64 (i64 (o_ + a3))) 1)) < (i64 ((i64 ((i64 (bshr .u64 (u64 (i64 (o_ + a3))) 1)) + a2)) - r16.1)))) = false,
      (decide ((i64 (bshr .u64 (u64 (i64 (o_ + a3))) 1)) < (i64 ((i64 ((i64 (bshr .u64 (u64 (i64 (o_ + a3))) 1)) + a2)) - r16.1)))) = false,
      false = false]) (by kernel_rfl) (cj ((slices_symMergeCmpFunc_impl_Acct_impl_Gather_1_c0_ok o o_ a2 a3 r6 h24).at h25) (cj ((slices_symMergeCmpFunc_impl_Acct_impl_Gather_1_c5_ok o o_ a2 a3 r12 h50).at h51) (cj (by decide) (cj (slices_symMergeCmpFunc_impl_Acct_impl_Gather_1_c10_ok o o_ a2 a3 r13 h54) (cj (slices_symMergeCmpFunc_impl_Acct_impl_Gather_1_l4_ok o_ a2 a3 FUEL r13.1 r13.2 o r16 h66) (cj (slices_symMergeCmpFunc_impl_Acct_impl_Gather_1_c13_ok o_ a2 a3 r16 r18 h70) (cj h71 (cj h71 (cj h71 (cj h71 (cj h72 (cj h77 (cj h77 (cj h77 (cj h77 (cj1 rfl)))))))))))))))))))) (fun h71 =>
     Pn.ite (fun h80 =>
     Pn.ite (fun h81 =>
     Pn.bind (fun r22 h82 =>
     Pn.some (Fn.of [.wait 1, .mask [0, 1, 2, 3, 4], .ren [0], .join 41 (X.go) (st 220 [(0, V.ow 0), (1, V.sc (.int .i64 o_)), (2, V.sc (.int .i64 a2)), (3, V.sc (.int .i64 a3)), (4, V.fn 29 [])] [Blk.row 43 (List.map E43 o) []] [some 0]), .wait 1, .mask [0, 1, 2, 3, 4], .ren [0], .join 41 (X.go) (st 220 [(0, V.ow 0), (1, V.sc (.int .i64 o_)), (2, V.sc (.int .i64 a2)), (3, V.sc (.int .i64 a3)), (4, V.fn 29 [])] [Blk.row 43 (List.map E43 o) []] [some 0]), .wait 14, .mask [0, 1, 2, 3, 4, 18, 19], .ren [0], .join 9 (X.go) (st 220 [(0, V.ow 0), (1, V.sc (.int .i64 o_)), (2, V.sc (.int .i64 a2)), (3, V.sc (.int .i64 a3)), (4, V.fn 29 []), (18, V.sc (.int .i64 (i64 (bshr .u64 (u64 (i64 (o_ + a3))) 1)))), (19, V.sc (.int .i64 (i64 ((i64 (bshr .u64 (u64 (i64 (o_ + a3))) 1)) + a2)))), (20, V.sc (.int .i64 r13.1)), (21, V.sc (.int .i64 r13.2))] [Blk.row 43 (List.map E43 o) []] [some 0]), .wait 4, .mask [0, 1, 2, 3, 4, 18, 19, 20, 21, 22], .ren [0], .loop (X.out 8) (st 220 [(0, V.ow 0), (1, V.sc (.int .i64 o_)), (2, V.sc (.int .i64 a2)), (3, V.sc (.int .i64 a3)), (4, V.fn 29 []), (18, V.sc (.int .i64 (i64 (bshr .u64 (u64 (i64 (o_ + a3))) 1)))), (19, V.sc (.int .i64 (i64 ((i64 (bshr .u64 (u64 (i64 (o_ + a3))) 1)) + a2)))), (20, V.sc (.int .i64 r16.1))] [Blk.row 43 (List.map E43 r16.2) []] [some 0]), .wait 5, .mask [0, 1, 2, 3, 4, 18, 20, 24], .ren [0], .join 5 (X.go) (st 220 [(0, V.ow 0), (1, V.sc (.int .i64 o_)), (3, V.sc (.int .i64 a3)), (4, V.fn 29 []), (18, V.sc (.int .i64 (i64 (bshr .u64 (u64 (i64 (o_ + a3))) 1)))), (20, V.sc (.int .i64 r16.1)), (24, V.sc (.int .i64 (i64 ((i64 ((i64 (bshr .u64 (u64 (i64 (o_ + a3))) 1)) + a2)) - r16.1))))] [Blk.row 43 (List.map E43 r18) []] [some 0]), .bit false, .bit false, .bit false, .bit false, .bit false, .bit true, .bit true, .bit true, .bit true, .bit true, .call [true, false, false, false, false] (V.tup []) [V.sl true 43 (List.map E43 r22)]] (p := [HT Tryz.prog (sub (codeOf Tryz.prog 75) [0]) (st 220 [(0, V.ow 0), (1, V.sc (.int .i64 o_)), (2, V.sc (.int .i64 a2)), (3, V.sc (.int .i64 a3)), (4, V.fn 29 [])] [Blk.row 43 (List.map E43 o) []] [some 0]) (X.go) (st 220 [(0, V.ow 0), (1, V.sc (.int .i64 o_)), (2, V.sc (.int .i64 a2)), (3, V.sc (.int .i64 a3)), (4, V.fn 29 [])] [Blk.row 43 (List.map E43 o) []] [some 0]),
      HT Tryz.prog (sub (codeOf Tryz.prog 75) [1, 0]) (st 220 [(0, V.ow 0), (1, V.sc (.int .i64 o_)), (2, V.sc (.int .i64 a2)), (3, V.sc (.int .i64 a3)), (4, V.fn 29 [])] [Blk.row 43 (List.map E43 o) []] [some 0]) (X.go) (st 220 [(0, V.ow 0), (1, V.sc (.int .i64 o_)), (2, V.sc (.int .i64 a2)), (3, V.sc (.int .i64 a3)), (4, V.fn 29 [])] [Blk.row 43 (List.map E43 o) []] [some 0]),
      ¬ (1 : Int) < 0,
      HT Tryz.prog (sub (codeOf Tryz.prog 75) [1, 1, 1, 1, 1, 0]) (st 220 [(0, V.ow 0), (1, V.sc (.int .i64 o_)), (2, V.sc (.int .i64 a2)), (3, V.sc (.int .i64 a3)), (4, V.fn 29 []), (18, V.sc (.int .i64 (i64 (bshr .u64 (u64 (i64 (o_ + a3))) 1)))), (19, V.sc (.int .i64 (i64 ((i64 (bshr .u64 (u64 (i64 (o_ + a3))) 1)) + a2))))] [Blk.row 43 (List.map E43 o) []] [some 0]) (X.go) (st 220 [(0, V.ow 0), (1, V.sc (.int .i64 o_)), (2, V.sc (.int .i64 a2)), (3, V.sc (.int .i64 a3)), (4, V.fn 29 []), (18, V.sc (.int .i64 (i64 (bshr .u64 (u64 (i64 (o_ + a3))) 1)))), (19, V.sc (.int .i64 (i64 ((i64 (bshr .u64 (u64 (i64 (o_ + a3))) 1)) + a2)))), (20, V.sc (.int .i64 r13.1)), (21, V.sc (.int .i64 r13.2))] [Blk.row 43 (List.map E43 o) []] [some 0]),
      Loop Tryz.prog (sub (codeOf Tryz.prog 75) [1, 1, 1, 1, 1, 1, 1, 0, 0, 0]) (st 220 [(0, V.ow 0), (1, V.sc (.int .i64 o_)), (2, V.sc (.int .i64 a2)), (3, V.sc (.int .i64 a3)), (4, V.fn 29 []), (18, V.sc (.int .i64 (i64 (bshr .u64 (u64 (i64 (o_ + a3))) 1)))), (19, V.sc (.int .i64 (i64 ((i64 (bshr .u64 (u64 (i64 (o_ + a3))) 1)) + a2)))), (20, V.sc (.int .i64 r13.1)), (21, V.sc (.int .i64 r13.2)), (22, V.sc (.int .i64 (i64 ((i64 ((i64 (bshr .u64 (u64 (i64 (o_ + a3))) 1)) + a2)) - 1))))] [Blk.row 43 (List.map E43 o) []] [some 0]) (X.out 8) (st 220 [(0, V.ow 0), (1, V.sc (.int .i64 o_)), (2, V.sc (.int .i64 a2)), (3, V.sc (.int .i64 a3)), (4, V.fn 29 []), (18, V.sc (.int .i64 (i64 (bshr .u64 (u64 (i64 (o_ + a3))) 1)))), (19, V.sc (.int .i64 (i64 ((i64 (bshr .u64 (u64 (i64 (o_ + a3))) 1)) + a2)))), (20, V.sc (.int .i64 r16.1))] [Blk.row 43 (List.map E43 r16.2) []] [some 0]),
      HT Tryz.prog (sub (codeOf Tryz.prog 75) [1, 1, 1, 1, 1, 1, 1, 1, 1, 0]) (st 220 [(0, V.ow 0), (1, V.sc (.int .i64 o_)), (2, V.sc (.int .i64 a2)), (3, V.sc (.int .i64 a3)), (4, V.fn 29 []), (18, V.sc (.int .i64 (i64 (bshr .u64 (u64 (i64 (o_ + a3))) 1)))), (20, V.sc (.int .i64 r16.1)), (24, V.sc (.int .i64 (i64 ((i64 ((i64 (bshr .u64 (u64 (i64 (o_ + a3))) 1)) + a2)) - r16.1))))] [Blk.row 43 (List.map E43 r16.2) []] [some 0]) (X.go) (st 220 [(0, V.ow 0), (1, V.sc (.int .i64 o_)), (3, V.sc (.int .i64 a3)), (4, V.fn 29 []), (18, V.sc (.int .i64 (i64 (bshr .u64 (u64 (i64 (o_ + a3))) 1)))), (20, V.sc (.int .i64 r16.1)), (24, V.sc (.int .i64 (i64 ((i64 ((i64 (bshr .u64 (u64 (i64 (o_ + a3))) 1)) + a2)) - r16.1))))] [Blk.row 43 (List.map E43 r18) []] [some 0]),
      (decide (o_ < r16.1)) = false,
      (decide (o_ < r16.1)) = false,
      (decide (o_ < r16.1)) = false,
      (decide (o_ < r16.1)) = false,
      false = false,
      (decide ((i64 (bshr .u64 (u64 (i64 (o_ + a3))) 1)) < (i64 ((i64 ((i64 (bshr .u64 (u64 (i64 (o_ + a3))) 1)) + a2)) - r16.1)))) = true,
      (decide ((i64 (bshr .u64 (u64 (i64 (o_ + a3))) 1)) < (i64 ((i64 ((i64 (bshr .u64 (u64 (i64 (o_ + a3))) 1)) + a2)) - r16.1)))) = true,
      (decide ((i64 (bshr .u64 (u64 (i64 (o_ + a3))) 1)) < (i64 ((i64 ((i64 (bshr .u64 (u64 (i64 (o_ + a3))) 1)) + a2)) - r16.1)))) = true,
      (decide ((i64 (bshr .u64 (u64 (i64 (o_ + a3))) 1)) < (i64 ((i64 ((i64 (bshr .u64 (u64 (i64 (o_ + a3))) 1)) + a2)) - r16.1)))) = true,
      (decide ((i64 ((i64 ((i64 (bshr .u64 (u64 (i64 (o_ + a3))) 1)) + a2)) - r16.1)) < a3)) = true,
      Fn Tryz.prog 75 [(true, E34 r18), (false, E3 (i64 (bshr .u64 (u64 (i64 (o_ + a3))) 1))), (false, E3 (i64 ((i64 ((i64 (bshr .u64 (u64 (i64 (o_ + a3))) 1)) + a2)) - r16.1))), (false, E3 a3), (false, V.fn 29 [])] (V.tup []) [V.sl true 43 (List.map E43 r22)],
      (true || ((V.tup []).nv && nvL [V.sl true 43 (List.map E43 r22)])) = true]) (by kernel_rfl) (cj ((slices_symMergeCmpFunc_impl_Acct_impl_Gather_1_c0_ok o o_ a2 a3 r6 h24).at h25) (cj ((slices_symMergeCmpFunc_impl_Acct_impl_Gather_1_c5_ok o o_ a2 a3 r12 h50).at h51) (cj (by decide) (cj (slices_symMergeCmpFunc_impl_Acct_impl_Gather_1_c10_ok o o_ a2 a3 r13 h54) (cj (slices_symMergeCmpFunc_impl_Acct_impl_Gather_1_l4_ok o_ a2 a3 FUEL r13.1 r13.2 o r16 h66) (cj (slices_symMergeCmpFunc_impl_Acct_impl_Gather_1_c13_ok o_ a2 a3 r16 r18 h70) (cj h71 (cj h71 (cj h71 (cj h71 (cj rfl (cj h80 (cj h80 (cj h80 (cj h80 (cj h81 (cj (slices_symMergeCmpFunc_impl_Acct_impl_Gather_1_ok fuel r18 (i64 (bshr .u64 (u64 (i64 (o_ + a3))) 1)) (i64 ((i64 ((i64 (bshr .u64 (u64 (i64 (o_ + a3))) 1)) + a2)) - r16.1)) a3 r22 h82) (cj1 rfl))))))))))))))))))))) (fun h81 =>
     Pn.some (Fn.of [.wait 1, .mask [0, 1, 2, 3, 4], .ren [0], .join 41 (X.go) (st 220 [(0, V.ow 0), (1, V.sc (.int .i64 o_)), (2, V.sc (.int .i64 a2)), (3, V.sc (.int .i64 a3)), (4, V.fn 29 [])] [Blk.row 43 (List.map E43 o) []] [some 0]), .wait 1, .mask [0, 1, 2, 3, 4], .ren [0], .join 41 (X.go) (st 220 [(0, V.ow 0), (1, V.sc (.int .i64 o_)), (2, V.sc (.int .i64 a2)), (3, V.sc (.int .i64 a3)), (4, V.fn 29 [])] [Blk.row 43 (List.map E43 o) []] [some 0]), .wait 14, .mask [0, 1, 2, 3, 4, 18, 19], .ren [0], .join 9 (X.go) (st 220 [(0, V.ow 0), (1, V.sc (.int .i64 o_)), (2, V.sc (.int .i64 a2)), (3, V.sc (.int .i64 a3)), (4, V.fn 29 []), (18, V.sc (.int .i64 (i64 (bshr .u64 (u64 (i64 (o_ + a3))) 1)))), (19, V.sc (.int .i64 (i64 ((i64 (bshr .u64 (u64 (i64 (o_ + a3))) 1)) + a2)))), (20, V.sc (.int .i64 r13.1)), (21, V.sc (.int .i64 r13.2))] [Blk.row 43 (List.map E43 o) []] [some 0]), .wait 4, .mask [0, 1, 2, 3, 4, 18, 19, 20, 21, 22], .ren [0], .loop (X.out 8) (st 220 [(0, V.ow 0), (1, V.sc (.int .i64 o_)), (2, V.sc (.int .i64 a2)), (3, V.sc (.int .i64 a3)), (4, V.fn 29 []), (18, V.sc (.int .i64 (i64 (bshr .u64 (u64 (i64 (o_ + a3))) 1)))), (19, V.sc (.int .i64 (i64 ((i64 (bshr .u64 (u64 (i64 (o_ + a3))) 1)) + a2)))), (20, V.sc (.int .i64 r16.1))] [Blk.row 43 (List.map E43 r16.2) []] [some 0]), .wait 5, .mask [0, 1, 2, 3, 4, 18, 20, 24], .ren [0], .join 5 (X.go) (st 220 [(0, V.ow 0), (1, V.sc (.int .i64 o_)), (3, V.sc (.int .i64 a3)), (4, V.fn 29 []), (18, V.sc (.int .i64 (i64 (bshr .u64 (u64 (i64 (o_ + a3))) 1)))), (20, V.sc (.int .i64 r16.1)), (24, V.sc (.int .i64 (i64 ((i64 ((i64 (bshr .u64 (u64 (i64 (o_ + a3))) 1)) + a2)) - r16.1))))] [Blk.row 43 (List.map E43 r18) []] [some 0]), .bit false, .bit false, .bit false, .bit false, .bit false, .bit true, .bit true, .bit true, .bit true, .bit false] (p := [HT Tryz.prog (sub (codeOf Tryz.prog 75) [0]) (st 220 [(0, V.ow 0), (1, V.sc (.int .i64 o_)), (2, V.sc (.int .i64 a2)), (3, V.sc (.int .i64 a3)), (4, V.fn 29 [])] [Blk.row 43 (List.map E43 o) []] [some 0]) (X.go) (st 220 [(0, V.ow 0), (1, V.sc (.int .i64 o_)), (2, V.sc (.int .i64 a2)), (3, V.sc (.int .i64 a3)), (4, V.fn 29 [])] [Blk.row 43 (List.map E43 o) []] [some 0]),
      HT Tryz.prog (sub (codeOf Tryz.prog 75) [1, 0]) (st 220 [(0, V.ow 0), (1, V.sc (.int .i64 o_)), (2, V.sc (.int .i64 a2)), (3, V.sc (.int .i64 a3)), (4, V.fn 29 [])] [Blk.row 43 (List.map E43 o) []] [some 0]) (X.go) (st 220 [(0, V.ow 0), (1, V.sc (.int .i64 o_)), (2, V.sc (.int .i64 a2)), (3, V.sc (.int .i64 a3)), (4, V.fn 29 [])] [Blk.row 43 (List.map E43 o) []] [some 0]),
      ¬ (1 : Int) < 0,
      HT Tryz.prog (sub (codeOf Tryz.prog 75) [1, 1, 1, 1, 1, 0]) (st 220 [(0, V.ow 0), (1, V.sc (.int .i64 o_)), (2, V.sc (.int .i64 a2)), (3, V.sc (.int .i64 a3)), (4, V.fn 29 []), (18, V.sc (.int .i64 (i64 (bshr .u64 (u64 (i64 (o_ + a3))) 1)))), (19, V.sc (.int .i64 (i64 ((i64 (bshr .u64 (u64 (i64 (o_ + a3))) 1)) + a2))))] [Blk.row 43 (List.map E43 o) []] [some 0]) (X.go) (st 220 [(0, V.ow 0), (1, V.sc (.int .i64 o_)), (2, V.sc (.int .i64 a2)), (3, V.sc (.int .i64 a3)), (4, V.fn 29 []), (18, V.sc (.int .i64 (i64 (bshr .u64 (u64 (i64 (o_ + a3))) 1)))), (19, V.sc (.int .i64 (i64 ((i64 (bshr .u64 (u64 (i64 (o_ + a3))) 1)) + a2)))), (20, V.sc (.int .i64 r13.1)), (21, V.sc (.int .i64 r13.2))] [Blk.row 43 (List.map E43 o) []] [some 0]),
      Loop Tryz.prog (sub (codeOf Tryz.prog 75) [1, 1, 1, 1, 1, 1, 1, 0, 0, 0]) (st 220 [(0, V.ow 0), (1, V.sc (.int .i64 o_)), (2, V.sc (.int .i64 a2)), (3, V.sc (.int .i64 a3)), (4, V.fn 29 []), (18, V.sc (.int .i64 (i64 (bshr .u64 (u64 (i64 (o_ + a3))) 1)))), (19, V.sc (.int .i64 (i64 ((i64 (bshr .u64 (u64 (i64 (o_ + a3))) 1)) + a2)))), (20, V.sc (.int .i64 r13.1)), (21, V.sc (.int .i64 r13.2)), (22, V.sc (.int .i64 (i64 ((i64 ((i64 (bshr .u64 (u64 (i64 (o_ + a3))) 1)) + a2)) - 1))))] [Blk.row 43 (List.map E43 o) []] [some 0]) (X.out 8) (st 220 [(0, V.ow 0), (1, V.sc (.int .i64 o_)), (2, V.sc (.int .i64 a2)), (3, V.sc (.int .i64 a3)), (4, V.fn 29 []), (18, V.sc (.int .i64 (i64 (bshr .u64 (u64 (i64 (o_ + a3))) 1)))), (19, V.sc (.int .i64 (i64 ((i64 (bshr .u64 (u64 (i64 (o_ + a3))) 1)) + a2)))), (20, V.sc (.int .i64 r16.1))] [Blk.row 43 (List.map E43 r16.2) []] [some 0]),
      HT Tryz.prog (sub (codeOf Tryz.prog 75) [1, 1, 1, 1, 1, 1, 1, 1, 1, 0]) (st 220 [(0, V.ow 0), (1, V.sc (.int .i64 o_)), (2, V.sc (.int .i64 a2)), (3, V.sc (.int .i64 a3)), (4, V.fn 29 []), (18, V.sc (.int .i64 (i64 (bshr .u64 (u64 (i64 (o_ + a3))) 1)))), (20, V.sc (.int .i64 r16.1)), (24, V.sc (.int .i64 (i64 ((i64 ((i64 (bshr .u64 (u64 (i64 (o_ + a3))) 1)) + a2)) - r16.1))))] [Blk.row 43 (List.map E43 r16.2) []] [some 0]) (X.go) (st 220 [(0, V.ow 0), (1, V.sc (.int .i64 o_)), (3, V.sc (.int .i64 a3)), (4, V.fn 29 []), (18, V.sc (.int .i64 (i64 (bshr .u64 (u64 (i64 (o_ + a3))) 1)))), (20, V.sc (.int .i64 r16.1)), (24, V.sc (.int .i64 (i64 ((i64 ((i64 (bshr .u64 (u64 (i64 (o_ + a3))) 1)) + a2)) - r16.1))))] [Blk.row 43 (List.map E43 r18) []] [some 0]),
      (decide (o_ < r16.1)) = false,
      (decide (o_ < r16.1)) = false,
      (decide (o_ < r16.1)) = false,
      (decide (o_ < r16.1)) = false,
      false = false,
      (decide ((i64 (bshr .u64 (u64 (i64 (o_ + a3))) 1)) < (i64 ((i64 ((i64 (bshr .u64 (u64 (i64 (o_ + a3))) 1)) + a2)) - r16.1)))) = true,
      (decide ((i64 (bshr .u64 (u64 (i64 (o_ + a3))) 1)) < (i64 ((i64 ((i64 (bshr .u64 (u64 (i64 (o_ + a3))) 1)) + a2)) - r16.1)))) = true,
      (decide ((i64 (bshr .u64 (u64 (i64 (o_ + a3))) 1)) < (i64 ((i64 ((i64 (bshr .u64 (u64 (i64 (o_ + a3))) 1)) + a2)) - r16.1)))) = true,
      (decide ((i64 (bshr .u64 (u64 (i64 (o_ + a3))) 1)) < (i64 ((i64 ((i64 (bshr .u64 (u64 (i64 (o_ + a3))) 1)) + a2)) - r16.1)))) = true,
      (decide ((i64 ((i64 ((i64 (bshr .u64 (u64 (i64 (o_ + a3))) 1)) + a2)) - r16.1)) < a3)) = false]) (by kernel_rfl) (cj ((slices_symMergeCmpFunc_impl_Acct_impl_Gather_1_c0_ok o o_ a2 a3 r6 h24).at h25) (cj ((slices_symMergeCmpFunc_impl_Acct_impl_Gather_1_c5_ok o o_ a2 a3 r12 h50).at h51) (cj (by decide) (cj (slices_symMergeCmpFunc_impl_Acct_impl_Gather_1_c10_ok o o_ a2 a3 r13 h54) (cj (slices_symMergeCmpFunc_impl_Acct_impl_Gather_1_l4_ok o_ a2 a3 FUEL r13.1 r13.2 o r16 h66) (cj (slices_symMergeCmpFunc_impl_Acct_impl_Gather_1_c13_ok o_ a2 a3 r16 r18 h70) (cj h71 (cj h71 (cj h71 (cj h71 (cj rfl (cj h80 (cj h80 (cj h80 (cj h80 (cj1 h81))))))))))))))))))) (fun h80 =>
     Pn.some (Fn.of [.wait 1, .mask [0, 1, 2, 3, 4], .ren [0], .join 41 (X.go) (st 220 [(0, V.ow 0), (1, V.sc (.int .i64 o_)), (2, V.sc (.int .i64 a2)), (3, V.sc (.int .i64 a3)), (4, V.fn 29 [])] [Blk.row 43 (List.map E43 o) []] [some 0]), .wait 1, .mask [0, 1, 2, 3, 4], .ren [0], .join 41 (X.go) (st 220 [(0, V.ow 0), (1, V.sc (.int .i64 o_)), (2, V.sc (.int .i64 a2)), (3, V.sc (.int .i64 a3)), (4, V.fn 29 [])] [Blk.row 43 (List.map E43 o) []] [some 0]), .wait 14, .mask [0, 1, 2, 3, 4, 18, 19], .ren [0], .join 9 (X.go) (st 220 [(0, V.ow 0), (1, V.sc (.int .i64 o_)), (2, V.sc (.int .i64 a2)), (3, V.sc (.int .i64 a3)), (4, V.fn 29 []), (18, V.sc (.int .i64 (i64 (bshr .u64 (u64 (i64 (o_ + a3))) 1)))), (19, V.sc (.int .i64 (i64 ((i64 (bshr .u64 (u64 (i64 (o_ + a3))) 1)) + a2)))), (20, V.sc (.int .i64 r13.1)), (21, V.sc (.int .i64 r13.2))] [Blk.row 43 (List.map E43 o) []] [some 0]), .wait 4, .mask [0, 1, 2, 3, 4, 18, 19, 20, 21, 22], .ren [0], .loop (X.out 8) (st 220 [(0, V.ow 0), (1, V.sc (.int .i64 o_)), (2, V.sc (.int .i64 a2)), (3, V.sc (.int .i64 a3)), (4, V.fn 29 []), (18, V.sc (.int .i64 (i64 (bshr .u64 (u64 (i64 (o_ + a3))) 1)))), (19, V.sc (.int .i64 (i64 ((i64 (bshr .u64 (u64 (i64 (o_ + a3))) 1)) + a2)))), (20, V.sc (.int .i64 r16.1))] [Blk.row 43 (List.map E43 r16.2) []] [some 0]), .wait 5, .mask [0, 1, 2, 3, 4, 18, 20, 24], .ren [0], .join 5 (X.go) (st 220 [(0, V.ow 0), (1, V.sc (.int .i64 o_)), (3, V.sc (.int .i64 a3)), (4, V.fn 29 []), (18, V.sc (.int .i64 (i64 (bshr .u64 (u64 (i64 (o_ + a3))) 1)))), (20, V.sc (.int .i64 r16.1)), (24, V.sc (.int .i64 (i64 ((i64 ((i64 (bshr .u64 (u64 (i64 (o_ + a3))) 1)) + a2)) - r16.1))))] [Blk.row 43 (List.map E43 r18) []] [some 0]), .bit false, .bit false, .bit false, .bit false, .bit false, .bit false, .bit false, .bit false, .bit false, .bit false] (p := [HT Tryz.prog (sub (codeOf Tryz.prog 75) [0]) (st 220 [(0, V.ow 0), (1, V.sc (.int .i64 o_)), (2, V.sc (.int .i64 a2)), (3, V.sc (.int .i64 a3)), (4, V.fn 29 [])] [Blk.row 43 (List.map E43 o) []] [some 0]) (X.go) (st 220 [(0, V.ow 0), (1, V.sc (.int .i64 o_)), (2, V.sc (.int .i64 a2)), (3, V.sc (.int .i64 a3)), (4, V.fn 29 [])] [Blk.row 43 (List.map E43 o) []] [some 0]),
      HT Tryz.prog (sub (codeOf Tryz.prog 75) [1, 0]) (st 220 [(0, V.ow 0), (1, V.sc (.int .i64 o_)), (2, V.sc (.int .i64 a2)), (3, V.sc (.int .i64 a3)), (4, V.fn 29 [])] [Blk.row 43 (List.map E43 o) []] [some 0]) (X.go) (st 220 [(0, V.ow 0), (1, V.sc (.int .i64 o_)), (2, V.sc (.int .i64 a2)), (3, V.sc (.int .i64 a3)), (4, V.fn 29 [])] [Blk.row 43 (List.map E43 o) []] [some 0]),
      ¬ (1 : Int) < 0,
      HT Tryz.prog (sub (codeOf Tryz.prog 75) [1, 1, 1, 1, 1, 0]) (st 220 [(0, V.ow 0), (1, V.sc (.int .i64 o_)), (2, V.sc (.int .i64 a2)), (3, V.sc (.int .i64 a3)), (4, V.fn 29 []), (18, V.sc (.int .i64 (i64 (bshr .u64 (u64 (i64 (o_ + a3))) 1)))), (19, V.sc (.int .i64 (i64 ((i64 (bshr .u64 (u64 (i64 (o_ + a3))) 1)) + a2))))] [Blk.row 43 (List.map E43 o) []] [some 0]) (X.go) (st 220 [(0, V.ow 0), (1, V.sc (.int .i64 o_)), (2, V.sc (.int .i64 a2)), (3, V.sc (.int .i64 a3)), (4, V.fn 29 []), (18, V.sc (.int .i64 (i64 (bshr .u64 (u64 (i64 (o_ + a3))) 1)))), (19, V.sc (.int .i64 (i64 ((i64 (bshr .u64 (u64 (i64 (o_ + a3))) 1)) + a2)))), (20, V.sc (.int .i64 r13.1)), (21, V.sc (.int .i64 r13.2))] [Blk.row 43 (List.map E43 o) []] [some 0]),
      Loop Tryz.prog (sub (codeOf Tryz.prog 75) [1, 1, 1, 1, 1, 1, 1, 0, 0, 0]) (st 220 [(0, V.ow 0), (1, V.sc (.int .i64 o_)), (2, V.sc (.int .i64 a2)), (3, V.sc (.int .i64 a3)), (4, V.fn 29 []), (18, V.sc (.int .i64 (i64 (bshr .u64 (u64 (i64 (o_ + a3))) 1)))), (19, V.sc (.int .i64 (i64 ((i64 (bshr .u64 (u64 (i64 (o_ + a3))) 1)) + a2)))), (20, V.sc (.int .i64 r13.1)), (21, V.sc (.int .i64 r13.2)), (22, V.sc (.int .i64 (i64 ((i64 ((i64 (bshr .u64 (u64 (i64 (o_ + a3))) 1)) + a2)) - 1))))] [Blk.row 43 (List.map E43 o) []] [some 0]) (X.out 8) (st 220 [(0, V.ow 0), (1, V.sc (.int .i64 o_)), (2, V.sc (.int .i64 a2)), (3, V.sc (.int .i64 a3)), (4, V.fn 29 []), (18, V.sc (.int .i64 (i64 (bshr .u64 (u64 (i64 (o_ + a3))) 1)))), (19, V.sc (.int .i64 (i64 ((i64 (bshr .u64 (u64 (i64 (o_ + a3))) 1)) + a2)))), (20, V.sc (.int .i64 r16.1))] [Blk.row 43 (List.map E43 r16.2) []] [some 0]),
      HT Tryz.prog (sub (codeOf Tryz.prog 75) [1, 1, 1, 1, 1, 1, 1, 1, 1, 0]) (st 220 [(0, V.ow 0), (1, V.sc (.int .i64 o_)), (2, V.sc (.int .i64 a2)), (3, V.sc (.int .i64 a3)), (4, V.fn 29 []), (18, V.sc (.int .i64 (i64 (bshr .u64 (u64 (i64 (o_ + a3))) 1)))), (20, V.sc (.int .i64 r16.1)), (24, V.sc (.int .i64 (i64 ((i64 ((i64 (bshr .u64 (u64 (i64 (o_ + a3))) 1)) + a2)) - r16.1))))] [Blk.row 43 (List.map E43 r16.2) []] [some 0]) (X.go) (st 220 [(0, V.ow 0), (1, V.sc (.int .i64 o_)), (3, V.sc (.int .i64 a3)), (4, V.fn 29 []), (18, V.sc (.int .i64 (i64 (bshr .u64 (u64 (i64 (o_ + a3))) 1)))), (20, V.sc (.int .i64 r16.1)), (24, V.sc (.int .i64 (i64 ((i64 ((i64 (bshr .u64 (u64 (i64 (o_ + a3))) 1)) + a2)) - r16.1))))] [Blk.row 43 (List.map E43 r18) []] [some 0]),
      (decide (o_ < r16.1)) = false,
      (decide (o_ < r16.1)) = false,
      (decide (o_ < r16.1)) = false,
      (decide (o_ < r16.1)) = false,
      false = false,
      (decide ((i64 (bshr .u64 (u64 (i64 (o_ + a3))) 1)) < (i64 ((i64 ((i64 (bshr .u64 (u64 (i64 (o_ + a3))) 1)) + a2)) - r16.1)))) = false,
      (decide ((i64 (bshr .u64 (u64 (i64 (o_ + a3))) 1)) < (i64 ((i64 ((i64 (bshr .u64 (u64 (i64 (o_ + a3))) 1)) + a2)) - r16.1)))) = false,
      (decide ((i64 (bshr .u64 (u64 (i64 (o_ + a3))) 1)) < (i64 ((i64 ((i64 (bshr .u64 (u64 (i64 (o_ + a3))) 1)) + a2)) - r16.1)))) = false,
      (decide ((i64 (bshr .u64 (u64 (i64 (o_ + a3))) 1)) < (i64 ((i64 ((i64 (bshr .u64 (u64 (i64 (o_ + a3))) 1)) + a2)) - r16.1)))) = false,
      false = false]) (by kernel_rfl) (cj ((slices_symMergeCmpFunc_impl_Acct_impl_Gather_1_c0_ok o o_ a2 a3 r6 h24).at h25) (cj ((slices_symMergeCmpFunc_impl_Acct_impl_Gather_1_c5_ok o o_ a2 a3 r12 h50).at h51) (cj (by decide) (cj (slices_symMergeCmpFunc_impl_Acct_impl_Gather_1_c10_ok o o_ a2 a3 r13 h54) (cj (slices_symMergeCmpFunc_impl_Acct_impl_Gather_1_l4_ok o_ a2 a3 FUEL r13.1 r13.2 o r16 h66) (cj (slices_symMergeCmpFunc_impl_Acct_impl_Gather_1_c13_ok o_ a2 a3 r16 r18 h70) (cj h71 (cj h71 (cj h71 (cj h71 (cj rfl (cj h80 (cj h80 (cj h80 (cj h80 (cj1 rfl))))))))))))))))))))))) (fun s12 h52 =>
     Pn.some (Fn.of [.wait 1, .mask [0, 1, 2, 3, 4], .ren [0], .join 41 (X.go) (st 220 [(0, V.ow 0), (1, V.sc (.int .i64 o_)), (2, V.sc (.int .i64 a2)), (3, V.sc (.int .i64 a3)), (4, V.fn 29 [])] [Blk.row 43 (List.map E43 o) []] [some 0]), .wait 1, .mask [0, 1, 2, 3, 4], .ren [0], .join 41 (X.ret) (st 220 [] [Blk.row 43 (List.map E43 s12) []] [some 0])] (p := [HT Tryz.prog (sub (codeOf Tryz.prog 75) [0]) (st 220 [(0, V.ow 0), (1, V.sc (.int .i64 o_)), (2, V.sc (.int .i64 a2)), (3, V.sc (.int .i64 a3)), (4, V.fn 29 [])] [Blk.row 43 (List.map E43 o) []] [some 0]) (X.go) (st 220 [(0, V.ow 0), (1, V.sc (.int .i64 o_)), (2, V.sc (.int .i64 a2)), (3, V.sc (.int .i64 a3)), (4, V.fn 29 [])] [Blk.row 43 (List.map E43 o) []] [some 0]),
      HT Tryz.prog (sub (codeOf Tryz.prog 75) [1, 0]) (st 220 [(0, V.ow 0), (1, V.sc (.int .i64 o_)), (2, V.sc (.int .i64 a2)), (3, V.sc (.int .i64 a3)), (4, V.fn 29 [])] [Blk.row 43 (List.map E43 o) []] [some 0]) (X.ret) (st 220 [] [Blk.row 43 (List.map E43 s12) []] [some 0])]) (by kernel_rfl) (cj ((slices_symMergeCmpFunc_impl_Acct_impl_Gather_1_c0_ok o o_ a2 a3 r6 h24).at h25) (cj1 ((slices_symMergeCmpFunc_impl_Acct_impl_Gather_1_c5_ok o o_ a2 a3 r12 h50).at h52))))))) (fun s6 h26 =>
     Pn.some (Fn.of [.wait 1, .mask [0, 1, 2, 3, 4], .ren [0], .join 41 (X.ret) (st 220 [] [Blk.row 43 (List.map E43 s6) []] [some 0])] (p := [HT Tryz.prog (sub (codeOf Tryz.prog 75) [0]) (st 220 [(0, V.ow 0), (1, V.sc (.int .i64 o_)), (2, V.sc (.int .i64 a2)), (3, V.sc (.int .i64 a3)), (4, V.fn 29 [])] [Blk.row 43 (List.map E43 o) []] [some 0]) (X.ret) (st 220 [] [Blk.row 43 (List.map E43 s6) []] [some 0])]) (by kernel_rfl) (cj1 ((slices_symMergeCmpFunc_impl_Acct_impl_Gather_1_c0_ok o o_ a2 a3 r6 h24).at h26)))))
def slices_stableCmpFunc_impl_Acct_impl_Gather_1_l0 (n : Int) : Nat → Int → Int → (List Acct) → Option (Int × (List Acct))
  | 0, _, _, _ => none
  | fuel + 1, v1, v2, v3 =>
   if (decide (v2 ≤ n)) = true then
   (slices_insertionSortCmpFunc_impl_Acct_impl_Gather_1 v3 v1 v2).bind fun r1 =>
   slices_stableCmpFunc_impl_Acct_impl_Gather_1_l0 n fuel v2 (i64 (v2 + 20)) r1
   else
   some (v1, v3)
theorem slices_stableCmpFunc_impl_Acct_impl_Gather_1_l0_ok (n : Int) : ∀ (fuel : Nat) (v1 : Int) (v2 : Int) (v3 : List Acct), Pn (LpO Tryz.prog (sub (codeOf Tryz.prog 51) [1, 1, 0, 0, 0]) (st 63 [(0, V.ow 0), (1, V.sc (.int .i64 n)), (2, V.fn 29 []), (6, V.sc (.int .i64 20)), (7, V.sc (.int .i64 v1)), (8, V.sc (.int .i64 v2))] [Blk.row 43 (List.map E43 v3) []] [some 0]) (fun (y : Int × (List Acct)) => (X.out 0, st 63 [(0, V.ow 0), (1, V.sc (.int .i64 n)), (2, V.fn 29 []), (6, V.sc (.int .i64 20)), (7, V.sc (.int .i64 y.1))] [Blk.row 43 (List.map E43 y.2) []] [some 0]))) (slices_stableCmpFunc_impl_Acct_impl_Gather_1_l0 n fuel v1 v2 v3)
  | 0, _, _, _ => Pn.none
  | fuel + 1, v1, v2, v3 => by
    unfold slices_stableCmpFunc_impl_Acct_impl_Gather_1_l0
    exact
     Pn.ite (fun h1 =>
     Pn.bind (fun r1 h2 =>
     LpO.go [.bit true, .call [true, false, false, false] (V.tup []) [V.sl true 43 (List.map E43 r1)], .wait 7, .mask [0, 1, 2, 6, 7, 8], .ren [0]] (p := [(decide (v2 ≤ n)) = true,
      Fn Tryz.prog 74 [(true, E34 v3), (false, E3 v1), (false, E3 v2), (false, V.fn 29 [])] (V.tup []) [V.sl true 43 (List.map E43 r1)],
      (true || ((V.tup []).nv && nvL [V.sl true 43 (List.map E43 r1)])) = true]) (by kernel_rfl) (cj h1 (cj (slices_insertionSortCmpFunc_impl_Acct_impl_Gather_1_ok v3 v1 v2 r1 h2) (cj1 rfl))) (slices_stableCmpFunc_impl_Acct_impl_Gather_1_l0_ok n fuel v2 (i64 (v2 + 20)) r1))) (fun h1 =>
     Pn.some (LpO.out [.bit false, .mask [0, 1, 2, 6, 7], .ren [0]] (p := [(decide (v2 ≤ n)) = false]) (by kernel_rfl) (show X.out 0 ≠ X.go from nofun) (cj1 h1)))
def slices_stableCmpFunc_impl_Acct_impl_Gather_1_l2 (n : Int) (v4 : Int) : Nat → Int → Int → (List Acct) → Option (Int × (List Acct))
  | 0, _, _, _ => none
  | fuel + 1, v6, v7, v8 =>
   if (decide (v7 ≤ n)) = true then
   (slices_symMergeCmpFunc_impl_Acct_impl_Gather_1 FUEL v8 v6 (i64 (v6 + v4)) v7).bind fun r4 =>
   slices_stableCmpFunc_impl_Acct_impl_Gather_1_l2 n v4 fuel v7 (i64 (v7 + (i64 (2 * v4)))) r4
   else
   some (v6, v8)
theorem slices_stableCmpFunc_impl_Acct_impl_Gather_1_l2_ok (n : Int) (v4 : Int) : ∀ (fuel : Nat) (v6 : Int) (v7 : Int) (v8 : List Acct), Pn (LpO Tryz.prog (sub (codeOf Tryz.prog 51) [1, 1, 1, 1, 0, 0, 1, 0, 1, 0, 0, 0]) (st 63 [(0, V.ow 0), (1, V.sc (.int .i64 n)), (2, V.fn 29 []), (6, V.sc (.int .i64 v4)), (7, V.sc (.int .i64 v6)), (8, V.sc (.int .i64 v7))] [Blk.row 43 (List.map E43 v8) []] [some 0]) (fun (y : Int × (List Acct)) => (X.out 4, st 63 [(0, V.ow 0), (1, V.sc (.int .i64 n)), (2, V.fn 29 []), (6, V.sc (.int .i64 v4)), (7, V.sc (.int .i64 y.1))] [Blk.row 43 (List.map E43 y.2) []] [some 0]))) (slices_stableCmpFunc_impl_Acct_impl_Gather_1_l2 n v4 fuel v6 v7 v8)
  | 0, _, _, _ => Pn.none
  | fuel + 1, v6, v7, v8 => by
    unfold slices_stableCmpFunc_impl_Acct_impl_Gather_1_l2
    exact
     Pn.ite (fun h6 =>
     Pn.bind (fun r4 h7 =>
     LpO.go [.bit true, .call [true, false, false, false, false] (V.tup []) [V.sl true 43 (List.map E43 r4)], .wait 8, .mask [0, 1, 2, 6, 7, 8], .ren [0]] (p := [(decide (v7 ≤ n)) = true,
      Fn Tryz.prog 75 [(true, E34 v8), (false, E3 v6), (false, E3 (i64 (v6 + v4))), (false, E3 v7), (false, V.fn 29 [])] (V.tup []) [V.sl true 43 (List.map E43 r4)],
      (true || ((V.tup []).nv && nvL [V.sl true 43 (List.map E43 r4)])) = true]) (by kernel_rfl) (cj h6 (cj (slices_symMergeCmpFunc_impl_Acct_impl_Gather_1_ok FUEL v8 v6 (i64 (v6 + v4)) v7 r4 h7) (cj1 rfl))) (slices_stableCmpFunc_impl_Acct_impl_Gather_1_l2_ok n v4 fuel v7 (i64 (v7 + (i64 (2 * v4)))) r4))) (fun h6 =>
     Pn.some (LpO.out [.bit false, .mask [0, 1, 2, 6, 7], .ren [0]] (p := [(decide (v7 ≤ n)) = false]) (by kernel_rfl) (show X.out 4 ≠ X.go from nofun) (cj1 h6)))
def slices_stableCmpFunc_impl_Acct_impl_Gather_1_l1 (n : Int) : Nat → Int → (List Acct) → Option ((List Acct))
  | 0, _, _ => none
  | fuel + 1, v4, v5 =>
   if (decide (v4 < n)) = true then
   (slices_stableCmpFunc_impl_Acct_impl_Gather_1_l2 n v4 FUEL 0 (i64 (2 * v4)) v5).bind fun r5 =>
   if (decide ((i64 (r5.1 + v4)) < n)) = true then
   (slices_symMergeCmpFunc_impl_Acct_impl_Gather_1 FUEL r5.2 r5.1 (i64 (r5.1 + v4)) n).bind fun r6 =>
   slices_stableCmpFunc_impl_Acct_impl_Gather_1_l1 n fuel (i64 (v4 * 2)) r6
   else
   slices_stableCmpFunc_impl_Acct_impl_Gather_1_l1 n fuel (i64 (v4 * 2)) r5.2
   else
   some v5
theorem slices_stableCmpFunc_impl_Acct_impl_Gather_1_l1_ok (n : Int) : ∀ (fuel : Nat) (v4 : Int) (v5 : List Acct), Pn (LpO Tryz.prog (sub (codeOf Tryz.prog 51) [1, 1, 1, 1, 0, 0]) (st 63 [(0, V.ow 0), (1, V.sc (.int .i64 n)), (2, V.fn 29 []), (6, V.sc (.int .i64 v4))] [Blk.row 43 (List.map E43 v5) []] [some 0]) (fun (y : (List Acct)) => (X.out 2, st 63 [] [Blk.row 43 (List.map E43 y) []] [some 0]))) (slices_stableCmpFunc_impl_Acct_impl_Gather_1_l1 n fuel v4 v5)
  | 0, _, _ => Pn.none
  | fuel + 1, v4, v5 => by
    unfold slices_stableCmpFunc_impl_Acct_impl_Gather_1_l1
    exact
     Pn.ite (fun h5 =>
     Pn.bind (fun r5 h8 =>
     Pn.ite (fun h9 =>
     Pn.bind (fun r6 h10 =>
     LpO.go [.bit true, .wait 4, .mask [0, 1, 2, 6, 7, 8], .ren [0], .loop (X.out 4) (st 63 [(0, V.ow 0), (1, V.sc (.int .i64 n)), (2, V.fn 29 []), (6, V.sc (.int .i64 v4)), (7, V.sc (.int .i64 r5.1))] [Blk.row 43 (List.map E43 r5.2) []] [some 0]), .bit true, .call [true, false, false, false, false] (V.tup []) [V.sl true 43 (List.map E43 r6)], .wait 4, .mask [0, 1, 2, 6], .ren [0]] (p := [(decide (v4 < n)) = true,
      Loop Tryz.prog (sub (codeOf Tryz.prog 51) [1, 1, 1, 1, 0, 0, 1, 0, 1, 0, 0, 0]) (st 63 [(0, V.ow 0), (1, V.sc (.int .i64 n)), (2, V.fn 29 []), (6, V.sc (.int .i64 v4)), (7, V.sc (.int .i64 0)), (8, V.sc (.int .i64 (i64 (2 * v4))))] [Blk.row 43 (List.map E43 v5) []] [some 0]) (X.out 4) (st 63 [(0, V.ow 0), (1, V.sc (.int .i64 n)), (2, V.fn 29 []), (6, V.sc (.int .i64 v4)), (7, V.sc (.int .i64 r5.1))] [Blk.row 43 (List.map E43 r5.2) []] [some 0]),
      (decide ((i64 (r5.1 + v4)) < n)) = true,
      Fn Tryz.prog 75 [(true, E34 r5.2), (false, E3 r5.1), (false, E3 (i64 (r5.1 + v4))), (false, E3 n), (false, V.fn 29 [])] (V.tup []) [V.sl true 43 (List.map E43 r6)],
      (true || ((V.tup []).nv && nvL [V.sl true 43 (List.map E43 r6)])) = true]) (by kernel_rfl) (cj h5 (cj (slices_stableCmpFunc_impl_Acct_impl_Gather_1_l2_ok n v4 FUEL 0 (i64 (2 * v4)) v5 r5 h8) (cj h9 (cj (slices_symMergeCmpFunc_impl_Acct_impl_Gather_1_ok FUEL r5.2 r5.1 (i64 (r5.1 + v4)) n r6 h10) (cj1 rfl))))) (slices_stableCmpFunc_impl_Acct_impl_Gather_1_l1_ok n fuel (i64 (v4 * 2)) r6))) (fun h9 =>
     LpO.go [.bit true, .wait 4, .mask [0, 1, 2, 6, 7, 8], .ren [0], .loop (X.out 4) (st 63 [(0, V.ow 0), (1, V.sc (.int .i64 n)), (2, V.fn 29 []), (6, V.sc (.int .i64 v4)), (7, V.sc (.int .i64 r5.1))] [Blk.row 43 (List.map E43 r5.2) []] [some 0]), .bit false, .wait 3, .mask [0, 1, 2, 6], .ren [0]] (p := [(decide (v4 < n)) = true,
      Loop Tryz.prog (sub (codeOf Tryz.prog 51) [1, 1, 1, 1, 0, 0, 1, 0, 1, 0, 0, 0]) (st 63 [(0, V.ow 0), (1, V.sc (.int .i64 n)), (2, V.fn 29 []), (6, V.sc (.int .i64 v4)), (7, V.sc (.int .i64 0)), (8, V.sc (.int .i64 (i64 (2 * v4))))] [Blk.row 43 (List.map E43 v5) []] [some 0]) (X.out 4) (st 63 [(0, V.ow 0), (1, V.sc (.int .i64 n)), (2, V.fn 29 []), (6, V.sc (.int .i64 v4)), (7, V.sc (.int .i64 r5.1))] [Blk.row 43 (List.map E43 r5.2) []] [some 0]),
      (decide ((i64 (r5.1 + v4)) < n)) = false]) (by kernel_rfl) (cj h5 (cj (slices_stableCmpFunc_impl_Acct_impl_Gather_1_l2_ok n v4 FUEL 0 (i64 (2 * v4)) v5 r5 h8) (cj1 h9))) (slices_stableCmpFunc_impl_Acct_impl_Gather_1_l1_ok n fuel (i64 (v4 * 2)) r5.2)))) (fun h5 =>
     Pn.some (LpO.out [.bit false, .mask [], .ren [0]] (p := [(decide (v4 < n)) = false]) (by kernel_rfl) (show X.out 2 ≠ X.go from nofun) (cj1 h5)))
def slices_stableCmpFunc_impl_Acct_impl_Gather_1 (data : List Acct) (n : Int) : Option ((List Acct)) :=
 (slices_stableCmpFunc_impl_Acct_impl_Gather_1_l0 n FUEL 0 20 data).bind fun r2 =>
 (slices_insertionSortCmpFunc_impl_Acct_impl_Gather_1 r2.2 r2.1 n).bind fun r3 =>
 (slices_stableCmpFunc_impl_Acct_impl_Gather_1_l1 n FUEL 20 r3).bind fun r7 =>
 some r7
theorem slices_stableCmpFunc_impl_Acct_impl_Gather_1_ok (data : List Acct) (n : Int) : Pn (fun y => Fn Tryz.prog 51 [(true, E34 data), (false, E3 n), (false, V.fn 29 [])] (V.tup []) [V.sl true 43 (List.map E43 y)]) (slices_stableCmpFunc_impl_Acct_impl_Gather_1 data n) := by
  unfold slices_stableCmpFunc_impl_Acct_impl_Gather_1
  exact
   Pn.bind (fun r2 h3 =>
   Pn.bind (fun r3 h4 =>
   Pn.bind (fun r7 h11 =>
   Pn.some (Fn.of [.wait 5, .mask [0, 1, 2, 6, 7, 8], .ren [0], .loop (X.out 0) (st 63 [(0, V.ow 0), (1, V.sc (.int .i64 n)), (2, V.fn 29 []), (6, V.sc (.int .i64 20)), (7, V.sc (.int .i64 r2.1))] [Blk.row 43 (List.map E43 r2.2) []] [some 0]), .call [true, false, false, false] (V.tup []) [V.sl true 43 (List.map E43 r3)], .wait 1, .mask [0, 1, 2, 6], .ren [0], .loop (X.out 2) (st 63 [] [Blk.row 43 (List.map E43 r7) []] [some 0])] (p := [Loop Tryz.prog (sub (codeOf Tryz.prog 51) [1, 1, 0, 0, 0]) (st 63 [(0, V.ow 0), (1, V.sc (.int .i64 n)), (2, V.fn 29 []), (6, V.sc (.int .i64 20)), (7, V.sc (.int .i64 0)), (8, V.sc (.int .i64 20))] [Blk.row 43 (List.map E43 data) []] [some 0]) (X.out 0) (st 63 [(0, V.ow 0), (1, V.sc (.int .i64 n)), (2, V.fn 29 []), (6, V.sc (.int .i64 20)), (7, V.sc (.int .i64 r2.1))] [Blk.row 43 (List.map E43 r2.2) []] [some 0]),
    Fn Tryz.prog 74 [(true, E34 r2.2), (false, E3 r2.1), (false, E3 n), (false, V.fn 29 [])] (V.tup []) [V.sl true 43 (List.map E43 r3)],
    (true || ((V.tup []).nv && nvL [V.sl true 43 (List.map E43 r3)])) = true,
    Loop Tryz.prog (sub (codeOf Tryz.prog 51) [1, 1, 1, 1, 0, 0]) (st 63 [(0, V.ow 0), (1, V.sc (.int .i64 n)), (2, V.fn 29 []), (6, V.sc (.int .i64 20))] [Blk.row 43 (List.map E43 r3) []] [some 0]) (X.out 2) (st 63 [] [Blk.row 43 (List.map E43 r7) []] [some 0])]) (by kernel_rfl) (cj (slices_stableCmpFunc_impl_Acct_impl_Gather_1_l0_ok n FUEL 0 20 data r2 h3) (cj (slices_insertionSortCmpFunc_impl_Acct_impl_Gather_1_ok r2.2 r2.1 n r3 h4) (cj rfl (cj1 (slices_stableCmpFunc_impl_Acct_impl_Gather_1_l1_ok n FUEL 20 r3 r7 h11)))))))))
def slices_SortStableFunc_impl_Acct_impl_Gather_1 (x_ : List Acct) : Option ((List Acct)) :=
 (slices_stableCmpFunc_impl_Acct_impl_Gather_1 x_ (x_.length : Int)).bind fun r1 =>
 some r1
theorem slices_SortStableFunc_impl_Acct_impl_Gather_1_ok (x_ : List Acct) : Pn (fun y => Fn Tryz.prog 28 [(true, E34 x_), (false, V.fn 29 [])] (V.tup []) [V.sl true 43 (List.map E43 y)]) (slices_SortStableFunc_impl_Acct_impl_Gather_1 x_) := by
  unfold slices_SortStableFunc_impl_Acct_impl_Gather_1
  exact
   Pn.bind (fun r1 h1 =>
   Pn.some (Fn.of [.wait 3, .nm 6 (V.sc (.int .i64 (x_.length : Int))), .call [true, false, false] (V.tup []) [V.sl true 43 (List.map E43 r1)]] (p := [V.sc (.int .i64 ((List.map E43 x_).length : Int)) = V.sc (.int .i64 (x_.length : Int)),
    Fn Tryz.prog 51 [(true, E34 x_), (false, E3 (x_.length : Int)), (false, V.fn 29 [])] (V.tup []) [V.sl true 43 (List.map E43 r1)],
    (true || ((V.tup []).nv && nvL [V.sl true 43 (List.map E43 r1)])) = true]) (by kernel_rfl) (cj (len_nm _ _) (cj (slices_stableCmpFunc_impl_Acct_impl_Gather_1_ok x_ (x_.length : Int) r1 h1) (cj1 rfl)))))
def impl_Gather_l0 (l : List Stripe) : List Stripe → (List Acct) → Option ((List Acct))
  | [], v1 =>
   some v1
  | x1 :: t1, v1 =>
   (impl_Book_copied (Book.mk x1.Accts)).bind fun r1 =>
   if (capOk (v1.length + r1.Accts.length)) = true then
   impl_Gather_l0 l t1 (v1 ++ r1.Accts)
   else none
theorem impl_Gather_l0_ok (l : List Stripe) (h2 : capOk l.length = true) : ∀ (t1 p1 : List Stripe) (_ : l = p1 ++ t1) (v1 : List Acct), Pn (LpO Tryz.prog (sub (codeOf Tryz.prog 18) [1, 1, 0, 1, 0, 0]) (st 27 [(2, V.ptr 0 0), (3, V.ptr 1 0), (7, V.sl false 36 (List.map E36 l)), (8, V.sc (.int .i64 (l.length : Int))), (9, V.sc (.int .i64 (p1.length : Int)))] [Blk.box 47 [V.nl 43], Blk.box 47 [V.ow 2], Blk.row 43 (List.map E43 v1) []] []) (fun (y : (List Acct)) => (X.out 0, st 27 [(2, V.ptr 0 0), (3, V.ptr 1 0)] [Blk.box 47 [V.nl 43], Blk.box 47 [V.ow 2], Blk.row 43 (List.map E43 y) []] []))) (impl_Gather_l0 l t1 v1)
  | [], p1, h1, v1 => by
    unfold impl_Gather_l0
    exact
     Pn.some (LpO.out [.bit false, .mask [2, 3], .ren [0, 1, 2]] (p := [(decide ((p1.length : Int) < (l.length : Int))) = false]) (by kernel_rfl) (show X.out 0 ≠ X.go from nofun) (cj1 (rng_end h1)))
  | x1 :: t1, p1, h1, v1 => by
    unfold impl_Gather_l0
    exact
     Pn.bind (fun r1 h3 =>
     Pn.ite (fun h4 =>
     LpO.go [.bit true, .el (E36 x1), .draw [7, 9], .call [] (E47 r1) [], .mv, .nb 5 (.row 43 (List.map E43 (v1 ++ r1.Accts)) []), .wait 5, .mask [2, 3, 7, 8, 9], .ren [0, 1, 5], .nm 9 (V.sc (.int .i64 ((p1 ++ [x1]).length : Int)))] (p := [(decide ((p1.length : Int) < (l.length : Int))) = true,
      (0 : Int) ≤ (p1.length : Int),
      (List.map E36 l)[(p1.length : Int).toNat]? = some (E36 x1),
      Fn Tryz.prog 27 [(false, E47 (Book.mk x1.Accts))] (E47 r1) [],
      (true || ((E47 r1).nv && nvL [])) = true,
      (List.map E43 v1).length + (List.map E43 r1.Accts).length ≤ 9223372036854775807,
      ((List.map E43 v1).length + (List.map E43 r1.Accts).length) * 160 ≤ 140737488355328,
      Blk.row 43 ((List.map E43 v1) ++ (List.map E43 r1.Accts)) [] = Blk.row 43 (List.map E43 (v1 ++ r1.Accts)) [],
      V.sc (.int .i64 (i64 ((p1.length : Int) + 1))) = V.sc (.int .i64 ((p1 ++ [x1]).length : Int))]) (by kernel_rfl) (cj (rng_lt h1) (cj (by omega) (cj (rng_get _ h1) (cj (impl_Book_copied_ok (Book.mk x1.Accts) r1 h3) (cj rfl (cj (cap1 (capN (by simp) h4)) (cj (cap2 (capN (by simp) h4) (by decide)) (cj (nb_app E43 v1 r1.Accts) (cj1 (rng_next h1 h2)))))))))) (impl_Gather_l0_ok l h2 t1 (p1 ++ [x1]) (rng_step h1) (v1 ++ r1.Accts))) (fun h4 =>
     Pn.none))
def impl_Gather (l : List Stripe) : Option (Book) :=
 if (capOk l.length) = true then
 (impl_Gather_l0 l l []).bind fun r2 =>
 (slices_SortStableFunc_impl_Acct_impl_Gather_1 r2).bind fun r3 =>
 some (Book.mk r3)
 else none
theorem impl_Gather_ok (l : List Stripe) : Pn (fun y => Fn Tryz.prog 18 [(false, E25 l)] (E47 y) []) (impl_Gather l) := by
  unfold impl_Gather
  exact
   Pn.ite (fun h5 =>
   Pn.bind (fun r2 h6 =>
   Pn.bind (fun r3 h7 =>
   Pn.some (Fn.of [.wait 6, .nm 8 (V.sc (.int .i64 (l.length : Int))), .wait 2, .mask [2, 3, 7, 8, 9], .ren [0, 1], .ownb 1 0, .mask [2, 3, 7, 8, 9], .ren [0, 1, 2], .loop (X.out 0) (st 27 [(2, V.ptr 0 0), (3, V.ptr 1 0)] [Blk.box 47 [V.nl 43], Blk.box 47 [V.ow 2], Blk.row 43 (List.map E43 r2) []] []), .call [true, false] (V.tup []) [V.sl true 43 (List.map E43 r3)]] (p := [V.sc (.int .i64 ((List.map E36 l).length : Int)) = V.sc (.int .i64 (l.length : Int)),
    Loop Tryz.prog (sub (codeOf Tryz.prog 18) [1, 1, 0, 1, 0, 0]) (st 27 [(2, V.ptr 0 0), (3, V.ptr 1 0), (7, V.sl false 36 (List.map E36 l)), (8, V.sc (.int .i64 (l.length : Int))), (9, V.sc (.int .i64 0))] [Blk.box 47 [V.nl 43], Blk.box 47 [V.ow 2], Blk.row 43 ([] : List V) []] []) (X.out 0) (st 27 [(2, V.ptr 0 0), (3, V.ptr 1 0)] [Blk.box 47 [V.nl 43], Blk.box 47 [V.ow 2], Blk.row 43 (List.map E43 r2) []] []),
    Fn Tryz.prog 28 [(true, E34 r2), (false, V.fn 29 [])] (V.tup []) [V.sl true 43 (List.map E43 r3)],
    (true || ((V.tup []).nv && nvL [V.sl true 43 (List.map E43 r3)])) = true]) (by kernel_rfl) (cj (len_nm _ _) (cj (impl_Gather_l0_ok l h5 l [] rfl [] r2 h6) (cj (slices_SortStableFunc_impl_Acct_impl_Gather_1_ok r2 r3 h7) (cj1 rfl)))))))) (fun h5 =>
   Pn.none)
def impl_Digits_l0 (s_ : ByteArray) : Nat → Int → Option (Lo Unit Unit)
  | 0, _ => none
  | fuel + 1, v1 =>
   if (decide (v1 < (s_.size : Int))) = true then
   if (decide (0 ≤ v1)) = true then
   if (decide ((v1 : Int) < (s_.size : Int))) = true then
   if (decide ((sAt s_ v1) < 48)) = true then
   some (.ret ())
   else
   if (decide (57 < (sAt s_ v1))) = true then
   some (.ret ())
   else
   impl_Digits_l0 s_ fuel (i64 (v1 + 1))
   else none
   else none
   else
   some (.out ())
theorem impl_Digits_l0_ok (s_ : ByteArray) : ∀ (fuel : Nat) (v1 : Int), Pn (LpO Tryz.prog (sub (codeOf Tryz.prog 88) [1, 0, 1, 0, 0]) (st 22 [(0, V.sc (.string s_)), (5, V.sc (.int .i64 (s_.size : Int))), (6, V.sc (.int .i64 v1))] [] []) (fun (y : Lo Unit Unit) => Lo.elim y (fun s => (X.out 0, st 22 [(0, V.sc (.string s_))] [] [])) (fun s => (X.ret, st 22 [(2, V.sc (.bool false))] [] [])))) (impl_Digits_l0 s_ fuel v1)
  | 0, _ => Pn.none
  | fuel + 1, v1 => by
    unfold impl_Digits_l0
    exact
     Pn.ite (fun h1 =>
     Pn.ite (fun h2 =>
     Pn.ite (fun h3 =>
     Pn.ite (fun h4 =>
     Pn.some (LpO.out [.bit true, .bit true, .bit true, .bit true, .bit true, .bit true, .bit true, .wait 1, .mask [2], .ren []] (p := [(decide (v1 < (s_.size : Int))) = true,
      (0 : Int) ≤ v1,
      (v1 : Int) < s_.size,
      (decide ((sAt s_ v1) < 48)) = true,
      (decide ((sAt s_ v1) < 48)) = true,
      (decide ((sAt s_ v1) < 48)) = true,
      (decide ((sAt s_ v1) < 48)) = true,
      (decide ((sAt s_ v1) < 48)) = true,
      true = true]) (by kernel_rfl) (show X.ret ≠ X.go from nofun) (cj h1 (cj (od h2) (cj (od h3) (cj h4 (cj h4 (cj h4 (cj h4 (cj h4 (cj1 rfl))))))))))) (fun h4 =>
     Pn.ite (fun h5 =>
     Pn.some (LpO.out [.bit true, .bit false, .bit false, .bit false, .bit false, .bit false, .bit true, .wait 1, .mask [2], .ren []] (p := [(decide (v1 < (s_.size : Int))) = true,
      (0 : Int) ≤ v1,
      (v1 : Int) < s_.size,
      (decide ((sAt s_ v1) < 48)) = false,
      (decide ((sAt s_ v1) < 48)) = false,
      (decide ((sAt s_ v1) < 48)) = false,
      (0 : Int) ≤ v1,
      (v1 : Int) < s_.size,
      (decide ((sAt s_ v1) < 48)) = false,
      (decide ((sAt s_ v1) < 48)) = false,
      (decide (57 < (sAt s_ v1))) = true]) (by kernel_rfl) (show X.ret ≠ X.go from nofun) (cj h1 (cj (od h2) (cj (od h3) (cj h4 (cj h4 (cj h4 (cj (od h2) (cj (od h3) (cj h4 (cj h4 (cj1 h5))))))))))))) (fun h5 =>
     LpO.go [.bit true, .bit false, .bit false, .bit false, .bit false, .bit false, .bit false, .wait 2, .mask [0, 5, 6], .ren []] (p := [(decide (v1 < (s_.size : Int))) = true,
      (0 : Int) ≤ v1,
      (v1 : Int) < s_.size,
      (decide ((sAt s_ v1) < 48)) = false,
      (decide ((sAt s_ v1) < 48)) = false,
      (decide ((sAt s_ v1) < 48)) = false,
      (0 : Int) ≤ v1,
      (v1 : Int) < s_.size,
      (decide ((sAt s_ v1) < 48)) = false,
      (decide ((sAt s_ v1) < 48)) = false,
      (decide (57 < (sAt s_ v1))) = false]) (by kernel_rfl) (cj h1 (cj (od h2) (cj (od h3) (cj h4 (cj h4 (cj h4 (cj (od h2) (cj (od h3) (cj h4 (cj h4 (cj1 h5))))))))))) (impl_Digits_l0_ok s_ fuel (i64 (v1 + 1)))))) (fun h3 =>
     Pn.none)) (fun h2 =>
     Pn.none)) (fun h1 =>
     Pn.some (LpO.out [.bit false, .mask [0], .ren []] (p := [(decide (v1 < (s_.size : Int))) = false]) (by kernel_rfl) (show X.out 0 ≠ X.go from nofun) (cj1 h1)))
def impl_Digits (s_ : ByteArray) : Option (Bool) :=
 (impl_Digits_l0 s_ FUEL 0).bind fun r1 =>
 Lo.elim r1 (fun s1 =>
 some (!(s_ == (bs [])))) (fun s2 =>
 some false)
theorem impl_Digits_ok (s_ : ByteArray) : Pn (fun y => Fn Tryz.prog 88 [(false, E9 s_)] (E4 y) []) (impl_Digits s_) := by
  unfold impl_Digits
  exact
   Pn.bind (fun r1 h6 =>
   Pn.lo (fun s1 h7 =>
   Pn.some (Fn.of [.wait 5, .mask [0, 5, 6], .ren [], .loop (X.out 0) (st 22 [(0, V.sc (.string s_))] [] [])] (p := [Loop Tryz.prog (sub (codeOf Tryz.prog 88) [1, 0, 1, 0, 0]) (st 22 [(0, V.sc (.string s_)), (5, V.sc (.int .i64 (s_.size : Int))), (6, V.sc (.int .i64 0))] [] []) (X.out 0) (st 22 [(0, V.sc (.string s_))] [] [])]) (by kernel_rfl) (cj1 ((impl_Digits_l0_ok s_ FUEL 0 r1 h6).at h7)))) (fun s2 h8 =>
   Pn.some (Fn.of [.wait 5, .mask [0, 5, 6], .ren [], .loop (X.ret) (st 22 [(2, V.sc (.bool false))] [] [])] (p := [Loop Tryz.prog (sub (codeOf Tryz.prog 88) [1, 0, 1, 0, 0]) (st 22 [(0, V.sc (.string s_)), (5, V.sc (.int .i64 (s_.size : Int))), (6, V.sc (.int .i64 0))] [] []) (X.ret) (st 22 [(2, V.sc (.bool false))] [] [])]) (by kernel_rfl) (cj1 ((impl_Digits_l0_ok s_ FUEL 0 r1 h6).at h8)))))
def impl_Luhn_l0 (s_ : ByteArray) : Nat → Int → Bool → Int → Option (Int)
  | 0, _, _, _ => none
  | fuel + 1, v1, v2, v3 =>
   if (decide (0 ≤ v3)) = true then
   if (decide ((v3 : Int) < (s_.size : Int))) = true then
   if v2 = true then
   if (decide (9 < (i64 ((i64 (u8 ((sAt s_ v3) - 48))) * 2)))) = true then
   impl_Luhn_l0 s_ fuel (i64 (v1 + (i64 ((i64 ((i64 (u8 ((sAt s_ v3) - 48))) * 2)) - 9)))) (!v2) (i64 (v3 - 1))
   else
   impl_Luhn_l0 s_ fuel (i64 (v1 + (i64 ((i64 (u8 ((sAt s_ v3) - 48))) * 2)))) (!v2) (i64 (v3 - 1))
   else
   impl_Luhn_l0 s_ fuel (i64 (v1 + (i64 (u8 ((sAt s_ v3) - 48))))) (!v2) (i64 (v3 - 1))
   else none
   else
   some v1
theorem impl_Luhn_l0_ok (s_ : ByteArray) : ∀ (fuel : Nat) (v1 : Int) (v2 : Bool) (v3 : Int), Pn (LpO Tryz.prog (sub (codeOf Tryz.prog 89) [1, 1, 1, 0, 1, 0, 0]) (st 38 [(0, V.sc (.string s_)), (3, V.sc (.int .i64 v1)), (4, V.sc (.bool v2)), (5, V.sc (.int .i64 v3))] [] []) (fun (y : Int) => (X.out 0, st 38 [(3, V.sc (.int .i64 y))] [] []))) (impl_Luhn_l0 s_ fuel v1 v2 v3)
  | 0, _, _, _ => Pn.none
  | fuel + 1, v1, v2, v3 => by
    unfold impl_Luhn_l0
    exact
     Pn.ite (fun h3 =>
     Pn.ite (fun h4 =>
     Pn.ite (fun h5 =>
     Pn.ite (fun h6 =>
     LpO.go [.bit true, .bit true, .bit true, .wait 13, .mask [0, 3, 4, 5], .ren []] (p := [(decide (0 ≤ v3)) = true,
      (0 : Int) ≤ v3,
      (v3 : Int) < s_.size,
      v2 = true,
      (decide (9 < (i64 ((i64 (u8 ((sAt s_ v3) - 48))) * 2)))) = true]) (by kernel_rfl) (cj h3 (cj (od h3) (cj (od h4) (cj h5 (cj1 h6))))) (impl_Luhn_l0_ok s_ fuel (i64 (v1 + (i64 ((i64 ((i64 (u8 ((sAt s_ v3) - 48))) * 2)) - 9)))) (!v2) (i64 (v3 - 1)))) (fun h6 =>
     LpO.go [.bit true, .bit true, .bit false, .wait 10, .mask [0, 3, 4, 5], .ren []] (p := [(decide (0 ≤ v3)) = true,
      (0 : Int) ≤ v3,
      (v3 : Int) < s_.size,
      v2 = true,
      (decide (9 < (i64 ((i64 (u8 ((sAt s_ v3) - 48))) * 2)))) = false]) (by kernel_rfl) (cj h3 (cj (od h3) (cj (od h4) (cj h5 (cj1 h6))))) (impl_Luhn_l0_ok s_ fuel (i64 (v1 + (i64 ((i64 (u8 ((sAt s_ v3) - 48))) * 2)))) (!v2) (i64 (v3 - 1))))) (fun h5 =>
     LpO.go [.bit true, .bit false, .wait 10, .mask [0, 3, 4, 5], .ren []] (p := [(decide (0 ≤ v3)) = true,
      (0 : Int) ≤ v3,
      (v3 : Int) < s_.size,
      v2 = false]) (by kernel_rfl) (cj h3 (cj (od h3) (cj (od h4) (cj1 h5)))) (impl_Luhn_l0_ok s_ fuel (i64 (v1 + (i64 (u8 ((sAt s_ v3) - 48))))) (!v2) (i64 (v3 - 1))))) (fun h4 =>
     Pn.none)) (fun h3 =>
     Pn.some (LpO.out [.bit false, .mask [3], .ren []] (p := [(decide (0 ≤ v3)) = false]) (by kernel_rfl) (show X.out 0 ≠ X.go from nofun) (cj1 h3)))
def impl_Luhn (s_ : ByteArray) : Option (Int) :=
 (impl_Digits s_).bind fun r1 =>
 if r1 = true then
 (impl_Luhn_l0 s_ FUEL 0 true (i64 ((s_.size : Int) - 1))).bind fun r2 =>
 some (Int.tmod (i64 (10 - (Int.tmod r2 10))) 10)
 else
 some (-1)
theorem impl_Luhn_ok (s_ : ByteArray) : Pn (fun y => Fn Tryz.prog 89 [(false, E9 s_)] (E3 y) []) (impl_Luhn s_) := by
  unfold impl_Luhn
  exact
   Pn.bind (fun r1 h1 =>
   Pn.ite (fun h2 =>
   Pn.bind (fun r2 h7 =>
   Pn.some (Fn.of [.call [] (E4 r1) [], .bit false, .wait 6, .mask [0, 3, 4, 5], .ren [], .loop (X.out 0) (st 38 [(3, V.sc (.int .i64 r2))] [] [])] (p := [Fn Tryz.prog 88 [(false, E9 s_)] (E4 r1) [],
    (true || ((E4 r1).nv && nvL [])) = true,
    (!r1) = false,
    Loop Tryz.prog (sub (codeOf Tryz.prog 89) [1, 1, 1, 0, 1, 0, 0]) (st 38 [(0, V.sc (.string s_)), (3, V.sc (.int .i64 0)), (4, V.sc (.bool true)), (5, V.sc (.int .i64 (i64 ((s_.size : Int) - 1))))] [] []) (X.out 0) (st 38 [(3, V.sc (.int .i64 r2))] [] []),
    (10 : Int) ≠ 0,
    (10 : Int) ≠ 0]) (by kernel_rfl) (cj (impl_Digits_ok s_ r1 h1) (cj rfl (cj (nf h2) (cj (impl_Luhn_l0_ok s_ FUEL 0 true (i64 ((s_.size : Int) - 1)) r2 h7) (cj (by decide) (cj1 (by decide)))))))))) (fun h2 =>
   Pn.some (Fn.of [.call [] (E4 r1) [], .bit true] (p := [Fn Tryz.prog 88 [(false, E9 s_)] (E4 r1) [],
    (true || ((E4 r1).nv && nvL [])) = true,
    (!r1) = true]) (by kernel_rfl) (cj (impl_Digits_ok s_ r1 h1) (cj rfl (cj1 (nt h2)))))))
def impl_LuhnOk (s_ : ByteArray) : Option (Bool) :=
 if (decide (1 ≤ (i64 ((s_.size : Int) - 1)))) = true then
 (impl_Digits s_).bind fun r1 =>
 if r1 = true then
 if (decide (0 ≤ (i64 ((s_.size : Int) - 1)))) = true then
 if (decide ((i64 ((s_.size : Int) - 1)) ≤ (s_.size : Int))) = true then
 if (decide (0 ≤ i64 ((s_.size : Int) - 1))) = true then
 if (decide ((i64 ((s_.size : Int) - 1) : Int) < (s_.size : Int))) = true then
 (impl_Luhn (s_.extract 0 (i64 ((s_.size : Int) - 1)).toNat)).bind fun r2 =>
 some (r2 == (i64 (u8 ((sAt s_ (i64 ((s_.size : Int) - 1))) - 48))))
 else none
 else none
 else none
 else none
 else
 some false
 else
 some false
theorem impl_LuhnOk_ok (s_ : ByteArray) : Pn (fun y => Fn Tryz.prog 65 [(false, E9 s_)] (E4 y) []) (impl_LuhnOk s_) := by
  unfold impl_LuhnOk
  exact
   Pn.ite (fun h1 =>
   Pn.bind (fun r1 h2 =>
   Pn.ite (fun h3 =>
   Pn.ite (fun h4 =>
   Pn.ite (fun h5 =>
   Pn.ite (fun h6 =>
   Pn.ite (fun h7 =>
   Pn.bind (fun r2 h8 =>
   Pn.some (Fn.of [.draw [], .bit true, .bit true, .call [] (E4 r1) [], .bit true, .bit true, .bit true, .bit true, .bit true, .bit true, .bit true, .bit true, .bit true, .bit true, .call [] (E3 r2) [], .bit true, .bit true] (p := [(decide (1 ≤ (i64 ((s_.size : Int) - 1)))) = true,
    (decide (1 ≤ (i64 ((s_.size : Int) - 1)))) = true,
    Fn Tryz.prog 88 [(false, E9 s_)] (E4 r1) [],
    (true || ((E4 r1).nv && nvL [])) = true,
    (decide (1 ≤ (i64 ((s_.size : Int) - 1)))) = true,
    r1 = true,
    r1 = true,
    r1 = true,
    (0 : Int) ≤ 0,
    (0 : Int) ≤ (i64 ((s_.size : Int) - 1)),
    ((i64 ((s_.size : Int) - 1)) : Int) ≤ (s_.size : Int),
    r1 = true,
    r1 = true,
    r1 = true,
    (0 : Int) ≤ i64 ((s_.size : Int) - 1),
    (i64 ((s_.size : Int) - 1) : Int) < s_.size,
    r1 = true,
    r1 = true,
    r1 = true,
    Fn Tryz.prog 89 [(false, E9 (s_.extract 0 (i64 ((s_.size : Int) - 1)).toNat))] (E3 r2) [],
    (true || ((E3 r2).nv && nvL [])) = true,
    r1 = true,
    r1 = true]) (by kernel_rfl) (cj h1 (cj h1 (cj (impl_Digits_ok s_ r1 h2) (cj rfl (cj h1 (cj h3 (cj h3 (cj h3 (cj (by decide) (cj (od h4) (cj (od h5) (cj h3 (cj h3 (cj h3 (cj (od h6) (cj (od h7) (cj h3 (cj h3 (cj h3 (cj (impl_Luhn_ok (s_.extract 0 (i64 ((s_.size : Int) - 1)).toNat) r2 h8) (cj rfl (cj h3 (cj1 h3)))))))))))))))))))))))))) (fun h7 =>
   Pn.none)) (fun h6 =>
   Pn.none)) (fun h5 =>
   Pn.none)) (fun h4 =>
   Pn.none)) (fun h3 =>
   Pn.some (Fn.of [.draw [], .bit true, .bit true, .call [] (E4 r1) [], .bit true, .bit false, .bit false, .bit false, .bit false, .bit false, .bit false, .bit false, .bit false, .bit false, .bit false, .bit false] (p := [(decide (1 ≤ (i64 ((s_.size : Int) - 1)))) = true,
    (decide (1 ≤ (i64 ((s_.size : Int) - 1)))) = true,
    Fn Tryz.prog 88 [(false, E9 s_)] (E4 r1) [],
    (true || ((E4 r1).nv && nvL [])) = true,
    (decide (1 ≤ (i64 ((s_.size : Int) - 1)))) = true,
    r1 = false,
    r1 = false,
    r1 = false,
    r1 = false,
    r1 = false,
    r1 = false,
    r1 = false,
    r1 = false,
    r1 = false,
    r1 = false,
    r1 = false]) (by kernel_rfl) (cj h1 (cj h1 (cj (impl_Digits_ok s_ r1 h2) (cj rfl (cj h1 (cj h3 (cj h3 (cj h3 (cj h3 (cj h3 (cj h3 (cj h3 (cj h3 (cj h3 (cj h3 (cj1 h3)))))))))))))))))))) (fun h1 =>
   Pn.some (Fn.of [.draw [], .bit false, .bit false, .bit false, .bit false, .bit false, .bit false, .bit false, .bit false, .bit false, .bit false, .bit false, .bit false, .bit false, .bit false] (p := [(decide (1 ≤ (i64 ((s_.size : Int) - 1)))) = false,
    (decide (1 ≤ (i64 ((s_.size : Int) - 1)))) = false,
    (decide (1 ≤ (i64 ((s_.size : Int) - 1)))) = false,
    false = false,
    false = false,
    false = false,
    false = false,
    false = false,
    false = false,
    false = false,
    false = false,
    false = false,
    false = false,
    false = false]) (by kernel_rfl) (cj h1 (cj h1 (cj h1 (cj rfl (cj rfl (cj rfl (cj rfl (cj rfl (cj rfl (cj rfl (cj rfl (cj rfl (cj rfl (cj1 rfl))))))))))))))))
def impl_AcctIdOk (s_ : ByteArray) : Option (Bool) :=
 if (decide ((s_.size : Int) ≤ 19)) = true then
 (impl_LuhnOk s_).bind fun r1 =>
 some r1
 else
 some false
theorem impl_AcctIdOk_ok (s_ : ByteArray) : Pn (fun y => Fn Tryz.prog 42 [(false, E9 s_)] (E4 y) []) (impl_AcctIdOk s_) := by
  unfold impl_AcctIdOk
  exact
   Pn.ite (fun h1 =>
   Pn.bind (fun r1 h2 =>
   Pn.some (Fn.of [.bit true, .bit true, .call [] (E4 r1) [], .bit true] (p := [(decide ((s_.size : Int) ≤ 19)) = true,
    (decide ((s_.size : Int) ≤ 19)) = true,
    Fn Tryz.prog 65 [(false, E9 s_)] (E4 r1) [],
    (true || ((E4 r1).nv && nvL [])) = true,
    (decide ((s_.size : Int) ≤ 19)) = true]) (by kernel_rfl) (cj h1 (cj h1 (cj (impl_LuhnOk_ok s_ r1 h2) (cj rfl (cj1 h1)))))))) (fun h1 =>
   Pn.some (Fn.of [.bit false, .bit false, .bit false] (p := [(decide ((s_.size : Int) ≤ 19)) = false,
    (decide ((s_.size : Int) ≤ 19)) = false,
    (decide ((s_.size : Int) ≤ 19)) = false]) (by kernel_rfl) (cj h1 (cj h1 (cj1 h1)))))
def impl_isMoney (n : Int) : Option (Bool) :=
 (impl_within n 0 4611686018427387904).bind fun r1 =>
 some r1
theorem impl_isMoney_ok (n : Int) : Pn (fun y => Fn Tryz.prog 43 [(false, E3 n)] (E4 y) []) (impl_isMoney n) := by
  unfold impl_isMoney
  exact
   Pn.bind (fun r1 h1 =>
   Pn.some (Fn.of [.call [] (E4 r1) []] (p := [Fn Tryz.prog 15 [(false, E3 n), (false, E3 0), (false, E3 4611686018427387904)] (E4 r1) [],
    (true || ((E4 r1).nv && nvL [])) = true]) (by kernel_rfl) (cj (impl_within_ok n 0 4611686018427387904 r1 h1) (cj1 rfl))))
def impl_HoldIdOk_l0 (s_ : ByteArray) : Nat → Int → Option (Lo Unit Unit)
  | 0, _ => none
  | fuel + 1, v1 =>
   if (decide (v1 < (s_.size : Int))) = true then
   if (decide (0 ≤ v1)) = true then
   if (decide ((v1 : Int) < (s_.size : Int))) = true then
   if (decide ((sAt s_ v1) < 48)) = true then
   if (decide ((sAt s_ v1) < 97)) = true then
   some (.ret ())
   else
   if (decide (122 < (sAt s_ v1))) = true then
   some (.ret ())
   else
   impl_HoldIdOk_l0 s_ fuel (i64 (v1 + 1))
   else
   if (decide (57 < (sAt s_ v1))) = true then
   if (decide ((sAt s_ v1) < 97)) = true then
   some (.ret ())
   else
   if (decide (122 < (sAt s_ v1))) = true then
   some (.ret ())
   else
   impl_HoldIdOk_l0 s_ fuel (i64 (v1 + 1))
   else
   impl_HoldIdOk_l0 s_ fuel (i64 (v1 + 1))
   else none
   else none
   else
   some (.out ())
theorem impl_HoldIdOk_l0_ok (s_ : ByteArray) : ∀ (fuel : Nat) (v1 : Int), Pn (LpO Tryz.prog (sub (codeOf Tryz.prog 90) [1, 0, 1, 0, 0]) (st 35 [(0, V.sc (.string s_)), (5, V.sc (.int .i64 (s_.size : Int))), (6, V.sc (.int .i64 v1))] [] []) (fun (y : Lo Unit Unit) => Lo.elim y (fun s => (X.out 0, st 35 [(0, V.sc (.string s_))] [] [])) (fun s => (X.ret, st 35 [(2, V.sc (.bool false))] [] [])))) (impl_HoldIdOk_l0 s_ fuel v1)
  | 0, _ => Pn.none
  | fuel + 1, v1 => by
    unfold impl_HoldIdOk_l0
    exact
     Pn.ite (fun h1 =>
     Pn.ite (fun h2 =>
     Pn.ite (fun h3 =>
     Pn.ite (fun h4 =>
     Pn.ite (fun h5 =>
     Pn.some (LpO.out [.bit true, .bit true, .bit true, .bit true, .bit true, .bit true, .bit true, .bit true, .bit true, .bit true, .bit true, .bit true, .bit true, .bit true, .bit true, .bit true, .bit true, .bit true, .bit true, .wait 1, .mask [2], .ren []] (p := [(decide (v1 < (s_.size : Int))) = true,
      (0 : Int) ≤ v1,
      (v1 : Int) < s_.size,
      (decide ((sAt s_ v1) < 48)) = true,
      (decide ((sAt s_ v1) < 48)) = true,
      (decide ((sAt s_ v1) < 48)) = true,
      (decide ((sAt s_ v1) < 48)) = true,
      (decide ((sAt s_ v1) < 48)) = true,
      true = true,
      true = true,
      true = true,
      (0 : Int) ≤ v1,
      (v1 : Int) < s_.size,
      true = true,
      true = true,
      (decide ((sAt s_ v1) < 97)) = true,
      (decide ((sAt s_ v1) < 97)) = true,
      (decide ((sAt s_ v1) < 97)) = true,
      (decide ((sAt s_ v1) < 97)) = true,
      true = true,
      (decide ((sAt s_ v1) < 97)) = true,
      true = true,
      true = true]) (by kernel_rfl) (show X.ret ≠ X.go from nofun) (cj h1 (cj (od h2) (cj (od h3) (cj h4 (cj h4 (cj h4 (cj h4 (cj h4 (cj rfl (cj rfl (cj rfl (cj (od h2) (cj (od h3) (cj rfl (cj rfl (cj h5 (cj h5 (cj h5 (cj h5 (cj rfl (cj h5 (cj rfl (cj1 rfl))))))))))))))))))))))))) (fun h5 =>
     Pn.ite (fun h6 =>
     Pn.some (LpO.out [.bit true, .bit true, .bit true, .bit true, .bit true, .bit true, .bit true, .bit true, .bit true, .bit true, .bit true, .bit false, .bit false, .bit false, .bit false, .bit true, .bit false, .bit true, .bit true, .wait 1, .mask [2], .ren []] (p := [(decide (v1 < (s_.size : Int))) = true,
      (0 : Int) ≤ v1,
      (v1 : Int) < s_.size,
      (decide ((sAt s_ v1) < 48)) = true,
      (decide ((sAt s_ v1) < 48)) = true,
      (decide ((sAt s_ v1) < 48)) = true,
      (decide ((sAt s_ v1) < 48)) = true,
      (decide ((sAt s_ v1) < 48)) = true,
      true = true,
      true = true,
      true = true,
      (0 : Int) ≤ v1,
      (v1 : Int) < s_.size,
      true = true,
      true = true,
      (decide ((sAt s_ v1) < 97)) = false,
      (decide ((sAt s_ v1) < 97)) = false,
      (decide ((sAt s_ v1) < 97)) = false,
      (0 : Int) ≤ v1,
      (v1 : Int) < s_.size,
      (decide ((sAt s_ v1) < 97)) = false,
      true = true,
      (decide ((sAt s_ v1) < 97)) = false,
      true = true,
      (decide (122 < (sAt s_ v1))) = true]) (by kernel_rfl) (show X.ret ≠ X.go from nofun) (cj h1 (cj (od h2) (cj (od h3) (cj h4 (cj h4 (cj h4 (cj h4 (cj h4 (cj rfl (cj rfl (cj rfl (cj (od h2) (cj (od h3) (cj rfl (cj rfl (cj h5 (cj h5 (cj h5 (cj (od h2) (cj (od h3) (cj h5 (cj rfl (cj h5 (cj rfl (cj1 h6))))))))))))))))))))))))))) (fun h6 =>
     LpO.go [.bit true, .bit true, .bit true, .bit true, .bit true, .bit true, .bit true, .bit true, .bit true, .bit true, .bit true, .bit false, .bit false, .bit false, .bit false, .bit true, .bit false, .bit true, .bit false, .wait 2, .mask [0, 5, 6], .ren []] (p := [(decide (v1 < (s_.size : Int))) = true,
      (0 : Int) ≤ v1,
      (v1 : Int) < s_.size,
      (decide ((sAt s_ v1) < 48)) = true,
      (decide ((sAt s_ v1) < 48)) = true,
      (decide ((sAt s_ v1) < 48)) = true,
      (decide ((sAt s_ v1) < 48)) = true,
      (decide ((sAt s_ v1) < 48)) = true,
      true = true,
      true = true,
      true = true,
      (0 : Int) ≤ v1,
      (v1 : Int) < s_.size,
      true = true,
      true = true,
      (decide ((sAt s_ v1) < 97)) = false,
      (decide ((sAt s_ v1) < 97)) = false,
      (decide ((sAt s_ v1) < 97)) = false,
      (0 : Int) ≤ v1,
      (v1 : Int) < s_.size,
      (decide ((sAt s_ v1) < 97)) = false,
      true = true,
      (decide ((sAt s_ v1) < 97)) = false,
      true = true,
      (decide (122 < (sAt s_ v1))) = false]) (by kernel_rfl) (cj h1 (cj (od h2) (cj (od h3) (cj h4 (cj h4 (cj h4 (cj h4 (cj h4 (cj rfl (cj rfl (cj rfl (cj (od h2) (cj (od h3) (cj rfl (cj rfl (cj h5 (cj h5 (cj h5 (cj (od h2) (cj (od h3) (cj h5 (cj rfl (cj h5 (cj rfl (cj1 h6))))))))))))))))))))))))) (impl_HoldIdOk_l0_ok s_ fuel (i64 (v1 + 1)))))) (fun h4 =>
     Pn.ite (fun h7 =>
     Pn.ite (fun h8 =>
     Pn.some (LpO.out [.bit true, .bit false, .bit false, .bit false, .bit false, .bit false, .bit true, .bit true, .bit true, .bit true, .bit true, .bit true, .bit true, .bit true, .bit true, .bit true, .bit true, .bit true, .bit true, .wait 1, .mask [2], .ren []] (p := [(decide (v1 < (s_.size : Int))) = true,
      (0 : Int) ≤ v1,
      (v1 : Int) < s_.size,
      (decide ((sAt s_ v1) < 48)) = false,
      (decide ((sAt s_ v1) < 48)) = false,
      (decide ((sAt s_ v1) < 48)) = false,
      (0 : Int) ≤ v1,
      (v1 : Int) < s_.size,
      (decide ((sAt s_ v1) < 48)) = false,
      (decide ((sAt s_ v1) < 48)) = false,
      (decide (57 < (sAt s_ v1))) = true,
      (decide (57 < (sAt s_ v1))) = true,
      (decide (57 < (sAt s_ v1))) = true,
      (0 : Int) ≤ v1,
      (v1 : Int) < s_.size,
      (decide (57 < (sAt s_ v1))) = true,
      (decide (57 < (sAt s_ v1))) = true,
      (decide ((sAt s_ v1) < 97)) = true,
      (decide ((sAt s_ v1) < 97)) = true,
      (decide ((sAt s_ v1) < 97)) = true,
      (decide ((sAt s_ v1) < 97)) = true,
      (decide (57 < (sAt s_ v1))) = true,
      (decide ((sAt s_ v1) < 97)) = true,
      (decide (57 < (sAt s_ v1))) = true,
      true = true]) (by kernel_rfl) (show X.ret ≠ X.go from nofun) (cj h1 (cj (od h2) (cj (od h3) (cj h4 (cj h4 (cj h4 (cj (od h2) (cj (od h3) (cj h4 (cj h4 (cj h7 (cj h7 (cj h7 (cj (od h2) (cj (od h3) (cj h7 (cj h7 (cj h8 (cj h8 (cj h8 (cj h8 (cj h7 (cj h8 (cj h7 (cj1 rfl))))))))))))))))))))))))))) (fun h8 =>
     Pn.ite (fun h9 =>
     Pn.some (LpO.out [.bit true, .bit false, .bit false, .bit false, .bit false, .bit false, .bit true, .bit true, .bit true, .bit true, .bit true, .bit false, .bit false, .bit false, .bit false, .bit true, .bit false, .bit true, .bit true, .wait 1, .mask [2], .ren []] (p := [(decide (v1 < (s_.size : Int))) = true,
      (0 : Int) ≤ v1,
      (v1 : Int) < s_.size,
      (decide ((sAt s_ v1) < 48)) = false,
      (decide ((sAt s_ v1) < 48)) = false,
      (decide ((sAt s_ v1) < 48)) = false,
      (0 : Int) ≤ v1,
      (v1 : Int) < s_.size,
      (decide ((sAt s_ v1) < 48)) = false,
      (decide ((sAt s_ v1) < 48)) = false,
      (decide (57 < (sAt s_ v1))) = true,
      (decide (57 < (sAt s_ v1))) = true,
      (decide (57 < (sAt s_ v1))) = true,
      (0 : Int) ≤ v1,
      (v1 : Int) < s_.size,
      (decide (57 < (sAt s_ v1))) = true,
      (decide (57 < (sAt s_ v1))) = true,
      (decide ((sAt s_ v1) < 97)) = false,
      (decide ((sAt s_ v1) < 97)) = false,
      (decide ((sAt s_ v1) < 97)) = false,
      (0 : Int) ≤ v1,
      (v1 : Int) < s_.size,
      (decide ((sAt s_ v1) < 97)) = false,
      (decide (57 < (sAt s_ v1))) = true,
      (decide ((sAt s_ v1) < 97)) = false,
      (decide (57 < (sAt s_ v1))) = true,
      (decide (122 < (sAt s_ v1))) = true]) (by kernel_rfl) (show X.ret ≠ X.go from nofun) (cj h1 (cj (od h2) (cj (od h3) (cj h4 (cj h4 (cj h4 (cj (od h2) (cj (od h3) (cj h4 (cj h4 (cj h7 (cj h7 (cj h7 (cj (od h2) (cj (od h3) (cj h7 (cj h7 (cj h8 (cj h8 (cj h8 (cj (od h2) (cj (od h3) (cj h8 (cj h7 (cj h8 (cj h7 (cj1 h9))))))))))))))))))))))))))))) (fun h9 =>
     LpO.go [.bit true, .bit false, .bit false, .bit false, .bit false, .bit false, .bit true, .bit true, .bit true, .bit true, .bit true, .bit false, .bit false, .bit false, .bit false, .bit true, .bit false, .bit true, .bit false, .wait 2, .mask [0, 5, 6], .ren []] (p := [(decide (v1 < (s_.size : Int))) = true,
      (0 : Int) ≤ v1,
      (v1 : Int) < s_.size,
      (decide ((sAt s_ v1) < 48)) = false,
      (decide ((sAt s_ v1) < 48)) = false,
      (decide ((sAt s_ v1) < 48)) = false,
      (0 : Int) ≤ v1,
      (v1 : Int) < s_.size,
      (decide ((sAt s_ v1) < 48)) = false,
      (decide ((sAt s_ v1) < 48)) = false,
      (decide (57 < (sAt s_ v1))) = true,
      (decide (57 < (sAt s_ v1))) = true,
      (decide (57 < (sAt s_ v1))) = true,
      (0 : Int) ≤ v1,
      (v1 : Int) < s_.size,
      (decide (57 < (sAt s_ v1))) = true,
      (decide (57 < (sAt s_ v1))) = true,
      (decide ((sAt s_ v1) < 97)) = false,
      (decide ((sAt s_ v1) < 97)) = false,
      (decide ((sAt s_ v1) < 97)) = false,
      (0 : Int) ≤ v1,
      (v1 : Int) < s_.size,
      (decide ((sAt s_ v1) < 97)) = false,
      (decide (57 < (sAt s_ v1))) = true,
      (decide ((sAt s_ v1) < 97)) = false,
      (decide (57 < (sAt s_ v1))) = true,
      (decide (122 < (sAt s_ v1))) = false]) (by kernel_rfl) (cj h1 (cj (od h2) (cj (od h3) (cj h4 (cj h4 (cj h4 (cj (od h2) (cj (od h3) (cj h4 (cj h4 (cj h7 (cj h7 (cj h7 (cj (od h2) (cj (od h3) (cj h7 (cj h7 (cj h8 (cj h8 (cj h8 (cj (od h2) (cj (od h3) (cj h8 (cj h7 (cj h8 (cj h7 (cj1 h9))))))))))))))))))))))))))) (impl_HoldIdOk_l0_ok s_ fuel (i64 (v1 + 1)))))) (fun h7 =>
     LpO.go [.bit true, .bit false, .bit false, .bit false, .bit false, .bit false, .bit false, .bit false, .bit false, .bit false, .bit false, .bit false, .bit false, .bit false, .wait 2, .mask [0, 5, 6], .ren []] (p := [(decide (v1 < (s_.size : Int))) = true,
      (0 : Int) ≤ v1,
      (v1 : Int) < s_.size,
      (decide ((sAt s_ v1) < 48)) = false,
      (decide ((sAt s_ v1) < 48)) = false,
      (decide ((sAt s_ v1) < 48)) = false,
      (0 : Int) ≤ v1,
      (v1 : Int) < s_.size,
      (decide ((sAt s_ v1) < 48)) = false,
      (decide ((sAt s_ v1) < 48)) = false,
      (decide (57 < (sAt s_ v1))) = false,
      (decide (57 < (sAt s_ v1))) = false,
      (decide (57 < (sAt s_ v1))) = false,
      (decide (57 < (sAt s_ v1))) = false,
      (decide (57 < (sAt s_ v1))) = false,
      (decide (57 < (sAt s_ v1))) = false,
      (decide (57 < (sAt s_ v1))) = false,
      false = false]) (by kernel_rfl) (cj h1 (cj (od h2) (cj (od h3) (cj h4 (cj h4 (cj h4 (cj (od h2) (cj (od h3) (cj h4 (cj h4 (cj h7 (cj h7 (cj h7 (cj h7 (cj h7 (cj h7 (cj h7 (cj1 rfl)))))))))))))))))) (impl_HoldIdOk_l0_ok s_ fuel (i64 (v1 + 1)))))) (fun h3 =>
     Pn.none)) (fun h2 =>
     Pn.none)) (fun h1 =>
     Pn.some (LpO.out [.bit false, .mask [0], .ren []] (p := [(decide (v1 < (s_.size : Int))) = false]) (by kernel_rfl) (show X.out 0 ≠ X.go from nofun) (cj1 h1)))
def impl_HoldIdOk (s_ : ByteArray) : Option (Bool) :=
 (impl_HoldIdOk_l0 s_ FUEL 0).bind fun r1 =>
 Lo.elim r1 (fun s1 =>
 (impl_within (s_.size : Int) 1 6).bind fun r2 =>
 some r2) (fun s2 =>
 some false)
theorem impl_HoldIdOk_ok (s_ : ByteArray) : Pn (fun y => Fn Tryz.prog 90 [(false, E9 s_)] (E4 y) []) (impl_HoldIdOk s_) := by
  unfold impl_HoldIdOk
  exact
   Pn.bind (fun r1 h10 =>
   Pn.lo (fun s1 h11 =>
   Pn.bind (fun r2 h13 =>
   Pn.some (Fn.of [.wait 5, .mask [0, 5, 6], .ren [], .loop (X.out 0) (st 35 [(0, V.sc (.string s_))] [] []), .call [] (E4 r2) []] (p := [Loop Tryz.prog (sub (codeOf Tryz.prog 90) [1, 0, 1, 0, 0]) (st 35 [(0, V.sc (.string s_)), (5, V.sc (.int .i64 (s_.size : Int))), (6, V.sc (.int .i64 0))] [] []) (X.out 0) (st 35 [(0, V.sc (.string s_))] [] []),
    Fn Tryz.prog 15 [(false, E3 (s_.size : Int)), (false, E3 1), (false, E3 6)] (E4 r2) [],
    (true || ((E4 r2).nv && nvL [])) = true]) (by kernel_rfl) (cj ((impl_HoldIdOk_l0_ok s_ FUEL 0 r1 h10).at h11) (cj (impl_within_ok (s_.size : Int) 1 6 r2 h13) (cj1 rfl)))))) (fun s2 h12 =>
   Pn.some (Fn.of [.wait 5, .mask [0, 5, 6], .ren [], .loop (X.ret) (st 35 [(2, V.sc (.bool false))] [] [])] (p := [Loop Tryz.prog (sub (codeOf Tryz.prog 90) [1, 0, 1, 0, 0]) (st 35 [(0, V.sc (.string s_)), (5, V.sc (.int .i64 (s_.size : Int))), (6, V.sc (.int .i64 0))] [] []) (X.ret) (st 35 [(2, V.sc (.bool false))] [] [])]) (by kernel_rfl) (cj1 ((impl_HoldIdOk_l0_ok s_ FUEL 0 r1 h10).at h12)))))
def impl_isTime (n : Int) : Option (Bool) :=
 (impl_within n 0 1000000000).bind fun r1 =>
 some r1
theorem impl_isTime_ok (n : Int) : Pn (fun y => Fn Tryz.prog 68 [(false, E3 n)] (E4 y) []) (impl_isTime n) := by
  unfold impl_isTime
  exact
   Pn.bind (fun r1 h1 =>
   Pn.some (Fn.of [.call [] (E4 r1) []] (p := [Fn Tryz.prog 15 [(false, E3 n), (false, E3 0), (false, E3 1000000000)] (E4 r1) [],
    (true || ((E4 r1).nv && nvL [])) = true]) (by kernel_rfl) (cj (impl_within_ok n 0 1000000000 r1 h1) (cj1 rfl))))
def impl_HoldOk (h_ : Hold) : Option (Bool) :=
 (impl_HoldIdOk h_.Id).bind fun r1 =>
 if r1 = true then
 (impl_within h_.Amount 1 9007199254740992).bind fun r2 =>
 if r2 = true then
 (impl_isTime h_.Due).bind fun r3 =>
 some r3
 else
 some false
 else
 some false
theorem impl_HoldOk_ok (h_ : Hold) : Pn (fun y => Fn Tryz.prog 66 [(false, E85 h_)] (E4 y) []) (impl_HoldOk h_) := by
  unfold impl_HoldOk
  exact
   Pn.bind (fun r1 h1 =>
   Pn.ite (fun h2 =>
   Pn.bind (fun r2 h3 =>
   Pn.ite (fun h4 =>
   Pn.bind (fun r3 h5 =>
   Pn.some (Fn.of [.call [] (E4 r1) [], .bit true, .bit true, .bit true, .call [] (E4 r2) [], .bit true, .bit true, .bit true, .bit true, .call [] (E4 r3) [], .bit true] (p := [Fn Tryz.prog 90 [(false, E9 h_.Id)] (E4 r1) [],
    (true || ((E4 r1).nv && nvL [])) = true,
    r1 = true,
    r1 = true,
    r1 = true,
    Fn Tryz.prog 15 [(false, E3 h_.Amount), (false, E3 1), (false, E3 9007199254740992)] (E4 r2) [],
    (true || ((E4 r2).nv && nvL [])) = true,
    r1 = true,
    r2 = true,
    r2 = true,
    r2 = true,
    Fn Tryz.prog 68 [(false, E3 h_.Due)] (E4 r3) [],
    (true || ((E4 r3).nv && nvL [])) = true,
    r2 = true]) (by kernel_rfl) (cj (impl_HoldIdOk_ok h_.Id r1 h1) (cj rfl (cj h2 (cj h2 (cj h2 (cj (impl_within_ok h_.Amount 1 9007199254740992 r2 h3) (cj rfl (cj h2 (cj h4 (cj h4 (cj h4 (cj (impl_isTime_ok h_.Due r3 h5) (cj rfl (cj1 h4))))))))))))))))) (fun h4 =>
   Pn.some (Fn.of [.call [] (E4 r1) [], .bit true, .bit true, .bit true, .call [] (E4 r2) [], .bit true, .bit false, .bit false, .bit false, .bit false] (p := [Fn Tryz.prog 90 [(false, E9 h_.Id)] (E4 r1) [],
    (true || ((E4 r1).nv && nvL [])) = true,
    r1 = true,
    r1 = true,
    r1 = true,
    Fn Tryz.prog 15 [(false, E3 h_.Amount), (false, E3 1), (false, E3 9007199254740992)] (E4 r2) [],
    (true || ((E4 r2).nv && nvL [])) = true,
    r1 = true,
    r2 = false,
    r2 = false,
    r2 = false,
    r2 = false]) (by kernel_rfl) (cj (impl_HoldIdOk_ok h_.Id r1 h1) (cj rfl (cj h2 (cj h2 (cj h2 (cj (impl_within_ok h_.Amount 1 9007199254740992 r2 h3) (cj rfl (cj h2 (cj h4 (cj h4 (cj h4 (cj1 h4)))))))))))))))) (fun h2 =>
   Pn.some (Fn.of [.call [] (E4 r1) [], .bit false, .bit false, .bit false, .bit false, .bit false, .bit false, .bit false, .bit false] (p := [Fn Tryz.prog 90 [(false, E9 h_.Id)] (E4 r1) [],
    (true || ((E4 r1).nv && nvL [])) = true,
    r1 = false,
    r1 = false,
    r1 = false,
    r1 = false,
    false = false,
    false = false,
    false = false,
    false = false]) (by kernel_rfl) (cj (impl_HoldIdOk_ok h_.Id r1 h1) (cj rfl (cj h2 (cj h2 (cj h2 (cj h2 (cj rfl (cj rfl (cj rfl (cj1 rfl)))))))))))))
def impl_HoldsOk_l0 (l : List Hold) : List Hold → List Hold → Option (Lo Unit Unit)
  | [], p1 =>
   some (.out ())
  | x1 :: t1, p1 =>
   (impl_HoldOk x1).bind fun r1 =>
   if r1 = true then
   if (decide (0 < (p1.length : Int))) = true then
   if (decide (0 ≤ (i64 ((p1.length : Int) - 1)))) = true then
   (l[(i64 ((p1.length : Int) - 1)).toNat]?).bind fun x2 =>
   if (Op.bytesLess x1.Id.toList x2.Id.toList || (x1.Id == x2.Id)) = true then
   some (.ret ())
   else
   impl_HoldsOk_l0 l t1 (p1 ++ [x1])
   else none
   else
   impl_HoldsOk_l0 l t1 (p1 ++ [x1])
   else
   some (.ret ())
theorem impl_HoldsOk_l0_ok (l : List Hold) (h2 : capOk l.length = true) : ∀ (t1 p1 : List Hold) (_ : l = p1 ++ t1) , Pn (LpO Tryz.prog (sub (codeOf Tryz.prog 44) [1, 0, 1, 0, 0]) (st 34 [(0, V.sl false 85 (List.map E85 l)), (5, V.sl false 85 (List.map E85 l)), (6, V.sc (.int .i64 (l.length : Int))), (7, V.sc (.int .i64 (p1.length : Int)))] [] []) (fun (y : Lo Unit Unit) => Lo.elim y (fun s => (X.out 0, st 34 [(0, V.sl false 85 (List.map E85 l))] [] [])) (fun s => (X.ret, st 34 [(2, V.sc (.bool false))] [] [])))) (impl_HoldsOk_l0 l t1 p1)
  | [], p1, h1 => by
    unfold impl_HoldsOk_l0
    exact
     Pn.some (LpO.out [.bit false, .mask [0], .ren []] (p := [(decide ((p1.length : Int) < (l.length : Int))) = false]) (by kernel_rfl) (show X.out 0 ≠ X.go from nofun) (cj1 (rng_end h1)))
  | x1 :: t1, p1, h1 => by
    unfold impl_HoldsOk_l0
    exact
     Pn.bind (fun r1 h3 =>
     Pn.ite (fun h4 =>
     Pn.ite (fun h5 =>
     Pn.ite (fun h6 =>
     Pn.bind (fun x2 h7 =>
     Pn.ite (fun h8 =>
     Pn.some (LpO.out [.bit true, .el (E85 x1), .draw [], .call [] (E4 r1) [], .bit false, .bit false, .bit false, .bit true, .bit true, .bit true, .bit true, .bit true, .bit true, .el (E85 x2), .bit true, .bit true, .bit true, .bit false, .bit true, .bit false, .bit true, .wait 1, .mask [2], .ren []] (p := [(decide ((p1.length : Int) < (l.length : Int))) = true,
      (0 : Int) ≤ (p1.length : Int),
      (List.map E85 l)[(p1.length : Int).toNat]? = some (E85 x1),
      Fn Tryz.prog 66 [(false, E85 x1)] (E4 r1) [],
      (true || ((E4 r1).nv && nvL [])) = true,
      (!r1) = false,
      (!r1) = false,
      (!r1) = false,
      (decide (0 < (p1.length : Int))) = true,
      (decide (0 < (p1.length : Int))) = true,
      (decide (0 < (p1.length : Int))) = true,
      (decide (0 < (p1.length : Int))) = true,
      (decide (0 < (p1.length : Int))) = true,
      (decide (0 < (p1.length : Int))) = true,
      (0 : Int) ≤ (i64 ((p1.length : Int) - 1)),
      (List.map E85 l)[(i64 ((p1.length : Int) - 1)).toNat]? = some (E85 x2),
      (decide (0 < (p1.length : Int))) = true,
      (decide (0 < (p1.length : Int))) = true,
      (decide (0 < (p1.length : Int))) = true,
      (!r1) = false,
      (decide (0 < (p1.length : Int))) = true,
      (!r1) = false,
      (Op.bytesLess x1.Id.toList x2.Id.toList || (x1.Id == x2.Id)) = true]) (by kernel_rfl) (show X.ret ≠ X.go from nofun) (cj (rng_lt h1) (cj (by omega) (cj (rng_get _ h1) (cj (impl_HoldOk_ok x1 r1 h3) (cj rfl (cj (nf h4) (cj (nf h4) (cj (nf h4) (cj h5 (cj h5 (cj h5 (cj h5 (cj h5 (cj h5 (cj (od h6) (cj (map_get h7) (cj h5 (cj h5 (cj h5 (cj (nf h4) (cj h5 (cj (nf h4) (cj1 h8))))))))))))))))))))))))) (fun h8 =>
     LpO.go [.bit true, .el (E85 x1), .draw [], .call [] (E4 r1) [], .bit false, .bit false, .bit false, .bit true, .bit true, .bit true, .bit true, .bit true, .bit true, .el (E85 x2), .bit true, .bit true, .bit true, .bit false, .bit true, .bit false, .bit false, .wait 2, .mask [0, 5, 6, 7], .ren [], .nm 7 (V.sc (.int .i64 ((p1 ++ [x1]).length : Int)))] (p := [(decide ((p1.length : Int) < (l.length : Int))) = true,
      (0 : Int) ≤ (p1.length : Int),
      (List.map E85 l)[(p1.length : Int).toNat]? = some (E85 x1),
      Fn Tryz.prog 66 [(false, E85 x1)] (E4 r1) [],
      (true || ((E4 r1).nv && nvL [])) = true,
      (!r1) = false,
      (!r1) = false,
      (!r1) = false,
      (decide (0 < (p1.length : Int))) = true,
      (decide (0 < (p1.length : Int))) = true,
      (decide (0 < (p1.length : Int))) = true,
      (decide (0 < (p1.length : Int))) = true,
      (decide (0 < (p1.length : Int))) = true,
      (decide (0 < (p1.length : Int))) = true,
      (0 : Int) ≤ (i64 ((p1.length : Int) - 1)),
      (List.map E85 l)[(i64 ((p1.length : Int) - 1)).toNat]? = some (E85 x2),
      (decide (0 < (p1.length : Int))) = true,
      (decide (0 < (p1.length : Int))) = true,
      (decide (0 < (p1.length : Int))) = true,
      (!r1) = false,
      (decide (0 < (p1.length : Int))) = true,
      (!r1) = false,
      (Op.bytesLess x1.Id.toList x2.Id.toList || (x1.Id == x2.Id)) = false,
      V.sc (.int .i64 (i64 ((p1.length : Int) + 1))) = V.sc (.int .i64 ((p1 ++ [x1]).length : Int))]) (by kernel_rfl) (cj (rng_lt h1) (cj (by omega) (cj (rng_get _ h1) (cj (impl_HoldOk_ok x1 r1 h3) (cj rfl (cj (nf h4) (cj (nf h4) (cj (nf h4) (cj h5 (cj h5 (cj h5 (cj h5 (cj h5 (cj h5 (cj (od h6) (cj (map_get h7) (cj h5 (cj h5 (cj h5 (cj (nf h4) (cj h5 (cj (nf h4) (cj h8 (cj1 (rng_next h1 h2))))))))))))))))))))))))) (impl_HoldsOk_l0_ok l h2 t1 (p1 ++ [x1]) (rng_step h1))))) (fun h6 =>
     Pn.none)) (fun h5 =>
     LpO.go [.bit true, .el (E85 x1), .draw [], .call [] (E4 r1) [], .bit false, .bit false, .bit false, .bit false, .bit false, .bit false, .bit false, .bit false, .bit false, .bit false, .bit false, .bit false, .bit false, .bit false, .bit false, .bit false, .wait 2, .mask [0, 5, 6, 7], .ren [], .nm 7 (V.sc (.int .i64 ((p1 ++ [x1]).length : Int)))] (p := [(decide ((p1.length : Int) < (l.length : Int))) = true,
      (0 : Int) ≤ (p1.length : Int),
      (List.map E85 l)[(p1.length : Int).toNat]? = some (E85 x1),
      Fn Tryz.prog 66 [(false, E85 x1)] (E4 r1) [],
      (true || ((E4 r1).nv && nvL [])) = true,
      (!r1) = false,
      (!r1) = false,
      (!r1) = false,
      (decide (0 < (p1.length : Int))) = false,
      (decide (0 < (p1.length : Int))) = false,
      (decide (0 < (p1.length : Int))) = false,
      (decide (0 < (p1.length : Int))) = false,
      (decide (0 < (p1.length : Int))) = false,
      (decide (0 < (p1.length : Int))) = false,
      (decide (0 < (p1.length : Int))) = false,
      (decide (0 < (p1.length : Int))) = false,
      (decide (0 < (p1.length : Int))) = false,
      (!r1) = false,
      (decide (0 < (p1.length : Int))) = false,
      (!r1) = false,
      false = false,
      V.sc (.int .i64 (i64 ((p1.length : Int) + 1))) = V.sc (.int .i64 ((p1 ++ [x1]).length : Int))]) (by kernel_rfl) (cj (rng_lt h1) (cj (by omega) (cj (rng_get _ h1) (cj (impl_HoldOk_ok x1 r1 h3) (cj rfl (cj (nf h4) (cj (nf h4) (cj (nf h4) (cj h5 (cj h5 (cj h5 (cj h5 (cj h5 (cj h5 (cj h5 (cj h5 (cj h5 (cj (nf h4) (cj h5 (cj (nf h4) (cj rfl (cj1 (rng_next h1 h2))))))))))))))))))))))) (impl_HoldsOk_l0_ok l h2 t1 (p1 ++ [x1]) (rng_step h1)))) (fun h4 =>
     Pn.some (LpO.out [.bit true, .el (E85 x1), .draw [], .call [] (E4 r1) [], .bit true, .bit true, .bit true, .bit true, .bit true, .bit true, .wait 1, .mask [2], .ren []] (p := [(decide ((p1.length : Int) < (l.length : Int))) = true,
      (0 : Int) ≤ (p1.length : Int),
      (List.map E85 l)[(p1.length : Int).toNat]? = some (E85 x1),
      Fn Tryz.prog 66 [(false, E85 x1)] (E4 r1) [],
      (true || ((E4 r1).nv && nvL [])) = true,
      (!r1) = true,
      (!r1) = true,
      (!r1) = true,
      (!r1) = true,
      (!r1) = true,
      true = true]) (by kernel_rfl) (show X.ret ≠ X.go from nofun) (cj (rng_lt h1) (cj (by omega) (cj (rng_get _ h1) (cj (impl_HoldOk_ok x1 r1 h3) (cj rfl (cj (nt h4) (cj (nt h4) (cj (nt h4) (cj (nt h4) (cj (nt h4) (cj1 rfl))))))))))))))
def impl_HoldsOk (l : List Hold) : Option (Bool) :=
 if (capOk l.length) = true then
 (impl_HoldsOk_l0 l l []).bind fun r2 =>
 Lo.elim r2 (fun s1 =>
 some (decide ((l.length : Int) ≤ 4))) (fun s2 =>
 some false)
 else none
theorem impl_HoldsOk_ok (l : List Hold) : Pn (fun y => Fn Tryz.prog 44 [(false, E37 l)] (E4 y) []) (impl_HoldsOk l) := by
  unfold impl_HoldsOk
  exact
   Pn.ite (fun h9 =>
   Pn.bind (fun r2 h10 =>
   Pn.lo (fun s1 h11 =>
   Pn.some (Fn.of [.wait 3, .nm 6 (V.sc (.int .i64 (l.length : Int))), .wait 2, .mask [0, 5, 6, 7], .ren [], .loop (X.out 0) (st 34 [(0, V.sl false 85 (List.map E85 l))] [] []), .wait 2, .nm 32 (V.sc (.int .i64 (l.length : Int)))] (p := [V.sc (.int .i64 ((List.map E85 l).length : Int)) = V.sc (.int .i64 (l.length : Int)),
    Loop Tryz.prog (sub (codeOf Tryz.prog 44) [1, 0, 1, 0, 0]) (st 34 [(0, V.sl false 85 (List.map E85 l)), (5, V.sl false 85 (List.map E85 l)), (6, V.sc (.int .i64 (l.length : Int))), (7, V.sc (.int .i64 0))] [] []) (X.out 0) (st 34 [(0, V.sl false 85 (List.map E85 l))] [] []),
    V.sc (.int .i64 ((List.map E85 l).length : Int)) = V.sc (.int .i64 (l.length : Int))]) (by kernel_rfl) (cj (len_nm _ _) (cj ((impl_HoldsOk_l0_ok l h9 l [] rfl r2 h10).at h11) (cj1 (len_nm _ _)))))) (fun s2 h12 =>
   Pn.some (Fn.of [.wait 3, .nm 6 (V.sc (.int .i64 (l.length : Int))), .wait 2, .mask [0, 5, 6, 7], .ren [], .loop (X.ret) (st 34 [(2, V.sc (.bool false))] [] [])] (p := [V.sc (.int .i64 ((List.map E85 l).length : Int)) = V.sc (.int .i64 (l.length : Int)),
    Loop Tryz.prog (sub (codeOf Tryz.prog 44) [1, 0, 1, 0, 0]) (st 34 [(0, V.sl false 85 (List.map E85 l)), (5, V.sl false 85 (List.map E85 l)), (6, V.sc (.int .i64 (l.length : Int))), (7, V.sc (.int .i64 0))] [] []) (X.ret) (st 34 [(2, V.sc (.bool false))] [] [])]) (by kernel_rfl) (cj (len_nm _ _) (cj1 ((impl_HoldsOk_l0_ok l h9 l [] rfl r2 h10).at h12))))))) (fun h9 =>
   Pn.none)
def slices_Grow_int_nil (n : Int) : Option ((List Int)) :=
 if (decide (n < 0)) = true then none else
 if (decide (0 < (i64 (n - 0)))) = true then
 if (capOk (i64 (n - 0)).toNat) = true then
 some []
 else none
 else
 some []
theorem slices_Grow_int_nil_ok (n : Int) : Pn (fun y => Fn Tryz.prog 91 [(false, V.nl 3), (false, E3 n)] (E38 y) []) (slices_Grow_int_nil n) := by
  unfold slices_Grow_int_nil
  exact
   Pn.ite (fun h1 =>
   Pn.none) (fun h1 =>
   Pn.ite (fun h2 =>
   Pn.ite (fun h3 =>
   Pn.some (Fn.of [.bit false, .bit true, .wait 5, .nb 0 (.row 3 (List.map E3 (List.replicate ((i64 (n - 0)).toNat) 0)) [])] (p := [(decide (n < 0)) = false,
    (decide (0 < (i64 (n - 0)))) = true,
    (0 : Int) ≤ 0,
    (0 : Int) ≤ 0,
    (0 : Int) ≤ 0,
    (0 : Int) < (i64 (n - 0)),
    ((i64 (n - 0)) : Int) ≤ 9223372036854775807,
    (i64 (n - 0)).toNat * 8 ≤ 140737488355328,
    Blk.row 3 (List.replicate ((i64 (n - 0)).toNat) (V.sc (.int .i64 0))) [] = Blk.row 3 (List.map E3 (List.replicate ((i64 (n - 0)).toNat) 0)) [],
    (0 : Int) ≤ 0,
    (0 : Int) ≤ 0,
    (0 : Int) ≤ ((List.map E3 (List.replicate ((i64 (n - 0)).toNat) 0)).length : Int)]) (by kernel_rfl) (cj h1 (cj h2 (cj (by decide) (cj (by decide) (cj (by decide) (cj (od h2) (cj (cap5 h2 h3) (cj (cap2 h3 (by decide)) (cj (nb_rep E3 _ 0) (cj (by decide) (cj (by decide) (cj1 (by rw [List.length_map]; exact (by omega)))))))))))))))) (fun h3 =>
   Pn.none)) (fun h2 =>
   Pn.some (Fn.of [.bit false, .bit false] (p := [(decide (n < 0)) = false,
    (decide (0 < (i64 (n - 0)))) = false]) (by kernel_rfl) (cj h1 (cj1 h2)))))
def slices_Concat_int_l0 (slices : List (List Int)) : List (List Int) → Int → Option (Int)
  | [], v1 =>
   some v1
  | x1 :: t1, v1 =>
   if (decide ((i64 (v1 + (x1.length : Int))) < 0)) = true then none else
   slices_Concat_int_l0 slices t1 (i64 (v1 + (x1.length : Int)))
theorem slices_Concat_int_l0_ok (slices : List (List Int)) (h2 : capOk slices.length = true) : ∀ (t1 p1 : List (List Int)) (_ : slices = p1 ++ t1) (v1 : Int), Pn (LpO Tryz.prog (sub (codeOf Tryz.prog 67) [1, 1, 0, 1, 0, 0]) (st 36 [(0, V.sl false 38 (List.map E38 slices)), (3, V.sc (.int .i64 v1)), (9, V.sl false 38 (List.map E38 slices)), (10, V.sc (.int .i64 (slices.length : Int))), (11, V.sc (.int .i64 (p1.length : Int)))] [] []) (fun (y : Int) => (X.out 0, st 36 [(0, V.sl false 38 (List.map E38 slices)), (3, V.sc (.int .i64 y))] [] []))) (slices_Concat_int_l0 slices t1 v1)
  | [], p1, h1, v1 => by
    unfold slices_Concat_int_l0
    exact
     Pn.some (LpO.out [.bit false, .mask [0, 3], .ren []] (p := [(decide ((p1.length : Int) < (slices.length : Int))) = false]) (by kernel_rfl) (show X.out 0 ≠ X.go from nofun) (cj1 (rng_end h1)))
  | x1 :: t1, p1, h1, v1 => by
    unfold slices_Concat_int_l0
    exact
     Pn.ite (fun h3 =>
     Pn.none) (fun h3 =>
     LpO.go [.bit true, .el (E38 x1), .wait 5, .nm 17 (V.sc (.int .i64 (x1.length : Int))), .bit false, .wait 2, .mask [0, 3, 9, 10, 11], .ren [], .nm 11 (V.sc (.int .i64 ((p1 ++ [x1]).length : Int)))] (p := [(decide ((p1.length : Int) < (slices.length : Int))) = true,
      (0 : Int) ≤ (p1.length : Int),
      (List.map E38 slices)[(p1.length : Int).toNat]? = some (E38 x1),
      V.sc (.int .i64 ((List.map E3 x1).length : Int)) = V.sc (.int .i64 (x1.length : Int)),
      (decide ((i64 (v1 + (x1.length : Int))) < 0)) = false,
      V.sc (.int .i64 (i64 ((p1.length : Int) + 1))) = V.sc (.int .i64 ((p1 ++ [x1]).length : Int))]) (by kernel_rfl) (cj (rng_lt h1) (cj (by omega) (cj (rng_get _ h1) (cj (len_nm _ _) (cj h3 (cj1 (rng_next h1 h2))))))) (slices_Concat_int_l0_ok slices h2 t1 (p1 ++ [x1]) (rng_step h1) (i64 (v1 + (x1.length : Int)))))
def slices_Concat_int_l1 (slices : List (List Int)) : List (List Int) → (List Int) → Option ((List Int))
  | [], v2 =>
   some v2
  | x2 :: t2, v2 =>
   if (capOk (v2.length + x2.length)) = true then
   slices_Concat_int_l1 slices t2 (v2 ++ x2)
   else none
theorem slices_Concat_int_l1_ok (slices : List (List Int)) (h8 : capOk slices.length = true) : ∀ (t2 p2 : List (List Int)) (_ : slices = p2 ++ t2) (v2 : List Int), Pn (LpO Tryz.prog (sub (codeOf Tryz.prog 67) [1, 1, 1, 1, 0, 1, 0, 0]) (st 36 [(6, V.ow 0), (25, V.sl false 38 (List.map E38 slices)), (26, V.sc (.int .i64 (slices.length : Int))), (27, V.sc (.int .i64 (p2.length : Int)))] [Blk.row 3 (List.map E3 v2) []] []) (fun (y : (List Int)) => (X.out 2, st 36 [(6, V.ow 0)] [Blk.row 3 (List.map E3 y) []] []))) (slices_Concat_int_l1 slices t2 v2)
  | [], p2, h7, v2 => by
    unfold slices_Concat_int_l1
    exact
     Pn.some (LpO.out [.bit false, .mask [6], .ren [0]] (p := [(decide ((p2.length : Int) < (slices.length : Int))) = false]) (by kernel_rfl) (show X.out 2 ≠ X.go from nofun) (cj1 (rng_end h7)))
  | x2 :: t2, p2, h7, v2 => by
    unfold slices_Concat_int_l1
    exact
     Pn.ite (fun h9 =>
     LpO.go [.bit true, .el (E38 x2), .cp (List.map E3 x2), .nb 1 (.row 3 (List.map E3 (v2 ++ x2)) []), .wait 4, .mask [6, 25, 26, 27], .ren [1], .nm 27 (V.sc (.int .i64 ((p2 ++ [x2]).length : Int)))] (p := [(decide ((p2.length : Int) < (slices.length : Int))) = true,
      (0 : Int) ≤ (p2.length : Int),
      (List.map E38 slices)[(p2.length : Int).toNat]? = some (E38 x2),
      (List.map E3 x2).map V.vw = (List.map E3 x2),
      (List.map E3 v2).length + (List.map E3 x2).length ≤ 9223372036854775807,
      ((List.map E3 v2).length + (List.map E3 x2).length) * 8 ≤ 140737488355328,
      Blk.row 3 ((List.map E3 v2) ++ (List.map E3 x2)) [] = Blk.row 3 (List.map E3 (v2 ++ x2)) [],
      V.sc (.int .i64 (i64 ((p2.length : Int) + 1))) = V.sc (.int .i64 ((p2 ++ [x2]).length : Int))]) (by kernel_rfl) (cj (rng_lt h7) (cj (by omega) (cj (rng_get _ h7) (cj (vw_id (fun _ => rfl) _) (cj (cap1 (capN (by simp) h9)) (cj (cap2 (capN (by simp) h9) (by decide)) (cj (nb_app E3 v2 x2) (cj1 (rng_next h7 h8))))))))) (slices_Concat_int_l1_ok slices h8 t2 (p2 ++ [x2]) (rng_step h7) (v2 ++ x2))) (fun h9 =>
     Pn.none)
def slices_Concat_int (slices : List (List Int)) : Option ((List Int)) :=
 if (capOk slices.length) = true then
 (slices_Concat_int_l0 slices slices 0).bind fun r1 =>
 (slices_Grow_int_nil r1).bind fun r2 =>
 (slices_Concat_int_l1 slices slices r2).bind fun r3 =>
 some r3
 else none
theorem slices_Concat_int_ok (slices : List (List Int)) : Pn (fun y => Fn Tryz.prog 67 [(false, E114 slices)] (E38 y) []) (slices_Concat_int slices) := by
  unfold slices_Concat_int
  exact
   Pn.ite (fun h4 =>
   Pn.bind (fun r1 h5 =>
   Pn.bind (fun r2 h6 =>
   Pn.bind (fun r3 h10 =>
   Pn.some (Fn.of [.wait 4, .nm 10 (V.sc (.int .i64 (slices.length : Int))), .wait 2, .mask [0, 3, 9, 10, 11], .ren [], .loop (X.out 0) (st 36 [(0, V.sl false 38 (List.map E38 slices)), (3, V.sc (.int .i64 r1))] [] []), .call [] (E38 r2) [], .wait 3, .nm 26 (V.sc (.int .i64 (slices.length : Int))), .wait 2, .mask [6, 25, 26, 27], .ren [0], .loop (X.out 2) (st 36 [(6, V.ow 0)] [Blk.row 3 (List.map E3 r3) []] [])] (p := [V.sc (.int .i64 ((List.map E38 slices).length : Int)) = V.sc (.int .i64 (slices.length : Int)),
    Loop Tryz.prog (sub (codeOf Tryz.prog 67) [1, 1, 0, 1, 0, 0]) (st 36 [(0, V.sl false 38 (List.map E38 slices)), (3, V.sc (.int .i64 0)), (9, V.sl false 38 (List.map E38 slices)), (10, V.sc (.int .i64 (slices.length : Int))), (11, V.sc (.int .i64 0))] [] []) (X.out 0) (st 36 [(0, V.sl false 38 (List.map E38 slices)), (3, V.sc (.int .i64 r1))] [] []),
    Fn Tryz.prog 91 [(false, V.nl 3), (false, E3 r1)] (E38 r2) [],
    (true || ((E38 r2).nv && nvL [])) = true,
    V.sc (.int .i64 ((List.map E38 slices).length : Int)) = V.sc (.int .i64 (slices.length : Int)),
    Loop Tryz.prog (sub (codeOf Tryz.prog 67) [1, 1, 1, 1, 0, 1, 0, 0]) (st 36 [(6, V.ow 0), (25, V.sl false 38 (List.map E38 slices)), (26, V.sc (.int .i64 (slices.length : Int))), (27, V.sc (.int .i64 0))] [Blk.row 3 (List.map E3 r2) []] []) (X.out 2) (st 36 [(6, V.ow 0)] [Blk.row 3 (List.map E3 r3) []] [])]) (by kernel_rfl) (cj (len_nm _ _) (cj (slices_Concat_int_l0_ok slices h4 slices [] rfl 0 r1 h5) (cj (slices_Grow_int_nil_ok r1 r2 h6) (cj rfl (cj (len_nm _ _) (cj1 (slices_Concat_int_l1_ok slices h4 slices [] rfl r2 r3 h10)))))))))))) (fun h4 =>
   Pn.none)
def impl_RingOk_l0 (r_ : Ring) (r1 : (List Int)) : List Int → Option (Lo Unit Unit)
  | [] =>
   some (.out ())
  | x1 :: t1 =>
   (impl_isMoney x1).bind fun r2 =>
   if r2 = true then
   impl_RingOk_l0 r_ r1 t1
   else
   some (.ret ())
theorem impl_RingOk_l0_ok (r_ : Ring) (r1 : (List Int)) (h3 : capOk r1.length = true) : ∀ (t1 p1 : List Int) (_ : r1 = p1 ++ t1) , Pn (LpO Tryz.prog (sub (codeOf Tryz.prog 45) [1, 1, 0, 1, 0, 0]) (st 43 [(1, V.ptr 0 0), (3, V.sc (.int .i64 (r_.Counts.length : Int))), (14, V.ow 1), (15, V.sc (.int .i64 (r1.length : Int))), (16, V.sc (.int .i64 (p1.length : Int)))] [Blk.box 40 [V.sc (.int .i64 r_.Span), V.sc (.int .i64 r_.Head), V.sl false 3 (List.map E3 r_.Counts), V.sl false 3 (List.map E3 r_.Sums)], Blk.row 3 (List.map E3 r1) []] []) (fun (y : Lo Unit Unit) => Lo.elim y (fun s => (X.out 0, st 43 [(1, V.ptr 0 0), (3, V.sc (.int .i64 (r_.Counts.length : Int)))] [Blk.box 40 [V.sc (.int .i64 r_.Span), V.sc (.int .i64 r_.Head), V.sl false 3 (List.map E3 r_.Counts), V.sl false 3 (List.map E3 r_.Sums)]] [])) (fun s => (X.ret, st 43 [(2, V.sc (.bool false))] [] [])))) (impl_RingOk_l0 r_ r1 t1)
  | [], p1, h2 => by
    unfold impl_RingOk_l0
    exact
     Pn.some (LpO.out [.bit false, .mask [1, 3], .ren [0]] (p := [(decide ((p1.length : Int) < (r1.length : Int))) = false]) (by kernel_rfl) (show X.out 0 ≠ X.go from nofun) (cj1 (rng_end h2)))
  | x1 :: t1, p1, h2 => by
    unfold impl_RingOk_l0
    exact
     Pn.bind (fun r2 h4 =>
     Pn.ite (fun h5 =>
     LpO.go [.bit true, .el (E3 x1), .call [] (E4 r2) [], .bit false, .wait 2, .mask [1, 3, 14, 15, 16], .ren [0, 1], .nm 16 (V.sc (.int .i64 ((p1 ++ [x1]).length : Int)))] (p := [(decide ((p1.length : Int) < (r1.length : Int))) = true,
      (0 : Int) ≤ (p1.length : Int),
      ((p1.length : Int) : Int) < ((List.map E3 r1).length : Int),
      look [] ((p1.length : Int).toNat) = none,
      (List.map E3 r1)[(p1.length : Int).toNat]? = some (E3 x1),
      Fn Tryz.prog 43 [(false, E3 x1)] (E4 r2) [],
      (true || ((E4 r2).nv && nvL [])) = true,
      (!r2) = false,
      V.sc (.int .i64 (i64 ((p1.length : Int) + 1))) = V.sc (.int .i64 ((p1 ++ [x1]).length : Int))]) (by kernel_rfl) (cj (rng_lt h2) (cj (by omega) (cj (rng_ltI _ h2) (cj rfl (cj (rng_get _ h2) (cj (impl_isMoney_ok x1 r2 h4) (cj rfl (cj (nf h5) (cj1 (rng_next h2 h3)))))))))) (impl_RingOk_l0_ok r_ r1 h3 t1 (p1 ++ [x1]) (rng_step h2))) (fun h5 =>
     Pn.some (LpO.out [.bit true, .el (E3 x1), .call [] (E4 r2) [], .bit true, .wait 1, .mask [2], .ren []] (p := [(decide ((p1.length : Int) < (r1.length : Int))) = true,
      (0 : Int) ≤ (p1.length : Int),
      ((p1.length : Int) : Int) < ((List.map E3 r1).length : Int),
      look [] ((p1.length : Int).toNat) = none,
      (List.map E3 r1)[(p1.length : Int).toNat]? = some (E3 x1),
      Fn Tryz.prog 43 [(false, E3 x1)] (E4 r2) [],
      (true || ((E4 r2).nv && nvL [])) = true,
      (!r2) = true]) (by kernel_rfl) (show X.ret ≠ X.go from nofun) (cj (rng_lt h2) (cj (by omega) (cj (rng_ltI _ h2) (cj rfl (cj (rng_get _ h2) (cj (impl_isMoney_ok x1 r2 h4) (cj rfl (cj1 (nt h5))))))))))))
def impl_RingOk (r_ : Ring) : Option (Bool) :=
 (slices_Concat_int [r_.Counts, r_.Sums]).bind fun r1 =>
 if (capOk r1.length) = true then
 (impl_RingOk_l0 r_ r1 r1).bind fun r3 =>
 Lo.elim r3 (fun s1 =>
 (impl_within r_.Span 1 1000).bind fun r4 =>
 if r4 = true then
 (impl_within (r_.Counts.length : Int) 1 8).bind fun r5 =>
 if r5 = true then
 if ((r_.Sums.length : Int) == (r_.Counts.length : Int)) = true then
 (impl_isTime r_.Head).bind fun r6 =>
 some r6
 else
 some false
 else
 some false
 else
 some false) (fun s2 =>
 some false)
 else none
theorem impl_RingOk_ok (r_ : Ring) : Pn (fun y => Fn Tryz.prog 45 [(false, E40 r_)] (E4 y) []) (impl_RingOk r_) := by
  unfold impl_RingOk
  exact
   Pn.bind (fun r1 h1 =>
   Pn.ite (fun h6 =>
   Pn.bind (fun r3 h7 =>
   Pn.lo (fun s1 h8 =>
   Pn.bind (fun r4 h10 =>
   Pn.ite (fun h11 =>
   Pn.bind (fun r5 h12 =>
   Pn.ite (fun h13 =>
   Pn.ite (fun h14 =>
   Pn.bind (fun r6 h15 =>
   Pn.some (Fn.of [.wait 5, .nm 8 (V.sc (.int .i64 (r_.Counts.length : Int))), .call [] (E38 r1) [], .wait 1, .nm 15 (V.sc (.int .i64 (r1.length : Int))), .wait 2, .mask [1, 3, 14, 15, 16], .ren [0, 2], .loop (X.out 0) (st 43 [(1, V.ptr 0 0), (3, V.sc (.int .i64 (r_.Counts.length : Int)))] [Blk.box 40 [V.sc (.int .i64 r_.Span), V.sc (.int .i64 r_.Head), V.sl false 3 (List.map E3 r_.Counts), V.sl false 3 (List.map E3 r_.Sums)]] []), .call [] (E4 r4) [], .bit true, .bit true, .call [] (E4 r5) [], .bit true, .bit true, .bit true, .bit true, .nm 34 (V.sc (.int .i64 (r_.Sums.length : Int))), .bit true, .bit true, .bit true, .bit true, .bit true, .bit true, .call [] (E4 r6) [], .bit true] (p := [V.sc (.int .i64 ((List.map E3 r_.Counts).length : Int)) = V.sc (.int .i64 (r_.Counts.length : Int)),
    Fn Tryz.prog 67 [(false, V.sl true 38 [V.sl false 3 (List.map E3 r_.Counts), V.sl false 3 (List.map E3 r_.Sums)])] (E38 r1) [],
    (false || ((E38 r1).nv && nvL [])) = true,
    V.sc (.int .i64 ((List.map E3 r1).length : Int)) = V.sc (.int .i64 (r1.length : Int)),
    Loop Tryz.prog (sub (codeOf Tryz.prog 45) [1, 1, 0, 1, 0, 0]) (st 43 [(1, V.ptr 0 0), (3, V.sc (.int .i64 (r_.Counts.length : Int))), (14, V.ow 1), (15, V.sc (.int .i64 (r1.length : Int))), (16, V.sc (.int .i64 0))] [Blk.box 40 [V.sc (.int .i64 r_.Span), V.sc (.int .i64 r_.Head), V.sl false 3 (List.map E3 r_.Counts), V.sl false 3 (List.map E3 r_.Sums)], Blk.row 3 (List.map E3 r1) []] []) (X.out 0) (st 43 [(1, V.ptr 0 0), (3, V.sc (.int .i64 (r_.Counts.length : Int)))] [Blk.box 40 [V.sc (.int .i64 r_.Span), V.sc (.int .i64 r_.Head), V.sl false 3 (List.map E3 r_.Counts), V.sl false 3 (List.map E3 r_.Sums)]] []),
    Fn Tryz.prog 15 [(false, E3 r_.Span), (false, E3 1), (false, E3 1000)] (E4 r4) [],
    (true || ((E4 r4).nv && nvL [])) = true,
    r4 = true,
    r4 = true,
    Fn Tryz.prog 15 [(false, E3 (r_.Counts.length : Int)), (false, E3 1), (false, E3 8)] (E4 r5) [],
    (true || ((E4 r5).nv && nvL [])) = true,
    r4 = true,
    r5 = true,
    r5 = true,
    r5 = true,
    V.sc (.int .i64 ((List.map E3 r_.Sums).length : Int)) = V.sc (.int .i64 (r_.Sums.length : Int)),
    r5 = true,
    r5 = true,
    r5 = true,
    ((r_.Sums.length : Int) == (r_.Counts.length : Int)) = true,
    ((r_.Sums.length : Int) == (r_.Counts.length : Int)) = true,
    ((r_.Sums.length : Int) == (r_.Counts.length : Int)) = true,
    Fn Tryz.prog 68 [(false, E3 r_.Head)] (E4 r6) [],
    (true || ((E4 r6).nv && nvL [])) = true,
    ((r_.Sums.length : Int) == (r_.Counts.length : Int)) = true]) (by kernel_rfl) (cj (len_nm _ _) (cj (Fn.flag 0 (by kernel_rfl) (slices_Concat_int_ok [r_.Counts, r_.Sums] r1 h1)) (cj (by simp [V.nv, nvL, nvL_all, nv_E3, nv_E38]) (cj (len_nm _ _) (cj ((impl_RingOk_l0_ok r_ r1 h6 r1 [] rfl r3 h7).at h8) (cj (impl_within_ok r_.Span 1 1000 r4 h10) (cj rfl (cj h11 (cj h11 (cj (impl_within_ok (r_.Counts.length : Int) 1 8 r5 h12) (cj rfl (cj h11 (cj h13 (cj h13 (cj h13 (cj (len_nm _ _) (cj h13 (cj h13 (cj h13 (cj h14 (cj h14 (cj h14 (cj (impl_isTime_ok r_.Head r6 h15) (cj rfl (cj1 h14)))))))))))))))))))))))))))) (fun h14 =>
   Pn.some (Fn.of [.wait 5, .nm 8 (V.sc (.int .i64 (r_.Counts.length : Int))), .call [] (E38 r1) [], .wait 1, .nm 15 (V.sc (.int .i64 (r1.length : Int))), .wait 2, .mask [1, 3, 14, 15, 16], .ren [0, 2], .loop (X.out 0) (st 43 [(1, V.ptr 0 0), (3, V.sc (.int .i64 (r_.Counts.length : Int)))] [Blk.box 40 [V.sc (.int .i64 r_.Span), V.sc (.int .i64 r_.Head), V.sl false 3 (List.map E3 r_.Counts), V.sl false 3 (List.map E3 r_.Sums)]] []), .call [] (E4 r4) [], .bit true, .bit true, .call [] (E4 r5) [], .bit true, .bit true, .bit true, .bit true, .nm 34 (V.sc (.int .i64 (r_.Sums.length : Int))), .bit true, .bit true, .bit true, .bit false, .bit false, .bit false, .bit false] (p := [V.sc (.int .i64 ((List.map E3 r_.Counts).length : Int)) = V.sc (.int .i64 (r_.Counts.length : Int)),
    Fn Tryz.prog 67 [(false, V.sl true 38 [V.sl false 3 (List.map E3 r_.Counts), V.sl false 3 (List.map E3 r_.Sums)])] (E38 r1) [],
    (false || ((E38 r1).nv && nvL [])) = true,
    V.sc (.int .i64 ((List.map E3 r1).length : Int)) = V.sc (.int .i64 (r1.length : Int)),
    Loop Tryz.prog (sub (codeOf Tryz.prog 45) [1, 1, 0, 1, 0, 0]) (st 43 [(1, V.ptr 0 0), (3, V.sc (.int .i64 (r_.Counts.length : Int))), (14, V.ow 1), (15, V.sc (.int .i64 (r1.length : Int))), (16, V.sc (.int .i64 0))] [Blk.box 40 [V.sc (.int .i64 r_.Span), V.sc (.int .i64 r_.Head), V.sl false 3 (List.map E3 r_.Counts), V.sl false 3 (List.map E3 r_.Sums)], Blk.row 3 (List.map E3 r1) []] []) (X.out 0) (st 43 [(1, V.ptr 0 0), (3, V.sc (.int .i64 (r_.Counts.length : Int)))] [Blk.box 40 [V.sc (.int .i64 r_.Span), V.sc (.int .i64 r_.Head), V.sl false 3 (List.map E3 r_.Counts), V.sl false 3 (List.map E3 r_.Sums)]] []),
    Fn Tryz.prog 15 [(false, E3 r_.Span), (false, E3 1), (false, E3 1000)] (E4 r4) [],
    (true || ((E4 r4).nv && nvL [])) = true,
    r4 = true,
    r4 = true,
    Fn Tryz.prog 15 [(false, E3 (r_.Counts.length : Int)), (false, E3 1), (false, E3 8)] (E4 r5) [],
    (true || ((E4 r5).nv && nvL [])) = true,
    r4 = true,
    r5 = true,
    r5 = true,
    r5 = true,
    V.sc (.int .i64 ((List.map E3 r_.Sums).length : Int)) = V.sc (.int .i64 (r_.Sums.length : Int)),
    r5 = true,
    r5 = true,
    r5 = true,
    ((r_.Sums.length : Int) == (r_.Counts.length : Int)) = false,
    ((r_.Sums.length : Int) == (r_.Counts.length : Int)) = false,
    ((r_.Sums.length : Int) == (r_.Counts.length : Int)) = false,
    ((r_.Sums.length : Int) == (r_.Counts.length : Int)) = false]) (by kernel_rfl) (cj (len_nm _ _) (cj (Fn.flag 0 (by kernel_rfl) (slices_Concat_int_ok [r_.Counts, r_.Sums] r1 h1)) (cj (by simp [V.nv, nvL, nvL_all, nv_E3, nv_E38]) (cj (len_nm _ _) (cj ((impl_RingOk_l0_ok r_ r1 h6 r1 [] rfl r3 h7).at h8) (cj (impl_within_ok r_.Span 1 1000 r4 h10) (cj rfl (cj h11 (cj h11 (cj (impl_within_ok (r_.Counts.length : Int) 1 8 r5 h12) (cj rfl (cj h11 (cj h13 (cj h13 (cj h13 (cj (len_nm _ _) (cj h13 (cj h13 (cj h13 (cj h14 (cj h14 (cj h14 (cj1 h14)))))))))))))))))))))))))) (fun h13 =>
   Pn.some (Fn.of [.wait 5, .nm 8 (V.sc (.int .i64 (r_.Counts.length : Int))), .call [] (E38 r1) [], .wait 1, .nm 15 (V.sc (.int .i64 (r1.length : Int))), .wait 2, .mask [1, 3, 14, 15, 16], .ren [0, 2], .loop (X.out 0) (st 43 [(1, V.ptr 0 0), (3, V.sc (.int .i64 (r_.Counts.length : Int)))] [Blk.box 40 [V.sc (.int .i64 r_.Span), V.sc (.int .i64 r_.Head), V.sl false 3 (List.map E3 r_.Counts), V.sl false 3 (List.map E3 r_.Sums)]] []), .call [] (E4 r4) [], .bit true, .bit true, .call [] (E4 r5) [], .bit true, .bit false, .bit false, .bit false, .bit false, .bit false, .bit false, .bit false, .bit false, .bit false, .bit false] (p := [V.sc (.int .i64 ((List.map E3 r_.Counts).length : Int)) = V.sc (.int .i64 (r_.Counts.length : Int)),
    Fn Tryz.prog 67 [(false, V.sl true 38 [V.sl false 3 (List.map E3 r_.Counts), V.sl false 3 (List.map E3 r_.Sums)])] (E38 r1) [],
    (false || ((E38 r1).nv && nvL [])) = true,
    V.sc (.int .i64 ((List.map E3 r1).length : Int)) = V.sc (.int .i64 (r1.length : Int)),
    Loop Tryz.prog (sub (codeOf Tryz.prog 45) [1, 1, 0, 1, 0, 0]) (st 43 [(1, V.ptr 0 0), (3, V.sc (.int .i64 (r_.Counts.length : Int))), (14, V.ow 1), (15, V.sc (.int .i64 (r1.length : Int))), (16, V.sc (.int .i64 0))] [Blk.box 40 [V.sc (.int .i64 r_.Span), V.sc (.int .i64 r_.Head), V.sl false 3 (List.map E3 r_.Counts), V.sl false 3 (List.map E3 r_.Sums)], Blk.row 3 (List.map E3 r1) []] []) (X.out 0) (st 43 [(1, V.ptr 0 0), (3, V.sc (.int .i64 (r_.Counts.length : Int)))] [Blk.box 40 [V.sc (.int .i64 r_.Span), V.sc (.int .i64 r_.Head), V.sl false 3 (List.map E3 r_.Counts), V.sl false 3 (List.map E3 r_.Sums)]] []),
    Fn Tryz.prog 15 [(false, E3 r_.Span), (false, E3 1), (false, E3 1000)] (E4 r4) [],
    (true || ((E4 r4).nv && nvL [])) = true,
    r4 = true,
    r4 = true,
    Fn Tryz.prog 15 [(false, E3 (r_.Counts.length : Int)), (false, E3 1), (false, E3 8)] (E4 r5) [],
    (true || ((E4 r5).nv && nvL [])) = true,
    r4 = true,
    r5 = false,
    r5 = false,
    r5 = false,
    r5 = false,
    r5 = false,
    r5 = false,
    false = false,
    false = false,
    false = false,
    false = false]) (by kernel_rfl) (cj (len_nm _ _) (cj (Fn.flag 0 (by kernel_rfl) (slices_Concat_int_ok [r_.Counts, r_.Sums] r1 h1)) (cj (by simp [V.nv, nvL, nvL_all, nv_E3, nv_E38]) (cj (len_nm _ _) (cj ((impl_RingOk_l0_ok r_ r1 h6 r1 [] rfl r3 h7).at h8) (cj (impl_within_ok r_.Span 1 1000 r4 h10) (cj rfl (cj h11 (cj h11 (cj (impl_within_ok (r_.Counts.length : Int) 1 8 r5 h12) (cj rfl (cj h11 (cj h13 (cj h13 (cj h13 (cj h13 (cj h13 (cj h13 (cj rfl (cj rfl (cj rfl (cj1 rfl)))))))))))))))))))))))))) (fun h11 =>
   Pn.some (Fn.of [.wait 5, .nm 8 (V.sc (.int .i64 (r_.Counts.length : Int))), .call [] (E38 r1) [], .wait 1, .nm 15 (V.sc (.int .i64 (r1.length : Int))), .wait 2, .mask [1, 3, 14, 15, 16], .ren [0, 2], .loop (X.out 0) (st 43 [(1, V.ptr 0 0), (3, V.sc (.int .i64 (r_.Counts.length : Int)))] [Blk.box 40 [V.sc (.int .i64 r_.Span), V.sc (.int .i64 r_.Head), V.sl false 3 (List.map E3 r_.Counts), V.sl false 3 (List.map E3 r_.Sums)]] []), .call [] (E4 r4) [], .bit false, .bit false, .bit false, .bit false, .bit false, .bit false, .bit false, .bit false, .bit false, .bit false, .bit false, .bit false, .bit false] (p := [V.sc (.int .i64 ((List.map E3 r_.Counts).length : Int)) = V.sc (.int .i64 (r_.Counts.length : Int)),
    Fn Tryz.prog 67 [(false, V.sl true 38 [V.sl false 3 (List.map E3 r_.Counts), V.sl false 3 (List.map E3 r_.Sums)])] (E38 r1) [],
    (false || ((E38 r1).nv && nvL [])) = true,
    V.sc (.int .i64 ((List.map E3 r1).length : Int)) = V.sc (.int .i64 (r1.length : Int)),
    Loop Tryz.prog (sub (codeOf Tryz.prog 45) [1, 1, 0, 1, 0, 0]) (st 43 [(1, V.ptr 0 0), (3, V.sc (.int .i64 (r_.Counts.length : Int))), (14, V.ow 1), (15, V.sc (.int .i64 (r1.length : Int))), (16, V.sc (.int .i64 0))] [Blk.box 40 [V.sc (.int .i64 r_.Span), V.sc (.int .i64 r_.Head), V.sl false 3 (List.map E3 r_.Counts), V.sl false 3 (List.map E3 r_.Sums)], Blk.row 3 (List.map E3 r1) []] []) (X.out 0) (st 43 [(1, V.ptr 0 0), (3, V.sc (.int .i64 (r_.Counts.length : Int)))] [Blk.box 40 [V.sc (.int .i64 r_.Span), V.sc (.int .i64 r_.Head), V.sl false 3 (List.map E3 r_.Counts), V.sl false 3 (List.map E3 r_.Sums)]] []),
    Fn Tryz.prog 15 [(false, E3 r_.Span), (false, E3 1), (false, E3 1000)] (E4 r4) [],
    (true || ((E4 r4).nv && nvL [])) = true,
    r4 = false,
    r4 = false,
    r4 = false,
    false = false,
    false = false,
    false = false,
    false = false,
    false = false,
    false = false,
    false = false,
    false = false,
    false = false,
    false = false]) (by kernel_rfl) (cj (len_nm _ _) (cj (Fn.flag 0 (by kernel_rfl) (slices_Concat_int_ok [r_.Counts, r_.Sums] r1 h1)) (cj (by simp [V.nv, nvL, nvL_all, nv_E3, nv_E38]) (cj (len_nm _ _) (cj ((impl_RingOk_l0_ok r_ r1 h6 r1 [] rfl r3 h7).at h8) (cj (impl_within_ok r_.Span 1 1000 r4 h10) (cj rfl (cj h11 (cj h11 (cj h11 (cj rfl (cj rfl (cj rfl (cj rfl (cj rfl (cj rfl (cj rfl (cj rfl (cj rfl (cj1 rfl)))))))))))))))))))))))) (fun s2 h9 =>
   Pn.some (Fn.of [.wait 5, .nm 8 (V.sc (.int .i64 (r_.Counts.length : Int))), .call [] (E38 r1) [], .wait 1, .nm 15 (V.sc (.int .i64 (r1.length : Int))), .wait 2, .mask [1, 3, 14, 15, 16], .ren [0, 2], .loop (X.ret) (st 43 [(2, V.sc (.bool false))] [] [])] (p := [V.sc (.int .i64 ((List.map E3 r_.Counts).length : Int)) = V.sc (.int .i64 (r_.Counts.length : Int)),
    Fn Tryz.prog 67 [(false, V.sl true 38 [V.sl false 3 (List.map E3 r_.Counts), V.sl false 3 (List.map E3 r_.Sums)])] (E38 r1) [],
    (false || ((E38 r1).nv && nvL [])) = true,
    V.sc (.int .i64 ((List.map E3 r1).length : Int)) = V.sc (.int .i64 (r1.length : Int)),
    Loop Tryz.prog (sub (codeOf Tryz.prog 45) [1, 1, 0, 1, 0, 0]) (st 43 [(1, V.ptr 0 0), (3, V.sc (.int .i64 (r_.Counts.length : Int))), (14, V.ow 1), (15, V.sc (.int .i64 (r1.length : Int))), (16, V.sc (.int .i64 0))] [Blk.box 40 [V.sc (.int .i64 r_.Span), V.sc (.int .i64 r_.Head), V.sl false 3 (List.map E3 r_.Counts), V.sl false 3 (List.map E3 r_.Sums)], Blk.row 3 (List.map E3 r1) []] []) (X.ret) (st 43 [(2, V.sc (.bool false))] [] [])]) (by kernel_rfl) (cj (len_nm _ _) (cj (Fn.flag 0 (by kernel_rfl) (slices_Concat_int_ok [r_.Counts, r_.Sums] r1 h1)) (cj (by simp [V.nv, nvL, nvL_all, nv_E3, nv_E38]) (cj (len_nm _ _) (cj1 ((impl_RingOk_l0_ok r_ r1 h6 r1 [] rfl r3 h7).at h9)))))))))) (fun h6 =>
   Pn.none))
def impl_isWide (s_ : ByteArray) (n : Int) : Option (Bool) :=
 (impl_Digits s_).bind fun r1 =>
 if r1 = true then
 some ((s_.size : Int) == n)
 else
 some false
theorem impl_isWide_ok (s_ : ByteArray) (n : Int) : Pn (fun y => Fn Tryz.prog 92 [(false, E9 s_), (false, E3 n)] (E4 y) []) (impl_isWide s_ n) := by
  unfold impl_isWide
  exact
   Pn.bind (fun r1 h1 =>
   Pn.ite (fun h2 =>
   Pn.some (Fn.of [.call [] (E4 r1) [], .bit true, .bit true, .bit true, .bit true, .bit true] (p := [Fn Tryz.prog 88 [(false, E9 s_)] (E4 r1) [],
    (true || ((E4 r1).nv && nvL [])) = true,
    r1 = true,
    r1 = true,
    r1 = true,
    r1 = true,
    r1 = true]) (by kernel_rfl) (cj (impl_Digits_ok s_ r1 h1) (cj rfl (cj h2 (cj h2 (cj h2 (cj h2 (cj1 h2))))))))) (fun h2 =>
   Pn.some (Fn.of [.call [] (E4 r1) [], .bit false, .bit false, .bit false, .bit false, .bit false] (p := [Fn Tryz.prog 88 [(false, E9 s_)] (E4 r1) [],
    (true || ((E4 r1).nv && nvL [])) = true,
    r1 = false,
    r1 = false,
    r1 = false,
    r1 = false,
    r1 = false]) (by kernel_rfl) (cj (impl_Digits_ok s_ r1 h1) (cj rfl (cj h2 (cj h2 (cj h2 (cj h2 (cj1 h2))))))))))
def impl_SlotOk (s_ : Slot) : Option (Bool) :=
 (impl_isWide s_.Trace 6).bind fun r1 =>
 if r1 = true then
 (impl_isWide s_.Mti 4).bind fun r2 =>
 if r2 = true then
 (impl_within (s_.Reply.length : Int) 1 200).bind fun r3 =>
 some r3
 else
 some false
 else
 some false
theorem impl_SlotOk_ok (s_ : Slot) : Pn (fun y => Fn Tryz.prog 69 [(false, E89 s_)] (E4 y) []) (impl_SlotOk s_) := by
  unfold impl_SlotOk
  exact
   Pn.bind (fun r1 h1 =>
   Pn.ite (fun h2 =>
   Pn.bind (fun r2 h3 =>
   Pn.ite (fun h4 =>
   Pn.bind (fun r3 h5 =>
   Pn.some (Fn.of [.call [] (E4 r1) [], .bit true, .bit true, .bit true, .call [] (E4 r2) [], .bit true, .bit true, .bit true, .bit true, .nm 14 (V.sc (.int .i64 (s_.Reply.length : Int))), .bit true, .call [] (E4 r3) [], .bit true] (p := [Fn Tryz.prog 92 [(false, E9 s_.Trace), (false, E3 6)] (E4 r1) [],
    (true || ((E4 r1).nv && nvL [])) = true,
    r1 = true,
    r1 = true,
    r1 = true,
    Fn Tryz.prog 92 [(false, E9 s_.Mti), (false, E3 4)] (E4 r2) [],
    (true || ((E4 r2).nv && nvL [])) = true,
    r1 = true,
    r2 = true,
    r2 = true,
    r2 = true,
    V.sc (.int .i64 ((List.map E5 s_.Reply).length : Int)) = V.sc (.int .i64 (s_.Reply.length : Int)),
    r2 = true,
    Fn Tryz.prog 15 [(false, E3 (s_.Reply.length : Int)), (false, E3 1), (false, E3 200)] (E4 r3) [],
    (true || ((E4 r3).nv && nvL [])) = true,
    r2 = true]) (by kernel_rfl) (cj (impl_isWide_ok s_.Trace 6 r1 h1) (cj rfl (cj h2 (cj h2 (cj h2 (cj (impl_isWide_ok s_.Mti 4 r2 h3) (cj rfl (cj h2 (cj h4 (cj h4 (cj h4 (cj (len_nm _ _) (cj h4 (cj (impl_within_ok (s_.Reply.length : Int) 1 200 r3 h5) (cj rfl (cj1 h4))))))))))))))))))) (fun h4 =>
   Pn.some (Fn.of [.call [] (E4 r1) [], .bit true, .bit true, .bit true, .call [] (E4 r2) [], .bit true, .bit false, .bit false, .bit false, .bit false, .bit false] (p := [Fn Tryz.prog 92 [(false, E9 s_.Trace), (false, E3 6)] (E4 r1) [],
    (true || ((E4 r1).nv && nvL [])) = true,
    r1 = true,
    r1 = true,
    r1 = true,
    Fn Tryz.prog 92 [(false, E9 s_.Mti), (false, E3 4)] (E4 r2) [],
    (true || ((E4 r2).nv && nvL [])) = true,
    r1 = true,
    r2 = false,
    r2 = false,
    r2 = false,
    r2 = false,
    r2 = false]) (by kernel_rfl) (cj (impl_isWide_ok s_.Trace 6 r1 h1) (cj rfl (cj h2 (cj h2 (cj h2 (cj (impl_isWide_ok s_.Mti 4 r2 h3) (cj rfl (cj h2 (cj h4 (cj h4 (cj h4 (cj h4 (cj1 h4))))))))))))))))) (fun h2 =>
   Pn.some (Fn.of [.call [] (E4 r1) [], .bit false, .bit false, .bit false, .bit false, .bit false, .bit false, .bit false, .bit false, .bit false] (p := [Fn Tryz.prog 92 [(false, E9 s_.Trace), (false, E3 6)] (E4 r1) [],
    (true || ((E4 r1).nv && nvL [])) = true,
    r1 = false,
    r1 = false,
    r1 = false,
    r1 = false,
    false = false,
    false = false,
    false = false,
    false = false,
    false = false]) (by kernel_rfl) (cj (impl_isWide_ok s_.Trace 6 r1 h1) (cj rfl (cj h2 (cj h2 (cj h2 (cj h2 (cj rfl (cj rfl (cj rfl (cj rfl (cj1 rfl))))))))))))))
def impl_slotAt_1 (s_ : Slot) (c0_0 : ByteArray) (c1_0 : ByteArray) : Option (Bool) :=
 if (s_.Trace == c0_0) = true then
 some (s_.Mti == c1_0)
 else
 some false
theorem impl_slotAt_1_ok (s_ : Slot) (c0_0 : ByteArray) (c1_0 : ByteArray) : Pn (fun y => Fn Tryz.prog 94 [(false, E89 s_), (false, V.cp [V.sc (.string c0_0)]), (false, V.cp [V.sc (.string c1_0)])] (E4 y) []) (impl_slotAt_1 s_ c0_0 c1_0) := by
  unfold impl_slotAt_1
  exact
   Pn.ite (fun h1 =>
   Pn.some (Fn.of [.bit true, .bit true, .bit true, .bit true, .bit true] (p := [(s_.Trace == c0_0) = true,
    (s_.Trace == c0_0) = true,
    (s_.Trace == c0_0) = true,
    (s_.Trace == c0_0) = true,
    (s_.Trace == c0_0) = true]) (by kernel_rfl) (cj h1 (cj h1 (cj h1 (cj h1 (cj1 h1))))))) (fun h1 =>
   Pn.some (Fn.of [.bit false, .bit false, .bit false, .bit false, .bit false] (p := [(s_.Trace == c0_0) = false,
    (s_.Trace == c0_0) = false,
    (s_.Trace == c0_0) = false,
    (s_.Trace == c0_0) = false,
    (s_.Trace == c0_0) = false]) (by kernel_rfl) (cj h1 (cj h1 (cj h1 (cj h1 (cj1 h1)))))))
end Go.Proofs.YtdcejeemommkfaaGreatM
