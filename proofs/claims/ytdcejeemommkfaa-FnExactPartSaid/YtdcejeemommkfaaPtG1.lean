/- Printed by gen.py: functions on plain data, and that the program computes them. No condition. -/
import Derived.Test.YtdcejeemommkfaaPtG0
namespace Go.Proofs.YtdcejeemommkfaaM
set_option linter.unusedVariables false
set_option linter.unusedSimpArgs false
open Go.RowKit
set_option maxRecDepth 100000

def slices_symMergeCmpFunc_impl_Acct_impl_Gather_1_s2 (r3 : Int × (List Acct)) (v4 : Int) (x3 : Acct) (x4 : Acct) (v5 : List Acct) : St := st 220 [(0, V.ow 0), (10, V.sc (.int .i64 r3.1)), (13, V.sc (.int .i64 v4)), (61, V.ow 0), (62, V.sc (.int .i64 v4)), (63, V.ow 0), (64, V.sc (.int .i64 v4)), (65, V.sc (.int .i64 (i64 (v4 + 1)))), (66, V.ow 0), (67, V.sc (.int .i64 v4)), (68, V.sc (.int .i64 (i64 (v4 + 1)))), (69, V.ep 0 11 ((i64 (v4 + 1)).toNat) 0), (70, V.agg [V.sc (.string x3.Id), V.sc (.int .i64 x3.Limit), V.sc (.int .i64 x3.Posted), V.sc (.int .i64 x3.Most), V.sc (.int .i64 x3.MostSum), V.ow 5, V.sc (.int .i64 x3.Ring.Span), V.sc (.int .i64 x3.Ring.Head), V.ow 6, V.ow 7, V.ow 8]), (71, V.ow 0), (72, V.sc (.int .i64 v4)), (73, V.ep 0 11 v4.toNat 0), (74, V.agg [V.sc (.string x4.Id), V.sc (.int .i64 x4.Limit), V.sc (.int .i64 x4.Posted), V.sc (.int .i64 x4.Most), V.sc (.int .i64 x4.MostSum), V.ow 1, V.sc (.int .i64 x4.Ring.Span), V.sc (.int .i64 x4.Ring.Head), V.ow 2, V.ow 3, V.ow 4]), (75, V.ep 0 11 v4.toNat 0), (76, V.ep 0 11 ((i64 (v4 + 1)).toNat) 0)] [Blk.row 29 (List.map E29 v5) [((i64 (v4 + 1)).toNat, V.agg [V.sc (.string x4.Id), V.sc (.int .i64 x4.Limit), V.sc (.int .i64 x4.Posted), V.sc (.int .i64 x4.Most), V.sc (.int .i64 x4.MostSum), V.ow 1, V.sc (.int .i64 x4.Ring.Span), V.sc (.int .i64 x4.Ring.Head), V.ow 2, V.ow 3, V.ow 4]), (v4.toNat, V.agg [V.sc (.string x3.Id), V.sc (.int .i64 x3.Limit), V.sc (.int .i64 x3.Posted), V.sc (.int .i64 x3.Most), V.sc (.int .i64 x3.MostSum), V.ow 5, V.sc (.int .i64 x3.Ring.Span), V.sc (.int .i64 x3.Ring.Head), V.ow 6, V.ow 7, V.ow 8])], Blk.row 36 (List.map E36 x4.Holds) [], Blk.row 3 (List.map E3 x4.Ring.Counts) [], Blk.row 3 (List.map E3 x4.Ring.Sums) [], Blk.row 164 (List.map E164 x4.Slots) [], Blk.row 36 (List.map E36 x3.Holds) [], Blk.row 3 (List.map E3 x3.Ring.Counts) [], Blk.row 3 (List.map E3 x3.Ring.Sums) [], Blk.row 164 (List.map E164 x3.Slots) []] [some 0]
def slices_symMergeCmpFunc_impl_Acct_impl_Gather_1_s4 (r9 : Int × (List Acct)) (v9 : Int) (x7 : Acct) (x8 : Acct) (v10 : List Acct) : St := st 220 [(0, V.ow 0), (14, V.sc (.int .i64 r9.1)), (17, V.sc (.int .i64 v9)), (113, V.ow 0), (114, V.sc (.int .i64 v9)), (115, V.ow 0), (116, V.sc (.int .i64 v9)), (117, V.sc (.int .i64 (i64 (v9 - 1)))), (118, V.ow 0), (119, V.sc (.int .i64 v9)), (120, V.sc (.int .i64 (i64 (v9 - 1)))), (121, V.ep 0 11 ((i64 (v9 - 1)).toNat) 0), (122, V.agg [V.sc (.string x7.Id), V.sc (.int .i64 x7.Limit), V.sc (.int .i64 x7.Posted), V.sc (.int .i64 x7.Most), V.sc (.int .i64 x7.MostSum), V.ow 5, V.sc (.int .i64 x7.Ring.Span), V.sc (.int .i64 x7.Ring.Head), V.ow 6, V.ow 7, V.ow 8]), (123, V.ow 0), (124, V.sc (.int .i64 v9)), (125, V.ep 0 11 v9.toNat 0), (126, V.agg [V.sc (.string x8.Id), V.sc (.int .i64 x8.Limit), V.sc (.int .i64 x8.Posted), V.sc (.int .i64 x8.Most), V.sc (.int .i64 x8.MostSum), V.ow 1, V.sc (.int .i64 x8.Ring.Span), V.sc (.int .i64 x8.Ring.Head), V.ow 2, V.ow 3, V.ow 4]), (127, V.ep 0 11 v9.toNat 0), (128, V.ep 0 11 ((i64 (v9 - 1)).toNat) 0)] [Blk.row 29 (List.map E29 v10) [((i64 (v9 - 1)).toNat, V.agg [V.sc (.string x8.Id), V.sc (.int .i64 x8.Limit), V.sc (.int .i64 x8.Posted), V.sc (.int .i64 x8.Most), V.sc (.int .i64 x8.MostSum), V.ow 1, V.sc (.int .i64 x8.Ring.Span), V.sc (.int .i64 x8.Ring.Head), V.ow 2, V.ow 3, V.ow 4]), (v9.toNat, V.agg [V.sc (.string x7.Id), V.sc (.int .i64 x7.Limit), V.sc (.int .i64 x7.Posted), V.sc (.int .i64 x7.Most), V.sc (.int .i64 x7.MostSum), V.ow 5, V.sc (.int .i64 x7.Ring.Span), V.sc (.int .i64 x7.Ring.Head), V.ow 6, V.ow 7, V.ow 8])], Blk.row 36 (List.map E36 x8.Holds) [], Blk.row 3 (List.map E3 x8.Ring.Counts) [], Blk.row 3 (List.map E3 x8.Ring.Sums) [], Blk.row 164 (List.map E164 x8.Slots) [], Blk.row 36 (List.map E36 x7.Holds) [], Blk.row 3 (List.map E3 x7.Ring.Counts) [], Blk.row 3 (List.map E3 x7.Ring.Sums) [], Blk.row 164 (List.map E164 x7.Slots) []] [some 0]
def slices_symMergeCmpFunc_impl_Acct_impl_Gather_1_c2 (o_ : Int) (v1 : Int) (v2 : Int) (v3 : List Acct) : Option (Lo Unit Unit) :=
 if (decide (v1 < v2)) = true then
 some (.out ())
 else
 some (.ret ())
theorem slices_symMergeCmpFunc_impl_Acct_impl_Gather_1_c2_ok (o_ : Int) (v1 : Int) (v2 : Int) (v3 : List Acct) : Pn (JnO Try.prog (sub (codeOf Try.prog 192) [0, 1, 0, 1, 1, 0, 0, 0, 0]) (st 220 [(0, V.ow 0), (1, V.sc (.int .i64 o_)), (4, V.fn 90 []), (10, V.sc (.int .i64 v1)), (11, V.sc (.int .i64 v2))] [Blk.row 29 (List.map E29 v3) []] [some 0]) (fun (y : Lo Unit Unit) => Lo.elim y (fun s => (X.go, st 220 [(0, V.ow 0), (1, V.sc (.int .i64 o_)), (4, V.fn 90 []), (10, V.sc (.int .i64 v1)), (11, V.sc (.int .i64 v2))] [Blk.row 29 (List.map E29 v3) []] [some 0])) (fun s => (X.out 0, st 220 [(0, V.ow 0), (1, V.sc (.int .i64 o_)), (10, V.sc (.int .i64 v1))] [Blk.row 29 (List.map E29 v3) []] [some 0])))) (slices_symMergeCmpFunc_impl_Acct_impl_Gather_1_c2 o_ v1 v2 v3) := by
  unfold slices_symMergeCmpFunc_impl_Acct_impl_Gather_1_c2
  exact
   Pn.ite (fun h2 =>
   Pn.some (JnO.of [.bit true, .mask [0, 1, 4, 10, 11], .ren [0]] (p := [(decide (v1 < v2)) = true]) (by kernel_rfl) (cj1 h2))) (fun h2 =>
   Pn.some (JnO.of [.bit false, .mask [0, 1, 10], .ren [0]] (p := [(decide (v1 < v2)) = false]) (by kernel_rfl) (cj1 h2)))
def slices_symMergeCmpFunc_impl_Acct_impl_Gather_1_l0 (o_ : Int) : Nat → Int → Int → (List Acct) → Option (Int × (List Acct))
  | 0, _, _, _ => none
  | fuel + 1, v1, v2, v3 =>
   (slices_symMergeCmpFunc_impl_Acct_impl_Gather_1_c2 o_ v1 v2 v3).bind fun r1 =>
   Lo.elim r1 (fun s1 =>
   if (decide (0 ≤ (i64 (bshr .u64 (u64 (i64 (v1 + v2))) 1)))) = true then
   (v3[(i64 (bshr .u64 (u64 (i64 (v1 + v2))) 1)).toNat]?).bind fun x1 =>
   if (decide (0 ≤ o_)) = true then
   (v3[o_.toNat]?).bind fun x2 =>
   if (decide (¬ o_.toNat = ((i64 (bshr .u64 (u64 (i64 (v1 + v2))) 1)).toNat))) = true then
   (impl_Gather_1 x1 x2).bind fun r2 =>
   if (decide (r2 < 0)) = true then
   slices_symMergeCmpFunc_impl_Acct_impl_Gather_1_l0 o_ fuel (i64 ((i64 (bshr .u64 (u64 (i64 (v1 + v2))) 1)) + 1)) v2 ((v3.set ((i64 (bshr .u64 (u64 (i64 (v1 + v2))) 1)).toNat) x1).set o_.toNat x2)
   else
   slices_symMergeCmpFunc_impl_Acct_impl_Gather_1_l0 o_ fuel v1 (i64 (bshr .u64 (u64 (i64 (v1 + v2))) 1)) ((v3.set ((i64 (bshr .u64 (u64 (i64 (v1 + v2))) 1)).toNat) x1).set o_.toNat x2)
   else none
   else none
   else none) (fun s2 =>
   some (v1, v3))
theorem slices_symMergeCmpFunc_impl_Acct_impl_Gather_1_l0_ok (o_ : Int) : ∀ (fuel : Nat) (v1 : Int) (v2 : Int) (v3 : List Acct), Pn (LpO Try.prog (sub (codeOf Try.prog 192) [0, 1, 0, 1, 1, 0, 0, 0]) (st 220 [(0, V.ow 0), (1, V.sc (.int .i64 o_)), (4, V.fn 90 []), (10, V.sc (.int .i64 v1)), (11, V.sc (.int .i64 v2))] [Blk.row 29 (List.map E29 v3) []] [some 0]) (fun (y : Int × (List Acct)) => (X.out 0, st 220 [(0, V.ow 0), (1, V.sc (.int .i64 o_)), (10, V.sc (.int .i64 y.1))] [Blk.row 29 (List.map E29 y.2) []] [some 0]))) (slices_symMergeCmpFunc_impl_Acct_impl_Gather_1_l0 o_ fuel v1 v2 v3)
  | 0, _, _, _ => Pn.none
  | fuel + 1, v1, v2, v3 => by
    unfold slices_symMergeCmpFunc_impl_Acct_impl_Gather_1_l0
    exact
     Pn.bind (fun r1 h3 =>
     Pn.lo (fun s1 h4 =>
     Pn.ite (fun h6 =>
     Pn.bind (fun x1 h7 =>
     Pn.ite (fun h8 =>
     Pn.bind (fun x2 h9 =>
     Pn.ite (fun h10 =>
     Pn.bind (fun r2 h11 =>
     Pn.ite (fun h12 =>
     LpO.go [.wait 1, .mask [0, 1, 4, 10, 11], .ren [0], .join 5 (X.go) (st 220 [(0, V.ow 0), (1, V.sc (.int .i64 o_)), (4, V.fn 90 []), (10, V.sc (.int .i64 v1)), (11, V.sc (.int .i64 v2))] [Blk.row 29 (List.map E29 v3) []] [some 0]), .draw [], .wait 3, .foc 0 ((i64 (bshr .u64 (u64 (i64 (v1 + v2))) 1)).toNat) (E29 x1), .fo 0, .wait 3, .foc 0 o_.toNat (E29 x2), .fo 0, .call [] (E3 r2) [], .bit true, .wait 3, .shut 0, .nb 0 (.row 29 (List.map E29 ((v3.set ((i64 (bshr .u64 (u64 (i64 (v1 + v2))) 1)).toNat) x1).set o_.toNat x2)) []), .mask [0, 1, 4, 10, 11], .ren [0]] (p := [HT Try.prog (sub (codeOf Try.prog 192) [0, 1, 0, 1, 1, 0, 0, 0, 0]) (st 220 [(0, V.ow 0), (1, V.sc (.int .i64 o_)), (4, V.fn 90 []), (10, V.sc (.int .i64 v1)), (11, V.sc (.int .i64 v2))] [Blk.row 29 (List.map E29 v3) []] [some 0]) (X.go) (st 220 [(0, V.ow 0), (1, V.sc (.int .i64 o_)), (4, V.fn 90 []), (10, V.sc (.int .i64 v1)), (11, V.sc (.int .i64 v2))] [Blk.row 29 (List.map E29 v3) []] [some 0]),
      ¬ (1 : Int) < 0,
      (0 : Int) ≤ (i64 (bshr .u64 (u64 (i64 (v1 + v2))) 1)),
      ((i64 (bshr .u64 (u64 (i64 (v1 + v2))) 1)) : Int) < ((List.map E29 v3).length : Int),
      look [] ((i64 (bshr .u64 (u64 (i64 (v1 + v2))) 1)).toNat) = none,
      (List.map E29 v3)[(i64 (bshr .u64 (u64 (i64 (v1 + v2))) 1)).toNat]? = some (E29 x1),
      look [((i64 (bshr .u64 (u64 (i64 (v1 + v2))) 1)).toNat, V.agg [V.sc (.string x1.Id), V.sc (.int .i64 x1.Limit), V.sc (.int .i64 x1.Posted), V.sc (.int .i64 x1.Most), V.sc (.int .i64 x1.MostSum), V.ow 1, V.sc (.int .i64 x1.Ring.Span), V.sc (.int .i64 x1.Ring.Head), V.ow 2, V.ow 3, V.ow 4])] ((i64 (bshr .u64 (u64 (i64 (v1 + v2))) 1)).toNat) = some (V.agg [V.sc (.string x1.Id), V.sc (.int .i64 x1.Limit), V.sc (.int .i64 x1.Posted), V.sc (.int .i64 x1.Most), V.sc (.int .i64 x1.MostSum), V.ow 1, V.sc (.int .i64 x1.Ring.Span), V.sc (.int .i64 x1.Ring.Head), V.ow 2, V.ow 3, V.ow 4]),
      ((i64 (bshr .u64 (u64 (i64 (v1 + v2))) 1)).toNat) < (List.map E29 v3).length,
      (0 : Int) ≤ o_,
      (o_ : Int) < ((List.map E29 v3).length : Int),
      look [((i64 (bshr .u64 (u64 (i64 (v1 + v2))) 1)).toNat, V.agg [V.sc (.string x1.Id), V.sc (.int .i64 x1.Limit), V.sc (.int .i64 x1.Posted), V.sc (.int .i64 x1.Most), V.sc (.int .i64 x1.MostSum), V.ow 1, V.sc (.int .i64 x1.Ring.Span), V.sc (.int .i64 x1.Ring.Head), V.ow 2, V.ow 3, V.ow 4])] o_.toNat = none,
      (List.map E29 v3)[o_.toNat]? = some (E29 x2),
      look [(o_.toNat, V.agg [V.sc (.string x2.Id), V.sc (.int .i64 x2.Limit), V.sc (.int .i64 x2.Posted), V.sc (.int .i64 x2.Most), V.sc (.int .i64 x2.MostSum), V.ow 5, V.sc (.int .i64 x2.Ring.Span), V.sc (.int .i64 x2.Ring.Head), V.ow 6, V.ow 7, V.ow 8]), ((i64 (bshr .u64 (u64 (i64 (v1 + v2))) 1)).toNat, V.agg [V.sc (.string x1.Id), V.sc (.int .i64 x1.Limit), V.sc (.int .i64 x1.Posted), V.sc (.int .i64 x1.Most), V.sc (.int .i64 x1.MostSum), V.ow 1, V.sc (.int .i64 x1.Ring.Span), V.sc (.int .i64 x1.Ring.Head), V.ow 2, V.ow 3, V.ow 4])] o_.toNat = some (V.agg [V.sc (.string x2.Id), V.sc (.int .i64 x2.Limit), V.sc (.int .i64 x2.Posted), V.sc (.int .i64 x2.Most), V.sc (.int .i64 x2.MostSum), V.ow 5, V.sc (.int .i64 x2.Ring.Span), V.sc (.int .i64 x2.Ring.Head), V.ow 6, V.ow 7, V.ow 8]),
      o_.toNat < (List.map E29 v3).length,
      Fn Try.prog 90 [(false, E29 x1), (false, E29 x2)] (E3 r2) [],
      (false || ((E3 r2).nv && nvL [])) = true,
      (decide (r2 < 0)) = true,
      Blk.row 29 (((List.map E29 v3).set ((i64 (bshr .u64 (u64 (i64 (v1 + v2))) 1)).toNat) (V.agg [V.sc (.string x1.Id), V.sc (.int .i64 x1.Limit), V.sc (.int .i64 x1.Posted), V.sc (.int .i64 x1.Most), V.sc (.int .i64 x1.MostSum), V.sl true 36 (List.map E36 x1.Holds), V.sc (.int .i64 x1.Ring.Span), V.sc (.int .i64 x1.Ring.Head), V.sl true 3 (List.map E3 x1.Ring.Counts), V.sl true 3 (List.map E3 x1.Ring.Sums), V.sl true 164 (List.map E164 x1.Slots)])).set o_.toNat (V.agg [V.sc (.string x2.Id), V.sc (.int .i64 x2.Limit), V.sc (.int .i64 x2.Posted), V.sc (.int .i64 x2.Most), V.sc (.int .i64 x2.MostSum), V.sl true 36 (List.map E36 x2.Holds), V.sc (.int .i64 x2.Ring.Span), V.sc (.int .i64 x2.Ring.Head), V.sl true 3 (List.map E3 x2.Ring.Counts), V.sl true 3 (List.map E3 x2.Ring.Sums), V.sl true 164 (List.map E164 x2.Slots)])) [] = Blk.row 29 (List.map E29 ((v3.set ((i64 (bshr .u64 (u64 (i64 (v1 + v2))) 1)).toNat) x1).set o_.toNat x2)) []]) (by kernel_rfl) (cj ((slices_symMergeCmpFunc_impl_Acct_impl_Gather_1_c2_ok o_ v1 v2 v3 r1 h3).at h4) (cj (by decide) (cj (od h6) (cj (map_ltN (od h6) h7) (cj rfl (cj (map_get h7) (cj (look_cons_self _ _ _) (cj (map_lt h7) (cj (od h8) (cj (map_ltN (od h8) h9) (cj ((look_cons_ne _ _ (od h10)).trans rfl) (cj (map_get h9) (cj (look_cons_self _ _ _) (cj (map_lt h9) (cj (impl_Gather_1_ok x1 x2 r2 h11) (cj (by simp [V.nv, nvL, nvL_all, nv_E3]) (cj h12 (cj1 (nb_set2 E29 _ _ x1 _ x2))))))))))))))))))) (slices_symMergeCmpFunc_impl_Acct_impl_Gather_1_l0_ok o_ fuel (i64 ((i64 (bshr .u64 (u64 (i64 (v1 + v2))) 1)) + 1)) v2 ((v3.set ((i64 (bshr .u64 (u64 (i64 (v1 + v2))) 1)).toNat) x1).set o_.toNat x2))) (fun h12 =>
     LpO.go [.wait 1, .mask [0, 1, 4, 10, 11], .ren [0], .join 5 (X.go) (st 220 [(0, V.ow 0), (1, V.sc (.int .i64 o_)), (4, V.fn 90 []), (10, V.sc (.int .i64 v1)), (11, V.sc (.int .i64 v2))] [Blk.row 29 (List.map E29 v3) []] [some 0]), .draw [], .wait 3, .foc 0 ((i64 (bshr .u64 (u64 (i64 (v1 + v2))) 1)).toNat) (E29 x1), .fo 0, .wait 3, .foc 0 o_.toNat (E29 x2), .fo 0, .call [] (E3 r2) [], .bit false, .wait 2, .shut 0, .nb 0 (.row 29 (List.map E29 ((v3.set ((i64 (bshr .u64 (u64 (i64 (v1 + v2))) 1)).toNat) x1).set o_.toNat x2)) []), .mask [0, 1, 4, 10, 11], .ren [0]] (p := [HT Try.prog (sub (codeOf Try.prog 192) [0, 1, 0, 1, 1, 0, 0, 0, 0]) (st 220 [(0, V.ow 0), (1, V.sc (.int .i64 o_)), (4, V.fn 90 []), (10, V.sc (.int .i64 v1)), (11, V.sc (.int .i64 v2))] [Blk.row 29 (List.map E29 v3) []] [some 0]) (X.go) (st 220 [(0, V.ow 0), (1, V.sc (.int .i64 o_)), (4, V.fn 90 []), (10, V.sc (.int .i64 v1)), (11, V.sc (.int .i64 v2))] [Blk.row 29 (List.map E29 v3) []] [some 0]),
      ¬ (1 : Int) < 0,
      (0 : Int) ≤ (i64 (bshr .u64 (u64 (i64 (v1 + v2))) 1)),
      ((i64 (bshr .u64 (u64 (i64 (v1 + v2))) 1)) : Int) < ((List.map E29 v3).length : Int),
      look [] ((i64 (bshr .u64 (u64 (i64 (v1 + v2))) 1)).toNat) = none,
      (List.map E29 v3)[(i64 (bshr .u64 (u64 (i64 (v1 + v2))) 1)).toNat]? = some (E29 x1),
      look [((i64 (bshr .u64 (u64 (i64 (v1 + v2))) 1)).toNat, V.agg [V.sc (.string x1.Id), V.sc (.int .i64 x1.Limit), V.sc (.int .i64 x1.Posted), V.sc (.int .i64 x1.Most), V.sc (.int .i64 x1.MostSum), V.ow 1, V.sc (.int .i64 x1.Ring.Span), V.sc (.int .i64 x1.Ring.Head), V.ow 2, V.ow 3, V.ow 4])] ((i64 (bshr .u64 (u64 (i64 (v1 + v2))) 1)).toNat) = some (V.agg [V.sc (.string x1.Id), V.sc (.int .i64 x1.Limit), V.sc (.int .i64 x1.Posted), V.sc (.int .i64 x1.Most), V.sc (.int .i64 x1.MostSum), V.ow 1, V.sc (.int .i64 x1.Ring.Span), V.sc (.int .i64 x1.Ring.Head), V.ow 2, V.ow 3, V.ow 4]),
      ((i64 (bshr .u64 (u64 (i64 (v1 + v2))) 1)).toNat) < (List.map E29 v3).length,
      (0 : Int) ≤ o_,
      (o_ : Int) < ((List.map E29 v3).length : Int),
      look [((i64 (bshr .u64 (u64 (i64 (v1 + v2))) 1)).toNat, V.agg [V.sc (.string x1.Id), V.sc (.int .i64 x1.Limit), V.sc (.int .i64 x1.Posted), V.sc (.int .i64 x1.Most), V.sc (.int .i64 x1.MostSum), V.ow 1, V.sc (.int .i64 x1.Ring.Span), V.sc (.int .i64 x1.Ring.Head), V.ow 2, V.ow 3, V.ow 4])] o_.toNat = none,
      (List.map E29 v3)[o_.toNat]? = some (E29 x2),
      look [(o_.toNat, V.agg [V.sc (.string x2.Id), V.sc (.int .i64 x2.Limit), V.sc (.int .i64 x2.Posted), V.sc (.int .i64 x2.Most), V.sc (.int .i64 x2.MostSum), V.ow 5, V.sc (.int .i64 x2.Ring.Span), V.sc (.int .i64 x2.Ring.Head), V.ow 6, V.ow 7, V.ow 8]), ((i64 (bshr .u64 (u64 (i64 (v1 + v2))) 1)).toNat, V.agg [V.sc (.string x1.Id), V.sc (.int .i64 x1.Limit), V.sc (.int .i64 x1.Posted), V.sc (.int .i64 x1.Most), V.sc (.int .i64 x1.MostSum), V.ow 1, V.sc (.int .i64 x1.Ring.Span), V.sc (.int .i64 x1.Ring.Head), V.ow 2, V.ow 3, V.ow 4])] o_.toNat = some (V.agg [V.sc (.string x2.Id), V.sc (.int .i64 x2.Limit), V.sc (.int .i64 x2.Posted), V.sc (.int .i64 x2.Most), V.sc (.int .i64 x2.MostSum), V.ow 5, V.sc (.int .i64 x2.Ring.Span), V.sc (.int .i64 x2.Ring.Head), V.ow 6, V.ow 7, V.ow 8]),
      o_.toNat < (List.map E29 v3).length,
      Fn Try.prog 90 [(false, E29 x1), (false, E29 x2)] (E3 r2) [],
      (false || ((E3 r2).nv && nvL [])) = true,
      (decide (r2 < 0)) = false,
      Blk.row 29 (((List.map E29 v3).set ((i64 (bshr .u64 (u64 (i64 (v1 + v2))) 1)).toNat) (V.agg [V.sc (.string x1.Id), V.sc (.int .i64 x1.Limit), V.sc (.int .i64 x1.Posted), V.sc (.int .i64 x1.Most), V.sc (.int .i64 x1.MostSum), V.sl true 36 (List.map E36 x1.Holds), V.sc (.int .i64 x1.Ring.Span), V.sc (.int .i64 x1.Ring.Head), V.sl true 3 (List.map E3 x1.Ring.Counts), V.sl true 3 (List.map E3 x1.Ring.Sums), V.sl true 164 (List.map E164 x1.Slots)])).set o_.toNat (V.agg [V.sc (.string x2.Id), V.sc (.int .i64 x2.Limit), V.sc (.int .i64 x2.Posted), V.sc (.int .i64 x2.Most), V.sc (.int .i64 x2.MostSum), V.sl true 36 (List.map E36 x2.Holds), V.sc (.int .i64 x2.Ring.Span), V.sc (.int .i64 x2.Ring.Head), V.sl true 3 (List.map E3 x2.Ring.Counts), V.sl true 3 (List.map E3 x2.Ring.Sums), V.sl true 164 (List.map E164 x2.Slots)])) [] = Blk.row 29 (List.map E29 ((v3.set ((i64 (bshr .u64 (u64 (i64 (v1 + v2))) 1)).toNat) x1).set o_.toNat x2)) []]) (by kernel_rfl) (cj ((slices_symMergeCmpFunc_impl_Acct_impl_Gather_1_c2_ok o_ v1 v2 v3 r1 h3).at h4) (cj (by decide) (cj (od h6) (cj (map_ltN (od h6) h7) (cj rfl (cj (map_get h7) (cj (look_cons_self _ _ _) (cj (map_lt h7) (cj (od h8) (cj (map_ltN (od h8) h9) (cj ((look_cons_ne _ _ (od h10)).trans rfl) (cj (map_get h9) (cj (look_cons_self _ _ _) (cj (map_lt h9) (cj (impl_Gather_1_ok x1 x2 r2 h11) (cj (by simp [V.nv, nvL, nvL_all, nv_E3]) (cj h12 (cj1 (nb_set2 E29 _ _ x1 _ x2))))))))))))))))))) (slices_symMergeCmpFunc_impl_Acct_impl_Gather_1_l0_ok o_ fuel v1 (i64 (bshr .u64 (u64 (i64 (v1 + v2))) 1)) ((v3.set ((i64 (bshr .u64 (u64 (i64 (v1 + v2))) 1)).toNat) x1).set o_.toNat x2))))) (fun h10 =>
     Pn.none))) (fun h8 =>
     Pn.none))) (fun h6 =>
     Pn.none)) (fun s2 h5 =>
     Pn.some (LpO.out [.wait 1, .mask [0, 1, 4, 10, 11], .ren [0], .join 5 (X.out 0) (st 220 [(0, V.ow 0), (1, V.sc (.int .i64 o_)), (10, V.sc (.int .i64 v1))] [Blk.row 29 (List.map E29 v3) []] [some 0]), .wait 1, .mask [0, 1, 10], .ren [0]] (p := [HT Try.prog (sub (codeOf Try.prog 192) [0, 1, 0, 1, 1, 0, 0, 0, 0]) (st 220 [(0, V.ow 0), (1, V.sc (.int .i64 o_)), (4, V.fn 90 []), (10, V.sc (.int .i64 v1)), (11, V.sc (.int .i64 v2))] [Blk.row 29 (List.map E29 v3) []] [some 0]) (X.out 0) (st 220 [(0, V.ow 0), (1, V.sc (.int .i64 o_)), (10, V.sc (.int .i64 v1))] [Blk.row 29 (List.map E29 v3) []] [some 0])]) (by kernel_rfl) (show X.out 0 ≠ X.go from nofun) (cj1 ((slices_symMergeCmpFunc_impl_Acct_impl_Gather_1_c2_ok o_ v1 v2 v3 r1 h3).at h5)))))
def slices_symMergeCmpFunc_impl_Acct_impl_Gather_1_c4 (r3 : Int × (List Acct)) (v4 : Int) (v5 : List Acct) : Option (Lo Unit Unit) :=
 if (decide (v4 < (i64 (r3.1 - 1)))) = true then
 some (.out ())
 else
 some (.ret ())
theorem slices_symMergeCmpFunc_impl_Acct_impl_Gather_1_c4_ok (r3 : Int × (List Acct)) (v4 : Int) (v5 : List Acct) : Pn (JnO Try.prog (sub (codeOf Try.prog 192) [0, 1, 0, 1, 1, 1, 0, 1, 0, 0, 0]) (st 220 [(0, V.ow 0), (10, V.sc (.int .i64 r3.1)), (13, V.sc (.int .i64 v4))] [Blk.row 29 (List.map E29 v5) []] [some 0]) (fun (y : Lo Unit Unit) => Lo.elim y (fun s => (X.go, st 220 [(0, V.ow 0), (10, V.sc (.int .i64 r3.1)), (13, V.sc (.int .i64 v4))] [Blk.row 29 (List.map E29 v5) []] [some 0])) (fun s => (X.out 2, st 220 [] [Blk.row 29 (List.map E29 v5) []] [some 0])))) (slices_symMergeCmpFunc_impl_Acct_impl_Gather_1_c4 r3 v4 v5) := by
  unfold slices_symMergeCmpFunc_impl_Acct_impl_Gather_1_c4
  exact
   Pn.ite (fun h14 =>
   Pn.some (JnO.of [.bit true, .mask [0, 10, 13], .ren [0]] (p := [(decide (v4 < (i64 (r3.1 - 1)))) = true]) (by kernel_rfl) (cj1 h14))) (fun h14 =>
   Pn.some (JnO.of [.bit false, .mask [], .ren [0]] (p := [(decide (v4 < (i64 (r3.1 - 1)))) = false]) (by kernel_rfl) (cj1 h14)))
def slices_symMergeCmpFunc_impl_Acct_impl_Gather_1_l1 (r3 : Int × (List Acct)) : Nat → Int → (List Acct) → Option ((List Acct))
  | 0, _, _ => none
  | fuel + 1, v4, v5 =>
   (slices_symMergeCmpFunc_impl_Acct_impl_Gather_1_c4 r3 v4 v5).bind fun r4 =>
   Lo.elim r4 (fun s3 =>
   if (decide (0 ≤ (i64 (v4 + 1)))) = true then
   (v5[(i64 (v4 + 1)).toNat]?).bind fun x3 =>
   if (decide (0 ≤ v4)) = true then
   (v5[v4.toNat]?).bind fun x4 =>
   if (decide (¬ v4.toNat = ((i64 (v4 + 1)).toNat))) = true then
   slices_symMergeCmpFunc_impl_Acct_impl_Gather_1_l1 r3 fuel (i64 (v4 + 1)) ((v5.set v4.toNat x3).set ((i64 (v4 + 1)).toNat) x4)
   else none
   else none
   else none) (fun s4 =>
   some v5)
theorem slices_symMergeCmpFunc_impl_Acct_impl_Gather_1_l1_ok (r3 : Int × (List Acct)) : ∀ (fuel : Nat) (v4 : Int) (v5 : List Acct), Pn (LpO Try.prog (sub (codeOf Try.prog 192) [0, 1, 0, 1, 1, 1, 0, 1, 0, 0]) (st 220 [(0, V.ow 0), (10, V.sc (.int .i64 r3.1)), (13, V.sc (.int .i64 v4))] [Blk.row 29 (List.map E29 v5) []] [some 0]) (fun (y : (List Acct)) => (X.out 2, st 220 [] [Blk.row 29 (List.map E29 y) []] [some 0]))) (slices_symMergeCmpFunc_impl_Acct_impl_Gather_1_l1 r3 fuel v4 v5)
  | 0, _, _ => Pn.none
  | fuel + 1, v4, v5 => by
    unfold slices_symMergeCmpFunc_impl_Acct_impl_Gather_1_l1
    exact
     Pn.bind (fun r4 h15 =>
     Pn.lo (fun s3 h16 =>
     Pn.ite (fun h18 =>
     Pn.bind (fun x3 h19 =>
     Pn.ite (fun h20 =>
     Pn.bind (fun x4 h21 =>
     Pn.ite (fun h22 =>
     LpO.go [.wait 1, .mask [0, 10, 13], .ren [0], .join 5 (X.go) (st 220 [(0, V.ow 0), (10, V.sc (.int .i64 r3.1)), (13, V.sc (.int .i64 v4))] [Blk.row 29 (List.map E29 v5) []] [some 0]), .draw [15, 17], .wait 5, .foc 0 ((i64 (v4 + 1)).toNat) (E29 x3), .fo 0, .wait 3, .foc 0 v4.toNat (E29 x4), .fo 0, .loop .go ((slices_symMergeCmpFunc_impl_Acct_impl_Gather_1_s2 r3 v4 x3 x4 v5)), .loop .go ((slices_symMergeCmpFunc_impl_Acct_impl_Gather_1_s2 r3 v4 x3 x4 v5)), .loop .go ((slices_symMergeCmpFunc_impl_Acct_impl_Gather_1_s2 r3 v4 x3 x4 v5)), .fo 0, .fo 1, .ren [0, 5, 6, 7, 8, 1, 2, 3, 4], .fo 0, .fo 1, .ren [0, 5, 6, 7, 8, 1, 2, 3, 4], .ren [0, 1, 2, 3, 4, 5, 6, 7, 8], .fo 0, .fo 1, .ren [0, 5, 6, 7, 8, 1, 2, 3, 4], .ren [0, 1, 2, 3, 4, 5, 6, 7, 8], .loop .go ((slices_symMergeCmpFunc_impl_Acct_impl_Gather_1_s2 r3 v4 x3 x4 v5)), .loop .go ((slices_symMergeCmpFunc_impl_Acct_impl_Gather_1_s2 r3 v4 x3 x4 v5)), .fo 0, .fo 1, .ren [0, 5, 6, 7, 8, 1, 2, 3, 4], .fo 0, .fo 1, .ren [0, 5, 6, 7, 8, 1, 2, 3, 4], .ren [0, 1, 2, 3, 4, 5, 6, 7, 8], .loop .go ((slices_symMergeCmpFunc_impl_Acct_impl_Gather_1_s2 r3 v4 x3 x4 v5)), .fo 0, .fo 1, .ren [0, 5, 6, 7, 8, 1, 2, 3, 4], .fo 0, .fo 1, .ren [0, 5, 6, 7, 8, 1, 2, 3, 4], .ren [0, 1, 2, 3, 4, 5, 6, 7, 8], .fo 0, .fo 1, .ren [0, 5, 6, 7, 8, 1, 2, 3, 4], .ren [0, 1, 2, 3, 4, 5, 6, 7, 8], .fo 0, .fo 1, .ren [0, 5, 6, 7, 8, 1, 2, 3, 4], .wait 4, .shut 0, .nb 0 (.row 29 (List.map E29 ((v5.set v4.toNat x3).set ((i64 (v4 + 1)).toNat) x4)) []), .mask [0, 10, 13], .ren [0]] (p := [HT Try.prog (sub (codeOf Try.prog 192) [0, 1, 0, 1, 1, 1, 0, 1, 0, 0, 0]) (st 220 [(0, V.ow 0), (10, V.sc (.int .i64 r3.1)), (13, V.sc (.int .i64 v4))] [Blk.row 29 (List.map E29 v5) []] [some 0]) (X.go) (st 220 [(0, V.ow 0), (10, V.sc (.int .i64 r3.1)), (13, V.sc (.int .i64 v4))] [Blk.row 29 (List.map E29 v5) []] [some 0]),
      (0 : Int) ≤ (i64 (v4 + 1)),
      ((i64 (v4 + 1)) : Int) < ((List.map E29 v5).length : Int),
      look [] ((i64 (v4 + 1)).toNat) = none,
      (List.map E29 v5)[(i64 (v4 + 1)).toNat]? = some (E29 x3),
      look [((i64 (v4 + 1)).toNat, V.agg [V.sc (.string x3.Id), V.sc (.int .i64 x3.Limit), V.sc (.int .i64 x3.Posted), V.sc (.int .i64 x3.Most), V.sc (.int .i64 x3.MostSum), V.ow 1, V.sc (.int .i64 x3.Ring.Span), V.sc (.int .i64 x3.Ring.Head), V.ow 2, V.ow 3, V.ow 4])] ((i64 (v4 + 1)).toNat) = some (V.agg [V.sc (.string x3.Id), V.sc (.int .i64 x3.Limit), V.sc (.int .i64 x3.Posted), V.sc (.int .i64 x3.Most), V.sc (.int .i64 x3.MostSum), V.ow 1, V.sc (.int .i64 x3.Ring.Span), V.sc (.int .i64 x3.Ring.Head), V.ow 2, V.ow 3, V.ow 4]),
      ((i64 (v4 + 1)).toNat) < (List.map E29 v5).length,
      (0 : Int) ≤ v4,
      (v4 : Int) < ((List.map E29 v5).length : Int),
      look [((i64 (v4 + 1)).toNat, V.agg [V.sc (.string x3.Id), V.sc (.int .i64 x3.Limit), V.sc (.int .i64 x3.Posted), V.sc (.int .i64 x3.Most), V.sc (.int .i64 x3.MostSum), V.ow 1, V.sc (.int .i64 x3.Ring.Span), V.sc (.int .i64 x3.Ring.Head), V.ow 2, V.ow 3, V.ow 4])] v4.toNat = none,
      (List.map E29 v5)[v4.toNat]? = some (E29 x4),
      look [(v4.toNat, V.agg [V.sc (.string x4.Id), V.sc (.int .i64 x4.Limit), V.sc (.int .i64 x4.Posted), V.sc (.int .i64 x4.Most), V.sc (.int .i64 x4.MostSum), V.ow 5, V.sc (.int .i64 x4.Ring.Span), V.sc (.int .i64 x4.Ring.Head), V.ow 6, V.ow 7, V.ow 8]), ((i64 (v4 + 1)).toNat, V.agg [V.sc (.string x3.Id), V.sc (.int .i64 x3.Limit), V.sc (.int .i64 x3.Posted), V.sc (.int .i64 x3.Most), V.sc (.int .i64 x3.MostSum), V.ow 1, V.sc (.int .i64 x3.Ring.Span), V.sc (.int .i64 x3.Ring.Head), V.ow 2, V.ow 3, V.ow 4])] v4.toNat = some (V.agg [V.sc (.string x4.Id), V.sc (.int .i64 x4.Limit), V.sc (.int .i64 x4.Posted), V.sc (.int .i64 x4.Most), V.sc (.int .i64 x4.MostSum), V.ow 5, V.sc (.int .i64 x4.Ring.Span), V.sc (.int .i64 x4.Ring.Head), V.ow 6, V.ow 7, V.ow 8]),
      v4.toNat < (List.map E29 v5).length,
      (0 : Int) ≤ v4,
      (v4 : Int) < ((List.map E29 v5).length : Int),
      look [(v4.toNat, V.agg [V.sc (.string x4.Id), V.sc (.int .i64 x4.Limit), V.sc (.int .i64 x4.Posted), V.sc (.int .i64 x4.Most), V.sc (.int .i64 x4.MostSum), V.ow 5, V.sc (.int .i64 x4.Ring.Span), V.sc (.int .i64 x4.Ring.Head), V.ow 6, V.ow 7, V.ow 8]), ((i64 (v4 + 1)).toNat, V.agg [V.sc (.string x3.Id), V.sc (.int .i64 x3.Limit), V.sc (.int .i64 x3.Posted), V.sc (.int .i64 x3.Most), V.sc (.int .i64 x3.MostSum), V.ow 1, V.sc (.int .i64 x3.Ring.Span), V.sc (.int .i64 x3.Ring.Head), V.ow 2, V.ow 3, V.ow 4])] v4.toNat = some (V.agg [V.sc (.string x4.Id), V.sc (.int .i64 x4.Limit), V.sc (.int .i64 x4.Posted), V.sc (.int .i64 x4.Most), V.sc (.int .i64 x4.MostSum), V.ow 5, V.sc (.int .i64 x4.Ring.Span), V.sc (.int .i64 x4.Ring.Head), V.ow 6, V.ow 7, V.ow 8]),
      v4.toNat < (List.map E29 v5).length,
      v4.toNat = v4.toNat,
      (0 : Int) ≤ (i64 (v4 + 1)),
      ((i64 (v4 + 1)) : Int) < ((List.map E29 v5).length : Int),
      look [(v4.toNat, V.agg [V.sc (.string x3.Id), V.sc (.int .i64 x3.Limit), V.sc (.int .i64 x3.Posted), V.sc (.int .i64 x3.Most), V.sc (.int .i64 x3.MostSum), V.ow 1, V.sc (.int .i64 x3.Ring.Span), V.sc (.int .i64 x3.Ring.Head), V.ow 2, V.ow 3, V.ow 4]), ((i64 (v4 + 1)).toNat, V.agg [V.sc (.string x3.Id), V.sc (.int .i64 x3.Limit), V.sc (.int .i64 x3.Posted), V.sc (.int .i64 x3.Most), V.sc (.int .i64 x3.MostSum), V.ow 1, V.sc (.int .i64 x3.Ring.Span), V.sc (.int .i64 x3.Ring.Head), V.ow 2, V.ow 3, V.ow 4])] ((i64 (v4 + 1)).toNat) = some (V.agg [V.sc (.string x3.Id), V.sc (.int .i64 x3.Limit), V.sc (.int .i64 x3.Posted), V.sc (.int .i64 x3.Most), V.sc (.int .i64 x3.MostSum), V.ow 1, V.sc (.int .i64 x3.Ring.Span), V.sc (.int .i64 x3.Ring.Head), V.ow 2, V.ow 3, V.ow 4]),
      ((i64 (v4 + 1)).toNat) < (List.map E29 v5).length,
      ((i64 (v4 + 1)).toNat) = ((i64 (v4 + 1)).toNat),
      (slices_symMergeCmpFunc_impl_Acct_impl_Gather_1_s2 r3 v4 x3 x4 v5) = (slices_symMergeCmpFunc_impl_Acct_impl_Gather_1_s2 r3 v4 x3 x4 v5),
      look [(v4.toNat, V.agg [V.sc (.string x4.Id), V.sc (.int .i64 x4.Limit), V.sc (.int .i64 x4.Posted), V.sc (.int .i64 x4.Most), V.sc (.int .i64 x4.MostSum), V.ow 5, V.sc (.int .i64 x4.Ring.Span), V.sc (.int .i64 x4.Ring.Head), V.ow 6, V.ow 7, V.ow 8]), ((i64 (v4 + 1)).toNat, V.agg [V.sc (.string x3.Id), V.sc (.int .i64 x3.Limit), V.sc (.int .i64 x3.Posted), V.sc (.int .i64 x3.Most), V.sc (.int .i64 x3.MostSum), V.ow 1, V.sc (.int .i64 x3.Ring.Span), V.sc (.int .i64 x3.Ring.Head), V.ow 2, V.ow 3, V.ow 4])] v4.toNat = some (V.agg [V.sc (.string x4.Id), V.sc (.int .i64 x4.Limit), V.sc (.int .i64 x4.Posted), V.sc (.int .i64 x4.Most), V.sc (.int .i64 x4.MostSum), V.ow 5, V.sc (.int .i64 x4.Ring.Span), V.sc (.int .i64 x4.Ring.Head), V.ow 6, V.ow 7, V.ow 8]),
      v4.toNat < (List.map E29 v5).length,
      v4.toNat = v4.toNat,
      (0 : Int) ≤ (i64 (v4 + 1)),
      ((i64 (v4 + 1)) : Int) < ((List.map E29 v5).length : Int),
      look [(v4.toNat, V.agg [V.sc (.string x3.Id), V.sc (.int .i64 x3.Limit), V.sc (.int .i64 x3.Posted), V.sc (.int .i64 x3.Most), V.sc (.int .i64 x3.MostSum), V.ow 1, V.sc (.int .i64 x3.Ring.Span), V.sc (.int .i64 x3.Ring.Head), V.ow 2, V.ow 3, V.ow 4]), ((i64 (v4 + 1)).toNat, V.agg [V.sc (.string x3.Id), V.sc (.int .i64 x3.Limit), V.sc (.int .i64 x3.Posted), V.sc (.int .i64 x3.Most), V.sc (.int .i64 x3.MostSum), V.ow 1, V.sc (.int .i64 x3.Ring.Span), V.sc (.int .i64 x3.Ring.Head), V.ow 2, V.ow 3, V.ow 4])] ((i64 (v4 + 1)).toNat) = some (V.agg [V.sc (.string x3.Id), V.sc (.int .i64 x3.Limit), V.sc (.int .i64 x3.Posted), V.sc (.int .i64 x3.Most), V.sc (.int .i64 x3.MostSum), V.ow 1, V.sc (.int .i64 x3.Ring.Span), V.sc (.int .i64 x3.Ring.Head), V.ow 2, V.ow 3, V.ow 4]),
      ((i64 (v4 + 1)).toNat) < (List.map E29 v5).length,
      ((i64 (v4 + 1)).toNat) = ((i64 (v4 + 1)).toNat),
      (slices_symMergeCmpFunc_impl_Acct_impl_Gather_1_s2 r3 v4 x3 x4 v5) = (slices_symMergeCmpFunc_impl_Acct_impl_Gather_1_s2 r3 v4 x3 x4 v5),
      (slices_symMergeCmpFunc_impl_Acct_impl_Gather_1_s2 r3 v4 x3 x4 v5) = (slices_symMergeCmpFunc_impl_Acct_impl_Gather_1_s2 r3 v4 x3 x4 v5),
      look [(v4.toNat, V.agg [V.sc (.string x4.Id), V.sc (.int .i64 x4.Limit), V.sc (.int .i64 x4.Posted), V.sc (.int .i64 x4.Most), V.sc (.int .i64 x4.MostSum), V.ow 5, V.sc (.int .i64 x4.Ring.Span), V.sc (.int .i64 x4.Ring.Head), V.ow 6, V.ow 7, V.ow 8]), ((i64 (v4 + 1)).toNat, V.agg [V.sc (.string x3.Id), V.sc (.int .i64 x3.Limit), V.sc (.int .i64 x3.Posted), V.sc (.int .i64 x3.Most), V.sc (.int .i64 x3.MostSum), V.ow 1, V.sc (.int .i64 x3.Ring.Span), V.sc (.int .i64 x3.Ring.Head), V.ow 2, V.ow 3, V.ow 4])] v4.toNat = some (V.agg [V.sc (.string x4.Id), V.sc (.int .i64 x4.Limit), V.sc (.int .i64 x4.Posted), V.sc (.int .i64 x4.Most), V.sc (.int .i64 x4.MostSum), V.ow 5, V.sc (.int .i64 x4.Ring.Span), V.sc (.int .i64 x4.Ring.Head), V.ow 6, V.ow 7, V.ow 8]),
      v4.toNat < (List.map E29 v5).length,
      v4.toNat = v4.toNat,
      (0 : Int) ≤ (i64 (v4 + 1)),
      ((i64 (v4 + 1)) : Int) < ((List.map E29 v5).length : Int),
      look [(v4.toNat, V.agg [V.sc (.string x3.Id), V.sc (.int .i64 x3.Limit), V.sc (.int .i64 x3.Posted), V.sc (.int .i64 x3.Most), V.sc (.int .i64 x3.MostSum), V.ow 1, V.sc (.int .i64 x3.Ring.Span), V.sc (.int .i64 x3.Ring.Head), V.ow 2, V.ow 3, V.ow 4]), ((i64 (v4 + 1)).toNat, V.agg [V.sc (.string x3.Id), V.sc (.int .i64 x3.Limit), V.sc (.int .i64 x3.Posted), V.sc (.int .i64 x3.Most), V.sc (.int .i64 x3.MostSum), V.ow 1, V.sc (.int .i64 x3.Ring.Span), V.sc (.int .i64 x3.Ring.Head), V.ow 2, V.ow 3, V.ow 4])] ((i64 (v4 + 1)).toNat) = some (V.agg [V.sc (.string x3.Id), V.sc (.int .i64 x3.Limit), V.sc (.int .i64 x3.Posted), V.sc (.int .i64 x3.Most), V.sc (.int .i64 x3.MostSum), V.ow 1, V.sc (.int .i64 x3.Ring.Span), V.sc (.int .i64 x3.Ring.Head), V.ow 2, V.ow 3, V.ow 4]),
      ((i64 (v4 + 1)).toNat) < (List.map E29 v5).length,
      ((i64 (v4 + 1)).toNat) = ((i64 (v4 + 1)).toNat),
      (slices_symMergeCmpFunc_impl_Acct_impl_Gather_1_s2 r3 v4 x3 x4 v5) = (slices_symMergeCmpFunc_impl_Acct_impl_Gather_1_s2 r3 v4 x3 x4 v5),
      (slices_symMergeCmpFunc_impl_Acct_impl_Gather_1_s2 r3 v4 x3 x4 v5) = (slices_symMergeCmpFunc_impl_Acct_impl_Gather_1_s2 r3 v4 x3 x4 v5),
      look [(v4.toNat, V.agg [V.sc (.string x4.Id), V.sc (.int .i64 x4.Limit), V.sc (.int .i64 x4.Posted), V.sc (.int .i64 x4.Most), V.sc (.int .i64 x4.MostSum), V.ow 5, V.sc (.int .i64 x4.Ring.Span), V.sc (.int .i64 x4.Ring.Head), V.ow 6, V.ow 7, V.ow 8]), ((i64 (v4 + 1)).toNat, V.agg [V.sc (.string x3.Id), V.sc (.int .i64 x3.Limit), V.sc (.int .i64 x3.Posted), V.sc (.int .i64 x3.Most), V.sc (.int .i64 x3.MostSum), V.ow 1, V.sc (.int .i64 x3.Ring.Span), V.sc (.int .i64 x3.Ring.Head), V.ow 2, V.ow 3, V.ow 4])] v4.toNat = some (V.agg [V.sc (.string x4.Id), V.sc (.int .i64 x4.Limit), V.sc (.int .i64 x4.Posted), V.sc (.int .i64 x4.Most), V.sc (.int .i64 x4.MostSum), V.ow 5, V.sc (.int .i64 x4.Ring.Span), V.sc (.int .i64 x4.Ring.Head), V.ow 6, V.ow 7, V.ow 8]),
      v4.toNat < (List.map E29 v5).length,
      v4.toNat = v4.toNat,
      (0 : Int) ≤ (i64 (v4 + 1)),
      ((i64 (v4 + 1)) : Int) < ((List.map E29 v5).length : Int),
      look [(v4.toNat, V.agg [V.sc (.string x3.Id), V.sc (.int .i64 x3.Limit), V.sc (.int .i64 x3.Posted), V.sc (.int .i64 x3.Most), V.sc (.int .i64 x3.MostSum), V.ow 1, V.sc (.int .i64 x3.Ring.Span), V.sc (.int .i64 x3.Ring.Head), V.ow 2, V.ow 3, V.ow 4]), ((i64 (v4 + 1)).toNat, V.agg [V.sc (.string x3.Id), V.sc (.int .i64 x3.Limit), V.sc (.int .i64 x3.Posted), V.sc (.int .i64 x3.Most), V.sc (.int .i64 x3.MostSum), V.ow 1, V.sc (.int .i64 x3.Ring.Span), V.sc (.int .i64 x3.Ring.Head), V.ow 2, V.ow 3, V.ow 4])] ((i64 (v4 + 1)).toNat) = some (V.agg [V.sc (.string x3.Id), V.sc (.int .i64 x3.Limit), V.sc (.int .i64 x3.Posted), V.sc (.int .i64 x3.Most), V.sc (.int .i64 x3.MostSum), V.ow 1, V.sc (.int .i64 x3.Ring.Span), V.sc (.int .i64 x3.Ring.Head), V.ow 2, V.ow 3, V.ow 4]),
      ((i64 (v4 + 1)).toNat) < (List.map E29 v5).length,
      ((i64 (v4 + 1)).toNat) = ((i64 (v4 + 1)).toNat),
      (slices_symMergeCmpFunc_impl_Acct_impl_Gather_1_s2 r3 v4 x3 x4 v5) = (slices_symMergeCmpFunc_impl_Acct_impl_Gather_1_s2 r3 v4 x3 x4 v5),
      look [(v4.toNat, V.agg [V.sc (.string x4.Id), V.sc (.int .i64 x4.Limit), V.sc (.int .i64 x4.Posted), V.sc (.int .i64 x4.Most), V.sc (.int .i64 x4.MostSum), V.ow 5, V.sc (.int .i64 x4.Ring.Span), V.sc (.int .i64 x4.Ring.Head), V.ow 6, V.ow 7, V.ow 8]), ((i64 (v4 + 1)).toNat, V.agg [V.sc (.string x3.Id), V.sc (.int .i64 x3.Limit), V.sc (.int .i64 x3.Posted), V.sc (.int .i64 x3.Most), V.sc (.int .i64 x3.MostSum), V.ow 1, V.sc (.int .i64 x3.Ring.Span), V.sc (.int .i64 x3.Ring.Head), V.ow 2, V.ow 3, V.ow 4])] v4.toNat = some (V.agg [V.sc (.string x4.Id), V.sc (.int .i64 x4.Limit), V.sc (.int .i64 x4.Posted), V.sc (.int .i64 x4.Most), V.sc (.int .i64 x4.MostSum), V.ow 5, V.sc (.int .i64 x4.Ring.Span), V.sc (.int .i64 x4.Ring.Head), V.ow 6, V.ow 7, V.ow 8]),
      v4.toNat < (List.map E29 v5).length,
      v4.toNat = v4.toNat,
      (0 : Int) ≤ (i64 (v4 + 1)),
      ((i64 (v4 + 1)) : Int) < ((List.map E29 v5).length : Int),
      look [(v4.toNat, V.agg [V.sc (.string x3.Id), V.sc (.int .i64 x3.Limit), V.sc (.int .i64 x3.Posted), V.sc (.int .i64 x3.Most), V.sc (.int .i64 x3.MostSum), V.ow 1, V.sc (.int .i64 x3.Ring.Span), V.sc (.int .i64 x3.Ring.Head), V.ow 2, V.ow 3, V.ow 4]), ((i64 (v4 + 1)).toNat, V.agg [V.sc (.string x3.Id), V.sc (.int .i64 x3.Limit), V.sc (.int .i64 x3.Posted), V.sc (.int .i64 x3.Most), V.sc (.int .i64 x3.MostSum), V.ow 1, V.sc (.int .i64 x3.Ring.Span), V.sc (.int .i64 x3.Ring.Head), V.ow 2, V.ow 3, V.ow 4])] ((i64 (v4 + 1)).toNat) = some (V.agg [V.sc (.string x3.Id), V.sc (.int .i64 x3.Limit), V.sc (.int .i64 x3.Posted), V.sc (.int .i64 x3.Most), V.sc (.int .i64 x3.MostSum), V.ow 1, V.sc (.int .i64 x3.Ring.Span), V.sc (.int .i64 x3.Ring.Head), V.ow 2, V.ow 3, V.ow 4]),
      ((i64 (v4 + 1)).toNat) < (List.map E29 v5).length,
      ((i64 (v4 + 1)).toNat) = ((i64 (v4 + 1)).toNat),
      (slices_symMergeCmpFunc_impl_Acct_impl_Gather_1_s2 r3 v4 x3 x4 v5) = (slices_symMergeCmpFunc_impl_Acct_impl_Gather_1_s2 r3 v4 x3 x4 v5),
      (slices_symMergeCmpFunc_impl_Acct_impl_Gather_1_s2 r3 v4 x3 x4 v5) = (slices_symMergeCmpFunc_impl_Acct_impl_Gather_1_s2 r3 v4 x3 x4 v5),
      look [(v4.toNat, V.agg [V.sc (.string x4.Id), V.sc (.int .i64 x4.Limit), V.sc (.int .i64 x4.Posted), V.sc (.int .i64 x4.Most), V.sc (.int .i64 x4.MostSum), V.ow 5, V.sc (.int .i64 x4.Ring.Span), V.sc (.int .i64 x4.Ring.Head), V.ow 6, V.ow 7, V.ow 8]), ((i64 (v4 + 1)).toNat, V.agg [V.sc (.string x3.Id), V.sc (.int .i64 x3.Limit), V.sc (.int .i64 x3.Posted), V.sc (.int .i64 x3.Most), V.sc (.int .i64 x3.MostSum), V.ow 1, V.sc (.int .i64 x3.Ring.Span), V.sc (.int .i64 x3.Ring.Head), V.ow 2, V.ow 3, V.ow 4])] v4.toNat = some (V.agg [V.sc (.string x4.Id), V.sc (.int .i64 x4.Limit), V.sc (.int .i64 x4.Posted), V.sc (.int .i64 x4.Most), V.sc (.int .i64 x4.MostSum), V.ow 5, V.sc (.int .i64 x4.Ring.Span), V.sc (.int .i64 x4.Ring.Head), V.ow 6, V.ow 7, V.ow 8]),
      v4.toNat < (List.map E29 v5).length,
      v4.toNat = v4.toNat,
      (0 : Int) ≤ (i64 (v4 + 1)),
      ((i64 (v4 + 1)) : Int) < ((List.map E29 v5).length : Int),
      look [(v4.toNat, V.agg [V.sc (.string x3.Id), V.sc (.int .i64 x3.Limit), V.sc (.int .i64 x3.Posted), V.sc (.int .i64 x3.Most), V.sc (.int .i64 x3.MostSum), V.ow 1, V.sc (.int .i64 x3.Ring.Span), V.sc (.int .i64 x3.Ring.Head), V.ow 2, V.ow 3, V.ow 4]), ((i64 (v4 + 1)).toNat, V.agg [V.sc (.string x3.Id), V.sc (.int .i64 x3.Limit), V.sc (.int .i64 x3.Posted), V.sc (.int .i64 x3.Most), V.sc (.int .i64 x3.MostSum), V.ow 1, V.sc (.int .i64 x3.Ring.Span), V.sc (.int .i64 x3.Ring.Head), V.ow 2, V.ow 3, V.ow 4])] ((i64 (v4 + 1)).toNat) = some (V.agg [V.sc (.string x3.Id), V.sc (.int .i64 x3.Limit), V.sc (.int .i64 x3.Posted), V.sc (.int .i64 x3.Most), V.sc (.int .i64 x3.MostSum), V.ow 1, V.sc (.int .i64 x3.Ring.Span), V.sc (.int .i64 x3.Ring.Head), V.ow 2, V.ow 3, V.ow 4]),
      ((i64 (v4 + 1)).toNat) < (List.map E29 v5).length,
      ((i64 (v4 + 1)).toNat) = ((i64 (v4 + 1)).toNat),
      (slices_symMergeCmpFunc_impl_Acct_impl_Gather_1_s2 r3 v4 x3 x4 v5) = (slices_symMergeCmpFunc_impl_Acct_impl_Gather_1_s2 r3 v4 x3 x4 v5),
      look [(v4.toNat, V.agg [V.sc (.string x4.Id), V.sc (.int .i64 x4.Limit), V.sc (.int .i64 x4.Posted), V.sc (.int .i64 x4.Most), V.sc (.int .i64 x4.MostSum), V.ow 5, V.sc (.int .i64 x4.Ring.Span), V.sc (.int .i64 x4.Ring.Head), V.ow 6, V.ow 7, V.ow 8]), ((i64 (v4 + 1)).toNat, V.agg [V.sc (.string x3.Id), V.sc (.int .i64 x3.Limit), V.sc (.int .i64 x3.Posted), V.sc (.int .i64 x3.Most), V.sc (.int .i64 x3.MostSum), V.ow 1, V.sc (.int .i64 x3.Ring.Span), V.sc (.int .i64 x3.Ring.Head), V.ow 2, V.ow 3, V.ow 4])] v4.toNat = some (V.agg [V.sc (.string x4.Id), V.sc (.int .i64 x4.Limit), V.sc (.int .i64 x4.Posted), V.sc (.int .i64 x4.Most), V.sc (.int .i64 x4.MostSum), V.ow 5, V.sc (.int .i64 x4.Ring.Span), V.sc (.int .i64 x4.Ring.Head), V.ow 6, V.ow 7, V.ow 8]),
      v4.toNat < (List.map E29 v5).length,
      v4.toNat = v4.toNat,
      (0 : Int) ≤ (i64 (v4 + 1)),
      ((i64 (v4 + 1)) : Int) < ((List.map E29 v5).length : Int),
      look [(v4.toNat, V.agg [V.sc (.string x3.Id), V.sc (.int .i64 x3.Limit), V.sc (.int .i64 x3.Posted), V.sc (.int .i64 x3.Most), V.sc (.int .i64 x3.MostSum), V.ow 1, V.sc (.int .i64 x3.Ring.Span), V.sc (.int .i64 x3.Ring.Head), V.ow 2, V.ow 3, V.ow 4]), ((i64 (v4 + 1)).toNat, V.agg [V.sc (.string x3.Id), V.sc (.int .i64 x3.Limit), V.sc (.int .i64 x3.Posted), V.sc (.int .i64 x3.Most), V.sc (.int .i64 x3.MostSum), V.ow 1, V.sc (.int .i64 x3.Ring.Span), V.sc (.int .i64 x3.Ring.Head), V.ow 2, V.ow 3, V.ow 4])] ((i64 (v4 + 1)).toNat) = some (V.agg [V.sc (.string x3.Id), V.sc (.int .i64 x3.Limit), V.sc (.int .i64 x3.Posted), V.sc (.int .i64 x3.Most), V.sc (.int .i64 x3.MostSum), V.ow 1, V.sc (.int .i64 x3.Ring.Span), V.sc (.int .i64 x3.Ring.Head), V.ow 2, V.ow 3, V.ow 4]),
      ((i64 (v4 + 1)).toNat) < (List.map E29 v5).length,
      ((i64 (v4 + 1)).toNat) = ((i64 (v4 + 1)).toNat),
      (slices_symMergeCmpFunc_impl_Acct_impl_Gather_1_s2 r3 v4 x3 x4 v5) = (slices_symMergeCmpFunc_impl_Acct_impl_Gather_1_s2 r3 v4 x3 x4 v5),
      (slices_symMergeCmpFunc_impl_Acct_impl_Gather_1_s2 r3 v4 x3 x4 v5) = (slices_symMergeCmpFunc_impl_Acct_impl_Gather_1_s2 r3 v4 x3 x4 v5),
      look [(v4.toNat, V.agg [V.sc (.string x4.Id), V.sc (.int .i64 x4.Limit), V.sc (.int .i64 x4.Posted), V.sc (.int .i64 x4.Most), V.sc (.int .i64 x4.MostSum), V.ow 5, V.sc (.int .i64 x4.Ring.Span), V.sc (.int .i64 x4.Ring.Head), V.ow 6, V.ow 7, V.ow 8]), ((i64 (v4 + 1)).toNat, V.agg [V.sc (.string x3.Id), V.sc (.int .i64 x3.Limit), V.sc (.int .i64 x3.Posted), V.sc (.int .i64 x3.Most), V.sc (.int .i64 x3.MostSum), V.ow 1, V.sc (.int .i64 x3.Ring.Span), V.sc (.int .i64 x3.Ring.Head), V.ow 2, V.ow 3, V.ow 4])] v4.toNat = some (V.agg [V.sc (.string x4.Id), V.sc (.int .i64 x4.Limit), V.sc (.int .i64 x4.Posted), V.sc (.int .i64 x4.Most), V.sc (.int .i64 x4.MostSum), V.ow 5, V.sc (.int .i64 x4.Ring.Span), V.sc (.int .i64 x4.Ring.Head), V.ow 6, V.ow 7, V.ow 8]),
      v4.toNat < (List.map E29 v5).length,
      v4.toNat = v4.toNat,
      (0 : Int) ≤ (i64 (v4 + 1)),
      ((i64 (v4 + 1)) : Int) < ((List.map E29 v5).length : Int),
      look [(v4.toNat, V.agg [V.sc (.string x3.Id), V.sc (.int .i64 x3.Limit), V.sc (.int .i64 x3.Posted), V.sc (.int .i64 x3.Most), V.sc (.int .i64 x3.MostSum), V.ow 1, V.sc (.int .i64 x3.Ring.Span), V.sc (.int .i64 x3.Ring.Head), V.ow 2, V.ow 3, V.ow 4]), ((i64 (v4 + 1)).toNat, V.agg [V.sc (.string x3.Id), V.sc (.int .i64 x3.Limit), V.sc (.int .i64 x3.Posted), V.sc (.int .i64 x3.Most), V.sc (.int .i64 x3.MostSum), V.ow 1, V.sc (.int .i64 x3.Ring.Span), V.sc (.int .i64 x3.Ring.Head), V.ow 2, V.ow 3, V.ow 4])] ((i64 (v4 + 1)).toNat) = some (V.agg [V.sc (.string x3.Id), V.sc (.int .i64 x3.Limit), V.sc (.int .i64 x3.Posted), V.sc (.int .i64 x3.Most), V.sc (.int .i64 x3.MostSum), V.ow 1, V.sc (.int .i64 x3.Ring.Span), V.sc (.int .i64 x3.Ring.Head), V.ow 2, V.ow 3, V.ow 4]),
      ((i64 (v4 + 1)).toNat) < (List.map E29 v5).length,
      ((i64 (v4 + 1)).toNat) = ((i64 (v4 + 1)).toNat),
      (slices_symMergeCmpFunc_impl_Acct_impl_Gather_1_s2 r3 v4 x3 x4 v5) = (slices_symMergeCmpFunc_impl_Acct_impl_Gather_1_s2 r3 v4 x3 x4 v5),
      (slices_symMergeCmpFunc_impl_Acct_impl_Gather_1_s2 r3 v4 x3 x4 v5) = (slices_symMergeCmpFunc_impl_Acct_impl_Gather_1_s2 r3 v4 x3 x4 v5),
      look [(v4.toNat, V.agg [V.sc (.string x4.Id), V.sc (.int .i64 x4.Limit), V.sc (.int .i64 x4.Posted), V.sc (.int .i64 x4.Most), V.sc (.int .i64 x4.MostSum), V.ow 5, V.sc (.int .i64 x4.Ring.Span), V.sc (.int .i64 x4.Ring.Head), V.ow 6, V.ow 7, V.ow 8]), ((i64 (v4 + 1)).toNat, V.agg [V.sc (.string x3.Id), V.sc (.int .i64 x3.Limit), V.sc (.int .i64 x3.Posted), V.sc (.int .i64 x3.Most), V.sc (.int .i64 x3.MostSum), V.ow 1, V.sc (.int .i64 x3.Ring.Span), V.sc (.int .i64 x3.Ring.Head), V.ow 2, V.ow 3, V.ow 4])] v4.toNat = some (V.agg [V.sc (.string x4.Id), V.sc (.int .i64 x4.Limit), V.sc (.int .i64 x4.Posted), V.sc (.int .i64 x4.Most), V.sc (.int .i64 x4.MostSum), V.ow 5, V.sc (.int .i64 x4.Ring.Span), V.sc (.int .i64 x4.Ring.Head), V.ow 6, V.ow 7, V.ow 8]),
      v4.toNat < (List.map E29 v5).length,
      v4.toNat = v4.toNat,
      (0 : Int) ≤ (i64 (v4 + 1)),
      ((i64 (v4 + 1)) : Int) < ((List.map E29 v5).length : Int),
      look [(v4.toNat, V.agg [V.sc (.string x3.Id), V.sc (.int .i64 x3.Limit), V.sc (.int .i64 x3.Posted), V.sc (.int .i64 x3.Most), V.sc (.int .i64 x3.MostSum), V.ow 1, V.sc (.int .i64 x3.Ring.Span), V.sc (.int .i64 x3.Ring.Head), V.ow 2, V.ow 3, V.ow 4]), ((i64 (v4 + 1)).toNat, V.agg [V.sc (.string x3.Id), V.sc (.int .i64 x3.Limit), V.sc (.int .i64 x3.Posted), V.sc (.int .i64 x3.Most), V.sc (.int .i64 x3.MostSum), V.ow 1, V.sc (.int .i64 x3.Ring.Span), V.sc (.int .i64 x3.Ring.Head), V.ow 2, V.ow 3, V.ow 4])] ((i64 (v4 + 1)).toNat) = some (V.agg [V.sc (.string x3.Id), V.sc (.int .i64 x3.Limit), V.sc (.int .i64 x3.Posted), V.sc (.int .i64 x3.Most), V.sc (.int .i64 x3.MostSum), V.ow 1, V.sc (.int .i64 x3.Ring.Span), V.sc (.int .i64 x3.Ring.Head), V.ow 2, V.ow 3, V.ow 4]),
      ((i64 (v4 + 1)).toNat) < (List.map E29 v5).length,
      ((i64 (v4 + 1)).toNat) = ((i64 (v4 + 1)).toNat),
      (slices_symMergeCmpFunc_impl_Acct_impl_Gather_1_s2 r3 v4 x3 x4 v5) = (slices_symMergeCmpFunc_impl_Acct_impl_Gather_1_s2 r3 v4 x3 x4 v5),
      Blk.row 29 (((List.map E29 v5).set v4.toNat (V.agg [V.sc (.string x3.Id), V.sc (.int .i64 x3.Limit), V.sc (.int .i64 x3.Posted), V.sc (.int .i64 x3.Most), V.sc (.int .i64 x3.MostSum), V.sl true 36 (List.map E36 x3.Holds), V.sc (.int .i64 x3.Ring.Span), V.sc (.int .i64 x3.Ring.Head), V.sl true 3 (List.map E3 x3.Ring.Counts), V.sl true 3 (List.map E3 x3.Ring.Sums), V.sl true 164 (List.map E164 x3.Slots)])).set ((i64 (v4 + 1)).toNat) (V.agg [V.sc (.string x4.Id), V.sc (.int .i64 x4.Limit), V.sc (.int .i64 x4.Posted), V.sc (.int .i64 x4.Most), V.sc (.int .i64 x4.MostSum), V.sl true 36 (List.map E36 x4.Holds), V.sc (.int .i64 x4.Ring.Span), V.sc (.int .i64 x4.Ring.Head), V.sl true 3 (List.map E3 x4.Ring.Counts), V.sl true 3 (List.map E3 x4.Ring.Sums), V.sl true 164 (List.map E164 x4.Slots)])) [] = Blk.row 29 (List.map E29 ((v5.set v4.toNat x3).set ((i64 (v4 + 1)).toNat) x4)) []]) (by kernel_rfl) (cj ((slices_symMergeCmpFunc_impl_Acct_impl_Gather_1_c4_ok r3 v4 v5 r4 h15).at h16) (cj (od h18) (cj (map_ltN (od h18) h19) (cj rfl (cj (map_get h19) (cj (look_cons_self _ _ _) (cj (map_lt h19) (cj (od h20) (cj (map_ltN (od h20) h21) (cj ((look_cons_ne _ _ (od h22)).trans rfl) (cj (map_get h21) (cj (look_cons_self _ _ _) (cj (map_lt h21) (cj (od h20) (cj (map_ltN (od h20) h21) (cj (look_cons_self _ _ _) (cj (map_lt h21) (cj rfl (cj (od h18) (cj (map_ltN (od h18) h19) (cj ((look_cons_ne _ _ (fun z => od h22 z.symm)).trans (look_cons_self _ _ _)) (cj (map_lt h19) (cj rfl (cj rfl (cj (look_cons_self _ _ _) (cj (map_lt h21) (cj rfl (cj (od h18) (cj (map_ltN (od h18) h19) (cj ((look_cons_ne _ _ (fun z => od h22 z.symm)).trans (look_cons_self _ _ _)) (cj (map_lt h19) (cj rfl (cj rfl (cj rfl (cj (look_cons_self _ _ _) (cj (map_lt h21) (cj rfl (cj (od h18) (cj (map_ltN (od h18) h19) (cj ((look_cons_ne _ _ (fun z => od h22 z.symm)).trans (look_cons_self _ _ _)) (cj (map_lt h19) (cj rfl (cj rfl (cj rfl (cj (look_cons_self _ _ _) (cj (map_lt h21) (cj rfl (cj (od h18) (cj (map_ltN (od h18) h19) (cj ((look_cons_ne _ _ (fun z => od h22 z.symm)).trans (look_cons_self _ _ _)) (cj (map_lt h19) (cj rfl (cj rfl (cj (look_cons_self _ _ _) (cj (map_lt h21) (cj rfl (cj (od h18) (cj (map_ltN (od h18) h19) (cj ((look_cons_ne _ _ (fun z => od h22 z.symm)).trans (look_cons_self _ _ _)) (cj (map_lt h19) (cj rfl (cj rfl (cj rfl (cj (look_cons_self _ _ _) (cj (map_lt h21) (cj rfl (cj (od h18) (cj (map_ltN (od h18) h19) (cj ((look_cons_ne _ _ (fun z => od h22 z.symm)).trans (look_cons_self _ _ _)) (cj (map_lt h19) (cj rfl (cj rfl (cj (look_cons_self _ _ _) (cj (map_lt h21) (cj rfl (cj (od h18) (cj (map_ltN (od h18) h19) (cj ((look_cons_ne _ _ (fun z => od h22 z.symm)).trans (look_cons_self _ _ _)) (cj (map_lt h19) (cj rfl (cj rfl (cj rfl (cj (look_cons_self _ _ _) (cj (map_lt h21) (cj rfl (cj (od h18) (cj (map_ltN (od h18) h19) (cj ((look_cons_ne _ _ (fun z => od h22 z.symm)).trans (look_cons_self _ _ _)) (cj (map_lt h19) (cj rfl (cj rfl (cj rfl (cj (look_cons_self _ _ _) (cj (map_lt h21) (cj rfl (cj (od h18) (cj (map_ltN (od h18) h19) (cj ((look_cons_ne _ _ (fun z => od h22 z.symm)).trans (look_cons_self _ _ _)) (cj (map_lt h19) (cj rfl (cj rfl (cj1 (nb_set2 E29 _ _ x3 _ x4))))))))))))))))))))))))))))))))))))))))))))))))))))))))))))))))))))))))))))))))))))))))))))))))))))))) (slices_symMergeCmpFunc_impl_Acct_impl_Gather_1_l1_ok r3 fuel (i64 (v4 + 1)) ((v5.set v4.toNat x3).set ((i64 (v4 + 1)).toNat) x4))) (fun h22 =>
     Pn.none))) (fun h20 =>
     Pn.none))) (fun h18 =>
     Pn.none)) (fun s4 h17 =>
     Pn.some (LpO.out [.wait 1, .mask [0, 10, 13], .ren [0], .join 5 (X.out 2) (st 220 [] [Blk.row 29 (List.map E29 v5) []] [some 0]), .wait 1, .mask [], .ren [0]] (p := [HT Try.prog (sub (codeOf Try.prog 192) [0, 1, 0, 1, 1, 1, 0, 1, 0, 0, 0]) (st 220 [(0, V.ow 0), (10, V.sc (.int .i64 r3.1)), (13, V.sc (.int .i64 v4))] [Blk.row 29 (List.map E29 v5) []] [some 0]) (X.out 2) (st 220 [] [Blk.row 29 (List.map E29 v5) []] [some 0])]) (by kernel_rfl) (show X.out 2 ≠ X.go from nofun) (cj1 ((slices_symMergeCmpFunc_impl_Acct_impl_Gather_1_c4_ok r3 v4 v5 r4 h15).at h17)))))
def slices_symMergeCmpFunc_impl_Acct_impl_Gather_1_c0 (o : List Acct) (o_ : Int) (a2 : Int) (a3 : Int) : Option (Lo Unit ((List Acct))) :=
 if ((i64 (a2 - o_)) == 1) = true then
 (slices_symMergeCmpFunc_impl_Acct_impl_Gather_1_l0 o_ FUEL a2 a3 o).bind fun r3 =>
 (slices_symMergeCmpFunc_impl_Acct_impl_Gather_1_l1 r3 FUEL o_ r3.2).bind fun r5 =>
 some (.ret r5)
 else
 some (.out ())
theorem slices_symMergeCmpFunc_impl_Acct_impl_Gather_1_c0_ok (o : List Acct) (o_ : Int) (a2 : Int) (a3 : Int) : Pn (JnO Try.prog (sub (codeOf Try.prog 192) [0]) (st 220 [(0, V.ow 0), (1, V.sc (.int .i64 o_)), (2, V.sc (.int .i64 a2)), (3, V.sc (.int .i64 a3)), (4, V.fn 90 [])] [Blk.row 29 (List.map E29 o) []] [some 0]) (fun (y : Lo Unit ((List Acct))) => Lo.elim y (fun s => (X.go, st 220 [(0, V.ow 0), (1, V.sc (.int .i64 o_)), (2, V.sc (.int .i64 a2)), (3, V.sc (.int .i64 a3)), (4, V.fn 90 [])] [Blk.row 29 (List.map E29 o) []] [some 0])) (fun s => (X.ret, st 220 [] [Blk.row 29 (List.map E29 s) []] [some 0])))) (slices_symMergeCmpFunc_impl_Acct_impl_Gather_1_c0 o o_ a2 a3) := by
  unfold slices_symMergeCmpFunc_impl_Acct_impl_Gather_1_c0
  exact
   Pn.ite (fun h1 =>
   Pn.bind (fun r3 h13 =>
   Pn.bind (fun r5 h23 =>
   Pn.some (JnO.of [.bit true, .wait 4, .mask [0, 1, 4, 10, 11], .ren [0], .loop (X.out 0) (st 220 [(0, V.ow 0), (1, V.sc (.int .i64 o_)), (10, V.sc (.int .i64 r3.1))] [Blk.row 29 (List.map E29 r3.2) []] [some 0]), .wait 3, .mask [0, 10, 13], .ren [0], .loop (X.out 2) (st 220 [] [Blk.row 29 (List.map E29 r5) []] [some 0]), .wait 1, .mask [], .ren [0]] (p := [((i64 (a2 - o_)) == 1) = true,
    Loop Try.prog (sub (codeOf Try.prog 192) [0, 1, 0, 1, 1, 0, 0, 0]) (st 220 [(0, V.ow 0), (1, V.sc (.int .i64 o_)), (4, V.fn 90 []), (10, V.sc (.int .i64 a2)), (11, V.sc (.int .i64 a3))] [Blk.row 29 (List.map E29 o) []] [some 0]) (X.out 0) (st 220 [(0, V.ow 0), (1, V.sc (.int .i64 o_)), (10, V.sc (.int .i64 r3.1))] [Blk.row 29 (List.map E29 r3.2) []] [some 0]),
    Loop Try.prog (sub (codeOf Try.prog 192) [0, 1, 0, 1, 1, 1, 0, 1, 0, 0]) (st 220 [(0, V.ow 0), (10, V.sc (.int .i64 r3.1)), (13, V.sc (.int .i64 o_))] [Blk.row 29 (List.map E29 r3.2) []] [some 0]) (X.out 2) (st 220 [] [Blk.row 29 (List.map E29 r5) []] [some 0])]) (by kernel_rfl) (cj h1 (cj (slices_symMergeCmpFunc_impl_Acct_impl_Gather_1_l0_ok o_ FUEL a2 a3 o r3 h13) (cj1 (slices_symMergeCmpFunc_impl_Acct_impl_Gather_1_l1_ok r3 FUEL o_ r3.2 r5 h23)))))))) (fun h1 =>
   Pn.some (JnO.of [.bit false, .mask [0, 1, 2, 3, 4], .ren [0]] (p := [((i64 (a2 - o_)) == 1) = false]) (by kernel_rfl) (cj1 h1)))
def slices_symMergeCmpFunc_impl_Acct_impl_Gather_1_c7 (a2 : Int) (v6 : Int) (v7 : Int) (v8 : List Acct) : Option (Lo Unit Unit) :=
 if (decide (v6 < v7)) = true then
 some (.out ())
 else
 some (.ret ())
theorem slices_symMergeCmpFunc_impl_Acct_impl_Gather_1_c7_ok (a2 : Int) (v6 : Int) (v7 : Int) (v8 : List Acct) : Pn (JnO Try.prog (sub (codeOf Try.prog 192) [1, 0, 1, 0, 1, 1, 0, 0, 0, 0]) (st 220 [(0, V.ow 0), (2, V.sc (.int .i64 a2)), (4, V.fn 90 []), (14, V.sc (.int .i64 v6)), (15, V.sc (.int .i64 v7))] [Blk.row 29 (List.map E29 v8) []] [some 0]) (fun (y : Lo Unit Unit) => Lo.elim y (fun s => (X.go, st 220 [(0, V.ow 0), (2, V.sc (.int .i64 a2)), (4, V.fn 90 []), (14, V.sc (.int .i64 v6)), (15, V.sc (.int .i64 v7))] [Blk.row 29 (List.map E29 v8) []] [some 0])) (fun s => (X.out 4, st 220 [(0, V.ow 0), (2, V.sc (.int .i64 a2)), (14, V.sc (.int .i64 v6))] [Blk.row 29 (List.map E29 v8) []] [some 0])))) (slices_symMergeCmpFunc_impl_Acct_impl_Gather_1_c7 a2 v6 v7 v8) := by
  unfold slices_symMergeCmpFunc_impl_Acct_impl_Gather_1_c7
  exact
   Pn.ite (fun h28 =>
   Pn.some (JnO.of [.bit true, .mask [0, 2, 4, 14, 15], .ren [0]] (p := [(decide (v6 < v7)) = true]) (by kernel_rfl) (cj1 h28))) (fun h28 =>
   Pn.some (JnO.of [.bit false, .mask [0, 2, 14], .ren [0]] (p := [(decide (v6 < v7)) = false]) (by kernel_rfl) (cj1 h28)))
def slices_symMergeCmpFunc_impl_Acct_impl_Gather_1_l2 (a2 : Int) : Nat → Int → Int → (List Acct) → Option (Int × (List Acct))
  | 0, _, _, _ => none
  | fuel + 1, v6, v7, v8 =>
   (slices_symMergeCmpFunc_impl_Acct_impl_Gather_1_c7 a2 v6 v7 v8).bind fun r7 =>
   Lo.elim r7 (fun s7 =>
   if (decide (0 ≤ a2)) = true then
   (v8[a2.toNat]?).bind fun x5 =>
   if (decide (0 ≤ (i64 (bshr .u64 (u64 (i64 (v6 + v7))) 1)))) = true then
   (v8[(i64 (bshr .u64 (u64 (i64 (v6 + v7))) 1)).toNat]?).bind fun x6 =>
   if (decide (¬ ((i64 (bshr .u64 (u64 (i64 (v6 + v7))) 1)).toNat) = a2.toNat)) = true then
   (impl_Gather_1 x5 x6).bind fun r8 =>
   if (decide (r8 < 0)) = true then
   slices_symMergeCmpFunc_impl_Acct_impl_Gather_1_l2 a2 fuel v6 (i64 (bshr .u64 (u64 (i64 (v6 + v7))) 1)) ((v8.set a2.toNat x5).set ((i64 (bshr .u64 (u64 (i64 (v6 + v7))) 1)).toNat) x6)
   else
   slices_symMergeCmpFunc_impl_Acct_impl_Gather_1_l2 a2 fuel (i64 ((i64 (bshr .u64 (u64 (i64 (v6 + v7))) 1)) + 1)) v7 ((v8.set a2.toNat x5).set ((i64 (bshr .u64 (u64 (i64 (v6 + v7))) 1)).toNat) x6)
   else none
   else none
   else none) (fun s8 =>
   some (v6, v8))
theorem slices_symMergeCmpFunc_impl_Acct_impl_Gather_1_l2_ok (a2 : Int) : ∀ (fuel : Nat) (v6 : Int) (v7 : Int) (v8 : List Acct), Pn (LpO Try.prog (sub (codeOf Try.prog 192) [1, 0, 1, 0, 1, 1, 0, 0, 0]) (st 220 [(0, V.ow 0), (2, V.sc (.int .i64 a2)), (4, V.fn 90 []), (14, V.sc (.int .i64 v6)), (15, V.sc (.int .i64 v7))] [Blk.row 29 (List.map E29 v8) []] [some 0]) (fun (y : Int × (List Acct)) => (X.out 4, st 220 [(0, V.ow 0), (2, V.sc (.int .i64 a2)), (14, V.sc (.int .i64 y.1))] [Blk.row 29 (List.map E29 y.2) []] [some 0]))) (slices_symMergeCmpFunc_impl_Acct_impl_Gather_1_l2 a2 fuel v6 v7 v8)
  | 0, _, _, _ => Pn.none
  | fuel + 1, v6, v7, v8 => by
    unfold slices_symMergeCmpFunc_impl_Acct_impl_Gather_1_l2
    exact
     Pn.bind (fun r7 h29 =>
     Pn.lo (fun s7 h30 =>
     Pn.ite (fun h32 =>
     Pn.bind (fun x5 h33 =>
     Pn.ite (fun h34 =>
     Pn.bind (fun x6 h35 =>
     Pn.ite (fun h36 =>
     Pn.bind (fun r8 h37 =>
     Pn.ite (fun h38 =>
     LpO.go [.wait 1, .mask [0, 2, 4, 14, 15], .ren [0], .join 5 (X.go) (st 220 [(0, V.ow 0), (2, V.sc (.int .i64 a2)), (4, V.fn 90 []), (14, V.sc (.int .i64 v6)), (15, V.sc (.int .i64 v7))] [Blk.row 29 (List.map E29 v8) []] [some 0]), .draw [], .wait 3, .foc 0 a2.toNat (E29 x5), .fo 0, .wait 3, .foc 0 ((i64 (bshr .u64 (u64 (i64 (v6 + v7))) 1)).toNat) (E29 x6), .fo 0, .call [] (E3 r8) [], .bit false, .wait 2, .shut 0, .nb 0 (.row 29 (List.map E29 ((v8.set a2.toNat x5).set ((i64 (bshr .u64 (u64 (i64 (v6 + v7))) 1)).toNat) x6)) []), .mask [0, 2, 4, 14, 15], .ren [0]] (p := [HT Try.prog (sub (codeOf Try.prog 192) [1, 0, 1, 0, 1, 1, 0, 0, 0, 0]) (st 220 [(0, V.ow 0), (2, V.sc (.int .i64 a2)), (4, V.fn 90 []), (14, V.sc (.int .i64 v6)), (15, V.sc (.int .i64 v7))] [Blk.row 29 (List.map E29 v8) []] [some 0]) (X.go) (st 220 [(0, V.ow 0), (2, V.sc (.int .i64 a2)), (4, V.fn 90 []), (14, V.sc (.int .i64 v6)), (15, V.sc (.int .i64 v7))] [Blk.row 29 (List.map E29 v8) []] [some 0]),
      ¬ (1 : Int) < 0,
      (0 : Int) ≤ a2,
      (a2 : Int) < ((List.map E29 v8).length : Int),
      look [] a2.toNat = none,
      (List.map E29 v8)[a2.toNat]? = some (E29 x5),
      look [(a2.toNat, V.agg [V.sc (.string x5.Id), V.sc (.int .i64 x5.Limit), V.sc (.int .i64 x5.Posted), V.sc (.int .i64 x5.Most), V.sc (.int .i64 x5.MostSum), V.ow 1, V.sc (.int .i64 x5.Ring.Span), V.sc (.int .i64 x5.Ring.Head), V.ow 2, V.ow 3, V.ow 4])] a2.toNat = some (V.agg [V.sc (.string x5.Id), V.sc (.int .i64 x5.Limit), V.sc (.int .i64 x5.Posted), V.sc (.int .i64 x5.Most), V.sc (.int .i64 x5.MostSum), V.ow 1, V.sc (.int .i64 x5.Ring.Span), V.sc (.int .i64 x5.Ring.Head), V.ow 2, V.ow 3, V.ow 4]),
      a2.toNat < (List.map E29 v8).length,
      (0 : Int) ≤ (i64 (bshr .u64 (u64 (i64 (v6 + v7))) 1)),
      ((i64 (bshr .u64 (u64 (i64 (v6 + v7))) 1)) : Int) < ((List.map E29 v8).length : Int),
      look [(a2.toNat, V.agg [V.sc (.string x5.Id), V.sc (.int .i64 x5.Limit), V.sc (.int .i64 x5.Posted), V.sc (.int .i64 x5.Most), V.sc (.int .i64 x5.MostSum), V.ow 1, V.sc (.int .i64 x5.Ring.Span), V.sc (.int .i64 x5.Ring.Head), V.ow 2, V.ow 3, V.ow 4])] ((i64 (bshr .u64 (u64 (i64 (v6 + v7))) 1)).toNat) = none,
      (List.map E29 v8)[(i64 (bshr .u64 (u64 (i64 (v6 + v7))) 1)).toNat]? = some (E29 x6),
      look [((i64 (bshr .u64 (u64 (i64 (v6 + v7))) 1)).toNat, V.agg [V.sc (.string x6.Id), V.sc (.int .i64 x6.Limit), V.sc (.int .i64 x6.Posted), V.sc (.int .i64 x6.Most), V.sc (.int .i64 x6.MostSum), V.ow 5, V.sc (.int .i64 x6.Ring.Span), V.sc (.int .i64 x6.Ring.Head), V.ow 6, V.ow 7, V.ow 8]), (a2.toNat, V.agg [V.sc (.string x5.Id), V.sc (.int .i64 x5.Limit), V.sc (.int .i64 x5.Posted), V.sc (.int .i64 x5.Most), V.sc (.int .i64 x5.MostSum), V.ow 1, V.sc (.int .i64 x5.Ring.Span), V.sc (.int .i64 x5.Ring.Head), V.ow 2, V.ow 3, V.ow 4])] ((i64 (bshr .u64 (u64 (i64 (v6 + v7))) 1)).toNat) = some (V.agg [V.sc (.string x6.Id), V.sc (.int .i64 x6.Limit), V.sc (.int .i64 x6.Posted), V.sc (.int .i64 x6.Most), V.sc (.int .i64 x6.MostSum), V.ow 5, V.sc (.int .i64 x6.Ring.Span), V.sc (.int .i64 x6.Ring.Head), V.ow 6, V.ow 7, V.ow 8]),
      ((i64 (bshr .u64 (u64 (i64 (v6 + v7))) 1)).toNat) < (List.map E29 v8).length,
      Fn Try.prog 90 [(false, E29 x5), (false, E29 x6)] (E3 r8) [],
      (false || ((E3 r8).nv && nvL [])) = true,
      (!(decide (r8 < 0))) = false,
      Blk.row 29 (((List.map E29 v8).set a2.toNat (V.agg [V.sc (.string x5.Id), V.sc (.int .i64 x5.Limit), V.sc (.int .i64 x5.Posted), V.sc (.int .i64 x5.Most), V.sc (.int .i64 x5.MostSum), V.sl true 36 (List.map E36 x5.Holds), V.sc (.int .i64 x5.Ring.Span), V.sc (.int .i64 x5.Ring.Head), V.sl true 3 (List.map E3 x5.Ring.Counts), V.sl true 3 (List.map E3 x5.Ring.Sums), V.sl true 164 (List.map E164 x5.Slots)])).set ((i64 (bshr .u64 (u64 (i64 (v6 + v7))) 1)).toNat) (V.agg [V.sc (.string x6.Id), V.sc (.int .i64 x6.Limit), V.sc (.int .i64 x6.Posted), V.sc (.int .i64 x6.Most), V.sc (.int .i64 x6.MostSum), V.sl true 36 (List.map E36 x6.Holds), V.sc (.int .i64 x6.Ring.Span), V.sc (.int .i64 x6.Ring.Head), V.sl true 3 (List.map E3 x6.Ring.Counts), V.sl true 3 (List.map E3 x6.Ring.Sums), V.sl true 164 (List.map E164 x6.Slots)])) [] = Blk.row 29 (List.map E29 ((v8.set a2.toNat x5).set ((i64 (bshr .u64 (u64 (i64 (v6 + v7))) 1)).toNat) x6)) []]) (by kernel_rfl) (cj ((slices_symMergeCmpFunc_impl_Acct_impl_Gather_1_c7_ok a2 v6 v7 v8 r7 h29).at h30) (cj (by decide) (cj (od h32) (cj (map_ltN (od h32) h33) (cj rfl (cj (map_get h33) (cj (look_cons_self _ _ _) (cj (map_lt h33) (cj (od h34) (cj (map_ltN (od h34) h35) (cj ((look_cons_ne _ _ (od h36)).trans rfl) (cj (map_get h35) (cj (look_cons_self _ _ _) (cj (map_lt h35) (cj (impl_Gather_1_ok x5 x6 r8 h37) (cj (by simp [V.nv, nvL, nvL_all, nv_E3]) (cj (nf h38) (cj1 (nb_set2 E29 _ _ x5 _ x6))))))))))))))))))) (slices_symMergeCmpFunc_impl_Acct_impl_Gather_1_l2_ok a2 fuel v6 (i64 (bshr .u64 (u64 (i64 (v6 + v7))) 1)) ((v8.set a2.toNat x5).set ((i64 (bshr .u64 (u64 (i64 (v6 + v7))) 1)).toNat) x6))) (fun h38 =>
     LpO.go [.wait 1, .mask [0, 2, 4, 14, 15], .ren [0], .join 5 (X.go) (st 220 [(0, V.ow 0), (2, V.sc (.int .i64 a2)), (4, V.fn 90 []), (14, V.sc (.int .i64 v6)), (15, V.sc (.int .i64 v7))] [Blk.row 29 (List.map E29 v8) []] [some 0]), .draw [], .wait 3, .foc 0 a2.toNat (E29 x5), .fo 0, .wait 3, .foc 0 ((i64 (bshr .u64 (u64 (i64 (v6 + v7))) 1)).toNat) (E29 x6), .fo 0, .call [] (E3 r8) [], .bit true, .wait 3, .shut 0, .nb 0 (.row 29 (List.map E29 ((v8.set a2.toNat x5).set ((i64 (bshr .u64 (u64 (i64 (v6 + v7))) 1)).toNat) x6)) []), .mask [0, 2, 4, 14, 15], .ren [0]] (p := [HT Try.prog (sub (codeOf Try.prog 192) [1, 0, 1, 0, 1, 1, 0, 0, 0, 0]) (st 220 [(0, V.ow 0), (2, V.sc (.int .i64 a2)), (4, V.fn 90 []), (14, V.sc (.int .i64 v6)), (15, V.sc (.int .i64 v7))] [Blk.row 29 (List.map E29 v8) []] [some 0]) (X.go) (st 220 [(0, V.ow 0), (2, V.sc (.int .i64 a2)), (4, V.fn 90 []), (14, V.sc (.int .i64 v6)), (15, V.sc (.int .i64 v7))] [Blk.row 29 (List.map E29 v8) []] [some 0]),
      ¬ (1 : Int) < 0,
      (0 : Int) ≤ a2,
      (a2 : Int) < ((List.map E29 v8).length : Int),
      look [] a2.toNat = none,
      (List.map E29 v8)[a2.toNat]? = some (E29 x5),
      look [(a2.toNat, V.agg [V.sc (.string x5.Id), V.sc (.int .i64 x5.Limit), V.sc (.int .i64 x5.Posted), V.sc (.int .i64 x5.Most), V.sc (.int .i64 x5.MostSum), V.ow 1, V.sc (.int .i64 x5.Ring.Span), V.sc (.int .i64 x5.Ring.Head), V.ow 2, V.ow 3, V.ow 4])] a2.toNat = some (V.agg [V.sc (.string x5.Id), V.sc (.int .i64 x5.Limit), V.sc (.int .i64 x5.Posted), V.sc (.int .i64 x5.Most), V.sc (.int .i64 x5.MostSum), V.ow 1, V.sc (.int .i64 x5.Ring.Span), V.sc (.int .i64 x5.Ring.Head), V.ow 2, V.ow 3, V.ow 4]),
      a2.toNat < (List.map E29 v8).length,
      (0 : Int) ≤ (i64 (bshr .u64 (u64 (i64 (v6 + v7))) 1)),
      ((i64 (bshr .u64 (u64 (i64 (v6 + v7))) 1)) : Int) < ((List.map E29 v8).length : Int),
      look [(a2.toNat, V.agg [V.sc (.string x5.Id), V.sc (.int .i64 x5.Limit), V.sc (.int .i64 x5.Posted), V.sc (.int .i64 x5.Most), V.sc (.int .i64 x5.MostSum), V.ow 1, V.sc (.int .i64 x5.Ring.Span), V.sc (.int .i64 x5.Ring.Head), V.ow 2, V.ow 3, V.ow 4])] ((i64 (bshr .u64 (u64 (i64 (v6 + v7))) 1)).toNat) = none,
      (List.map E29 v8)[(i64 (bshr .u64 (u64 (i64 (v6 + v7))) 1)).toNat]? = some (E29 x6),
      look [((i64 (bshr .u64 (u64 (i64 (v6 + v7))) 1)).toNat, V.agg [V.sc (.string x6.Id), V.sc (.int .i64 x6.Limit), V.sc (.int .i64 x6.Posted), V.sc (.int .i64 x6.Most), V.sc (.int .i64 x6.MostSum), V.ow 5, V.sc (.int .i64 x6.Ring.Span), V.sc (.int .i64 x6.Ring.Head), V.ow 6, V.ow 7, V.ow 8]), (a2.toNat, V.agg [V.sc (.string x5.Id), V.sc (.int .i64 x5.Limit), V.sc (.int .i64 x5.Posted), V.sc (.int .i64 x5.Most), V.sc (.int .i64 x5.MostSum), V.ow 1, V.sc (.int .i64 x5.Ring.Span), V.sc (.int .i64 x5.Ring.Head), V.ow 2, V.ow 3, V.ow 4])] ((i64 (bshr .u64 (u64 (i64 (v6 + v7))) 1)).toNat) = some (V.agg [V.sc (.string x6.Id), V.sc (.int .i64 x6.Limit), V.sc (.int .i64 x6.Posted), V.sc (.int .i64 x6.Most), V.sc (.int .i64 x6.MostSum), V.ow 5, V.sc (.int .i64 x6.Ring.Span), V.sc (.int .i64 x6.Ring.Head), V.ow 6, V.ow 7, V.ow 8]),
      ((i64 (bshr .u64 (u64 (i64 (v6 + v7))) 1)).toNat) < (List.map E29 v8).length,
      Fn Try.prog 90 [(false, E29 x5), (false, E29 x6)] (E3 r8) [],
      (false || ((E3 r8).nv && nvL [])) = true,
      (!(decide (r8 < 0))) = true,
      Blk.row 29 (((List.map E29 v8).set a2.toNat (V.agg [V.sc (.string x5.Id), V.sc (.int .i64 x5.Limit), V.sc (.int .i64 x5.Posted), V.sc (.int .i64 x5.Most), V.sc (.int .i64 x5.MostSum), V.sl true 36 (List.map E36 x5.Holds), V.sc (.int .i64 x5.Ring.Span), V.sc (.int .i64 x5.Ring.Head), V.sl true 3 (List.map E3 x5.Ring.Counts), V.sl true 3 (List.map E3 x5.Ring.Sums), V.sl true 164 (List.map E164 x5.Slots)])).set ((i64 (bshr .u64 (u64 (i64 (v6 + v7))) 1)).toNat) (V.agg [V.sc (.string x6.Id), V.sc (.int .i64 x6.Limit), V.sc (.int .i64 x6.Posted), V.sc (.int .i64 x6.Most), V.sc (.int .i64 x6.MostSum), V.sl true 36 (List.map E36 x6.Holds), V.sc (.int .i64 x6.Ring.Span), V.sc (.int .i64 x6.Ring.Head), V.sl true 3 (List.map E3 x6.Ring.Counts), V.sl true 3 (List.map E3 x6.Ring.Sums), V.sl true 164 (List.map E164 x6.Slots)])) [] = Blk.row 29 (List.map E29 ((v8.set a2.toNat x5).set ((i64 (bshr .u64 (u64 (i64 (v6 + v7))) 1)).toNat) x6)) []]) (by kernel_rfl) (cj ((slices_symMergeCmpFunc_impl_Acct_impl_Gather_1_c7_ok a2 v6 v7 v8 r7 h29).at h30) (cj (by decide) (cj (od h32) (cj (map_ltN (od h32) h33) (cj rfl (cj (map_get h33) (cj (look_cons_self _ _ _) (cj (map_lt h33) (cj (od h34) (cj (map_ltN (od h34) h35) (cj ((look_cons_ne _ _ (od h36)).trans rfl) (cj (map_get h35) (cj (look_cons_self _ _ _) (cj (map_lt h35) (cj (impl_Gather_1_ok x5 x6 r8 h37) (cj (by simp [V.nv, nvL, nvL_all, nv_E3]) (cj (nt h38) (cj1 (nb_set2 E29 _ _ x5 _ x6))))))))))))))))))) (slices_symMergeCmpFunc_impl_Acct_impl_Gather_1_l2_ok a2 fuel (i64 ((i64 (bshr .u64 (u64 (i64 (v6 + v7))) 1)) + 1)) v7 ((v8.set a2.toNat x5).set ((i64 (bshr .u64 (u64 (i64 (v6 + v7))) 1)).toNat) x6))))) (fun h36 =>
     Pn.none))) (fun h34 =>
     Pn.none))) (fun h32 =>
     Pn.none)) (fun s8 h31 =>
     Pn.some (LpO.out [.wait 1, .mask [0, 2, 4, 14, 15], .ren [0], .join 5 (X.out 4) (st 220 [(0, V.ow 0), (2, V.sc (.int .i64 a2)), (14, V.sc (.int .i64 v6))] [Blk.row 29 (List.map E29 v8) []] [some 0]), .wait 1, .mask [0, 2, 14], .ren [0]] (p := [HT Try.prog (sub (codeOf Try.prog 192) [1, 0, 1, 0, 1, 1, 0, 0, 0, 0]) (st 220 [(0, V.ow 0), (2, V.sc (.int .i64 a2)), (4, V.fn 90 []), (14, V.sc (.int .i64 v6)), (15, V.sc (.int .i64 v7))] [Blk.row 29 (List.map E29 v8) []] [some 0]) (X.out 4) (st 220 [(0, V.ow 0), (2, V.sc (.int .i64 a2)), (14, V.sc (.int .i64 v6))] [Blk.row 29 (List.map E29 v8) []] [some 0])]) (by kernel_rfl) (show X.out 4 ≠ X.go from nofun) (cj1 ((slices_symMergeCmpFunc_impl_Acct_impl_Gather_1_c7_ok a2 v6 v7 v8 r7 h29).at h31)))))
def slices_symMergeCmpFunc_impl_Acct_impl_Gather_1_c9 (r9 : Int × (List Acct)) (v9 : Int) (v10 : List Acct) : Option (Lo Unit Unit) :=
 if (decide (r9.1 < v9)) = true then
 some (.out ())
 else
 some (.ret ())
theorem slices_symMergeCmpFunc_impl_Acct_impl_Gather_1_c9_ok (r9 : Int × (List Acct)) (v9 : Int) (v10 : List Acct) : Pn (JnO Try.prog (sub (codeOf Try.prog 192) [1, 0, 1, 0, 1, 1, 1, 0, 1, 0, 0, 0]) (st 220 [(0, V.ow 0), (14, V.sc (.int .i64 r9.1)), (17, V.sc (.int .i64 v9))] [Blk.row 29 (List.map E29 v10) []] [some 0]) (fun (y : Lo Unit Unit) => Lo.elim y (fun s => (X.go, st 220 [(0, V.ow 0), (14, V.sc (.int .i64 r9.1)), (17, V.sc (.int .i64 v9))] [Blk.row 29 (List.map E29 v10) []] [some 0])) (fun s => (X.out 6, st 220 [] [Blk.row 29 (List.map E29 v10) []] [some 0])))) (slices_symMergeCmpFunc_impl_Acct_impl_Gather_1_c9 r9 v9 v10) := by
  unfold slices_symMergeCmpFunc_impl_Acct_impl_Gather_1_c9
  exact
   Pn.ite (fun h40 =>
   Pn.some (JnO.of [.bit true, .mask [0, 14, 17], .ren [0]] (p := [(decide (r9.1 < v9)) = true]) (by kernel_rfl) (cj1 h40))) (fun h40 =>
   Pn.some (JnO.of [.bit false, .mask [], .ren [0]] (p := [(decide (r9.1 < v9)) = false]) (by kernel_rfl) (cj1 h40)))
def slices_symMergeCmpFunc_impl_Acct_impl_Gather_1_l3 (r9 : Int × (List Acct)) : Nat → Int → (List Acct) → Option ((List Acct))
  | 0, _, _ => none
  | fuel + 1, v9, v10 =>
   (slices_symMergeCmpFunc_impl_Acct_impl_Gather_1_c9 r9 v9 v10).bind fun r10 =>
   Lo.elim r10 (fun s9 =>
   if (decide (0 ≤ (i64 (v9 - 1)))) = true then
   (v10[(i64 (v9 - 1)).toNat]?).bind fun x7 =>
   if (decide (0 ≤ v9)) = true then
   (v10[v9.toNat]?).bind fun x8 =>
   if (decide (¬ v9.toNat = ((i64 (v9 - 1)).toNat))) = true then
   slices_symMergeCmpFunc_impl_Acct_impl_Gather_1_l3 r9 fuel (i64 (v9 - 1)) ((v10.set v9.toNat x7).set ((i64 (v9 - 1)).toNat) x8)
   else none
   else none
   else none) (fun s10 =>
   some v10)
theorem slices_symMergeCmpFunc_impl_Acct_impl_Gather_1_l3_ok (r9 : Int × (List Acct)) : ∀ (fuel : Nat) (v9 : Int) (v10 : List Acct), Pn (LpO Try.prog (sub (codeOf Try.prog 192) [1, 0, 1, 0, 1, 1, 1, 0, 1, 0, 0]) (st 220 [(0, V.ow 0), (14, V.sc (.int .i64 r9.1)), (17, V.sc (.int .i64 v9))] [Blk.row 29 (List.map E29 v10) []] [some 0]) (fun (y : (List Acct)) => (X.out 6, st 220 [] [Blk.row 29 (List.map E29 y) []] [some 0]))) (slices_symMergeCmpFunc_impl_Acct_impl_Gather_1_l3 r9 fuel v9 v10)
  | 0, _, _ => Pn.none
  | fuel + 1, v9, v10 => by
    unfold slices_symMergeCmpFunc_impl_Acct_impl_Gather_1_l3
    exact
     Pn.bind (fun r10 h41 =>
     Pn.lo (fun s9 h42 =>
     Pn.ite (fun h44 =>
     Pn.bind (fun x7 h45 =>
     Pn.ite (fun h46 =>
     Pn.bind (fun x8 h47 =>
     Pn.ite (fun h48 =>
     LpO.go [.wait 1, .mask [0, 14, 17], .ren [0], .join 5 (X.go) (st 220 [(0, V.ow 0), (14, V.sc (.int .i64 r9.1)), (17, V.sc (.int .i64 v9))] [Blk.row 29 (List.map E29 v10) []] [some 0]), .draw [15, 17], .wait 5, .foc 0 ((i64 (v9 - 1)).toNat) (E29 x7), .fo 0, .wait 3, .foc 0 v9.toNat (E29 x8), .fo 0, .loop .go ((slices_symMergeCmpFunc_impl_Acct_impl_Gather_1_s4 r9 v9 x7 x8 v10)), .loop .go ((slices_symMergeCmpFunc_impl_Acct_impl_Gather_1_s4 r9 v9 x7 x8 v10)), .loop .go ((slices_symMergeCmpFunc_impl_Acct_impl_Gather_1_s4 r9 v9 x7 x8 v10)), .fo 0, .fo 1, .ren [0, 5, 6, 7, 8, 1, 2, 3, 4], .fo 0, .fo 1, .ren [0, 5, 6, 7, 8, 1, 2, 3, 4], .ren [0, 1, 2, 3, 4, 5, 6, 7, 8], .fo 0, .fo 1, .ren [0, 5, 6, 7, 8, 1, 2, 3, 4], .ren [0, 1, 2, 3, 4, 5, 6, 7, 8], .loop .go ((slices_symMergeCmpFunc_impl_Acct_impl_Gather_1_s4 r9 v9 x7 x8 v10)), .loop .go ((slices_symMergeCmpFunc_impl_Acct_impl_Gather_1_s4 r9 v9 x7 x8 v10)), .fo 0, .fo 1, .ren [0, 5, 6, 7, 8, 1, 2, 3, 4], .fo 0, .fo 1, .ren [0, 5, 6, 7, 8, 1, 2, 3, 4], .ren [0, 1, 2, 3, 4, 5, 6, 7, 8], .loop .go ((slices_symMergeCmpFunc_impl_Acct_impl_Gather_1_s4 r9 v9 x7 x8 v10)), .fo 0, .fo 1, .ren [0, 5, 6, 7, 8, 1, 2, 3, 4], .fo 0, .fo 1, .ren [0, 5, 6, 7, 8, 1, 2, 3, 4], .ren [0, 1, 2, 3, 4, 5, 6, 7, 8], .fo 0, .fo 1, .ren [0, 5, 6, 7, 8, 1, 2, 3, 4], .ren [0, 1, 2, 3, 4, 5, 6, 7, 8], .fo 0, .fo 1, .ren [0, 5, 6, 7, 8, 1, 2, 3, 4], .wait 4, .shut 0, .nb 0 (.row 29 (List.map E29 ((v10.set v9.toNat x7).set ((i64 (v9 - 1)).toNat) x8)) []), .mask [0, 14, 17], .ren [0]] (p := [HT Try.prog (sub (codeOf Try.prog 192) [1, 0, 1, 0, 1, 1, 1, 0, 1, 0, 0, 0]) (st 220 [(0, V.ow 0), (14, V.sc (.int .i64 r9.1)), (17, V.sc (.int .i64 v9))] [Blk.row 29 (List.map E29 v10) []] [some 0]) (X.go) (st 220 [(0, V.ow 0), (14, V.sc (.int .i64 r9.1)), (17, V.sc (.int .i64 v9))] [Blk.row 29 (List.map E29 v10) []] [some 0]),
      (0 : Int) ≤ (i64 (v9 - 1)),
      ((i64 (v9 - 1)) : Int) < ((List.map E29 v10).length : Int),
      look [] ((i64 (v9 - 1)).toNat) = none,
      (List.map E29 v10)[(i64 (v9 - 1)).toNat]? = some (E29 x7),
      look [((i64 (v9 - 1)).toNat, V.agg [V.sc (.string x7.Id), V.sc (.int .i64 x7.Limit), V.sc (.int .i64 x7.Posted), V.sc (.int .i64 x7.Most), V.sc (.int .i64 x7.MostSum), V.ow 1, V.sc (.int .i64 x7.Ring.Span), V.sc (.int .i64 x7.Ring.Head), V.ow 2, V.ow 3, V.ow 4])] ((i64 (v9 - 1)).toNat) = some (V.agg [V.sc (.string x7.Id), V.sc (.int .i64 x7.Limit), V.sc (.int .i64 x7.Posted), V.sc (.int .i64 x7.Most), V.sc (.int .i64 x7.MostSum), V.ow 1, V.sc (.int .i64 x7.Ring.Span), V.sc (.int .i64 x7.Ring.Head), V.ow 2, V.ow 3, V.ow 4]),
      ((i64 (v9 - 1)).toNat) < (List.map E29 v10).length,
      (0 : Int) ≤ v9,
      (v9 : Int) < ((List.map E29 v10).length : Int),
      look [((i64 (v9 - 1)).toNat, V.agg [V.sc (.string x7.Id), V.sc (.int .i64 x7.Limit), V.sc (.int .i64 x7.Posted), V.sc (.int .i64 x7.Most), V.sc (.int .i64 x7.MostSum), V.ow 1, V.sc (.int .i64 x7.Ring.Span), V.sc (.int .i64 x7.Ring.Head), V.ow 2, V.ow 3, V.ow 4])] v9.toNat = none,
      (List.map E29 v10)[v9.toNat]? = some (E29 x8),
      look [(v9.toNat, V.agg [V.sc (.string x8.Id), V.sc (.int .i64 x8.Limit), V.sc (.int .i64 x8.Posted), V.sc (.int .i64 x8.Most), V.sc (.int .i64 x8.MostSum), V.ow 5, V.sc (.int .i64 x8.Ring.Span), V.sc (.int .i64 x8.Ring.Head), V.ow 6, V.ow 7, V.ow 8]), ((i64 (v9 - 1)).toNat, V.agg [V.sc (.string x7.Id), V.sc (.int .i64 x7.Limit), V.sc (.int .i64 x7.Posted), V.sc (.int .i64 x7.Most), V.sc (.int .i64 x7.MostSum), V.ow 1, V.sc (.int .i64 x7.Ring.Span), V.sc (.int .i64 x7.Ring.Head), V.ow 2, V.ow 3, V.ow 4])] v9.toNat = some (V.agg [V.sc (.string x8.Id), V.sc (.int .i64 x8.Limit), V.sc (.int .i64 x8.Posted), V.sc (.int .i64 x8.Most), V.sc (.int .i64 x8.MostSum), V.ow 5, V.sc (.int .i64 x8.Ring.Span), V.sc (.int .i64 x8.Ring.Head), V.ow 6, V.ow 7, V.ow 8]),
      v9.toNat < (List.map E29 v10).length,
      (0 : Int) ≤ v9,
      (v9 : Int) < ((List.map E29 v10).length : Int),
      look [(v9.toNat, V.agg [V.sc (.string x8.Id), V.sc (.int .i64 x8.Limit), V.sc (.int .i64 x8.Posted), V.sc (.int .i64 x8.Most), V.sc (.int .i64 x8.MostSum), V.ow 5, V.sc (.int .i64 x8.Ring.Span), V.sc (.int .i64 x8.Ring.Head), V.ow 6, V.ow 7, V.ow 8]), ((i64 (v9 - 1)).toNat, V.agg [V.sc (.string x7.Id), V.sc (.int .i64 x7.Limit), V.sc (.int .i64 x7.Posted), V.sc (.int .i64 x7.Most), V.sc (.int .i64 x7.MostSum), V.ow 1, V.sc (.int .i64 x7.Ring.Span), V.sc (.int .i64 x7.Ring.Head), V.ow 2, V.ow 3, V.ow 4])] v9.toNat = some (V.agg [V.sc (.string x8.Id), V.sc (.int .i64 x8.Limit), V.sc (.int .i64 x8.Posted), V.sc (.int .i64 x8.Most), V.sc (.int .i64 x8.MostSum), V.ow 5, V.sc (.int .i64 x8.Ring.Span), V.sc (.int .i64 x8.Ring.Head), V.ow 6, V.ow 7, V.ow 8]),
      v9.toNat < (List.map E29 v10).length,
      v9.toNat = v9.toNat,
      (0 : Int) ≤ (i64 (v9 - 1)),
      ((i64 (v9 - 1)) : Int) < ((List.map E29 v10).length : Int),
      look [(v9.toNat, V.agg [V.sc (.string x7.Id), V.sc (.int .i64 x7.Limit), V.sc (.int .i64 x7.Posted), V.sc (.int .i64 x7.Most), V.sc (.int .i64 x7.MostSum), V.ow 1, V.sc (.int .i64 x7.Ring.Span), V.sc (.int .i64 x7.Ring.Head), V.ow 2, V.ow 3, V.ow 4]), ((i64 (v9 - 1)).toNat, V.agg [V.sc (.string x7.Id), V.sc (.int .i64 x7.Limit), V.sc (.int .i64 x7.Posted), V.sc (.int .i64 x7.Most), V.sc (.int .i64 x7.MostSum), V.ow 1, V.sc (.int .i64 x7.Ring.Span), V.sc (.int .i64 x7.Ring.Head), V.ow 2, V.ow 3, V.ow 4])] ((i64 (v9 - 1)).toNat) = some (V.agg [V.sc (.string x7.Id), V.sc (.int .i64 x7.Limit), V.sc (.int .i64 x7.Posted), V.sc (.int .i64 x7.Most), V.sc (.int .i64 x7.MostSum), V.ow 1, V.sc (.int .i64 x7.Ring.Span), V.sc (.int .i64 x7.Ring.Head), V.ow 2, V.ow 3, V.ow 4]),
      ((i64 (v9 - 1)).toNat) < (List.map E29 v10).length,
      ((i64 (v9 - 1)).toNat) = ((i64 (v9 - 1)).toNat),
      (slices_symMergeCmpFunc_impl_Acct_impl_Gather_1_s4 r9 v9 x7 x8 v10) = (slices_symMergeCmpFunc_impl_Acct_impl_Gather_1_s4 r9 v9 x7 x8 v10),
      look [(v9.toNat, V.agg [V.sc (.string x8.Id), V.sc (.int .i64 x8.Limit), V.sc (.int .i64 x8.Posted), V.sc (.int .i64 x8.Most), V.sc (.int .i64 x8.MostSum), V.ow 5, V.sc (.int .i64 x8.Ring.Span), V.sc (.int .i64 x8.Ring.Head), V.ow 6, V.ow 7, V.ow 8]), ((i64 (v9 - 1)).toNat, V.agg [V.sc (.string x7.Id), V.sc (.int .i64 x7.Limit), V.sc (.int .i64 x7.Posted), V.sc (.int .i64 x7.Most), V.sc (.int .i64 x7.MostSum), V.ow 1, V.sc (.int .i64 x7.Ring.Span), V.sc (.int .i64 x7.Ring.Head), V.ow 2, V.ow 3, V.ow 4])] v9.toNat = some (V.agg [V.sc (.string x8.Id), V.sc (.int .i64 x8.Limit), V.sc (.int .i64 x8.Posted), V.sc (.int .i64 x8.Most), V.sc (.int .i64 x8.MostSum), V.ow 5, V.sc (.int .i64 x8.Ring.Span), V.sc (.int .i64 x8.Ring.Head), V.ow 6, V.ow 7, V.ow 8]),
      v9.toNat < (List.map E29 v10).length,
      v9.toNat = v9.toNat,
      (0 : Int) ≤ (i64 (v9 - 1)),
      ((i64 (v9 - 1)) : Int) < ((List.map E29 v10).length : Int),
      look [(v9.toNat, V.agg [V.sc (.string x7.Id), V.sc (.int .i64 x7.Limit), V.sc (.int .i64 x7.Posted), V.sc (.int .i64 x7.Most), V.sc (.int .i64 x7.MostSum), V.ow 1, V.sc (.int .i64 x7.Ring.Span), V.sc (.int .i64 x7.Ring.Head), V.ow 2, V.ow 3, V.ow 4]), ((i64 (v9 - 1)).toNat, V.agg [V.sc (.string x7.Id), V.sc (.int .i64 x7.Limit), V.sc (.int .i64 x7.Posted), V.sc (.int .i64 x7.Most), V.sc (.int .i64 x7.MostSum), V.ow 1, V.sc (.int .i64 x7.Ring.Span), V.sc (.int .i64 x7.Ring.Head), V.ow 2, V.ow 3, V.ow 4])] ((i64 (v9 - 1)).toNat) = some (V.agg [V.sc (.string x7.Id), V.sc (.int .i64 x7.Limit), V.sc (.int .i64 x7.Posted), V.sc (.int .i64 x7.Most), V.sc (.int .i64 x7.MostSum), V.ow 1, V.sc (.int .i64 x7.Ring.Span), V.sc (.int .i64 x7.Ring.Head), V.ow 2, V.ow 3, V.ow 4]),
      ((i64 (v9 - 1)).toNat) < (List.map E29 v10).length,
      ((i64 (v9 - 1)).toNat) = ((i64 (v9 - 1)).toNat),
      (slices_symMergeCmpFunc_impl_Acct_impl_Gather_1_s4 r9 v9 x7 x8 v10) = (slices_symMergeCmpFunc_impl_Acct_impl_Gather_1_s4 r9 v9 x7 x8 v10),
      (slices_symMergeCmpFunc_impl_Acct_impl_Gather_1_s4 r9 v9 x7 x8 v10) = (slices_symMergeCmpFunc_impl_Acct_impl_Gather_1_s4 r9 v9 x7 x8 v10),
      look [(v9.toNat, V.agg [V.sc (.string x8.Id), V.sc (.int .i64 x8.Limit), V.sc (.int .i64 x8.Posted), V.sc (.int .i64 x8.Most), V.sc (.int .i64 x8.MostSum), V.ow 5, V.sc (.int .i64 x8.Ring.Span), V.sc (.int .i64 x8.Ring.Head), V.ow 6, V.ow 7, V.ow 8]), ((i64 (v9 - 1)).toNat, V.agg [V.sc (.string x7.Id), V.sc (.int .i64 x7.Limit), V.sc (.int .i64 x7.Posted), V.sc (.int .i64 x7.Most), V.sc (.int .i64 x7.MostSum), V.ow 1, V.sc (.int .i64 x7.Ring.Span), V.sc (.int .i64 x7.Ring.Head), V.ow 2, V.ow 3, V.ow 4])] v9.toNat = some (V.agg [V.sc (.string x8.Id), V.sc (.int .i64 x8.Limit), V.sc (.int .i64 x8.Posted), V.sc (.int .i64 x8.Most), V.sc (.int .i64 x8.MostSum), V.ow 5, V.sc (.int .i64 x8.Ring.Span), V.sc (.int .i64 x8.Ring.Head), V.ow 6, V.ow 7, V.ow 8]),
      v9.toNat < (List.map E29 v10).length,
      v9.toNat = v9.toNat,
      (0 : Int) ≤ (i64 (v9 - 1)),
      ((i64 (v9 - 1)) : Int) < ((List.map E29 v10).length : Int),
      look [(v9.toNat, V.agg [V.sc (.string x7.Id), V.sc (.int .i64 x7.Limit), V.sc (.int .i64 x7.Posted), V.sc (.int .i64 x7.Most), V.sc (.int .i64 x7.MostSum), V.ow 1, V.sc (.int .i64 x7.Ring.Span), V.sc (.int .i64 x7.Ring.Head), V.ow 2, V.ow 3, V.ow 4]), ((i64 (v9 - 1)).toNat, V.agg [V.sc (.string x7.Id), V.sc (.int .i64 x7.Limit), V.sc (.int .i64 x7.Posted), V.sc (.int .i64 x7.Most), V.sc (.int .i64 x7.MostSum), V.ow 1, V.sc (.int .i64 x7.Ring.Span), V.sc (.int .i64 x7.Ring.Head), V.ow 2, V.ow 3, V.ow 4])] ((i64 (v9 - 1)).toNat) = some (V.agg [V.sc (.string x7.Id), V.sc (.int .i64 x7.Limit), V.sc (.int .i64 x7.Posted), V.sc (.int .i64 x7.Most), V.sc (.int .i64 x7.MostSum), V.ow 1, V.sc (.int .i64 x7.Ring.Span), V.sc (.int .i64 x7.Ring.Head), V.ow 2, V.ow 3, V.ow 4]),
      ((i64 (v9 - 1)).toNat) < (List.map E29 v10).length,
      ((i64 (v9 - 1)).toNat) = ((i64 (v9 - 1)).toNat),
      (slices_symMergeCmpFunc_impl_Acct_impl_Gather_1_s4 r9 v9 x7 x8 v10) = (slices_symMergeCmpFunc_impl_Acct_impl_Gather_1_s4 r9 v9 x7 x8 v10),
      (slices_symMergeCmpFunc_impl_Acct_impl_Gather_1_s4 r9 v9 x7 x8 v10) = (slices_symMergeCmpFunc_impl_Acct_impl_Gather_1_s4 r9 v9 x7 x8 v10),
      look [(v9.toNat, V.agg [V.sc (.string x8.Id), V.sc (.int .i64 x8.Limit), V.sc (.int .i64 x8.Posted), V.sc (.int .i64 x8.Most), V.sc (.int .i64 x8.MostSum), V.ow 5, V.sc (.int .i64 x8.Ring.Span), V.sc (.int .i64 x8.Ring.Head), V.ow 6, V.ow 7, V.ow 8]), ((i64 (v9 - 1)).toNat, V.agg [V.sc (.string x7.Id), V.sc (.int .i64 x7.Limit), V.sc (.int .i64 x7.Posted), V.sc (.int .i64 x7.Most), V.sc (.int .i64 x7.MostSum), V.ow 1, V.sc (.int .i64 x7.Ring.Span), V.sc (.int .i64 x7.Ring.Head), V.ow 2, V.ow 3, V.ow 4])] v9.toNat = some (V.agg [V.sc (.string x8.Id), V.sc (.int .i64 x8.Limit), V.sc (.int .i64 x8.Posted), V.sc (.int .i64 x8.Most), V.sc (.int .i64 x8.MostSum), V.ow 5, V.sc (.int .i64 x8.Ring.Span), V.sc (.int .i64 x8.Ring.Head), V.ow 6, V.ow 7, V.ow 8]),
      v9.toNat < (List.map E29 v10).length,
      v9.toNat = v9.toNat,
      (0 : Int) ≤ (i64 (v9 - 1)),
      ((i64 (v9 - 1)) : Int) < ((List.map E29 v10).length : Int),
      look [(v9.toNat, V.agg [V.sc (.string x7.Id), V.sc (.int .i64 x7.Limit), V.sc (.int .i64 x7.Posted), V.sc (.int .i64 x7.Most), V.sc (.int .i64 x7.MostSum), V.ow 1, V.sc (.int .i64 x7.Ring.Span), V.sc (.int .i64 x7.Ring.Head), V.ow 2, V.ow 3, V.ow 4]), ((i64 (v9 - 1)).toNat, V.agg [V.sc (.string x7.Id), V.sc (.int .i64 x7.Limit), V.sc (.int .i64 x7.Posted), V.sc (.int .i64 x7.Most), V.sc (.int .i64 x7.MostSum), V.ow 1, V.sc (.int .i64 x7.Ring.Span), V.sc (.int .i64 x7.Ring.Head), V.ow 2, V.ow 3, V.ow 4])] ((i64 (v9 - 1)).toNat) = some (V.agg [V.sc (.string x7.Id), V.sc (.int .i64 x7.Limit), V.sc (.int .i64 x7.Posted), V.sc (.int .i64 x7.Most), V.sc (.int .i64 x7.MostSum), V.ow 1, V.sc (.int .i64 x7.Ring.Span), V.sc (.int .i64 x7.Ring.Head), V.ow 2, V.ow 3, V.ow 4]),
      ((i64 (v9 - 1)).toNat) < (List.map E29 v10).length,
      ((i64 (v9 - 1)).toNat) = ((i64 (v9 - 1)).toNat),
      (slices_symMergeCmpFunc_impl_Acct_impl_Gather_1_s4 r9 v9 x7 x8 v10) = (slices_symMergeCmpFunc_impl_Acct_impl_Gather_1_s4 r9 v9 x7 x8 v10),
      look [(v9.toNat, V.agg [V.sc (.string x8.Id), V.sc (.int .i64 x8.Limit), V.sc (.int .i64 x8.Posted), V.sc (.int .i64 x8.Most), V.sc (.int .i64 x8.MostSum), V.ow 5, V.sc (.int .i64 x8.Ring.Span), V.sc (.int .i64 x8.Ring.Head), V.ow 6, V.ow 7, V.ow 8]), ((i64 (v9 - 1)).toNat, V.agg [V.sc (.string x7.Id), V.sc (.int .i64 x7.Limit), V.sc (.int .i64 x7.Posted), V.sc (.int .i64 x7.Most), V.sc (.int .i64 x7.MostSum), V.ow 1, V.sc (.int .i64 x7.Ring.Span), V.sc (.int .i64 x7.Ring.Head), V.ow 2, V.ow 3, V.ow 4])] v9.toNat = some (V.agg [V.sc (.string x8.Id), V.sc (.int .i64 x8.Limit), V.sc (.int .i64 x8.Posted), V.sc (.int .i64 x8.Most), V.sc (.int .i64 x8.MostSum), V.ow 5, V.sc (.int .i64 x8.Ring.Span), V.sc (.int .i64 x8.Ring.Head), V.ow 6, V.ow 7, V.ow 8]),
      v9.toNat < (List.map E29 v10).length,
      v9.toNat = v9.toNat,
      (0 : Int) ≤ (i64 (v9 - 1)),
      ((i64 (v9 - 1)) : Int) < ((List.map E29 v10).length : Int),
      look [(v9.toNat, V.agg [V.sc (.string x7.Id), V.sc (.int .i64 x7.Limit), V.sc (.int .i64 x7.Posted), V.sc (.int .i64 x7.Most), V.sc (.int .i64 x7.MostSum), V.ow 1, V.sc (.int .i64 x7.Ring.Span), V.sc (.int .i64 x7.Ring.Head), V.ow 2, V.ow 3, V.ow 4]), ((i64 (v9 - 1)).toNat, V.agg [V.sc (.string x7.Id), V.sc (.int .i64 x7.Limit), V.sc (.int .i64 x7.Posted), V.sc (.int .i64 x7.Most), V.sc (.int .i64 x7.MostSum), V.ow 1, V.sc (.int .i64 x7.Ring.Span), V.sc (.int .i64 x7.Ring.Head), V.ow 2, V.ow 3, V.ow 4])] ((i64 (v9 - 1)).toNat) = some (V.agg [V.sc (.string x7.Id), V.sc (.int .i64 x7.Limit), V.sc (.int .i64 x7.Posted), V.sc (.int .i64 x7.Most), V.sc (.int .i64 x7.MostSum), V.ow 1, V.sc (.int .i64 x7.Ring.Span), V.sc (.int .i64 x7.Ring.Head), V.ow 2, V.ow 3, V.ow 4]),
      ((i64 (v9 - 1)).toNat) < (List.map E29 v10).length,
      ((i64 (v9 - 1)).toNat) = ((i64 (v9 - 1)).toNat),
      (slices_symMergeCmpFunc_impl_Acct_impl_Gather_1_s4 r9 v9 x7 x8 v10) = (slices_symMergeCmpFunc_impl_Acct_impl_Gather_1_s4 r9 v9 x7 x8 v10),
      (slices_symMergeCmpFunc_impl_Acct_impl_Gather_1_s4 r9 v9 x7 x8 v10) = (slices_symMergeCmpFunc_impl_Acct_impl_Gather_1_s4 r9 v9 x7 x8 v10),
      look [(v9.toNat, V.agg [V.sc (.string x8.Id), V.sc (.int .i64 x8.Limit), V.sc (.int .i64 x8.Posted), V.sc (.int .i64 x8.Most), V.sc (.int .i64 x8.MostSum), V.ow 5, V.sc (.int .i64 x8.Ring.Span), V.sc (.int .i64 x8.Ring.Head), V.ow 6, V.ow 7, V.ow 8]), ((i64 (v9 - 1)).toNat, V.agg [V.sc (.string x7.Id), V.sc (.int .i64 x7.Limit), V.sc (.int .i64 x7.Posted), V.sc (.int .i64 x7.Most), V.sc (.int .i64 x7.MostSum), V.ow 1, V.sc (.int .i64 x7.Ring.Span), V.sc (.int .i64 x7.Ring.Head), V.ow 2, V.ow 3, V.ow 4])] v9.toNat = some (V.agg [V.sc (.string x8.Id), V.sc (.int .i64 x8.Limit), V.sc (.int .i64 x8.Posted), V.sc (.int .i64 x8.Most), V.sc (.int .i64 x8.MostSum), V.ow 5, V.sc (.int .i64 x8.Ring.Span), V.sc (.int .i64 x8.Ring.Head), V.ow 6, V.ow 7, V.ow 8]),
      v9.toNat < (List.map E29 v10).length,
      v9.toNat = v9.toNat,
      (0 : Int) ≤ (i64 (v9 - 1)),
      ((i64 (v9 - 1)) : Int) < ((List.map E29 v10).length : Int),
      look [(v9.toNat, V.agg [V.sc (.string x7.Id), V.sc (.int .i64 x7.Limit), V.sc (.int .i64 x7.Posted), V.sc (.int .i64 x7.Most), V.sc (.int .i64 x7.MostSum), V.ow 1, V.sc (.int .i64 x7.Ring.Span), V.sc (.int .i64 x7.Ring.Head), V.ow 2, V.ow 3, V.ow 4]), ((i64 (v9 - 1)).toNat, V.agg [V.sc (.string x7.Id), V.sc (.int .i64 x7.Limit), V.sc (.int .i64 x7.Posted), V.sc (.int .i64 x7.Most), V.sc (.int .i64 x7.MostSum), V.ow 1, V.sc (.int .i64 x7.Ring.Span), V.sc (.int .i64 x7.Ring.Head), V.ow 2, V.ow 3, V.ow 4])] ((i64 (v9 - 1)).toNat) = some (V.agg [V.sc (.string x7.Id), V.sc (.int .i64 x7.Limit), V.sc (.int .i64 x7.Posted), V.sc (.int .i64 x7.Most), V.sc (.int .i64 x7.MostSum), V.ow 1, V.sc (.int .i64 x7.Ring.Span), V.sc (.int .i64 x7.Ring.Head), V.ow 2, V.ow 3, V.ow 4]),
      ((i64 (v9 - 1)).toNat) < (List.map E29 v10).length,
      ((i64 (v9 - 1)).toNat) = ((i64 (v9 - 1)).toNat),
      (slices_symMergeCmpFunc_impl_Acct_impl_Gather_1_s4 r9 v9 x7 x8 v10) = (slices_symMergeCmpFunc_impl_Acct_impl_Gather_1_s4 r9 v9 x7 x8 v10),
      look [(v9.toNat, V.agg [V.sc (.string x8.Id), V.sc (.int .i64 x8.Limit), V.sc (.int .i64 x8.Posted), V.sc (.int .i64 x8.Most), V.sc (.int .i64 x8.MostSum), V.ow 5, V.sc (.int .i64 x8.Ring.Span), V.sc (.int .i64 x8.Ring.Head), V.ow 6, V.ow 7, V.ow 8]), ((i64 (v9 - 1)).toNat, V.agg [V.sc (.string x7.Id), V.sc (.int .i64 x7.Limit), V.sc (.int .i64 x7.Posted), V.sc (.int .i64 x7.Most), V.sc (.int .i64 x7.MostSum), V.ow 1, V.sc (.int .i64 x7.Ring.Span), V.sc (.int .i64 x7.Ring.Head), V.ow 2, V.ow 3, V.ow 4])] v9.toNat = some (V.agg [V.sc (.string x8.Id), V.sc (.int .i64 x8.Limit), V.sc (.int .i64 x8.Posted), V.sc (.int .i64 x8.Most), V.sc (.int .i64 x8.MostSum), V.ow 5, V.sc (.int .i64 x8.Ring.Span), V.sc (.int .i64 x8.Ring.Head), V.ow 6, V.ow 7, V.ow 8]),
      v9.toNat < (List.map E29 v10).length,
      v9.toNat = v9.toNat,
      (0 : Int) ≤ (i64 (v9 - 1)),
      ((i64 (v9 - 1)) : Int) < ((List.map E29 v10).length : Int),
      look [(v9.toNat, V.agg [V.sc (.string x7.Id), V.sc (.int .i64 x7.Limit), V.sc (.int .i64 x7.Posted), V.sc (.int .i64 x7.Most), V.sc (.int .i64 x7.MostSum), V.ow 1, V.sc (.int .i64 x7.Ring.Span), V.sc (.int .i64 x7.Ring.Head), V.ow 2, V.ow 3, V.ow 4]), ((i64 (v9 - 1)).toNat, V.agg [V.sc (.string x7.Id), V.sc (.int .i64 x7.Limit), V.sc (.int .i64 x7.Posted), V.sc (.int .i64 x7.Most), V.sc (.int .i64 x7.MostSum), V.ow 1, V.sc (.int .i64 x7.Ring.Span), V.sc (.int .i64 x7.Ring.Head), V.ow 2, V.ow 3, V.ow 4])] ((i64 (v9 - 1)).toNat) = some (V.agg [V.sc (.string x7.Id), V.sc (.int .i64 x7.Limit), V.sc (.int .i64 x7.Posted), V.sc (.int .i64 x7.Most), V.sc (.int .i64 x7.MostSum), V.ow 1, V.sc (.int .i64 x7.Ring.Span), V.sc (.int .i64 x7.Ring.Head), V.ow 2, V.ow 3, V.ow 4]),
      ((i64 (v9 - 1)).toNat) < (List.map E29 v10).length,
      ((i64 (v9 - 1)).toNat) = ((i64 (v9 - 1)).toNat),
      (slices_symMergeCmpFunc_impl_Acct_impl_Gather_1_s4 r9 v9 x7 x8 v10) = (slices_symMergeCmpFunc_impl_Acct_impl_Gather_1_s4 r9 v9 x7 x8 v10),
      (slices_symMergeCmpFunc_impl_Acct_impl_Gather_1_s4 r9 v9 x7 x8 v10) = (slices_symMergeCmpFunc_impl_Acct_impl_Gather_1_s4 r9 v9 x7 x8 v10),
      look [(v9.toNat, V.agg [V.sc (.string x8.Id), V.sc (.int .i64 x8.Limit), V.sc (.int .i64 x8.Posted), V.sc (.int .i64 x8.Most), V.sc (.int .i64 x8.MostSum), V.ow 5, V.sc (.int .i64 x8.Ring.Span), V.sc (.int .i64 x8.Ring.Head), V.ow 6, V.ow 7, V.ow 8]), ((i64 (v9 - 1)).toNat, V.agg [V.sc (.string x7.Id), V.sc (.int .i64 x7.Limit), V.sc (.int .i64 x7.Posted), V.sc (.int .i64 x7.Most), V.sc (.int .i64 x7.MostSum), V.ow 1, V.sc (.int .i64 x7.Ring.Span), V.sc (.int .i64 x7.Ring.Head), V.ow 2, V.ow 3, V.ow 4])] v9.toNat = some (V.agg [V.sc (.string x8.Id), V.sc (.int .i64 x8.Limit), V.sc (.int .i64 x8.Posted), V.sc (.int .i64 x8.Most), V.sc (.int .i64 x8.MostSum), V.ow 5, V.sc (.int .i64 x8.Ring.Span), V.sc (.int .i64 x8.Ring.Head), V.ow 6, V.ow 7, V.ow 8]),
      v9.toNat < (List.map E29 v10).length,
      v9.toNat = v9.toNat,
      (0 : Int) ≤ (i64 (v9 - 1)),
      ((i64 (v9 - 1)) : Int) < ((List.map E29 v10).length : Int),
      look [(v9.toNat, V.agg [V.sc (.string x7.Id), V.sc (.int .i64 x7.Limit), V.sc (.int .i64 x7.Posted), V.sc (.int .i64 x7.Most), V.sc (.int .i64 x7.MostSum), V.ow 1, V.sc (.int .i64 x7.Ring.Span), V.sc (.int .i64 x7.Ring.Head), V.ow 2, V.ow 3, V.ow 4]), ((i64 (v9 - 1)).toNat, V.agg [V.sc (.string x7.Id), V.sc (.int .i64 x7.Limit), V.sc (.int .i64 x7.Posted), V.sc (.int .i64 x7.Most), V.sc (.int .i64 x7.MostSum), V.ow 1, V.sc (.int .i64 x7.Ring.Span), V.sc (.int .i64 x7.Ring.Head), V.ow 2, V.ow 3, V.ow 4])] ((i64 (v9 - 1)).toNat) = some (V.agg [V.sc (.string x7.Id), V.sc (.int .i64 x7.Limit), V.sc (.int .i64 x7.Posted), V.sc (.int .i64 x7.Most), V.sc (.int .i64 x7.MostSum), V.ow 1, V.sc (.int .i64 x7.Ring.Span), V.sc (.int .i64 x7.Ring.Head), V.ow 2, V.ow 3, V.ow 4]),
      ((i64 (v9 - 1)).toNat) < (List.map E29 v10).length,
      ((i64 (v9 - 1)).toNat) = ((i64 (v9 - 1)).toNat),
      (slices_symMergeCmpFunc_impl_Acct_impl_Gather_1_s4 r9 v9 x7 x8 v10) = (slices_symMergeCmpFunc_impl_Acct_impl_Gather_1_s4 r9 v9 x7 x8 v10),
      (slices_symMergeCmpFunc_impl_Acct_impl_Gather_1_s4 r9 v9 x7 x8 v10) = (slices_symMergeCmpFunc_impl_Acct_impl_Gather_1_s4 r9 v9 x7 x8 v10),
      look [(v9.toNat, V.agg [V.sc (.string x8.Id), V.sc (.int .i64 x8.Limit), V.sc (.int .i64 x8.Posted), V.sc (.int .i64 x8.Most), V.sc (.int .i64 x8.MostSum), V.ow 5, V.sc (.int .i64 x8.Ring.Span), V.sc (.int .i64 x8.Ring.Head), V.ow 6, V.ow 7, V.ow 8]), ((i64 (v9 - 1)).toNat, V.agg [V.sc (.string x7.Id), V.sc (.int .i64 x7.Limit), V.sc (.int .i64 x7.Posted), V.sc (.int .i64 x7.Most), V.sc (.int .i64 x7.MostSum), V.ow 1, V.sc (.int .i64 x7.Ring.Span), V.sc (.int .i64 x7.Ring.Head), V.ow 2, V.ow 3, V.ow 4])] v9.toNat = some (V.agg [V.sc (.string x8.Id), V.sc (.int .i64 x8.Limit), V.sc (.int .i64 x8.Posted), V.sc (.int .i64 x8.Most), V.sc (.int .i64 x8.MostSum), V.ow 5, V.sc (.int .i64 x8.Ring.Span), V.sc (.int .i64 x8.Ring.Head), V.ow 6, V.ow 7, V.ow 8]),
      v9.toNat < (List.map E29 v10).length,
      v9.toNat = v9.toNat,
      (0 : Int) ≤ (i64 (v9 - 1)),
      ((i64 (v9 - 1)) : Int) < ((List.map E29 v10).length : Int),
      look [(v9.toNat, V.agg [V.sc (.string x7.Id), V.sc (.int .i64 x7.Limit), V.sc (.int .i64 x7.Posted), V.sc (.int .i64 x7.Most), V.sc (.int .i64 x7.MostSum), V.ow 1, V.sc (.int .i64 x7.Ring.Span), V.sc (.int .i64 x7.Ring.Head), V.ow 2, V.ow 3, V.ow 4]), ((i64 (v9 - 1)).toNat, V.agg [V.sc (.string x7.Id), V.sc (.int .i64 x7.Limit), V.sc (.int .i64 x7.Posted), V.sc (.int .i64 x7.Most), V.sc (.int .i64 x7.MostSum), V.ow 1, V.sc (.int .i64 x7.Ring.Span), V.sc (.int .i64 x7.Ring.Head), V.ow 2, V.ow 3, V.ow 4])] ((i64 (v9 - 1)).toNat) = some (V.agg [V.sc (.string x7.Id), V.sc (.int .i64 x7.Limit), V.sc (.int .i64 x7.Posted), V.sc (.int .i64 x7.Most), V.sc (.int .i64 x7.MostSum), V.ow 1, V.sc (.int .i64 x7.Ring.Span), V.sc (.int .i64 x7.Ring.Head), V.ow 2, V.ow 3, V.ow 4]),
      ((i64 (v9 - 1)).toNat) < (List.map E29 v10).length,
      ((i64 (v9 - 1)).toNat) = ((i64 (v9 - 1)).toNat),
      (slices_symMergeCmpFunc_impl_Acct_impl_Gather_1_s4 r9 v9 x7 x8 v10) = (slices_symMergeCmpFunc_impl_Acct_impl_Gather_1_s4 r9 v9 x7 x8 v10),
      Blk.row 29 (((List.map E29 v10).set v9.toNat (V.agg [V.sc (.string x7.Id), V.sc (.int .i64 x7.Limit), V.sc (.int .i64 x7.Posted), V.sc (.int .i64 x7.Most), V.sc (.int .i64 x7.MostSum), V.sl true 36 (List.map E36 x7.Holds), V.sc (.int .i64 x7.Ring.Span), V.sc (.int .i64 x7.Ring.Head), V.sl true 3 (List.map E3 x7.Ring.Counts), V.sl true 3 (List.map E3 x7.Ring.Sums), V.sl true 164 (List.map E164 x7.Slots)])).set ((i64 (v9 - 1)).toNat) (V.agg [V.sc (.string x8.Id), V.sc (.int .i64 x8.Limit), V.sc (.int .i64 x8.Posted), V.sc (.int .i64 x8.Most), V.sc (.int .i64 x8.MostSum), V.sl true 36 (List.map E36 x8.Holds), V.sc (.int .i64 x8.Ring.Span), V.sc (.int .i64 x8.Ring.Head), V.sl true 3 (List.map E3 x8.Ring.Counts), V.sl true 3 (List.map E3 x8.Ring.Sums), V.sl true 164 (List.map E164 x8.Slots)])) [] = Blk.row 29 (List.map E29 ((v10.set v9.toNat x7).set ((i64 (v9 - 1)).toNat) x8)) []]) (by kernel_rfl) (cj ((slices_symMergeCmpFunc_impl_Acct_impl_Gather_1_c9_ok r9 v9 v10 r10 h41).at h42) (cj (od h44) (cj (map_ltN (od h44) h45) (cj rfl (cj (map_get h45) (cj (look_cons_self _ _ _) (cj (map_lt h45) (cj (od h46) (cj (map_ltN (od h46) h47) (cj ((look_cons_ne _ _ (od h48)).trans rfl) (cj (map_get h47) (cj (look_cons_self _ _ _) (cj (map_lt h47) (cj (od h46) (cj (map_ltN (od h46) h47) (cj (look_cons_self _ _ _) (cj (map_lt h47) (cj rfl (cj (od h44) (cj (map_ltN (od h44) h45) (cj ((look_cons_ne _ _ (fun z => od h48 z.symm)).trans (look_cons_self _ _ _)) (cj (map_lt h45) (cj rfl (cj rfl (cj (look_cons_self _ _ _) (cj (map_lt h47) (cj rfl (cj (od h44) (cj (map_ltN (od h44) h45) (cj ((look_cons_ne _ _ (fun z => od h48 z.symm)).trans (look_cons_self _ _ _)) (cj (map_lt h45) (cj rfl (cj rfl (cj rfl (cj (look_cons_self _ _ _) (cj (map_lt h47) (cj rfl (cj (od h44) (cj (map_ltN (od h44) h45) (cj ((look_cons_ne _ _ (fun z => od h48 z.symm)).trans (look_cons_self _ _ _)) (cj (map_lt h45) (cj rfl (cj rfl (cj rfl (cj (look_cons_self _ _ _) (cj (map_lt h47) (cj rfl (cj (od h44) (cj (map_ltN (od h44) h45) (cj ((look_cons_ne _ _ (fun z => od h48 z.symm)).trans (look_cons_self _ _ _)) (cj (map_lt h45) (cj rfl (cj rfl (cj (look_cons_self _ _ _) (cj (map_lt h47) (cj rfl (cj (od h44) (cj (map_ltN (od h44) h45) (cj ((look_cons_ne _ _ (fun z => od h48 z.symm)).trans (look_cons_self _ _ _)) (cj (map_lt h45) (cj rfl (cj rfl (cj rfl (cj (look_cons_self _ _ _) (cj (map_lt h47) (cj rfl (cj (od h44) (cj (map_ltN (od h44) h45) (cj ((look_cons_ne _ _ (fun z => od h48 z.symm)).trans (look_cons_self _ _ _)) (cj (map_lt h45) (cj rfl (cj rfl (cj (look_cons_self _ _ _) (cj (map_lt h47) (cj rfl (cj (od h44) (cj (map_ltN (od h44) h45) (cj ((look_cons_ne _ _ (fun z => od h48 z.symm)).trans (look_cons_self _ _ _)) (cj (map_lt h45) (cj rfl (cj rfl (cj rfl (cj (look_cons_self _ _ _) (cj (map_lt h47) (cj rfl (cj (od h44) (cj (map_ltN (od h44) h45) (cj ((look_cons_ne _ _ (fun z => od h48 z.symm)).trans (look_cons_self _ _ _)) (cj (map_lt h45) (cj rfl (cj rfl (cj rfl (cj (look_cons_self _ _ _) (cj (map_lt h47) (cj rfl (cj (od h44) (cj (map_ltN (od h44) h45) (cj ((look_cons_ne _ _ (fun z => od h48 z.symm)).trans (look_cons_self _ _ _)) (cj (map_lt h45) (cj rfl (cj rfl (cj1 (nb_set2 E29 _ _ x7 _ x8))))))))))))))))))))))))))))))))))))))))))))))))))))))))))))))))))))))))))))))))))))))))))))))))))))))) (slices_symMergeCmpFunc_impl_Acct_impl_Gather_1_l3_ok r9 fuel (i64 (v9 - 1)) ((v10.set v9.toNat x7).set ((i64 (v9 - 1)).toNat) x8))) (fun h48 =>
     Pn.none))) (fun h46 =>
     Pn.none))) (fun h44 =>
     Pn.none)) (fun s10 h43 =>
     Pn.some (LpO.out [.wait 1, .mask [0, 14, 17], .ren [0], .join 5 (X.out 6) (st 220 [] [Blk.row 29 (List.map E29 v10) []] [some 0]), .wait 1, .mask [], .ren [0]] (p := [HT Try.prog (sub (codeOf Try.prog 192) [1, 0, 1, 0, 1, 1, 1, 0, 1, 0, 0, 0]) (st 220 [(0, V.ow 0), (14, V.sc (.int .i64 r9.1)), (17, V.sc (.int .i64 v9))] [Blk.row 29 (List.map E29 v10) []] [some 0]) (X.out 6) (st 220 [] [Blk.row 29 (List.map E29 v10) []] [some 0])]) (by kernel_rfl) (show X.out 6 ≠ X.go from nofun) (cj1 ((slices_symMergeCmpFunc_impl_Acct_impl_Gather_1_c9_ok r9 v9 v10 r10 h41).at h43)))))
def slices_symMergeCmpFunc_impl_Acct_impl_Gather_1_c5 (o : List Acct) (o_ : Int) (a2 : Int) (a3 : Int) : Option (Lo Unit ((List Acct))) :=
 if ((i64 (a3 - a2)) == 1) = true then
 (slices_symMergeCmpFunc_impl_Acct_impl_Gather_1_l2 a2 FUEL o_ a2 o).bind fun r9 =>
 (slices_symMergeCmpFunc_impl_Acct_impl_Gather_1_l3 r9 FUEL a2 r9.2).bind fun r11 =>
 some (.ret r11)
 else
 some (.out ())
theorem slices_symMergeCmpFunc_impl_Acct_impl_Gather_1_c5_ok (o : List Acct) (o_ : Int) (a2 : Int) (a3 : Int) : Pn (JnO Try.prog (sub (codeOf Try.prog 192) [1, 0]) (st 220 [(0, V.ow 0), (1, V.sc (.int .i64 o_)), (2, V.sc (.int .i64 a2)), (3, V.sc (.int .i64 a3)), (4, V.fn 90 [])] [Blk.row 29 (List.map E29 o) []] [some 0]) (fun (y : Lo Unit ((List Acct))) => Lo.elim y (fun s => (X.go, st 220 [(0, V.ow 0), (1, V.sc (.int .i64 o_)), (2, V.sc (.int .i64 a2)), (3, V.sc (.int .i64 a3)), (4, V.fn 90 [])] [Blk.row 29 (List.map E29 o) []] [some 0])) (fun s => (X.ret, st 220 [] [Blk.row 29 (List.map E29 s) []] [some 0])))) (slices_symMergeCmpFunc_impl_Acct_impl_Gather_1_c5 o o_ a2 a3) := by
  unfold slices_symMergeCmpFunc_impl_Acct_impl_Gather_1_c5
  exact
   Pn.ite (fun h27 =>
   Pn.bind (fun r9 h39 =>
   Pn.bind (fun r11 h49 =>
   Pn.some (JnO.of [.bit true, .wait 4, .mask [0, 2, 4, 14, 15], .ren [0], .loop (X.out 4) (st 220 [(0, V.ow 0), (2, V.sc (.int .i64 a2)), (14, V.sc (.int .i64 r9.1))] [Blk.row 29 (List.map E29 r9.2) []] [some 0]), .wait 3, .mask [0, 14, 17], .ren [0], .loop (X.out 6) (st 220 [] [Blk.row 29 (List.map E29 r11) []] [some 0]), .wait 1, .mask [], .ren [0]] (p := [((i64 (a3 - a2)) == 1) = true,
    Loop Try.prog (sub (codeOf Try.prog 192) [1, 0, 1, 0, 1, 1, 0, 0, 0]) (st 220 [(0, V.ow 0), (2, V.sc (.int .i64 a2)), (4, V.fn 90 []), (14, V.sc (.int .i64 o_)), (15, V.sc (.int .i64 a2))] [Blk.row 29 (List.map E29 o) []] [some 0]) (X.out 4) (st 220 [(0, V.ow 0), (2, V.sc (.int .i64 a2)), (14, V.sc (.int .i64 r9.1))] [Blk.row 29 (List.map E29 r9.2) []] [some 0]),
    Loop Try.prog (sub (codeOf Try.prog 192) [1, 0, 1, 0, 1, 1, 1, 0, 1, 0, 0]) (st 220 [(0, V.ow 0), (14, V.sc (.int .i64 r9.1)), (17, V.sc (.int .i64 a2))] [Blk.row 29 (List.map E29 r9.2) []] [some 0]) (X.out 6) (st 220 [] [Blk.row 29 (List.map E29 r11) []] [some 0])]) (by kernel_rfl) (cj h27 (cj (slices_symMergeCmpFunc_impl_Acct_impl_Gather_1_l2_ok a2 FUEL o_ a2 o r9 h39) (cj1 (slices_symMergeCmpFunc_impl_Acct_impl_Gather_1_l3_ok r9 FUEL a2 r9.2 r11 h49)))))))) (fun h27 =>
   Pn.some (JnO.of [.bit false, .mask [0, 1, 2, 3, 4], .ren [0]] (p := [((i64 (a3 - a2)) == 1) = false]) (by kernel_rfl) (cj1 h27)))
def slices_symMergeCmpFunc_impl_Acct_impl_Gather_1_c10 (o : List Acct) (o_ : Int) (a2 : Int) (a3 : Int) : Option (Int × Int) :=
 if (decide ((i64 (bshr .u64 (u64 (i64 (o_ + a3))) 1)) < a2)) = true then
 some (i64 ((i64 ((i64 (bshr .u64 (u64 (i64 (o_ + a3))) 1)) + a2)) - a3), i64 (bshr .u64 (u64 (i64 (o_ + a3))) 1))
 else
 some (o_, a2)
theorem slices_symMergeCmpFunc_impl_Acct_impl_Gather_1_c10_ok (o : List Acct) (o_ : Int) (a2 : Int) (a3 : Int) : Pn (JnO Try.prog (sub (codeOf Try.prog 192) [1, 1, 1, 1, 1, 0]) (st 220 [(0, V.ow 0), (1, V.sc (.int .i64 o_)), (2, V.sc (.int .i64 a2)), (3, V.sc (.int .i64 a3)), (4, V.fn 90 []), (18, V.sc (.int .i64 (i64 (bshr .u64 (u64 (i64 (o_ + a3))) 1)))), (19, V.sc (.int .i64 (i64 ((i64 (bshr .u64 (u64 (i64 (o_ + a3))) 1)) + a2))))] [Blk.row 29 (List.map E29 o) []] [some 0]) (fun (y : Int × Int) => (X.go, st 220 [(0, V.ow 0), (1, V.sc (.int .i64 o_)), (2, V.sc (.int .i64 a2)), (3, V.sc (.int .i64 a3)), (4, V.fn 90 []), (18, V.sc (.int .i64 (i64 (bshr .u64 (u64 (i64 (o_ + a3))) 1)))), (19, V.sc (.int .i64 (i64 ((i64 (bshr .u64 (u64 (i64 (o_ + a3))) 1)) + a2)))), (20, V.sc (.int .i64 y.1)), (21, V.sc (.int .i64 y.2))] [Blk.row 29 (List.map E29 o) []] [some 0]))) (slices_symMergeCmpFunc_impl_Acct_impl_Gather_1_c10 o o_ a2 a3) := by
  unfold slices_symMergeCmpFunc_impl_Acct_impl_Gather_1_c10
  exact
   Pn.ite (fun h53 =>
   Pn.some (JnO.of [.bit true, .wait 6, .mask [0, 1, 2, 3, 4, 18, 19, 20, 21], .ren [0]] (p := [(decide ((i64 (bshr .u64 (u64 (i64 (o_ + a3))) 1)) < a2)) = true]) (by kernel_rfl) (cj1 h53))) (fun h53 =>
   Pn.some (JnO.of [.bit false, .wait 4, .mask [0, 1, 2, 3, 4, 18, 19, 20, 21], .ren [0]] (p := [(decide ((i64 (bshr .u64 (u64 (i64 (o_ + a3))) 1)) < a2)) = false]) (by kernel_rfl) (cj1 h53)))
def slices_symMergeCmpFunc_impl_Acct_impl_Gather_1_c12 (o_ : Int) (a2 : Int) (a3 : Int) (v11 : Int) (v12 : Int) (v13 : List Acct) : Option (Lo Unit Unit) :=
 if (decide (v11 < v12)) = true then
 some (.out ())
 else
 some (.ret ())
theorem slices_symMergeCmpFunc_impl_Acct_impl_Gather_1_c12_ok (o_ : Int) (a2 : Int) (a3 : Int) (v11 : Int) (v12 : Int) (v13 : List Acct) : Pn (JnO Try.prog (sub (codeOf Try.prog 192) [1, 1, 1, 1, 1, 1, 1, 0, 0, 0, 0]) (st 220 [(0, V.ow 0), (1, V.sc (.int .i64 o_)), (2, V.sc (.int .i64 a2)), (3, V.sc (.int .i64 a3)), (4, V.fn 90 []), (18, V.sc (.int .i64 (i64 (bshr .u64 (u64 (i64 (o_ + a3))) 1)))), (19, V.sc (.int .i64 (i64 ((i64 (bshr .u64 (u64 (i64 (o_ + a3))) 1)) + a2)))), (20, V.sc (.int .i64 v11)), (21, V.sc (.int .i64 v12)), (22, V.sc (.int .i64 (i64 ((i64 ((i64 (bshr .u64 (u64 (i64 (o_ + a3))) 1)) + a2)) - 1))))] [Blk.row 29 (List.map E29 v13) []] [some 0]) (fun (y : Lo Unit Unit) => Lo.elim y (fun s => (X.go, st 220 [(0, V.ow 0), (1, V.sc (.int .i64 o_)), (2, V.sc (.int .i64 a2)), (3, V.sc (.int .i64 a3)), (4, V.fn 90 []), (18, V.sc (.int .i64 (i64 (bshr .u64 (u64 (i64 (o_ + a3))) 1)))), (19, V.sc (.int .i64 (i64 ((i64 (bshr .u64 (u64 (i64 (o_ + a3))) 1)) + a2)))), (20, V.sc (.int .i64 v11)), (21, V.sc (.int .i64 v12)), (22, V.sc (.int .i64 (i64 ((i64 ((i64 (bshr .u64 (u64 (i64 (o_ + a3))) 1)) + a2)) - 1))))] [Blk.row 29 (List.map E29 v13) []] [some 0])) (fun s => (X.out 8, st 220 [(0, V.ow 0), (1, V.sc (.int .i64 o_)), (2, V.sc (.int .i64 a2)), (3, V.sc (.int .i64 a3)), (4, V.fn 90 []), (18, V.sc (.int .i64 (i64 (bshr .u64 (u64 (i64 (o_ + a3))) 1)))), (19, V.sc (.int .i64 (i64 ((i64 (bshr .u64 (u64 (i64 (o_ + a3))) 1)) + a2)))), (20, V.sc (.int .i64 v11))] [Blk.row 29 (List.map E29 v13) []] [some 0])))) (slices_symMergeCmpFunc_impl_Acct_impl_Gather_1_c12 o_ a2 a3 v11 v12 v13) := by
  unfold slices_symMergeCmpFunc_impl_Acct_impl_Gather_1_c12
  exact
   Pn.ite (fun h55 =>
   Pn.some (JnO.of [.bit true, .mask [0, 1, 2, 3, 4, 18, 19, 20, 21, 22], .ren [0]] (p := [(decide (v11 < v12)) = true]) (by kernel_rfl) (cj1 h55))) (fun h55 =>
   Pn.some (JnO.of [.bit false, .mask [0, 1, 2, 3, 4, 18, 19, 20], .ren [0]] (p := [(decide (v11 < v12)) = false]) (by kernel_rfl) (cj1 h55)))
def slices_symMergeCmpFunc_impl_Acct_impl_Gather_1_l4 (o_ : Int) (a2 : Int) (a3 : Int) : Nat → Int → Int → (List Acct) → Option (Int × (List Acct))
  | 0, _, _, _ => none
  | fuel + 1, v11, v12, v13 =>
   (slices_symMergeCmpFunc_impl_Acct_impl_Gather_1_c12 o_ a2 a3 v11 v12 v13).bind fun r14 =>
   Lo.elim r14 (fun s13 =>
   if (decide (0 ≤ (i64 ((i64 ((i64 ((i64 (bshr .u64 (u64 (i64 (o_ + a3))) 1)) + a2)) - 1)) - (i64 (bshr .u64 (u64 (i64 (v11 + v12))) 1)))))) = true then
   (v13[(i64 ((i64 ((i64 ((i64 (bshr .u64 (u64 (i64 (o_ + a3))) 1)) + a2)) - 1)) - (i64 (bshr .u64 (u64 (i64 (v11 + v12))) 1)))).toNat]?).bind fun x9 =>
   if (decide (0 ≤ (i64 (bshr .u64 (u64 (i64 (v11 + v12))) 1)))) = true then
   (v13[(i64 (bshr .u64 (u64 (i64 (v11 + v12))) 1)).toNat]?).bind fun x10 =>
   if (decide (¬ ((i64 (bshr .u64 (u64 (i64 (v11 + v12))) 1)).toNat) = ((i64 ((i64 ((i64 ((i64 (bshr .u64 (u64 (i64 (o_ + a3))) 1)) + a2)) - 1)) - (i64 (bshr .u64 (u64 (i64 (v11 + v12))) 1)))).toNat))) = true then
   (impl_Gather_1 x9 x10).bind fun r15 =>
   if (decide (r15 < 0)) = true then
   slices_symMergeCmpFunc_impl_Acct_impl_Gather_1_l4 o_ a2 a3 fuel v11 (i64 (bshr .u64 (u64 (i64 (v11 + v12))) 1)) ((v13.set ((i64 ((i64 ((i64 ((i64 (bshr .u64 (u64 (i64 (o_ + a3))) 1)) + a2)) - 1)) - (i64 (bshr .u64 (u64 (i64 (v11 + v12))) 1)))).toNat) x9).set ((i64 (bshr .u64 (u64 (i64 (v11 + v12))) 1)).toNat) x10)
   else
   slices_symMergeCmpFunc_impl_Acct_impl_Gather_1_l4 o_ a2 a3 fuel (i64 ((i64 (bshr .u64 (u64 (i64 (v11 + v12))) 1)) + 1)) v12 ((v13.set ((i64 ((i64 ((i64 ((i64 (bshr .u64 (u64 (i64 (o_ + a3))) 1)) + a2)) - 1)) - (i64 (bshr .u64 (u64 (i64 (v11 + v12))) 1)))).toNat) x9).set ((i64 (bshr .u64 (u64 (i64 (v11 + v12))) 1)).toNat) x10)
   else none
   else none
   else none) (fun s14 =>
   some (v11, v13))
theorem slices_symMergeCmpFunc_impl_Acct_impl_Gather_1_l4_ok (o_ : Int) (a2 : Int) (a3 : Int) : ∀ (fuel : Nat) (v11 : Int) (v12 : Int) (v13 : List Acct), Pn (LpO Try.prog (sub (codeOf Try.prog 192) [1, 1, 1, 1, 1, 1, 1, 0, 0, 0]) (st 220 [(0, V.ow 0), (1, V.sc (.int .i64 o_)), (2, V.sc (.int .i64 a2)), (3, V.sc (.int .i64 a3)), (4, V.fn 90 []), (18, V.sc (.int .i64 (i64 (bshr .u64 (u64 (i64 (o_ + a3))) 1)))), (19, V.sc (.int .i64 (i64 ((i64 (bshr .u64 (u64 (i64 (o_ + a3))) 1)) + a2)))), (20, V.sc (.int .i64 v11)), (21, V.sc (.int .i64 v12)), (22, V.sc (.int .i64 (i64 ((i64 ((i64 (bshr .u64 (u64 (i64 (o_ + a3))) 1)) + a2)) - 1))))] [Blk.row 29 (List.map E29 v13) []] [some 0]) (fun (y : Int × (List Acct)) => (X.out 8, st 220 [(0, V.ow 0), (1, V.sc (.int .i64 o_)), (2, V.sc (.int .i64 a2)), (3, V.sc (.int .i64 a3)), (4, V.fn 90 []), (18, V.sc (.int .i64 (i64 (bshr .u64 (u64 (i64 (o_ + a3))) 1)))), (19, V.sc (.int .i64 (i64 ((i64 (bshr .u64 (u64 (i64 (o_ + a3))) 1)) + a2)))), (20, V.sc (.int .i64 y.1))] [Blk.row 29 (List.map E29 y.2) []] [some 0]))) (slices_symMergeCmpFunc_impl_Acct_impl_Gather_1_l4 o_ a2 a3 fuel v11 v12 v13)
  | 0, _, _, _ => Pn.none
  | fuel + 1, v11, v12, v13 => by
    unfold slices_symMergeCmpFunc_impl_Acct_impl_Gather_1_l4
    exact
     Pn.bind (fun r14 h56 =>
     Pn.lo (fun s13 h57 =>
     Pn.ite (fun h59 =>
     Pn.bind (fun x9 h60 =>
     Pn.ite (fun h61 =>
     Pn.bind (fun x10 h62 =>
     Pn.ite (fun h63 =>
     Pn.bind (fun r15 h64 =>
     Pn.ite (fun h65 =>
     LpO.go [.wait 1, .mask [0, 1, 2, 3, 4, 18, 19, 20, 21, 22], .ren [0], .join 5 (X.go) (st 220 [(0, V.ow 0), (1, V.sc (.int .i64 o_)), (2, V.sc (.int .i64 a2)), (3, V.sc (.int .i64 a3)), (4, V.fn 90 []), (18, V.sc (.int .i64 (i64 (bshr .u64 (u64 (i64 (o_ + a3))) 1)))), (19, V.sc (.int .i64 (i64 ((i64 (bshr .u64 (u64 (i64 (o_ + a3))) 1)) + a2)))), (20, V.sc (.int .i64 v11)), (21, V.sc (.int .i64 v12)), (22, V.sc (.int .i64 (i64 ((i64 ((i64 (bshr .u64 (u64 (i64 (o_ + a3))) 1)) + a2)) - 1))))] [Blk.row 29 (List.map E29 v13) []] [some 0]), .draw [], .wait 5, .foc 0 ((i64 ((i64 ((i64 ((i64 (bshr .u64 (u64 (i64 (o_ + a3))) 1)) + a2)) - 1)) - (i64 (bshr .u64 (u64 (i64 (v11 + v12))) 1)))).toNat) (E29 x9), .fo 0, .wait 3, .foc 0 ((i64 (bshr .u64 (u64 (i64 (v11 + v12))) 1)).toNat) (E29 x10), .fo 0, .call [] (E3 r15) [], .bit false, .wait 2, .shut 0, .nb 0 (.row 29 (List.map E29 ((v13.set ((i64 ((i64 ((i64 ((i64 (bshr .u64 (u64 (i64 (o_ + a3))) 1)) + a2)) - 1)) - (i64 (bshr .u64 (u64 (i64 (v11 + v12))) 1)))).toNat) x9).set ((i64 (bshr .u64 (u64 (i64 (v11 + v12))) 1)).toNat) x10)) []), .mask [0, 1, 2, 3, 4, 18, 19, 20, 21, 22], .ren [0]] (p := [HT Try.prog (sub (codeOf Try.prog 192) [1, 1, 1, 1, 1, 1, 1, 0, 0, 0, 0]) (st 220 [(0, V.ow 0), (1, V.sc (.int .i64 o_)), (2, V.sc (.int .i64 a2)), (3, V.sc (.int .i64 a3)), (4, V.fn 90 []), (18, V.sc (.int .i64 (i64 (bshr .u64 (u64 (i64 (o_ + a3))) 1)))), (19, V.sc (.int .i64 (i64 ((i64 (bshr .u64 (u64 (i64 (o_ + a3))) 1)) + a2)))), (20, V.sc (.int .i64 v11)), (21, V.sc (.int .i64 v12)), (22, V.sc (.int .i64 (i64 ((i64 ((i64 (bshr .u64 (u64 (i64 (o_ + a3))) 1)) + a2)) - 1))))] [Blk.row 29 (List.map E29 v13) []] [some 0]) (X.go) (st 220 [(0, V.ow 0), (1, V.sc (.int .i64 o_)), (2, V.sc (.int .i64 a2)), (3, V.sc (.int .i64 a3)), (4, V.fn 90 []), (18, V.sc (.int .i64 (i64 (bshr .u64 (u64 (i64 (o_ + a3))) 1)))), (19, V.sc (.int .i64 (i64 ((i64 (bshr .u64 (u64 (i64 (o_ + a3))) 1)) + a2)))), (20, V.sc (.int .i64 v11)), (21, V.sc (.int .i64 v12)), (22, V.sc (.int .i64 (i64 ((i64 ((i64 (bshr .u64 (u64 (i64 (o_ + a3))) 1)) + a2)) - 1))))] [Blk.row 29 (List.map E29 v13) []] [some 0]),
      ¬ (1 : Int) < 0,
      (0 : Int) ≤ (i64 ((i64 ((i64 ((i64 (bshr .u64 (u64 (i64 (o_ + a3))) 1)) + a2)) - 1)) - (i64 (bshr .u64 (u64 (i64 (v11 + v12))) 1)))),
      ((i64 ((i64 ((i64 ((i64 (bshr .u64 (u64 (i64 (o_ + a3))) 1)) + a2)) - 1)) - (i64 (bshr .u64 (u64 (i64 (v11 + v12))) 1)))) : Int) < ((List.map E29 v13).length : Int),
      look [] ((i64 ((i64 ((i64 ((i64 (bshr .u64 (u64 (i64 (o_ + a3))) 1)) + a2)) - 1)) - (i64 (bshr .u64 (u64 (i64 (v11 + v12))) 1)))).toNat) = none,
      (List.map E29 v13)[(i64 ((i64 ((i64 ((i64 (bshr .u64 (u64 (i64 (o_ + a3))) 1)) + a2)) - 1)) - (i64 (bshr .u64 (u64 (i64 (v11 + v12))) 1)))).toNat]? = some (E29 x9),
      look [((i64 ((i64 ((i64 ((i64 (bshr .u64 (u64 (i64 (o_ + a3))) 1)) + a2)) - 1)) - (i64 (bshr .u64 (u64 (i64 (v11 + v12))) 1)))).toNat, V.agg [V.sc (.string x9.Id), V.sc (.int .i64 x9.Limit), V.sc (.int .i64 x9.Posted), V.sc (.int .i64 x9.Most), V.sc (.int .i64 x9.MostSum), V.ow 1, V.sc (.int .i64 x9.Ring.Span), V.sc (.int .i64 x9.Ring.Head), V.ow 2, V.ow 3, V.ow 4])] ((i64 ((i64 ((i64 ((i64 (bshr .u64 (u64 (i64 (o_ + a3))) 1)) + a2)) - 1)) - (i64 (bshr .u64 (u64 (i64 (v11 + v12))) 1)))).toNat) = some (V.agg [V.sc (.string x9.Id), V.sc (.int .i64 x9.Limit), V.sc (.int .i64 x9.Posted), V.sc (.int .i64 x9.Most), V.sc (.int .i64 x9.MostSum), V.ow 1, V.sc (.int .i64 x9.Ring.Span), V.sc (.int .i64 x9.Ring.Head), V.ow 2, V.ow 3, V.ow 4]),
      ((i64 ((i64 ((i64 ((i64 (bshr .u64 (u64 (i64 (o_ + a3))) 1)) + a2)) - 1)) - (i64 (bshr .u64 (u64 (i64 (v11 + v12))) 1)))).toNat) < (List.map E29 v13).length,
      (0 : Int) ≤ (i64 (bshr .u64 (u64 (i64 (v11 + v12))) 1)),
      ((i64 (bshr .u64 (u64 (i64 (v11 + v12))) 1)) : Int) < ((List.map E29 v13).length : Int),
      look [((i64 ((i64 ((i64 ((i64 (bshr .u64 (u64 (i64 (o_ + a3))) 1)) + a2)) - 1)) - (i64 (bshr .u64 (u64 (i64 (v11 + v12))) 1)))).toNat, V.agg [V.sc (.string x9.Id), V.sc (.int .i64 x9.Limit), V.sc (.int .i64 x9.Posted), V.sc (.int .i64 x9.Most), V.sc (.int .i64 x9.MostSum), V.ow 1, V.sc (.int .i64 x9.Ring.Span), V.sc (.int .i64 x9.Ring.Head), V.ow 2, V.ow 3, V.ow 4])] ((i64 (bshr .u64 (u64 (i64 (v11 + v12))) 1)).toNat) = none,
      (List.map E29 v13)[(i64 (bshr .u64 (u64 (i64 (v11 + v12))) 1)).toNat]? = some (E29 x10),
      look [((i64 (bshr .u64 (u64 (i64 (v11 + v12))) 1)).toNat, V.agg [V.sc (.string x10.Id), V.sc (.int .i64 x10.Limit), V.sc (.int .i64 x10.Posted), V.sc (.int .i64 x10.Most), V.sc (.int .i64 x10.MostSum), V.ow 5, V.sc (.int .i64 x10.Ring.Span), V.sc (.int .i64 x10.Ring.Head), V.ow 6, V.ow 7, V.ow 8]), ((i64 ((i64 ((i64 ((i64 (bshr .u64 (u64 (i64 (o_ + a3))) 1)) + a2)) - 1)) - (i64 (bshr .u64 (u64 (i64 (v11 + v12))) 1)))).toNat, V.agg [V.sc (.string x9.Id), V.sc (.int .i64 x9.Limit), V.sc (.int .i64 x9.Posted), V.sc (.int .i64 x9.Most), V.sc (.int .i64 x9.MostSum), V.ow 1, V.sc (.int .i64 x9.Ring.Span), V.sc (.int .i64 x9.Ring.Head), V.ow 2, V.ow 3, V.ow 4])] ((i64 (bshr .u64 (u64 (i64 (v11 + v12))) 1)).toNat) = some (V.agg [V.sc (.string x10.Id), V.sc (.int .i64 x10.Limit), V.sc (.int .i64 x10.Posted), V.sc (.int .i64 x10.Most), V.sc (.int .i64 x10.MostSum), V.ow 5, V.sc (.int .i64 x10.Ring.Span), V.sc (.int .i64 x10.Ring.Head), V.ow 6, V.ow 7, V.ow 8]),
      ((i64 (bshr .u64 (u64 (i64 (v11 + v12))) 1)).toNat) < (List.map E29 v13).length,
      Fn Try.prog 90 [(false, E29 x9), (false, E29 x10)] (E3 r15) [],
      (false || ((E3 r15).nv && nvL [])) = true,
      (!(decide (r15 < 0))) = false,
      Blk.row 29 (((List.map E29 v13).set ((i64 ((i64 ((i64 ((i64 (bshr .u64 (u64 (i64 (o_ + a3))) 1)) + a2)) - 1)) - (i64 (bshr .u64 (u64 (i64 (v11 + v12))) 1)))).toNat) (V.agg [V.sc (.string x9.Id), V.sc (.int .i64 x9.Limit), V.sc (.int .i64 x9.Posted), V.sc (.int .i64 x9.Most), V.sc (.int .i64 x9.MostSum), V.sl true 36 (List.map E36 x9.Holds), V.sc (.int .i64 x9.Ring.Span), V.sc (.int .i64 x9.Ring.Head), V.sl true 3 (List.map E3 x9.Ring.Counts), V.sl true 3 (List.map E3 x9.Ring.Sums), V.sl true 164 (List.map E164 x9.Slots)])).set ((i64 (bshr .u64 (u64 (i64 (v11 + v12))) 1)).toNat) (V.agg [V.sc (.string x10.Id), V.sc (.int .i64 x10.Limit), V.sc (.int .i64 x10.Posted), V.sc (.int .i64 x10.Most), V.sc (.int .i64 x10.MostSum), V.sl true 36 (List.map E36 x10.Holds), V.sc (.int .i64 x10.Ring.Span), V.sc (.int .i64 x10.Ring.Head), V.sl true 3 (List.map E3 x10.Ring.Counts), V.sl true 3 (List.map E3 x10.Ring.Sums), V.sl true 164 (List.map E164 x10.Slots)])) [] = Blk.row 29 (List.map E29 ((v13.set ((i64 ((i64 ((i64 ((i64 (bshr .u64 (u64 (i64 (o_ + a3))) 1)) + a2)) - 1)) - (i64 (bshr .u64 (u64 (i64 (v11 + v12))) 1)))).toNat) x9).set ((i64 (bshr .u64 (u64 (i64 (v11 + v12))) 1)).toNat) x10)) []]) (by kernel_rfl) (cj ((slices_symMergeCmpFunc_impl_Acct_impl_Gather_1_c12_ok o_ a2 a3 v11 v12 v13 r14 h56).at h57) (cj (by decide) (cj (od h59) (cj (map_ltN (od h59) h60) (cj rfl (cj (map_get h60) (cj (look_cons_self _ _ _) (cj (map_lt h60) (cj (od h61) (cj (map_ltN (od h61) h62) (cj ((look_cons_ne _ _ (od h63)).trans rfl) (cj (map_get h62) (cj (look_cons_self _ _ _) (cj (map_lt h62) (cj (impl_Gather_1_ok x9 x10 r15 h64) (cj (by simp [V.nv, nvL, nvL_all, nv_E3]) (cj (nf h65) (cj1 (nb_set2 E29 _ _ x9 _ x10))))))))))))))))))) (slices_symMergeCmpFunc_impl_Acct_impl_Gather_1_l4_ok o_ a2 a3 fuel v11 (i64 (bshr .u64 (u64 (i64 (v11 + v12))) 1)) ((v13.set ((i64 ((i64 ((i64 ((i64 (bshr .u64 (u64 (i64 (o_ + a3))) 1)) + a2)) - 1)) - (i64 (bshr .u64 (u64 (i64 (v11 + v12))) 1)))).toNat) x9).set ((i64 (bshr .u64 (u64 (i64 (v11 + v12))) 1)).toNat) x10))) (fun h65 =>
     LpO.go [.wait 1, .mask [0, 1, 2, 3, 4, 18, 19, 20, 21, 22], .ren [0], .join 5 (X.go) (st 220 [(0, V.ow 0), (1, V.sc (.int .i64 o_)), (2, V.sc (.int .i64 a2)), (3, V.sc (.int .i64 a3)), (4, V.fn 90 []), (18, V.sc (.int .i64 (i64 (bshr .u64 (u64 (i64 (o_ + a3))) 1)))), (19, V.sc (.int .i64 (i64 ((i64 (bshr .u64 (u64 (i64 (o_ + a3))) 1)) + a2)))), (20, V.sc (.int .i64 v11)), (21, V.sc (.int .i64 v12)), (22, V.sc (.int .i64 (i64 ((i64 ((i64 (bshr .u64 (u64 (i64 (o_ + a3))) 1)) + a2)) - 1))))] [Blk.row 29 (List.map E29 v13) []] [some 0]), .draw [], .wait 5, .foc 0 ((i64 ((i64 ((i64 ((i64 (bshr .u64 (u64 (i64 (o_ + a3))) 1)) + a2)) - 1)) - (i64 (bshr .u64 (u64 (i64 (v11 + v12))) 1)))).toNat) (E29 x9), .fo 0, .wait 3, .foc 0 ((i64 (bshr .u64 (u64 (i64 (v11 + v12))) 1)).toNat) (E29 x10), .fo 0, .call [] (E3 r15) [], .bit true, .wait 3, .shut 0, .nb 0 (.row 29 (List.map E29 ((v13.set ((i64 ((i64 ((i64 ((i64 (bshr .u64 (u64 (i64 (o_ + a3))) 1)) + a2)) - 1)) - (i64 (bshr .u64 (u64 (i64 (v11 + v12))) 1)))).toNat) x9).set ((i64 (bshr .u64 (u64 (i64 (v11 + v12))) 1)).toNat) x10)) []), .mask [0, 1, 2, 3, 4, 18, 19, 20, 21, 22], .ren [0]] (p := [HT Try.prog (sub (codeOf Try.prog 192) [1, 1, 1, 1, 1, 1, 1, 0, 0, 0, 0]) (st 220 [(0, V.ow 0), (1, V.sc (.int .i64 o_)), (2, V.sc (.int .i64 a2)), (3, V.sc (.int .i64 a3)), (4, V.fn 90 []), (18, V.sc (.int .i64 (i64 (bshr .u64 (u64 (i64 (o_ + a3))) 1)))), (19, V.sc (.int .i64 (i64 ((i64 (bshr .u64 (u64 (i64 (o_ + a3))) 1)) + a2)))), (20, V.sc (.int .i64 v11)), (21, V.sc (.int .i64 v12)), (22, V.sc (.int .i64 (i64 ((i64 ((i64 (bshr .u64 (u64 (i64 (o_ + a3))) 1)) + a2)) - 1))))] [Blk.row 29 (List.map E29 v13) []] [some 0]) (X.go) (st 220 [(0, V.ow 0), (1, V.sc (.int .i64 o_)), (2, V.sc (.int .i64 a2)), (3, V.sc (.int .i64 a3)), (4, V.fn 90 []), (18, V.sc (.int .i64 (i64 (bshr .u64 (u64 (i64 (o_ + a3))) 1)))), (19, V.sc (.int .i64 (i64 ((i64 (bshr .u64 (u64 (i64 (o_ + a3))) 1)) + a2)))), (20, V.sc (.int .i64 v11)), (21, V.sc (.int .i64 v12)), (22, V.sc (.int .i64 (i64 ((i64 ((i64 (bshr .u64 (u64 (i64 (o_ + a3))) 1)) + a2)) - 1))))] [Blk.row 29 (List.map E29 v13) []] [some 0]),
      ¬ (1 : Int) < 0,
      (0 : Int) ≤ (i64 ((i64 ((i64 ((i64 (bshr .u64 (u64 (i64 (o_ + a3))) 1)) + a2)) - 1)) - (i64 (bshr .u64 (u64 (i64 (v11 + v12))) 1)))),
      ((i64 ((i64 ((i64 ((i64 (bshr .u64 (u64 (i64 (o_ + a3))) 1)) + a2)) - 1)) - (i64 (bshr .u64 (u64 (i64 (v11 + v12))) 1)))) : Int) < ((List.map E29 v13).length : Int),
      look [] ((i64 ((i64 ((i64 ((i64 (bshr .u64 (u64 (i64 (o_ + a3))) 1)) + a2)) - 1)) - (i64 (bshr .u64 (u64 (i64 (v11 + v12))) 1)))).toNat) = none,
      (List.map E29 v13)[(i64 ((i64 ((i64 ((i64 (bshr .u64 (u64 (i64 (o_ + a3))) 1)) + a2)) - 1)) - (i64 (bshr .u64 (u64 (i64 (v11 + v12))) 1)))).toNat]? = some (E29 x9),
      look [((i64 ((i64 ((i64 ((i64 (bshr .u64 (u64 (i64 (o_ + a3))) 1)) + a2)) - 1)) - (i64 (bshr .u64 (u64 (i64 (v11 + v12))) 1)))).toNat, V.agg [V.sc (.string x9.Id), V.sc (.int .i64 x9.Limit), V.sc (.int .i64 x9.Posted), V.sc (.int .i64 x9.Most), V.sc (.int .i64 x9.MostSum), V.ow 1, V.sc (.int .i64 x9.Ring.Span), V.sc (.int .i64 x9.Ring.Head), V.ow 2, V.ow 3, V.ow 4])] ((i64 ((i64 ((i64 ((i64 (bshr .u64 (u64 (i64 (o_ + a3))) 1)) + a2)) - 1)) - (i64 (bshr .u64 (u64 (i64 (v11 + v12))) 1)))).toNat) = some (V.agg [V.sc (.string x9.Id), V.sc (.int .i64 x9.Limit), V.sc (.int .i64 x9.Posted), V.sc (.int .i64 x9.Most), V.sc (.int .i64 x9.MostSum), V.ow 1, V.sc (.int .i64 x9.Ring.Span), V.sc (.int .i64 x9.Ring.Head), V.ow 2, V.ow 3, V.ow 4]),
      ((i64 ((i64 ((i64 ((i64 (bshr .u64 (u64 (i64 (o_ + a3))) 1)) + a2)) - 1)) - (i64 (bshr .u64 (u64 (i64 (v11 + v12))) 1)))).toNat) < (List.map E29 v13).length,
      (0 : Int) ≤ (i64 (bshr .u64 (u64 (i64 (v11 + v12))) 1)),
      ((i64 (bshr .u64 (u64 (i64 (v11 + v12))) 1)) : Int) < ((List.map E29 v13).length : Int),
      look [((i64 ((i64 ((i64 ((i64 (bshr .u64 (u64 (i64 (o_ + a3))) 1)) + a2)) - 1)) - (i64 (bshr .u64 (u64 (i64 (v11 + v12))) 1)))).toNat, V.agg [V.sc (.string x9.Id), V.sc (.int .i64 x9.Limit), V.sc (.int .i64 x9.Posted), V.sc (.int .i64 x9.Most), V.sc (.int .i64 x9.MostSum), V.ow 1, V.sc (.int .i64 x9.Ring.Span), V.sc (.int .i64 x9.Ring.Head), V.ow 2, V.ow 3, V.ow 4])] ((i64 (bshr .u64 (u64 (i64 (v11 + v12))) 1)).toNat) = none,
      (List.map E29 v13)[(i64 (bshr .u64 (u64 (i64 (v11 + v12))) 1)).toNat]? = some (E29 x10),
      look [((i64 (bshr .u64 (u64 (i64 (v11 + v12))) 1)).toNat, V.agg [V.sc (.string x10.Id), V.sc (.int .i64 x10.Limit), V.sc (.int .i64 x10.Posted), V.sc (.int .i64 x10.Most), V.sc (.int .i64 x10.MostSum), V.ow 5, V.sc (.int .i64 x10.Ring.Span), V.sc (.int .i64 x10.Ring.Head), V.ow 6, V.ow 7, V.ow 8]), ((i64 ((i64 ((i64 ((i64 (bshr .u64 (u64 (i64 (o_ + a3))) 1)) + a2)) - 1)) - (i64 (bshr .u64 (u64 (i64 (v11 + v12))) 1)))).toNat, V.agg [V.sc (.string x9.Id), V.sc (.int .i64 x9.Limit), V.sc (.int .i64 x9.Posted), V.sc (.int .i64 x9.Most), V.sc (.int .i64 x9.MostSum), V.ow 1, V.sc (.int .i64 x9.Ring.Span), V.sc (.int .i64 x9.Ring.Head), V.ow 2, V.ow 3, V.ow 4])] ((i64 (bshr .u64 (u64 (i64 (v11 + v12))) 1)).toNat) = some (V.agg [V.sc (.string x10.Id), V.sc (.int .i64 x10.Limit), V.sc (.int .i64 x10.Posted), V.sc (.int .i64 x10.Most), V.sc (.int .i64 x10.MostSum), V.ow 5, V.sc (.int .i64 x10.Ring.Span), V.sc (.int .i64 x10.Ring.Head), V.ow 6, V.ow 7, V.ow 8]),
      ((i64 (bshr .u64 (u64 (i64 (v11 + v12))) 1)).toNat) < (List.map E29 v13).length,
      Fn Try.prog 90 [(false, E29 x9), (false, E29 x10)] (E3 r15) [],
      (false || ((E3 r15).nv && nvL [])) = true,
      (!(decide (r15 < 0))) = true,
      Blk.row 29 (((List.map E29 v13).set ((i64 ((i64 ((i64 ((i64 (bshr .u64 (u64 (i64 (o_ + a3))) 1)) + a2)) - 1)) - (i64 (bshr .u64 (u64 (i64 (v11 + v12))) 1)))).toNat) (V.agg [V.sc (.string x9.Id), V.sc (.int .i64 x9.Limit), V.sc (.int .i64 x9.Posted), V.sc (.int .i64 x9.Most), V.sc (.int .i64 x9.MostSum), V.sl true 36 (List.map E36 x9.Holds), V.sc (.int .i64 x9.Ring.Span), V.sc (.int .i64 x9.Ring.Head), V.sl true 3 (List.map E3 x9.Ring.Counts), V.sl true 3 (List.map E3 x9.Ring.Sums), V.sl true 164 (List.map E164 x9.Slots)])).set ((i64 (bshr .u64 (u64 (i64 (v11 + v12))) 1)).toNat) (V.agg [V.sc (.string x10.Id), V.sc (.int .i64 x10.Limit), V.sc (.int .i64 x10.Posted), V.sc (.int .i64 x10.Most), V.sc (.int .i64 x10.MostSum), V.sl true 36 (List.map E36 x10.Holds), V.sc (.int .i64 x10.Ring.Span), V.sc (.int .i64 x10.Ring.Head), V.sl true 3 (List.map E3 x10.Ring.Counts), V.sl true 3 (List.map E3 x10.Ring.Sums), V.sl true 164 (List.map E164 x10.Slots)])) [] = Blk.row 29 (List.map E29 ((v13.set ((i64 ((i64 ((i64 ((i64 (bshr .u64 (u64 (i64 (o_ + a3))) 1)) + a2)) - 1)) - (i64 (bshr .u64 (u64 (i64 (v11 + v12))) 1)))).toNat) x9).set ((i64 (bshr .u64 (u64 (i64 (v11 + v12))) 1)).toNat) x10)) []]) (by kernel_rfl) (cj ((slices_symMergeCmpFunc_impl_Acct_impl_Gather_1_c12_ok o_ a2 a3 v11 v12 v13 r14 h56).at h57) (cj (by decide) (cj (od h59) (cj (map_ltN (od h59) h60) (cj rfl (cj (map_get h60) (cj (look_cons_self _ _ _) (cj (map_lt h60) (cj (od h61) (cj (map_ltN (od h61) h62) (cj ((look_cons_ne _ _ (od h63)).trans rfl) (cj (map_get h62) (cj (look_cons_self _ _ _) (cj (map_lt h62) (cj (impl_Gather_1_ok x9 x10 r15 h64) (cj (by simp [V.nv, nvL, nvL_all, nv_E3]) (cj (nt h65) (cj1 (nb_set2 E29 _ _ x9 _ x10))))))))))))))))))) (slices_symMergeCmpFunc_impl_Acct_impl_Gather_1_l4_ok o_ a2 a3 fuel (i64 ((i64 (bshr .u64 (u64 (i64 (v11 + v12))) 1)) + 1)) v12 ((v13.set ((i64 ((i64 ((i64 ((i64 (bshr .u64 (u64 (i64 (o_ + a3))) 1)) + a2)) - 1)) - (i64 (bshr .u64 (u64 (i64 (v11 + v12))) 1)))).toNat) x9).set ((i64 (bshr .u64 (u64 (i64 (v11 + v12))) 1)).toNat) x10))))) (fun h63 =>
     Pn.none))) (fun h61 =>
     Pn.none))) (fun h59 =>
     Pn.none)) (fun s14 h58 =>
     Pn.some (LpO.out [.wait 1, .mask [0, 1, 2, 3, 4, 18, 19, 20, 21, 22], .ren [0], .join 5 (X.out 8) (st 220 [(0, V.ow 0), (1, V.sc (.int .i64 o_)), (2, V.sc (.int .i64 a2)), (3, V.sc (.int .i64 a3)), (4, V.fn 90 []), (18, V.sc (.int .i64 (i64 (bshr .u64 (u64 (i64 (o_ + a3))) 1)))), (19, V.sc (.int .i64 (i64 ((i64 (bshr .u64 (u64 (i64 (o_ + a3))) 1)) + a2)))), (20, V.sc (.int .i64 v11))] [Blk.row 29 (List.map E29 v13) []] [some 0]), .wait 1, .mask [0, 1, 2, 3, 4, 18, 19, 20], .ren [0]] (p := [HT Try.prog (sub (codeOf Try.prog 192) [1, 1, 1, 1, 1, 1, 1, 0, 0, 0, 0]) (st 220 [(0, V.ow 0), (1, V.sc (.int .i64 o_)), (2, V.sc (.int .i64 a2)), (3, V.sc (.int .i64 a3)), (4, V.fn 90 []), (18, V.sc (.int .i64 (i64 (bshr .u64 (u64 (i64 (o_ + a3))) 1)))), (19, V.sc (.int .i64 (i64 ((i64 (bshr .u64 (u64 (i64 (o_ + a3))) 1)) + a2)))), (20, V.sc (.int .i64 v11)), (21, V.sc (.int .i64 v12)), (22, V.sc (.int .i64 (i64 ((i64 ((i64 (bshr .u64 (u64 (i64 (o_ + a3))) 1)) + a2)) - 1))))] [Blk.row 29 (List.map E29 v13) []] [some 0]) (X.out 8) (st 220 [(0, V.ow 0), (1, V.sc (.int .i64 o_)), (2, V.sc (.int .i64 a2)), (3, V.sc (.int .i64 a3)), (4, V.fn 90 []), (18, V.sc (.int .i64 (i64 (bshr .u64 (u64 (i64 (o_ + a3))) 1)))), (19, V.sc (.int .i64 (i64 ((i64 (bshr .u64 (u64 (i64 (o_ + a3))) 1)) + a2)))), (20, V.sc (.int .i64 v11))] [Blk.row 29 (List.map E29 v13) []] [some 0])]) (by kernel_rfl) (show X.out 8 ≠ X.go from nofun) (cj1 ((slices_symMergeCmpFunc_impl_Acct_impl_Gather_1_c12_ok o_ a2 a3 v11 v12 v13 r14 h56).at h58)))))
def slices_symMergeCmpFunc_impl_Acct_impl_Gather_1_c13 (o_ : Int) (a2 : Int) (a3 : Int) (r16 : Int × (List Acct)) : Option ((List Acct)) :=
 if (decide (r16.1 < a2)) = true then
 if (decide (a2 < (i64 ((i64 ((i64 (bshr .u64 (u64 (i64 (o_ + a3))) 1)) + a2)) - r16.1)))) = true then
 (slices_rotateCmpFunc_impl_Acct_impl_Gather_1 r16.2 r16.1 a2 (i64 ((i64 ((i64 (bshr .u64 (u64 (i64 (o_ + a3))) 1)) + a2)) - r16.1))).bind fun r17 =>
 some r17
 else
 some r16.2
 else
 some r16.2
theorem slices_symMergeCmpFunc_impl_Acct_impl_Gather_1_c13_ok (o_ : Int) (a2 : Int) (a3 : Int) (r16 : Int × (List Acct)) : Pn (JnO Try.prog (sub (codeOf Try.prog 192) [1, 1, 1, 1, 1, 1, 1, 1, 1, 0]) (st 220 [(0, V.ow 0), (1, V.sc (.int .i64 o_)), (2, V.sc (.int .i64 a2)), (3, V.sc (.int .i64 a3)), (4, V.fn 90 []), (18, V.sc (.int .i64 (i64 (bshr .u64 (u64 (i64 (o_ + a3))) 1)))), (20, V.sc (.int .i64 r16.1)), (24, V.sc (.int .i64 (i64 ((i64 ((i64 (bshr .u64 (u64 (i64 (o_ + a3))) 1)) + a2)) - r16.1))))] [Blk.row 29 (List.map E29 r16.2) []] [some 0]) (fun (y : (List Acct)) => (X.go, st 220 [(0, V.ow 0), (1, V.sc (.int .i64 o_)), (3, V.sc (.int .i64 a3)), (4, V.fn 90 []), (18, V.sc (.int .i64 (i64 (bshr .u64 (u64 (i64 (o_ + a3))) 1)))), (20, V.sc (.int .i64 r16.1)), (24, V.sc (.int .i64 (i64 ((i64 ((i64 (bshr .u64 (u64 (i64 (o_ + a3))) 1)) + a2)) - r16.1))))] [Blk.row 29 (List.map E29 y) []] [some 0]))) (slices_symMergeCmpFunc_impl_Acct_impl_Gather_1_c13 o_ a2 a3 r16) := by
  unfold slices_symMergeCmpFunc_impl_Acct_impl_Gather_1_c13
  exact
   Pn.ite (fun h67 =>
   Pn.ite (fun h68 =>
   Pn.bind (fun r17 h69 =>
   Pn.some (JnO.of [.bit true, .bit true, .bit true, .bit true, .bit true, .call [true, false, false, false, false] (V.tup []) [V.sl true 29 (List.map E29 r17)], .wait 1, .mask [0, 1, 3, 4, 18, 20, 24], .ren [0]] (p := [(decide (r16.1 < a2)) = true,
    (decide (r16.1 < a2)) = true,
    (decide (r16.1 < a2)) = true,
    (decide (r16.1 < a2)) = true,
    (decide (a2 < (i64 ((i64 ((i64 (bshr .u64 (u64 (i64 (o_ + a3))) 1)) + a2)) - r16.1)))) = true,
    Fn Try.prog 208 [(true, E48 r16.2), (false, E3 r16.1), (false, E3 a2), (false, E3 (i64 ((i64 ((i64 (bshr .u64 (u64 (i64 (o_ + a3))) 1)) + a2)) - r16.1))), (false, V.fn 90 [])] (V.tup []) [V.sl true 29 (List.map E29 r17)],
    (true || ((V.tup []).nv && nvL [V.sl true 29 (List.map E29 r17)])) = true]) (by kernel_rfl) (cj h67 (cj h67 (cj h67 (cj h67 (cj h68 (cj (slices_rotateCmpFunc_impl_Acct_impl_Gather_1_ok r16.2 r16.1 a2 (i64 ((i64 ((i64 (bshr .u64 (u64 (i64 (o_ + a3))) 1)) + a2)) - r16.1)) r17 h69) (cj1 rfl)))))))))) (fun h68 =>
   Pn.some (JnO.of [.bit true, .bit true, .bit true, .bit true, .bit false, .mask [0, 1, 3, 4, 18, 20, 24], .ren [0]] (p := [(decide (r16.1 < a2)) = true,
    (decide (r16.1 < a2)) = true,
    (decide (r16.1 < a2)) = true,
    (decide (r16.1 < a2)) = true,
    (decide (a2 < (i64 ((i64 ((i64 (bshr .u64 (u64 (i64 (o_ + a3))) 1)) + a2)) - r16.1)))) = false]) (by kernel_rfl) (cj h67 (cj h67 (cj h67 (cj h67 (cj1 h68)))))))) (fun h67 =>
   Pn.some (JnO.of [.bit false, .bit false, .bit false, .bit false, .bit false, .mask [0, 1, 3, 4, 18, 20, 24], .ren [0]] (p := [(decide (r16.1 < a2)) = false,
    (decide (r16.1 < a2)) = false,
    (decide (r16.1 < a2)) = false,
    (decide (r16.1 < a2)) = false,
    false = false]) (by kernel_rfl) (cj h67 (cj h67 (cj h67 (cj h67 (cj1 rfl)))))))
def slices_symMergeCmpFunc_impl_Acct_impl_Gather_1 : Nat → (List Acct) → Int → Int → Int → Option ((List Acct))
  | 0, _, _, _, _ => none
  | fuel + 1, o, o_, a2, a3 =>
   (slices_symMergeCmpFunc_impl_Acct_impl_Gather_1_c0 o o_ a2 a3).bind fun r6 =>
   Lo.elim r6 (fun s5 =>
   (slices_symMergeCmpFunc_impl_Acct_impl_Gather_1_c5 o o_ a2 a3).bind fun r12 =>
   Lo.elim r12 (fun s11 =>
   (slices_symMergeCmpFunc_impl_Acct_impl_Gather_1_c10 o o_ a2 a3).bind fun r13 =>
   (slices_symMergeCmpFunc_impl_Acct_impl_Gather_1_l4 o_ a2 a3 FUEL r13.1 r13.2 o).bind fun r16 =>
   (slices_symMergeCmpFunc_impl_Acct_impl_Gather_1_c13 o_ a2 a3 r16).bind fun r18 =>
   if (decide (o_ < r16.1)) = true then
   if (decide (r16.1 < (i64 (bshr .u64 (u64 (i64 (o_ + a3))) 1)))) = true then
   (slices_symMergeCmpFunc_impl_Acct_impl_Gather_1 fuel r18 o_ r16.1 (i64 (bshr .u64 (u64 (i64 (o_ + a3))) 1))).bind fun r19 =>
   if (decide ((i64 (bshr .u64 (u64 (i64 (o_ + a3))) 1)) < (i64 ((i64 ((i64 (bshr .u64 (u64 (i64 (o_ + a3))) 1)) + a2)) - r16.1)))) = true then
   if (decide ((i64 ((i64 ((i64 (bshr .u64 (u64 (i64 (o_ + a3))) 1)) + a2)) - r16.1)) < a3)) = true then
   (slices_symMergeCmpFunc_impl_Acct_impl_Gather_1 fuel r19 (i64 (bshr .u64 (u64 (i64 (o_ + a3))) 1)) (i64 ((i64 ((i64 (bshr .u64 (u64 (i64 (o_ + a3))) 1)) + a2)) - r16.1)) a3).bind fun r20 =>
   some r20
   else
   some r19
   else
   some r19
   else
   if (decide ((i64 (bshr .u64 (u64 (i64 (o_ + a3))) 1)) < (i64 ((i64 ((i64 (bshr .u64 (u64 (i64 (o_ + a3))) 1)) + a2)) - r16.1)))) = true then
   if (decide ((i64 ((i64 ((i64 (bshr .u64 (u64 (i64 (o_ + a3))) 1)) + a2)) - r16.1)) < a3)) = true then
   (slices_symMergeCmpFunc_impl_Acct_impl_Gather_1 fuel r18 (i64 (bshr .u64 (u64 (i64 (o_ + a3))) 1)) (i64 ((i64 ((i64 (bshr .u64 (u64 (i64 (o_ + a3))) 1)) + a2)) - r16.1)) a3).bind fun r21 =>
   some r21
   else
   some r18
   else
   some r18
   else
   if (decide ((i64 (bshr .u64 (u64 (i64 (o_ + a3))) 1)) < (i64 ((i64 ((i64 (bshr .u64 (u64 (i64 (o_ + a3))) 1)) + a2)) - r16.1)))) = true then
   if (decide ((i64 ((i64 ((i64 (bshr .u64 (u64 (i64 (o_ + a3))) 1)) + a2)) - r16.1)) < a3)) = true then
   (slices_symMergeCmpFunc_impl_Acct_impl_Gather_1 fuel r18 (i64 (bshr .u64 (u64 (i64 (o_ + a3))) 1)) (i64 ((i64 ((i64 (bshr .u64 (u64 (i64 (o_ + a3))) 1)) + a2)) - r16.1)) a3).bind fun r22 =>
   some r22
   else
   some r18
   else
   some r18) (fun s12 =>
   some s12)) (fun s6 =>
   some s6)
set_option maxHeartbeats 4000000 in
theorem slices_symMergeCmpFunc_impl_Acct_impl_Gather_1_ok : ∀ (fuel : Nat) (o : List Acct) (o_ : Int) (a2 : Int) (a3 : Int), Pn (fun y => Fn Try.prog 192 [(true, E48 o), (false, E3 o_), (false, E3 a2), (false, E3 a3), (false, V.fn 90 [])] (V.tup []) [V.sl true 29 (List.map E29 y)]) (slices_symMergeCmpFunc_impl_Acct_impl_Gather_1 fuel o o_ a2 a3)
  | 0, _, _, _, _ => Pn.none
  | fuel + 1, o, o_, a2, a3 => by
    unfold slices_symMergeCmpFunc_impl_Acct_impl_Gather_1
    exact
     Pn.bind (fun r6 h24 =>
     Pn.lo (fun s5 h25 =>
     Pn.bind (fun r12 h50 =>
     Pn.lo (fun s11 h51 =>
     Pn.bind (fun r13 h54 =>
     Pn.bind (fun r16 h66 =>
     Pn.bind (fun r18 h70 =>
     Pn.ite (fun h71 =>
     Pn.ite (fun h72 =>
     Pn.bind (fun r19 h73 =>
     Pn.ite (fun h74 =>
     Pn.ite (fun h75 =>
     Pn.bind (fun r20 h76 =>
     Pn.some (Fn.of [.wait 1, .mask [0, 1, 2, 3, 4], .ren [0], .join 41 (X.go) (st 220 [(0, V.ow 0), (1, V.sc (.int .i64 o_)), (2, V.sc (.int .i64 a2)), (3, V.sc (.int .i64 a3)), (4, V.fn 90 [])] [Blk.row 29 (List.map E29 o) []] [some 0]), .wait 1, .mask [0, 1, 2, 3, 4], .ren [0], .join 41 (X.go) (st 220 [(0, V.ow 0), (1, V.sc (.int .i64 o_)), (2, V.sc (.int .i64 a2)), (3, V.sc (.int .i64 a3)), (4, V.fn 90 [])] [Blk.row 29 (List.map E29 o) []] [some 0]), .wait 14, .mask [0, 1, 2, 3, 4, 18, 19], .ren [0], .join 9 (X.go) (st 220 [(0, V.ow 0), (1, V.sc (.int .i64 o_)), (2, V.sc (.int .i64 a2)), (3, V.sc (.int .i64 a3)), (4, V.fn 90 []), (18, V.sc (.int .i64 (i64 (bshr .u64 (u64 (i64 (o_ + a3))) 1)))), (19, V.sc (.int .i64 (i64 ((i64 (bshr .u64 (u64 (i64 (o_ + a3))) 1)) + a2)))), (20, V.sc (.int .i64 r13.1)), (21, V.sc (.int .i64 r13.2))] [Blk.row 29 (List.map E29 o) []] [some 0]), .wait 4, .mask [0, 1, 2, 3, 4, 18, 19, 20, 21, 22], .ren [0], .loop (X.out 8) (st 220 [(0, V.ow 0), (1, V.sc (.int .i64 o_)), (2, V.sc (.int .i64 a2)), (3, V.sc (.int .i64 a3)), (4, V.fn 90 []), (18, V.sc (.int .i64 (i64 (bshr .u64 (u64 (i64 (o_ + a3))) 1)))), (19, V.sc (.int .i64 (i64 ((i64 (bshr .u64 (u64 (i64 (o_ + a3))) 1)) + a2)))), (20, V.sc (.int .i64 r16.1))] [Blk.row 29 (List.map E29 r16.2) []] [some 0]), .wait 5, .mask [0, 1, 2, 3, 4, 18, 20, 24], .ren [0], .join 5 (X.go) (st 220 [(0, V.ow 0), (1, V.sc (.int .i64 o_)), (3, V.sc (.int .i64 a3)), (4, V.fn 90 []), (18, V.sc (.int .i64 (i64 (bshr .u64 (u64 (i64 (o_ + a3))) 1)))), (20, V.sc (.int .i64 r16.1)), (24, V.sc (.int .i64 (i64 ((i64 ((i64 (bshr .u64 (u64 (i64 (o_ + a3))) 1)) + a2)) - r16.1))))] [Blk.row 29 (List.map E29 r18) []] [some 0]), .bit true, .bit true, .bit true, .bit true, .bit true, .call [true, false, false, false, false] (V.tup []) [V.sl true 29 (List.map E29 r19)], .bit true, .bit true, .bit true, .bit true, .bit true, .call [true, false, false, false, false] (V.tup []) [V.sl true 29 (List.map E29 r20)]] (p := [HT Try.prog (sub (codeOf Try.prog 192) [0]) (st 220 [(0, V.ow 0), (1, V.sc (.int .i64 o_)), (2, V.sc (.int .i64 a2)), (3, V.sc (.int .i64 a3)), (4, V.fn 90 [])] [Blk.row 29 (List.map E29 o) []] [some 0]) (X.go) (st 220 [(0, V.ow 0), (1, V.sc (.int .i64 o_)), (2, V.sc (.int .i64 a2)), (3, V.sc (.int .i64 a3)), (4, V.fn 90 [])] [Blk.row 29 (List.map E29 o) []] [some 0]),
      HT Try.prog (sub (codeOf Try.prog 192) [1, 0]) (st 220 [(0, V.ow 0), (1, V.sc (.int .i64 o_)), (2, V.sc (.int .i64 a2)), (3, V.sc (.int .i64 a3)), (4, V.fn 90 [])] [Blk.row 29 (List.map E29 o) []] [some 0]) (X.go) (st 220 [(0, V.ow 0), (1, V.sc (.int .i64 o_)), (2, V.sc (.int .i64 a2)), (3, V.sc (.int .i64 a3)), (4, V.fn 90 [])] [Blk.row 29 (List.map E29 o) []] [some 0]),
      ¬ (1 : Int) < 0,
      HT Try.prog (sub (codeOf Try.prog 192) [1, 1, 1, 1, 1, 0]) (st 220 [(0, V.ow 0), (1, V.sc (.int .i64 o_)), (2, V.sc (.int .i64 a2)), (3, V.sc (.int .i64 a3)), (4, V.fn 90 []), (18, V.sc (.int .i64 (i64 (bshr .u64 (u64 (i64 (o_ + a3))) 1)))), (19, V.sc (.int .i64 (i64 ((i64 (bshr .u64 (u64 (i64 (o_ + a3))) 1)) + a2))))] [Blk.row 29 (List.map E29 o) []] [some 0]) (X.go) (st 220 [(0, V.ow 0), (1, V.sc (.int .i64 o_)), (2, V.sc (.int .i64 a2)), (3, V.sc (.int .i64 a3)), (4, V.fn 90 []), (18, V.sc (.int .i64 (i64 (bshr .u64 (u64 (i64 (o_ + a3))) 1)))), (19, V.sc (.int .i64 (i64 ((i64 (bshr .u64 (u64 (i64 (o_ + a3))) 1)) + a2)))), (20, V.sc (.int .i64 r13.1)), (21, V.sc (.int .i64 r13.2))] [Blk.row 29 (List.map E29 o) []] [some 0]),
      Loop Try.prog (sub (codeOf Try.prog 192) [1, 1, 1, 1, 1, 1, 1, 0, 0, 0]) (st 220 [(0, V.ow 0), (1, V.sc (.int .i64 o_)), (2, V.sc (.int .i64 a2)), (3, V.sc (.int .i64 a3)), (4, V.fn 90 []), (18, V.sc (.int .i64 (i64 (bshr .u64 (u64 (i64 (o_ + a3))) 1)))), (19, V.sc (.int .i64 (i64 ((i64 (bshr .u64 (u64 (i64 (o_ + a3))) 1)) + a2)))), (20, V.sc (.int .i64 r13.1)), (21, V.sc (.int .i64 r13.2)), (22, V.sc (.int .i64 (i64 ((i64 ((i64 (bshr .u64 (u64 (i64 (o_ + a3))) 1)) + a2)) - 1))))] [Blk.row 29 (List.map E29 o) []] [some 0]) (X.out 8) (st 220 [(0, V.ow 0), (1, V.sc (.int .i64 o_)), (2, V.sc (.int .i64 a2)), (3, V.sc (.int .i64 a3)), (4, V.fn 90 []), (18, V.sc (.int .i64 (i64 (bshr .u64 (u64 (i64 (o_ + a3))) 1)))), (19, V.sc (.int .i64 (i64 ((i64 (bshr .u64 (u64 (i64 (o_ + a3))) 1)) + a2)))), (20, V.sc (.int .i64 r16.1))] [Blk.row 29 (List.map E29 r16.2) []] [some 0]),
      HT Try.prog (sub (codeOf Try.prog 192) [1, 1, 1, 1, 1, 1, 1, 1, 1, 0]) (st 220 [(0, V.ow 0), (1, V.sc (.int .i64 o_)), (2, V.sc (.int .i64 a2)), (3, V.sc (.int .i64 a3)), (4, V.fn 90 []), (18, V.sc (.int .i64 (i64 (bshr .u64 (u64 (i64 (o_ + a3))) 1)))), (20, V.sc (.int .i64 r16.1)), (24, V.sc (.int .i64 (i64 ((i64 ((i64 (bshr .u64 (u64 (i64 (o_ + a3))) 1)) + a2)) - r16.1))))] [Blk.row 29 (List.map E29 r16.2) []] [some 0]) (X.go) (st 220 [(0, V.ow 0), (1, V.sc (.int .i64 o_)), (3, V.sc (.int .i64 a3)), (4, V.fn 90 []), (18, V.sc (.int .i64 (i64 (bshr .u64 (u64 (i64 (o_ + a3))) 1)))), (20, V.sc (.int .i64 r16.1)), (24, V.sc (.int .i64 (i64 ((i64 ((i64 (bshr .u64 (u64 (i64 (o_ + a3))) 1)) + a2)) - r16.1))))] [Blk.row 29 (List.map E29 r18) []] [some 0]),
      (decide (o_ < r16.1)) = true,
      (decide (o_ < r16.1)) = true,
      (decide (o_ < r16.1)) = true,
      (decide (o_ < r16.1)) = true,
      (decide (r16.1 < (i64 (bshr .u64 (u64 (i64 (o_ + a3))) 1)))) = true,
      Fn Try.prog 192 [(true, E48 r18), (false, E3 o_), (false, E3 r16.1), (false, E3 (i64 (bshr .u64 (u64 (i64 (o_ + a3))) 1))), (false, V.fn 90 [])] (V.tup []) [V.sl true 29 (List.map E29 r19)],
      (true || ((V.tup []).nv && nvL [V.sl true 29 (List.map E29 r19)])) = true,
      (decide ((i64 (bshr .u64 (u64 (i64 (o_ + a3))) 1)) < (i64 ((i64 ((i64 (bshr .u64 (u64 (i64 (o_ + a3))) 1)) + a2)) - r16.1)))) = true,
      (decide ((i64 (bshr .u64 (u64 (i64 (o_ + a3))) 1)) < (i64 ((i64 ((i64 (bshr .u64 (u64 (i64 (o_ + a3))) 1)) + a2)) - r16.1)))) = true,
      (decide ((i64 (bshr .u64 (u64 (i64 (o_ + a3))) 1)) < (i64 ((i64 ((i64 (bshr .u64 (u64 (i64 (o_ + a3))) 1)) + a2)) - r16.1)))) = true,
      (decide ((i64 (bshr .u64 (u64 (i64 (o_ + a3))) 1)) < (i64 ((i64 ((i64 (bshr .u64 (u64 (i64 (o_ + a3))) 1)) + a2)) - r16.1)))) = true,
      (decide ((i64 ((i64 ((i64 (bshr .u64 (u64 (i64 (o_ + a3))) 1)) + a2)) - r16.1)) < a3)) = true,
      Fn Try.prog 192 [(true, E48 r19), (false, E3 (i64 (bshr .u64 (u64 (i64 (o_ + a3))) 1))), (false, E3 (i64 ((i64 ((i64 (bshr .u64 (u64 (i64 (o_ + a3))) 1)) + a2)) - r16.1))), (false, E3 a3), (false, V.fn 90 [])] (V.tup []) [V.sl true 29 (List.map E29 r20)],
      (true || ((V.tup []).nv && nvL [V.sl true 29 (List.map E29 r20)])) = true]) (by kernel_rfl) (cj ((slices_symMergeCmpFunc_impl_Acct_impl_Gather_1_c0_ok o o_ a2 a3 r6 h24).at h25) (cj ((slices_symMergeCmpFunc_impl_Acct_impl_Gather_1_c5_ok o o_ a2 a3 r12 h50).at h51) (cj (by decide) (cj (slices_symMergeCmpFunc_impl_Acct_impl_Gather_1_c10_ok o o_ a2 a3 r13 h54) (cj (slices_symMergeCmpFunc_impl_Acct_impl_Gather_1_l4_ok o_ a2 a3 FUEL r13.1 r13.2 o r16 h66) (cj (slices_symMergeCmpFunc_impl_Acct_impl_Gather_1_c13_ok o_ a2 a3 r16 r18 h70) (cj h71 (cj h71 (cj h71 (cj h71 (cj h72 (cj (slices_symMergeCmpFunc_impl_Acct_impl_Gather_1_ok fuel r18 o_ r16.1 (i64 (bshr .u64 (u64 (i64 (o_ + a3))) 1)) r19 h73) (cj rfl (cj h74 (cj h74 (cj h74 (cj h74 (cj h75 (cj (slices_symMergeCmpFunc_impl_Acct_impl_Gather_1_ok fuel r19 (i64 (bshr .u64 (u64 (i64 (o_ + a3))) 1)) (i64 ((i64 ((i64 (bshr .u64 (u64 (i64 (o_ + a3))) 1)) + a2)) - r16.1)) a3 r20 h76) (cj1 rfl))))))))))))))))))))))) (fun h75 =>
     Pn.some (Fn.of [.wait 1, .mask [0, 1, 2, 3, 4], .ren [0], .join 41 (X.go) (st 220 [(0, V.ow 0), (1, V.sc (.int .i64 o_)), (2, V.sc (.int .i64 a2)), (3, V.sc (.int .i64 a3)), (4, V.fn 90 [])] [Blk.row 29 (List.map E29 o) []] [some 0]), .wait 1, .mask [0, 1, 2, 3, 4], .ren [0], .join 41 (X.go) (st 220 [(0, V.ow 0), (1, V.sc (.int .i64 o_)), (2, V.sc (.int .i64 a2)), (3, V.sc (.int .i64 a3)), (4, V.fn 90 [])] [Blk.row 29 (List.map E29 o) []] [some 0]), .wait 14, .mask [0, 1, 2, 3, 4, 18, 19], .ren [0], .join 9 (X.go) (st 220 [(0, V.ow 0), (1, V.sc (.int .i64 o_)), (2, V.sc (.int .i64 a2)), (3, V.sc (.int .i64 a3)), (4, V.fn 90 []), (18, V.sc (.int .i64 (i64 (bshr .u64 (u64 (i64 (o_ + a3))) 1)))), (19, V.sc (.int .i64 (i64 ((i64 (bshr .u64 (u64 (i64 (o_ + a3))) 1)) + a2)))), (20, V.sc (.int .i64 r13.1)), (21, V.sc (.int .i64 r13.2))] [Blk.row 29 (List.map E29 o) []] [some 0]), .wait 4, .mask [0, 1, 2, 3, 4, 18, 19, 20, 21, 22], .ren [0], .loop (X.out 8) (st 220 [(0, V.ow 0), (1, V.sc (.int .i64 o_)), (2, V.sc (.int .i64 a2)), (3, V.sc (.int .i64 a3)), (4, V.fn 90 []), (18, V.sc (.int .i64 (i64 (bshr .u64 (u64 (i64 (o_ + a3))) 1)))), (19, V.sc (.int .i64 (i64 ((i64 (bshr .u64 (u64 (i64 (o_ + a3))) 1)) + a2)))), (20, V.sc (.int .i64 r16.1))] [Blk.row 29 (List.map E29 r16.2) []] [some 0]), .wait 5, .mask [0, 1, 2, 3, 4, 18, 20, 24], .ren [0], .join 5 (X.go) (st 220 [(0, V.ow 0), (1, V.sc (.int .i64 o_)), (3, V.sc (.int .i64 a3)), (4, V.fn 90 []), (18, V.sc (.int .i64 (i64 (bshr .u64 (u64 (i64 (o_ + a3))) 1)))), (20, V.sc (.int .i64 r16.1)), (24, V.sc (.int .i64 (i64 ((i64 ((i64 (bshr .u64 (u64 (i64 (o_ + a3))) 1)) + a2)) - r16.1))))] [Blk.row 29 (List.map E29 r18) []] [some 0]), .bit true, .bit true, .bit true, .bit true, .bit true, .call [true, false, false, false, false] (V.tup []) [V.sl true 29 (List.map E29 r19)], .bit true, .bit true, .bit true, .bit true, .bit false] (p := [HT Try.prog (sub (codeOf Try.prog 192) [0]) (st 220 [(0, V.ow 0), (1, V.sc (.int .i64 o_)), (2, V.sc (.int .i64 a2)), (3, V.sc (.int .i64 a3)), (4, V.fn 90 [])] [Blk.row 29 (List.map E29 o) []] [some 0]) (X.go) (st 220 [(0, V.ow 0), (1, V.sc (.int .i64 o_)), (2, V.sc (.int .i64 a2)), (3, V.sc (.int .i64 a3)), (4, V.fn 90 [])] [Blk.row 29 (List.map E29 o) []] [some 0]),
      HT Try.prog (sub (codeOf Try.prog 192) [1, 0]) (st 220 [(0, V.ow 0), (1, V.sc (.int .i64 o_)), (2, V.sc (.int .i64 a2)), (3, V.sc (.int .i64 a3)), (4, V.fn 90 [])] [Blk.row 29 (List.map E29 o) []] [some 0]) (X.go) (st 220 [(0, V.ow 0), (1, V.sc (.int .i64 o_)), (2, V.sc (.int .i64 a2)), (3, V.sc (.int .i64 a3)), (4, V.fn 90 [])] [Blk.row 29 (List.map E29 o) []] [some 0]),
      ¬ (1 : Int) < 0,
      HT Try.prog (sub (codeOf Try.prog 192) [1, 1, 1, 1, 1, 0]) (st 220 [(0, V.ow 0), (1, V.sc (.int .i64 o_)), (2, V.sc (.int .i64 a2)), (3, V.sc (.int .i64 a3)), (4, V.fn 90 []), (18, V.sc (.int .i64 (i64 (bshr .u64 (u64 (i64 (o_ + a3))) 1)))), (19, V.sc (.int .i64 (i64 ((i64 (bshr .u64 (u64 (i64 (o_ + a3))) 1)) + a2))))] [Blk.row 29 (List.map E29 o) []] [some 0]) (X.go) (st 220 [(0, V.ow 0), (1, V.sc (.int .i64 o_)), (2, V.sc (.int .i64 a2)), (3, V.sc (.int .i64 a3)), (4, V.fn 90 []), (18, V.sc (.int .i64 (i64 (bshr .u64 (u64 (i64 (o_ + a3))) 1)))), (19, V.sc (.int .i64 (i64 ((i64 (bshr .u64 (u64 (i64 (o_ + a3))) 1)) + a2)))), (20, V.sc (.int .i64 r13.1)), (21, V.sc (.int .i64 r13.2))] [Blk.row 29 (List.map E29 o) []] [some 0]),
      Loop Try.prog (sub (codeOf Try.prog 192) [1, 1, 1, 1, 1, 1, 1, 0, 0, 0]) (st 220 [(0, V.ow 0), (1, V.sc (.int .i64 o_)), (2, V.sc (.int .i64 a2)), (3, V.sc (.int .i64 a3)), (4, V.fn 90 []), (18, V.sc (.int .i64 (i64 (bshr .u64 (u64 (i64 (o_ + a3))) 1)))), (19, V.sc (.int .i64 (i64 ((i64 (bshr .u64 (u64 (i64 (o_ + a3))) 1)) + a2)))), (20, V.sc (.int .i64 r13.1)), (21, V.sc (.int .i64 r13.2)), (22, V.sc (.int .i64 (i64 ((i64 ((i64 (bshr .u64 (u64 (i64 (o_ + a3))) 1)) + a2)) - 1))))] [Blk.row 29 (List.map E29 o) []] [some 0]) (X.out 8) (st 220 [(0, V.ow 0), (1, V.sc (.int .i64 o_)), (2, V.sc (.int .i64 a2)), (3, V.sc (.int .i64 a3)), (4, V.fn 90 []), (18, V.sc (.int .i64 (i64 (bshr .u64 (u64 (i64 (o_ + a3))) 1)))), (19, V.sc (.int .i64 (i64 ((i64 (bshr .u64 (u64 (i64 (o_ + a3))) 1)) + a2)))), (20, V.sc (.int .i64 r16.1))] [Blk.row 29 (List.map E29 r16.2) []] [some 0]),
      HT Try.prog (sub (codeOf Try.prog 192) [1, 1, 1, 1, 1, 1, 1, 1, 1, 0]) (st 220 [(0, V.ow 0), (1, V.sc (.int .i64 o_)), (2, V.sc (.int .i64 a2)), (3, V.sc (.int .i64 a3)), (4, V.fn 90 []), (18, V.sc (.int .i64 (i64 (bshr .u64 (u64 (i64 (o_ + a3))) 1)))), (20, V.sc (.int .i64 r16.1)), (24, V.sc (.int .i64 (i64 ((i64 ((i64 (bshr .u64 (u64 (i64 (o_ + a3))) 1)) + a2)) - r16.1))))] [Blk.row 29 (List.map E29 r16.2) []] [some 0]) (X.go) (st 220 [(0, V.ow 0), (1, V.sc (.int .i64 o_)), (3, V.sc (.int .i64 a3)), (4, V.fn 90 []), (18, V.sc (.int .i64 (i64 (bshr .u64 (u64 (i64 (o_ + a3))) 1)))), (20, V.sc (.int .i64 r16.1)), (24, V.sc (.int .i64 (i64 ((i64 ((i64 (bshr .u64 (u64 (i64 (o_ + a3))) 1)) + a2)) - r16.1))))] [Blk.row 29 (List.map E29 r18) []] [some 0]),
      (decide (o_ < r16.1)) = true,
      (decide (o_ < r16.1)) = true,
      (decide (o_ < r16.1)) = true,
      (decide (o_ < r16.1)) = true,
      (decide (r16.1 < (i64 (bshr .u64 (u64 (i64 (o_ + a3))) 1)))) = true,
      Fn Try.prog 192 [(true, E48 r18), (false, E3 o_), (false, E3 r16.1), (false, E3 (i64 (bshr .u64 (u64 (i64 (o_ + a3))) 1))), (false, V.fn 90 [])] (V.tup []) [V.sl true 29 (List.map E29 r19)],
      (true || ((V.tup []).nv && nvL [V.sl true 29 (List.map E29 r19)])) = true,
      (decide ((i64 (bshr .u64 (u64 (i64 (o_ + a3))) 1)) < (i64 ((i64 ((i64 (bshr .u64 (u64 (i64 (o_ + a3))) 1)) + a2)) - r16.1)))) = true,
      (decide ((i64 (bshr .u64 (u64 (i64 (o_ + a3))) 1)) < (i64 ((i64 ((i64 (bshr .u64 (u64 (i64 (o_ + a3))) 1)) + a2)) - r16.1)))) = true,
      (decide ((i64 (bshr .u64 (u64 (i64 (o_ + a3))) 1)) < (i64 ((i64 ((i64 (bshr .u64 (u64 (i64 (o_ + a3))) 1)) + a2)) - r16.1)))) = true,
      (decide ((i64 (bshr .u64 (u64 (i64 (o_ + a3))) 1)) < (i64 ((i64 ((i64 (bshr .u64 (u64 (i64 (o_ + a3))) 1)) + a2)) - r16.1)))) = true,
      (decide ((i64 ((i64 ((i64 (bshr .u64 (u64 (i64 (o_ + a3))) 1)) + a2)) - r16.1)) < a3)) = false]) (by kernel_rfl) (cj ((slices_symMergeCmpFunc_impl_Acct_impl_Gather_1_c0_ok o o_ a2 a3 r6 h24).at h25) (cj ((slices_symMergeCmpFunc_impl_Acct_impl_Gather_1_c5_ok o o_ a2 a3 r12 h50).at h51) (cj (by decide) (cj (slices_symMergeCmpFunc_impl_Acct_impl_Gather_1_c10_ok o o_ a2 a3 r13 h54) (cj (slices_symMergeCmpFunc_impl_Acct_impl_Gather_1_l4_ok o_ a2 a3 FUEL r13.1 r13.2 o r16 h66) (cj (slices_symMergeCmpFunc_impl_Acct_impl_Gather_1_c13_ok o_ a2 a3 r16 r18 h70) (cj h71 (cj h71 (cj h71 (cj h71 (cj h72 (cj (slices_symMergeCmpFunc_impl_Acct_impl_Gather_1_ok fuel r18 o_ r16.1 (i64 (bshr .u64 (u64 (i64 (o_ + a3))) 1)) r19 h73) (cj rfl (cj h74 (cj h74 (cj h74 (cj h74 (cj1 h75))))))))))))))))))))) (fun h74 =>
     Pn.some (Fn.of [.wait 1, .mask [0, 1, 2, 3, 4], .ren [0], .join 41 (X.go) (st 220 [(0, V.ow 0), (1, V.sc (.int .i64 o_)), (2, V.sc (.int .i64 a2)), (3, V.sc (.int .i64 a3)), (4, V.fn 90 [])] [Blk.row 29 (List.map E29 o) []] [some 0]), .wait 1, .mask [0, 1, 2, 3, 4], .ren [0], .join 41 (X.go) (st 220 [(0, V.ow 0), (1, V.sc (.int .i64 o_)), (2, V.sc (.int .i64 a2)), (3, V.sc (.int .i64 a3)), (4, V.fn 90 [])] [Blk.row 29 (List.map E29 o) []] [some 0]), .wait 14, .mask [0, 1, 2, 3, 4, 18, 19], .ren [0], .join 9 (X.go) (st 220 [(0, V.ow 0), (1, V.sc (.int .i64 o_)), (2, V.sc (.int .i64 a2)), (3, V.sc (.int .i64 a3)), (4, V.fn 90 []), (18, V.sc (.int .i64 (i64 (bshr .u64 (u64 (i64 (o_ + a3))) 1)))), (19, V.sc (.int .i64 (i64 ((i64 (bshr .u64 (u64 (i64 (o_ + a3))) 1)) + a2)))), (20, V.sc (.int .i64 r13.1)), (21, V.sc (.int .i64 r13.2))] [Blk.row 29 (List.map E29 o) []] [some 0]), .wait 4, .mask [0, 1, 2, 3, 4, 18, 19, 20, 21, 22], .ren [0], .loop (X.out 8) (st 220 [(0, V.ow 0), (1, V.sc (.int .i64 o_)), (2, V.sc (.int .i64 a2)), (3, V.sc (.int .i64 a3)), (4, V.fn 90 []), (18, V.sc (.int .i64 (i64 (bshr .u64 (u64 (i64 (o_ + a3))) 1)))), (19, V.sc (.int .i64 (i64 ((i64 (bshr .u64 (u64 (i64 (o_ + a3))) 1)) + a2)))), (20, V.sc (.int .i64 r16.1))] [Blk.row 29 (List.map E29 r16.2) []] [some 0]), .wait 5, .mask [0, 1, 2, 3, 4, 18, 20, 24], .ren [0], .join 5 (X.go) (st 220 [(0, V.ow 0), (1, V.sc (.int .i64 o_)), (3, V.sc (.int .i64 a3)), (4, V.fn 90 []), (18, V.sc (.int .i64 (i64 (bshr .u64 (u64 (i64 (o_ + a3))) 1)))), (20, V.sc (.int .i64 r16.1)), (24, V.sc (.int .i64 (i64 ((i64 ((i64 (bshr .u64 (u64 (i64 (o_ + a3))) 1)) + a2)) - r16.1))))] [Blk.row 29 (List.map E29 r18) []] [some 0]), .bit true, .bit true, .bit true, .bit true, .bit true, .call [true, false, false, false, false] (V.tup []) [V.sl true 29 (List.map E29 r19)], .bit false, .bit false, .bit false, .bit false, .bit false] (p := [HT Try.prog (sub (codeOf Try.prog 192) [0]) (st 220 [(0, V.ow 0), (1, V.sc (.int .i64 o_)), (2, V.sc (.int .i64 a2)), (3, V.sc (.int .i64 a3)), (4, V.fn 90 [])] [Blk.row 29 (List.map E29 o) []] [some 0]) (X.go) (st 220 [(0, V.ow 0), (1, V.sc (.int .i64 o_)), (2, V.sc (.int .i64 a2)), (3, V.sc (.int .i64 a3)), (4, V.fn 90 [])] [Blk.row 29 (List.map E29 o) []] [some 0]),
      HT Try.prog (sub (codeOf Try.prog 192) [1, 0]) (st 220 [(0, V.ow 0), (1, V.sc (.int .i64 o_)), (2, V.sc (.int .i64 a2)), (3, V.sc (.int .i64 a3)), (4, V.fn 90 [])] [Blk.row 29 (List.map E29 o) []] [some 0]) (X.go) (st 220 [(0, V.ow 0), (1, V.sc (.int .i64 o_)), (2, V.sc (.int .i64 a2)), (3, V.sc (.int .i64 a3)), (4, V.fn 90 [])] [Blk.row 29 (List.map E29 o) []] [some 0]),
      ¬ (1 : Int) < 0,
      HT Try.prog (sub (codeOf Try.prog 192) [1, 1, 1, 1, 1, 0]) (st 220 [(0, V.ow 0), (1, V.sc (.int .i64 o_)), (2, V.sc (.int .i64 a2)), (3, V.sc (.int .i64 a3)), (4, V.fn 90 []), (18, V.sc (.int .i64 (i64 (bshr .u64 (u64 (i64 (o_ + a3))) 1)))), (19, V.sc (.int .i64 (i64 ((i64 (bshr .u64 (u64 (i64 (o_ + a3))) 1)) + a2))))] [Blk.row 29 (List.map E29 o) []] [some 0]) (X.go) (st 220 [(0, V.ow 0), (1, V.sc (.int .i64 o_)), (2, V.sc (.int .i64 a2)), (3, V.sc (.int .i64 a3)), (4, V.fn 90 []), (18, V.sc (.int .i64 (i64 (bshr .u64 (u64 (i64 (o_ + a3))) 1)))), (19, V.sc (.int .i64 (i64 ((i64 (bshr .u64 (u64 (i64 (o_ + a3))) 1)) + a2)))), (20, V.sc (.int .i64 r13.1)), (21, V.sc (.int .i64 r13.2))] [Blk.row 29 (List.map E29 o) []] [some 0]),
      Loop Try.prog (sub (codeOf Try.prog 192) [1, 1, 1, 1, 1, 1, 1, 0, 0, 0]) (st 220 [(0, V.ow 0), (1, V.sc (.int .i64 o_)), (2, V.sc (.int .i64 a2)), (3, V.sc (.int .i64 a3)), (4, V.fn 90 []), (18, V.sc (.int .i64 (i64 (bshr .u64 (u64 (i64 (o_ + a3))) 1)))), (19, V.sc (.int .i64 (i64 ((i64 (bshr .u64 (u64 (i64 (o_ + a3))) 1)) + a2)))), (20, V.sc (.int .i64 r13.1)), (21, V.sc (.int .i64 r13.2)), (22, V.sc (.int .i64 (i64 ((i64 ((i64 (bshr .u64 (u64 (i64 (o_ + a3))) 1)) + a2)) - 1))))] [Blk.row 29 (List.map E29 o) []] [some 0]) (X.out 8) (st 220 [(0, V.ow 0), (1, V.sc (.int .i64 o_)), (2, V.sc (.int .i64 a2)), (3, V.sc (.int .i64 a3)), (4, V.fn 90 []), (18, V.sc (.int .i64 (i64 (bshr .u64 (u64 (i64 (o_ + a3))) 1)))), (19, V.sc (.int .i64 (i64 ((i64 (bshr .u64 (u64 (i64 (o_ + a3))) 1)) + a2)))), (20, V.sc (.int .i64 r16.1))] [Blk.row 29 (List.map E29 r16.2) []] [some 0]),
      HT Try.prog (sub (codeOf Try.prog 192) [1, 1, 1, 1, 1, 1, 1, 1, 1, 0]) (st 220 [(0, V.ow 0), (1, V.sc (.int .i64 o_)), (2, V.sc (.int .i64 a2)), (3, V.sc (.int .i64 a3)), (4, V.fn 90 []), (18, V.sc (.int .i64 (i64 (bshr .u64 (u64 (i64 (o_ + a3))) 1)))), (20, V.sc (.int .i64 r16.1)), (24, V.sc (.int .i64 (i64 ((i64 ((i64 (bshr .u64 (u64 (i64 (o_ + a3))) 1)) + a2)) - r16.1))))] [Blk.row 29 (List.map E29 r16.2) []] [some 0]) (X.go) (st 220 [(0, V.ow 0), (1, V.sc (.int .i64 o_)), (3, V.sc (.int .i64 a3)), (4, V.fn 90 []), (18, V.sc (.int .i64 (i64 (bshr .u64 (u64 (i64 (o_ + a3))) 1)))), (20, V.sc (.int .i64 r16.1)), (24, V.sc (.int .i64 (i64 ((i64 ((i64 (bshr .u64 (u64 (i64 (o_ + a3))) 1)) + a2)) - r16.1))))] [Blk.row 29 (List.map E29 r18) []] [some 0]),
      (decide (o_ < r16.1)) = true,
      (decide (o_ < r16.1)) = true,
      (decide (o_ < r16.1)) = true,
      (decide (o_ < r16.1)) = true,
      (decide (r16.1 < (i64 (bshr .u64 (u64 (i64 (o_ + a3))) 1)))) = true,
      Fn Try.prog 192 [(true, E48 r18), (false, E3 o_), (false, E3 r16.1), (false, E3 (i64 (bshr .u64 (u64 (i64 (o_ + a3))) 1))), (false, V.fn 90 [])] (V.tup []) [V.sl true 29 (List.map E29 r19)],
      (true || ((V.tup []).nv && nvL [V.sl true 29 (List.map E29 r19)])) = true,
      (decide ((i64 (bshr .u64 (u64 (i64 (o_ + a3))) 1)) < (i64 ((i64 ((i64 (bshr .u64 (u64 (i64 (o_ + a3))) 1)) + a2)) - r16.1)))) = false,
      (decide ((i64 (bshr .u64 (u64 (i64 (o_ + a3))) 1)) < (i64 ((i64 ((i64 (bshr .u64 (u64 (i64 (o_ + a3))) 1)) + a2)) - r16.1)))) = false,
      (decide ((i64 (bshr .u64 (u64 (i64 (o_ + a3))) 1)) < (i64 ((i64 ((i64 (bshr .u64 (u64 (i64 (o_ + a3))) 1)) + a2)) - r16.1)))) = false,
      (decide ((i64 (bshr .u64 (u64 (i64 (o_ + a3))) 1)) < (i64 ((i64 ((i64 (bshr .u64 (u64 (i64 (o_ + a3))) 1)) + a2)) - r16.1)))) = false,
      false = false]) (by kernel_rfl) (cj ((slices_symMergeCmpFunc_impl_Acct_impl_Gather_1_c0_ok o o_ a2 a3 r6 h24).at h25) (cj ((slices_symMergeCmpFunc_impl_Acct_impl_Gather_1_c5_ok o o_ a2 a3 r12 h50).at h51) (cj (by decide) (cj (slices_symMergeCmpFunc_impl_Acct_impl_Gather_1_c10_ok o o_ a2 a3 r13 h54) (cj (slices_symMergeCmpFunc_impl_Acct_impl_Gather_1_l4_ok o_ a2 a3 FUEL r13.1 r13.2 o r16 h66) (cj (slices_symMergeCmpFunc_impl_Acct_impl_Gather_1_c13_ok o_ a2 a3 r16 r18 h70) (cj h71 (cj h71 (cj h71 (cj h71 (cj h72 (cj (slices_symMergeCmpFunc_impl_Acct_impl_Gather_1_ok fuel r18 o_ r16.1 (i64 (bshr .u64 (u64 (i64 (o_ + a3))) 1)) r19 h73) (cj rfl (cj h74 (cj h74 (cj h74 (cj h74 (cj1 rfl)))))))))))))))))))))) (fun h72 =>
     Pn.ite (fun h77 =>
     Pn.ite (fun h78 =>
     Pn.bind (fun r21 h79 =>
     Pn.some (Fn.of [.wait 1, .mask [0, 1, 2, 3, 4], .ren [0], .join 41 (X.go) (st 220 [(0, V.ow 0), (1, V.sc (.int .i64 o_)), (2, V.sc (.int .i64 a2)), (3, V.sc (.int .i64 a3)), (4, V.fn 90 [])] [Blk.row 29 (List.map E29 o) []] [some 0]), .wait 1, .mask [0, 1, 2, 3, 4], .ren [0], .join 41 (X.go) (st 220 [(0, V.ow 0), (1, V.sc (.int .i64 o_)), (2, V.sc (.int .i64 a2)), (3, V.sc (.int .i64 a3)), (4, V.fn 90 [])] [Blk.row 29 (List.map E29 o) []] [some 0]), .wait 14, .mask [0, 1, 2, 3, 4, 18, 19], .ren [0], .join 9 (X.go) (st 220 [(0, V.ow 0), (1, V.sc (.int .i64 o_)), (2, V.sc (.int .i64 a2)), (3, V.sc (.int .i64 a3)), (4, V.fn 90 []), (18, V.sc (.int .i64 (i64 (bshr .u64 (u64 (i64 (o_ + a3))) 1)))), (19, V.sc (.int .i64 (i64 ((i64 (bshr .u64 (u64 (i64 (o_ + a3))) 1)) + a2)))), (20, V.sc (.int .i64 r13.1)), (21, V.sc (.int .i64 r13.2))] [Blk.row 29 (List.map E29 o) []] [some 0]), .wait 4, .mask [0, 1, 2, 3, 4, 18, 19, 20, 21, 22], .ren [0], .loop (X.out 8) (st 220 [(0, V.ow 0), (1, V.sc (.int .i64 o_)), (2, V.sc (.int .i64 a2)), (3, V.sc (.int .i64 a3)), (4, V.fn 90 []), (18, V.sc (.int .i64 (i64 (bshr .u64 (u64 (i64 (o_ + a3))) 1)))), (19, V.sc (.int .i64 (i64 ((i64 (bshr .u64 (u64 (i64 (o_ + a3))) 1)) + a2)))), (20, V.sc (.int .i64 r16.1))] [Blk.row 29 (List.map E29 r16.2) []] [some 0]), .wait 5, .mask [0, 1, 2, 3, 4, 18, 20, 24], .ren [0], .join 5 (X.go) (st 220 [(0, V.ow 0), (1, V.sc (.int .i64 o_)), (3, V.sc (.int .i64 a3)), (4, V.fn 90 []), (18, V.sc (.int .i64 (i64 (bshr .u64 (u64 (i64 (o_ + a3))) 1)))), (20, V.sc (.int .i64 r16.1)), (24, V.sc (.int .i64 (i64 ((i64 ((i64 (bshr .u64 (u64 (i64 (o_ + a3))) 1)) + a2)) - r16.1))))] [Blk.row 29 (List.map E29 r18) []] [some 0]), .bit true, .bit true, .bit true, .bit true, .bit false, .bit true, .bit true, .bit true, .bit true, .bit true, .call [true, false, false, false, false] (V.tup []) [V.sl true 29 (List.map E29 r21)]] (p := [HT Try.prog (sub (codeOf Try.prog 192) [0]) (st 220 [(0, V.ow 0), (1, V.sc (.int .i64 o_)), (2, V.sc (.int .i64 a2)), (3, V.sc (.int .i64 a3)), (4, V.fn 90 [])] [Blk.row 29 (List.map E29 o) []] [some 0]) (X.go) (st 220 [(0, V.ow 0), (1, V.sc (.int .i64 o_)), (2, V.sc (.int .i64 a2)), (3, V.sc (.int .i64 a3)), (4, V.fn 90 [])] [Blk.row 29 (List.map E29 o) []] [some 0]),
      HT Try.prog (sub (codeOf Try.prog 192) [1, 0]) (st 220 [(0, V.ow 0), (1, V.sc (.int .i64 o_)), (2, V.sc (.int .i64 a2)), (3, V.sc (.int .i64 a3)), (4, V.fn 90 [])] [Blk.row 29 (List.map E29 o) []] [some 0]) (X.go) (st 220 [(0, V.ow 0), (1, V.sc (.int .i64 o_)), (2, V.sc (.int .i64 a2)), (3, V.sc (.int .i64 a3)), (4, V.fn 90 [])] [Blk.row 29 (List.map E29 o) []] [some 0]),
      ¬ (1 : Int) < 0,
      HT Try.prog (sub (codeOf Try.prog 192) [1, 1, 1, 1, 1, 0]) (st 220 [(0, V.ow 0), (1, V.sc (.int .i64 o_)), (2, V.sc (.int .i64 a2)), (3, V.sc (.int .i64 a3)), (4, V.fn 90 []), (18, V.sc (.int .i64 (i64 (bshr .u64 (u64 (i64 (o_ + a3))) 1)))), (19, V.sc (.int .i64 (i64 ((i64 (bshr .u64 (u64 (i64 (o_ + a3))) 1)) + a2))))] [Blk.row 29 (List.map E29 o) []] [some 0]) (X.go) (st 220 [(0, V.ow 0), (1, V.sc (.int .i64 o_)), (2, V.sc (.int .i64 a2)), (3, V.sc (.int .i64 a3)), (4, V.fn 90 []), (18, V.sc (.int .i64 (i64 (bshr .u64 (u64 (i64 (o_ + a3))) 1)))), (19, V.sc (.int .i64 (i64 ((i64 (bshr .u64 (u64 (i64 (o_ + a3))) 1)) + a2)))), (20, V.sc (.int .i64 r13.1)), (21, V.sc (.int .i64 r13.2))] [Blk.row 29 (List.map E29 o) []] [some 0]),
      Loop Try.prog (sub (codeOf Try.prog 192) [1, 1, 1, 1, 1, 1, 1, 0, 0, 0]) (st 220 [(0, V.ow 0), (1, V.sc (.int .i64 o_)), (2, V.sc (.int .i64 a2)), (3, V.sc (.int .i64 a3)), (4, V.fn 90 []), (18, V.sc (.int .i64 (i64 (bshr .u64 (u64 (i64 (o_ + a3))) 1)))), (19, V.sc (.int .i64 (i64 ((i64 (bshr .u64 (u64 (i64 (o_ + a3))) 1)) + a2)))), (20, V.sc (.int .i64 r13.1)), (21, V.sc (.int .i64 r13.2)), (22, V.sc (.int .i64 (i64 ((i64 ((i64 (bshr .u64 (u64 (i64 (o_ + a3))) 1)) + a2)) - 1))))] [Blk.row 29 (List.map E29 o) []] [some 0]) (X.out 8) (st 220 [(0, V.ow 0), (1, V.sc (.int .i64 o_)), (2, V.sc (.int .i64 a2)), (3, V.sc (.int .i64 a3)), (4, V.fn 90 []), (18, V.sc (.int .i64 (i64 (bshr .u64 (u64 (i64 (o_ + a3))) 1)))), (19, V.sc (.int .i64 (i64 ((i64 (bshr .u64 (u64 (i64 (o_ + a3))) 1)) + a2)))), (20, V.sc (.int .i64 r16.1))] [Blk.row 29 (List.map E29 r16.2) []] [some 0]),
      HT Try.prog (sub (codeOf Try.prog 192) [1, 1, 1, 1, 1, 1, 1, 1, 1, 0]) (st 220 [(0, V.ow 0), (1, V.sc (.int .i64 o_)), (2, V.sc (.int .i64 a2)), (3, V.sc (.int .i64 a3)), (4, V.fn 90 []), (18, V.sc (.int .i64 (i64 (bshr .u64 (u64 (i64 (o_ + a3))) 1)))), (20, V.sc (.int .i64 r16.1)), (24, V.sc (.int .i64 (i64 ((i64 ((i64 (bshr .u64 (u64 (i64 (o_ + a3))) 1)) + a2)) - r16.1))))] [Blk.row 29 (List.map E29 r16.2) []] [some 0]) (X.go) (st 220 [(0, V.ow 0), (1, V.sc (.int .i64 o_)), (3, V.sc (.int .i64 a3)), (4, V.fn 90 []), (18, V.sc (.int .i64 (i64 (bshr .u64 (u64 (i64 (o_ + a3))) 1)))), (20, V.sc (.int .i64 r16.1)), (24, V.sc (.int .i64 (i64 ((i64 ((i64 (bshr .u64 (u64 (i64 (o_ + a3))) 1)) + a2)) - r16.1))))] [Blk.row 29 (List.map E29 r18) []] [some 0]),
      (decide (o_ < r16.1)) = true,
      (decide (o_ < r16.1)) = true,
      (decide (o_ < r16.1)) = true,
      (decide (o_ < r16.1)) = true,
      (decide (r16.1 < (i64 (bshr .u64 (u64 (i64 (o_ + a3))) 1)))) = false,
      (decide ((i64 (bshr .u64 (u64 (i64 (o_ + a3))) 1)) < (i64 ((i64 ((i64 (bshr .u64 (u64 (i64 (o_ + a3))) 1)) + a2)) - r16.1)))) = true,
      (decide ((i64 (bshr .u64 (u64 (i64 (o_ + a3))) 1)) < (i64 ((i64 ((i64 (bshr .u64 (u64 (i64 (o_ + a3))) 1)) + a2)) - r16.1)))) = true,
      (decide ((i64 (bshr .u64 (u64 (i64 (o_ + a3))) 1)) < (i64 ((i64 ((i64 (bshr .u64 (u64 (i64 (o_ + a3))) 1)) + a2)) - r16.1)))) = true,
      (decide ((i64 (bshr .u64 (u64 (i64 (o_ + a3))) 1)) < (i64 ((i64 ((i64 (bshr .u64 (u64 (i64 (o_ + a3))) 1)) + a2)) - r16.1)))) = true,
      (decide ((i64 ((i64 ((i64 (bshr .u64 (u64 (i64 (o_ + a3))) 1)) + a2)) - r16.1)) < a3)) = true,
      Fn Try.prog 192 [(true, E48 r18), (false, E3 (i64 (bshr .u64 (u64 (i64 (o_ + a3))) 1))), (false, E3 (i64 ((i64 ((i64 (bshr .u64 (u64 (i64 (o_ + a3))) 1)) + a2)) - r16.1))), (false, E3 a3), (false, V.fn 90 [])] (V.tup []) [V.sl true 29 (List.map E29 r21)],
      (true || ((V.tup []).nv && nvL [V.sl true 29 (List.map E29 r21)])) = true]) (by kernel_rfl) (cj ((slices_symMergeCmpFunc_impl_Acct_impl_Gather_1_c0_ok o o_ a2 a3 r6 h24).at h25) (cj ((slices_symMergeCmpFunc_impl_Acct_impl_Gather_1_c5_ok o o_ a2 a3 r12 h50).at h51) (cj (by decide) (cj (slices_symMergeCmpFunc_impl_Acct_impl_Gather_1_c10_ok o o_ a2 a3 r13 h54) (cj (slices_symMergeCmpFunc_impl_Acct_impl_Gather_1_l4_ok o_ a2 a3 FUEL r13.1 r13.2 o r16 h66) (cj (slices_symMergeCmpFunc_impl_Acct_impl_Gather_1_c13_ok o_ a2 a3 r16 r18 h70) (cj h71 (cj h71 (cj h71 (cj h71 (cj h72 (cj h77 (cj h77 (cj h77 (cj h77 (cj h78 (cj (slices_symMergeCmpFunc_impl_Acct_impl_Gather_1_ok fuel r18 (i64 (bshr .u64 (u64 (i64 (o_ + a3))) 1)) (i64 ((i64 ((i64 (bshr .u64 (u64 (i64 (o_ + a3))) 1)) + a2)) - r16.1)) a3 r21 h79) (cj1 rfl))))))))))))))))))))) (fun h78 =>
     Pn.some (Fn.of [.wait 1, .mask [0, 1, 2, 3, 4], .ren [0], .join 41 (X.go) (st 220 [(0, V.ow 0), (1, V.sc (.int .i64 o_)), (2, V.sc (.int .i64 a2)), (3, V.sc (.int .i64 a3)), (4, V.fn 90 [])] [Blk.row 29 (List.map E29 o) []] [some 0]), .wait 1, .mask [0, 1, 2, 3, 4], .ren [0], .join 41 (X.go) (st 220 [(0, V.ow 0), (1, V.sc (.int .i64 o_)), (2, V.sc (.int .i64 a2)), (3, V.sc (.int .i64 a3)), (4, V.fn 90 [])] [Blk.row 29 (List.map E29 o) []] [some 0]), .wait 14, .mask [0, 1, 2, 3, 4, 18, 19], .ren [0], .join 9 (X.go) (st 220 [(0, V.ow 0), (1, V.sc (.int .i64 o_)), (2, V.sc (.int .i64 a2)), (3, V.sc (.int .i64 a3)), (4, V.fn 90 []), (18, V.sc (.int .i64 (i64 (bshr .u64 (u64 (i64 (o_ + a3))) 1)))), (19, V.sc (.int .i64 (i64 ((i64 (bshr .u64 (u64 (i64 (o_ + a3))) 1)) + a2)))), (20, V.sc (.int .i64 r13.1)), (21, V.sc (.int .i64 r13.2))] [Blk.row 29 (List.map E29 o) []] [some 0]), .wait 4, .mask [0, 1, 2, 3, 4, 18, 19, 20, 21, 22], .ren [0], .loop (X.out 8) (st 220 [(0, V.ow 0), (1, V.sc (.int .i64 o_)), (2, V.sc (.int .i64 a2)), (3, V.sc (.int .i64 a3)), (4, V.fn 90 []), (18, V.sc (.int .i64 (i64 (bshr .u64 (u64 (i64 (o_ + a3))) 1)))), (19, V.sc (.int .i64 (i64 ((i64 (bshr .u64 (u64 (i64 (o_ + a3))) 1)) + a2)))), (20, V.sc (.int .i64 r16.1))] [Blk.row 29 (List.map E29 r16.2) []] [some 0]), .wait 5, .mask [0, 1, 2, 3, 4, 18, 20, 24], .ren [0], .join 5 (X.go) (st 220 [(0, V.ow 0), (1, V.sc (.int .i64 o_)), (3, V.sc (.int .i64 a3)), (4, V.fn 90 []), (18, V.sc (.int .i64 (i64 (bshr .u64 (u64 (i64 (o_ + a3))) 1)))), (20, V.sc (.int .i64 r16.1)), (24, V.sc (.int .i64 (i64 ((i64 ((i64 (bshr .u64 (u64 (i64 (o_ + a3))) 1)) + a2)) - r16.1))))] [Blk.row 29 (List.map E29 r18) []] [some 0]), .bit true, .bit true, .bit true, .bit true, .bit false, .bit true, .bit true, .bit true, .bit true, .bit false] (p := [HT Try.prog (sub (codeOf Try.prog 192) [0]) (st 220 [(0, V.ow 0), (1, V.sc (.int .i64 o_)), (2, V.sc (.int .i64 a2)), (3, V.sc (.int .i64 a3)), (4, V.fn 90 [])] [Blk.row 29 (List.map E29 o) []] [some 0]) (X.go) (st 220 [(0, V.ow 0), (1, V.sc (.int .i64 o_)), (2, V.sc (.int .i64 a2)), (3, V.sc (.int .i64 a3)), (4, V.fn 90 [])] [Blk.row 29 (List.map E29 o) []] [some 0]),
      HT Try.prog (sub (codeOf Try.prog 192) [1, 0]) (st 220 [(0, V.ow 0), (1, V.sc (.int .i64 o_)), (2, V.sc (.int .i64 a2)), (3, V.sc (.int .i64 a3)), (4, V.fn 90 [])] [Blk.row 29 (List.map E29 o) []] [some 0]) (X.go) (st 220 [(0, V.ow 0), (1, V.sc (.int .i64 o_)), (2, V.sc (.int .i64 a2)), (3, V.sc (.int .i64 a3)), (4, V.fn 90 [])] [Blk.row 29 (List.map E29 o) []] [some 0]),
      ¬ (1 : Int) < 0,
      HT Try.prog (sub (codeOf Try.prog 192) [1, 1, 1, 1, 1, 0]) (st 220 [(0, V.ow 0), (1, V.sc (.int .i64 o_)), (2, V.sc (.int .i64 a2)), (3, V.sc (.int .i64 a3)), (4, V.fn 90 []), (18, V.sc (.int .i64 (i64 (bshr .u64 (u64 (i64 (o_ + a3))) 1)))), (19, V.sc (.int .i64 (i64 ((i64 (bshr .u64 (u64 (i64 (o_ + a3))) 1)) + a2))))] [Blk.row 29 (List.map E29 o) []] [some 0]) (X.go) (st 220 [(0, V.ow 0), (1, V.sc (.int .i64 o_)), (2, V.sc (.int .i64 a2)), (3, V.sc (.int .i64 a3)), (4, V.fn 90 []), (18, V.sc (.int .i64 (i64 (bshr .u64 (u64 (i64 (o_ + a3))) 1)))), (19, V.sc (.int .i64 (i64 ((i64 (bshr .u64 (u64 (i64 (o_ + a3))) 1)) + a2)))), (20, V.sc (.int .i64 r13.1)), (21, V.sc (.int .i64 r13.2))] [Blk.row 29 (List.map E29 o) []] [some 0]),
      Loop Try.prog (sub (codeOf Try.prog 192) [1, 1, 1, 1, 1, 1, 1, 0, 0, 0]) (st 220 [(0, V.ow 0), (1, V.sc (.int .i64 o_)), (2, V.sc (.int .i64 a2)), (3, V.sc (.int .i64 a3)), (4, V.fn 90 []), (18, V.sc (.int .i64 (i64 (bshr .u64 (u64 (i64 (o_ + a3))) 1)))), (19, V.sc (.int .i64 (i64 ((i64 (bshr .u64 (u64 (i64 (o_ + a3))) 1)) + a2)))), (20, V.sc (.int .i64 r13.1)), (21, V.sc (.int .i64 r13.2)), (22, V.sc (.int .i64 (i64 ((i64 ((i64 (bshr .u64 (u64 (i64 (o_ + a3))) 1)) + a2)) - 1))))] [Blk.row 29 (List.map E29 o) []] [some 0]) (X.out 8) (st 220 [(0, V.ow 0), (1, V.sc (.int .i64 o_)), (2, V.sc (.int .i64 a2)), (3, V.sc (.int .i64 a3)), (4, V.fn 90 []), (18, V.sc (.int .i64 (i64 (bshr .u64 (u64 (i64 (o_ + a3))) 1)))), (19, V.sc (.int .i64 (i64 ((i64 (bshr .u64 (u64 (i64 (o_ + a3))) 1)) + a2)))), (20, V.sc (.int .i64 r16.1))] [Blk.row 29 (List.map E29 r16.2) []] [some 0]),
      HT Try.prog (sub (codeOf Try.prog 192) [1, 1, 1, 1, 1, 1, 1, 1, 1, 0]) (st 220 [(0, V.ow 0), (1, V.sc (.int .i64 o_)), (2, V.sc (.int .i64 a2)), (3, V.sc (.int .i64 a3)), (4, V.fn 90 []), (18, V.sc (.int .i64 (i64 (bshr .u64 (u64 (i64 (o_ + a3))) 1)))), (20, V.sc (.int .i64 r16.1)), (24, V.sc (.int .i64 (i64 ((i64 ((i64 (bshr .u64 (u64 (i64 (o_ + a3))) 1)) + a2)) - r16.1))))] [Blk.row 29 (List.map E29 r16.2) []] [some 0]) (X.go) (st 220 [(0, V.ow 0), (1, V.sc (.int .i64 o_)), (3, V.sc (.int .i64 a3)), (4, V.fn 90 []), (18, V.sc (.int .i64 (i64 (bshr .u64 (u64 (i64 (o_ + a3))) 1)))), (20, V.sc (.int .i64 r16.1)), (24, V.sc (.int .i64 (i64 ((i64 ((i64 (bshr .u64 (u64 (i64 (o_ + a3))) 1)) + a2)) - r16.1))))] [Blk.row 29 (List.map E29 r18) []] [some 0]),
      (decide (o_ < r16.1)) = true,
      (decide (o_ < r16.1)) = true,
      (decide (o_ < r16.1)) = true,
      (decide (o_ < r16.1)) = true,
      (decide (r16.1 < (i64 (bshr .u64 (u64 (i64 (o_ + a3))) 1)))) = false,
      (decide ((i64 (bshr .u64 (u64 (i64 (o_ + a3))) 1)) < (i64 ((i64 ((i64 (bshr .u64 (u64 (i64 (o_ + a3))) 1)) + a2)) - r16.1)))) = true,
      (decide ((i64 (bshr .u64 (u64 (i64 (o_ + a3))) 1)) < (i64 ((i64 ((i64 (bshr .u64 (u64 (i64 (o_ + a3))) 1)) + a2)) - r16.1)))) = true,
      (decide ((i64 (bshr .u64 (u64 (i64 (o_ + a3))) 1)) < (i64 ((i64 ((i64 (bshr .u64 (u64 (i64 (o_ + a3))) 1)) + a2)) - r16.1)))) = true,
      (decide ((i64 (bshr .u64 (u64 (i64 (o_ + a3))) 1)) < (i64 ((i64 ((i64 (bshr .u64 (u64 (i64 (o_ + a3))) 1)) + a2)) - r16.1)))) = true,
      (decide ((i64 ((i64 ((i64 (bshr .u64 (u64 (i64 (o_ + a3))) 1)) + a2)) - r16.1)) < a3)) = false]) (by kernel_rfl) (cj ((slices_symMergeCmpFunc_impl_Acct_impl_Gather_1_c0_ok o o_ a2 a3 r6 h24).at h25) (cj ((slices_symMergeCmpFunc_impl_Acct_impl_Gather_1_c5_ok o o_ a2 a3 r12 h50).at h51) (cj (by decide) (cj (slices_symMergeCmpFunc_impl_Acct_impl_Gather_1_c10_ok o o_ a2 a3 r13 h54) (cj (slices_symMergeCmpFunc_impl_Acct_impl_Gather_1_l4_ok o_ a2 a3 FUEL r13.1 r13.2 o r16 h66) (cj (slices_symMergeCmpFunc_impl_Acct_impl_Gather_1_c13_ok o_ a2 a3 r16 r18 h70) (cj h71 (cj h71 (cj h71 (cj h71 (cj h72 (cj h77 (cj h77 (cj h77 (cj h77 (cj1 h78))))))))))))))))))) (fun h77 =>
     Pn.some (Fn.of [.wait 1, .mask [0, 1, 2, 3, 4], .ren [0], .join 41 (X.go) (st 220 [(0, V.ow 0), (1, V.sc (.int .i64 o_)), (2, V.sc (.int .i64 a2)), (3, V.sc (.int .i64 a3)), (4, V.fn 90 [])] [Blk.row 29 (List.map E29 o) []] [some 0]), .wait 1, .mask [0, 1, 2, 3, 4], .ren [0], .join 41 (X.go) (st 220 [(0, V.ow 0), (1, V.sc (.int .i64 o_)), (2, V.sc (.int .i64 a2)), (3, V.sc (.int .i64 a3)), (4, V.fn 90 [])] [Blk.row 29 (List.map E29 o) []] [some 0]), .wait 14, .mask [0, 1, 2, 3, 4, 18, 19], .ren [0], .join 9 (X.go) (st 220 [(0, V.ow 0), (1, V.sc (.int .i64 o_)), (2, V.sc (.int .i64 a2)), (3, V.sc (.int .i64 a3)), (4, V.fn 90 []), (18, V.sc (.int .i64 (i64 (bshr .u64 (u64 (i64 (o_ + a3))) 1)))), (19, V.sc (.int .i64 (i64 ((i64 (bshr .u64 (u64 (i64 (o_ + a3))) 1)) + a2)))), (20, V.sc (.int .i64 r13.1)), (21, V.sc (.int .i64 r13.2))] [Blk.row 29 (List.map E29 o) []] [some 0]), .wait 4, .mask [0, 1, 2, 3, 4, 18, 19, 20, 21, 22], .ren [0], .loop (X.out 8) (st 220 [(0, V.ow 0), (1, V.sc (.int .i64 o_)), (2, V.sc (.int .i64 a2)), (3, V.sc (.int .i64 a3)), (4, V.fn 90 []), (18, V.sc (.int .i64 (i64 (bshr .u64 (u64 (i64 (o_ + a3))) 1)))), (19, V.sc (.int .i64 (i64 ((i64 (bshr .u64 (u64 (i64 (o_ + a3))) 1)) + a2)))), (20, V.sc (.int .i64 r16.1))] [Blk.row 29 (List.map E29 r16.2) []] [some 0]), .wait 5, .mask [0, 1, 2, 3, 4, 18, 20, 24], .ren [0], .join 5 (X.go) (st 220 [(0, V.ow 0), (1, V.sc (.int .i64 o_)), (3, V.sc (.int .i64 a3)), (4, V.fn 90 []), (18, V.sc (.int .i64 (i64 (bshr .u64 (u64 (i64 (o_ + a3))) 1)))), (20, V.sc (.int .i64 r16.1)), (24, V.sc (.int .i64 (i64 ((i64 ((i64 (bshr .u64 (u64 (i64 (o_ + a3))) 1)) + a2)) - r16.1))))] [Blk.row 29 (List.map E29 r18) []] [some 0]), .bit true, .bit true, .bit true, .bit true, .bit false, .bit false, .bit false, .bit false, .bit false, .bit false] (p := [HT Try.prog (sub (codeOf Try.prog 192) [0]) (st 220 [(0, V.ow 0), (1, V.sc (.int .i64 o_)), (2, V.sc (.int .i64 a2)), (3, V.sc (.int .i64 a3)), (4, V.fn 90 [])] [Blk.row 29 (List.map E29 o) []] [some 0]) (X.go) (st 220 [(0, V.ow 0), (1, V.sc (.int .i64 o_)), (2, V.sc (.int .i64 a2)), (3, V.sc (.int .i64 a3)), (4, V.fn 90 [])] [Blk.row 29 (List.map E29 o) []] [some 0]),
      HT Try.prog (sub (codeOf Try.prog 192) [1, 0]) (st 220 [(0, V.ow 0), (1, V.sc (.int .i64 o_)), (2, V.sc (.int .i64 a2)), (3, V.sc (.int .i64 a3)), (4, V.fn 90 [])] [Blk.row 29 (List.map E29 o) []] [some 0]) (X.go) (st 220 [(0, V.ow 0), (1, V.sc (.int .i64 o_)), (2, V.sc (.int .i64 a2)), (3, V.sc (.int .i64 a3)), (4, V.fn 90 [])] [Blk.row 29 (List.map E29 o) []] [some 0]),
      ¬ (1 : Int) < 0,
      HT Try.prog (sub (codeOf Try.prog 192) [1, 1, 1, 1, 1, 0]) (st 220 [(0, V.ow 0), (1, V.sc (.int .i64 o_)), (2, V.sc (.int .i64 a2)), (3, V.sc (.int .i64 a3)), (4, V.fn 90 []), (18, V.sc (.int .i64 (i64 (bshr .u64 (u64 (i64 (o_ + a3))) 1)))), (19, V.sc (.int .i64 (i64 ((i64 (bshr .u64 (u64 (i64 (o_ + a3))) 1)) + a2))))] [Blk.row 29 (List.map E29 o) []] [some 0]) (X.go) (st 220 [(0, V.ow 0), (1, V.sc (.int .i64 o_)), (2, V.sc (.int .i64 a2)), (3, V.sc (.int .i64 a3)), (4, V.fn 90 []), (18, V.sc (.int .i64 (i64 (bshr .u64 (u64 (i64 (o_ + a3))) 1)))), (19, V.sc (.int .i64 (i64 ((i64 (bshr .u64 (u64 (i64 (o_ + a3))) 1)) + a2)))), (20, V.sc (.int .i64 r13.1)), (21, V.sc (.int .i64 r13.2))] [Blk.row 29 (List.map E29 o) []] [some 0]),
      Loop Try.prog (sub (codeOf Try.prog 192) [1, 1, 1, 1, 1, 1, 1, 0, 0, 0]) (st 220 [(0, V.ow 0), (1, V.sc (.int .i64 o_)), (2, V.sc (.int .i64 a2)), (3, V.sc (.int .i64 a3)), (4, V.fn 90 []), (18, V.sc (.int .i64 (i64 (bshr .u64 (u64 (i64 (o_ + a3))) 1)))), (19, V.sc (.int .i64 (i64 ((i64 (bshr .u64 (u64 (i64 (o_ + a3))) 1)) + a2)))), (20, V.sc (.int .i64 r13.1)), (21, V.sc (.int .i64 r13.2)), (22, V.sc (.int .i64 (i64 ((i64 ((i64 (bshr .u64 (u64 (i64 (o_ + a3))) 1)) + a2)) - 1))))] [Blk.row 29 (List.map E29 o) []] [some 0]) (X.out 8) (st 220 [(0, V.ow 0), (1, V.sc (.int .i64 o_)), (2, V.sc (.int .i64 a2)), (3, V.sc (.int .i64 a3)), (4, V.fn 90 []), (18, V.sc (.int .i64 (i64 (bshr .u64 (u64 (i64 (o_ + a3))) 1)))), (19, V.sc (.int .i64 (i64 ((i64 (bshr .u64 (u64 (i64 (o_ + a3))) 1)) + a2)))), (20, V.sc (.int .i64 r16.1))] [Blk.row 29 (List.map E29 r16.2) []] [some 0]),
      HT Try.prog (sub (codeOf Try.prog 192) [1, 1, 1, 1, 1, 1, 1, 1, 1, 0]) (st 220 [(0, V.ow 0), (1, V.sc (.int .i64 o_)), (2, V.sc (.int .i64 a2)), (3, V.sc (.int .i64 a3)), (4, V.fn 90 []), (18, V.sc (.int .i64 (i64 (bshr .u64 (u64 (i64 (o_ + a3))) 1)))), (20, V.sc (.int .i64 r16.1)), (24, V.sc (.int .i64 (i64 ((i64 ((i64 (bshr .u64 (u64 (i64 (o_ + a3))) 1)) + a2)) - r16.1))))] [Blk.row 29 (List.map E29 r16.2) []] [some 0]) (X.go) (st 220 [(0, V.ow 0), (1, V.sc (.int .i64 o_)), (3, V.sc (.int .i64 a3)), (4, V.fn 90 []), (18, V.sc (.int .i64 (i64 (bshr .u64 (u64 (i64 (o_ + a3))) 1)))), (20, V.sc (.int .i64 r16.1)), (24, V.sc (.int .i64 (i64 ((i64 ((i64 (bshr .u64 (u64 (i64 (o_ + a3))) 1)) + a2)) - r16.1))))] [Blk.row 29 (List.map E29 r18) []] [some 0]),
      (decide (o_ < r16.1)) = true,
      (decide (o_ < r16.1)) = true,
      (decide (o_ < r16.1)) = true,
      (decide (o_ < r16.1)) = true,
      (decide (r16.1 < (i64 (bshr .u64 (u64 (i64 (o_ + a3))) 1)))) = false,
      (decide ((i64 (bshr .u64 (u64 (i64 (o_ + a3))) 1)) < (i64 ((i64 ((i64 (bshr .u64 (u64 (i64 (o_ + a3))) 1)) + a2)) - r16.1)))) = false,
      (decide ((i64 (bshr .u64 (u64 (i64 (o_ + a3))) 1)) < (i64 ((i64 ((i64 (bshr .u64 (u64 (i64 (o_ + a3))) 1)) + a2)) - r16.1)))) = false,
      (decide ((i64 (bshr .u64 (u64 (i64 (o_ + a3))) 1)) < (i64 ((i64 ((i64 (bshr .u64 (u64 (i64 (o_ + a3))) 1)) + a2)) - r16.1)))) = false,
      (decide ((i64 (bshr .u64 (u64 (i64 (o_ + a3))) 1)) < (i64 ((i64 ((i64 (bshr .u64 (u64 (i64 (o_ + a3))) 1)) + a2)) - r16.1)))) = false,
      false = false]) (by kernel_rfl) (cj ((slices_symMergeCmpFunc_impl_Acct_impl_Gather_1_c0_ok o o_ a2 a3 r6 h24).at h25) (cj ((slices_symMergeCmpFunc_impl_Acct_impl_Gather_1_c5_ok o o_ a2 a3 r12 h50).at h51) (cj (by decide) (cj (slices_symMergeCmpFunc_impl_Acct_impl_Gather_1_c10_ok o o_ a2 a3 r13 h54) (cj (slices_symMergeCmpFunc_impl_Acct_impl_Gather_1_l4_ok o_ a2 a3 FUEL r13.1 r13.2 o r16 h66) (cj (slices_symMergeCmpFunc_impl_Acct_impl_Gather_1_c13_ok o_ a2 a3 r16 r18 h70) (cj h71 (cj h71 (cj h71 (cj h71 (cj h72 (cj h77 (cj h77 (cj h77 (cj h77 (cj1 rfl)))))))))))))))))))) (fun h71 =>
     Pn.ite (fun h80 =>
     Pn.ite (fun h81 =>
     Pn.bind (fun r22 h82 =>
     Pn.some (Fn.of [.wait 1, .mask [0, 1, 2, 3, 4], .ren [0], .join 41 (X.go) (st 220 [(0, V.ow 0), (1, V.sc (.int .i64 o_)), (2, V.sc (.int .i64 a2)), (3, V.sc (.int .i64 a3)), (4, V.fn 90 [])] [Blk.row 29 (List.map E29 o) []] [some 0]), .wait 1, .mask [0, 1, 2, 3, 4], .ren [0], .join 41 (X.go) (st 220 [(0, V.ow 0), (1, V.sc (.int .i64 o_)), (2, V.sc (.int .i64 a2)), (3, V.sc (.int .i64 a3)), (4, V.fn 90 [])] [Blk.row 29 (List.map E29 o) []] [some 0]), .wait 14, .mask [0, 1, 2, 3, 4, 18, 19], .ren [0], .join 9 (X.go) (st 220 [(0, V.ow 0), (1, V.sc (.int .i64 o_)), (2, V.sc (.int .i64 a2)), (3, V.sc (.int .i64 a3)), (4, V.fn 90 []), (18, V.sc (.int .i64 (i64 (bshr .u64 (u64 (i64 (o_ + a3))) 1)))), (19, V.sc (.int .i64 (i64 ((i64 (bshr .u64 (u64 (i64 (o_ + a3))) 1)) + a2)))), (20, V.sc (.int .i64 r13.1)), (21, V.sc (.int .i64 r13.2))] [Blk.row 29 (List.map E29 o) []] [some 0]), .wait 4, .mask [0, 1, 2, 3, 4, 18, 19, 20, 21, 22], .ren [0], .loop (X.out 8) (st 220 [(0, V.ow 0), (1, V.sc (.int .i64 o_)), (2, V.sc (.int .i64 a2)), (3, V.sc (.int .i64 a3)), (4, V.fn 90 []), (18, V.sc (.int .i64 (i64 (bshr .u64 (u64 (i64 (o_ + a3))) 1)))), (19, V.sc (.int .i64 (i64 ((i64 (bshr .u64 (u64 (i64 (o_ + a3))) 1)) + a2)))), (20, V.sc (.int .i64 r16.1))] [Blk.row 29 (List.map E29 r16.2) []] [some 0]), .wait 5, .mask [0, 1, 2, 3, 4, 18, 20, 24], .ren [0], .join 5 (X.go) (st 220 [(0, V.ow 0), (1, V.sc (.int .i64 o_)), (3, V.sc (.int .i64 a3)), (4, V.fn 90 []), (18, V.sc (.int .i64 (i64 (bshr .u64 (u64 (i64 (o_ + a3))) 1)))), (20, V.sc (.int .i64 r16.1)), (24, V.sc (.int .i64 (i64 ((i64 ((i64 (bshr .u64 (u64 (i64 (o_ + a3))) 1)) + a2)) - r16.1))))] [Blk.row 29 (List.map E29 r18) []] [some 0]), .bit false, .bit false, .bit false, .bit false, .bit false, .bit true, .bit true, .bit true, .bit true, .bit true, .call [true, false, false, false, false] (V.tup []) [V.sl true 29 (List.map E29 r22)]] (p := [HT Try.prog (sub (codeOf Try.prog 192) [0]) (st 220 [(0, V.ow 0), (1, V.sc (.int .i64 o_)), (2, V.sc (.int .i64 a2)), (3, V.sc (.int .i64 a3)), (4, V.fn 90 [])] [Blk.row 29 (List.map E29 o) []] [some 0]) (X.go) (st 220 [(0, V.ow 0), (1, V.sc (.int .i64 o_)), (2, V.sc (.int .i64 a2)), (3, V.sc (.int .i64 a3)), (4, V.fn 90 [])] [Blk.row 29 (List.map E29 o) []] [some 0]),
      HT Try.prog (sub (codeOf Try.prog 192) [1, 0]) (st 220 [(0, V.ow 0), (1, V.sc (.int .i64 o_)), (2, V.sc (.int .i64 a2)), (3, V.sc (.int .i64 a3)), (4, V.fn 90 [])] [Blk.row 29 (List.map E29 o) []] [some 0]) (X.go) (st 220 [(0, V.ow 0), (1, V.sc (.int .i64 o_)), (2, V.sc (.int .i64 a2)), (3, V.sc (.int .i64 a3)), (4, V.fn 90 [])] [Blk.row 29 (List.map E29 o) []] [some 0]),
      ¬ (1 : Int) < 0,
      HT Try.prog (sub (codeOf Try.prog 192) [1, 1, 1, 1, 1, 0]) (st 220 [(0, V.ow 0), (1, V.sc (.int .i64 o_)), (2, V.sc (.int .i64 a2)), (3, V.sc (.int .i64 a3)), (4, V.fn 90 []), (18, V.sc (.int .i64 (i64 (bshr .u64 (u64 (i64 (o_ + a3))) 1)))), (19, V.sc (.int .i64 (i64 ((i64 (bshr .u64 (u64 (i64 (o_ + a3))) 1)) + a2))))] [Blk.row 29 (List.map E29 o) []] [some 0]) (X.go) (st 220 [(0, V.ow 0), (1, V.sc (.int .i64 o_)), (2, V.sc (.int .i64 a2)), (3, V.sc (.int .i64 a3)), (4, V.fn 90 []), (18, V.sc (.int .i64 (i64 (bshr .u64 (u64 (i64 (o_ + a3))) 1)))), (19, V.sc (.int .i64 (i64 ((i64 (bshr .u64 (u64 (i64 (o_ + a3))) 1)) + a2)))), (20, V.sc (.int .i64 r13.1)), (21, V.sc (.int .i64 r13.2))] [Blk.row 29 (List.map E29 o) []] [some 0]),
      Loop Try.prog (sub (codeOf Try.prog 192) [1, 1, 1, 1, 1, 1, 1, 0, 0, 0]) (st 220 [(0, V.ow 0), (1, V.sc (.int .i64 o_)), (2, V.sc (.int .i64 a2)), (3, V.sc (.int .i64 a3)), (4, V.fn 90 []), (18, V.sc (.int .i64 (i64 (bshr .u64 (u64 (i64 (o_ + a3))) 1)))), (19, V.sc (.int .i64 (i64 ((i64 (bshr .u64 (u64 (i64 (o_ + a3))) 1)) + a2)))), (20, V.sc (.int .i64 r13.1)), (21, V.sc (.int .i64 r13.2)), (22, V.sc (.int .i64 (i64 ((i64 ((i64 (bshr .u64 (u64 (i64 (o_ + a3))) 1)) + a2)) - 1))))] [Blk.row 29 (List.map E29 o) []] [some 0]) (X.out 8) (st 220 [(0, V.ow 0), (1, V.sc (.int .i64 o_)), (2, V.sc (.int .i64 a2)), (3, V.sc (.int .i64 a3)), (4, V.fn 90 []), (18, V.sc (.int .i64 (i64 (bshr .u64 (u64 (i64 (o_ + a3))) 1)))), (19, V.sc (.int .i64 (i64 ((i64 (bshr .u64 (u64 (i64 (o_ + a3))) 1)) + a2)))), (20, V.sc (.int .i64 r16.1))] [Blk.row 29 (List.map E29 r16.2) []] [some 0]),
      HT Try.prog (sub (codeOf Try.prog 192) [1, 1, 1, 1, 1, 1, 1, 1, 1, 0]) (st 220 [(0, V.ow 0), (1, V.sc (.int .i64 o_)), (2, V.sc (.int .i64 a2)), (3, V.sc (.int .i64 a3)), (4, V.fn 90 []), (18, V.sc (.int .i64 (i64 (bshr .u64 (u64 (i64 (o_ + a3))) 1)))), (20, V.sc (.int .i64 r16.1)), (24, V.sc (.int .i64 (i64 ((i64 ((i64 (bshr .u64 (u64 (i64 (o_ + a3))) 1)) + a2)) - r16.1))))] [Blk.row 29 (List.map E29 r16.2) []] [some 0]) (X.go) (st 220 [(0, V.ow 0), (1, V.sc (.int .i64 o_)), (3, V.sc (.int .i64 a3)), (4, V.fn 90 []), (18, V.sc (.int .i64 (i64 (bshr .u64 (u64 (i64 (o_ + a3))) 1)))), (20, V.sc (.int .i64 r16.1)), (24, V.sc (.int .i64 (i64 ((i64 ((i64 (bshr .u64 (u64 (i64 (o_ + a3))) 1)) + a2)) - r16.1))))] [Blk.row 29 (List.map E29 r18) []] [some 0]),
      (decide (o_ < r16.1)) = false,
      (decide (o_ < r16.1)) = false,
      (decide (o_ < r16.1)) = false,
      (decide (o_ < r16.1)) = false,
      false = false,
      (decide ((i64 (bshr .u64 (u64 (i64 (o_ + a3))) 1)) < (i64 ((i64 ((i64 (bshr .u64 (u64 (i64 (o_ + a3))) 1)) + a2)) - r16.1)))) = true,
      (decide ((i64 (bshr .u64 (u64 (i64 (o_ + a3))) 1)) < (i64 ((i64 ((i64 (bshr .u64 (u64 (i64 (o_ + a3))) 1)) + a2)) - r16.1)))) = true,
      (decide ((i64 (bshr .u64 (u64 (i64 (o_ + a3))) 1)) < (i64 ((i64 ((i64 (bshr .u64 (u64 (i64 (o_ + a3))) 1)) + a2)) - r16.1)))) = true,
      (decide ((i64 (bshr .u64 (u64 (i64 (o_ + a3))) 1)) < (i64 ((i64 ((i64 (bshr .u64 (u64 (i64 (o_ + a3))) 1)) + a2)) - r16.1)))) = true,
      (decide ((i64 ((i64 ((i64 (bshr .u64 (u64 (i64 (o_ + a3))) 1)) + a2)) - r16.1)) < a3)) = true,
      Fn Try.prog 192 [(true, E48 r18), (false, E3 (i64 (bshr .u64 (u64 (i64 (o_ + a3))) 1))), (false, E3 (i64 ((i64 ((i64 (bshr .u64 (u64 (i64 (o_ + a3))) 1)) + a2)) - r16.1))), (false, E3 a3), (false, V.fn 90 [])] (V.tup []) [V.sl true 29 (List.map E29 r22)],
      (true || ((V.tup []).nv && nvL [V.sl true 29 (List.map E29 r22)])) = true]) (by kernel_rfl) (cj ((slices_symMergeCmpFunc_impl_Acct_impl_Gather_1_c0_ok o o_ a2 a3 r6 h24).at h25) (cj ((slices_symMergeCmpFunc_impl_Acct_impl_Gather_1_c5_ok o o_ a2 a3 r12 h50).at h51) (cj (by decide) (cj (slices_symMergeCmpFunc_impl_Acct_impl_Gather_1_c10_ok o o_ a2 a3 r13 h54) (cj (slices_symMergeCmpFunc_impl_Acct_impl_Gather_1_l4_ok o_ a2 a3 FUEL r13.1 r13.2 o r16 h66) (cj (slices_symMergeCmpFunc_impl_Acct_impl_Gather_1_c13_ok o_ a2 a3 r16 r18 h70) (cj h71 (cj h71 (cj h71 (cj h71 (cj rfl (cj h80 (cj h80 (cj h80 (cj h80 (cj h81 (cj (slices_symMergeCmpFunc_impl_Acct_impl_Gather_1_ok fuel r18 (i64 (bshr .u64 (u64 (i64 (o_ + a3))) 1)) (i64 ((i64 ((i64 (bshr .u64 (u64 (i64 (o_ + a3))) 1)) + a2)) - r16.1)) a3 r22 h82) (cj1 rfl))))))))))))))))))))) (fun h81 =>
     Pn.some (Fn.of [.wait 1, .mask [0, 1, 2, 3, 4], .ren [0], .join 41 (X.go) (st 220 [(0, V.ow 0), (1, V.sc (.int .i64 o_)), (2, V.sc (.int .i64 a2)), (3, V.sc (.int .i64 a3)), (4, V.fn 90 [])] [Blk.row 29 (List.map E29 o) []] [some 0]), .wait 1, .mask [0, 1, 2, 3, 4], .ren [0], .join 41 (X.go) (st 220 [(0, V.ow 0), (1, V.sc (.int .i64 o_)), (2, V.sc (.int .i64 a2)), (3, V.sc (.int .i64 a3)), (4, V.fn 90 [])] [Blk.row 29 (List.map E29 o) []] [some 0]), .wait 14, .mask [0, 1, 2, 3, 4, 18, 19], .ren [0], .join 9 (X.go) (st 220 [(0, V.ow 0), (1, V.sc (.int .i64 o_)), (2, V.sc (.int .i64 a2)), (3, V.sc (.int .i64 a3)), (4, V.fn 90 []), (18, V.sc (.int .i64 (i64 (bshr .u64 (u64 (i64 (o_ + a3))) 1)))), (19, V.sc (.int .i64 (i64 ((i64 (bshr .u64 (u64 (i64 (o_ + a3))) 1)) + a2)))), (20, V.sc (.int .i64 r13.1)), (21, V.sc (.int .i64 r13.2))] [Blk.row 29 (List.map E29 o) []] [some 0]), .wait 4, .mask [0, 1, 2, 3, 4, 18, 19, 20, 21, 22], .ren [0], .loop (X.out 8) (st 220 [(0, V.ow 0), (1, V.sc (.int .i64 o_)), (2, V.sc (.int .i64 a2)), (3, V.sc (.int .i64 a3)), (4, V.fn 90 []), (18, V.sc (.int .i64 (i64 (bshr .u64 (u64 (i64 (o_ + a3))) 1)))), (19, V.sc (.int .i64 (i64 ((i64 (bshr .u64 (u64 (i64 (o_ + a3))) 1)) + a2)))), (20, V.sc (.int .i64 r16.1))] [Blk.row 29 (List.map E29 r16.2) []] [some 0]), .wait 5, .mask [0, 1, 2, 3, 4, 18, 20, 24], .ren [0], .join 5 (X.go) (st 220 [(0, V.ow 0), (1, V.sc (.int .i64 o_)), (3, V.sc (.int .i64 a3)), (4, V.fn 90 []), (18, V.sc (.int .i64 (i64 (bshr .u64 (u64 (i64 (o_ + a3))) 1)))), (20, V.sc (.int .i64 r16.1)), (24, V.sc (.int .i64 (i64 ((i64 ((i64 (bshr .u64 (u64 (i64 (o_ + a3))) 1)) + a2)) - r16.1))))] [Blk.row 29 (List.map E29 r18) []] [some 0]), .bit false, .bit false, .bit false, .bit false, .bit false, .bit true, .bit true, .bit true, .bit true, .bit false] (p := [HT Try.prog (sub (codeOf Try.prog 192) [0]) (st 220 [(0, V.ow 0), (1, V.sc (.int .i64 o_)), (2, V.sc (.int .i64 a2)), (3, V.sc (.int .i64 a3)), (4, V.fn 90 [])] [Blk.row 29 (List.map E29 o) []] [some 0]) (X.go) (st 220 [(0, V.ow 0), (1, V.sc (.int .i64 o_)), (2, V.sc (.int .i64 a2)), (3, V.sc (.int .i64 a3)), (4, V.fn 90 [])] [Blk.row 29 (List.map E29 o) []] [some 0]),
      HT Try.prog (sub (codeOf Try.prog 192) [1, 0]) (st 220 [(0, V.ow 0), (1, V.sc (.int .i64 o_)), (2, V.sc (.int .i64 a2)), (3, V.sc (.int .i64 a3)), (4, V.fn 90 [])] [Blk.row 29 (List.map E29 o) []] [some 0]) (X.go) (st 220 [(0, V.ow 0), (1, V.sc (.int .i64 o_)), (2, V.sc (.int .i64 a2)), (3, V.sc (.int .i64 a3)), (4, V.fn 90 [])] [Blk.row 29 (List.map E29 o) []] [some 0]),
      ¬ (1 : Int) < 0,
      HT Try.prog (sub (codeOf Try.prog 192) [1, 1, 1, 1, 1, 0]) (st 220 [(0, V.ow 0), (1, V.sc (.int .i64 o_)), (2, V.sc (.int .i64 a2)), (3, V.sc (.int .i64 a3)), (4, V.fn 90 []), (18, V.sc (.int .i64 (i64 (bshr .u64 (u64 (i64 (o_ + a3))) 1)))), (19, V.sc (.int .i64 (i64 ((i64 (bshr .u64 (u64 (i64 (o_ + a3))) 1)) + a2))))] [Blk.row 29 (List.map E29 o) []] [some 0]) (X.go) (st 220 [(0, V.ow 0), (1, V.sc (.int .i64 o_)), (2, V.sc (.int .i64 a2)), (3, V.sc (.int .i64 a3)), (4, V.fn 90 []), (18, V.sc (.int .i64 (i64 (bshr .u64 (u64 (i64 (o_ + a3))) 1)))), (19, V.sc (.int .i64 (i64 ((i64 (bshr .u64 (u64 (i64 (o_ + a3))) 1)) + a2)))), (20, V.sc (.int .i64 r13.1)), (21, V.sc (.int .i64 r13.2))] [Blk.row 29 (List.map E29 o) []] [some 0]),
      Loop Try.prog (sub (codeOf Try.prog 192) [1, 1, 1, 1, 1, 1, 1, 0, 0, 0]) (st 220 [(0, V.ow 0), (1, V.sc (.int .i64 o_)), (2, V.sc (.int .i64 a2)), (3, V.sc (.int .i64 a3)), (4, V.fn 90 []), (18, V.sc (.int .i64 (i64 (bshr .u64 (u64 (i64 (o_ + a3))) 1)))), (19, V.sc (.int .i64 (i64 ((i64 (bshr .u64 (u64 (i64 (o_ + a3))) 1)) + a2)))), (20, V.sc (.int .i64 r13.1)), (21, V.sc (.int .i64 r13.2)), (22, V.sc (.int .i64 (i64 ((i64 ((i64 (bshr .u64 (u64 (i64 (o_ + a3))) 1)) + a2)) - 1))))] [Blk.row 29 (List.map E29 o) []] [some 0]) (X.out 8) (st 220 [(0, V.ow 0), (1, V.sc (.int .i64 o_)), (2, V.sc (.int .i64 a2)), (3, V.sc (.int .i64 a3)), (4, V.fn 90 []), (18, V.sc (.int .i64 (i64 (bshr .u64 (u64 (i64 (o_ + a3))) 1)))), (19, V.sc (.int .i64 (i64 ((i64 (bshr .u64 (u64 (i64 (o_ + a3))) 1)) + a2)))), (20, V.sc (.int .i64 r16.1))] [Blk.row 29 (List.map E29 r16.2) []] [some 0]),
      HT Try.prog (sub (codeOf Try.prog 192) [1, 1, 1, 1, 1, 1, 1, 1, 1, 0]) (st 220 [(0, V.ow 0), (1, V.sc (.int .i64 o_)), (2, V.sc (.int .i64 a2)), (3, V.sc (.int .i64 a3)), (4, V.fn 90 []), (18, V.sc (.int .i64 (i64 (bshr .u64 (u64 (i64 (o_ + a3))) 1)))), (20, V.sc (.int .i64 r16.1)), (24, V.sc (.int .i64 (i64 ((i64 ((i64 (bshr .u64 (u64 (i64 (o_ + a3))) 1)) + a2)) - r16.1))))] [Blk.row 29 (List.map E29 r16.2) []] [some 0]) (X.go) (st 220 [(0, V.ow 0), (1, V.sc (.int .i64 o_)), (3, V.sc (.int .i64 a3)), (4, V.fn 90 []), (18, V.sc (.int .i64 (i64 (bshr .u64 (u64 (i64 (o_ + a3))) 1)))), (20, V.sc (.int .i64 r16.1)), (24, V.sc (.int .i64 (i64 ((i64 ((i64 (bshr .u64 (u64 (i64 (o_ + a3))) 1)) + a2)) - r16.1))))] [Blk.row 29 (List.map E29 r18) []] [some 0]),
      (decide (o_ < r16.1)) = false,
      (decide (o_ < r16.1)) = false,
      (decide (o_ < r16.1)) = false,
      (decide (o_ < r16.1)) = false,
      false = false,
      (decide ((i64 (bshr .u64 (u64 (i64 (o_ + a3))) 1)) < (i64 ((i64 ((i64 (bshr .u64 (u64 (i64 (o_ + a3))) 1)) + a2)) - r16.1)))) = true,
      (decide ((i64 (bshr .u64 (u64 (i64 (o_ + a3))) 1)) < (i64 ((i64 ((i64 (bshr .u64 (u64 (i64 (o_ + a3))) 1)) + a2)) - r16.1)))) = true,
      (decide ((i64 (bshr .u64 (u64 (i64 (o_ + a3))) 1)) < (i64 ((i64 ((i64 (bshr .u64 (u64 (i64 (o_ + a3))) 1)) + a2)) - r16.1)))) = true,
      (decide ((i64 (bshr .u64 (u64 (i64 (o_ + a3))) 1)) < (i64 ((i64 ((i64 (bshr .u64 (u64 (i64 (o_ + a3))) 1)) + a2)) - r16.1)))) = true,
      (decide ((i64 ((i64 ((i64 (bshr .u64 (u64 (i64 (o_ + a3))) 1)) + a2)) - r16.1)) < a3)) = false]) (by kernel_rfl) (cj ((slices_symMergeCmpFunc_impl_Acct_impl_Gather_1_c0_ok o o_ a2 a3 r6 h24).at h25) (cj ((slices_symMergeCmpFunc_impl_Acct_impl_Gather_1_c5_ok o o_ a2 a3 r12 h50).at h51) (cj (by decide) (cj (slices_symMergeCmpFunc_impl_Acct_impl_Gather_1_c10_ok o o_ a2 a3 r13 h54) (cj (slices_symMergeCmpFunc_impl_Acct_impl_Gather_1_l4_ok o_ a2 a3 FUEL r13.1 r13.2 o r16 h66) (cj (slices_symMergeCmpFunc_impl_Acct_impl_Gather_1_c13_ok o_ a2 a3 r16 r18 h70) (cj h71 (cj h71 (cj h71 (cj h71 (cj rfl (cj h80 (cj h80 (cj h80 (cj h80 (cj1 h81))))))))))))))))))) (fun h80 =>
     Pn.some (Fn.of [.wait 1, .mask [0, 1, 2, 3, 4], .ren [0], .join 41 (X.go) (st 220 [(0, V.ow 0), (1, V.sc (.int .i64 o_)), (2, V.sc (.int .i64 a2)), (3, V.sc (.int .i64 a3)), (4, V.fn 90 [])] [Blk.row 29 (List.map E29 o) []] [some 0]), .wait 1, .mask [0, 1, 2, 3, 4], .ren [0], .join 41 (X.go) (st 220 [(0, V.ow 0), (1, V.sc (.int .i64 o_)), (2, V.sc (.int .i64 a2)), (3, V.sc (.int .i64 a3)), (4, V.fn 90 [])] [Blk.row 29 (List.map E29 o) []] [some 0]), .wait 14, .mask [0, 1, 2, 3, 4, 18, 19], .ren [0], .join 9 (X.go) (st 220 [(0, V.ow 0), (1, V.sc (.int .i64 o_)), (2, V.sc (.int .i64 a2)), (3, V.sc (.int .i64 a3)), (4, V.fn 90 []), (18, V.sc (.int .i64 (i64 (bshr .u64 (u64 (i64 (o_ + a3))) 1)))), (19, V.sc (.int .i64 (i64 ((i64 (bshr .u64 (u64 (i64 (o_ + a3))) 1)) + a2)))), (20, V.sc (.int .i64 r13.1)), (21, V.sc (.int .i64 r13.2))] [Blk.row 29 (List.map E29 o) []] [some 0]), .wait 4, .mask [0, 1, 2, 3, 4, 18, 19, 20, 21, 22], .ren [0], .loop (X.out 8) (st 220 [(0, V.ow 0), (1, V.sc (.int .i64 o_)), (2, V.sc (.int .i64 a2)), (3, V.sc (.int .i64 a3)), (4, V.fn 90 []), (18, V.sc (.int .i64 (i64 (bshr .u64 (u64 (i64 (o_ + a3))) 1)))), (19, V.sc (.int .i64 (i64 ((i64 (bshr .u64 (u64 (i64 (o_ + a3))) 1)) + a2)))), (20, V.sc (.int .i64 r16.1))] [Blk.row 29 (List.map E29 r16.2) []] [some 0]), .wait 5, .mask [0, 1, 2, 3, 4, 18, 20, 24], .ren [0], .join 5 (X.go) (st 220 [(0, V.ow 0), (1, V.sc (.int .i64 o_)), (3, V.sc (.int .i64 a3)), (4, V.fn 90 []), (18, V.sc (.int .i64 (i64 (bshr .u64 (u64 (i64 (o_ + a3))) 1)))), (20, V.sc (.int .i64 r16.1)), (24, V.sc (.int .i64 (i64 ((i64 ((i64 (bshr .u64 (u64 (i64 (o_ + a3))) 1)) + a2)) - r16.1))))] [Blk.row 29 (List.map E29 r18) []] [some 0]), .bit false, .bit false, .bit false, .bit false, .bit false, .bit false, .bit false, .bit false, .bit false, .bit false] (p := [HT Try.prog (sub (codeOf Try.prog 192) [0]) (st 220 [(0, V.ow 0), (1, V.sc (.int .i64 o_)), (2, V.sc (.int .i64 a2)), (3, V.sc (.int .i64 a3)), (4, V.fn 90 [])] [Blk.row 29 (List.map E29 o) []] [some 0]) (X.go) (st 220 [(0, V.ow 0), (1, V.sc (.int .i64 o_)), (2, V.sc (.int .i64 a2)), (3, V.sc (.int .i64 a3)), (4, V.fn 90 [])] [Blk.row 29 (List.map E29 o) []] [some 0]),
      HT Try.prog (sub (codeOf Try.prog 192) [1, 0]) (st 220 [(0, V.ow 0), (1, V.sc (.int .i64 o_)), (2, V.sc (.int .i64 a2)), (3, V.sc (.int .i64 a3)), (4, V.fn 90 [])] [Blk.row 29 (List.map E29 o) []] [some 0]) (X.go) (st 220 [(0, V.ow 0), (1, V.sc (.int .i64 o_)), (2, V.sc (.int .i64 a2)), (3, V.sc (.int .i64 a3)), (4, V.fn 90 [])] [Blk.row 29 (List.map E29 o) []] [some 0]),
      ¬ (1 : Int) < 0,
      HT Try.prog (sub (codeOf Try.prog 192) [1, 1, 1, 1, 1, 0]) (st 220 [(0, V.ow 0), (1, V.sc (.int .i64 o_)), (2, V.sc (.int .i64 a2)), (3, V.sc (.int .i64 a3)), (4, V.fn 90 []), (18, V.sc (.int .i64 (i64 (bshr .u64 (u64 (i64 (o_ + a3))) 1)))), (19, V.sc (.int .i64 (i64 ((i64 (bshr .u64 (u64 (i64 (o_ + a3))) 1)) + a2))))] [Blk.row 29 (List.map E29 o) []] [some 0]) (X.go) (st 220 [(0, V.ow 0), (1, V.sc (.int .i64 o_)), (2, V.sc (.int .i64 a2)), (3, V.sc (.int .i64 a3)), (4, V.fn 90 []), (18, V.sc (.int .i64 (i64 (bshr .u64 (u64 (i64 (o_ + a3))) 1)))), (19, V.sc (.int .i64 (i64 ((i64 (bshr .u64 (u64 (i64 (o_ + a3))) 1)) + a2)))), (20, V.sc (.int .i64 r13.1)), (21, V.sc (.int .i64 r13.2))] [Blk.row 29 (List.map E29 o) []] [some 0]),
      Loop Try.prog (sub (codeOf Try.prog 192) [1, 1, 1, 1, 1, 1, 1, 0, 0, 0]) (st 220 [(0, V.ow 0), (1, V.sc (.int .i64 o_)), (2, V.sc (.int .i64 a2)), (3, V.sc (.int .i64 a3)), (4, V.fn 90 []), (18, V.sc (.int .i64 (i64 (bshr .u64 (u64 (i64 (o_ + a3))) 1)))), (19, V.sc (.int .i64 (i64 ((i64 (bshr .u64 (u64 (i64 (o_ + a3))) 1)) + a2)))), (20, V.sc (.int .i64 r13.1)), (21, V.sc (.int .i64 r13.2)), (22, V.sc (.int .i64 (i64 ((i64 ((i64 (bshr .u64 (u64 (i64 (o_ + a3))) 1)) + a2)) - 1))))] [Blk.row 29 (List.map E29 o) []] [some 0]) (X.out 8) (st 220 [(0, V.ow 0), (1, V.sc (.int .i64 o_)), (2, V.sc (.int .i64 a2)), (3, V.sc (.int .i64 a3)), (4, V.fn 90 []), (18, V.sc (.int .i64 (i64 (bshr .u64 (u64 (i64 (o_ + a3))) 1)))), (19, V.sc (.int .i64 (i64 ((i64 (bshr .u64 (u64 (i64 (o_ + a3))) 1)) + a2)))), (20, V.sc (.int .i64 r16.1))] [Blk.row 29 (List.map E29 r16.2) []] [some 0]),
      HT Try.prog (sub (codeOf Try.prog 192) [1, 1, 1, 1, 1, 1, 1, 1, 1, 0]) (st 220 [(0, V.ow 0), (1, V.sc (.int .i64 o_)), (2, V.sc (.int .i64 a2)), (3, V.sc (.int .i64 a3)), (4, V.fn 90 []), (18, V.sc (.int .i64 (i64 (bshr .u64 (u64 (i64 (o_ + a3))) 1)))), (20, V.sc (.int .i64 r16.1)), (24, V.sc (.int .i64 (i64 ((i64 ((i64 (bshr .u64 (u64 (i64 (o_ + a3))) 1)) + a2)) - r16.1))))] [Blk.row 29 (List.map E29 r16.2) []] [some 0]) (X.go) (st 220 [(0, V.ow 0), (1, V.sc (.int .i64 o_)), (3, V.sc (.int .i64 a3)), (4, V.fn 90 []), (18, V.sc (.int .i64 (i64 (bshr .u64 (u64 (i64 (o_ + a3))) 1)))), (20, V.sc (.int .i64 r16.1)), (24, V.sc (.int .i64 (i64 ((i64 ((i64 (bshr .u64 (u64 (i64 (o_ + a3))) 1)) + a2)) - r16.1))))] [Blk.row 29 (List.map E29 r18) []] [some 0]),
      (decide (o_ < r16.1)) = false,
      (decide (o_ < r16.1)) = false,
      (decide (o_ < r16.1)) = false,
      (decide (o_ < r16.1)) = false,
      false = false,
      (decide ((i64 (bshr .u64 (u64 (i64 (o_ + a3))) 1)) < (i64 ((i64 ((i64 (bshr .u64 (u64 (i64 (o_ + a3))) 1)) + a2)) - r16.1)))) = false,
      (decide ((i64 (bshr .u64 (u64 (i64 (o_ + a3))) 1)) < (i64 ((i64 ((i64 (bshr .u64 (u64 (i64 (o_ + a3))) 1)) + a2)) - r16.1)))) = false,
      (decide ((i64 (bshr .u64 (u64 (i64 (o_ + a3))) 1)) < (i64 ((i64 ((i64 (bshr .u64 (u64 (i64 (o_ + a3))) 1)) + a2)) - r16.1)))) = false,
      (decide ((i64 (bshr .u64 (u64 (i64 (o_ + a3))) 1)) < (i64 ((i64 ((i64 (bshr .u64 (u64 (i64 (o_ + a3))) 1)) + a2)) - r16.1)))) = false,
      false = false]) (by kernel_rfl) (cj ((slices_symMergeCmpFunc_impl_Acct_impl_Gather_1_c0_ok o o_ a2 a3 r6 h24).at h25) (cj ((slices_symMergeCmpFunc_impl_Acct_impl_Gather_1_c5_ok o o_ a2 a3 r12 h50).at h51) (cj (by decide) (cj (slices_symMergeCmpFunc_impl_Acct_impl_Gather_1_c10_ok o o_ a2 a3 r13 h54) (cj (slices_symMergeCmpFunc_impl_Acct_impl_Gather_1_l4_ok o_ a2 a3 FUEL r13.1 r13.2 o r16 h66) (cj (slices_symMergeCmpFunc_impl_Acct_impl_Gather_1_c13_ok o_ a2 a3 r16 r18 h70) (cj h71 (cj h71 (cj h71 (cj h71 (cj rfl (cj h80 (cj h80 (cj h80 (cj h80 (cj1 rfl))))))))))))))))))))))) (fun s12 h52 =>
     Pn.some (Fn.of [.wait 1, .mask [0, 1, 2, 3, 4], .ren [0], .join 41 (X.go) (st 220 [(0, V.ow 0), (1, V.sc (.int .i64 o_)), (2, V.sc (.int .i64 a2)), (3, V.sc (.int .i64 a3)), (4, V.fn 90 [])] [Blk.row 29 (List.map E29 o) []] [some 0]), .wait 1, .mask [0, 1, 2, 3, 4], .ren [0], .join 41 (X.ret) (st 220 [] [Blk.row 29 (List.map E29 s12) []] [some 0])] (p := [HT Try.prog (sub (codeOf Try.prog 192) [0]) (st 220 [(0, V.ow 0), (1, V.sc (.int .i64 o_)), (2, V.sc (.int .i64 a2)), (3, V.sc (.int .i64 a3)), (4, V.fn 90 [])] [Blk.row 29 (List.map E29 o) []] [some 0]) (X.go) (st 220 [(0, V.ow 0), (1, V.sc (.int .i64 o_)), (2, V.sc (.int .i64 a2)), (3, V.sc (.int .i64 a3)), (4, V.fn 90 [])] [Blk.row 29 (List.map E29 o) []] [some 0]),
      HT Try.prog (sub (codeOf Try.prog 192) [1, 0]) (st 220 [(0, V.ow 0), (1, V.sc (.int .i64 o_)), (2, V.sc (.int .i64 a2)), (3, V.sc (.int .i64 a3)), (4, V.fn 90 [])] [Blk.row 29 (List.map E29 o) []] [some 0]) (X.ret) (st 220 [] [Blk.row 29 (List.map E29 s12) []] [some 0])]) (by kernel_rfl) (cj ((slices_symMergeCmpFunc_impl_Acct_impl_Gather_1_c0_ok o o_ a2 a3 r6 h24).at h25) (cj1 ((slices_symMergeCmpFunc_impl_Acct_impl_Gather_1_c5_ok o o_ a2 a3 r12 h50).at h52))))))) (fun s6 h26 =>
     Pn.some (Fn.of [.wait 1, .mask [0, 1, 2, 3, 4], .ren [0], .join 41 (X.ret) (st 220 [] [Blk.row 29 (List.map E29 s6) []] [some 0])] (p := [HT Try.prog (sub (codeOf Try.prog 192) [0]) (st 220 [(0, V.ow 0), (1, V.sc (.int .i64 o_)), (2, V.sc (.int .i64 a2)), (3, V.sc (.int .i64 a3)), (4, V.fn 90 [])] [Blk.row 29 (List.map E29 o) []] [some 0]) (X.ret) (st 220 [] [Blk.row 29 (List.map E29 s6) []] [some 0])]) (by kernel_rfl) (cj1 ((slices_symMergeCmpFunc_impl_Acct_impl_Gather_1_c0_ok o o_ a2 a3 r6 h24).at h26)))))
def slices_stableCmpFunc_impl_Acct_impl_Gather_1_l0 (n : Int) : Nat → Int → Int → (List Acct) → Option (Int × (List Acct))
  | 0, _, _, _ => none
  | fuel + 1, v1, v2, v3 =>
   if (decide (v2 ≤ n)) = true then
   (slices_insertionSortCmpFunc_impl_Acct_impl_Gather_1 v3 v1 v2).bind fun r1 =>
   slices_stableCmpFunc_impl_Acct_impl_Gather_1_l0 n fuel v2 (i64 (v2 + 20)) r1
   else
   some (v1, v3)
theorem slices_stableCmpFunc_impl_Acct_impl_Gather_1_l0_ok (n : Int) : ∀ (fuel : Nat) (v1 : Int) (v2 : Int) (v3 : List Acct), Pn (LpO Try.prog (sub (codeOf Try.prog 149) [1, 1, 0, 0, 0]) (st 63 [(0, V.ow 0), (1, V.sc (.int .i64 n)), (2, V.fn 90 []), (6, V.sc (.int .i64 20)), (7, V.sc (.int .i64 v1)), (8, V.sc (.int .i64 v2))] [Blk.row 29 (List.map E29 v3) []] [some 0]) (fun (y : Int × (List Acct)) => (X.out 0, st 63 [(0, V.ow 0), (1, V.sc (.int .i64 n)), (2, V.fn 90 []), (6, V.sc (.int .i64 20)), (7, V.sc (.int .i64 y.1))] [Blk.row 29 (List.map E29 y.2) []] [some 0]))) (slices_stableCmpFunc_impl_Acct_impl_Gather_1_l0 n fuel v1 v2 v3)
  | 0, _, _, _ => Pn.none
  | fuel + 1, v1, v2, v3 => by
    unfold slices_stableCmpFunc_impl_Acct_impl_Gather_1_l0
    exact
     Pn.ite (fun h1 =>
     Pn.bind (fun r1 h2 =>
     LpO.go [.bit true, .call [true, false, false, false] (V.tup []) [V.sl true 29 (List.map E29 r1)], .wait 7, .mask [0, 1, 2, 6, 7, 8], .ren [0]] (p := [(decide (v2 ≤ n)) = true,
      Fn Try.prog 191 [(true, E48 v3), (false, E3 v1), (false, E3 v2), (false, V.fn 90 [])] (V.tup []) [V.sl true 29 (List.map E29 r1)],
      (true || ((V.tup []).nv && nvL [V.sl true 29 (List.map E29 r1)])) = true]) (by kernel_rfl) (cj h1 (cj (slices_insertionSortCmpFunc_impl_Acct_impl_Gather_1_ok v3 v1 v2 r1 h2) (cj1 rfl))) (slices_stableCmpFunc_impl_Acct_impl_Gather_1_l0_ok n fuel v2 (i64 (v2 + 20)) r1))) (fun h1 =>
     Pn.some (LpO.out [.bit false, .mask [0, 1, 2, 6, 7], .ren [0]] (p := [(decide (v2 ≤ n)) = false]) (by kernel_rfl) (show X.out 0 ≠ X.go from nofun) (cj1 h1)))
def slices_stableCmpFunc_impl_Acct_impl_Gather_1_l2 (n : Int) (v4 : Int) : Nat → Int → Int → (List Acct) → Option (Int × (List Acct))
  | 0, _, _, _ => none
  | fuel + 1, v6, v7, v8 =>
   if (decide (v7 ≤ n)) = true then
   (slices_symMergeCmpFunc_impl_Acct_impl_Gather_1 FUEL v8 v6 (i64 (v6 + v4)) v7).bind fun r4 =>
   slices_stableCmpFunc_impl_Acct_impl_Gather_1_l2 n v4 fuel v7 (i64 (v7 + (i64 (2 * v4)))) r4
   else
   some (v6, v8)
theorem slices_stableCmpFunc_impl_Acct_impl_Gather_1_l2_ok (n : Int) (v4 : Int) : ∀ (fuel : Nat) (v6 : Int) (v7 : Int) (v8 : List Acct), Pn (LpO Try.prog (sub (codeOf Try.prog 149) [1, 1, 1, 1, 0, 0, 1, 0, 1, 0, 0, 0]) (st 63 [(0, V.ow 0), (1, V.sc (.int .i64 n)), (2, V.fn 90 []), (6, V.sc (.int .i64 v4)), (7, V.sc (.int .i64 v6)), (8, V.sc (.int .i64 v7))] [Blk.row 29 (List.map E29 v8) []] [some 0]) (fun (y : Int × (List Acct)) => (X.out 4, st 63 [(0, V.ow 0), (1, V.sc (.int .i64 n)), (2, V.fn 90 []), (6, V.sc (.int .i64 v4)), (7, V.sc (.int .i64 y.1))] [Blk.row 29 (List.map E29 y.2) []] [some 0]))) (slices_stableCmpFunc_impl_Acct_impl_Gather_1_l2 n v4 fuel v6 v7 v8)
  | 0, _, _, _ => Pn.none
  | fuel + 1, v6, v7, v8 => by
    unfold slices_stableCmpFunc_impl_Acct_impl_Gather_1_l2
    exact
     Pn.ite (fun h6 =>
     Pn.bind (fun r4 h7 =>
     LpO.go [.bit true, .call [true, false, false, false, false] (V.tup []) [V.sl true 29 (List.map E29 r4)], .wait 8, .mask [0, 1, 2, 6, 7, 8], .ren [0]] (p := [(decide (v7 ≤ n)) = true,
      Fn Try.prog 192 [(true, E48 v8), (false, E3 v6), (false, E3 (i64 (v6 + v4))), (false, E3 v7), (false, V.fn 90 [])] (V.tup []) [V.sl true 29 (List.map E29 r4)],
      (true || ((V.tup []).nv && nvL [V.sl true 29 (List.map E29 r4)])) = true]) (by kernel_rfl) (cj h6 (cj (slices_symMergeCmpFunc_impl_Acct_impl_Gather_1_ok FUEL v8 v6 (i64 (v6 + v4)) v7 r4 h7) (cj1 rfl))) (slices_stableCmpFunc_impl_Acct_impl_Gather_1_l2_ok n v4 fuel v7 (i64 (v7 + (i64 (2 * v4)))) r4))) (fun h6 =>
     Pn.some (LpO.out [.bit false, .mask [0, 1, 2, 6, 7], .ren [0]] (p := [(decide (v7 ≤ n)) = false]) (by kernel_rfl) (show X.out 4 ≠ X.go from nofun) (cj1 h6)))
def slices_stableCmpFunc_impl_Acct_impl_Gather_1_l1 (n : Int) : Nat → Int → (List Acct) → Option ((List Acct))
  | 0, _, _ => none
  | fuel + 1, v4, v5 =>
   if (decide (v4 < n)) = true then
   (slices_stableCmpFunc_impl_Acct_impl_Gather_1_l2 n v4 FUEL 0 (i64 (2 * v4)) v5).bind fun r5 =>
   if (decide ((i64 (r5.1 + v4)) < n)) = true then
   (slices_symMergeCmpFunc_impl_Acct_impl_Gather_1 FUEL r5.2 r5.1 (i64 (r5.1 + v4)) n).bind fun r6 =>
   slices_stableCmpFunc_impl_Acct_impl_Gather_1_l1 n fuel (i64 (v4 * 2)) r6
   else
   slices_stableCmpFunc_impl_Acct_impl_Gather_1_l1 n fuel (i64 (v4 * 2)) r5.2
   else
   some v5
theorem slices_stableCmpFunc_impl_Acct_impl_Gather_1_l1_ok (n : Int) : ∀ (fuel : Nat) (v4 : Int) (v5 : List Acct), Pn (LpO Try.prog (sub (codeOf Try.prog 149) [1, 1, 1, 1, 0, 0]) (st 63 [(0, V.ow 0), (1, V.sc (.int .i64 n)), (2, V.fn 90 []), (6, V.sc (.int .i64 v4))] [Blk.row 29 (List.map E29 v5) []] [some 0]) (fun (y : (List Acct)) => (X.out 2, st 63 [] [Blk.row 29 (List.map E29 y) []] [some 0]))) (slices_stableCmpFunc_impl_Acct_impl_Gather_1_l1 n fuel v4 v5)
  | 0, _, _ => Pn.none
  | fuel + 1, v4, v5 => by
    unfold slices_stableCmpFunc_impl_Acct_impl_Gather_1_l1
    exact
     Pn.ite (fun h5 =>
     Pn.bind (fun r5 h8 =>
     Pn.ite (fun h9 =>
     Pn.bind (fun r6 h10 =>
     LpO.go [.bit true, .wait 4, .mask [0, 1, 2, 6, 7, 8], .ren [0], .loop (X.out 4) (st 63 [(0, V.ow 0), (1, V.sc (.int .i64 n)), (2, V.fn 90 []), (6, V.sc (.int .i64 v4)), (7, V.sc (.int .i64 r5.1))] [Blk.row 29 (List.map E29 r5.2) []] [some 0]), .bit true, .call [true, false, false, false, false] (V.tup []) [V.sl true 29 (List.map E29 r6)], .wait 4, .mask [0, 1, 2, 6], .ren [0]] (p := [(decide (v4 < n)) = true,
      Loop Try.prog (sub (codeOf Try.prog 149) [1, 1, 1, 1, 0, 0, 1, 0, 1, 0, 0, 0]) (st 63 [(0, V.ow 0), (1, V.sc (.int .i64 n)), (2, V.fn 90 []), (6, V.sc (.int .i64 v4)), (7, V.sc (.int .i64 0)), (8, V.sc (.int .i64 (i64 (2 * v4))))] [Blk.row 29 (List.map E29 v5) []] [some 0]) (X.out 4) (st 63 [(0, V.ow 0), (1, V.sc (.int .i64 n)), (2, V.fn 90 []), (6, V.sc (.int .i64 v4)), (7, V.sc (.int .i64 r5.1))] [Blk.row 29 (List.map E29 r5.2) []] [some 0]),
      (decide ((i64 (r5.1 + v4)) < n)) = true,
      Fn Try.prog 192 [(true, E48 r5.2), (false, E3 r5.1), (false, E3 (i64 (r5.1 + v4))), (false, E3 n), (false, V.fn 90 [])] (V.tup []) [V.sl true 29 (List.map E29 r6)],
      (true || ((V.tup []).nv && nvL [V.sl true 29 (List.map E29 r6)])) = true]) (by kernel_rfl) (cj h5 (cj (slices_stableCmpFunc_impl_Acct_impl_Gather_1_l2_ok n v4 FUEL 0 (i64 (2 * v4)) v5 r5 h8) (cj h9 (cj (slices_symMergeCmpFunc_impl_Acct_impl_Gather_1_ok FUEL r5.2 r5.1 (i64 (r5.1 + v4)) n r6 h10) (cj1 rfl))))) (slices_stableCmpFunc_impl_Acct_impl_Gather_1_l1_ok n fuel (i64 (v4 * 2)) r6))) (fun h9 =>
     LpO.go [.bit true, .wait 4, .mask [0, 1, 2, 6, 7, 8], .ren [0], .loop (X.out 4) (st 63 [(0, V.ow 0), (1, V.sc (.int .i64 n)), (2, V.fn 90 []), (6, V.sc (.int .i64 v4)), (7, V.sc (.int .i64 r5.1))] [Blk.row 29 (List.map E29 r5.2) []] [some 0]), .bit false, .wait 3, .mask [0, 1, 2, 6], .ren [0]] (p := [(decide (v4 < n)) = true,
      Loop Try.prog (sub (codeOf Try.prog 149) [1, 1, 1, 1, 0, 0, 1, 0, 1, 0, 0, 0]) (st 63 [(0, V.ow 0), (1, V.sc (.int .i64 n)), (2, V.fn 90 []), (6, V.sc (.int .i64 v4)), (7, V.sc (.int .i64 0)), (8, V.sc (.int .i64 (i64 (2 * v4))))] [Blk.row 29 (List.map E29 v5) []] [some 0]) (X.out 4) (st 63 [(0, V.ow 0), (1, V.sc (.int .i64 n)), (2, V.fn 90 []), (6, V.sc (.int .i64 v4)), (7, V.sc (.int .i64 r5.1))] [Blk.row 29 (List.map E29 r5.2) []] [some 0]),
      (decide ((i64 (r5.1 + v4)) < n)) = false]) (by kernel_rfl) (cj h5 (cj (slices_stableCmpFunc_impl_Acct_impl_Gather_1_l2_ok n v4 FUEL 0 (i64 (2 * v4)) v5 r5 h8) (cj1 h9))) (slices_stableCmpFunc_impl_Acct_impl_Gather_1_l1_ok n fuel (i64 (v4 * 2)) r5.2)))) (fun h5 =>
     Pn.some (LpO.out [.bit false, .mask [], .ren [0]] (p := [(decide (v4 < n)) = false]) (by kernel_rfl) (show X.out 2 ≠ X.go from nofun) (cj1 h5)))
def slices_stableCmpFunc_impl_Acct_impl_Gather_1 (data : List Acct) (n : Int) : Option ((List Acct)) :=
 (slices_stableCmpFunc_impl_Acct_impl_Gather_1_l0 n FUEL 0 20 data).bind fun r2 =>
 (slices_insertionSortCmpFunc_impl_Acct_impl_Gather_1 r2.2 r2.1 n).bind fun r3 =>
 (slices_stableCmpFunc_impl_Acct_impl_Gather_1_l1 n FUEL 20 r3).bind fun r7 =>
 some r7
theorem slices_stableCmpFunc_impl_Acct_impl_Gather_1_ok (data : List Acct) (n : Int) : Pn (fun y => Fn Try.prog 149 [(true, E48 data), (false, E3 n), (false, V.fn 90 [])] (V.tup []) [V.sl true 29 (List.map E29 y)]) (slices_stableCmpFunc_impl_Acct_impl_Gather_1 data n) := by
  unfold slices_stableCmpFunc_impl_Acct_impl_Gather_1
  exact
   Pn.bind (fun r2 h3 =>
   Pn.bind (fun r3 h4 =>
   Pn.bind (fun r7 h11 =>
   Pn.some (Fn.of [.wait 5, .mask [0, 1, 2, 6, 7, 8], .ren [0], .loop (X.out 0) (st 63 [(0, V.ow 0), (1, V.sc (.int .i64 n)), (2, V.fn 90 []), (6, V.sc (.int .i64 20)), (7, V.sc (.int .i64 r2.1))] [Blk.row 29 (List.map E29 r2.2) []] [some 0]), .call [true, false, false, false] (V.tup []) [V.sl true 29 (List.map E29 r3)], .wait 1, .mask [0, 1, 2, 6], .ren [0], .loop (X.out 2) (st 63 [] [Blk.row 29 (List.map E29 r7) []] [some 0])] (p := [Loop Try.prog (sub (codeOf Try.prog 149) [1, 1, 0, 0, 0]) (st 63 [(0, V.ow 0), (1, V.sc (.int .i64 n)), (2, V.fn 90 []), (6, V.sc (.int .i64 20)), (7, V.sc (.int .i64 0)), (8, V.sc (.int .i64 20))] [Blk.row 29 (List.map E29 data) []] [some 0]) (X.out 0) (st 63 [(0, V.ow 0), (1, V.sc (.int .i64 n)), (2, V.fn 90 []), (6, V.sc (.int .i64 20)), (7, V.sc (.int .i64 r2.1))] [Blk.row 29 (List.map E29 r2.2) []] [some 0]),
    Fn Try.prog 191 [(true, E48 r2.2), (false, E3 r2.1), (false, E3 n), (false, V.fn 90 [])] (V.tup []) [V.sl true 29 (List.map E29 r3)],
    (true || ((V.tup []).nv && nvL [V.sl true 29 (List.map E29 r3)])) = true,
    Loop Try.prog (sub (codeOf Try.prog 149) [1, 1, 1, 1, 0, 0]) (st 63 [(0, V.ow 0), (1, V.sc (.int .i64 n)), (2, V.fn 90 []), (6, V.sc (.int .i64 20))] [Blk.row 29 (List.map E29 r3) []] [some 0]) (X.out 2) (st 63 [] [Blk.row 29 (List.map E29 r7) []] [some 0])]) (by kernel_rfl) (cj (slices_stableCmpFunc_impl_Acct_impl_Gather_1_l0_ok n FUEL 0 20 data r2 h3) (cj (slices_insertionSortCmpFunc_impl_Acct_impl_Gather_1_ok r2.2 r2.1 n r3 h4) (cj rfl (cj1 (slices_stableCmpFunc_impl_Acct_impl_Gather_1_l1_ok n FUEL 20 r3 r7 h11)))))))))
def slices_SortStableFunc_impl_Acct_impl_Gather_1 (x_ : List Acct) : Option ((List Acct)) :=
 (slices_stableCmpFunc_impl_Acct_impl_Gather_1 x_ (x_.length : Int)).bind fun r1 =>
 some r1
theorem slices_SortStableFunc_impl_Acct_impl_Gather_1_ok (x_ : List Acct) : Pn (fun y => Fn Try.prog 89 [(true, E48 x_), (false, V.fn 90 [])] (V.tup []) [V.sl true 29 (List.map E29 y)]) (slices_SortStableFunc_impl_Acct_impl_Gather_1 x_) := by
  unfold slices_SortStableFunc_impl_Acct_impl_Gather_1
  exact
   Pn.bind (fun r1 h1 =>
   Pn.some (Fn.of [.wait 3, .nm 6 (V.sc (.int .i64 (x_.length : Int))), .call [true, false, false] (V.tup []) [V.sl true 29 (List.map E29 r1)]] (p := [V.sc (.int .i64 ((List.map E29 x_).length : Int)) = V.sc (.int .i64 (x_.length : Int)),
    Fn Try.prog 149 [(true, E48 x_), (false, E3 (x_.length : Int)), (false, V.fn 90 [])] (V.tup []) [V.sl true 29 (List.map E29 r1)],
    (true || ((V.tup []).nv && nvL [V.sl true 29 (List.map E29 r1)])) = true]) (by kernel_rfl) (cj (len_nm _ _) (cj (slices_stableCmpFunc_impl_Acct_impl_Gather_1_ok x_ (x_.length : Int) r1 h1) (cj1 rfl)))))
def impl_Gather_l0 (l : List Stripe) : List Stripe → (List Acct) → Option ((List Acct))
  | [], v1 =>
   some v1
  | x1 :: t1, v1 =>
   (impl_Book_copied (Book.mk x1.Accts)).bind fun r1 =>
   if (capOk (v1.length + r1.Accts.length)) = true then
   impl_Gather_l0 l t1 (v1 ++ r1.Accts)
   else none
theorem impl_Gather_l0_ok (l : List Stripe) (h2 : capOk l.length = true) : ∀ (t1 p1 : List Stripe) (_ : l = p1 ++ t1) (v1 : List Acct), Pn (LpO Try.prog (sub (codeOf Try.prog 29) [1, 1, 0, 1, 0, 0]) (st 27 [(2, V.ptr 0 0), (3, V.ptr 1 0), (7, V.sl false 58 (List.map E58 l)), (8, V.sc (.int .i64 (l.length : Int))), (9, V.sc (.int .i64 (p1.length : Int)))] [Blk.box 50 [V.nl 29], Blk.box 50 [V.ow 2], Blk.row 29 (List.map E29 v1) []] []) (fun (y : (List Acct)) => (X.out 0, st 27 [(2, V.ptr 0 0), (3, V.ptr 1 0)] [Blk.box 50 [V.nl 29], Blk.box 50 [V.ow 2], Blk.row 29 (List.map E29 y) []] []))) (impl_Gather_l0 l t1 v1)
  | [], p1, h1, v1 => by
    unfold impl_Gather_l0
    exact
     Pn.some (LpO.out [.bit false, .mask [2, 3], .ren [0, 1, 2]] (p := [(decide ((p1.length : Int) < (l.length : Int))) = false]) (by kernel_rfl) (show X.out 0 ≠ X.go from nofun) (cj1 (rng_end h1)))
  | x1 :: t1, p1, h1, v1 => by
    unfold impl_Gather_l0
    exact
     Pn.bind (fun r1 h3 =>
     Pn.ite (fun h4 =>
     LpO.go [.bit true, .el (E58 x1), .draw [7, 9], .call [] (E50 r1) [], .mv, .nb 5 (.row 29 (List.map E29 (v1 ++ r1.Accts)) []), .wait 5, .mask [2, 3, 7, 8, 9], .ren [0, 1, 5], .nm 9 (V.sc (.int .i64 ((p1 ++ [x1]).length : Int)))] (p := [(decide ((p1.length : Int) < (l.length : Int))) = true,
      (0 : Int) ≤ (p1.length : Int),
      (List.map E58 l)[(p1.length : Int).toNat]? = some (E58 x1),
      Fn Try.prog 88 [(false, E50 (Book.mk x1.Accts))] (E50 r1) [],
      (true || ((E50 r1).nv && nvL [])) = true,
      (List.map E29 v1).length + (List.map E29 r1.Accts).length ≤ 9223372036854775807,
      ((List.map E29 v1).length + (List.map E29 r1.Accts).length) * 160 ≤ 140737488355328,
      Blk.row 29 ((List.map E29 v1) ++ (List.map E29 r1.Accts)) [] = Blk.row 29 (List.map E29 (v1 ++ r1.Accts)) [],
      V.sc (.int .i64 (i64 ((p1.length : Int) + 1))) = V.sc (.int .i64 ((p1 ++ [x1]).length : Int))]) (by kernel_rfl) (cj (rng_lt h1) (cj (by omega) (cj (rng_get _ h1) (cj (impl_Book_copied_ok (Book.mk x1.Accts) r1 h3) (cj rfl (cj (cap1 (capN (by simp) h4)) (cj (cap2 (capN (by simp) h4) (by decide)) (cj (nb_app E29 v1 r1.Accts) (cj1 (rng_next h1 h2)))))))))) (impl_Gather_l0_ok l h2 t1 (p1 ++ [x1]) (rng_step h1) (v1 ++ r1.Accts))) (fun h4 =>
     Pn.none))
def impl_Gather (l : List Stripe) : Option (Book) :=
 if (capOk l.length) = true then
 (impl_Gather_l0 l l []).bind fun r2 =>
 (slices_SortStableFunc_impl_Acct_impl_Gather_1 r2).bind fun r3 =>
 some (Book.mk r3)
 else none
theorem impl_Gather_ok (l : List Stripe) : Pn (fun y => Fn Try.prog 29 [(false, E53 l)] (E50 y) []) (impl_Gather l) := by
  unfold impl_Gather
  exact
   Pn.ite (fun h5 =>
   Pn.bind (fun r2 h6 =>
   Pn.bind (fun r3 h7 =>
   Pn.some (Fn.of [.wait 6, .nm 8 (V.sc (.int .i64 (l.length : Int))), .wait 2, .mask [2, 3, 7, 8, 9], .ren [0, 1], .ownb 1 0, .mask [2, 3, 7, 8, 9], .ren [0, 1, 2], .loop (X.out 0) (st 27 [(2, V.ptr 0 0), (3, V.ptr 1 0)] [Blk.box 50 [V.nl 29], Blk.box 50 [V.ow 2], Blk.row 29 (List.map E29 r2) []] []), .call [true, false] (V.tup []) [V.sl true 29 (List.map E29 r3)]] (p := [V.sc (.int .i64 ((List.map E58 l).length : Int)) = V.sc (.int .i64 (l.length : Int)),
    Loop Try.prog (sub (codeOf Try.prog 29) [1, 1, 0, 1, 0, 0]) (st 27 [(2, V.ptr 0 0), (3, V.ptr 1 0), (7, V.sl false 58 (List.map E58 l)), (8, V.sc (.int .i64 (l.length : Int))), (9, V.sc (.int .i64 0))] [Blk.box 50 [V.nl 29], Blk.box 50 [V.ow 2], Blk.row 29 ([] : List V) []] []) (X.out 0) (st 27 [(2, V.ptr 0 0), (3, V.ptr 1 0)] [Blk.box 50 [V.nl 29], Blk.box 50 [V.ow 2], Blk.row 29 (List.map E29 r2) []] []),
    Fn Try.prog 89 [(true, E48 r2), (false, V.fn 90 [])] (V.tup []) [V.sl true 29 (List.map E29 r3)],
    (true || ((V.tup []).nv && nvL [V.sl true 29 (List.map E29 r3)])) = true]) (by kernel_rfl) (cj (len_nm _ _) (cj (impl_Gather_l0_ok l h5 l [] rfl [] r2 h6) (cj (slices_SortStableFunc_impl_Acct_impl_Gather_1_ok r2 r3 h7) (cj1 rfl)))))))) (fun h5 =>
   Pn.none)
def impl_Part_l0 (l : List Stripe) (set : List Int) : List Stripe → List Stripe → (List Stripe) → Option ((List Stripe))
  | [], p1, v1 =>
   some v1
  | x1 :: t1, p1, v1 =>
   (slices_Contains_int set (p1.length : Int)).bind fun r1 =>
   if r1 = true then
   if (capOk (v1.length + 1)) = true then
   impl_Part_l0 l set t1 (p1 ++ [x1]) (v1 ++ [x1])
   else none
   else
   impl_Part_l0 l set t1 (p1 ++ [x1]) v1
theorem impl_Part_l0_ok (l : List Stripe) (set : List Int) (h2 : capOk l.length = true) : ∀ (t1 p1 : List Stripe) (_ : l = p1 ++ t1) (v1 : List Stripe), Pn (LpO Try.prog (sub (codeOf Try.prog 40) [1, 1, 0, 1, 0, 0]) (st 26 [(1, V.sl false 3 (List.map E3 set)), (4, V.ptr 0 0), (5, V.ow 1), (9, V.sl false 58 (List.map E58 l)), (10, V.sc (.int .i64 (l.length : Int))), (11, V.sc (.int .i64 (p1.length : Int)))] [Blk.box 50 [V.nl 29], Blk.row 58 (List.map (fun x => (E58 x).vw) v1) []] []) (fun (y : (List Stripe)) => (X.out 0, st 26 [(4, V.ptr 0 0), (5, V.ow 1)] [Blk.box 50 [V.nl 29], Blk.row 58 (List.map (fun x => (E58 x).vw) y) []] []))) (impl_Part_l0 l set t1 p1 v1)
  | [], p1, h1, v1 => by
    unfold impl_Part_l0
    exact
     Pn.some (LpO.out [.bit false, .mask [4, 5], .ren [0, 1]] (p := [(decide ((p1.length : Int) < (l.length : Int))) = false]) (by kernel_rfl) (show X.out 0 ≠ X.go from nofun) (cj1 (rng_end h1)))
  | x1 :: t1, p1, h1, v1 => by
    unfold impl_Part_l0
    exact
     Pn.bind (fun r1 h3 =>
     Pn.ite (fun h4 =>
     Pn.ite (fun h5 =>
     LpO.go [.bit true, .el (E58 x1), .call [] (E4 r1) [], .bit true, .mv, .nb 4 (.row 58 (List.map (fun x => (E58 x).vw) (v1 ++ [x1])) []), .wait 4, .mask [1, 4, 5, 9, 10, 11], .ren [0, 4], .nm 11 (V.sc (.int .i64 ((p1 ++ [x1]).length : Int)))] (p := [(decide ((p1.length : Int) < (l.length : Int))) = true,
      (0 : Int) ≤ (p1.length : Int),
      (List.map E58 l)[(p1.length : Int).toNat]? = some (E58 x1),
      Fn Try.prog 98 [(false, E24 set), (false, E3 (p1.length : Int))] (E4 r1) [],
      (true || ((E4 r1).nv && nvL [])) = true,
      r1 = true,
      (List.map (fun x => (E58 x).vw) v1).length + [V.agg [V.sc (.int .i64 x1.Owner), V.sl false 29 (List.map E29 x1.Accts)]].length ≤ 9223372036854775807,
      ((List.map (fun x => (E58 x).vw) v1).length + [V.agg [V.sc (.int .i64 x1.Owner), V.sl false 29 (List.map E29 x1.Accts)]].length) * 32 ≤ 140737488355328,
      Blk.row 58 ((List.map (fun x => (E58 x).vw) v1) ++ [V.agg [V.sc (.int .i64 x1.Owner), V.sl false 29 (List.map E29 x1.Accts)]]) [] = Blk.row 58 (List.map (fun x => (E58 x).vw) (v1 ++ [x1])) [],
      V.sc (.int .i64 (i64 ((p1.length : Int) + 1))) = V.sc (.int .i64 ((p1 ++ [x1]).length : Int))]) (by kernel_rfl) (cj (rng_lt h1) (cj (by omega) (cj (rng_get _ h1) (cj (slices_Contains_int_ok set (p1.length : Int) r1 h3) (cj rfl (cj h4 (cj (cap1 (capN (by simp) h5)) (cj (cap2 (capN (by simp) h5) (by decide)) (cj (nb_app _ v1 [x1]) (cj1 (rng_next h1 h2))))))))))) (impl_Part_l0_ok l set h2 t1 (p1 ++ [x1]) (rng_step h1) (v1 ++ [x1]))) (fun h5 =>
     Pn.none)) (fun h4 =>
     LpO.go [.bit true, .el (E58 x1), .call [] (E4 r1) [], .bit false, .wait 2, .mask [1, 4, 5, 9, 10, 11], .ren [0, 1], .nm 11 (V.sc (.int .i64 ((p1 ++ [x1]).length : Int)))] (p := [(decide ((p1.length : Int) < (l.length : Int))) = true,
      (0 : Int) ≤ (p1.length : Int),
      (List.map E58 l)[(p1.length : Int).toNat]? = some (E58 x1),
      Fn Try.prog 98 [(false, E24 set), (false, E3 (p1.length : Int))] (E4 r1) [],
      (true || ((E4 r1).nv && nvL [])) = true,
      r1 = false,
      V.sc (.int .i64 (i64 ((p1.length : Int) + 1))) = V.sc (.int .i64 ((p1 ++ [x1]).length : Int))]) (by kernel_rfl) (cj (rng_lt h1) (cj (by omega) (cj (rng_get _ h1) (cj (slices_Contains_int_ok set (p1.length : Int) r1 h3) (cj rfl (cj h4 (cj1 (rng_next h1 h2)))))))) (impl_Part_l0_ok l set h2 t1 (p1 ++ [x1]) (rng_step h1) v1)))
def impl_Part (l : List Stripe) (set : List Int) : Option (Book) :=
 if (capOk l.length) = true then
 (impl_Part_l0 l set l [] []).bind fun r2 =>
 (impl_Gather r2).bind fun r3 =>
 some r3
 else none
theorem impl_Part_ok (l : List Stripe) (set : List Int) : Pn (fun y => Fn Try.prog 40 [(false, E53 l), (false, E24 set)] (E50 y) []) (impl_Part l set) := by
  unfold impl_Part
  exact
   Pn.ite (fun h6 =>
   Pn.bind (fun r2 h7 =>
   Pn.bind (fun r3 h8 =>
   Pn.some (Fn.of [.wait 5, .nm 10 (V.sc (.int .i64 (l.length : Int))), .wait 2, .mask [1, 4, 5, 9, 10, 11], .ren [0, 1], .loop (X.out 0) (st 26 [(4, V.ptr 0 0), (5, V.ow 1)] [Blk.box 50 [V.nl 29], Blk.row 58 (List.map (fun x => (E58 x).vw) r2) []] []), .call [] (E50 r3) []] (p := [V.sc (.int .i64 ((List.map E58 l).length : Int)) = V.sc (.int .i64 (l.length : Int)),
    Loop Try.prog (sub (codeOf Try.prog 40) [1, 1, 0, 1, 0, 0]) (st 26 [(1, V.sl false 3 (List.map E3 set)), (4, V.ptr 0 0), (5, V.ow 1), (9, V.sl false 58 (List.map E58 l)), (10, V.sc (.int .i64 (l.length : Int))), (11, V.sc (.int .i64 0))] [Blk.box 50 [V.nl 29], Blk.row 58 ([] : List V) []] []) (X.out 0) (st 26 [(4, V.ptr 0 0), (5, V.ow 1)] [Blk.box 50 [V.nl 29], Blk.row 58 (List.map (fun x => (E58 x).vw) r2) []] []),
    Fn Try.prog 29 [(false, V.sl true 58 (List.map (fun x => (E58 x).vw) r2))] (E50 r3) [],
    (false || ((E50 r3).nv && nvL [])) = true]) (by kernel_rfl) (cj (len_nm _ _) (cj (impl_Part_l0_ok l set h6 l [] rfl [] r2 h7) (cj (Fn.flag 0 (congrArg (fun z => [(false, V.sl true 58 z)]) (flag_vmap E58 (fun _ => rfl) r2)) (impl_Gather_ok r2 r3 h8)) (cj1 (by simp [V.nv, nvL, nvL_all, nv_E3, nv_E5, nv_E9, nv_E22, nv_E23, nv_E24, nv_E26, nv_E27, nv_E29, nv_E36, nv_E48, nv_E50, nv_E164]))))))))) (fun h6 =>
   Pn.none)
def laws_eqHold (a : Hold) (b : Hold) : Option (Bool) :=
 if (a.Id == b.Id) = true then
 if (a.Amount != b.Amount) = true then
 some false
 else
 if (a.Due != b.Due) = true then
 some false
 else
 some true
 else
 some false
theorem laws_eqHold_ok (a : Hold) (b : Hold) : Pn (fun y => Fn Try.prog 215 [(false, E36 a), (false, E36 b)] (E4 y) []) (laws_eqHold a b) := by
  unfold laws_eqHold
  exact
   Pn.ite (fun h1 =>
   Pn.ite (fun h2 =>
   Pn.some (Fn.of [.bit false, .bit true] (p := [(!(a.Id == b.Id)) = false,
    (a.Amount != b.Amount) = true]) (by kernel_rfl) (cj (nf h1) (cj1 h2)))) (fun h2 =>
   Pn.ite (fun h3 =>
   Pn.some (Fn.of [.bit false, .bit false, .bit true] (p := [(!(a.Id == b.Id)) = false,
    (a.Amount != b.Amount) = false,
    (a.Due != b.Due) = true]) (by kernel_rfl) (cj (nf h1) (cj h2 (cj1 h3))))) (fun h3 =>
   Pn.some (Fn.of [.bit false, .bit false, .bit false] (p := [(!(a.Id == b.Id)) = false,
    (a.Amount != b.Amount) = false,
    (a.Due != b.Due) = false]) (by kernel_rfl) (cj (nf h1) (cj h2 (cj1 h3))))))) (fun h1 =>
   Pn.some (Fn.of [.bit true] (p := [(!(a.Id == b.Id)) = true]) (by kernel_rfl) (cj1 (nt h1))))
def laws_eqHoldS_l0 (a : List Hold) (b : List Hold) : List Hold → List Hold → Option (Lo Unit Unit)
  | [], p1 =>
   some (.out ())
  | x1 :: t1, p1 =>
   (b[(p1.length : Int).toNat]?).bind fun x2 =>
   (laws_eqHold x1 x2).bind fun r1 =>
   if r1 = true then
   laws_eqHoldS_l0 a b t1 (p1 ++ [x1])
   else
   some (.ret ())
theorem laws_eqHoldS_l0_ok (a : List Hold) (b : List Hold) (h3 : capOk a.length = true) : ∀ (t1 p1 : List Hold) (_ : a = p1 ++ t1) , Pn (LpO Try.prog (sub (codeOf Try.prog 195) [1, 1, 0, 1, 0, 0]) (st 27 [(0, V.sl false 36 (List.map E36 a)), (1, V.sl false 36 (List.map E36 b)), (5, V.sc (.int .i64 (p1.length : Int)))] [] []) (fun (y : Lo Unit Unit) => Lo.elim y (fun s => (X.out 0, st 27 [] [] [])) (fun s => (X.ret, st 27 [(4, V.sc (.bool false))] [] [])))) (laws_eqHoldS_l0 a b t1 p1)
  | [], p1, h2 => by
    unfold laws_eqHoldS_l0
    exact
     Pn.some (LpO.out [.wait 3, .nm 13 (V.sc (.int .i64 (a.length : Int))), .bit false, .mask [], .ren []] (p := [V.sc (.int .i64 ((List.map E36 a).length : Int)) = V.sc (.int .i64 (a.length : Int)),
      (decide ((p1.length : Int) < (a.length : Int))) = false]) (by kernel_rfl) (show X.out 0 ≠ X.go from nofun) (cj (len_nm _ _) (cj1 (rng_end h2))))
  | x1 :: t1, p1, h2 => by
    unfold laws_eqHoldS_l0
    exact
     Pn.bind (fun x2 h4 =>
     Pn.bind (fun r1 h5 =>
     Pn.ite (fun h6 =>
     LpO.go [.wait 3, .nm 13 (V.sc (.int .i64 (a.length : Int))), .bit true, .draw [], .el (E36 x1), .el (E36 x2), .call [] (E4 r1) [], .bit false, .wait 3, .mask [0, 1, 5], .ren [], .nm 5 (V.sc (.int .i64 ((p1 ++ [x1]).length : Int)))] (p := [V.sc (.int .i64 ((List.map E36 a).length : Int)) = V.sc (.int .i64 (a.length : Int)),
      (decide ((p1.length : Int) < (a.length : Int))) = true,
      (0 : Int) ≤ (p1.length : Int),
      (List.map E36 a)[(p1.length : Int).toNat]? = some (E36 x1),
      (0 : Int) ≤ (p1.length : Int),
      (List.map E36 b)[(p1.length : Int).toNat]? = some (E36 x2),
      Fn Try.prog 215 [(false, E36 x1), (false, E36 x2)] (E4 r1) [],
      (true || ((E4 r1).nv && nvL [])) = true,
      (!r1) = false,
      V.sc (.int .i64 (i64 ((p1.length : Int) + 1))) = V.sc (.int .i64 ((p1 ++ [x1]).length : Int))]) (by kernel_rfl) (cj (len_nm _ _) (cj (rng_lt h2) (cj (by omega) (cj (rng_get _ h2) (cj (by omega) (cj (map_get h4) (cj (laws_eqHold_ok x1 x2 r1 h5) (cj rfl (cj (nf h6) (cj1 (rng_next h2 h3))))))))))) (laws_eqHoldS_l0_ok a b h3 t1 (p1 ++ [x1]) (rng_step h2))) (fun h6 =>
     Pn.some (LpO.out [.wait 3, .nm 13 (V.sc (.int .i64 (a.length : Int))), .bit true, .draw [], .el (E36 x1), .el (E36 x2), .call [] (E4 r1) [], .bit true, .wait 1, .mask [4], .ren []] (p := [V.sc (.int .i64 ((List.map E36 a).length : Int)) = V.sc (.int .i64 (a.length : Int)),
      (decide ((p1.length : Int) < (a.length : Int))) = true,
      (0 : Int) ≤ (p1.length : Int),
      (List.map E36 a)[(p1.length : Int).toNat]? = some (E36 x1),
      (0 : Int) ≤ (p1.length : Int),
      (List.map E36 b)[(p1.length : Int).toNat]? = some (E36 x2),
      Fn Try.prog 215 [(false, E36 x1), (false, E36 x2)] (E4 r1) [],
      (true || ((E4 r1).nv && nvL [])) = true,
      (!r1) = true]) (by kernel_rfl) (show X.ret ≠ X.go from nofun) (cj (len_nm _ _) (cj (rng_lt h2) (cj (by omega) (cj (rng_get _ h2) (cj (by omega) (cj (map_get h4) (cj (laws_eqHold_ok x1 x2 r1 h5) (cj rfl (cj1 (nt h6))))))))))))))
def laws_eqHoldS (a : List Hold) (b : List Hold) : Option (Bool) :=
 if ((a.length : Int) != (b.length : Int)) = true then
 some false
 else
 if (capOk a.length) = true then
 (laws_eqHoldS_l0 a b a []).bind fun r2 =>
 Lo.elim r2 (fun s1 =>
 some true) (fun s2 =>
 some false)
 else none
theorem laws_eqHoldS_ok (a : List Hold) (b : List Hold) : Pn (fun y => Fn Try.prog 195 [(false, E23 a), (false, E23 b)] (E4 y) []) (laws_eqHoldS a b) := by
  unfold laws_eqHoldS
  exact
   Pn.ite (fun h1 =>
   Pn.some (Fn.of [.wait 3, .nm 7 (V.sc (.int .i64 (a.length : Int))), .wait 2, .nm 9 (V.sc (.int .i64 (b.length : Int))), .bit true] (p := [V.sc (.int .i64 ((List.map E36 a).length : Int)) = V.sc (.int .i64 (a.length : Int)),
    V.sc (.int .i64 ((List.map E36 b).length : Int)) = V.sc (.int .i64 (b.length : Int)),
    ((a.length : Int) != (b.length : Int)) = true]) (by kernel_rfl) (cj (len_nm _ _) (cj (len_nm _ _) (cj1 h1))))) (fun h1 =>
   Pn.ite (fun h7 =>
   Pn.bind (fun r2 h8 =>
   Pn.lo (fun s1 h9 =>
   Pn.some (Fn.of [.wait 3, .nm 7 (V.sc (.int .i64 (a.length : Int))), .wait 2, .nm 9 (V.sc (.int .i64 (b.length : Int))), .bit false, .wait 1, .mask [0, 1, 5], .ren [], .loop (X.out 0) (st 27 [] [] [])] (p := [V.sc (.int .i64 ((List.map E36 a).length : Int)) = V.sc (.int .i64 (a.length : Int)),
    V.sc (.int .i64 ((List.map E36 b).length : Int)) = V.sc (.int .i64 (b.length : Int)),
    ((a.length : Int) != (b.length : Int)) = false,
    Loop Try.prog (sub (codeOf Try.prog 195) [1, 1, 0, 1, 0, 0]) (st 27 [(0, V.sl false 36 (List.map E36 a)), (1, V.sl false 36 (List.map E36 b)), (5, V.sc (.int .i64 0))] [] []) (X.out 0) (st 27 [] [] [])]) (by kernel_rfl) (cj (len_nm _ _) (cj (len_nm _ _) (cj h1 (cj1 ((laws_eqHoldS_l0_ok a b h7 a [] rfl r2 h8).at h9))))))) (fun s2 h10 =>
   Pn.some (Fn.of [.wait 3, .nm 7 (V.sc (.int .i64 (a.length : Int))), .wait 2, .nm 9 (V.sc (.int .i64 (b.length : Int))), .bit false, .wait 1, .mask [0, 1, 5], .ren [], .loop (X.ret) (st 27 [(4, V.sc (.bool false))] [] [])] (p := [V.sc (.int .i64 ((List.map E36 a).length : Int)) = V.sc (.int .i64 (a.length : Int)),
    V.sc (.int .i64 ((List.map E36 b).length : Int)) = V.sc (.int .i64 (b.length : Int)),
    ((a.length : Int) != (b.length : Int)) = false,
    Loop Try.prog (sub (codeOf Try.prog 195) [1, 1, 0, 1, 0, 0]) (st 27 [(0, V.sl false 36 (List.map E36 a)), (1, V.sl false 36 (List.map E36 b)), (5, V.sc (.int .i64 0))] [] []) (X.ret) (st 27 [(4, V.sc (.bool false))] [] [])]) (by kernel_rfl) (cj (len_nm _ _) (cj (len_nm _ _) (cj h1 (cj1 ((laws_eqHoldS_l0_ok a b h7 a [] rfl r2 h8).at h10))))))))) (fun h7 =>
   Pn.none))
def laws_eqIntS_l0 (a : List Int) (b : List Int) : List Int → List Int → Option (Lo Unit Unit)
  | [], p1 =>
   some (.out ())
  | x1 :: t1, p1 =>
   (b[(p1.length : Int).toNat]?).bind fun x2 =>
   if (x1 != x2) = true then
   some (.ret ())
   else
   laws_eqIntS_l0 a b t1 (p1 ++ [x1])
theorem laws_eqIntS_l0_ok (a : List Int) (b : List Int) (h3 : capOk a.length = true) : ∀ (t1 p1 : List Int) (_ : a = p1 ++ t1) , Pn (LpO Try.prog (sub (codeOf Try.prog 41) [1, 1, 0, 1, 0, 0]) (st 26 [(0, V.sl false 3 (List.map E3 a)), (1, V.sl false 3 (List.map E3 b)), (5, V.sc (.int .i64 (p1.length : Int)))] [] []) (fun (y : Lo Unit Unit) => Lo.elim y (fun s => (X.out 0, st 26 [] [] [])) (fun s => (X.ret, st 26 [(4, V.sc (.bool false))] [] [])))) (laws_eqIntS_l0 a b t1 p1)
  | [], p1, h2 => by
    unfold laws_eqIntS_l0
    exact
     Pn.some (LpO.out [.wait 3, .nm 13 (V.sc (.int .i64 (a.length : Int))), .bit false, .mask [], .ren []] (p := [V.sc (.int .i64 ((List.map E3 a).length : Int)) = V.sc (.int .i64 (a.length : Int)),
      (decide ((p1.length : Int) < (a.length : Int))) = false]) (by kernel_rfl) (show X.out 0 ≠ X.go from nofun) (cj (len_nm _ _) (cj1 (rng_end h2))))
  | x1 :: t1, p1, h2 => by
    unfold laws_eqIntS_l0
    exact
     Pn.bind (fun x2 h4 =>
     Pn.ite (fun h5 =>
     Pn.some (LpO.out [.wait 3, .nm 13 (V.sc (.int .i64 (a.length : Int))), .bit true, .draw [], .el (E3 x1), .el (E3 x2), .bit true, .wait 1, .mask [4], .ren []] (p := [V.sc (.int .i64 ((List.map E3 a).length : Int)) = V.sc (.int .i64 (a.length : Int)),
      (decide ((p1.length : Int) < (a.length : Int))) = true,
      (0 : Int) ≤ (p1.length : Int),
      (List.map E3 a)[(p1.length : Int).toNat]? = some (E3 x1),
      (0 : Int) ≤ (p1.length : Int),
      (List.map E3 b)[(p1.length : Int).toNat]? = some (E3 x2),
      (x1 != x2) = true]) (by kernel_rfl) (show X.ret ≠ X.go from nofun) (cj (len_nm _ _) (cj (rng_lt h2) (cj (by omega) (cj (rng_get _ h2) (cj (by omega) (cj (map_get h4) (cj1 h5))))))))) (fun h5 =>
     LpO.go [.wait 3, .nm 13 (V.sc (.int .i64 (a.length : Int))), .bit true, .draw [], .el (E3 x1), .el (E3 x2), .bit false, .wait 3, .mask [0, 1, 5], .ren [], .nm 5 (V.sc (.int .i64 ((p1 ++ [x1]).length : Int)))] (p := [V.sc (.int .i64 ((List.map E3 a).length : Int)) = V.sc (.int .i64 (a.length : Int)),
      (decide ((p1.length : Int) < (a.length : Int))) = true,
      (0 : Int) ≤ (p1.length : Int),
      (List.map E3 a)[(p1.length : Int).toNat]? = some (E3 x1),
      (0 : Int) ≤ (p1.length : Int),
      (List.map E3 b)[(p1.length : Int).toNat]? = some (E3 x2),
      (x1 != x2) = false,
      V.sc (.int .i64 (i64 ((p1.length : Int) + 1))) = V.sc (.int .i64 ((p1 ++ [x1]).length : Int))]) (by kernel_rfl) (cj (len_nm _ _) (cj (rng_lt h2) (cj (by omega) (cj (rng_get _ h2) (cj (by omega) (cj (map_get h4) (cj h5 (cj1 (rng_next h2 h3))))))))) (laws_eqIntS_l0_ok a b h3 t1 (p1 ++ [x1]) (rng_step h2))))
def laws_eqIntS (a : List Int) (b : List Int) : Option (Bool) :=
 if ((a.length : Int) != (b.length : Int)) = true then
 some false
 else
 if (capOk a.length) = true then
 (laws_eqIntS_l0 a b a []).bind fun r1 =>
 Lo.elim r1 (fun s1 =>
 some true) (fun s2 =>
 some false)
 else none
theorem laws_eqIntS_ok (a : List Int) (b : List Int) : Pn (fun y => Fn Try.prog 41 [(false, E24 a), (false, E24 b)] (E4 y) []) (laws_eqIntS a b) := by
  unfold laws_eqIntS
  exact
   Pn.ite (fun h1 =>
   Pn.some (Fn.of [.wait 3, .nm 7 (V.sc (.int .i64 (a.length : Int))), .wait 2, .nm 9 (V.sc (.int .i64 (b.length : Int))), .bit true] (p := [V.sc (.int .i64 ((List.map E3 a).length : Int)) = V.sc (.int .i64 (a.length : Int)),
    V.sc (.int .i64 ((List.map E3 b).length : Int)) = V.sc (.int .i64 (b.length : Int)),
    ((a.length : Int) != (b.length : Int)) = true]) (by kernel_rfl) (cj (len_nm _ _) (cj (len_nm _ _) (cj1 h1))))) (fun h1 =>
   Pn.ite (fun h6 =>
   Pn.bind (fun r1 h7 =>
   Pn.lo (fun s1 h8 =>
   Pn.some (Fn.of [.wait 3, .nm 7 (V.sc (.int .i64 (a.length : Int))), .wait 2, .nm 9 (V.sc (.int .i64 (b.length : Int))), .bit false, .wait 1, .mask [0, 1, 5], .ren [], .loop (X.out 0) (st 26 [] [] [])] (p := [V.sc (.int .i64 ((List.map E3 a).length : Int)) = V.sc (.int .i64 (a.length : Int)),
    V.sc (.int .i64 ((List.map E3 b).length : Int)) = V.sc (.int .i64 (b.length : Int)),
    ((a.length : Int) != (b.length : Int)) = false,
    Loop Try.prog (sub (codeOf Try.prog 41) [1, 1, 0, 1, 0, 0]) (st 26 [(0, V.sl false 3 (List.map E3 a)), (1, V.sl false 3 (List.map E3 b)), (5, V.sc (.int .i64 0))] [] []) (X.out 0) (st 26 [] [] [])]) (by kernel_rfl) (cj (len_nm _ _) (cj (len_nm _ _) (cj h1 (cj1 ((laws_eqIntS_l0_ok a b h6 a [] rfl r1 h7).at h8))))))) (fun s2 h9 =>
   Pn.some (Fn.of [.wait 3, .nm 7 (V.sc (.int .i64 (a.length : Int))), .wait 2, .nm 9 (V.sc (.int .i64 (b.length : Int))), .bit false, .wait 1, .mask [0, 1, 5], .ren [], .loop (X.ret) (st 26 [(4, V.sc (.bool false))] [] [])] (p := [V.sc (.int .i64 ((List.map E3 a).length : Int)) = V.sc (.int .i64 (a.length : Int)),
    V.sc (.int .i64 ((List.map E3 b).length : Int)) = V.sc (.int .i64 (b.length : Int)),
    ((a.length : Int) != (b.length : Int)) = false,
    Loop Try.prog (sub (codeOf Try.prog 41) [1, 1, 0, 1, 0, 0]) (st 26 [(0, V.sl false 3 (List.map E3 a)), (1, V.sl false 3 (List.map E3 b)), (5, V.sc (.int .i64 0))] [] []) (X.ret) (st 26 [(4, V.sc (.bool false))] [] [])]) (by kernel_rfl) (cj (len_nm _ _) (cj (len_nm _ _) (cj h1 (cj1 ((laws_eqIntS_l0_ok a b h6 a [] rfl r1 h7).at h9))))))))) (fun h6 =>
   Pn.none))
def laws_eqRing (a : Ring) (b : Ring) : Option (Bool) :=
 if (a.Span != b.Span) = true then
 some false
 else
 if (a.Head != b.Head) = true then
 some false
 else
 (laws_eqIntS a.Counts b.Counts).bind fun r1 =>
 if r1 = true then
 (laws_eqIntS a.Sums b.Sums).bind fun r2 =>
 if r2 = true then
 some true
 else
 some false
 else
 some false
theorem laws_eqRing_ok (a : Ring) (b : Ring) : Pn (fun y => Fn Try.prog 196 [(false, E26 a), (false, E26 b)] (E4 y) []) (laws_eqRing a b) := by
  unfold laws_eqRing
  exact
   Pn.ite (fun h1 =>
   Pn.some (Fn.of [.bit true] (p := [(a.Span != b.Span) = true]) (by kernel_rfl) (cj1 h1))) (fun h1 =>
   Pn.ite (fun h2 =>
   Pn.some (Fn.of [.bit false, .bit true] (p := [(a.Span != b.Span) = false,
    (a.Head != b.Head) = true]) (by kernel_rfl) (cj h1 (cj1 h2)))) (fun h2 =>
   Pn.bind (fun r1 h3 =>
   Pn.ite (fun h4 =>
   Pn.bind (fun r2 h5 =>
   Pn.ite (fun h6 =>
   Pn.some (Fn.of [.bit false, .bit false, .call [] (E4 r1) [], .bit false, .call [] (E4 r2) [], .bit false] (p := [(a.Span != b.Span) = false,
    (a.Head != b.Head) = false,
    Fn Try.prog 41 [(false, E24 a.Counts), (false, E24 b.Counts)] (E4 r1) [],
    (true || ((E4 r1).nv && nvL [])) = true,
    (!r1) = false,
    Fn Try.prog 41 [(false, E24 a.Sums), (false, E24 b.Sums)] (E4 r2) [],
    (true || ((E4 r2).nv && nvL [])) = true,
    (!r2) = false]) (by kernel_rfl) (cj h1 (cj h2 (cj (laws_eqIntS_ok a.Counts b.Counts r1 h3) (cj rfl (cj (nf h4) (cj (laws_eqIntS_ok a.Sums b.Sums r2 h5) (cj rfl (cj1 (nf h6))))))))))) (fun h6 =>
   Pn.some (Fn.of [.bit false, .bit false, .call [] (E4 r1) [], .bit false, .call [] (E4 r2) [], .bit true] (p := [(a.Span != b.Span) = false,
    (a.Head != b.Head) = false,
    Fn Try.prog 41 [(false, E24 a.Counts), (false, E24 b.Counts)] (E4 r1) [],
    (true || ((E4 r1).nv && nvL [])) = true,
    (!r1) = false,
    Fn Try.prog 41 [(false, E24 a.Sums), (false, E24 b.Sums)] (E4 r2) [],
    (true || ((E4 r2).nv && nvL [])) = true,
    (!r2) = true]) (by kernel_rfl) (cj h1 (cj h2 (cj (laws_eqIntS_ok a.Counts b.Counts r1 h3) (cj rfl (cj (nf h4) (cj (laws_eqIntS_ok a.Sums b.Sums r2 h5) (cj rfl (cj1 (nt h6))))))))))))) (fun h4 =>
   Pn.some (Fn.of [.bit false, .bit false, .call [] (E4 r1) [], .bit true] (p := [(a.Span != b.Span) = false,
    (a.Head != b.Head) = false,
    Fn Try.prog 41 [(false, E24 a.Counts), (false, E24 b.Counts)] (E4 r1) [],
    (true || ((E4 r1).nv && nvL [])) = true,
    (!r1) = true]) (by kernel_rfl) (cj h1 (cj h2 (cj (laws_eqIntS_ok a.Counts b.Counts r1 h3) (cj rfl (cj1 (nt h4)))))))))))
def laws_eqByteS_l0 (a : List Int) (b : List Int) : List Int → List Int → Option (Lo Unit Unit)
  | [], p1 =>
   some (.out ())
  | x1 :: t1, p1 =>
   (b[(p1.length : Int).toNat]?).bind fun x2 =>
   if (x1 != x2) = true then
   some (.ret ())
   else
   laws_eqByteS_l0 a b t1 (p1 ++ [x1])
theorem laws_eqByteS_l0_ok (a : List Int) (b : List Int) (h3 : capOk a.length = true) : ∀ (t1 p1 : List Int) (_ : a = p1 ++ t1) , Pn (LpO Try.prog (sub (codeOf Try.prog 166) [1, 1, 0, 1, 0, 0]) (st 26 [(0, V.sl false 5 (List.map E5 a)), (1, V.sl false 5 (List.map E5 b)), (5, V.sc (.int .i64 (p1.length : Int)))] [] []) (fun (y : Lo Unit Unit) => Lo.elim y (fun s => (X.out 0, st 26 [] [] [])) (fun s => (X.ret, st 26 [(4, V.sc (.bool false))] [] [])))) (laws_eqByteS_l0 a b t1 p1)
  | [], p1, h2 => by
    unfold laws_eqByteS_l0
    exact
     Pn.some (LpO.out [.wait 3, .nm 13 (V.sc (.int .i64 (a.length : Int))), .bit false, .mask [], .ren []] (p := [V.sc (.int .i64 ((List.map E5 a).length : Int)) = V.sc (.int .i64 (a.length : Int)),
      (decide ((p1.length : Int) < (a.length : Int))) = false]) (by kernel_rfl) (show X.out 0 ≠ X.go from nofun) (cj (len_nm _ _) (cj1 (rng_end h2))))
  | x1 :: t1, p1, h2 => by
    unfold laws_eqByteS_l0
    exact
     Pn.bind (fun x2 h4 =>
     Pn.ite (fun h5 =>
     Pn.some (LpO.out [.wait 3, .nm 13 (V.sc (.int .i64 (a.length : Int))), .bit true, .draw [], .el (E5 x1), .el (E5 x2), .bit true, .wait 1, .mask [4], .ren []] (p := [V.sc (.int .i64 ((List.map E5 a).length : Int)) = V.sc (.int .i64 (a.length : Int)),
      (decide ((p1.length : Int) < (a.length : Int))) = true,
      (0 : Int) ≤ (p1.length : Int),
      (List.map E5 a)[(p1.length : Int).toNat]? = some (E5 x1),
      (0 : Int) ≤ (p1.length : Int),
      (List.map E5 b)[(p1.length : Int).toNat]? = some (E5 x2),
      (x1 != x2) = true]) (by kernel_rfl) (show X.ret ≠ X.go from nofun) (cj (len_nm _ _) (cj (rng_lt h2) (cj (by omega) (cj (rng_get _ h2) (cj (by omega) (cj (map_get h4) (cj1 h5))))))))) (fun h5 =>
     LpO.go [.wait 3, .nm 13 (V.sc (.int .i64 (a.length : Int))), .bit true, .draw [], .el (E5 x1), .el (E5 x2), .bit false, .wait 3, .mask [0, 1, 5], .ren [], .nm 5 (V.sc (.int .i64 ((p1 ++ [x1]).length : Int)))] (p := [V.sc (.int .i64 ((List.map E5 a).length : Int)) = V.sc (.int .i64 (a.length : Int)),
      (decide ((p1.length : Int) < (a.length : Int))) = true,
      (0 : Int) ≤ (p1.length : Int),
      (List.map E5 a)[(p1.length : Int).toNat]? = some (E5 x1),
      (0 : Int) ≤ (p1.length : Int),
      (List.map E5 b)[(p1.length : Int).toNat]? = some (E5 x2),
      (x1 != x2) = false,
      V.sc (.int .i64 (i64 ((p1.length : Int) + 1))) = V.sc (.int .i64 ((p1 ++ [x1]).length : Int))]) (by kernel_rfl) (cj (len_nm _ _) (cj (rng_lt h2) (cj (by omega) (cj (rng_get _ h2) (cj (by omega) (cj (map_get h4) (cj h5 (cj1 (rng_next h2 h3))))))))) (laws_eqByteS_l0_ok a b h3 t1 (p1 ++ [x1]) (rng_step h2))))
def laws_eqByteS (a : List Int) (b : List Int) : Option (Bool) :=
 if ((a.length : Int) != (b.length : Int)) = true then
 some false
 else
 if (capOk a.length) = true then
 (laws_eqByteS_l0 a b a []).bind fun r1 =>
 Lo.elim r1 (fun s1 =>
 some true) (fun s2 =>
 some false)
 else none
theorem laws_eqByteS_ok (a : List Int) (b : List Int) : Pn (fun y => Fn Try.prog 166 [(false, E22 a), (false, E22 b)] (E4 y) []) (laws_eqByteS a b) := by
  unfold laws_eqByteS
  exact
   Pn.ite (fun h1 =>
   Pn.some (Fn.of [.wait 3, .nm 7 (V.sc (.int .i64 (a.length : Int))), .wait 2, .nm 9 (V.sc (.int .i64 (b.length : Int))), .bit true] (p := [V.sc (.int .i64 ((List.map E5 a).length : Int)) = V.sc (.int .i64 (a.length : Int)),
    V.sc (.int .i64 ((List.map E5 b).length : Int)) = V.sc (.int .i64 (b.length : Int)),
    ((a.length : Int) != (b.length : Int)) = true]) (by kernel_rfl) (cj (len_nm _ _) (cj (len_nm _ _) (cj1 h1))))) (fun h1 =>
   Pn.ite (fun h6 =>
   Pn.bind (fun r1 h7 =>
   Pn.lo (fun s1 h8 =>
   Pn.some (Fn.of [.wait 3, .nm 7 (V.sc (.int .i64 (a.length : Int))), .wait 2, .nm 9 (V.sc (.int .i64 (b.length : Int))), .bit false, .wait 1, .mask [0, 1, 5], .ren [], .loop (X.out 0) (st 26 [] [] [])] (p := [V.sc (.int .i64 ((List.map E5 a).length : Int)) = V.sc (.int .i64 (a.length : Int)),
    V.sc (.int .i64 ((List.map E5 b).length : Int)) = V.sc (.int .i64 (b.length : Int)),
    ((a.length : Int) != (b.length : Int)) = false,
    Loop Try.prog (sub (codeOf Try.prog 166) [1, 1, 0, 1, 0, 0]) (st 26 [(0, V.sl false 5 (List.map E5 a)), (1, V.sl false 5 (List.map E5 b)), (5, V.sc (.int .i64 0))] [] []) (X.out 0) (st 26 [] [] [])]) (by kernel_rfl) (cj (len_nm _ _) (cj (len_nm _ _) (cj h1 (cj1 ((laws_eqByteS_l0_ok a b h6 a [] rfl r1 h7).at h8))))))) (fun s2 h9 =>
   Pn.some (Fn.of [.wait 3, .nm 7 (V.sc (.int .i64 (a.length : Int))), .wait 2, .nm 9 (V.sc (.int .i64 (b.length : Int))), .bit false, .wait 1, .mask [0, 1, 5], .ren [], .loop (X.ret) (st 26 [(4, V.sc (.bool false))] [] [])] (p := [V.sc (.int .i64 ((List.map E5 a).length : Int)) = V.sc (.int .i64 (a.length : Int)),
    V.sc (.int .i64 ((List.map E5 b).length : Int)) = V.sc (.int .i64 (b.length : Int)),
    ((a.length : Int) != (b.length : Int)) = false,
    Loop Try.prog (sub (codeOf Try.prog 166) [1, 1, 0, 1, 0, 0]) (st 26 [(0, V.sl false 5 (List.map E5 a)), (1, V.sl false 5 (List.map E5 b)), (5, V.sc (.int .i64 0))] [] []) (X.ret) (st 26 [(4, V.sc (.bool false))] [] [])]) (by kernel_rfl) (cj (len_nm _ _) (cj (len_nm _ _) (cj h1 (cj1 ((laws_eqByteS_l0_ok a b h6 a [] rfl r1 h7).at h9))))))))) (fun h6 =>
   Pn.none))
def laws_eqSlot (a : Slot) (b : Slot) : Option (Bool) :=
 if (a.Trace == b.Trace) = true then
 if (a.Mti == b.Mti) = true then
 (laws_eqByteS a.Reply b.Reply).bind fun r1 =>
 if r1 = true then
 some true
 else
 some false
 else
 some false
 else
 some false
theorem laws_eqSlot_ok (a : Slot) (b : Slot) : Pn (fun y => Fn Try.prog 216 [(false, E164 a), (false, E164 b)] (E4 y) []) (laws_eqSlot a b) := by
  unfold laws_eqSlot
  exact
   Pn.ite (fun h1 =>
   Pn.ite (fun h2 =>
   Pn.bind (fun r1 h3 =>
   Pn.ite (fun h4 =>
   Pn.some (Fn.of [.bit false, .bit false, .call [] (E4 r1) [], .bit false] (p := [(!(a.Trace == b.Trace)) = false,
    (!(a.Mti == b.Mti)) = false,
    Fn Try.prog 166 [(false, E22 a.Reply), (false, E22 b.Reply)] (E4 r1) [],
    (true || ((E4 r1).nv && nvL [])) = true,
    (!r1) = false]) (by kernel_rfl) (cj (nf h1) (cj (nf h2) (cj (laws_eqByteS_ok a.Reply b.Reply r1 h3) (cj rfl (cj1 (nf h4)))))))) (fun h4 =>
   Pn.some (Fn.of [.bit false, .bit false, .call [] (E4 r1) [], .bit true] (p := [(!(a.Trace == b.Trace)) = false,
    (!(a.Mti == b.Mti)) = false,
    Fn Try.prog 166 [(false, E22 a.Reply), (false, E22 b.Reply)] (E4 r1) [],
    (true || ((E4 r1).nv && nvL [])) = true,
    (!r1) = true]) (by kernel_rfl) (cj (nf h1) (cj (nf h2) (cj (laws_eqByteS_ok a.Reply b.Reply r1 h3) (cj rfl (cj1 (nt h4)))))))))) (fun h2 =>
   Pn.some (Fn.of [.bit false, .bit true] (p := [(!(a.Trace == b.Trace)) = false,
    (!(a.Mti == b.Mti)) = true]) (by kernel_rfl) (cj (nf h1) (cj1 (nt h2)))))) (fun h1 =>
   Pn.some (Fn.of [.bit true] (p := [(!(a.Trace == b.Trace)) = true]) (by kernel_rfl) (cj1 (nt h1))))
def laws_eqSlotS_l0 (a : List Slot) (b : List Slot) : List Slot → List Slot → Option (Lo Unit Unit)
  | [], p1 =>
   some (.out ())
  | x1 :: t1, p1 =>
   (b[(p1.length : Int).toNat]?).bind fun x2 =>
   (laws_eqSlot x1 x2).bind fun r1 =>
   if r1 = true then
   laws_eqSlotS_l0 a b t1 (p1 ++ [x1])
   else
   some (.ret ())
theorem laws_eqSlotS_l0_ok (a : List Slot) (b : List Slot) (h3 : capOk a.length = true) : ∀ (t1 p1 : List Slot) (_ : a = p1 ++ t1) , Pn (LpO Try.prog (sub (codeOf Try.prog 197) [1, 1, 0, 1, 0, 0]) (st 27 [(0, V.sl false 164 (List.map E164 a)), (1, V.sl false 164 (List.map E164 b)), (5, V.sc (.int .i64 (p1.length : Int)))] [] []) (fun (y : Lo Unit Unit) => Lo.elim y (fun s => (X.out 0, st 27 [] [] [])) (fun s => (X.ret, st 27 [(4, V.sc (.bool false))] [] [])))) (laws_eqSlotS_l0 a b t1 p1)
  | [], p1, h2 => by
    unfold laws_eqSlotS_l0
    exact
     Pn.some (LpO.out [.wait 3, .nm 13 (V.sc (.int .i64 (a.length : Int))), .bit false, .mask [], .ren []] (p := [V.sc (.int .i64 ((List.map E164 a).length : Int)) = V.sc (.int .i64 (a.length : Int)),
      (decide ((p1.length : Int) < (a.length : Int))) = false]) (by kernel_rfl) (show X.out 0 ≠ X.go from nofun) (cj (len_nm _ _) (cj1 (rng_end h2))))
  | x1 :: t1, p1, h2 => by
    unfold laws_eqSlotS_l0
    exact
     Pn.bind (fun x2 h4 =>
     Pn.bind (fun r1 h5 =>
     Pn.ite (fun h6 =>
     LpO.go [.wait 3, .nm 13 (V.sc (.int .i64 (a.length : Int))), .bit true, .draw [], .el (E164 x1), .el (E164 x2), .call [] (E4 r1) [], .bit false, .wait 3, .mask [0, 1, 5], .ren [], .nm 5 (V.sc (.int .i64 ((p1 ++ [x1]).length : Int)))] (p := [V.sc (.int .i64 ((List.map E164 a).length : Int)) = V.sc (.int .i64 (a.length : Int)),
      (decide ((p1.length : Int) < (a.length : Int))) = true,
      (0 : Int) ≤ (p1.length : Int),
      (List.map E164 a)[(p1.length : Int).toNat]? = some (E164 x1),
      (0 : Int) ≤ (p1.length : Int),
      (List.map E164 b)[(p1.length : Int).toNat]? = some (E164 x2),
      Fn Try.prog 216 [(false, E164 x1), (false, E164 x2)] (E4 r1) [],
      (true || ((E4 r1).nv && nvL [])) = true,
      (!r1) = false,
      V.sc (.int .i64 (i64 ((p1.length : Int) + 1))) = V.sc (.int .i64 ((p1 ++ [x1]).length : Int))]) (by kernel_rfl) (cj (len_nm _ _) (cj (rng_lt h2) (cj (by omega) (cj (rng_get _ h2) (cj (by omega) (cj (map_get h4) (cj (laws_eqSlot_ok x1 x2 r1 h5) (cj rfl (cj (nf h6) (cj1 (rng_next h2 h3))))))))))) (laws_eqSlotS_l0_ok a b h3 t1 (p1 ++ [x1]) (rng_step h2))) (fun h6 =>
     Pn.some (LpO.out [.wait 3, .nm 13 (V.sc (.int .i64 (a.length : Int))), .bit true, .draw [], .el (E164 x1), .el (E164 x2), .call [] (E4 r1) [], .bit true, .wait 1, .mask [4], .ren []] (p := [V.sc (.int .i64 ((List.map E164 a).length : Int)) = V.sc (.int .i64 (a.length : Int)),
      (decide ((p1.length : Int) < (a.length : Int))) = true,
      (0 : Int) ≤ (p1.length : Int),
      (List.map E164 a)[(p1.length : Int).toNat]? = some (E164 x1),
      (0 : Int) ≤ (p1.length : Int),
      (List.map E164 b)[(p1.length : Int).toNat]? = some (E164 x2),
      Fn Try.prog 216 [(false, E164 x1), (false, E164 x2)] (E4 r1) [],
      (true || ((E4 r1).nv && nvL [])) = true,
      (!r1) = true]) (by kernel_rfl) (show X.ret ≠ X.go from nofun) (cj (len_nm _ _) (cj (rng_lt h2) (cj (by omega) (cj (rng_get _ h2) (cj (by omega) (cj (map_get h4) (cj (laws_eqSlot_ok x1 x2 r1 h5) (cj rfl (cj1 (nt h6))))))))))))))
def laws_eqSlotS (a : List Slot) (b : List Slot) : Option (Bool) :=
 if ((a.length : Int) != (b.length : Int)) = true then
 some false
 else
 if (capOk a.length) = true then
 (laws_eqSlotS_l0 a b a []).bind fun r2 =>
 Lo.elim r2 (fun s1 =>
 some true) (fun s2 =>
 some false)
 else none
theorem laws_eqSlotS_ok (a : List Slot) (b : List Slot) : Pn (fun y => Fn Try.prog 197 [(false, E27 a), (false, E27 b)] (E4 y) []) (laws_eqSlotS a b) := by
  unfold laws_eqSlotS
  exact
   Pn.ite (fun h1 =>
   Pn.some (Fn.of [.wait 3, .nm 7 (V.sc (.int .i64 (a.length : Int))), .wait 2, .nm 9 (V.sc (.int .i64 (b.length : Int))), .bit true] (p := [V.sc (.int .i64 ((List.map E164 a).length : Int)) = V.sc (.int .i64 (a.length : Int)),
    V.sc (.int .i64 ((List.map E164 b).length : Int)) = V.sc (.int .i64 (b.length : Int)),
    ((a.length : Int) != (b.length : Int)) = true]) (by kernel_rfl) (cj (len_nm _ _) (cj (len_nm _ _) (cj1 h1))))) (fun h1 =>
   Pn.ite (fun h7 =>
   Pn.bind (fun r2 h8 =>
   Pn.lo (fun s1 h9 =>
   Pn.some (Fn.of [.wait 3, .nm 7 (V.sc (.int .i64 (a.length : Int))), .wait 2, .nm 9 (V.sc (.int .i64 (b.length : Int))), .bit false, .wait 1, .mask [0, 1, 5], .ren [], .loop (X.out 0) (st 27 [] [] [])] (p := [V.sc (.int .i64 ((List.map E164 a).length : Int)) = V.sc (.int .i64 (a.length : Int)),
    V.sc (.int .i64 ((List.map E164 b).length : Int)) = V.sc (.int .i64 (b.length : Int)),
    ((a.length : Int) != (b.length : Int)) = false,
    Loop Try.prog (sub (codeOf Try.prog 197) [1, 1, 0, 1, 0, 0]) (st 27 [(0, V.sl false 164 (List.map E164 a)), (1, V.sl false 164 (List.map E164 b)), (5, V.sc (.int .i64 0))] [] []) (X.out 0) (st 27 [] [] [])]) (by kernel_rfl) (cj (len_nm _ _) (cj (len_nm _ _) (cj h1 (cj1 ((laws_eqSlotS_l0_ok a b h7 a [] rfl r2 h8).at h9))))))) (fun s2 h10 =>
   Pn.some (Fn.of [.wait 3, .nm 7 (V.sc (.int .i64 (a.length : Int))), .wait 2, .nm 9 (V.sc (.int .i64 (b.length : Int))), .bit false, .wait 1, .mask [0, 1, 5], .ren [], .loop (X.ret) (st 27 [(4, V.sc (.bool false))] [] [])] (p := [V.sc (.int .i64 ((List.map E164 a).length : Int)) = V.sc (.int .i64 (a.length : Int)),
    V.sc (.int .i64 ((List.map E164 b).length : Int)) = V.sc (.int .i64 (b.length : Int)),
    ((a.length : Int) != (b.length : Int)) = false,
    Loop Try.prog (sub (codeOf Try.prog 197) [1, 1, 0, 1, 0, 0]) (st 27 [(0, V.sl false 164 (List.map E164 a)), (1, V.sl false 164 (List.map E164 b)), (5, V.sc (.int .i64 0))] [] []) (X.ret) (st 27 [(4, V.sc (.bool false))] [] [])]) (by kernel_rfl) (cj (len_nm _ _) (cj (len_nm _ _) (cj h1 (cj1 ((laws_eqSlotS_l0_ok a b h7 a [] rfl r2 h8).at h10))))))))) (fun h7 =>
   Pn.none))
def laws_eqAcct (a : Acct) (b : Acct) : Option (Bool) :=
 if (a.Id == b.Id) = true then
 if (a.Limit != b.Limit) = true then
 some false
 else
 if (a.Posted != b.Posted) = true then
 some false
 else
 if (a.Most != b.Most) = true then
 some false
 else
 if (a.MostSum != b.MostSum) = true then
 some false
 else
 (laws_eqHoldS a.Holds b.Holds).bind fun r1 =>
 if r1 = true then
 (laws_eqRing a.Ring b.Ring).bind fun r2 =>
 if r2 = true then
 (laws_eqSlotS a.Slots b.Slots).bind fun r3 =>
 if r3 = true then
 some true
 else
 some false
 else
 some false
 else
 some false
 else
 some false
theorem laws_eqAcct_ok (a : Acct) (b : Acct) : Pn (fun y => Fn Try.prog 152 [(false, E29 a), (false, E29 b)] (E4 y) []) (laws_eqAcct a b) := by
  unfold laws_eqAcct
  exact
   Pn.ite (fun h1 =>
   Pn.ite (fun h2 =>
   Pn.some (Fn.of [.bit false, .bit true] (p := [(!(a.Id == b.Id)) = false,
    (a.Limit != b.Limit) = true]) (by kernel_rfl) (cj (nf h1) (cj1 h2)))) (fun h2 =>
   Pn.ite (fun h3 =>
   Pn.some (Fn.of [.bit false, .bit false, .bit true] (p := [(!(a.Id == b.Id)) = false,
    (a.Limit != b.Limit) = false,
    (a.Posted != b.Posted) = true]) (by kernel_rfl) (cj (nf h1) (cj h2 (cj1 h3))))) (fun h3 =>
   Pn.ite (fun h4 =>
   Pn.some (Fn.of [.bit false, .bit false, .bit false, .bit true] (p := [(!(a.Id == b.Id)) = false,
    (a.Limit != b.Limit) = false,
    (a.Posted != b.Posted) = false,
    (a.Most != b.Most) = true]) (by kernel_rfl) (cj (nf h1) (cj h2 (cj h3 (cj1 h4)))))) (fun h4 =>
   Pn.ite (fun h5 =>
   Pn.some (Fn.of [.bit false, .bit false, .bit false, .bit false, .bit true] (p := [(!(a.Id == b.Id)) = false,
    (a.Limit != b.Limit) = false,
    (a.Posted != b.Posted) = false,
    (a.Most != b.Most) = false,
    (a.MostSum != b.MostSum) = true]) (by kernel_rfl) (cj (nf h1) (cj h2 (cj h3 (cj h4 (cj1 h5))))))) (fun h5 =>
   Pn.bind (fun r1 h6 =>
   Pn.ite (fun h7 =>
   Pn.bind (fun r2 h8 =>
   Pn.ite (fun h9 =>
   Pn.bind (fun r3 h10 =>
   Pn.ite (fun h11 =>
   Pn.some (Fn.of [.bit false, .bit false, .bit false, .bit false, .bit false, .call [] (E4 r1) [], .bit false, .call [] (E4 r2) [], .bit false, .call [] (E4 r3) [], .bit false] (p := [(!(a.Id == b.Id)) = false,
    (a.Limit != b.Limit) = false,
    (a.Posted != b.Posted) = false,
    (a.Most != b.Most) = false,
    (a.MostSum != b.MostSum) = false,
    Fn Try.prog 195 [(false, E23 a.Holds), (false, E23 b.Holds)] (E4 r1) [],
    (true || ((E4 r1).nv && nvL [])) = true,
    (!r1) = false,
    Fn Try.prog 196 [(false, E26 a.Ring), (false, E26 b.Ring)] (E4 r2) [],
    (true || ((E4 r2).nv && nvL [])) = true,
    (!r2) = false,
    Fn Try.prog 197 [(false, E27 a.Slots), (false, E27 b.Slots)] (E4 r3) [],
    (true || ((E4 r3).nv && nvL [])) = true,
    (!r3) = false]) (by kernel_rfl) (cj (nf h1) (cj h2 (cj h3 (cj h4 (cj h5 (cj (laws_eqHoldS_ok a.Holds b.Holds r1 h6) (cj rfl (cj (nf h7) (cj (laws_eqRing_ok a.Ring b.Ring r2 h8) (cj rfl (cj (nf h9) (cj (laws_eqSlotS_ok a.Slots b.Slots r3 h10) (cj rfl (cj1 (nf h11))))))))))))))))) (fun h11 =>
   Pn.some (Fn.of [.bit false, .bit false, .bit false, .bit false, .bit false, .call [] (E4 r1) [], .bit false, .call [] (E4 r2) [], .bit false, .call [] (E4 r3) [], .bit true] (p := [(!(a.Id == b.Id)) = false,
    (a.Limit != b.Limit) = false,
    (a.Posted != b.Posted) = false,
    (a.Most != b.Most) = false,
    (a.MostSum != b.MostSum) = false,
    Fn Try.prog 195 [(false, E23 a.Holds), (false, E23 b.Holds)] (E4 r1) [],
    (true || ((E4 r1).nv && nvL [])) = true,
    (!r1) = false,
    Fn Try.prog 196 [(false, E26 a.Ring), (false, E26 b.Ring)] (E4 r2) [],
    (true || ((E4 r2).nv && nvL [])) = true,
    (!r2) = false,
    Fn Try.prog 197 [(false, E27 a.Slots), (false, E27 b.Slots)] (E4 r3) [],
    (true || ((E4 r3).nv && nvL [])) = true,
    (!r3) = true]) (by kernel_rfl) (cj (nf h1) (cj h2 (cj h3 (cj h4 (cj h5 (cj (laws_eqHoldS_ok a.Holds b.Holds r1 h6) (cj rfl (cj (nf h7) (cj (laws_eqRing_ok a.Ring b.Ring r2 h8) (cj rfl (cj (nf h9) (cj (laws_eqSlotS_ok a.Slots b.Slots r3 h10) (cj rfl (cj1 (nt h11))))))))))))))))))) (fun h9 =>
   Pn.some (Fn.of [.bit false, .bit false, .bit false, .bit false, .bit false, .call [] (E4 r1) [], .bit false, .call [] (E4 r2) [], .bit true] (p := [(!(a.Id == b.Id)) = false,
    (a.Limit != b.Limit) = false,
    (a.Posted != b.Posted) = false,
    (a.Most != b.Most) = false,
    (a.MostSum != b.MostSum) = false,
    Fn Try.prog 195 [(false, E23 a.Holds), (false, E23 b.Holds)] (E4 r1) [],
    (true || ((E4 r1).nv && nvL [])) = true,
    (!r1) = false,
    Fn Try.prog 196 [(false, E26 a.Ring), (false, E26 b.Ring)] (E4 r2) [],
    (true || ((E4 r2).nv && nvL [])) = true,
    (!r2) = true]) (by kernel_rfl) (cj (nf h1) (cj h2 (cj h3 (cj h4 (cj h5 (cj (laws_eqHoldS_ok a.Holds b.Holds r1 h6) (cj rfl (cj (nf h7) (cj (laws_eqRing_ok a.Ring b.Ring r2 h8) (cj rfl (cj1 (nt h9)))))))))))))))) (fun h7 =>
   Pn.some (Fn.of [.bit false, .bit false, .bit false, .bit false, .bit false, .call [] (E4 r1) [], .bit true] (p := [(!(a.Id == b.Id)) = false,
    (a.Limit != b.Limit) = false,
    (a.Posted != b.Posted) = false,
    (a.Most != b.Most) = false,
    (a.MostSum != b.MostSum) = false,
    Fn Try.prog 195 [(false, E23 a.Holds), (false, E23 b.Holds)] (E4 r1) [],
    (true || ((E4 r1).nv && nvL [])) = true,
    (!r1) = true]) (by kernel_rfl) (cj (nf h1) (cj h2 (cj h3 (cj h4 (cj h5 (cj (laws_eqHoldS_ok a.Holds b.Holds r1 h6) (cj rfl (cj1 (nt h7))))))))))))))))) (fun h1 =>
   Pn.some (Fn.of [.bit true] (p := [(!(a.Id == b.Id)) = true]) (by kernel_rfl) (cj1 (nt h1))))
def laws_eqAcctS_l0 (a : List Acct) (b : List Acct) : List Acct → List Acct → Option (Lo Unit Unit)
  | [], p1 =>
   some (.out ())
  | x1 :: t1, p1 =>
   (b[(p1.length : Int).toNat]?).bind fun x2 =>
   (laws_eqAcct x1 x2).bind fun r1 =>
   if r1 = true then
   laws_eqAcctS_l0 a b t1 (p1 ++ [x1])
   else
   some (.ret ())
theorem laws_eqAcctS_l0_ok (a : List Acct) (b : List Acct) (h3 : capOk a.length = true) : ∀ (t1 p1 : List Acct) (_ : a = p1 ++ t1) , Pn (LpO Try.prog (sub (codeOf Try.prog 93) [1, 1, 0, 1, 0, 0]) (st 27 [(0, V.sl false 29 (List.map E29 a)), (1, V.sl false 29 (List.map E29 b)), (5, V.sc (.int .i64 (p1.length : Int)))] [] []) (fun (y : Lo Unit Unit) => Lo.elim y (fun s => (X.out 0, st 27 [] [] [])) (fun s => (X.ret, st 27 [(4, V.sc (.bool false))] [] [])))) (laws_eqAcctS_l0 a b t1 p1)
  | [], p1, h2 => by
    unfold laws_eqAcctS_l0
    exact
     Pn.some (LpO.out [.wait 3, .nm 13 (V.sc (.int .i64 (a.length : Int))), .bit false, .mask [], .ren []] (p := [V.sc (.int .i64 ((List.map E29 a).length : Int)) = V.sc (.int .i64 (a.length : Int)),
      (decide ((p1.length : Int) < (a.length : Int))) = false]) (by kernel_rfl) (show X.out 0 ≠ X.go from nofun) (cj (len_nm _ _) (cj1 (rng_end h2))))
  | x1 :: t1, p1, h2 => by
    unfold laws_eqAcctS_l0
    exact
     Pn.bind (fun x2 h4 =>
     Pn.bind (fun r1 h5 =>
     Pn.ite (fun h6 =>
     LpO.go [.wait 3, .nm 13 (V.sc (.int .i64 (a.length : Int))), .bit true, .draw [], .el (E29 x1), .el (E29 x2), .call [] (E4 r1) [], .bit false, .wait 3, .mask [0, 1, 5], .ren [], .nm 5 (V.sc (.int .i64 ((p1 ++ [x1]).length : Int)))] (p := [V.sc (.int .i64 ((List.map E29 a).length : Int)) = V.sc (.int .i64 (a.length : Int)),
      (decide ((p1.length : Int) < (a.length : Int))) = true,
      (0 : Int) ≤ (p1.length : Int),
      (List.map E29 a)[(p1.length : Int).toNat]? = some (E29 x1),
      (0 : Int) ≤ (p1.length : Int),
      (List.map E29 b)[(p1.length : Int).toNat]? = some (E29 x2),
      Fn Try.prog 152 [(false, E29 x1), (false, E29 x2)] (E4 r1) [],
      (true || ((E4 r1).nv && nvL [])) = true,
      (!r1) = false,
      V.sc (.int .i64 (i64 ((p1.length : Int) + 1))) = V.sc (.int .i64 ((p1 ++ [x1]).length : Int))]) (by kernel_rfl) (cj (len_nm _ _) (cj (rng_lt h2) (cj (by omega) (cj (rng_get _ h2) (cj (by omega) (cj (map_get h4) (cj (laws_eqAcct_ok x1 x2 r1 h5) (cj rfl (cj (nf h6) (cj1 (rng_next h2 h3))))))))))) (laws_eqAcctS_l0_ok a b h3 t1 (p1 ++ [x1]) (rng_step h2))) (fun h6 =>
     Pn.some (LpO.out [.wait 3, .nm 13 (V.sc (.int .i64 (a.length : Int))), .bit true, .draw [], .el (E29 x1), .el (E29 x2), .call [] (E4 r1) [], .bit true, .wait 1, .mask [4], .ren []] (p := [V.sc (.int .i64 ((List.map E29 a).length : Int)) = V.sc (.int .i64 (a.length : Int)),
      (decide ((p1.length : Int) < (a.length : Int))) = true,
      (0 : Int) ≤ (p1.length : Int),
      (List.map E29 a)[(p1.length : Int).toNat]? = some (E29 x1),
      (0 : Int) ≤ (p1.length : Int),
      (List.map E29 b)[(p1.length : Int).toNat]? = some (E29 x2),
      Fn Try.prog 152 [(false, E29 x1), (false, E29 x2)] (E4 r1) [],
      (true || ((E4 r1).nv && nvL [])) = true,
      (!r1) = true]) (by kernel_rfl) (show X.ret ≠ X.go from nofun) (cj (len_nm _ _) (cj (rng_lt h2) (cj (by omega) (cj (rng_get _ h2) (cj (by omega) (cj (map_get h4) (cj (laws_eqAcct_ok x1 x2 r1 h5) (cj rfl (cj1 (nt h6))))))))))))))
def laws_eqAcctS (a : List Acct) (b : List Acct) : Option (Bool) :=
 if ((a.length : Int) != (b.length : Int)) = true then
 some false
 else
 if (capOk a.length) = true then
 (laws_eqAcctS_l0 a b a []).bind fun r2 =>
 Lo.elim r2 (fun s1 =>
 some true) (fun s2 =>
 some false)
 else none
theorem laws_eqAcctS_ok (a : List Acct) (b : List Acct) : Pn (fun y => Fn Try.prog 93 [(false, E48 a), (false, E48 b)] (E4 y) []) (laws_eqAcctS a b) := by
  unfold laws_eqAcctS
  exact
   Pn.ite (fun h1 =>
   Pn.some (Fn.of [.wait 3, .nm 7 (V.sc (.int .i64 (a.length : Int))), .wait 2, .nm 9 (V.sc (.int .i64 (b.length : Int))), .bit true] (p := [V.sc (.int .i64 ((List.map E29 a).length : Int)) = V.sc (.int .i64 (a.length : Int)),
    V.sc (.int .i64 ((List.map E29 b).length : Int)) = V.sc (.int .i64 (b.length : Int)),
    ((a.length : Int) != (b.length : Int)) = true]) (by kernel_rfl) (cj (len_nm _ _) (cj (len_nm _ _) (cj1 h1))))) (fun h1 =>
   Pn.ite (fun h7 =>
   Pn.bind (fun r2 h8 =>
   Pn.lo (fun s1 h9 =>
   Pn.some (Fn.of [.wait 3, .nm 7 (V.sc (.int .i64 (a.length : Int))), .wait 2, .nm 9 (V.sc (.int .i64 (b.length : Int))), .bit false, .wait 1, .mask [0, 1, 5], .ren [], .loop (X.out 0) (st 27 [] [] [])] (p := [V.sc (.int .i64 ((List.map E29 a).length : Int)) = V.sc (.int .i64 (a.length : Int)),
    V.sc (.int .i64 ((List.map E29 b).length : Int)) = V.sc (.int .i64 (b.length : Int)),
    ((a.length : Int) != (b.length : Int)) = false,
    Loop Try.prog (sub (codeOf Try.prog 93) [1, 1, 0, 1, 0, 0]) (st 27 [(0, V.sl false 29 (List.map E29 a)), (1, V.sl false 29 (List.map E29 b)), (5, V.sc (.int .i64 0))] [] []) (X.out 0) (st 27 [] [] [])]) (by kernel_rfl) (cj (len_nm _ _) (cj (len_nm _ _) (cj h1 (cj1 ((laws_eqAcctS_l0_ok a b h7 a [] rfl r2 h8).at h9))))))) (fun s2 h10 =>
   Pn.some (Fn.of [.wait 3, .nm 7 (V.sc (.int .i64 (a.length : Int))), .wait 2, .nm 9 (V.sc (.int .i64 (b.length : Int))), .bit false, .wait 1, .mask [0, 1, 5], .ren [], .loop (X.ret) (st 27 [(4, V.sc (.bool false))] [] [])] (p := [V.sc (.int .i64 ((List.map E29 a).length : Int)) = V.sc (.int .i64 (a.length : Int)),
    V.sc (.int .i64 ((List.map E29 b).length : Int)) = V.sc (.int .i64 (b.length : Int)),
    ((a.length : Int) != (b.length : Int)) = false,
    Loop Try.prog (sub (codeOf Try.prog 93) [1, 1, 0, 1, 0, 0]) (st 27 [(0, V.sl false 29 (List.map E29 a)), (1, V.sl false 29 (List.map E29 b)), (5, V.sc (.int .i64 0))] [] []) (X.ret) (st 27 [(4, V.sc (.bool false))] [] [])]) (by kernel_rfl) (cj (len_nm _ _) (cj (len_nm _ _) (cj h1 (cj1 ((laws_eqAcctS_l0_ok a b h7 a [] rfl r2 h8).at h10))))))))) (fun h7 =>
   Pn.none))
def laws_eqBook (a : Book) (b : Book) : Option (Bool) :=
 (laws_eqAcctS a.Accts b.Accts).bind fun r1 =>
 if r1 = true then
 some true
 else
 some false
theorem laws_eqBook_ok (a : Book) (b : Book) : Pn (fun y => Fn Try.prog 33 [(false, E50 a), (false, E50 b)] (E4 y) []) (laws_eqBook a b) := by
  unfold laws_eqBook
  exact
   Pn.bind (fun r1 h1 =>
   Pn.ite (fun h2 =>
   Pn.some (Fn.of [.call [] (E4 r1) [], .bit false] (p := [Fn Try.prog 93 [(false, E48 a.Accts), (false, E48 b.Accts)] (E4 r1) [],
    (true || ((E4 r1).nv && nvL [])) = true,
    (!r1) = false]) (by kernel_rfl) (cj (laws_eqAcctS_ok a.Accts b.Accts r1 h1) (cj rfl (cj1 (nf h2)))))) (fun h2 =>
   Pn.some (Fn.of [.call [] (E4 r1) [], .bit true] (p := [Fn Try.prog 93 [(false, E48 a.Accts), (false, E48 b.Accts)] (E4 r1) [],
    (true || ((E4 r1).nv && nvL [])) = true,
    (!r1) = true]) (by kernel_rfl) (cj (laws_eqAcctS_ok a.Accts b.Accts r1 h1) (cj rfl (cj1 (nt h2)))))))
def laws_eqStripe (a : Stripe) (b : Stripe) : Option (Bool) :=
 if (a.Owner != b.Owner) = true then
 some false
 else
 (laws_eqAcctS a.Accts b.Accts).bind fun r1 =>
 if r1 = true then
 some true
 else
 some false
theorem laws_eqStripe_ok (a : Stripe) (b : Stripe) : Pn (fun y => Fn Try.prog 94 [(false, E58 a), (false, E58 b)] (E4 y) []) (laws_eqStripe a b) := by
  unfold laws_eqStripe
  exact
   Pn.ite (fun h1 =>
   Pn.some (Fn.of [.bit true] (p := [(a.Owner != b.Owner) = true]) (by kernel_rfl) (cj1 h1))) (fun h1 =>
   Pn.bind (fun r1 h2 =>
   Pn.ite (fun h3 =>
   Pn.some (Fn.of [.bit false, .call [] (E4 r1) [], .bit false] (p := [(a.Owner != b.Owner) = false,
    Fn Try.prog 93 [(false, E48 a.Accts), (false, E48 b.Accts)] (E4 r1) [],
    (true || ((E4 r1).nv && nvL [])) = true,
    (!r1) = false]) (by kernel_rfl) (cj h1 (cj (laws_eqAcctS_ok a.Accts b.Accts r1 h2) (cj rfl (cj1 (nf h3))))))) (fun h3 =>
   Pn.some (Fn.of [.bit false, .call [] (E4 r1) [], .bit true] (p := [(a.Owner != b.Owner) = false,
    Fn Try.prog 93 [(false, E48 a.Accts), (false, E48 b.Accts)] (E4 r1) [],
    (true || ((E4 r1).nv && nvL [])) = true,
    (!r1) = true]) (by kernel_rfl) (cj h1 (cj (laws_eqAcctS_ok a.Accts b.Accts r1 h2) (cj rfl (cj1 (nt h3)))))))))
def laws_eqStripeS_l0 (a : List Stripe) (b : List Stripe) : List Stripe → List Stripe → Option (Lo Unit Unit)
  | [], p1 =>
   some (.out ())
  | x1 :: t1, p1 =>
   (b[(p1.length : Int).toNat]?).bind fun x2 =>
   (laws_eqStripe x1 x2).bind fun r1 =>
   if r1 = true then
   laws_eqStripeS_l0 a b t1 (p1 ++ [x1])
   else
   some (.ret ())
theorem laws_eqStripeS_l0_ok (a : List Stripe) (b : List Stripe) (h3 : capOk a.length = true) : ∀ (t1 p1 : List Stripe) (_ : a = p1 ++ t1) , Pn (LpO Try.prog (sub (codeOf Try.prog 34) [1, 1, 0, 1, 0, 0]) (st 27 [(0, V.sl false 58 (List.map E58 a)), (1, V.sl false 58 (List.map E58 b)), (5, V.sc (.int .i64 (p1.length : Int)))] [] []) (fun (y : Lo Unit Unit) => Lo.elim y (fun s => (X.out 0, st 27 [] [] [])) (fun s => (X.ret, st 27 [(4, V.sc (.bool false))] [] [])))) (laws_eqStripeS_l0 a b t1 p1)
  | [], p1, h2 => by
    unfold laws_eqStripeS_l0
    exact
     Pn.some (LpO.out [.wait 3, .nm 13 (V.sc (.int .i64 (a.length : Int))), .bit false, .mask [], .ren []] (p := [V.sc (.int .i64 ((List.map E58 a).length : Int)) = V.sc (.int .i64 (a.length : Int)),
      (decide ((p1.length : Int) < (a.length : Int))) = false]) (by kernel_rfl) (show X.out 0 ≠ X.go from nofun) (cj (len_nm _ _) (cj1 (rng_end h2))))
  | x1 :: t1, p1, h2 => by
    unfold laws_eqStripeS_l0
    exact
     Pn.bind (fun x2 h4 =>
     Pn.bind (fun r1 h5 =>
     Pn.ite (fun h6 =>
     LpO.go [.wait 3, .nm 13 (V.sc (.int .i64 (a.length : Int))), .bit true, .draw [], .el (E58 x1), .el (E58 x2), .call [] (E4 r1) [], .bit false, .wait 3, .mask [0, 1, 5], .ren [], .nm 5 (V.sc (.int .i64 ((p1 ++ [x1]).length : Int)))] (p := [V.sc (.int .i64 ((List.map E58 a).length : Int)) = V.sc (.int .i64 (a.length : Int)),
      (decide ((p1.length : Int) < (a.length : Int))) = true,
      (0 : Int) ≤ (p1.length : Int),
      (List.map E58 a)[(p1.length : Int).toNat]? = some (E58 x1),
      (0 : Int) ≤ (p1.length : Int),
      (List.map E58 b)[(p1.length : Int).toNat]? = some (E58 x2),
      Fn Try.prog 94 [(false, E58 x1), (false, E58 x2)] (E4 r1) [],
      (true || ((E4 r1).nv && nvL [])) = true,
      (!r1) = false,
      V.sc (.int .i64 (i64 ((p1.length : Int) + 1))) = V.sc (.int .i64 ((p1 ++ [x1]).length : Int))]) (by kernel_rfl) (cj (len_nm _ _) (cj (rng_lt h2) (cj (by omega) (cj (rng_get _ h2) (cj (by omega) (cj (map_get h4) (cj (laws_eqStripe_ok x1 x2 r1 h5) (cj rfl (cj (nf h6) (cj1 (rng_next h2 h3))))))))))) (laws_eqStripeS_l0_ok a b h3 t1 (p1 ++ [x1]) (rng_step h2))) (fun h6 =>
     Pn.some (LpO.out [.wait 3, .nm 13 (V.sc (.int .i64 (a.length : Int))), .bit true, .draw [], .el (E58 x1), .el (E58 x2), .call [] (E4 r1) [], .bit true, .wait 1, .mask [4], .ren []] (p := [V.sc (.int .i64 ((List.map E58 a).length : Int)) = V.sc (.int .i64 (a.length : Int)),
      (decide ((p1.length : Int) < (a.length : Int))) = true,
      (0 : Int) ≤ (p1.length : Int),
      (List.map E58 a)[(p1.length : Int).toNat]? = some (E58 x1),
      (0 : Int) ≤ (p1.length : Int),
      (List.map E58 b)[(p1.length : Int).toNat]? = some (E58 x2),
      Fn Try.prog 94 [(false, E58 x1), (false, E58 x2)] (E4 r1) [],
      (true || ((E4 r1).nv && nvL [])) = true,
      (!r1) = true]) (by kernel_rfl) (show X.ret ≠ X.go from nofun) (cj (len_nm _ _) (cj (rng_lt h2) (cj (by omega) (cj (rng_get _ h2) (cj (by omega) (cj (map_get h4) (cj (laws_eqStripe_ok x1 x2 r1 h5) (cj rfl (cj1 (nt h6))))))))))))))
def laws_eqStripeS (a : List Stripe) (b : List Stripe) : Option (Bool) :=
 if ((a.length : Int) != (b.length : Int)) = true then
 some false
 else
 if (capOk a.length) = true then
 (laws_eqStripeS_l0 a b a []).bind fun r2 =>
 Lo.elim r2 (fun s1 =>
 some true) (fun s2 =>
 some false)
 else none
theorem laws_eqStripeS_ok (a : List Stripe) (b : List Stripe) : Pn (fun y => Fn Try.prog 34 [(false, E53 a), (false, E53 b)] (E4 y) []) (laws_eqStripeS a b) := by
  unfold laws_eqStripeS
  exact
   Pn.ite (fun h1 =>
   Pn.some (Fn.of [.wait 3, .nm 7 (V.sc (.int .i64 (a.length : Int))), .wait 2, .nm 9 (V.sc (.int .i64 (b.length : Int))), .bit true] (p := [V.sc (.int .i64 ((List.map E58 a).length : Int)) = V.sc (.int .i64 (a.length : Int)),
    V.sc (.int .i64 ((List.map E58 b).length : Int)) = V.sc (.int .i64 (b.length : Int)),
    ((a.length : Int) != (b.length : Int)) = true]) (by kernel_rfl) (cj (len_nm _ _) (cj (len_nm _ _) (cj1 h1))))) (fun h1 =>
   Pn.ite (fun h7 =>
   Pn.bind (fun r2 h8 =>
   Pn.lo (fun s1 h9 =>
   Pn.some (Fn.of [.wait 3, .nm 7 (V.sc (.int .i64 (a.length : Int))), .wait 2, .nm 9 (V.sc (.int .i64 (b.length : Int))), .bit false, .wait 1, .mask [0, 1, 5], .ren [], .loop (X.out 0) (st 27 [] [] [])] (p := [V.sc (.int .i64 ((List.map E58 a).length : Int)) = V.sc (.int .i64 (a.length : Int)),
    V.sc (.int .i64 ((List.map E58 b).length : Int)) = V.sc (.int .i64 (b.length : Int)),
    ((a.length : Int) != (b.length : Int)) = false,
    Loop Try.prog (sub (codeOf Try.prog 34) [1, 1, 0, 1, 0, 0]) (st 27 [(0, V.sl false 58 (List.map E58 a)), (1, V.sl false 58 (List.map E58 b)), (5, V.sc (.int .i64 0))] [] []) (X.out 0) (st 27 [] [] [])]) (by kernel_rfl) (cj (len_nm _ _) (cj (len_nm _ _) (cj h1 (cj1 ((laws_eqStripeS_l0_ok a b h7 a [] rfl r2 h8).at h9))))))) (fun s2 h10 =>
   Pn.some (Fn.of [.wait 3, .nm 7 (V.sc (.int .i64 (a.length : Int))), .wait 2, .nm 9 (V.sc (.int .i64 (b.length : Int))), .bit false, .wait 1, .mask [0, 1, 5], .ren [], .loop (X.ret) (st 27 [(4, V.sc (.bool false))] [] [])] (p := [V.sc (.int .i64 ((List.map E58 a).length : Int)) = V.sc (.int .i64 (a.length : Int)),
    V.sc (.int .i64 ((List.map E58 b).length : Int)) = V.sc (.int .i64 (b.length : Int)),
    ((a.length : Int) != (b.length : Int)) = false,
    Loop Try.prog (sub (codeOf Try.prog 34) [1, 1, 0, 1, 0, 0]) (st 27 [(0, V.sl false 58 (List.map E58 a)), (1, V.sl false 58 (List.map E58 b)), (5, V.sc (.int .i64 0))] [] []) (X.ret) (st 27 [(4, V.sc (.bool false))] [] [])]) (by kernel_rfl) (cj (len_nm _ _) (cj (len_nm _ _) (cj h1 (cj1 ((laws_eqStripeS_l0_ok a b h7 a [] rfl r2 h8).at h10))))))))) (fun h7 =>
   Pn.none))
def laws_markText_l0  : Nat → Int → ByteArray → Option (ByteArray)
  | 0, _, _ => none
  | fuel + 1, v1, v2 =>
   if (decide (0 < v1)) = true then
   if (decide ((bstr [u8 (i64 (48 + (Int.tmod v1 10)))]).size + v2.size ≤ 9223372036854775807)) = true then
   laws_markText_l0 fuel (i64 (Int.tdiv v1 10)) ((bstr [u8 (i64 (48 + (Int.tmod v1 10)))]) ++ v2)
   else none
   else
   some v2
theorem laws_markText_l0_ok  : ∀ (fuel : Nat) (v1 : Int) (v2 : ByteArray), Pn (LpO Try.prog (sub (codeOf Try.prog 153) [1, 1, 1, 0, 0, 0]) (st 20 [(0, V.sc (.int .i64 v1)), (3, V.sc (.string v2))] [] []) (fun (y : ByteArray) => (X.out 0, st 20 [(3, V.sc (.string y))] [] []))) (laws_markText_l0 fuel v1 v2)
  | 0, _, _ => Pn.none
  | fuel + 1, v1, v2 => by
    unfold laws_markText_l0
    exact
     Pn.ite (fun h2 =>
     Pn.ite (fun h3 =>
     LpO.go [.bit true, .ints [u8 (i64 (48 + (Int.tmod v1 10)))], .wait 7, .mask [0, 3], .ren []] (p := [(decide (0 < v1)) = true,
      (10 : Int) ≠ 0,
      [V.sc (.int .u8 (u8 (i64 (48 + (Int.tmod v1 10)))))] = [u8 (i64 (48 + (Int.tmod v1 10)))].map fun n => V.sc (.int .u8 n),
      (bstr [u8 (i64 (48 + (Int.tmod v1 10)))]).size + v2.size ≤ 9223372036854775807,
      (10 : Int) ≠ 0]) (by kernel_rfl) (cj h2 (cj (by decide) (cj rfl (cj (od h3) (cj1 (by decide)))))) (laws_markText_l0_ok fuel (i64 (Int.tdiv v1 10)) ((bstr [u8 (i64 (48 + (Int.tmod v1 10)))]) ++ v2))) (fun h3 =>
     Pn.none)) (fun h2 =>
     Pn.some (LpO.out [.bit false, .mask [3], .ren []] (p := [(decide (0 < v1)) = false]) (by kernel_rfl) (show X.out 0 ≠ X.go from nofun) (cj1 h2)))
def laws_markText (k : Int) : Option (ByteArray) :=
 if (decide (k ≤ 0)) = true then
 some (bs [109, 48])
 else
 (laws_markText_l0 FUEL k (bs [])).bind fun r1 =>
 if (decide ((bs [109]).size + r1.size ≤ 9223372036854775807)) = true then
 some ((bs [109]) ++ r1)
 else none
theorem laws_markText_ok (k : Int) : Pn (fun y => Fn Try.prog 153 [(false, E3 k)] (E9 y) []) (laws_markText k) := by
  unfold laws_markText
  exact
   Pn.ite (fun h1 =>
   Pn.some (Fn.of [.bit true] (p := [(decide (k ≤ 0)) = true]) (by kernel_rfl) (cj1 h1))) (fun h1 =>
   Pn.bind (fun r1 h4 =>
   Pn.ite (fun h5 =>
   Pn.some (Fn.of [.bit false, .wait 1, .mask [0, 3], .ren [], .loop (X.out 0) (st 20 [(3, V.sc (.string r1))] [] [])] (p := [(decide (k ≤ 0)) = false,
    Loop Try.prog (sub (codeOf Try.prog 153) [1, 1, 1, 0, 0, 0]) (st 20 [(0, V.sc (.int .i64 k)), (3, V.sc (.string (bs [])))] [] []) (X.out 0) (st 20 [(3, V.sc (.string r1))] [] []),
    (bs [109]).size + r1.size ≤ 9223372036854775807]) (by kernel_rfl) (cj h1 (cj (laws_markText_l0_ok FUEL k (bs []) r1 h4) (cj1 (od h5)))))) (fun h5 =>
   Pn.none)))
def laws_markHoldS_l0  : Nat → Int → Int → (List Hold) → Option (Int × (List Hold))
  | 0, _, _, _ => none
  | fuel + 1, v1, v2, v3 =>
   if (decide (v2 < (v3.length : Int))) = true then
   (laws_markText v1).bind fun r1 =>
   if (decide (0 ≤ v2)) = true then
   (v3[v2.toNat]?).bind fun x1 =>
   ((v3.set v2.toNat (Hold.mk r1 x1.Amount x1.Due))[v2.toNat]?).bind fun x2 =>
   (((v3.set v2.toNat (Hold.mk r1 x1.Amount x1.Due)).set v2.toNat (Hold.mk x2.Id (i64 (v1 + 1)) x2.Due))[v2.toNat]?).bind fun x3 =>
   laws_markHoldS_l0 fuel (i64 ((i64 ((i64 (v1 + 1)) + 1)) + 1)) (i64 (v2 + 1)) (((v3.set v2.toNat (Hold.mk r1 x1.Amount x1.Due)).set v2.toNat (Hold.mk x2.Id (i64 (v1 + 1)) x2.Due)).set v2.toNat (Hold.mk x3.Id x3.Amount (i64 ((i64 (v1 + 1)) + 1))))
   else none
   else
   some (v1, v3)
theorem laws_markHoldS_l0_ok  : ∀ (fuel : Nat) (v1 : Int) (v2 : Int) (v3 : List Hold), Pn (LpO Try.prog (sub (codeOf Try.prog 154) [1, 0, 1, 0, 0]) (st 35 [(0, V.ow 0), (1, V.sc (.int .i64 v1)), (5, V.sc (.int .i64 v2))] [Blk.row 36 (List.map E36 v3) []] [some 0]) (fun (y : Int × (List Hold)) => (X.out 0, st 35 [(1, V.sc (.int .i64 y.1))] [Blk.row 36 (List.map E36 y.2) []] [some 0]))) (laws_markHoldS_l0 fuel v1 v2 v3)
  | 0, _, _, _ => Pn.none
  | fuel + 1, v1, v2, v3 => by
    unfold laws_markHoldS_l0
    exact
     Pn.ite (fun h1 =>
     Pn.bind (fun r1 h2 =>
     Pn.ite (fun h3 =>
     Pn.bind (fun x1 h4 =>
     Pn.bind (fun x2 h5 =>
     Pn.bind (fun x3 h6 =>
     LpO.go [.wait 3, .nm 8 (V.sc (.int .i64 (v3.length : Int))), .bit true, .call [] (E9 r1) [], .el (E36 x1), .nb 0 (.row 36 (List.map E36 (v3.set v2.toNat (Hold.mk r1 x1.Amount x1.Due))) []), .el (E36 x2), .nb 0 (.row 36 (List.map E36 ((v3.set v2.toNat (Hold.mk r1 x1.Amount x1.Due)).set v2.toNat (Hold.mk x2.Id (i64 (v1 + 1)) x2.Due))) []), .el (E36 x3), .nb 0 (.row 36 (List.map E36 (((v3.set v2.toNat (Hold.mk r1 x1.Amount x1.Due)).set v2.toNat (Hold.mk x2.Id (i64 (v1 + 1)) x2.Due)).set v2.toNat (Hold.mk x3.Id x3.Amount (i64 ((i64 (v1 + 1)) + 1))))) []), .wait 7, .mask [0, 1, 5], .ren [0]] (p := [V.sc (.int .i64 ((List.map E36 v3).length : Int)) = V.sc (.int .i64 (v3.length : Int)),
      (decide (v2 < (v3.length : Int))) = true,
      Fn Try.prog 153 [(false, E3 v1)] (E9 r1) [],
      (true || ((E9 r1).nv && nvL [])) = true,
      (0 : Int) ≤ v2,
      (v2 : Int) < ((List.map E36 v3).length : Int),
      look [] v2.toNat = none,
      (List.map E36 v3)[v2.toNat]? = some (E36 x1),
      Blk.row 36 ((List.map E36 v3).set v2.toNat (V.agg [V.sc (.string r1), V.sc (.int .i64 x1.Amount), V.sc (.int .i64 x1.Due)])) [] = Blk.row 36 (List.map E36 (v3.set v2.toNat (Hold.mk r1 x1.Amount x1.Due))) [],
      (0 : Int) ≤ v2,
      (v2 : Int) < ((List.map E36 (v3.set v2.toNat (Hold.mk r1 x1.Amount x1.Due))).length : Int),
      look [] v2.toNat = none,
      (List.map E36 (v3.set v2.toNat (Hold.mk r1 x1.Amount x1.Due)))[v2.toNat]? = some (E36 x2),
      Blk.row 36 ((List.map E36 (v3.set v2.toNat (Hold.mk r1 x1.Amount x1.Due))).set v2.toNat (V.agg [V.sc (.string x2.Id), V.sc (.int .i64 (i64 (v1 + 1))), V.sc (.int .i64 x2.Due)])) [] = Blk.row 36 (List.map E36 ((v3.set v2.toNat (Hold.mk r1 x1.Amount x1.Due)).set v2.toNat (Hold.mk x2.Id (i64 (v1 + 1)) x2.Due))) [],
      (0 : Int) ≤ v2,
      (v2 : Int) < ((List.map E36 ((v3.set v2.toNat (Hold.mk r1 x1.Amount x1.Due)).set v2.toNat (Hold.mk x2.Id (i64 (v1 + 1)) x2.Due))).length : Int),
      look [] v2.toNat = none,
      (List.map E36 ((v3.set v2.toNat (Hold.mk r1 x1.Amount x1.Due)).set v2.toNat (Hold.mk x2.Id (i64 (v1 + 1)) x2.Due)))[v2.toNat]? = some (E36 x3),
      Blk.row 36 ((List.map E36 ((v3.set v2.toNat (Hold.mk r1 x1.Amount x1.Due)).set v2.toNat (Hold.mk x2.Id (i64 (v1 + 1)) x2.Due))).set v2.toNat (V.agg [V.sc (.string x3.Id), V.sc (.int .i64 x3.Amount), V.sc (.int .i64 (i64 ((i64 (v1 + 1)) + 1)))])) [] = Blk.row 36 (List.map E36 (((v3.set v2.toNat (Hold.mk r1 x1.Amount x1.Due)).set v2.toNat (Hold.mk x2.Id (i64 (v1 + 1)) x2.Due)).set v2.toNat (Hold.mk x3.Id x3.Amount (i64 ((i64 (v1 + 1)) + 1))))) []]) (by kernel_rfl) (cj (len_nm _ _) (cj h1 (cj (laws_markText_ok v1 r1 h2) (cj rfl (cj (od h3) (cj (map_ltN (od h3) h4) (cj rfl (cj (map_get h4) (cj (nb_set E36 _ _ (Hold.mk r1 x1.Amount x1.Due)) (cj (od h3) (cj (map_ltN (od h3) h5) (cj rfl (cj (map_get h5) (cj (nb_set E36 _ _ (Hold.mk x2.Id (i64 (v1 + 1)) x2.Due)) (cj (od h3) (cj (map_ltN (od h3) h6) (cj rfl (cj (map_get h6) (cj1 (nb_set E36 _ _ (Hold.mk x3.Id x3.Amount (i64 ((i64 (v1 + 1)) + 1))))))))))))))))))))))) (laws_markHoldS_l0_ok fuel (i64 ((i64 ((i64 (v1 + 1)) + 1)) + 1)) (i64 (v2 + 1)) (((v3.set v2.toNat (Hold.mk r1 x1.Amount x1.Due)).set v2.toNat (Hold.mk x2.Id (i64 (v1 + 1)) x2.Due)).set v2.toNat (Hold.mk x3.Id x3.Amount (i64 ((i64 (v1 + 1)) + 1))))))))) (fun h3 =>
     Pn.none))) (fun h1 =>
     Pn.some (LpO.out [.wait 3, .nm 8 (V.sc (.int .i64 (v3.length : Int))), .bit false, .mask [1], .ren [0]] (p := [V.sc (.int .i64 ((List.map E36 v3).length : Int)) = V.sc (.int .i64 (v3.length : Int)),
      (decide (v2 < (v3.length : Int))) = false]) (by kernel_rfl) (show X.out 0 ≠ X.go from nofun) (cj (len_nm _ _) (cj1 h1))))
def laws_markHoldS (a : List Hold) (k : Int) : Option (Int × (List Hold)) :=
 (laws_markHoldS_l0 FUEL k 0 a).bind fun r2 =>
 some (r2.1, r2.2)
theorem laws_markHoldS_ok (a : List Hold) (k : Int) : Pn (fun y => Fn Try.prog 154 [(true, E23 a), (false, E3 k)] (E3 y.1) [V.sl true 36 (List.map E36 y.2)]) (laws_markHoldS a k) := by
  unfold laws_markHoldS
  exact
   Pn.bind (fun r2 h7 =>
   Pn.some (Fn.of [.wait 3, .mask [0, 1, 5], .ren [0], .loop (X.out 0) (st 35 [(1, V.sc (.int .i64 r2.1))] [Blk.row 36 (List.map E36 r2.2) []] [some 0])] (p := [Loop Try.prog (sub (codeOf Try.prog 154) [1, 0, 1, 0, 0]) (st 35 [(0, V.ow 0), (1, V.sc (.int .i64 k)), (5, V.sc (.int .i64 0))] [Blk.row 36 (List.map E36 a) []] [some 0]) (X.out 0) (st 35 [(1, V.sc (.int .i64 r2.1))] [Blk.row 36 (List.map E36 r2.2) []] [some 0])]) (by kernel_rfl) (cj1 (laws_markHoldS_l0_ok FUEL k 0 a r2 h7))))
def laws_markIntS_l0  : Nat → Int → Int → (List Int) → Option (Int × (List Int))
  | 0, _, _, _ => none
  | fuel + 1, v1, v2, v3 =>
   if (decide (v2 < (v3.length : Int))) = true then
   if (decide (0 ≤ v2)) = true then
   (v3[v2.toNat]?).bind fun x1 =>
   laws_markIntS_l0 fuel (i64 (v1 + 1)) (i64 (v2 + 1)) (v3.set v2.toNat v1)
   else none
   else
   some (v1, v3)
theorem laws_markIntS_l0_ok  : ∀ (fuel : Nat) (v1 : Int) (v2 : Int) (v3 : List Int), Pn (LpO Try.prog (sub (codeOf Try.prog 42) [1, 0, 1, 0, 0]) (st 19 [(0, V.ow 0), (1, V.sc (.int .i64 v1)), (5, V.sc (.int .i64 v2))] [Blk.row 3 (List.map E3 v3) []] [some 0]) (fun (y : Int × (List Int)) => (X.out 0, st 19 [(1, V.sc (.int .i64 y.1))] [Blk.row 3 (List.map E3 y.2) []] [some 0]))) (laws_markIntS_l0 fuel v1 v2 v3)
  | 0, _, _, _ => Pn.none
  | fuel + 1, v1, v2, v3 => by
    unfold laws_markIntS_l0
    exact
     Pn.ite (fun h1 =>
     Pn.ite (fun h2 =>
     Pn.bind (fun x1 h3 =>
     LpO.go [.wait 3, .nm 8 (V.sc (.int .i64 (v3.length : Int))), .bit true, .el (E3 x1), .nb 0 (.row 3 (List.map E3 (v3.set v2.toNat v1)) []), .wait 7, .mask [0, 1, 5], .ren [0]] (p := [V.sc (.int .i64 ((List.map E3 v3).length : Int)) = V.sc (.int .i64 (v3.length : Int)),
      (decide (v2 < (v3.length : Int))) = true,
      (0 : Int) ≤ v2,
      (v2 : Int) < ((List.map E3 v3).length : Int),
      look [] v2.toNat = none,
      (List.map E3 v3)[v2.toNat]? = some (E3 x1),
      Blk.row 3 ((List.map E3 v3).set v2.toNat (V.sc (.int .i64 v1))) [] = Blk.row 3 (List.map E3 (v3.set v2.toNat v1)) []]) (by kernel_rfl) (cj (len_nm _ _) (cj h1 (cj (od h2) (cj (map_ltN (od h2) h3) (cj rfl (cj (map_get h3) (cj1 (nb_set E3 _ _ v1)))))))) (laws_markIntS_l0_ok fuel (i64 (v1 + 1)) (i64 (v2 + 1)) (v3.set v2.toNat v1)))) (fun h2 =>
     Pn.none)) (fun h1 =>
     Pn.some (LpO.out [.wait 3, .nm 8 (V.sc (.int .i64 (v3.length : Int))), .bit false, .mask [1], .ren [0]] (p := [V.sc (.int .i64 ((List.map E3 v3).length : Int)) = V.sc (.int .i64 (v3.length : Int)),
      (decide (v2 < (v3.length : Int))) = false]) (by kernel_rfl) (show X.out 0 ≠ X.go from nofun) (cj (len_nm _ _) (cj1 h1))))
def laws_markIntS (a : List Int) (k : Int) : Option (Int × (List Int)) :=
 (laws_markIntS_l0 FUEL k 0 a).bind fun r1 =>
 some (r1.1, r1.2)
theorem laws_markIntS_ok (a : List Int) (k : Int) : Pn (fun y => Fn Try.prog 42 [(true, E24 a), (false, E3 k)] (E3 y.1) [V.sl true 3 (List.map E3 y.2)]) (laws_markIntS a k) := by
  unfold laws_markIntS
  exact
   Pn.bind (fun r1 h4 =>
   Pn.some (Fn.of [.wait 3, .mask [0, 1, 5], .ren [0], .loop (X.out 0) (st 19 [(1, V.sc (.int .i64 r1.1))] [Blk.row 3 (List.map E3 r1.2) []] [some 0])] (p := [Loop Try.prog (sub (codeOf Try.prog 42) [1, 0, 1, 0, 0]) (st 19 [(0, V.ow 0), (1, V.sc (.int .i64 k)), (5, V.sc (.int .i64 0))] [Blk.row 3 (List.map E3 a) []] [some 0]) (X.out 0) (st 19 [(1, V.sc (.int .i64 r1.1))] [Blk.row 3 (List.map E3 r1.2) []] [some 0])]) (by kernel_rfl) (cj1 (laws_markIntS_l0_ok FUEL k 0 a r1 h4))))
def laws_markByteS_l0  : Nat → Int → Int → (List Int) → Option (Int × (List Int))
  | 0, _, _, _ => none
  | fuel + 1, v1, v2, v3 =>
   if (decide (v2 < (v3.length : Int))) = true then
   if (decide (0 ≤ v2)) = true then
   (v3[v2.toNat]?).bind fun x1 =>
   laws_markByteS_l0 fuel (i64 (v1 + 1)) (i64 (v2 + 1)) (v3.set v2.toNat (u8 v1))
   else none
   else
   some (v1, v3)
theorem laws_markByteS_l0_ok  : ∀ (fuel : Nat) (v1 : Int) (v2 : Int) (v3 : List Int), Pn (LpO Try.prog (sub (codeOf Try.prog 108) [1, 0, 1, 0, 0]) (st 20 [(0, V.ow 0), (1, V.sc (.int .i64 v1)), (5, V.sc (.int .i64 v2))] [Blk.row 5 (List.map E5 v3) []] [some 0]) (fun (y : Int × (List Int)) => (X.out 0, st 20 [(1, V.sc (.int .i64 y.1))] [Blk.row 5 (List.map E5 y.2) []] [some 0]))) (laws_markByteS_l0 fuel v1 v2 v3)
  | 0, _, _, _ => Pn.none
  | fuel + 1, v1, v2, v3 => by
    unfold laws_markByteS_l0
    exact
     Pn.ite (fun h1 =>
     Pn.ite (fun h2 =>
     Pn.bind (fun x1 h3 =>
     LpO.go [.wait 3, .nm 8 (V.sc (.int .i64 (v3.length : Int))), .bit true, .el (E5 x1), .nb 0 (.row 5 (List.map E5 (v3.set v2.toNat (u8 v1))) []), .wait 7, .mask [0, 1, 5], .ren [0]] (p := [V.sc (.int .i64 ((List.map E5 v3).length : Int)) = V.sc (.int .i64 (v3.length : Int)),
      (decide (v2 < (v3.length : Int))) = true,
      (0 : Int) ≤ v2,
      (v2 : Int) < ((List.map E5 v3).length : Int),
      look [] v2.toNat = none,
      (List.map E5 v3)[v2.toNat]? = some (E5 x1),
      Blk.row 5 ((List.map E5 v3).set v2.toNat (V.sc (.int .u8 (u8 v1)))) [] = Blk.row 5 (List.map E5 (v3.set v2.toNat (u8 v1))) []]) (by kernel_rfl) (cj (len_nm _ _) (cj h1 (cj (od h2) (cj (map_ltN (od h2) h3) (cj rfl (cj (map_get h3) (cj1 (nb_set E5 _ _ (u8 v1))))))))) (laws_markByteS_l0_ok fuel (i64 (v1 + 1)) (i64 (v2 + 1)) (v3.set v2.toNat (u8 v1))))) (fun h2 =>
     Pn.none)) (fun h1 =>
     Pn.some (LpO.out [.wait 3, .nm 8 (V.sc (.int .i64 (v3.length : Int))), .bit false, .mask [1], .ren [0]] (p := [V.sc (.int .i64 ((List.map E5 v3).length : Int)) = V.sc (.int .i64 (v3.length : Int)),
      (decide (v2 < (v3.length : Int))) = false]) (by kernel_rfl) (show X.out 0 ≠ X.go from nofun) (cj (len_nm _ _) (cj1 h1))))
def laws_markByteS (a : List Int) (k : Int) : Option (Int × (List Int)) :=
 (laws_markByteS_l0 FUEL k 0 a).bind fun r1 =>
 some (r1.1, r1.2)
theorem laws_markByteS_ok (a : List Int) (k : Int) : Pn (fun y => Fn Try.prog 108 [(true, E22 a), (false, E3 k)] (E3 y.1) [V.sl true 5 (List.map E5 y.2)]) (laws_markByteS a k) := by
  unfold laws_markByteS
  exact
   Pn.bind (fun r1 h4 =>
   Pn.some (Fn.of [.wait 3, .mask [0, 1, 5], .ren [0], .loop (X.out 0) (st 20 [(1, V.sc (.int .i64 r1.1))] [Blk.row 5 (List.map E5 r1.2) []] [some 0])] (p := [Loop Try.prog (sub (codeOf Try.prog 108) [1, 0, 1, 0, 0]) (st 20 [(0, V.ow 0), (1, V.sc (.int .i64 k)), (5, V.sc (.int .i64 0))] [Blk.row 5 (List.map E5 a) []] [some 0]) (X.out 0) (st 20 [(1, V.sc (.int .i64 r1.1))] [Blk.row 5 (List.map E5 r1.2) []] [some 0])]) (by kernel_rfl) (cj1 (laws_markByteS_l0_ok FUEL k 0 a r1 h4))))
end Go.Proofs.YtdcejeemommkfaaM
