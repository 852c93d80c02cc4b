/- Printed by gen.py: functions on plain data, and that the program computes them. No condition. -/
import Derived.Test.YtdcejeemommkfaaDoG0
namespace Go.Proofs.YtdcejeemommkfaaM
set_option linter.unusedVariables false
set_option linter.unusedSimpArgs false
open Go.RowKit
set_option maxRecDepth 100000

def slices_symMergeCmpFunc_int_impl_OrderOf_1_s2 (r3 : Int) (v3 : Int) (x3 : Int) (x4 : Int) (v4 : List Int) : St := st 220 [(0, V.ow 0), (10, V.sc (.int .i64 r3)), (13, V.sc (.int .i64 v3)), (61, V.ow 0), (62, V.sc (.int .i64 v3)), (63, V.ow 0), (64, V.sc (.int .i64 v3)), (65, V.sc (.int .i64 (i64 (v3 + 1)))), (66, V.ow 0), (67, V.sc (.int .i64 v3)), (68, V.sc (.int .i64 (i64 (v3 + 1)))), (69, V.ep 0 1 ((i64 (v3 + 1)).toNat) 0), (70, V.sc (.int .i64 x3)), (71, V.ow 0), (72, V.sc (.int .i64 v3)), (73, V.ep 0 1 v3.toNat 0), (74, V.sc (.int .i64 x4)), (75, V.ep 0 1 v3.toNat 0), (76, V.ep 0 1 ((i64 (v3 + 1)).toNat) 0)] [Blk.row 3 (List.map E3 ((v4.set v3.toNat x3).set ((i64 (v3 + 1)).toNat) x4)) []] [some 0]
def slices_symMergeCmpFunc_int_impl_OrderOf_1_s4 (r9 : Int) (v7 : Int) (x8 : Int) (x9 : Int) (v8 : List Int) : St := st 220 [(0, V.ow 0), (14, V.sc (.int .i64 r9)), (17, V.sc (.int .i64 v7)), (113, V.ow 0), (114, V.sc (.int .i64 v7)), (115, V.ow 0), (116, V.sc (.int .i64 v7)), (117, V.sc (.int .i64 (i64 (v7 - 1)))), (118, V.ow 0), (119, V.sc (.int .i64 v7)), (120, V.sc (.int .i64 (i64 (v7 - 1)))), (121, V.ep 0 1 ((i64 (v7 - 1)).toNat) 0), (122, V.sc (.int .i64 x8)), (123, V.ow 0), (124, V.sc (.int .i64 v7)), (125, V.ep 0 1 v7.toNat 0), (126, V.sc (.int .i64 x9)), (127, V.ep 0 1 v7.toNat 0), (128, V.ep 0 1 ((i64 (v7 - 1)).toNat) 0)] [Blk.row 3 (List.map E3 ((v8.set v7.toNat x8).set ((i64 (v7 - 1)).toNat) x9)) []] [some 0]
def slices_symMergeCmpFunc_int_impl_OrderOf_1_c2 (o : List Int) (o_ : Int) (a40_0 : List Stripe) (a40_1 : Int) (a40_2 : Int) (a40_3 : List Task) (v1 : Int) (v2 : Int) : Option (Lo Unit Unit) :=
 if (decide (v1 < v2)) = true then
  some (.out ())
 else
  some (.ret ())
theorem slices_symMergeCmpFunc_int_impl_OrderOf_1_c2_ok (o : List Int) (o_ : Int) (a40_0 : List Stripe) (a40_1 : Int) (a40_2 : Int) (a40_3 : List Task) (v1 : Int) (v2 : Int) : Pn (JnO Try.prog (sub (codeOf Try.prog 218) [0, 1, 0, 1, 1, 0, 0, 0, 0]) (st 220 [(0, V.ow 0), (1, V.sc (.int .i64 o_)), (4, V.fn 163 [V.cp [V.sl true 58 (List.map E58 a40_0), V.sc (.int .i64 a40_1), V.sc (.int .i64 a40_2), V.sl true 137 (List.map E137 a40_3)]]), (10, V.sc (.int .i64 v1)), (11, V.sc (.int .i64 v2))] [Blk.row 3 (List.map E3 o) []] [some 0]) (fun (y : Lo Unit Unit) => Lo.elim y (fun s => (X.go, st 220 [(0, V.ow 0), (1, V.sc (.int .i64 o_)), (4, V.fn 163 [V.cp [V.sl true 58 (List.map E58 a40_0), V.sc (.int .i64 a40_1), V.sc (.int .i64 a40_2), V.sl true 137 (List.map E137 a40_3)]]), (10, V.sc (.int .i64 v1)), (11, V.sc (.int .i64 v2))] [Blk.row 3 (List.map E3 o) []] [some 0])) (fun s => (X.out 0, st 220 [(0, V.ow 0), (1, V.sc (.int .i64 o_)), (10, V.sc (.int .i64 v1))] [Blk.row 3 (List.map E3 o) []] [some 0])))) (slices_symMergeCmpFunc_int_impl_OrderOf_1_c2 o o_ a40_0 a40_1 a40_2 a40_3 v1 v2) := by
  unfold slices_symMergeCmpFunc_int_impl_OrderOf_1_c2
  exact
   Pn.ite (fun h2 =>
    Pn.some (JnO.of [.bit true, .mask [0, 1, 4, 10, 11], .ren [0]] (p := [(decide (v1 < v2)) = true]) (by kernel_rfl) (cj1 h2))) (fun h2 =>
    Pn.some (JnO.of [.bit false, .mask [0, 1, 10], .ren [0]] (p := [(decide (v1 < v2)) = false]) (by kernel_rfl) (cj1 h2)))
def slices_symMergeCmpFunc_int_impl_OrderOf_1_l0 (o : List Int) (o_ : Int) (a40_0 : List Stripe) (a40_1 : Int) (a40_2 : Int) (a40_3 : List Task) : Nat → Int → Int → Option (Int)
  | 0, _, _ => none
  | fuel + 1, v1, v2 =>
   (slices_symMergeCmpFunc_int_impl_OrderOf_1_c2 o o_ a40_0 a40_1 a40_2 a40_3 v1 v2).bind fun r1 =>
   Lo.elim r1 (fun s1 =>
    if (decide (0 ≤ (i64 (bshr .u64 (u64 (i64 (v1 + v2))) 1)))) = true then
     (o[(i64 (bshr .u64 (u64 (i64 (v1 + v2))) 1)).toNat]?).bind fun x1 =>
     if (decide (0 ≤ o_)) = true then
      (o[o_.toNat]?).bind fun x2 =>
      (impl_OrderOf_1 x1 x2 a40_0 a40_1 a40_2 a40_3).bind fun r2 =>
      if (decide (r2 < 0)) = true then
       slices_symMergeCmpFunc_int_impl_OrderOf_1_l0 o o_ a40_0 a40_1 a40_2 a40_3 fuel (i64 ((i64 (bshr .u64 (u64 (i64 (v1 + v2))) 1)) + 1)) v2
      else
       slices_symMergeCmpFunc_int_impl_OrderOf_1_l0 o o_ a40_0 a40_1 a40_2 a40_3 fuel v1 (i64 (bshr .u64 (u64 (i64 (v1 + v2))) 1))
     else none
    else none) (fun s2 =>
    some v1)
theorem slices_symMergeCmpFunc_int_impl_OrderOf_1_l0_ok (o : List Int) (o_ : Int) (a40_0 : List Stripe) (a40_1 : Int) (a40_2 : Int) (a40_3 : List Task) : ∀ (fuel : Nat) (v1 : Int) (v2 : Int), Pn (LpO Try.prog (sub (codeOf Try.prog 218) [0, 1, 0, 1, 1, 0, 0, 0]) (st 220 [(0, V.ow 0), (1, V.sc (.int .i64 o_)), (4, V.fn 163 [V.cp [V.sl true 58 (List.map E58 a40_0), V.sc (.int .i64 a40_1), V.sc (.int .i64 a40_2), V.sl true 137 (List.map E137 a40_3)]]), (10, V.sc (.int .i64 v1)), (11, V.sc (.int .i64 v2))] [Blk.row 3 (List.map E3 o) []] [some 0]) (fun (y : Int) => (X.out 0, st 220 [(0, V.ow 0), (1, V.sc (.int .i64 o_)), (10, V.sc (.int .i64 y))] [Blk.row 3 (List.map E3 o) []] [some 0]))) (slices_symMergeCmpFunc_int_impl_OrderOf_1_l0 o o_ a40_0 a40_1 a40_2 a40_3 fuel v1 v2)
  | 0, _, _ => Pn.none
  | fuel + 1, v1, v2 => by
    unfold slices_symMergeCmpFunc_int_impl_OrderOf_1_l0
    exact
     Pn.bind (fun r1 h3 =>
      Pn.lo (fun s1 h4 =>
       Pn.ite (fun h6 =>
        Pn.bind (fun x1 h7 =>
         Pn.ite (fun h8 =>
          Pn.bind (fun x2 h9 =>
           Pn.bind (fun r2 h10 =>
            Pn.ite (fun h11 =>
             LpO.go [.wait 1, .mask [0, 1, 4, 10, 11], .ren [0], .join 5 (X.go) (st 220 [(0, V.ow 0), (1, V.sc (.int .i64 o_)), (4, V.fn 163 [V.cp [V.sl true 58 (List.map E58 a40_0), V.sc (.int .i64 a40_1), V.sc (.int .i64 a40_2), V.sl true 137 (List.map E137 a40_3)]]), (10, V.sc (.int .i64 v1)), (11, V.sc (.int .i64 v2))] [Blk.row 3 (List.map E3 o) []] [some 0]), .draw [], .el (E3 x1), .el (E3 x2), .call [] (E3 r2) [], .bit true, .wait 3, .mask [0, 1, 4, 10, 11], .ren [0]] (p := [HT Try.prog (sub (codeOf Try.prog 218) [0, 1, 0, 1, 1, 0, 0, 0, 0]) (st 220 [(0, V.ow 0), (1, V.sc (.int .i64 o_)), (4, V.fn 163 [V.cp [V.sl true 58 (List.map E58 a40_0), V.sc (.int .i64 a40_1), V.sc (.int .i64 a40_2), V.sl true 137 (List.map E137 a40_3)]]), (10, V.sc (.int .i64 v1)), (11, V.sc (.int .i64 v2))] [Blk.row 3 (List.map E3 o) []] [some 0]) (X.go) (st 220 [(0, V.ow 0), (1, V.sc (.int .i64 o_)), (4, V.fn 163 [V.cp [V.sl true 58 (List.map E58 a40_0), V.sc (.int .i64 a40_1), V.sc (.int .i64 a40_2), V.sl true 137 (List.map E137 a40_3)]]), (10, V.sc (.int .i64 v1)), (11, V.sc (.int .i64 v2))] [Blk.row 3 (List.map E3 o) []] [some 0]),
              ¬ (1 : Int) < 0,
              (0 : Int) ≤ (i64 (bshr .u64 (u64 (i64 (v1 + v2))) 1)),
              ((i64 (bshr .u64 (u64 (i64 (v1 + v2))) 1)) : Int) < ((List.map E3 o).length : Int),
              look [] ((i64 (bshr .u64 (u64 (i64 (v1 + v2))) 1)).toNat) = none,
              (List.map E3 o)[(i64 (bshr .u64 (u64 (i64 (v1 + v2))) 1)).toNat]? = some (E3 x1),
              (0 : Int) ≤ o_,
              (o_ : Int) < ((List.map E3 o).length : Int),
              look [] o_.toNat = none,
              (List.map E3 o)[o_.toNat]? = some (E3 x2),
              Fn Try.prog 163 [(false, E3 x1), (false, E3 x2), (false, V.cp [V.sl true 58 (List.map E58 a40_0), V.sc (.int .i64 a40_1), V.sc (.int .i64 a40_2), V.sl true 137 (List.map E137 a40_3)])] (E3 r2) [],
              (true || ((E3 r2).nv && nvL [])) = true,
              (decide (r2 < 0)) = true]) (by kernel_rfl) (cj ((slices_symMergeCmpFunc_int_impl_OrderOf_1_c2_ok o o_ a40_0 a40_1 a40_2 a40_3 v1 v2 r1 h3).at h4) (cj (by decide) (cj (od h6) (cj (map_ltN (od h6) h7) (cj rfl (cj (map_get h7) (cj (od h8) (cj (map_ltN (od h8) h9) (cj rfl (cj (map_get h9) (cj (impl_OrderOf_1_ok x1 x2 a40_0 a40_1 a40_2 a40_3 r2 h10) (cj rfl (cj1 h11))))))))))))) (slices_symMergeCmpFunc_int_impl_OrderOf_1_l0_ok o o_ a40_0 a40_1 a40_2 a40_3 fuel (i64 ((i64 (bshr .u64 (u64 (i64 (v1 + v2))) 1)) + 1)) v2)) (fun h11 =>
             LpO.go [.wait 1, .mask [0, 1, 4, 10, 11], .ren [0], .join 5 (X.go) (st 220 [(0, V.ow 0), (1, V.sc (.int .i64 o_)), (4, V.fn 163 [V.cp [V.sl true 58 (List.map E58 a40_0), V.sc (.int .i64 a40_1), V.sc (.int .i64 a40_2), V.sl true 137 (List.map E137 a40_3)]]), (10, V.sc (.int .i64 v1)), (11, V.sc (.int .i64 v2))] [Blk.row 3 (List.map E3 o) []] [some 0]), .draw [], .el (E3 x1), .el (E3 x2), .call [] (E3 r2) [], .bit false, .wait 2, .mask [0, 1, 4, 10, 11], .ren [0]] (p := [HT Try.prog (sub (codeOf Try.prog 218) [0, 1, 0, 1, 1, 0, 0, 0, 0]) (st 220 [(0, V.ow 0), (1, V.sc (.int .i64 o_)), (4, V.fn 163 [V.cp [V.sl true 58 (List.map E58 a40_0), V.sc (.int .i64 a40_1), V.sc (.int .i64 a40_2), V.sl true 137 (List.map E137 a40_3)]]), (10, V.sc (.int .i64 v1)), (11, V.sc (.int .i64 v2))] [Blk.row 3 (List.map E3 o) []] [some 0]) (X.go) (st 220 [(0, V.ow 0), (1, V.sc (.int .i64 o_)), (4, V.fn 163 [V.cp [V.sl true 58 (List.map E58 a40_0), V.sc (.int .i64 a40_1), V.sc (.int .i64 a40_2), V.sl true 137 (List.map E137 a40_3)]]), (10, V.sc (.int .i64 v1)), (11, V.sc (.int .i64 v2))] [Blk.row 3 (List.map E3 o) []] [some 0]),
              ¬ (1 : Int) < 0,
              (0 : Int) ≤ (i64 (bshr .u64 (u64 (i64 (v1 + v2))) 1)),
              ((i64 (bshr .u64 (u64 (i64 (v1 + v2))) 1)) : Int) < ((List.map E3 o).length : Int),
              look [] ((i64 (bshr .u64 (u64 (i64 (v1 + v2))) 1)).toNat) = none,
              (List.map E3 o)[(i64 (bshr .u64 (u64 (i64 (v1 + v2))) 1)).toNat]? = some (E3 x1),
              (0 : Int) ≤ o_,
              (o_ : Int) < ((List.map E3 o).length : Int),
              look [] o_.toNat = none,
              (List.map E3 o)[o_.toNat]? = some (E3 x2),
              Fn Try.prog 163 [(false, E3 x1), (false, E3 x2), (false, V.cp [V.sl true 58 (List.map E58 a40_0), V.sc (.int .i64 a40_1), V.sc (.int .i64 a40_2), V.sl true 137 (List.map E137 a40_3)])] (E3 r2) [],
              (true || ((E3 r2).nv && nvL [])) = true,
              (decide (r2 < 0)) = false]) (by kernel_rfl) (cj ((slices_symMergeCmpFunc_int_impl_OrderOf_1_c2_ok o o_ a40_0 a40_1 a40_2 a40_3 v1 v2 r1 h3).at h4) (cj (by decide) (cj (od h6) (cj (map_ltN (od h6) h7) (cj rfl (cj (map_get h7) (cj (od h8) (cj (map_ltN (od h8) h9) (cj rfl (cj (map_get h9) (cj (impl_OrderOf_1_ok x1 x2 a40_0 a40_1 a40_2 a40_3 r2 h10) (cj rfl (cj1 h11))))))))))))) (slices_symMergeCmpFunc_int_impl_OrderOf_1_l0_ok o o_ a40_0 a40_1 a40_2 a40_3 fuel v1 (i64 (bshr .u64 (u64 (i64 (v1 + v2))) 1))))))) (fun h8 =>
          Pn.none))) (fun h6 =>
        Pn.none)) (fun s2 h5 =>
       Pn.some (LpO.out [.wait 1, .mask [0, 1, 4, 10, 11], .ren [0], .join 5 (X.out 0) (st 220 [(0, V.ow 0), (1, V.sc (.int .i64 o_)), (10, V.sc (.int .i64 v1))] [Blk.row 3 (List.map E3 o) []] [some 0]), .wait 1, .mask [0, 1, 10], .ren [0]] (p := [HT Try.prog (sub (codeOf Try.prog 218) [0, 1, 0, 1, 1, 0, 0, 0, 0]) (st 220 [(0, V.ow 0), (1, V.sc (.int .i64 o_)), (4, V.fn 163 [V.cp [V.sl true 58 (List.map E58 a40_0), V.sc (.int .i64 a40_1), V.sc (.int .i64 a40_2), V.sl true 137 (List.map E137 a40_3)]]), (10, V.sc (.int .i64 v1)), (11, V.sc (.int .i64 v2))] [Blk.row 3 (List.map E3 o) []] [some 0]) (X.out 0) (st 220 [(0, V.ow 0), (1, V.sc (.int .i64 o_)), (10, V.sc (.int .i64 v1))] [Blk.row 3 (List.map E3 o) []] [some 0])]) (by kernel_rfl) (show X.out 0 ≠ X.go from nofun) (cj1 ((slices_symMergeCmpFunc_int_impl_OrderOf_1_c2_ok o o_ a40_0 a40_1 a40_2 a40_3 v1 v2 r1 h3).at h5)))))
def slices_symMergeCmpFunc_int_impl_OrderOf_1_c4 (r3 : Int) (v3 : Int) (v4 : List Int) : Option (Lo Unit Unit) :=
 if (decide (v3 < (i64 (r3 - 1)))) = true then
  some (.out ())
 else
  some (.ret ())
theorem slices_symMergeCmpFunc_int_impl_OrderOf_1_c4_ok (r3 : Int) (v3 : Int) (v4 : List Int) : Pn (JnO Try.prog (sub (codeOf Try.prog 218) [0, 1, 0, 1, 1, 1, 0, 1, 0, 0, 0]) (st 220 [(0, V.ow 0), (10, V.sc (.int .i64 r3)), (13, V.sc (.int .i64 v3))] [Blk.row 3 (List.map E3 v4) []] [some 0]) (fun (y : Lo Unit Unit) => Lo.elim y (fun s => (X.go, st 220 [(0, V.ow 0), (10, V.sc (.int .i64 r3)), (13, V.sc (.int .i64 v3))] [Blk.row 3 (List.map E3 v4) []] [some 0])) (fun s => (X.out 2, st 220 [] [Blk.row 3 (List.map E3 v4) []] [some 0])))) (slices_symMergeCmpFunc_int_impl_OrderOf_1_c4 r3 v3 v4) := by
  unfold slices_symMergeCmpFunc_int_impl_OrderOf_1_c4
  exact
   Pn.ite (fun h13 =>
    Pn.some (JnO.of [.bit true, .mask [0, 10, 13], .ren [0]] (p := [(decide (v3 < (i64 (r3 - 1)))) = true]) (by kernel_rfl) (cj1 h13))) (fun h13 =>
    Pn.some (JnO.of [.bit false, .mask [], .ren [0]] (p := [(decide (v3 < (i64 (r3 - 1)))) = false]) (by kernel_rfl) (cj1 h13)))
def slices_symMergeCmpFunc_int_impl_OrderOf_1_l1 (r3 : Int) : Nat → Int → (List Int) → Option ((List Int))
  | 0, _, _ => none
  | fuel + 1, v3, v4 =>
   (slices_symMergeCmpFunc_int_impl_OrderOf_1_c4 r3 v3 v4).bind fun r4 =>
   Lo.elim r4 (fun s3 =>
    if (decide (0 ≤ (i64 (v3 + 1)))) = true then
     (v4[(i64 (v3 + 1)).toNat]?).bind fun x3 =>
     if (decide (0 ≤ v3)) = true then
      (v4[v3.toNat]?).bind fun x4 =>
      ((v4.set v3.toNat x3)[(i64 (v3 + 1)).toNat]?).bind fun x5 =>
      slices_symMergeCmpFunc_int_impl_OrderOf_1_l1 r3 fuel (i64 (v3 + 1)) ((v4.set v3.toNat x3).set ((i64 (v3 + 1)).toNat) x4)
     else none
    else none) (fun s4 =>
    some v4)
theorem slices_symMergeCmpFunc_int_impl_OrderOf_1_l1_ok (r3 : Int) : ∀ (fuel : Nat) (v3 : Int) (v4 : List Int), Pn (LpO Try.prog (sub (codeOf Try.prog 218) [0, 1, 0, 1, 1, 1, 0, 1, 0, 0]) (st 220 [(0, V.ow 0), (10, V.sc (.int .i64 r3)), (13, V.sc (.int .i64 v3))] [Blk.row 3 (List.map E3 v4) []] [some 0]) (fun (y : (List Int)) => (X.out 2, st 220 [] [Blk.row 3 (List.map E3 y) []] [some 0]))) (slices_symMergeCmpFunc_int_impl_OrderOf_1_l1 r3 fuel v3 v4)
  | 0, _, _ => Pn.none
  | fuel + 1, v3, v4 => by
    unfold slices_symMergeCmpFunc_int_impl_OrderOf_1_l1
    exact
     Pn.bind (fun r4 h14 =>
      Pn.lo (fun s3 h15 =>
       Pn.ite (fun h17 =>
        Pn.bind (fun x3 h18 =>
         Pn.ite (fun h19 =>
          Pn.bind (fun x4 h20 =>
           Pn.bind (fun x5 h21 =>
            LpO.go [.wait 1, .mask [0, 10, 13], .ren [0], .join 5 (X.go) (st 220 [(0, V.ow 0), (10, V.sc (.int .i64 r3)), (13, V.sc (.int .i64 v3))] [Blk.row 3 (List.map E3 v4) []] [some 0]), .draw [15, 17], .el (E3 x3), .el (E3 x4), .loop .go ((slices_symMergeCmpFunc_int_impl_OrderOf_1_s2 r3 v3 x3 x4 v4)), .loop .go ((slices_symMergeCmpFunc_int_impl_OrderOf_1_s2 r3 v3 x3 x4 v4)), .loop .go ((slices_symMergeCmpFunc_int_impl_OrderOf_1_s2 r3 v3 x3 x4 v4)), .el (E3 x4), .nb 0 (.row 3 (List.map E3 (v4.set v3.toNat x3)) []), .el (E3 x5), .nb 0 (.row 3 (List.map E3 ((v4.set v3.toNat x3).set ((i64 (v3 + 1)).toNat) x4)) []), .ren [0], .el (E3 x4), .nb 0 (.row 3 (List.map E3 (v4.set v3.toNat x3)) []), .el (E3 x5), .nb 0 (.row 3 (List.map E3 ((v4.set v3.toNat x3).set ((i64 (v3 + 1)).toNat) x4)) []), .ren [0], .ren [0], .el (E3 x4), .nb 0 (.row 3 (List.map E3 (v4.set v3.toNat x3)) []), .el (E3 x5), .nb 0 (.row 3 (List.map E3 ((v4.set v3.toNat x3).set ((i64 (v3 + 1)).toNat) x4)) []), .ren [0], .ren [0], .loop .go ((slices_symMergeCmpFunc_int_impl_OrderOf_1_s2 r3 v3 x3 x4 v4)), .loop .go ((slices_symMergeCmpFunc_int_impl_OrderOf_1_s2 r3 v3 x3 x4 v4)), .el (E3 x4), .nb 0 (.row 3 (List.map E3 (v4.set v3.toNat x3)) []), .el (E3 x5), .nb 0 (.row 3 (List.map E3 ((v4.set v3.toNat x3).set ((i64 (v3 + 1)).toNat) x4)) []), .ren [0], .el (E3 x4), .nb 0 (.row 3 (List.map E3 (v4.set v3.toNat x3)) []), .el (E3 x5), .nb 0 (.row 3 (List.map E3 ((v4.set v3.toNat x3).set ((i64 (v3 + 1)).toNat) x4)) []), .ren [0], .ren [0], .loop .go ((slices_symMergeCmpFunc_int_impl_OrderOf_1_s2 r3 v3 x3 x4 v4)), .el (E3 x4), .nb 0 (.row 3 (List.map E3 (v4.set v3.toNat x3)) []), .el (E3 x5), .nb 0 (.row 3 (List.map E3 ((v4.set v3.toNat x3).set ((i64 (v3 + 1)).toNat) x4)) []), .ren [0], .el (E3 x4), .nb 0 (.row 3 (List.map E3 (v4.set v3.toNat x3)) []), .el (E3 x5), .nb 0 (.row 3 (List.map E3 ((v4.set v3.toNat x3).set ((i64 (v3 + 1)).toNat) x4)) []), .ren [0], .ren [0], .el (E3 x4), .nb 0 (.row 3 (List.map E3 (v4.set v3.toNat x3)) []), .el (E3 x5), .nb 0 (.row 3 (List.map E3 ((v4.set v3.toNat x3).set ((i64 (v3 + 1)).toNat) x4)) []), .ren [0], .ren [0], .el (E3 x4), .nb 0 (.row 3 (List.map E3 (v4.set v3.toNat x3)) []), .el (E3 x5), .nb 0 (.row 3 (List.map E3 ((v4.set v3.toNat x3).set ((i64 (v3 + 1)).toNat) x4)) []), .ren [0], .wait 4, .mask [0, 10, 13], .ren [0]] (p := [HT Try.prog (sub (codeOf Try.prog 218) [0, 1, 0, 1, 1, 1, 0, 1, 0, 0, 0]) (st 220 [(0, V.ow 0), (10, V.sc (.int .i64 r3)), (13, V.sc (.int .i64 v3))] [Blk.row 3 (List.map E3 v4) []] [some 0]) (X.go) (st 220 [(0, V.ow 0), (10, V.sc (.int .i64 r3)), (13, V.sc (.int .i64 v3))] [Blk.row 3 (List.map E3 v4) []] [some 0]),
             (0 : Int) ≤ (i64 (v3 + 1)),
             ((i64 (v3 + 1)) : Int) < ((List.map E3 v4).length : Int),
             look [] ((i64 (v3 + 1)).toNat) = none,
             (List.map E3 v4)[(i64 (v3 + 1)).toNat]? = some (E3 x3),
             (0 : Int) ≤ v3,
             (v3 : Int) < ((List.map E3 v4).length : Int),
             look [] v3.toNat = none,
             (List.map E3 v4)[v3.toNat]? = some (E3 x4),
             (0 : Int) ≤ v3,
             (v3 : Int) < ((List.map E3 v4).length : Int),
             look [] v3.toNat = none,
             (List.map E3 v4)[v3.toNat]? = some (E3 x4),
             Blk.row 3 ((List.map E3 v4).set v3.toNat (V.sc (.int .i64 x3))) [] = Blk.row 3 (List.map E3 (v4.set v3.toNat x3)) [],
             (0 : Int) ≤ (i64 (v3 + 1)),
             ((i64 (v3 + 1)) : Int) < ((List.map E3 (v4.set v3.toNat x3)).length : Int),
             look [] ((i64 (v3 + 1)).toNat) = none,
             (List.map E3 (v4.set v3.toNat x3))[(i64 (v3 + 1)).toNat]? = some (E3 x5),
             Blk.row 3 ((List.map E3 (v4.set v3.toNat x3)).set ((i64 (v3 + 1)).toNat) (V.sc (.int .i64 x4))) [] = Blk.row 3 (List.map E3 ((v4.set v3.toNat x3).set ((i64 (v3 + 1)).toNat) x4)) [],
             (slices_symMergeCmpFunc_int_impl_OrderOf_1_s2 r3 v3 x3 x4 v4) = (slices_symMergeCmpFunc_int_impl_OrderOf_1_s2 r3 v3 x3 x4 v4),
             look [] v3.toNat = none,
             (List.map E3 v4)[v3.toNat]? = some (E3 x4),
             Blk.row 3 ((List.map E3 v4).set v3.toNat (V.sc (.int .i64 x3))) [] = Blk.row 3 (List.map E3 (v4.set v3.toNat x3)) [],
             (0 : Int) ≤ (i64 (v3 + 1)),
             ((i64 (v3 + 1)) : Int) < ((List.map E3 (v4.set v3.toNat x3)).length : Int),
             look [] ((i64 (v3 + 1)).toNat) = none,
             (List.map E3 (v4.set v3.toNat x3))[(i64 (v3 + 1)).toNat]? = some (E3 x5),
             Blk.row 3 ((List.map E3 (v4.set v3.toNat x3)).set ((i64 (v3 + 1)).toNat) (V.sc (.int .i64 x4))) [] = Blk.row 3 (List.map E3 ((v4.set v3.toNat x3).set ((i64 (v3 + 1)).toNat) x4)) [],
             (slices_symMergeCmpFunc_int_impl_OrderOf_1_s2 r3 v3 x3 x4 v4) = (slices_symMergeCmpFunc_int_impl_OrderOf_1_s2 r3 v3 x3 x4 v4),
             (slices_symMergeCmpFunc_int_impl_OrderOf_1_s2 r3 v3 x3 x4 v4) = (slices_symMergeCmpFunc_int_impl_OrderOf_1_s2 r3 v3 x3 x4 v4),
             look [] v3.toNat = none,
             (List.map E3 v4)[v3.toNat]? = some (E3 x4),
             Blk.row 3 ((List.map E3 v4).set v3.toNat (V.sc (.int .i64 x3))) [] = Blk.row 3 (List.map E3 (v4.set v3.toNat x3)) [],
             (0 : Int) ≤ (i64 (v3 + 1)),
             ((i64 (v3 + 1)) : Int) < ((List.map E3 (v4.set v3.toNat x3)).length : Int),
             look [] ((i64 (v3 + 1)).toNat) = none,
             (List.map E3 (v4.set v3.toNat x3))[(i64 (v3 + 1)).toNat]? = some (E3 x5),
             Blk.row 3 ((List.map E3 (v4.set v3.toNat x3)).set ((i64 (v3 + 1)).toNat) (V.sc (.int .i64 x4))) [] = Blk.row 3 (List.map E3 ((v4.set v3.toNat x3).set ((i64 (v3 + 1)).toNat) x4)) [],
             (slices_symMergeCmpFunc_int_impl_OrderOf_1_s2 r3 v3 x3 x4 v4) = (slices_symMergeCmpFunc_int_impl_OrderOf_1_s2 r3 v3 x3 x4 v4),
             (slices_symMergeCmpFunc_int_impl_OrderOf_1_s2 r3 v3 x3 x4 v4) = (slices_symMergeCmpFunc_int_impl_OrderOf_1_s2 r3 v3 x3 x4 v4),
             look [] v3.toNat = none,
             (List.map E3 v4)[v3.toNat]? = some (E3 x4),
             Blk.row 3 ((List.map E3 v4).set v3.toNat (V.sc (.int .i64 x3))) [] = Blk.row 3 (List.map E3 (v4.set v3.toNat x3)) [],
             (0 : Int) ≤ (i64 (v3 + 1)),
             ((i64 (v3 + 1)) : Int) < ((List.map E3 (v4.set v3.toNat x3)).length : Int),
             look [] ((i64 (v3 + 1)).toNat) = none,
             (List.map E3 (v4.set v3.toNat x3))[(i64 (v3 + 1)).toNat]? = some (E3 x5),
             Blk.row 3 ((List.map E3 (v4.set v3.toNat x3)).set ((i64 (v3 + 1)).toNat) (V.sc (.int .i64 x4))) [] = Blk.row 3 (List.map E3 ((v4.set v3.toNat x3).set ((i64 (v3 + 1)).toNat) x4)) [],
             (slices_symMergeCmpFunc_int_impl_OrderOf_1_s2 r3 v3 x3 x4 v4) = (slices_symMergeCmpFunc_int_impl_OrderOf_1_s2 r3 v3 x3 x4 v4),
             look [] v3.toNat = none,
             (List.map E3 v4)[v3.toNat]? = some (E3 x4),
             Blk.row 3 ((List.map E3 v4).set v3.toNat (V.sc (.int .i64 x3))) [] = Blk.row 3 (List.map E3 (v4.set v3.toNat x3)) [],
             (0 : Int) ≤ (i64 (v3 + 1)),
             ((i64 (v3 + 1)) : Int) < ((List.map E3 (v4.set v3.toNat x3)).length : Int),
             look [] ((i64 (v3 + 1)).toNat) = none,
             (List.map E3 (v4.set v3.toNat x3))[(i64 (v3 + 1)).toNat]? = some (E3 x5),
             Blk.row 3 ((List.map E3 (v4.set v3.toNat x3)).set ((i64 (v3 + 1)).toNat) (V.sc (.int .i64 x4))) [] = Blk.row 3 (List.map E3 ((v4.set v3.toNat x3).set ((i64 (v3 + 1)).toNat) x4)) [],
             (slices_symMergeCmpFunc_int_impl_OrderOf_1_s2 r3 v3 x3 x4 v4) = (slices_symMergeCmpFunc_int_impl_OrderOf_1_s2 r3 v3 x3 x4 v4),
             (slices_symMergeCmpFunc_int_impl_OrderOf_1_s2 r3 v3 x3 x4 v4) = (slices_symMergeCmpFunc_int_impl_OrderOf_1_s2 r3 v3 x3 x4 v4),
             look [] v3.toNat = none,
             (List.map E3 v4)[v3.toNat]? = some (E3 x4),
             Blk.row 3 ((List.map E3 v4).set v3.toNat (V.sc (.int .i64 x3))) [] = Blk.row 3 (List.map E3 (v4.set v3.toNat x3)) [],
             (0 : Int) ≤ (i64 (v3 + 1)),
             ((i64 (v3 + 1)) : Int) < ((List.map E3 (v4.set v3.toNat x3)).length : Int),
             look [] ((i64 (v3 + 1)).toNat) = none,
             (List.map E3 (v4.set v3.toNat x3))[(i64 (v3 + 1)).toNat]? = some (E3 x5),
             Blk.row 3 ((List.map E3 (v4.set v3.toNat x3)).set ((i64 (v3 + 1)).toNat) (V.sc (.int .i64 x4))) [] = Blk.row 3 (List.map E3 ((v4.set v3.toNat x3).set ((i64 (v3 + 1)).toNat) x4)) [],
             (slices_symMergeCmpFunc_int_impl_OrderOf_1_s2 r3 v3 x3 x4 v4) = (slices_symMergeCmpFunc_int_impl_OrderOf_1_s2 r3 v3 x3 x4 v4),
             look [] v3.toNat = none,
             (List.map E3 v4)[v3.toNat]? = some (E3 x4),
             Blk.row 3 ((List.map E3 v4).set v3.toNat (V.sc (.int .i64 x3))) [] = Blk.row 3 (List.map E3 (v4.set v3.toNat x3)) [],
             (0 : Int) ≤ (i64 (v3 + 1)),
             ((i64 (v3 + 1)) : Int) < ((List.map E3 (v4.set v3.toNat x3)).length : Int),
             look [] ((i64 (v3 + 1)).toNat) = none,
             (List.map E3 (v4.set v3.toNat x3))[(i64 (v3 + 1)).toNat]? = some (E3 x5),
             Blk.row 3 ((List.map E3 (v4.set v3.toNat x3)).set ((i64 (v3 + 1)).toNat) (V.sc (.int .i64 x4))) [] = Blk.row 3 (List.map E3 ((v4.set v3.toNat x3).set ((i64 (v3 + 1)).toNat) x4)) [],
             (slices_symMergeCmpFunc_int_impl_OrderOf_1_s2 r3 v3 x3 x4 v4) = (slices_symMergeCmpFunc_int_impl_OrderOf_1_s2 r3 v3 x3 x4 v4),
             (slices_symMergeCmpFunc_int_impl_OrderOf_1_s2 r3 v3 x3 x4 v4) = (slices_symMergeCmpFunc_int_impl_OrderOf_1_s2 r3 v3 x3 x4 v4),
             look [] v3.toNat = none,
             (List.map E3 v4)[v3.toNat]? = some (E3 x4),
             Blk.row 3 ((List.map E3 v4).set v3.toNat (V.sc (.int .i64 x3))) [] = Blk.row 3 (List.map E3 (v4.set v3.toNat x3)) [],
             (0 : Int) ≤ (i64 (v3 + 1)),
             ((i64 (v3 + 1)) : Int) < ((List.map E3 (v4.set v3.toNat x3)).length : Int),
             look [] ((i64 (v3 + 1)).toNat) = none,
             (List.map E3 (v4.set v3.toNat x3))[(i64 (v3 + 1)).toNat]? = some (E3 x5),
             Blk.row 3 ((List.map E3 (v4.set v3.toNat x3)).set ((i64 (v3 + 1)).toNat) (V.sc (.int .i64 x4))) [] = Blk.row 3 (List.map E3 ((v4.set v3.toNat x3).set ((i64 (v3 + 1)).toNat) x4)) [],
             (slices_symMergeCmpFunc_int_impl_OrderOf_1_s2 r3 v3 x3 x4 v4) = (slices_symMergeCmpFunc_int_impl_OrderOf_1_s2 r3 v3 x3 x4 v4),
             (slices_symMergeCmpFunc_int_impl_OrderOf_1_s2 r3 v3 x3 x4 v4) = (slices_symMergeCmpFunc_int_impl_OrderOf_1_s2 r3 v3 x3 x4 v4),
             look [] v3.toNat = none,
             (List.map E3 v4)[v3.toNat]? = some (E3 x4),
             Blk.row 3 ((List.map E3 v4).set v3.toNat (V.sc (.int .i64 x3))) [] = Blk.row 3 (List.map E3 (v4.set v3.toNat x3)) [],
             (0 : Int) ≤ (i64 (v3 + 1)),
             ((i64 (v3 + 1)) : Int) < ((List.map E3 (v4.set v3.toNat x3)).length : Int),
             look [] ((i64 (v3 + 1)).toNat) = none,
             (List.map E3 (v4.set v3.toNat x3))[(i64 (v3 + 1)).toNat]? = some (E3 x5),
             Blk.row 3 ((List.map E3 (v4.set v3.toNat x3)).set ((i64 (v3 + 1)).toNat) (V.sc (.int .i64 x4))) [] = Blk.row 3 (List.map E3 ((v4.set v3.toNat x3).set ((i64 (v3 + 1)).toNat) x4)) [],
             (slices_symMergeCmpFunc_int_impl_OrderOf_1_s2 r3 v3 x3 x4 v4) = (slices_symMergeCmpFunc_int_impl_OrderOf_1_s2 r3 v3 x3 x4 v4)]) (by kernel_rfl) (cj ((slices_symMergeCmpFunc_int_impl_OrderOf_1_c4_ok r3 v3 v4 r4 h14).at h15) (cj (od h17) (cj (map_ltN (od h17) h18) (cj rfl (cj (map_get h18) (cj (od h19) (cj (map_ltN (od h19) h20) (cj rfl (cj (map_get h20) (cj (od h19) (cj (map_ltN (od h19) h20) (cj rfl (cj (map_get h20) (cj (nb_set E3 _ _ x3) (cj (od h17) (cj (map_ltN (od h17) h21) (cj rfl (cj (map_get h21) (cj (nb_set E3 _ _ x4) (cj rfl (cj rfl (cj (map_get h20) (cj (nb_set E3 _ _ x3) (cj (od h17) (cj (map_ltN (od h17) h21) (cj rfl (cj (map_get h21) (cj (nb_set E3 _ _ x4) (cj rfl (cj rfl (cj rfl (cj (map_get h20) (cj (nb_set E3 _ _ x3) (cj (od h17) (cj (map_ltN (od h17) h21) (cj rfl (cj (map_get h21) (cj (nb_set E3 _ _ x4) (cj rfl (cj rfl (cj rfl (cj (map_get h20) (cj (nb_set E3 _ _ x3) (cj (od h17) (cj (map_ltN (od h17) h21) (cj rfl (cj (map_get h21) (cj (nb_set E3 _ _ x4) (cj rfl (cj rfl (cj (map_get h20) (cj (nb_set E3 _ _ x3) (cj (od h17) (cj (map_ltN (od h17) h21) (cj rfl (cj (map_get h21) (cj (nb_set E3 _ _ x4) (cj rfl (cj rfl (cj rfl (cj (map_get h20) (cj (nb_set E3 _ _ x3) (cj (od h17) (cj (map_ltN (od h17) h21) (cj rfl (cj (map_get h21) (cj (nb_set E3 _ _ x4) (cj rfl (cj rfl (cj (map_get h20) (cj (nb_set E3 _ _ x3) (cj (od h17) (cj (map_ltN (od h17) h21) (cj rfl (cj (map_get h21) (cj (nb_set E3 _ _ x4) (cj rfl (cj rfl (cj rfl (cj (map_get h20) (cj (nb_set E3 _ _ x3) (cj (od h17) (cj (map_ltN (od h17) h21) (cj rfl (cj (map_get h21) (cj (nb_set E3 _ _ x4) (cj rfl (cj rfl (cj rfl (cj (map_get h20) (cj (nb_set E3 _ _ x3) (cj (od h17) (cj (map_ltN (od h17) h21) (cj rfl (cj (map_get h21) (cj (nb_set E3 _ _ x4) (cj1 rfl))))))))))))))))))))))))))))))))))))))))))))))))))))))))))))))))))))))))))))))))))))))))))))))))) (slices_symMergeCmpFunc_int_impl_OrderOf_1_l1_ok r3 fuel (i64 (v3 + 1)) ((v4.set v3.toNat x3).set ((i64 (v3 + 1)).toNat) x4))))) (fun h19 =>
          Pn.none))) (fun h17 =>
        Pn.none)) (fun s4 h16 =>
       Pn.some (LpO.out [.wait 1, .mask [0, 10, 13], .ren [0], .join 5 (X.out 2) (st 220 [] [Blk.row 3 (List.map E3 v4) []] [some 0]), .wait 1, .mask [], .ren [0]] (p := [HT Try.prog (sub (codeOf Try.prog 218) [0, 1, 0, 1, 1, 1, 0, 1, 0, 0, 0]) (st 220 [(0, V.ow 0), (10, V.sc (.int .i64 r3)), (13, V.sc (.int .i64 v3))] [Blk.row 3 (List.map E3 v4) []] [some 0]) (X.out 2) (st 220 [] [Blk.row 3 (List.map E3 v4) []] [some 0])]) (by kernel_rfl) (show X.out 2 ≠ X.go from nofun) (cj1 ((slices_symMergeCmpFunc_int_impl_OrderOf_1_c4_ok r3 v3 v4 r4 h14).at h16)))))
def slices_symMergeCmpFunc_int_impl_OrderOf_1_c0 (o : List Int) (o_ : Int) (a2 : Int) (a3 : Int) (a40_0 : List Stripe) (a40_1 : Int) (a40_2 : Int) (a40_3 : List Task) : Option (Lo Unit ((List Int))) :=
 if ((i64 (a2 - o_)) == 1) = true then
  (slices_symMergeCmpFunc_int_impl_OrderOf_1_l0 o o_ a40_0 a40_1 a40_2 a40_3 FUEL a2 a3).bind fun r3 =>
  (slices_symMergeCmpFunc_int_impl_OrderOf_1_l1 r3 FUEL o_ o).bind fun r5 =>
  some (.ret r5)
 else
  some (.out ())
theorem slices_symMergeCmpFunc_int_impl_OrderOf_1_c0_ok (o : List Int) (o_ : Int) (a2 : Int) (a3 : Int) (a40_0 : List Stripe) (a40_1 : Int) (a40_2 : Int) (a40_3 : List Task) : Pn (JnO Try.prog (sub (codeOf Try.prog 218) [0]) (st 220 [(0, V.ow 0), (1, V.sc (.int .i64 o_)), (2, V.sc (.int .i64 a2)), (3, V.sc (.int .i64 a3)), (4, V.fn 163 [V.cp [V.sl true 58 (List.map E58 a40_0), V.sc (.int .i64 a40_1), V.sc (.int .i64 a40_2), V.sl true 137 (List.map E137 a40_3)]])] [Blk.row 3 (List.map E3 o) []] [some 0]) (fun (y : Lo Unit ((List Int))) => Lo.elim y (fun s => (X.go, st 220 [(0, V.ow 0), (1, V.sc (.int .i64 o_)), (2, V.sc (.int .i64 a2)), (3, V.sc (.int .i64 a3)), (4, V.fn 163 [V.cp [V.sl true 58 (List.map E58 a40_0), V.sc (.int .i64 a40_1), V.sc (.int .i64 a40_2), V.sl true 137 (List.map E137 a40_3)]])] [Blk.row 3 (List.map E3 o) []] [some 0])) (fun s => (X.ret, st 220 [] [Blk.row 3 (List.map E3 s) []] [some 0])))) (slices_symMergeCmpFunc_int_impl_OrderOf_1_c0 o o_ a2 a3 a40_0 a40_1 a40_2 a40_3) := by
  unfold slices_symMergeCmpFunc_int_impl_OrderOf_1_c0
  exact
   Pn.ite (fun h1 =>
    Pn.bind (fun r3 h12 =>
     Pn.bind (fun r5 h22 =>
      Pn.some (JnO.of [.bit true, .wait 4, .mask [0, 1, 4, 10, 11], .ren [0], .loop (X.out 0) (st 220 [(0, V.ow 0), (1, V.sc (.int .i64 o_)), (10, V.sc (.int .i64 r3))] [Blk.row 3 (List.map E3 o) []] [some 0]), .wait 3, .mask [0, 10, 13], .ren [0], .loop (X.out 2) (st 220 [] [Blk.row 3 (List.map E3 r5) []] [some 0]), .wait 1, .mask [], .ren [0]] (p := [((i64 (a2 - o_)) == 1) = true,
       Loop Try.prog (sub (codeOf Try.prog 218) [0, 1, 0, 1, 1, 0, 0, 0]) (st 220 [(0, V.ow 0), (1, V.sc (.int .i64 o_)), (4, V.fn 163 [V.cp [V.sl true 58 (List.map E58 a40_0), V.sc (.int .i64 a40_1), V.sc (.int .i64 a40_2), V.sl true 137 (List.map E137 a40_3)]]), (10, V.sc (.int .i64 a2)), (11, V.sc (.int .i64 a3))] [Blk.row 3 (List.map E3 o) []] [some 0]) (X.out 0) (st 220 [(0, V.ow 0), (1, V.sc (.int .i64 o_)), (10, V.sc (.int .i64 r3))] [Blk.row 3 (List.map E3 o) []] [some 0]),
       Loop Try.prog (sub (codeOf Try.prog 218) [0, 1, 0, 1, 1, 1, 0, 1, 0, 0]) (st 220 [(0, V.ow 0), (10, V.sc (.int .i64 r3)), (13, V.sc (.int .i64 o_))] [Blk.row 3 (List.map E3 o) []] [some 0]) (X.out 2) (st 220 [] [Blk.row 3 (List.map E3 r5) []] [some 0])]) (by kernel_rfl) (cj h1 (cj (slices_symMergeCmpFunc_int_impl_OrderOf_1_l0_ok o o_ a40_0 a40_1 a40_2 a40_3 FUEL a2 a3 r3 h12) (cj1 (slices_symMergeCmpFunc_int_impl_OrderOf_1_l1_ok r3 FUEL o_ o r5 h22)))))))) (fun h1 =>
    Pn.some (JnO.of [.bit false, .mask [0, 1, 2, 3, 4], .ren [0]] (p := [((i64 (a2 - o_)) == 1) = false]) (by kernel_rfl) (cj1 h1)))
def slices_symMergeCmpFunc_int_impl_OrderOf_1_c7 (o : List Int) (a2 : Int) (a40_0 : List Stripe) (a40_1 : Int) (a40_2 : Int) (a40_3 : List Task) (v5 : Int) (v6 : Int) : Option (Lo Unit Unit) :=
 if (decide (v5 < v6)) = true then
  some (.out ())
 else
  some (.ret ())
theorem slices_symMergeCmpFunc_int_impl_OrderOf_1_c7_ok (o : List Int) (a2 : Int) (a40_0 : List Stripe) (a40_1 : Int) (a40_2 : Int) (a40_3 : List Task) (v5 : Int) (v6 : Int) : Pn (JnO Try.prog (sub (codeOf Try.prog 218) [1, 0, 1, 0, 1, 1, 0, 0, 0, 0]) (st 220 [(0, V.ow 0), (2, V.sc (.int .i64 a2)), (4, V.fn 163 [V.cp [V.sl true 58 (List.map E58 a40_0), V.sc (.int .i64 a40_1), V.sc (.int .i64 a40_2), V.sl true 137 (List.map E137 a40_3)]]), (14, V.sc (.int .i64 v5)), (15, V.sc (.int .i64 v6))] [Blk.row 3 (List.map E3 o) []] [some 0]) (fun (y : Lo Unit Unit) => Lo.elim y (fun s => (X.go, st 220 [(0, V.ow 0), (2, V.sc (.int .i64 a2)), (4, V.fn 163 [V.cp [V.sl true 58 (List.map E58 a40_0), V.sc (.int .i64 a40_1), V.sc (.int .i64 a40_2), V.sl true 137 (List.map E137 a40_3)]]), (14, V.sc (.int .i64 v5)), (15, V.sc (.int .i64 v6))] [Blk.row 3 (List.map E3 o) []] [some 0])) (fun s => (X.out 4, st 220 [(0, V.ow 0), (2, V.sc (.int .i64 a2)), (14, V.sc (.int .i64 v5))] [Blk.row 3 (List.map E3 o) []] [some 0])))) (slices_symMergeCmpFunc_int_impl_OrderOf_1_c7 o a2 a40_0 a40_1 a40_2 a40_3 v5 v6) := by
  unfold slices_symMergeCmpFunc_int_impl_OrderOf_1_c7
  exact
   Pn.ite (fun h27 =>
    Pn.some (JnO.of [.bit true, .mask [0, 2, 4, 14, 15], .ren [0]] (p := [(decide (v5 < v6)) = true]) (by kernel_rfl) (cj1 h27))) (fun h27 =>
    Pn.some (JnO.of [.bit false, .mask [0, 2, 14], .ren [0]] (p := [(decide (v5 < v6)) = false]) (by kernel_rfl) (cj1 h27)))
def slices_symMergeCmpFunc_int_impl_OrderOf_1_l2 (o : List Int) (a2 : Int) (a40_0 : List Stripe) (a40_1 : Int) (a40_2 : Int) (a40_3 : List Task) : Nat → Int → Int → Option (Int)
  | 0, _, _ => none
  | fuel + 1, v5, v6 =>
   (slices_symMergeCmpFunc_int_impl_OrderOf_1_c7 o a2 a40_0 a40_1 a40_2 a40_3 v5 v6).bind fun r7 =>
   Lo.elim r7 (fun s7 =>
    if (decide (0 ≤ a2)) = true then
     (o[a2.toNat]?).bind fun x6 =>
     if (decide (0 ≤ (i64 (bshr .u64 (u64 (i64 (v5 + v6))) 1)))) = true then
      (o[(i64 (bshr .u64 (u64 (i64 (v5 + v6))) 1)).toNat]?).bind fun x7 =>
      (impl_OrderOf_1 x6 x7 a40_0 a40_1 a40_2 a40_3).bind fun r8 =>
      if (decide (r8 < 0)) = true then
       slices_symMergeCmpFunc_int_impl_OrderOf_1_l2 o a2 a40_0 a40_1 a40_2 a40_3 fuel v5 (i64 (bshr .u64 (u64 (i64 (v5 + v6))) 1))
      else
       slices_symMergeCmpFunc_int_impl_OrderOf_1_l2 o a2 a40_0 a40_1 a40_2 a40_3 fuel (i64 ((i64 (bshr .u64 (u64 (i64 (v5 + v6))) 1)) + 1)) v6
     else none
    else none) (fun s8 =>
    some v5)
theorem slices_symMergeCmpFunc_int_impl_OrderOf_1_l2_ok (o : List Int) (a2 : Int) (a40_0 : List Stripe) (a40_1 : Int) (a40_2 : Int) (a40_3 : List Task) : ∀ (fuel : Nat) (v5 : Int) (v6 : Int), Pn (LpO Try.prog (sub (codeOf Try.prog 218) [1, 0, 1, 0, 1, 1, 0, 0, 0]) (st 220 [(0, V.ow 0), (2, V.sc (.int .i64 a2)), (4, V.fn 163 [V.cp [V.sl true 58 (List.map E58 a40_0), V.sc (.int .i64 a40_1), V.sc (.int .i64 a40_2), V.sl true 137 (List.map E137 a40_3)]]), (14, V.sc (.int .i64 v5)), (15, V.sc (.int .i64 v6))] [Blk.row 3 (List.map E3 o) []] [some 0]) (fun (y : Int) => (X.out 4, st 220 [(0, V.ow 0), (2, V.sc (.int .i64 a2)), (14, V.sc (.int .i64 y))] [Blk.row 3 (List.map E3 o) []] [some 0]))) (slices_symMergeCmpFunc_int_impl_OrderOf_1_l2 o a2 a40_0 a40_1 a40_2 a40_3 fuel v5 v6)
  | 0, _, _ => Pn.none
  | fuel + 1, v5, v6 => by
    unfold slices_symMergeCmpFunc_int_impl_OrderOf_1_l2
    exact
     Pn.bind (fun r7 h28 =>
      Pn.lo (fun s7 h29 =>
       Pn.ite (fun h31 =>
        Pn.bind (fun x6 h32 =>
         Pn.ite (fun h33 =>
          Pn.bind (fun x7 h34 =>
           Pn.bind (fun r8 h35 =>
            Pn.ite (fun h36 =>
             LpO.go [.wait 1, .mask [0, 2, 4, 14, 15], .ren [0], .join 5 (X.go) (st 220 [(0, V.ow 0), (2, V.sc (.int .i64 a2)), (4, V.fn 163 [V.cp [V.sl true 58 (List.map E58 a40_0), V.sc (.int .i64 a40_1), V.sc (.int .i64 a40_2), V.sl true 137 (List.map E137 a40_3)]]), (14, V.sc (.int .i64 v5)), (15, V.sc (.int .i64 v6))] [Blk.row 3 (List.map E3 o) []] [some 0]), .draw [], .el (E3 x6), .el (E3 x7), .call [] (E3 r8) [], .bit false, .wait 2, .mask [0, 2, 4, 14, 15], .ren [0]] (p := [HT Try.prog (sub (codeOf Try.prog 218) [1, 0, 1, 0, 1, 1, 0, 0, 0, 0]) (st 220 [(0, V.ow 0), (2, V.sc (.int .i64 a2)), (4, V.fn 163 [V.cp [V.sl true 58 (List.map E58 a40_0), V.sc (.int .i64 a40_1), V.sc (.int .i64 a40_2), V.sl true 137 (List.map E137 a40_3)]]), (14, V.sc (.int .i64 v5)), (15, V.sc (.int .i64 v6))] [Blk.row 3 (List.map E3 o) []] [some 0]) (X.go) (st 220 [(0, V.ow 0), (2, V.sc (.int .i64 a2)), (4, V.fn 163 [V.cp [V.sl true 58 (List.map E58 a40_0), V.sc (.int .i64 a40_1), V.sc (.int .i64 a40_2), V.sl true 137 (List.map E137 a40_3)]]), (14, V.sc (.int .i64 v5)), (15, V.sc (.int .i64 v6))] [Blk.row 3 (List.map E3 o) []] [some 0]),
              ¬ (1 : Int) < 0,
              (0 : Int) ≤ a2,
              (a2 : Int) < ((List.map E3 o).length : Int),
              look [] a2.toNat = none,
              (List.map E3 o)[a2.toNat]? = some (E3 x6),
              (0 : Int) ≤ (i64 (bshr .u64 (u64 (i64 (v5 + v6))) 1)),
              ((i64 (bshr .u64 (u64 (i64 (v5 + v6))) 1)) : Int) < ((List.map E3 o).length : Int),
              look [] ((i64 (bshr .u64 (u64 (i64 (v5 + v6))) 1)).toNat) = none,
              (List.map E3 o)[(i64 (bshr .u64 (u64 (i64 (v5 + v6))) 1)).toNat]? = some (E3 x7),
              Fn Try.prog 163 [(false, E3 x6), (false, E3 x7), (false, V.cp [V.sl true 58 (List.map E58 a40_0), V.sc (.int .i64 a40_1), V.sc (.int .i64 a40_2), V.sl true 137 (List.map E137 a40_3)])] (E3 r8) [],
              (true || ((E3 r8).nv && nvL [])) = true,
              (!(decide (r8 < 0))) = false]) (by kernel_rfl) (cj ((slices_symMergeCmpFunc_int_impl_OrderOf_1_c7_ok o a2 a40_0 a40_1 a40_2 a40_3 v5 v6 r7 h28).at h29) (cj (by decide) (cj (od h31) (cj (map_ltN (od h31) h32) (cj rfl (cj (map_get h32) (cj (od h33) (cj (map_ltN (od h33) h34) (cj rfl (cj (map_get h34) (cj (impl_OrderOf_1_ok x6 x7 a40_0 a40_1 a40_2 a40_3 r8 h35) (cj rfl (cj1 (nf h36)))))))))))))) (slices_symMergeCmpFunc_int_impl_OrderOf_1_l2_ok o a2 a40_0 a40_1 a40_2 a40_3 fuel v5 (i64 (bshr .u64 (u64 (i64 (v5 + v6))) 1)))) (fun h36 =>
             LpO.go [.wait 1, .mask [0, 2, 4, 14, 15], .ren [0], .join 5 (X.go) (st 220 [(0, V.ow 0), (2, V.sc (.int .i64 a2)), (4, V.fn 163 [V.cp [V.sl true 58 (List.map E58 a40_0), V.sc (.int .i64 a40_1), V.sc (.int .i64 a40_2), V.sl true 137 (List.map E137 a40_3)]]), (14, V.sc (.int .i64 v5)), (15, V.sc (.int .i64 v6))] [Blk.row 3 (List.map E3 o) []] [some 0]), .draw [], .el (E3 x6), .el (E3 x7), .call [] (E3 r8) [], .bit true, .wait 3, .mask [0, 2, 4, 14, 15], .ren [0]] (p := [HT Try.prog (sub (codeOf Try.prog 218) [1, 0, 1, 0, 1, 1, 0, 0, 0, 0]) (st 220 [(0, V.ow 0), (2, V.sc (.int .i64 a2)), (4, V.fn 163 [V.cp [V.sl true 58 (List.map E58 a40_0), V.sc (.int .i64 a40_1), V.sc (.int .i64 a40_2), V.sl true 137 (List.map E137 a40_3)]]), (14, V.sc (.int .i64 v5)), (15, V.sc (.int .i64 v6))] [Blk.row 3 (List.map E3 o) []] [some 0]) (X.go) (st 220 [(0, V.ow 0), (2, V.sc (.int .i64 a2)), (4, V.fn 163 [V.cp [V.sl true 58 (List.map E58 a40_0), V.sc (.int .i64 a40_1), V.sc (.int .i64 a40_2), V.sl true 137 (List.map E137 a40_3)]]), (14, V.sc (.int .i64 v5)), (15, V.sc (.int .i64 v6))] [Blk.row 3 (List.map E3 o) []] [some 0]),
              ¬ (1 : Int) < 0,
              (0 : Int) ≤ a2,
              (a2 : Int) < ((List.map E3 o).length : Int),
              look [] a2.toNat = none,
              (List.map E3 o)[a2.toNat]? = some (E3 x6),
              (0 : Int) ≤ (i64 (bshr .u64 (u64 (i64 (v5 + v6))) 1)),
              ((i64 (bshr .u64 (u64 (i64 (v5 + v6))) 1)) : Int) < ((List.map E3 o).length : Int),
              look [] ((i64 (bshr .u64 (u64 (i64 (v5 + v6))) 1)).toNat) = none,
              (List.map E3 o)[(i64 (bshr .u64 (u64 (i64 (v5 + v6))) 1)).toNat]? = some (E3 x7),
              Fn Try.prog 163 [(false, E3 x6), (false, E3 x7), (false, V.cp [V.sl true 58 (List.map E58 a40_0), V.sc (.int .i64 a40_1), V.sc (.int .i64 a40_2), V.sl true 137 (List.map E137 a40_3)])] (E3 r8) [],
              (true || ((E3 r8).nv && nvL [])) = true,
              (!(decide (r8 < 0))) = true]) (by kernel_rfl) (cj ((slices_symMergeCmpFunc_int_impl_OrderOf_1_c7_ok o a2 a40_0 a40_1 a40_2 a40_3 v5 v6 r7 h28).at h29) (cj (by decide) (cj (od h31) (cj (map_ltN (od h31) h32) (cj rfl (cj (map_get h32) (cj (od h33) (cj (map_ltN (od h33) h34) (cj rfl (cj (map_get h34) (cj (impl_OrderOf_1_ok x6 x7 a40_0 a40_1 a40_2 a40_3 r8 h35) (cj rfl (cj1 (nt h36)))))))))))))) (slices_symMergeCmpFunc_int_impl_OrderOf_1_l2_ok o a2 a40_0 a40_1 a40_2 a40_3 fuel (i64 ((i64 (bshr .u64 (u64 (i64 (v5 + v6))) 1)) + 1)) v6))))) (fun h33 =>
          Pn.none))) (fun h31 =>
        Pn.none)) (fun s8 h30 =>
       Pn.some (LpO.out [.wait 1, .mask [0, 2, 4, 14, 15], .ren [0], .join 5 (X.out 4) (st 220 [(0, V.ow 0), (2, V.sc (.int .i64 a2)), (14, V.sc (.int .i64 v5))] [Blk.row 3 (List.map E3 o) []] [some 0]), .wait 1, .mask [0, 2, 14], .ren [0]] (p := [HT Try.prog (sub (codeOf Try.prog 218) [1, 0, 1, 0, 1, 1, 0, 0, 0, 0]) (st 220 [(0, V.ow 0), (2, V.sc (.int .i64 a2)), (4, V.fn 163 [V.cp [V.sl true 58 (List.map E58 a40_0), V.sc (.int .i64 a40_1), V.sc (.int .i64 a40_2), V.sl true 137 (List.map E137 a40_3)]]), (14, V.sc (.int .i64 v5)), (15, V.sc (.int .i64 v6))] [Blk.row 3 (List.map E3 o) []] [some 0]) (X.out 4) (st 220 [(0, V.ow 0), (2, V.sc (.int .i64 a2)), (14, V.sc (.int .i64 v5))] [Blk.row 3 (List.map E3 o) []] [some 0])]) (by kernel_rfl) (show X.out 4 ≠ X.go from nofun) (cj1 ((slices_symMergeCmpFunc_int_impl_OrderOf_1_c7_ok o a2 a40_0 a40_1 a40_2 a40_3 v5 v6 r7 h28).at h30)))))
def slices_symMergeCmpFunc_int_impl_OrderOf_1_c9 (r9 : Int) (v7 : Int) (v8 : List Int) : Option (Lo Unit Unit) :=
 if (decide (r9 < v7)) = true then
  some (.out ())
 else
  some (.ret ())
theorem slices_symMergeCmpFunc_int_impl_OrderOf_1_c9_ok (r9 : Int) (v7 : Int) (v8 : List Int) : Pn (JnO Try.prog (sub (codeOf Try.prog 218) [1, 0, 1, 0, 1, 1, 1, 0, 1, 0, 0, 0]) (st 220 [(0, V.ow 0), (14, V.sc (.int .i64 r9)), (17, V.sc (.int .i64 v7))] [Blk.row 3 (List.map E3 v8) []] [some 0]) (fun (y : Lo Unit Unit) => Lo.elim y (fun s => (X.go, st 220 [(0, V.ow 0), (14, V.sc (.int .i64 r9)), (17, V.sc (.int .i64 v7))] [Blk.row 3 (List.map E3 v8) []] [some 0])) (fun s => (X.out 6, st 220 [] [Blk.row 3 (List.map E3 v8) []] [some 0])))) (slices_symMergeCmpFunc_int_impl_OrderOf_1_c9 r9 v7 v8) := by
  unfold slices_symMergeCmpFunc_int_impl_OrderOf_1_c9
  exact
   Pn.ite (fun h38 =>
    Pn.some (JnO.of [.bit true, .mask [0, 14, 17], .ren [0]] (p := [(decide (r9 < v7)) = true]) (by kernel_rfl) (cj1 h38))) (fun h38 =>
    Pn.some (JnO.of [.bit false, .mask [], .ren [0]] (p := [(decide (r9 < v7)) = false]) (by kernel_rfl) (cj1 h38)))
def slices_symMergeCmpFunc_int_impl_OrderOf_1_l3 (r9 : Int) : Nat → Int → (List Int) → Option ((List Int))
  | 0, _, _ => none
  | fuel + 1, v7, v8 =>
   (slices_symMergeCmpFunc_int_impl_OrderOf_1_c9 r9 v7 v8).bind fun r10 =>
   Lo.elim r10 (fun s9 =>
    if (decide (0 ≤ (i64 (v7 - 1)))) = true then
     (v8[(i64 (v7 - 1)).toNat]?).bind fun x8 =>
     if (decide (0 ≤ v7)) = true then
      (v8[v7.toNat]?).bind fun x9 =>
      ((v8.set v7.toNat x8)[(i64 (v7 - 1)).toNat]?).bind fun x10 =>
      slices_symMergeCmpFunc_int_impl_OrderOf_1_l3 r9 fuel (i64 (v7 - 1)) ((v8.set v7.toNat x8).set ((i64 (v7 - 1)).toNat) x9)
     else none
    else none) (fun s10 =>
    some v8)
theorem slices_symMergeCmpFunc_int_impl_OrderOf_1_l3_ok (r9 : Int) : ∀ (fuel : Nat) (v7 : Int) (v8 : List Int), Pn (LpO Try.prog (sub (codeOf Try.prog 218) [1, 0, 1, 0, 1, 1, 1, 0, 1, 0, 0]) (st 220 [(0, V.ow 0), (14, V.sc (.int .i64 r9)), (17, V.sc (.int .i64 v7))] [Blk.row 3 (List.map E3 v8) []] [some 0]) (fun (y : (List Int)) => (X.out 6, st 220 [] [Blk.row 3 (List.map E3 y) []] [some 0]))) (slices_symMergeCmpFunc_int_impl_OrderOf_1_l3 r9 fuel v7 v8)
  | 0, _, _ => Pn.none
  | fuel + 1, v7, v8 => by
    unfold slices_symMergeCmpFunc_int_impl_OrderOf_1_l3
    exact
     Pn.bind (fun r10 h39 =>
      Pn.lo (fun s9 h40 =>
       Pn.ite (fun h42 =>
        Pn.bind (fun x8 h43 =>
         Pn.ite (fun h44 =>
          Pn.bind (fun x9 h45 =>
           Pn.bind (fun x10 h46 =>
            LpO.go [.wait 1, .mask [0, 14, 17], .ren [0], .join 5 (X.go) (st 220 [(0, V.ow 0), (14, V.sc (.int .i64 r9)), (17, V.sc (.int .i64 v7))] [Blk.row 3 (List.map E3 v8) []] [some 0]), .draw [15, 17], .el (E3 x8), .el (E3 x9), .loop .go ((slices_symMergeCmpFunc_int_impl_OrderOf_1_s4 r9 v7 x8 x9 v8)), .loop .go ((slices_symMergeCmpFunc_int_impl_OrderOf_1_s4 r9 v7 x8 x9 v8)), .loop .go ((slices_symMergeCmpFunc_int_impl_OrderOf_1_s4 r9 v7 x8 x9 v8)), .el (E3 x9), .nb 0 (.row 3 (List.map E3 (v8.set v7.toNat x8)) []), .el (E3 x10), .nb 0 (.row 3 (List.map E3 ((v8.set v7.toNat x8).set ((i64 (v7 - 1)).toNat) x9)) []), .ren [0], .el (E3 x9), .nb 0 (.row 3 (List.map E3 (v8.set v7.toNat x8)) []), .el (E3 x10), .nb 0 (.row 3 (List.map E3 ((v8.set v7.toNat x8).set ((i64 (v7 - 1)).toNat) x9)) []), .ren [0], .ren [0], .el (E3 x9), .nb 0 (.row 3 (List.map E3 (v8.set v7.toNat x8)) []), .el (E3 x10), .nb 0 (.row 3 (List.map E3 ((v8.set v7.toNat x8).set ((i64 (v7 - 1)).toNat) x9)) []), .ren [0], .ren [0], .loop .go ((slices_symMergeCmpFunc_int_impl_OrderOf_1_s4 r9 v7 x8 x9 v8)), .loop .go ((slices_symMergeCmpFunc_int_impl_OrderOf_1_s4 r9 v7 x8 x9 v8)), .el (E3 x9), .nb 0 (.row 3 (List.map E3 (v8.set v7.toNat x8)) []), .el (E3 x10), .nb 0 (.row 3 (List.map E3 ((v8.set v7.toNat x8).set ((i64 (v7 - 1)).toNat) x9)) []), .ren [0], .el (E3 x9), .nb 0 (.row 3 (List.map E3 (v8.set v7.toNat x8)) []), .el (E3 x10), .nb 0 (.row 3 (List.map E3 ((v8.set v7.toNat x8).set ((i64 (v7 - 1)).toNat) x9)) []), .ren [0], .ren [0], .loop .go ((slices_symMergeCmpFunc_int_impl_OrderOf_1_s4 r9 v7 x8 x9 v8)), .el (E3 x9), .nb 0 (.row 3 (List.map E3 (v8.set v7.toNat x8)) []), .el (E3 x10), .nb 0 (.row 3 (List.map E3 ((v8.set v7.toNat x8).set ((i64 (v7 - 1)).toNat) x9)) []), .ren [0], .el (E3 x9), .nb 0 (.row 3 (List.map E3 (v8.set v7.toNat x8)) []), .el (E3 x10), .nb 0 (.row 3 (List.map E3 ((v8.set v7.toNat x8).set ((i64 (v7 - 1)).toNat) x9)) []), .ren [0], .ren [0], .el (E3 x9), .nb 0 (.row 3 (List.map E3 (v8.set v7.toNat x8)) []), .el (E3 x10), .nb 0 (.row 3 (List.map E3 ((v8.set v7.toNat x8).set ((i64 (v7 - 1)).toNat) x9)) []), .ren [0], .ren [0], .el (E3 x9), .nb 0 (.row 3 (List.map E3 (v8.set v7.toNat x8)) []), .el (E3 x10), .nb 0 (.row 3 (List.map E3 ((v8.set v7.toNat x8).set ((i64 (v7 - 1)).toNat) x9)) []), .ren [0], .wait 4, .mask [0, 14, 17], .ren [0]] (p := [HT Try.prog (sub (codeOf Try.prog 218) [1, 0, 1, 0, 1, 1, 1, 0, 1, 0, 0, 0]) (st 220 [(0, V.ow 0), (14, V.sc (.int .i64 r9)), (17, V.sc (.int .i64 v7))] [Blk.row 3 (List.map E3 v8) []] [some 0]) (X.go) (st 220 [(0, V.ow 0), (14, V.sc (.int .i64 r9)), (17, V.sc (.int .i64 v7))] [Blk.row 3 (List.map E3 v8) []] [some 0]),
             (0 : Int) ≤ (i64 (v7 - 1)),
             ((i64 (v7 - 1)) : Int) < ((List.map E3 v8).length : Int),
             look [] ((i64 (v7 - 1)).toNat) = none,
             (List.map E3 v8)[(i64 (v7 - 1)).toNat]? = some (E3 x8),
             (0 : Int) ≤ v7,
             (v7 : Int) < ((List.map E3 v8).length : Int),
             look [] v7.toNat = none,
             (List.map E3 v8)[v7.toNat]? = some (E3 x9),
             (0 : Int) ≤ v7,
             (v7 : Int) < ((List.map E3 v8).length : Int),
             look [] v7.toNat = none,
             (List.map E3 v8)[v7.toNat]? = some (E3 x9),
             Blk.row 3 ((List.map E3 v8).set v7.toNat (V.sc (.int .i64 x8))) [] = Blk.row 3 (List.map E3 (v8.set v7.toNat x8)) [],
             (0 : Int) ≤ (i64 (v7 - 1)),
             ((i64 (v7 - 1)) : Int) < ((List.map E3 (v8.set v7.toNat x8)).length : Int),
             look [] ((i64 (v7 - 1)).toNat) = none,
             (List.map E3 (v8.set v7.toNat x8))[(i64 (v7 - 1)).toNat]? = some (E3 x10),
             Blk.row 3 ((List.map E3 (v8.set v7.toNat x8)).set ((i64 (v7 - 1)).toNat) (V.sc (.int .i64 x9))) [] = Blk.row 3 (List.map E3 ((v8.set v7.toNat x8).set ((i64 (v7 - 1)).toNat) x9)) [],
             (slices_symMergeCmpFunc_int_impl_OrderOf_1_s4 r9 v7 x8 x9 v8) = (slices_symMergeCmpFunc_int_impl_OrderOf_1_s4 r9 v7 x8 x9 v8),
             look [] v7.toNat = none,
             (List.map E3 v8)[v7.toNat]? = some (E3 x9),
             Blk.row 3 ((List.map E3 v8).set v7.toNat (V.sc (.int .i64 x8))) [] = Blk.row 3 (List.map E3 (v8.set v7.toNat x8)) [],
             (0 : Int) ≤ (i64 (v7 - 1)),
             ((i64 (v7 - 1)) : Int) < ((List.map E3 (v8.set v7.toNat x8)).length : Int),
             look [] ((i64 (v7 - 1)).toNat) = none,
             (List.map E3 (v8.set v7.toNat x8))[(i64 (v7 - 1)).toNat]? = some (E3 x10),
             Blk.row 3 ((List.map E3 (v8.set v7.toNat x8)).set ((i64 (v7 - 1)).toNat) (V.sc (.int .i64 x9))) [] = Blk.row 3 (List.map E3 ((v8.set v7.toNat x8).set ((i64 (v7 - 1)).toNat) x9)) [],
             (slices_symMergeCmpFunc_int_impl_OrderOf_1_s4 r9 v7 x8 x9 v8) = (slices_symMergeCmpFunc_int_impl_OrderOf_1_s4 r9 v7 x8 x9 v8),
             (slices_symMergeCmpFunc_int_impl_OrderOf_1_s4 r9 v7 x8 x9 v8) = (slices_symMergeCmpFunc_int_impl_OrderOf_1_s4 r9 v7 x8 x9 v8),
             look [] v7.toNat = none,
             (List.map E3 v8)[v7.toNat]? = some (E3 x9),
             Blk.row 3 ((List.map E3 v8).set v7.toNat (V.sc (.int .i64 x8))) [] = Blk.row 3 (List.map E3 (v8.set v7.toNat x8)) [],
             (0 : Int) ≤ (i64 (v7 - 1)),
             ((i64 (v7 - 1)) : Int) < ((List.map E3 (v8.set v7.toNat x8)).length : Int),
             look [] ((i64 (v7 - 1)).toNat) = none,
             (List.map E3 (v8.set v7.toNat x8))[(i64 (v7 - 1)).toNat]? = some (E3 x10),
             Blk.row 3 ((List.map E3 (v8.set v7.toNat x8)).set ((i64 (v7 - 1)).toNat) (V.sc (.int .i64 x9))) [] = Blk.row 3 (List.map E3 ((v8.set v7.toNat x8).set ((i64 (v7 - 1)).toNat) x9)) [],
             (slices_symMergeCmpFunc_int_impl_OrderOf_1_s4 r9 v7 x8 x9 v8) = (slices_symMergeCmpFunc_int_impl_OrderOf_1_s4 r9 v7 x8 x9 v8),
             (slices_symMergeCmpFunc_int_impl_OrderOf_1_s4 r9 v7 x8 x9 v8) = (slices_symMergeCmpFunc_int_impl_OrderOf_1_s4 r9 v7 x8 x9 v8),
             look [] v7.toNat = none,
             (List.map E3 v8)[v7.toNat]? = some (E3 x9),
             Blk.row 3 ((List.map E3 v8).set v7.toNat (V.sc (.int .i64 x8))) [] = Blk.row 3 (List.map E3 (v8.set v7.toNat x8)) [],
             (0 : Int) ≤ (i64 (v7 - 1)),
             ((i64 (v7 - 1)) : Int) < ((List.map E3 (v8.set v7.toNat x8)).length : Int),
             look [] ((i64 (v7 - 1)).toNat) = none,
             (List.map E3 (v8.set v7.toNat x8))[(i64 (v7 - 1)).toNat]? = some (E3 x10),
             Blk.row 3 ((List.map E3 (v8.set v7.toNat x8)).set ((i64 (v7 - 1)).toNat) (V.sc (.int .i64 x9))) [] = Blk.row 3 (List.map E3 ((v8.set v7.toNat x8).set ((i64 (v7 - 1)).toNat) x9)) [],
             (slices_symMergeCmpFunc_int_impl_OrderOf_1_s4 r9 v7 x8 x9 v8) = (slices_symMergeCmpFunc_int_impl_OrderOf_1_s4 r9 v7 x8 x9 v8),
             look [] v7.toNat = none,
             (List.map E3 v8)[v7.toNat]? = some (E3 x9),
             Blk.row 3 ((List.map E3 v8).set v7.toNat (V.sc (.int .i64 x8))) [] = Blk.row 3 (List.map E3 (v8.set v7.toNat x8)) [],
             (0 : Int) ≤ (i64 (v7 - 1)),
             ((i64 (v7 - 1)) : Int) < ((List.map E3 (v8.set v7.toNat x8)).length : Int),
             look [] ((i64 (v7 - 1)).toNat) = none,
             (List.map E3 (v8.set v7.toNat x8))[(i64 (v7 - 1)).toNat]? = some (E3 x10),
             Blk.row 3 ((List.map E3 (v8.set v7.toNat x8)).set ((i64 (v7 - 1)).toNat) (V.sc (.int .i64 x9))) [] = Blk.row 3 (List.map E3 ((v8.set v7.toNat x8).set ((i64 (v7 - 1)).toNat) x9)) [],
             (slices_symMergeCmpFunc_int_impl_OrderOf_1_s4 r9 v7 x8 x9 v8) = (slices_symMergeCmpFunc_int_impl_OrderOf_1_s4 r9 v7 x8 x9 v8),
             (slices_symMergeCmpFunc_int_impl_OrderOf_1_s4 r9 v7 x8 x9 v8) = (slices_symMergeCmpFunc_int_impl_OrderOf_1_s4 r9 v7 x8 x9 v8),
             look [] v7.toNat = none,
             (List.map E3 v8)[v7.toNat]? = some (E3 x9),
             Blk.row 3 ((List.map E3 v8).set v7.toNat (V.sc (.int .i64 x8))) [] = Blk.row 3 (List.map E3 (v8.set v7.toNat x8)) [],
             (0 : Int) ≤ (i64 (v7 - 1)),
             ((i64 (v7 - 1)) : Int) < ((List.map E3 (v8.set v7.toNat x8)).length : Int),
             look [] ((i64 (v7 - 1)).toNat) = none,
             (List.map E3 (v8.set v7.toNat x8))[(i64 (v7 - 1)).toNat]? = some (E3 x10),
             Blk.row 3 ((List.map E3 (v8.set v7.toNat x8)).set ((i64 (v7 - 1)).toNat) (V.sc (.int .i64 x9))) [] = Blk.row 3 (List.map E3 ((v8.set v7.toNat x8).set ((i64 (v7 - 1)).toNat) x9)) [],
             (slices_symMergeCmpFunc_int_impl_OrderOf_1_s4 r9 v7 x8 x9 v8) = (slices_symMergeCmpFunc_int_impl_OrderOf_1_s4 r9 v7 x8 x9 v8),
             look [] v7.toNat = none,
             (List.map E3 v8)[v7.toNat]? = some (E3 x9),
             Blk.row 3 ((List.map E3 v8).set v7.toNat (V.sc (.int .i64 x8))) [] = Blk.row 3 (List.map E3 (v8.set v7.toNat x8)) [],
             (0 : Int) ≤ (i64 (v7 - 1)),
             ((i64 (v7 - 1)) : Int) < ((List.map E3 (v8.set v7.toNat x8)).length : Int),
             look [] ((i64 (v7 - 1)).toNat) = none,
             (List.map E3 (v8.set v7.toNat x8))[(i64 (v7 - 1)).toNat]? = some (E3 x10),
             Blk.row 3 ((List.map E3 (v8.set v7.toNat x8)).set ((i64 (v7 - 1)).toNat) (V.sc (.int .i64 x9))) [] = Blk.row 3 (List.map E3 ((v8.set v7.toNat x8).set ((i64 (v7 - 1)).toNat) x9)) [],
             (slices_symMergeCmpFunc_int_impl_OrderOf_1_s4 r9 v7 x8 x9 v8) = (slices_symMergeCmpFunc_int_impl_OrderOf_1_s4 r9 v7 x8 x9 v8),
             (slices_symMergeCmpFunc_int_impl_OrderOf_1_s4 r9 v7 x8 x9 v8) = (slices_symMergeCmpFunc_int_impl_OrderOf_1_s4 r9 v7 x8 x9 v8),
             look [] v7.toNat = none,
             (List.map E3 v8)[v7.toNat]? = some (E3 x9),
             Blk.row 3 ((List.map E3 v8).set v7.toNat (V.sc (.int .i64 x8))) [] = Blk.row 3 (List.map E3 (v8.set v7.toNat x8)) [],
             (0 : Int) ≤ (i64 (v7 - 1)),
             ((i64 (v7 - 1)) : Int) < ((List.map E3 (v8.set v7.toNat x8)).length : Int),
             look [] ((i64 (v7 - 1)).toNat) = none,
             (List.map E3 (v8.set v7.toNat x8))[(i64 (v7 - 1)).toNat]? = some (E3 x10),
             Blk.row 3 ((List.map E3 (v8.set v7.toNat x8)).set ((i64 (v7 - 1)).toNat) (V.sc (.int .i64 x9))) [] = Blk.row 3 (List.map E3 ((v8.set v7.toNat x8).set ((i64 (v7 - 1)).toNat) x9)) [],
             (slices_symMergeCmpFunc_int_impl_OrderOf_1_s4 r9 v7 x8 x9 v8) = (slices_symMergeCmpFunc_int_impl_OrderOf_1_s4 r9 v7 x8 x9 v8),
             (slices_symMergeCmpFunc_int_impl_OrderOf_1_s4 r9 v7 x8 x9 v8) = (slices_symMergeCmpFunc_int_impl_OrderOf_1_s4 r9 v7 x8 x9 v8),
             look [] v7.toNat = none,
             (List.map E3 v8)[v7.toNat]? = some (E3 x9),
             Blk.row 3 ((List.map E3 v8).set v7.toNat (V.sc (.int .i64 x8))) [] = Blk.row 3 (List.map E3 (v8.set v7.toNat x8)) [],
             (0 : Int) ≤ (i64 (v7 - 1)),
             ((i64 (v7 - 1)) : Int) < ((List.map E3 (v8.set v7.toNat x8)).length : Int),
             look [] ((i64 (v7 - 1)).toNat) = none,
             (List.map E3 (v8.set v7.toNat x8))[(i64 (v7 - 1)).toNat]? = some (E3 x10),
             Blk.row 3 ((List.map E3 (v8.set v7.toNat x8)).set ((i64 (v7 - 1)).toNat) (V.sc (.int .i64 x9))) [] = Blk.row 3 (List.map E3 ((v8.set v7.toNat x8).set ((i64 (v7 - 1)).toNat) x9)) [],
             (slices_symMergeCmpFunc_int_impl_OrderOf_1_s4 r9 v7 x8 x9 v8) = (slices_symMergeCmpFunc_int_impl_OrderOf_1_s4 r9 v7 x8 x9 v8)]) (by kernel_rfl) (cj ((slices_symMergeCmpFunc_int_impl_OrderOf_1_c9_ok r9 v7 v8 r10 h39).at h40) (cj (od h42) (cj (map_ltN (od h42) h43) (cj rfl (cj (map_get h43) (cj (od h44) (cj (map_ltN (od h44) h45) (cj rfl (cj (map_get h45) (cj (od h44) (cj (map_ltN (od h44) h45) (cj rfl (cj (map_get h45) (cj (nb_set E3 _ _ x8) (cj (od h42) (cj (map_ltN (od h42) h46) (cj rfl (cj (map_get h46) (cj (nb_set E3 _ _ x9) (cj rfl (cj rfl (cj (map_get h45) (cj (nb_set E3 _ _ x8) (cj (od h42) (cj (map_ltN (od h42) h46) (cj rfl (cj (map_get h46) (cj (nb_set E3 _ _ x9) (cj rfl (cj rfl (cj rfl (cj (map_get h45) (cj (nb_set E3 _ _ x8) (cj (od h42) (cj (map_ltN (od h42) h46) (cj rfl (cj (map_get h46) (cj (nb_set E3 _ _ x9) (cj rfl (cj rfl (cj rfl (cj (map_get h45) (cj (nb_set E3 _ _ x8) (cj (od h42) (cj (map_ltN (od h42) h46) (cj rfl (cj (map_get h46) (cj (nb_set E3 _ _ x9) (cj rfl (cj rfl (cj (map_get h45) (cj (nb_set E3 _ _ x8) (cj (od h42) (cj (map_ltN (od h42) h46) (cj rfl (cj (map_get h46) (cj (nb_set E3 _ _ x9) (cj rfl (cj rfl (cj rfl (cj (map_get h45) (cj (nb_set E3 _ _ x8) (cj (od h42) (cj (map_ltN (od h42) h46) (cj rfl (cj (map_get h46) (cj (nb_set E3 _ _ x9) (cj rfl (cj rfl (cj (map_get h45) (cj (nb_set E3 _ _ x8) (cj (od h42) (cj (map_ltN (od h42) h46) (cj rfl (cj (map_get h46) (cj (nb_set E3 _ _ x9) (cj rfl (cj rfl (cj rfl (cj (map_get h45) (cj (nb_set E3 _ _ x8) (cj (od h42) (cj (map_ltN (od h42) h46) (cj rfl (cj (map_get h46) (cj (nb_set E3 _ _ x9) (cj rfl (cj rfl (cj rfl (cj (map_get h45) (cj (nb_set E3 _ _ x8) (cj (od h42) (cj (map_ltN (od h42) h46) (cj rfl (cj (map_get h46) (cj (nb_set E3 _ _ x9) (cj1 rfl))))))))))))))))))))))))))))))))))))))))))))))))))))))))))))))))))))))))))))))))))))))))))))))))) (slices_symMergeCmpFunc_int_impl_OrderOf_1_l3_ok r9 fuel (i64 (v7 - 1)) ((v8.set v7.toNat x8).set ((i64 (v7 - 1)).toNat) x9))))) (fun h44 =>
          Pn.none))) (fun h42 =>
        Pn.none)) (fun s10 h41 =>
       Pn.some (LpO.out [.wait 1, .mask [0, 14, 17], .ren [0], .join 5 (X.out 6) (st 220 [] [Blk.row 3 (List.map E3 v8) []] [some 0]), .wait 1, .mask [], .ren [0]] (p := [HT Try.prog (sub (codeOf Try.prog 218) [1, 0, 1, 0, 1, 1, 1, 0, 1, 0, 0, 0]) (st 220 [(0, V.ow 0), (14, V.sc (.int .i64 r9)), (17, V.sc (.int .i64 v7))] [Blk.row 3 (List.map E3 v8) []] [some 0]) (X.out 6) (st 220 [] [Blk.row 3 (List.map E3 v8) []] [some 0])]) (by kernel_rfl) (show X.out 6 ≠ X.go from nofun) (cj1 ((slices_symMergeCmpFunc_int_impl_OrderOf_1_c9_ok r9 v7 v8 r10 h39).at h41)))))
def slices_symMergeCmpFunc_int_impl_OrderOf_1_c5 (o : List Int) (o_ : Int) (a2 : Int) (a3 : Int) (a40_0 : List Stripe) (a40_1 : Int) (a40_2 : Int) (a40_3 : List Task) : Option (Lo Unit ((List Int))) :=
 if ((i64 (a3 - a2)) == 1) = true then
  (slices_symMergeCmpFunc_int_impl_OrderOf_1_l2 o a2 a40_0 a40_1 a40_2 a40_3 FUEL o_ a2).bind fun r9 =>
  (slices_symMergeCmpFunc_int_impl_OrderOf_1_l3 r9 FUEL a2 o).bind fun r11 =>
  some (.ret r11)
 else
  some (.out ())
theorem slices_symMergeCmpFunc_int_impl_OrderOf_1_c5_ok (o : List Int) (o_ : Int) (a2 : Int) (a3 : Int) (a40_0 : List Stripe) (a40_1 : Int) (a40_2 : Int) (a40_3 : List Task) : Pn (JnO Try.prog (sub (codeOf Try.prog 218) [1, 0]) (st 220 [(0, V.ow 0), (1, V.sc (.int .i64 o_)), (2, V.sc (.int .i64 a2)), (3, V.sc (.int .i64 a3)), (4, V.fn 163 [V.cp [V.sl true 58 (List.map E58 a40_0), V.sc (.int .i64 a40_1), V.sc (.int .i64 a40_2), V.sl true 137 (List.map E137 a40_3)]])] [Blk.row 3 (List.map E3 o) []] [some 0]) (fun (y : Lo Unit ((List Int))) => Lo.elim y (fun s => (X.go, st 220 [(0, V.ow 0), (1, V.sc (.int .i64 o_)), (2, V.sc (.int .i64 a2)), (3, V.sc (.int .i64 a3)), (4, V.fn 163 [V.cp [V.sl true 58 (List.map E58 a40_0), V.sc (.int .i64 a40_1), V.sc (.int .i64 a40_2), V.sl true 137 (List.map E137 a40_3)]])] [Blk.row 3 (List.map E3 o) []] [some 0])) (fun s => (X.ret, st 220 [] [Blk.row 3 (List.map E3 s) []] [some 0])))) (slices_symMergeCmpFunc_int_impl_OrderOf_1_c5 o o_ a2 a3 a40_0 a40_1 a40_2 a40_3) := by
  unfold slices_symMergeCmpFunc_int_impl_OrderOf_1_c5
  exact
   Pn.ite (fun h26 =>
    Pn.bind (fun r9 h37 =>
     Pn.bind (fun r11 h47 =>
      Pn.some (JnO.of [.bit true, .wait 4, .mask [0, 2, 4, 14, 15], .ren [0], .loop (X.out 4) (st 220 [(0, V.ow 0), (2, V.sc (.int .i64 a2)), (14, V.sc (.int .i64 r9))] [Blk.row 3 (List.map E3 o) []] [some 0]), .wait 3, .mask [0, 14, 17], .ren [0], .loop (X.out 6) (st 220 [] [Blk.row 3 (List.map E3 r11) []] [some 0]), .wait 1, .mask [], .ren [0]] (p := [((i64 (a3 - a2)) == 1) = true,
       Loop Try.prog (sub (codeOf Try.prog 218) [1, 0, 1, 0, 1, 1, 0, 0, 0]) (st 220 [(0, V.ow 0), (2, V.sc (.int .i64 a2)), (4, V.fn 163 [V.cp [V.sl true 58 (List.map E58 a40_0), V.sc (.int .i64 a40_1), V.sc (.int .i64 a40_2), V.sl true 137 (List.map E137 a40_3)]]), (14, V.sc (.int .i64 o_)), (15, V.sc (.int .i64 a2))] [Blk.row 3 (List.map E3 o) []] [some 0]) (X.out 4) (st 220 [(0, V.ow 0), (2, V.sc (.int .i64 a2)), (14, V.sc (.int .i64 r9))] [Blk.row 3 (List.map E3 o) []] [some 0]),
       Loop Try.prog (sub (codeOf Try.prog 218) [1, 0, 1, 0, 1, 1, 1, 0, 1, 0, 0]) (st 220 [(0, V.ow 0), (14, V.sc (.int .i64 r9)), (17, V.sc (.int .i64 a2))] [Blk.row 3 (List.map E3 o) []] [some 0]) (X.out 6) (st 220 [] [Blk.row 3 (List.map E3 r11) []] [some 0])]) (by kernel_rfl) (cj h26 (cj (slices_symMergeCmpFunc_int_impl_OrderOf_1_l2_ok o a2 a40_0 a40_1 a40_2 a40_3 FUEL o_ a2 r9 h37) (cj1 (slices_symMergeCmpFunc_int_impl_OrderOf_1_l3_ok r9 FUEL a2 o r11 h47)))))))) (fun h26 =>
    Pn.some (JnO.of [.bit false, .mask [0, 1, 2, 3, 4], .ren [0]] (p := [((i64 (a3 - a2)) == 1) = false]) (by kernel_rfl) (cj1 h26)))
def slices_symMergeCmpFunc_int_impl_OrderOf_1_c10 (o : List Int) (o_ : Int) (a2 : Int) (a3 : Int) (a40_0 : List Stripe) (a40_1 : Int) (a40_2 : Int) (a40_3 : List Task) : Option (Int × Int) :=
 if (decide ((i64 (bshr .u64 (u64 (i64 (o_ + a3))) 1)) < a2)) = true then
  some (i64 ((i64 ((i64 (bshr .u64 (u64 (i64 (o_ + a3))) 1)) + a2)) - a3), i64 (bshr .u64 (u64 (i64 (o_ + a3))) 1))
 else
  some (o_, a2)
theorem slices_symMergeCmpFunc_int_impl_OrderOf_1_c10_ok (o : List Int) (o_ : Int) (a2 : Int) (a3 : Int) (a40_0 : List Stripe) (a40_1 : Int) (a40_2 : Int) (a40_3 : List Task) : Pn (JnO Try.prog (sub (codeOf Try.prog 218) [1, 1, 1, 1, 1, 0]) (st 220 [(0, V.ow 0), (1, V.sc (.int .i64 o_)), (2, V.sc (.int .i64 a2)), (3, V.sc (.int .i64 a3)), (4, V.fn 163 [V.cp [V.sl true 58 (List.map E58 a40_0), V.sc (.int .i64 a40_1), V.sc (.int .i64 a40_2), V.sl true 137 (List.map E137 a40_3)]]), (18, V.sc (.int .i64 (i64 (bshr .u64 (u64 (i64 (o_ + a3))) 1)))), (19, V.sc (.int .i64 (i64 ((i64 (bshr .u64 (u64 (i64 (o_ + a3))) 1)) + a2))))] [Blk.row 3 (List.map E3 o) []] [some 0]) (fun (y : Int × Int) => (X.go, st 220 [(0, V.ow 0), (1, V.sc (.int .i64 o_)), (2, V.sc (.int .i64 a2)), (3, V.sc (.int .i64 a3)), (4, V.fn 163 [V.cp [V.sl true 58 (List.map E58 a40_0), V.sc (.int .i64 a40_1), V.sc (.int .i64 a40_2), V.sl true 137 (List.map E137 a40_3)]]), (18, V.sc (.int .i64 (i64 (bshr .u64 (u64 (i64 (o_ + a3))) 1)))), (19, V.sc (.int .i64 (i64 ((i64 (bshr .u64 (u64 (i64 (o_ + a3))) 1)) + a2)))), (20, V.sc (.int .i64 y.1)), (21, V.sc (.int .i64 y.2))] [Blk.row 3 (List.map E3 o) []] [some 0]))) (slices_symMergeCmpFunc_int_impl_OrderOf_1_c10 o o_ a2 a3 a40_0 a40_1 a40_2 a40_3) := by
  unfold slices_symMergeCmpFunc_int_impl_OrderOf_1_c10
  exact
   Pn.ite (fun h51 =>
    Pn.some (JnO.of [.bit true, .wait 6, .mask [0, 1, 2, 3, 4, 18, 19, 20, 21], .ren [0]] (p := [(decide ((i64 (bshr .u64 (u64 (i64 (o_ + a3))) 1)) < a2)) = true]) (by kernel_rfl) (cj1 h51))) (fun h51 =>
    Pn.some (JnO.of [.bit false, .wait 4, .mask [0, 1, 2, 3, 4, 18, 19, 20, 21], .ren [0]] (p := [(decide ((i64 (bshr .u64 (u64 (i64 (o_ + a3))) 1)) < a2)) = false]) (by kernel_rfl) (cj1 h51)))
def slices_symMergeCmpFunc_int_impl_OrderOf_1_c12 (o : List Int) (o_ : Int) (a2 : Int) (a3 : Int) (a40_0 : List Stripe) (a40_1 : Int) (a40_2 : Int) (a40_3 : List Task) (v9 : Int) (v10 : Int) : Option (Lo Unit Unit) :=
 if (decide (v9 < v10)) = true then
  some (.out ())
 else
  some (.ret ())
theorem slices_symMergeCmpFunc_int_impl_OrderOf_1_c12_ok (o : List Int) (o_ : Int) (a2 : Int) (a3 : Int) (a40_0 : List Stripe) (a40_1 : Int) (a40_2 : Int) (a40_3 : List Task) (v9 : Int) (v10 : Int) : Pn (JnO Try.prog (sub (codeOf Try.prog 218) [1, 1, 1, 1, 1, 1, 1, 0, 0, 0, 0]) (st 220 [(0, V.ow 0), (1, V.sc (.int .i64 o_)), (2, V.sc (.int .i64 a2)), (3, V.sc (.int .i64 a3)), (4, V.fn 163 [V.cp [V.sl true 58 (List.map E58 a40_0), V.sc (.int .i64 a40_1), V.sc (.int .i64 a40_2), V.sl true 137 (List.map E137 a40_3)]]), (18, V.sc (.int .i64 (i64 (bshr .u64 (u64 (i64 (o_ + a3))) 1)))), (19, V.sc (.int .i64 (i64 ((i64 (bshr .u64 (u64 (i64 (o_ + a3))) 1)) + a2)))), (20, V.sc (.int .i64 v9)), (21, V.sc (.int .i64 v10)), (22, V.sc (.int .i64 (i64 ((i64 ((i64 (bshr .u64 (u64 (i64 (o_ + a3))) 1)) + a2)) - 1))))] [Blk.row 3 (List.map E3 o) []] [some 0]) (fun (y : Lo Unit Unit) => Lo.elim y (fun s => (X.go, st 220 [(0, V.ow 0), (1, V.sc (.int .i64 o_)), (2, V.sc (.int .i64 a2)), (3, V.sc (.int .i64 a3)), (4, V.fn 163 [V.cp [V.sl true 58 (List.map E58 a40_0), V.sc (.int .i64 a40_1), V.sc (.int .i64 a40_2), V.sl true 137 (List.map E137 a40_3)]]), (18, V.sc (.int .i64 (i64 (bshr .u64 (u64 (i64 (o_ + a3))) 1)))), (19, V.sc (.int .i64 (i64 ((i64 (bshr .u64 (u64 (i64 (o_ + a3))) 1)) + a2)))), (20, V.sc (.int .i64 v9)), (21, V.sc (.int .i64 v10)), (22, V.sc (.int .i64 (i64 ((i64 ((i64 (bshr .u64 (u64 (i64 (o_ + a3))) 1)) + a2)) - 1))))] [Blk.row 3 (List.map E3 o) []] [some 0])) (fun s => (X.out 8, st 220 [(0, V.ow 0), (1, V.sc (.int .i64 o_)), (2, V.sc (.int .i64 a2)), (3, V.sc (.int .i64 a3)), (4, V.fn 163 [V.cp [V.sl true 58 (List.map E58 a40_0), V.sc (.int .i64 a40_1), V.sc (.int .i64 a40_2), V.sl true 137 (List.map E137 a40_3)]]), (18, V.sc (.int .i64 (i64 (bshr .u64 (u64 (i64 (o_ + a3))) 1)))), (19, V.sc (.int .i64 (i64 ((i64 (bshr .u64 (u64 (i64 (o_ + a3))) 1)) + a2)))), (20, V.sc (.int .i64 v9))] [Blk.row 3 (List.map E3 o) []] [some 0])))) (slices_symMergeCmpFunc_int_impl_OrderOf_1_c12 o o_ a2 a3 a40_0 a40_1 a40_2 a40_3 v9 v10) := by
  unfold slices_symMergeCmpFunc_int_impl_OrderOf_1_c12
  exact
   Pn.ite (fun h53 =>
    Pn.some (JnO.of [.bit true, .mask [0, 1, 2, 3, 4, 18, 19, 20, 21, 22], .ren [0]] (p := [(decide (v9 < v10)) = true]) (by kernel_rfl) (cj1 h53))) (fun h53 =>
    Pn.some (JnO.of [.bit false, .mask [0, 1, 2, 3, 4, 18, 19, 20], .ren [0]] (p := [(decide (v9 < v10)) = false]) (by kernel_rfl) (cj1 h53)))
def slices_symMergeCmpFunc_int_impl_OrderOf_1_l4 (o : List Int) (o_ : Int) (a2 : Int) (a3 : Int) (a40_0 : List Stripe) (a40_1 : Int) (a40_2 : Int) (a40_3 : List Task) : Nat → Int → Int → Option (Int)
  | 0, _, _ => none
  | fuel + 1, v9, v10 =>
   (slices_symMergeCmpFunc_int_impl_OrderOf_1_c12 o o_ a2 a3 a40_0 a40_1 a40_2 a40_3 v9 v10).bind fun r14 =>
   Lo.elim r14 (fun s13 =>
    if (decide (0 ≤ (i64 ((i64 ((i64 ((i64 (bshr .u64 (u64 (i64 (o_ + a3))) 1)) + a2)) - 1)) - (i64 (bshr .u64 (u64 (i64 (v9 + v10))) 1)))))) = true then
     (o[(i64 ((i64 ((i64 ((i64 (bshr .u64 (u64 (i64 (o_ + a3))) 1)) + a2)) - 1)) - (i64 (bshr .u64 (u64 (i64 (v9 + v10))) 1)))).toNat]?).bind fun x11 =>
     if (decide (0 ≤ (i64 (bshr .u64 (u64 (i64 (v9 + v10))) 1)))) = true then
      (o[(i64 (bshr .u64 (u64 (i64 (v9 + v10))) 1)).toNat]?).bind fun x12 =>
      (impl_OrderOf_1 x11 x12 a40_0 a40_1 a40_2 a40_3).bind fun r15 =>
      if (decide (r15 < 0)) = true then
       slices_symMergeCmpFunc_int_impl_OrderOf_1_l4 o o_ a2 a3 a40_0 a40_1 a40_2 a40_3 fuel v9 (i64 (bshr .u64 (u64 (i64 (v9 + v10))) 1))
      else
       slices_symMergeCmpFunc_int_impl_OrderOf_1_l4 o o_ a2 a3 a40_0 a40_1 a40_2 a40_3 fuel (i64 ((i64 (bshr .u64 (u64 (i64 (v9 + v10))) 1)) + 1)) v10
     else none
    else none) (fun s14 =>
    some v9)
theorem slices_symMergeCmpFunc_int_impl_OrderOf_1_l4_ok (o : List Int) (o_ : Int) (a2 : Int) (a3 : Int) (a40_0 : List Stripe) (a40_1 : Int) (a40_2 : Int) (a40_3 : List Task) : ∀ (fuel : Nat) (v9 : Int) (v10 : Int), Pn (LpO Try.prog (sub (codeOf Try.prog 218) [1, 1, 1, 1, 1, 1, 1, 0, 0, 0]) (st 220 [(0, V.ow 0), (1, V.sc (.int .i64 o_)), (2, V.sc (.int .i64 a2)), (3, V.sc (.int .i64 a3)), (4, V.fn 163 [V.cp [V.sl true 58 (List.map E58 a40_0), V.sc (.int .i64 a40_1), V.sc (.int .i64 a40_2), V.sl true 137 (List.map E137 a40_3)]]), (18, V.sc (.int .i64 (i64 (bshr .u64 (u64 (i64 (o_ + a3))) 1)))), (19, V.sc (.int .i64 (i64 ((i64 (bshr .u64 (u64 (i64 (o_ + a3))) 1)) + a2)))), (20, V.sc (.int .i64 v9)), (21, V.sc (.int .i64 v10)), (22, V.sc (.int .i64 (i64 ((i64 ((i64 (bshr .u64 (u64 (i64 (o_ + a3))) 1)) + a2)) - 1))))] [Blk.row 3 (List.map E3 o) []] [some 0]) (fun (y : Int) => (X.out 8, st 220 [(0, V.ow 0), (1, V.sc (.int .i64 o_)), (2, V.sc (.int .i64 a2)), (3, V.sc (.int .i64 a3)), (4, V.fn 163 [V.cp [V.sl true 58 (List.map E58 a40_0), V.sc (.int .i64 a40_1), V.sc (.int .i64 a40_2), V.sl true 137 (List.map E137 a40_3)]]), (18, V.sc (.int .i64 (i64 (bshr .u64 (u64 (i64 (o_ + a3))) 1)))), (19, V.sc (.int .i64 (i64 ((i64 (bshr .u64 (u64 (i64 (o_ + a3))) 1)) + a2)))), (20, V.sc (.int .i64 y))] [Blk.row 3 (List.map E3 o) []] [some 0]))) (slices_symMergeCmpFunc_int_impl_OrderOf_1_l4 o o_ a2 a3 a40_0 a40_1 a40_2 a40_3 fuel v9 v10)
  | 0, _, _ => Pn.none
  | fuel + 1, v9, v10 => by
    unfold slices_symMergeCmpFunc_int_impl_OrderOf_1_l4
    exact
     Pn.bind (fun r14 h54 =>
      Pn.lo (fun s13 h55 =>
       Pn.ite (fun h57 =>
        Pn.bind (fun x11 h58 =>
         Pn.ite (fun h59 =>
          Pn.bind (fun x12 h60 =>
           Pn.bind (fun r15 h61 =>
            Pn.ite (fun h62 =>
             LpO.go [.wait 1, .mask [0, 1, 2, 3, 4, 18, 19, 20, 21, 22], .ren [0], .join 5 (X.go) (st 220 [(0, V.ow 0), (1, V.sc (.int .i64 o_)), (2, V.sc (.int .i64 a2)), (3, V.sc (.int .i64 a3)), (4, V.fn 163 [V.cp [V.sl true 58 (List.map E58 a40_0), V.sc (.int .i64 a40_1), V.sc (.int .i64 a40_2), V.sl true 137 (List.map E137 a40_3)]]), (18, V.sc (.int .i64 (i64 (bshr .u64 (u64 (i64 (o_ + a3))) 1)))), (19, V.sc (.int .i64 (i64 ((i64 (bshr .u64 (u64 (i64 (o_ + a3))) 1)) + a2)))), (20, V.sc (.int .i64 v9)), (21, V.sc (.int .i64 v10)), (22, V.sc (.int .i64 (i64 ((i64 ((i64 (bshr .u64 (u64 (i64 (o_ + a3))) 1)) + a2)) - 1))))] [Blk.row 3 (List.map E3 o) []] [some 0]), .draw [], .el (E3 x11), .el (E3 x12), .call [] (E3 r15) [], .bit false, .wait 2, .mask [0, 1, 2, 3, 4, 18, 19, 20, 21, 22], .ren [0]] (p := [HT Try.prog (sub (codeOf Try.prog 218) [1, 1, 1, 1, 1, 1, 1, 0, 0, 0, 0]) (st 220 [(0, V.ow 0), (1, V.sc (.int .i64 o_)), (2, V.sc (.int .i64 a2)), (3, V.sc (.int .i64 a3)), (4, V.fn 163 [V.cp [V.sl true 58 (List.map E58 a40_0), V.sc (.int .i64 a40_1), V.sc (.int .i64 a40_2), V.sl true 137 (List.map E137 a40_3)]]), (18, V.sc (.int .i64 (i64 (bshr .u64 (u64 (i64 (o_ + a3))) 1)))), (19, V.sc (.int .i64 (i64 ((i64 (bshr .u64 (u64 (i64 (o_ + a3))) 1)) + a2)))), (20, V.sc (.int .i64 v9)), (21, V.sc (.int .i64 v10)), (22, V.sc (.int .i64 (i64 ((i64 ((i64 (bshr .u64 (u64 (i64 (o_ + a3))) 1)) + a2)) - 1))))] [Blk.row 3 (List.map E3 o) []] [some 0]) (X.go) (st 220 [(0, V.ow 0), (1, V.sc (.int .i64 o_)), (2, V.sc (.int .i64 a2)), (3, V.sc (.int .i64 a3)), (4, V.fn 163 [V.cp [V.sl true 58 (List.map E58 a40_0), V.sc (.int .i64 a40_1), V.sc (.int .i64 a40_2), V.sl true 137 (List.map E137 a40_3)]]), (18, V.sc (.int .i64 (i64 (bshr .u64 (u64 (i64 (o_ + a3))) 1)))), (19, V.sc (.int .i64 (i64 ((i64 (bshr .u64 (u64 (i64 (o_ + a3))) 1)) + a2)))), (20, V.sc (.int .i64 v9)), (21, V.sc (.int .i64 v10)), (22, V.sc (.int .i64 (i64 ((i64 ((i64 (bshr .u64 (u64 (i64 (o_ + a3))) 1)) + a2)) - 1))))] [Blk.row 3 (List.map E3 o) []] [some 0]),
              ¬ (1 : Int) < 0,
              (0 : Int) ≤ (i64 ((i64 ((i64 ((i64 (bshr .u64 (u64 (i64 (o_ + a3))) 1)) + a2)) - 1)) - (i64 (bshr .u64 (u64 (i64 (v9 + v10))) 1)))),
              ((i64 ((i64 ((i64 ((i64 (bshr .u64 (u64 (i64 (o_ + a3))) 1)) + a2)) - 1)) - (i64 (bshr .u64 (u64 (i64 (v9 + v10))) 1)))) : Int) < ((List.map E3 o).length : Int),
              look [] ((i64 ((i64 ((i64 ((i64 (bshr .u64 (u64 (i64 (o_ + a3))) 1)) + a2)) - 1)) - (i64 (bshr .u64 (u64 (i64 (v9 + v10))) 1)))).toNat) = none,
              (List.map E3 o)[(i64 ((i64 ((i64 ((i64 (bshr .u64 (u64 (i64 (o_ + a3))) 1)) + a2)) - 1)) - (i64 (bshr .u64 (u64 (i64 (v9 + v10))) 1)))).toNat]? = some (E3 x11),
              (0 : Int) ≤ (i64 (bshr .u64 (u64 (i64 (v9 + v10))) 1)),
              ((i64 (bshr .u64 (u64 (i64 (v9 + v10))) 1)) : Int) < ((List.map E3 o).length : Int),
              look [] ((i64 (bshr .u64 (u64 (i64 (v9 + v10))) 1)).toNat) = none,
              (List.map E3 o)[(i64 (bshr .u64 (u64 (i64 (v9 + v10))) 1)).toNat]? = some (E3 x12),
              Fn Try.prog 163 [(false, E3 x11), (false, E3 x12), (false, V.cp [V.sl true 58 (List.map E58 a40_0), V.sc (.int .i64 a40_1), V.sc (.int .i64 a40_2), V.sl true 137 (List.map E137 a40_3)])] (E3 r15) [],
              (true || ((E3 r15).nv && nvL [])) = true,
              (!(decide (r15 < 0))) = false]) (by kernel_rfl) (cj ((slices_symMergeCmpFunc_int_impl_OrderOf_1_c12_ok o o_ a2 a3 a40_0 a40_1 a40_2 a40_3 v9 v10 r14 h54).at h55) (cj (by decide) (cj (od h57) (cj (map_ltN (od h57) h58) (cj rfl (cj (map_get h58) (cj (od h59) (cj (map_ltN (od h59) h60) (cj rfl (cj (map_get h60) (cj (impl_OrderOf_1_ok x11 x12 a40_0 a40_1 a40_2 a40_3 r15 h61) (cj rfl (cj1 (nf h62)))))))))))))) (slices_symMergeCmpFunc_int_impl_OrderOf_1_l4_ok o o_ a2 a3 a40_0 a40_1 a40_2 a40_3 fuel v9 (i64 (bshr .u64 (u64 (i64 (v9 + v10))) 1)))) (fun h62 =>
             LpO.go [.wait 1, .mask [0, 1, 2, 3, 4, 18, 19, 20, 21, 22], .ren [0], .join 5 (X.go) (st 220 [(0, V.ow 0), (1, V.sc (.int .i64 o_)), (2, V.sc (.int .i64 a2)), (3, V.sc (.int .i64 a3)), (4, V.fn 163 [V.cp [V.sl true 58 (List.map E58 a40_0), V.sc (.int .i64 a40_1), V.sc (.int .i64 a40_2), V.sl true 137 (List.map E137 a40_3)]]), (18, V.sc (.int .i64 (i64 (bshr .u64 (u64 (i64 (o_ + a3))) 1)))), (19, V.sc (.int .i64 (i64 ((i64 (bshr .u64 (u64 (i64 (o_ + a3))) 1)) + a2)))), (20, V.sc (.int .i64 v9)), (21, V.sc (.int .i64 v10)), (22, V.sc (.int .i64 (i64 ((i64 ((i64 (bshr .u64 (u64 (i64 (o_ + a3))) 1)) + a2)) - 1))))] [Blk.row 3 (List.map E3 o) []] [some 0]), .draw [], .el (E3 x11), .el (E3 x12), .call [] (E3 r15) [], .bit true, .wait 3, .mask [0, 1, 2, 3, 4, 18, 19, 20, 21, 22], .ren [0]] (p := [HT Try.prog (sub (codeOf Try.prog 218) [1, 1, 1, 1, 1, 1, 1, 0, 0, 0, 0]) (st 220 [(0, V.ow 0), (1, V.sc (.int .i64 o_)), (2, V.sc (.int .i64 a2)), (3, V.sc (.int .i64 a3)), (4, V.fn 163 [V.cp [V.sl true 58 (List.map E58 a40_0), V.sc (.int .i64 a40_1), V.sc (.int .i64 a40_2), V.sl true 137 (List.map E137 a40_3)]]), (18, V.sc (.int .i64 (i64 (bshr .u64 (u64 (i64 (o_ + a3))) 1)))), (19, V.sc (.int .i64 (i64 ((i64 (bshr .u64 (u64 (i64 (o_ + a3))) 1)) + a2)))), (20, V.sc (.int .i64 v9)), (21, V.sc (.int .i64 v10)), (22, V.sc (.int .i64 (i64 ((i64 ((i64 (bshr .u64 (u64 (i64 (o_ + a3))) 1)) + a2)) - 1))))] [Blk.row 3 (List.map E3 o) []] [some 0]) (X.go) (st 220 [(0, V.ow 0), (1, V.sc (.int .i64 o_)), (2, V.sc (.int .i64 a2)), (3, V.sc (.int .i64 a3)), (4, V.fn 163 [V.cp [V.sl true 58 (List.map E58 a40_0), V.sc (.int .i64 a40_1), V.sc (.int .i64 a40_2), V.sl true 137 (List.map E137 a40_3)]]), (18, V.sc (.int .i64 (i64 (bshr .u64 (u64 (i64 (o_ + a3))) 1)))), (19, V.sc (.int .i64 (i64 ((i64 (bshr .u64 (u64 (i64 (o_ + a3))) 1)) + a2)))), (20, V.sc (.int .i64 v9)), (21, V.sc (.int .i64 v10)), (22, V.sc (.int .i64 (i64 ((i64 ((i64 (bshr .u64 (u64 (i64 (o_ + a3))) 1)) + a2)) - 1))))] [Blk.row 3 (List.map E3 o) []] [some 0]),
              ¬ (1 : Int) < 0,
              (0 : Int) ≤ (i64 ((i64 ((i64 ((i64 (bshr .u64 (u64 (i64 (o_ + a3))) 1)) + a2)) - 1)) - (i64 (bshr .u64 (u64 (i64 (v9 + v10))) 1)))),
              ((i64 ((i64 ((i64 ((i64 (bshr .u64 (u64 (i64 (o_ + a3))) 1)) + a2)) - 1)) - (i64 (bshr .u64 (u64 (i64 (v9 + v10))) 1)))) : Int) < ((List.map E3 o).length : Int),
              look [] ((i64 ((i64 ((i64 ((i64 (bshr .u64 (u64 (i64 (o_ + a3))) 1)) + a2)) - 1)) - (i64 (bshr .u64 (u64 (i64 (v9 + v10))) 1)))).toNat) = none,
              (List.map E3 o)[(i64 ((i64 ((i64 ((i64 (bshr .u64 (u64 (i64 (o_ + a3))) 1)) + a2)) - 1)) - (i64 (bshr .u64 (u64 (i64 (v9 + v10))) 1)))).toNat]? = some (E3 x11),
              (0 : Int) ≤ (i64 (bshr .u64 (u64 (i64 (v9 + v10))) 1)),
              ((i64 (bshr .u64 (u64 (i64 (v9 + v10))) 1)) : Int) < ((List.map E3 o).length : Int),
              look [] ((i64 (bshr .u64 (u64 (i64 (v9 + v10))) 1)).toNat) = none,
              (List.map E3 o)[(i64 (bshr .u64 (u64 (i64 (v9 + v10))) 1)).toNat]? = some (E3 x12),
              Fn Try.prog 163 [(false, E3 x11), (false, E3 x12), (false, V.cp [V.sl true 58 (List.map E58 a40_0), V.sc (.int .i64 a40_1), V.sc (.int .i64 a40_2), V.sl true 137 (List.map E137 a40_3)])] (E3 r15) [],
              (true || ((E3 r15).nv && nvL [])) = true,
              (!(decide (r15 < 0))) = true]) (by kernel_rfl) (cj ((slices_symMergeCmpFunc_int_impl_OrderOf_1_c12_ok o o_ a2 a3 a40_0 a40_1 a40_2 a40_3 v9 v10 r14 h54).at h55) (cj (by decide) (cj (od h57) (cj (map_ltN (od h57) h58) (cj rfl (cj (map_get h58) (cj (od h59) (cj (map_ltN (od h59) h60) (cj rfl (cj (map_get h60) (cj (impl_OrderOf_1_ok x11 x12 a40_0 a40_1 a40_2 a40_3 r15 h61) (cj rfl (cj1 (nt h62)))))))))))))) (slices_symMergeCmpFunc_int_impl_OrderOf_1_l4_ok o o_ a2 a3 a40_0 a40_1 a40_2 a40_3 fuel (i64 ((i64 (bshr .u64 (u64 (i64 (v9 + v10))) 1)) + 1)) v10))))) (fun h59 =>
          Pn.none))) (fun h57 =>
        Pn.none)) (fun s14 h56 =>
       Pn.some (LpO.out [.wait 1, .mask [0, 1, 2, 3, 4, 18, 19, 20, 21, 22], .ren [0], .join 5 (X.out 8) (st 220 [(0, V.ow 0), (1, V.sc (.int .i64 o_)), (2, V.sc (.int .i64 a2)), (3, V.sc (.int .i64 a3)), (4, V.fn 163 [V.cp [V.sl true 58 (List.map E58 a40_0), V.sc (.int .i64 a40_1), V.sc (.int .i64 a40_2), V.sl true 137 (List.map E137 a40_3)]]), (18, V.sc (.int .i64 (i64 (bshr .u64 (u64 (i64 (o_ + a3))) 1)))), (19, V.sc (.int .i64 (i64 ((i64 (bshr .u64 (u64 (i64 (o_ + a3))) 1)) + a2)))), (20, V.sc (.int .i64 v9))] [Blk.row 3 (List.map E3 o) []] [some 0]), .wait 1, .mask [0, 1, 2, 3, 4, 18, 19, 20], .ren [0]] (p := [HT Try.prog (sub (codeOf Try.prog 218) [1, 1, 1, 1, 1, 1, 1, 0, 0, 0, 0]) (st 220 [(0, V.ow 0), (1, V.sc (.int .i64 o_)), (2, V.sc (.int .i64 a2)), (3, V.sc (.int .i64 a3)), (4, V.fn 163 [V.cp [V.sl true 58 (List.map E58 a40_0), V.sc (.int .i64 a40_1), V.sc (.int .i64 a40_2), V.sl true 137 (List.map E137 a40_3)]]), (18, V.sc (.int .i64 (i64 (bshr .u64 (u64 (i64 (o_ + a3))) 1)))), (19, V.sc (.int .i64 (i64 ((i64 (bshr .u64 (u64 (i64 (o_ + a3))) 1)) + a2)))), (20, V.sc (.int .i64 v9)), (21, V.sc (.int .i64 v10)), (22, V.sc (.int .i64 (i64 ((i64 ((i64 (bshr .u64 (u64 (i64 (o_ + a3))) 1)) + a2)) - 1))))] [Blk.row 3 (List.map E3 o) []] [some 0]) (X.out 8) (st 220 [(0, V.ow 0), (1, V.sc (.int .i64 o_)), (2, V.sc (.int .i64 a2)), (3, V.sc (.int .i64 a3)), (4, V.fn 163 [V.cp [V.sl true 58 (List.map E58 a40_0), V.sc (.int .i64 a40_1), V.sc (.int .i64 a40_2), V.sl true 137 (List.map E137 a40_3)]]), (18, V.sc (.int .i64 (i64 (bshr .u64 (u64 (i64 (o_ + a3))) 1)))), (19, V.sc (.int .i64 (i64 ((i64 (bshr .u64 (u64 (i64 (o_ + a3))) 1)) + a2)))), (20, V.sc (.int .i64 v9))] [Blk.row 3 (List.map E3 o) []] [some 0])]) (by kernel_rfl) (show X.out 8 ≠ X.go from nofun) (cj1 ((slices_symMergeCmpFunc_int_impl_OrderOf_1_c12_ok o o_ a2 a3 a40_0 a40_1 a40_2 a40_3 v9 v10 r14 h54).at h56)))))
def slices_symMergeCmpFunc_int_impl_OrderOf_1_c13 (o : List Int) (o_ : Int) (a2 : Int) (a3 : Int) (a40_0 : List Stripe) (a40_1 : Int) (a40_2 : Int) (a40_3 : List Task) (r16 : Int) : Option ((List Int)) :=
 if (decide (r16 < a2)) = true then
  if (decide (a2 < (i64 ((i64 ((i64 (bshr .u64 (u64 (i64 (o_ + a3))) 1)) + a2)) - r16)))) = true then
   (slices_rotateCmpFunc_int_impl_OrderOf_1 o r16 a2 (i64 ((i64 ((i64 (bshr .u64 (u64 (i64 (o_ + a3))) 1)) + a2)) - r16)) a40_0 a40_1 a40_2 a40_3).bind fun r17 =>
   some r17
  else
   some o
 else
  some o
theorem slices_symMergeCmpFunc_int_impl_OrderOf_1_c13_ok (o : List Int) (o_ : Int) (a2 : Int) (a3 : Int) (a40_0 : List Stripe) (a40_1 : Int) (a40_2 : Int) (a40_3 : List Task) (r16 : Int) : Pn (JnO Try.prog (sub (codeOf Try.prog 218) [1, 1, 1, 1, 1, 1, 1, 1, 1, 0]) (st 220 [(0, V.ow 0), (1, V.sc (.int .i64 o_)), (2, V.sc (.int .i64 a2)), (3, V.sc (.int .i64 a3)), (4, V.fn 163 [V.cp [V.sl true 58 (List.map E58 a40_0), V.sc (.int .i64 a40_1), V.sc (.int .i64 a40_2), V.sl true 137 (List.map E137 a40_3)]]), (18, V.sc (.int .i64 (i64 (bshr .u64 (u64 (i64 (o_ + a3))) 1)))), (20, V.sc (.int .i64 r16)), (24, V.sc (.int .i64 (i64 ((i64 ((i64 (bshr .u64 (u64 (i64 (o_ + a3))) 1)) + a2)) - r16))))] [Blk.row 3 (List.map E3 o) []] [some 0]) (fun (y : (List Int)) => (X.go, st 220 [(0, V.ow 0), (1, V.sc (.int .i64 o_)), (3, V.sc (.int .i64 a3)), (4, V.fn 163 [V.cp [V.sl true 58 (List.map E58 a40_0), V.sc (.int .i64 a40_1), V.sc (.int .i64 a40_2), V.sl true 137 (List.map E137 a40_3)]]), (18, V.sc (.int .i64 (i64 (bshr .u64 (u64 (i64 (o_ + a3))) 1)))), (20, V.sc (.int .i64 r16)), (24, V.sc (.int .i64 (i64 ((i64 ((i64 (bshr .u64 (u64 (i64 (o_ + a3))) 1)) + a2)) - r16))))] [Blk.row 3 (List.map E3 y) []] [some 0]))) (slices_symMergeCmpFunc_int_impl_OrderOf_1_c13 o o_ a2 a3 a40_0 a40_1 a40_2 a40_3 r16) := by
  unfold slices_symMergeCmpFunc_int_impl_OrderOf_1_c13
  exact
   Pn.ite (fun h64 =>
    Pn.ite (fun h65 =>
     Pn.bind (fun r17 h66 =>
      Pn.some (JnO.of [.bit true, .bit true, .bit true, .bit true, .bit true, .call [true, false, false, false, false] (V.tup []) [V.sl true 3 (List.map E3 r17)], .wait 1, .mask [0, 1, 3, 4, 18, 20, 24], .ren [0]] (p := [(decide (r16 < a2)) = true,
       (decide (r16 < a2)) = true,
       (decide (r16 < a2)) = true,
       (decide (r16 < a2)) = true,
       (decide (a2 < (i64 ((i64 ((i64 (bshr .u64 (u64 (i64 (o_ + a3))) 1)) + a2)) - r16)))) = true,
       Fn Try.prog 225 [(true, E24 o), (false, E3 r16), (false, E3 a2), (false, E3 (i64 ((i64 ((i64 (bshr .u64 (u64 (i64 (o_ + a3))) 1)) + a2)) - r16))), (false, V.fn 163 [V.cp [V.sl true 58 (List.map E58 a40_0), V.sc (.int .i64 a40_1), V.sc (.int .i64 a40_2), V.sl true 137 (List.map E137 a40_3)]])] (V.tup []) [V.sl true 3 (List.map E3 r17)],
       (true || ((V.tup []).nv && nvL [V.sl true 3 (List.map E3 r17)])) = true]) (by kernel_rfl) (cj h64 (cj h64 (cj h64 (cj h64 (cj h65 (cj (slices_rotateCmpFunc_int_impl_OrderOf_1_ok o r16 a2 (i64 ((i64 ((i64 (bshr .u64 (u64 (i64 (o_ + a3))) 1)) + a2)) - r16)) a40_0 a40_1 a40_2 a40_3 r17 h66) (cj1 rfl)))))))))) (fun h65 =>
     Pn.some (JnO.of [.bit true, .bit true, .bit true, .bit true, .bit false, .mask [0, 1, 3, 4, 18, 20, 24], .ren [0]] (p := [(decide (r16 < a2)) = true,
      (decide (r16 < a2)) = true,
      (decide (r16 < a2)) = true,
      (decide (r16 < a2)) = true,
      (decide (a2 < (i64 ((i64 ((i64 (bshr .u64 (u64 (i64 (o_ + a3))) 1)) + a2)) - r16)))) = false]) (by kernel_rfl) (cj h64 (cj h64 (cj h64 (cj h64 (cj1 h65)))))))) (fun h64 =>
    Pn.some (JnO.of [.bit false, .bit false, .bit false, .bit false, .bit false, .mask [0, 1, 3, 4, 18, 20, 24], .ren [0]] (p := [(decide (r16 < a2)) = false,
     (decide (r16 < a2)) = false,
     (decide (r16 < a2)) = false,
     (decide (r16 < a2)) = false,
     false = false]) (by kernel_rfl) (cj h64 (cj h64 (cj h64 (cj h64 (cj1 rfl)))))))
def slices_symMergeCmpFunc_int_impl_OrderOf_1 : Nat → (List Int) → Int → Int → Int → (List Stripe) → Int → Int → (List Task) → Option ((List Int))
  | 0, _, _, _, _, _, _, _, _ => none
  | fuel + 1, o, o_, a2, a3, a40_0, a40_1, a40_2, a40_3 =>
   (slices_symMergeCmpFunc_int_impl_OrderOf_1_c0 o o_ a2 a3 a40_0 a40_1 a40_2 a40_3).bind fun r6 =>
   Lo.elim r6 (fun s5 =>
    (slices_symMergeCmpFunc_int_impl_OrderOf_1_c5 o o_ a2 a3 a40_0 a40_1 a40_2 a40_3).bind fun r12 =>
    Lo.elim r12 (fun s11 =>
     (slices_symMergeCmpFunc_int_impl_OrderOf_1_c10 o o_ a2 a3 a40_0 a40_1 a40_2 a40_3).bind fun r13 =>
     (slices_symMergeCmpFunc_int_impl_OrderOf_1_l4 o o_ a2 a3 a40_0 a40_1 a40_2 a40_3 FUEL r13.1 r13.2).bind fun r16 =>
     (slices_symMergeCmpFunc_int_impl_OrderOf_1_c13 o o_ a2 a3 a40_0 a40_1 a40_2 a40_3 r16).bind fun r18 =>
     if (decide (o_ < r16)) = true then
      if (decide (r16 < (i64 (bshr .u64 (u64 (i64 (o_ + a3))) 1)))) = true then
       (slices_symMergeCmpFunc_int_impl_OrderOf_1 fuel r18 o_ r16 (i64 (bshr .u64 (u64 (i64 (o_ + a3))) 1)) a40_0 a40_1 a40_2 a40_3).bind fun r19 =>
       if (decide ((i64 (bshr .u64 (u64 (i64 (o_ + a3))) 1)) < (i64 ((i64 ((i64 (bshr .u64 (u64 (i64 (o_ + a3))) 1)) + a2)) - r16)))) = true then
        if (decide ((i64 ((i64 ((i64 (bshr .u64 (u64 (i64 (o_ + a3))) 1)) + a2)) - r16)) < a3)) = true then
         (slices_symMergeCmpFunc_int_impl_OrderOf_1 fuel r19 (i64 (bshr .u64 (u64 (i64 (o_ + a3))) 1)) (i64 ((i64 ((i64 (bshr .u64 (u64 (i64 (o_ + a3))) 1)) + a2)) - r16)) a3 a40_0 a40_1 a40_2 a40_3).bind fun r20 =>
         some r20
        else
         some r19
       else
        some r19
      else
       if (decide ((i64 (bshr .u64 (u64 (i64 (o_ + a3))) 1)) < (i64 ((i64 ((i64 (bshr .u64 (u64 (i64 (o_ + a3))) 1)) + a2)) - r16)))) = true then
        if (decide ((i64 ((i64 ((i64 (bshr .u64 (u64 (i64 (o_ + a3))) 1)) + a2)) - r16)) < a3)) = true then
         (slices_symMergeCmpFunc_int_impl_OrderOf_1 fuel r18 (i64 (bshr .u64 (u64 (i64 (o_ + a3))) 1)) (i64 ((i64 ((i64 (bshr .u64 (u64 (i64 (o_ + a3))) 1)) + a2)) - r16)) a3 a40_0 a40_1 a40_2 a40_3).bind fun r21 =>
         some r21
        else
         some r18
       else
        some r18
     else
      if (decide ((i64 (bshr .u64 (u64 (i64 (o_ + a3))) 1)) < (i64 ((i64 ((i64 (bshr .u64 (u64 (i64 (o_ + a3))) 1)) + a2)) - r16)))) = true then
       if (decide ((i64 ((i64 ((i64 (bshr .u64 (u64 (i64 (o_ + a3))) 1)) + a2)) - r16)) < a3)) = true then
        (slices_symMergeCmpFunc_int_impl_OrderOf_1 fuel r18 (i64 (bshr .u64 (u64 (i64 (o_ + a3))) 1)) (i64 ((i64 ((i64 (bshr .u64 (u64 (i64 (o_ + a3))) 1)) + a2)) - r16)) a3 a40_0 a40_1 a40_2 a40_3).bind fun r22 =>
        some r22
       else
        some r18
      else
       some r18) (fun s12 =>
     some s12)) (fun s6 =>
    some s6)
set_option maxHeartbeats 4000000 in
theorem slices_symMergeCmpFunc_int_impl_OrderOf_1_ok : ∀ (fuel : Nat) (o : List Int) (o_ : Int) (a2 : Int) (a3 : Int) (a40_0 : List Stripe) (a40_1 : Int) (a40_2 : Int) (a40_3 : List Task), Pn (fun y => Fn Try.prog 218 [(true, E24 o), (false, E3 o_), (false, E3 a2), (false, E3 a3), (false, V.fn 163 [V.cp [V.sl true 58 (List.map E58 a40_0), V.sc (.int .i64 a40_1), V.sc (.int .i64 a40_2), V.sl true 137 (List.map E137 a40_3)]])] (V.tup []) [V.sl true 3 (List.map E3 y)]) (slices_symMergeCmpFunc_int_impl_OrderOf_1 fuel o o_ a2 a3 a40_0 a40_1 a40_2 a40_3)
  | 0, _, _, _, _, _, _, _, _ => Pn.none
  | fuel + 1, o, o_, a2, a3, a40_0, a40_1, a40_2, a40_3 => by
    unfold slices_symMergeCmpFunc_int_impl_OrderOf_1
    exact
     Pn.bind (fun r6 h23 =>
      Pn.lo (fun s5 h24 =>
       Pn.bind (fun r12 h48 =>
        Pn.lo (fun s11 h49 =>
         Pn.bind (fun r13 h52 =>
          Pn.bind (fun r16 h63 =>
           Pn.bind (fun r18 h67 =>
            Pn.ite (fun h68 =>
             Pn.ite (fun h69 =>
              Pn.bind (fun r19 h70 =>
               Pn.ite (fun h71 =>
                Pn.ite (fun h72 =>
                 Pn.bind (fun r20 h73 =>
                  Pn.some (Fn.of [.wait 1, .mask [0, 1, 2, 3, 4], .ren [0], .join 41 (X.go) (st 220 [(0, V.ow 0), (1, V.sc (.int .i64 o_)), (2, V.sc (.int .i64 a2)), (3, V.sc (.int .i64 a3)), (4, V.fn 163 [V.cp [V.sl true 58 (List.map E58 a40_0), V.sc (.int .i64 a40_1), V.sc (.int .i64 a40_2), V.sl true 137 (List.map E137 a40_3)]])] [Blk.row 3 (List.map E3 o) []] [some 0]), .wait 1, .mask [0, 1, 2, 3, 4], .ren [0], .join 41 (X.go) (st 220 [(0, V.ow 0), (1, V.sc (.int .i64 o_)), (2, V.sc (.int .i64 a2)), (3, V.sc (.int .i64 a3)), (4, V.fn 163 [V.cp [V.sl true 58 (List.map E58 a40_0), V.sc (.int .i64 a40_1), V.sc (.int .i64 a40_2), V.sl true 137 (List.map E137 a40_3)]])] [Blk.row 3 (List.map E3 o) []] [some 0]), .wait 14, .mask [0, 1, 2, 3, 4, 18, 19], .ren [0], .join 9 (X.go) (st 220 [(0, V.ow 0), (1, V.sc (.int .i64 o_)), (2, V.sc (.int .i64 a2)), (3, V.sc (.int .i64 a3)), (4, V.fn 163 [V.cp [V.sl true 58 (List.map E58 a40_0), V.sc (.int .i64 a40_1), V.sc (.int .i64 a40_2), V.sl true 137 (List.map E137 a40_3)]]), (18, V.sc (.int .i64 (i64 (bshr .u64 (u64 (i64 (o_ + a3))) 1)))), (19, V.sc (.int .i64 (i64 ((i64 (bshr .u64 (u64 (i64 (o_ + a3))) 1)) + a2)))), (20, V.sc (.int .i64 r13.1)), (21, V.sc (.int .i64 r13.2))] [Blk.row 3 (List.map E3 o) []] [some 0]), .wait 4, .mask [0, 1, 2, 3, 4, 18, 19, 20, 21, 22], .ren [0], .loop (X.out 8) (st 220 [(0, V.ow 0), (1, V.sc (.int .i64 o_)), (2, V.sc (.int .i64 a2)), (3, V.sc (.int .i64 a3)), (4, V.fn 163 [V.cp [V.sl true 58 (List.map E58 a40_0), V.sc (.int .i64 a40_1), V.sc (.int .i64 a40_2), V.sl true 137 (List.map E137 a40_3)]]), (18, V.sc (.int .i64 (i64 (bshr .u64 (u64 (i64 (o_ + a3))) 1)))), (19, V.sc (.int .i64 (i64 ((i64 (bshr .u64 (u64 (i64 (o_ + a3))) 1)) + a2)))), (20, V.sc (.int .i64 r16))] [Blk.row 3 (List.map E3 o) []] [some 0]), .wait 5, .mask [0, 1, 2, 3, 4, 18, 20, 24], .ren [0], .join 5 (X.go) (st 220 [(0, V.ow 0), (1, V.sc (.int .i64 o_)), (3, V.sc (.int .i64 a3)), (4, V.fn 163 [V.cp [V.sl true 58 (List.map E58 a40_0), V.sc (.int .i64 a40_1), V.sc (.int .i64 a40_2), V.sl true 137 (List.map E137 a40_3)]]), (18, V.sc (.int .i64 (i64 (bshr .u64 (u64 (i64 (o_ + a3))) 1)))), (20, V.sc (.int .i64 r16)), (24, V.sc (.int .i64 (i64 ((i64 ((i64 (bshr .u64 (u64 (i64 (o_ + a3))) 1)) + a2)) - r16))))] [Blk.row 3 (List.map E3 r18) []] [some 0]), .bit true, .bit true, .bit true, .bit true, .bit true, .call [true, false, false, false, false] (V.tup []) [V.sl true 3 (List.map E3 r19)], .bit true, .bit true, .bit true, .bit true, .bit true, .call [true, false, false, false, false] (V.tup []) [V.sl true 3 (List.map E3 r20)]] (p := [HT Try.prog (sub (codeOf Try.prog 218) [0]) (st 220 [(0, V.ow 0), (1, V.sc (.int .i64 o_)), (2, V.sc (.int .i64 a2)), (3, V.sc (.int .i64 a3)), (4, V.fn 163 [V.cp [V.sl true 58 (List.map E58 a40_0), V.sc (.int .i64 a40_1), V.sc (.int .i64 a40_2), V.sl true 137 (List.map E137 a40_3)]])] [Blk.row 3 (List.map E3 o) []] [some 0]) (X.go) (st 220 [(0, V.ow 0), (1, V.sc (.int .i64 o_)), (2, V.sc (.int .i64 a2)), (3, V.sc (.int .i64 a3)), (4, V.fn 163 [V.cp [V.sl true 58 (List.map E58 a40_0), V.sc (.int .i64 a40_1), V.sc (.int .i64 a40_2), V.sl true 137 (List.map E137 a40_3)]])] [Blk.row 3 (List.map E3 o) []] [some 0]),
                   HT Try.prog (sub (codeOf Try.prog 218) [1, 0]) (st 220 [(0, V.ow 0), (1, V.sc (.int .i64 o_)), (2, V.sc (.int .i64 a2)), (3, V.sc (.int .i64 a3)), (4, V.fn 163 [V.cp [V.sl true 58 (List.map E58 a40_0), V.sc (.int .i64 a40_1), V.sc (.int .i64 a40_2), V.sl true 137 (List.map E137 a40_3)]])] [Blk.row 3 (List.map E3 o) []] [some 0]) (X.go) (st 220 [(0, V.ow 0), (1, V.sc (.int .i64 o_)), (2, V.sc (.int .i64 a2)), (3, V.sc (.int .i64 a3)), (4, V.fn 163 [V.cp [V.sl true 58 (List.map E58 a40_0), V.sc (.int .i64 a40_1), V.sc (.int .i64 a40_2), V.sl true 137 (List.map E137 a40_3)]])] [Blk.row 3 (List.map E3 o) []] [some 0]),
                   ¬ (1 : Int) < 0,
                   HT Try.prog (sub (codeOf Try.prog 218) [1, 1, 1, 1, 1, 0]) (st 220 [(0, V.ow 0), (1, V.sc (.int .i64 o_)), (2, V.sc (.int .i64 a2)), (3, V.sc (.int .i64 a3)), (4, V.fn 163 [V.cp [V.sl true 58 (List.map E58 a40_0), V.sc (.int .i64 a40_1), V.sc (.int .i64 a40_2), V.sl true 137 (List.map E137 a40_3)]]), (18, V.sc (.int .i64 (i64 (bshr .u64 (u64 (i64 (o_ + a3))) 1)))), (19, V.sc (.int .i64 (i64 ((i64 (bshr .u64 (u64 (i64 (o_ + a3))) 1)) + a2))))] [Blk.row 3 (List.map E3 o) []] [some 0]) (X.go) (st 220 [(0, V.ow 0), (1, V.sc (.int .i64 o_)), (2, V.sc (.int .i64 a2)), (3, V.sc (.int .i64 a3)), (4, V.fn 163 [V.cp [V.sl true 58 (List.map E58 a40_0), V.sc (.int .i64 a40_1), V.sc (.int .i64 a40_2), V.sl true 137 (List.map E137 a40_3)]]), (18, V.sc (.int .i64 (i64 (bshr .u64 (u64 (i64 (o_ + a3))) 1)))), (19, V.sc (.int .i64 (i64 ((i64 (bshr .u64 (u64 (i64 (o_ + a3))) 1)) + a2)))), (20, V.sc (.int .i64 r13.1)), (21, V.sc (.int .i64 r13.2))] [Blk.row 3 (List.map E3 o) []] [some 0]),
                   Loop Try.prog (sub (codeOf Try.prog 218) [1, 1, 1, 1, 1, 1, 1, 0, 0, 0]) (st 220 [(0, V.ow 0), (1, V.sc (.int .i64 o_)), (2, V.sc (.int .i64 a2)), (3, V.sc (.int .i64 a3)), (4, V.fn 163 [V.cp [V.sl true 58 (List.map E58 a40_0), V.sc (.int .i64 a40_1), V.sc (.int .i64 a40_2), V.sl true 137 (List.map E137 a40_3)]]), (18, V.sc (.int .i64 (i64 (bshr .u64 (u64 (i64 (o_ + a3))) 1)))), (19, V.sc (.int .i64 (i64 ((i64 (bshr .u64 (u64 (i64 (o_ + a3))) 1)) + a2)))), (20, V.sc (.int .i64 r13.1)), (21, V.sc (.int .i64 r13.2)), (22, V.sc (.int .i64 (i64 ((i64 ((i64 (bshr .u64 (u64 (i64 (o_ + a3))) 1)) + a2)) - 1))))] [Blk.row 3 (List.map E3 o) []] [some 0]) (X.out 8) (st 220 [(0, V.ow 0), (1, V.sc (.int .i64 o_)), (2, V.sc (.int .i64 a2)), (3, V.sc (.int .i64 a3)), (4, V.fn 163 [V.cp [V.sl true 58 (List.map E58 a40_0), V.sc (.int .i64 a40_1), V.sc (.int .i64 a40_2), V.sl true 137 (List.map E137 a40_3)]]), (18, V.sc (.int .i64 (i64 (bshr .u64 (u64 (i64 (o_ + a3))) 1)))), (19, V.sc (.int .i64 (i64 ((i64 (bshr .u64 (u64 (i64 (o_ + a3))) 1)) + a2)))), (20, V.sc (.int .i64 r16))] [Blk.row 3 (List.map E3 o) []] [some 0]),
                   HT Try.prog (sub (codeOf Try.prog 218) [1, 1, 1, 1, 1, 1, 1, 1, 1, 0]) (st 220 [(0, V.ow 0), (1, V.sc (.int .i64 o_)), (2, V.sc (.int .i64 a2)), (3, V.sc (.int .i64 a3)), (4, V.fn 163 [V.cp [V.sl true 58 (List.map E58 a40_0), V.sc (.int .i64 a40_1), V.sc (.int .i64 a40_2), V.sl true 137 (List.map E137 a40_3)]]), (18, V.sc (.int .i64 (i64 (bshr .u64 (u64 (i64 (o_ + a3))) 1)))), (20, V.sc (.int .i64 r16)), (24, V.sc (.int .i64 (i64 ((i64 ((i64 (bshr .u64 (u64 (i64 (o_ + a3))) 1)) + a2)) - r16))))] [Blk.row 3 (List.map E3 o) []] [some 0]) (X.go) (st 220 [(0, V.ow 0), (1, V.sc (.int .i64 o_)), (3, V.sc (.int .i64 a3)), (4, V.fn 163 [V.cp [V.sl true 58 (List.map E58 a40_0), V.sc (.int .i64 a40_1), V.sc (.int .i64 a40_2), V.sl true 137 (List.map E137 a40_3)]]), (18, V.sc (.int .i64 (i64 (bshr .u64 (u64 (i64 (o_ + a3))) 1)))), (20, V.sc (.int .i64 r16)), (24, V.sc (.int .i64 (i64 ((i64 ((i64 (bshr .u64 (u64 (i64 (o_ + a3))) 1)) + a2)) - r16))))] [Blk.row 3 (List.map E3 r18) []] [some 0]),
                   (decide (o_ < r16)) = true,
                   (decide (o_ < r16)) = true,
                   (decide (o_ < r16)) = true,
                   (decide (o_ < r16)) = true,
                   (decide (r16 < (i64 (bshr .u64 (u64 (i64 (o_ + a3))) 1)))) = true,
                   Fn Try.prog 218 [(true, E24 r18), (false, E3 o_), (false, E3 r16), (false, E3 (i64 (bshr .u64 (u64 (i64 (o_ + a3))) 1))), (false, V.fn 163 [V.cp [V.sl true 58 (List.map E58 a40_0), V.sc (.int .i64 a40_1), V.sc (.int .i64 a40_2), V.sl true 137 (List.map E137 a40_3)]])] (V.tup []) [V.sl true 3 (List.map E3 r19)],
                   (true || ((V.tup []).nv && nvL [V.sl true 3 (List.map E3 r19)])) = true,
                   (decide ((i64 (bshr .u64 (u64 (i64 (o_ + a3))) 1)) < (i64 ((i64 ((i64 (bshr .u64 (u64 (i64 (o_ + a3))) 1)) + a2)) - r16)))) = true,
                   (decide ((i64 (bshr .u64 (u64 (i64 (o_ + a3))) 1)) < (i64 ((i64 ((i64 (bshr .u64 (u64 (i64 (o_ + a3))) 1)) + a2)) - r16)))) = true,
                   (decide ((i64 (bshr .u64 (u64 (i64 (o_ + a3))) 1)) < (i64 ((i64 ((i64 (bshr .u64 (u64 (i64 (o_ + a3))) 1)) + a2)) - r16)))) = true,
                   (decide ((i64 (bshr .u64 (u64 (i64 (o_ + a3))) 1)) < (i64 ((i64 ((i64 (bshr .u64 (u64 (i64 (o_ + a3))) 1)) + a2)) - r16)))) = true,
                   (decide ((i64 ((i64 ((i64 (bshr .u64 (u64 (i64 (o_ + a3))) 1)) + a2)) - r16)) < a3)) = true,
                   Fn Try.prog 218 [(true, E24 r19), (false, E3 (i64 (bshr .u64 (u64 (i64 (o_ + a3))) 1))), (false, E3 (i64 ((i64 ((i64 (bshr .u64 (u64 (i64 (o_ + a3))) 1)) + a2)) - r16))), (false, E3 a3), (false, V.fn 163 [V.cp [V.sl true 58 (List.map E58 a40_0), V.sc (.int .i64 a40_1), V.sc (.int .i64 a40_2), V.sl true 137 (List.map E137 a40_3)]])] (V.tup []) [V.sl true 3 (List.map E3 r20)],
                   (true || ((V.tup []).nv && nvL [V.sl true 3 (List.map E3 r20)])) = true]) (by kernel_rfl) (cj ((slices_symMergeCmpFunc_int_impl_OrderOf_1_c0_ok o o_ a2 a3 a40_0 a40_1 a40_2 a40_3 r6 h23).at h24) (cj ((slices_symMergeCmpFunc_int_impl_OrderOf_1_c5_ok o o_ a2 a3 a40_0 a40_1 a40_2 a40_3 r12 h48).at h49) (cj (by decide) (cj (slices_symMergeCmpFunc_int_impl_OrderOf_1_c10_ok o o_ a2 a3 a40_0 a40_1 a40_2 a40_3 r13 h52) (cj (slices_symMergeCmpFunc_int_impl_OrderOf_1_l4_ok o o_ a2 a3 a40_0 a40_1 a40_2 a40_3 FUEL r13.1 r13.2 r16 h63) (cj (slices_symMergeCmpFunc_int_impl_OrderOf_1_c13_ok o o_ a2 a3 a40_0 a40_1 a40_2 a40_3 r16 r18 h67) (cj h68 (cj h68 (cj h68 (cj h68 (cj h69 (cj (slices_symMergeCmpFunc_int_impl_OrderOf_1_ok fuel r18 o_ r16 (i64 (bshr .u64 (u64 (i64 (o_ + a3))) 1)) a40_0 a40_1 a40_2 a40_3 r19 h70) (cj rfl (cj h71 (cj h71 (cj h71 (cj h71 (cj h72 (cj (slices_symMergeCmpFunc_int_impl_OrderOf_1_ok fuel r19 (i64 (bshr .u64 (u64 (i64 (o_ + a3))) 1)) (i64 ((i64 ((i64 (bshr .u64 (u64 (i64 (o_ + a3))) 1)) + a2)) - r16)) a3 a40_0 a40_1 a40_2 a40_3 r20 h73) (cj1 rfl))))))))))))))))))))))) (fun h72 =>
                 Pn.some (Fn.of [.wait 1, .mask [0, 1, 2, 3, 4], .ren [0], .join 41 (X.go) (st 220 [(0, V.ow 0), (1, V.sc (.int .i64 o_)), (2, V.sc (.int .i64 a2)), (3, V.sc (.int .i64 a3)), (4, V.fn 163 [V.cp [V.sl true 58 (List.map E58 a40_0), V.sc (.int .i64 a40_1), V.sc (.int .i64 a40_2), V.sl true 137 (List.map E137 a40_3)]])] [Blk.row 3 (List.map E3 o) []] [some 0]), .wait 1, .mask [0, 1, 2, 3, 4], .ren [0], .join 41 (X.go) (st 220 [(0, V.ow 0), (1, V.sc (.int .i64 o_)), (2, V.sc (.int .i64 a2)), (3, V.sc (.int .i64 a3)), (4, V.fn 163 [V.cp [V.sl true 58 (List.map E58 a40_0), V.sc (.int .i64 a40_1), V.sc (.int .i64 a40_2), V.sl true 137 (List.map E137 a40_3)]])] [Blk.row 3 (List.map E3 o) []] [some 0]), .wait 14, .mask [0, 1, 2, 3, 4, 18, 19], .ren [0], .join 9 (X.go) (st 220 [(0, V.ow 0), (1, V.sc (.int .i64 o_)), (2, V.sc (.int .i64 a2)), (3, V.sc (.int .i64 a3)), (4, V.fn 163 [V.cp [V.sl true 58 (List.map E58 a40_0), V.sc (.int .i64 a40_1), V.sc (.int .i64 a40_2), V.sl true 137 (List.map E137 a40_3)]]), (18, V.sc (.int .i64 (i64 (bshr .u64 (u64 (i64 (o_ + a3))) 1)))), (19, V.sc (.int .i64 (i64 ((i64 (bshr .u64 (u64 (i64 (o_ + a3))) 1)) + a2)))), (20, V.sc (.int .i64 r13.1)), (21, V.sc (.int .i64 r13.2))] [Blk.row 3 (List.map E3 o) []] [some 0]), .wait 4, .mask [0, 1, 2, 3, 4, 18, 19, 20, 21, 22], .ren [0], .loop (X.out 8) (st 220 [(0, V.ow 0), (1, V.sc (.int .i64 o_)), (2, V.sc (.int .i64 a2)), (3, V.sc (.int .i64 a3)), (4, V.fn 163 [V.cp [V.sl true 58 (List.map E58 a40_0), V.sc (.int .i64 a40_1), V.sc (.int .i64 a40_2), V.sl true 137 (List.map E137 a40_3)]]), (18, V.sc (.int .i64 (i64 (bshr .u64 (u64 (i64 (o_ + a3))) 1)))), (19, V.sc (.int .i64 (i64 ((i64 (bshr .u64 (u64 (i64 (o_ + a3))) 1)) + a2)))), (20, V.sc (.int .i64 r16))] [Blk.row 3 (List.map E3 o) []] [some 0]), .wait 5, .mask [0, 1, 2, 3, 4, 18, 20, 24], .ren [0], .join 5 (X.go) (st 220 [(0, V.ow 0), (1, V.sc (.int .i64 o_)), (3, V.sc (.int .i64 a3)), (4, V.fn 163 [V.cp [V.sl true 58 (List.map E58 a40_0), V.sc (.int .i64 a40_1), V.sc (.int .i64 a40_2), V.sl true 137 (List.map E137 a40_3)]]), (18, V.sc (.int .i64 (i64 (bshr .u64 (u64 (i64 (o_ + a3))) 1)))), (20, V.sc (.int .i64 r16)), (24, V.sc (.int .i64 (i64 ((i64 ((i64 (bshr .u64 (u64 (i64 (o_ + a3))) 1)) + a2)) - r16))))] [Blk.row 3 (List.map E3 r18) []] [some 0]), .bit true, .bit true, .bit true, .bit true, .bit true, .call [true, false, false, false, false] (V.tup []) [V.sl true 3 (List.map E3 r19)], .bit true, .bit true, .bit true, .bit true, .bit false] (p := [HT Try.prog (sub (codeOf Try.prog 218) [0]) (st 220 [(0, V.ow 0), (1, V.sc (.int .i64 o_)), (2, V.sc (.int .i64 a2)), (3, V.sc (.int .i64 a3)), (4, V.fn 163 [V.cp [V.sl true 58 (List.map E58 a40_0), V.sc (.int .i64 a40_1), V.sc (.int .i64 a40_2), V.sl true 137 (List.map E137 a40_3)]])] [Blk.row 3 (List.map E3 o) []] [some 0]) (X.go) (st 220 [(0, V.ow 0), (1, V.sc (.int .i64 o_)), (2, V.sc (.int .i64 a2)), (3, V.sc (.int .i64 a3)), (4, V.fn 163 [V.cp [V.sl true 58 (List.map E58 a40_0), V.sc (.int .i64 a40_1), V.sc (.int .i64 a40_2), V.sl true 137 (List.map E137 a40_3)]])] [Blk.row 3 (List.map E3 o) []] [some 0]),
                  HT Try.prog (sub (codeOf Try.prog 218) [1, 0]) (st 220 [(0, V.ow 0), (1, V.sc (.int .i64 o_)), (2, V.sc (.int .i64 a2)), (3, V.sc (.int .i64 a3)), (4, V.fn 163 [V.cp [V.sl true 58 (List.map E58 a40_0), V.sc (.int .i64 a40_1), V.sc (.int .i64 a40_2), V.sl true 137 (List.map E137 a40_3)]])] [Blk.row 3 (List.map E3 o) []] [some 0]) (X.go) (st 220 [(0, V.ow 0), (1, V.sc (.int .i64 o_)), (2, V.sc (.int .i64 a2)), (3, V.sc (.int .i64 a3)), (4, V.fn 163 [V.cp [V.sl true 58 (List.map E58 a40_0), V.sc (.int .i64 a40_1), V.sc (.int .i64 a40_2), V.sl true 137 (List.map E137 a40_3)]])] [Blk.row 3 (List.map E3 o) []] [some 0]),
                  ¬ (1 : Int) < 0,
                  HT Try.prog (sub (codeOf Try.prog 218) [1, 1, 1, 1, 1, 0]) (st 220 [(0, V.ow 0), (1, V.sc (.int .i64 o_)), (2, V.sc (.int .i64 a2)), (3, V.sc (.int .i64 a3)), (4, V.fn 163 [V.cp [V.sl true 58 (List.map E58 a40_0), V.sc (.int .i64 a40_1), V.sc (.int .i64 a40_2), V.sl true 137 (List.map E137 a40_3)]]), (18, V.sc (.int .i64 (i64 (bshr .u64 (u64 (i64 (o_ + a3))) 1)))), (19, V.sc (.int .i64 (i64 ((i64 (bshr .u64 (u64 (i64 (o_ + a3))) 1)) + a2))))] [Blk.row 3 (List.map E3 o) []] [some 0]) (X.go) (st 220 [(0, V.ow 0), (1, V.sc (.int .i64 o_)), (2, V.sc (.int .i64 a2)), (3, V.sc (.int .i64 a3)), (4, V.fn 163 [V.cp [V.sl true 58 (List.map E58 a40_0), V.sc (.int .i64 a40_1), V.sc (.int .i64 a40_2), V.sl true 137 (List.map E137 a40_3)]]), (18, V.sc (.int .i64 (i64 (bshr .u64 (u64 (i64 (o_ + a3))) 1)))), (19, V.sc (.int .i64 (i64 ((i64 (bshr .u64 (u64 (i64 (o_ + a3))) 1)) + a2)))), (20, V.sc (.int .i64 r13.1)), (21, V.sc (.int .i64 r13.2))] [Blk.row 3 (List.map E3 o) []] [some 0]),
                  Loop Try.prog (sub (codeOf Try.prog 218) [1, 1, 1, 1, 1, 1, 1, 0, 0, 0]) (st 220 [(0, V.ow 0), (1, V.sc (.int .i64 o_)), (2, V.sc (.int .i64 a2)), (3, V.sc (.int .i64 a3)), (4, V.fn 163 [V.cp [V.sl true 58 (List.map E58 a40_0), V.sc (.int .i64 a40_1), V.sc (.int .i64 a40_2), V.sl true 137 (List.map E137 a40_3)]]), (18, V.sc (.int .i64 (i64 (bshr .u64 (u64 (i64 (o_ + a3))) 1)))), (19, V.sc (.int .i64 (i64 ((i64 (bshr .u64 (u64 (i64 (o_ + a3))) 1)) + a2)))), (20, V.sc (.int .i64 r13.1)), (21, V.sc (.int .i64 r13.2)), (22, V.sc (.int .i64 (i64 ((i64 ((i64 (bshr .u64 (u64 (i64 (o_ + a3))) 1)) + a2)) - 1))))] [Blk.row 3 (List.map E3 o) []] [some 0]) (X.out 8) (st 220 [(0, V.ow 0), (1, V.sc (.int .i64 o_)), (2, V.sc (.int .i64 a2)), (3, V.sc (.int .i64 a3)), (4, V.fn 163 [V.cp [V.sl true 58 (List.map E58 a40_0), V.sc (.int .i64 a40_1), V.sc (.int .i64 a40_2), V.sl true 137 (List.map E137 a40_3)]]), (18, V.sc (.int .i64 (i64 (bshr .u64 (u64 (i64 (o_ + a3))) 1)))), (19, V.sc (.int .i64 (i64 ((i64 (bshr .u64 (u64 (i64 (o_ + a3))) 1)) + a2)))), (20, V.sc (.int .i64 r16))] [Blk.row 3 (List.map E3 o) []] [some 0]),
                  HT Try.prog (sub (codeOf Try.prog 218) [1, 1, 1, 1, 1, 1, 1, 1, 1, 0]) (st 220 [(0, V.ow 0), (1, V.sc (.int .i64 o_)), (2, V.sc (.int .i64 a2)), (3, V.sc (.int .i64 a3)), (4, V.fn 163 [V.cp [V.sl true 58 (List.map E58 a40_0), V.sc (.int .i64 a40_1), V.sc (.int .i64 a40_2), V.sl true 137 (List.map E137 a40_3)]]), (18, V.sc (.int .i64 (i64 (bshr .u64 (u64 (i64 (o_ + a3))) 1)))), (20, V.sc (.int .i64 r16)), (24, V.sc (.int .i64 (i64 ((i64 ((i64 (bshr .u64 (u64 (i64 (o_ + a3))) 1)) + a2)) - r16))))] [Blk.row 3 (List.map E3 o) []] [some 0]) (X.go) (st 220 [(0, V.ow 0), (1, V.sc (.int .i64 o_)), (3, V.sc (.int .i64 a3)), (4, V.fn 163 [V.cp [V.sl true 58 (List.map E58 a40_0), V.sc (.int .i64 a40_1), V.sc (.int .i64 a40_2), V.sl true 137 (List.map E137 a40_3)]]), (18, V.sc (.int .i64 (i64 (bshr .u64 (u64 (i64 (o_ + a3))) 1)))), (20, V.sc (.int .i64 r16)), (24, V.sc (.int .i64 (i64 ((i64 ((i64 (bshr .u64 (u64 (i64 (o_ + a3))) 1)) + a2)) - r16))))] [Blk.row 3 (List.map E3 r18) []] [some 0]),
                  (decide (o_ < r16)) = true,
                  (decide (o_ < r16)) = true,
                  (decide (o_ < r16)) = true,
                  (decide (o_ < r16)) = true,
                  (decide (r16 < (i64 (bshr .u64 (u64 (i64 (o_ + a3))) 1)))) = true,
                  Fn Try.prog 218 [(true, E24 r18), (false, E3 o_), (false, E3 r16), (false, E3 (i64 (bshr .u64 (u64 (i64 (o_ + a3))) 1))), (false, V.fn 163 [V.cp [V.sl true 58 (List.map E58 a40_0), V.sc (.int .i64 a40_1), V.sc (.int .i64 a40_2), V.sl true 137 (List.map E137 a40_3)]])] (V.tup []) [V.sl true 3 (List.map E3 r19)],
                  (true || ((V.tup []).nv && nvL [V.sl true 3 (List.map E3 r19)])) = true,
                  (decide ((i64 (bshr .u64 (u64 (i64 (o_ + a3))) 1)) < (i64 ((i64 ((i64 (bshr .u64 (u64 (i64 (o_ + a3))) 1)) + a2)) - r16)))) = true,
                  (decide ((i64 (bshr .u64 (u64 (i64 (o_ + a3))) 1)) < (i64 ((i64 ((i64 (bshr .u64 (u64 (i64 (o_ + a3))) 1)) + a2)) - r16)))) = true,
                  (decide ((i64 (bshr .u64 (u64 (i64 (o_ + a3))) 1)) < (i64 ((i64 ((i64 (bshr .u64 (u64 (i64 (o_ + a3))) 1)) + a2)) - r16)))) = true,
                  (decide ((i64 (bshr .u64 (u64 (i64 (o_ + a3))) 1)) < (i64 ((i64 ((i64 (bshr .u64 (u64 (i64 (o_ + a3))) 1)) + a2)) - r16)))) = true,
                  (decide ((i64 ((i64 ((i64 (bshr .u64 (u64 (i64 (o_ + a3))) 1)) + a2)) - r16)) < a3)) = false]) (by kernel_rfl) (cj ((slices_symMergeCmpFunc_int_impl_OrderOf_1_c0_ok o o_ a2 a3 a40_0 a40_1 a40_2 a40_3 r6 h23).at h24) (cj ((slices_symMergeCmpFunc_int_impl_OrderOf_1_c5_ok o o_ a2 a3 a40_0 a40_1 a40_2 a40_3 r12 h48).at h49) (cj (by decide) (cj (slices_symMergeCmpFunc_int_impl_OrderOf_1_c10_ok o o_ a2 a3 a40_0 a40_1 a40_2 a40_3 r13 h52) (cj (slices_symMergeCmpFunc_int_impl_OrderOf_1_l4_ok o o_ a2 a3 a40_0 a40_1 a40_2 a40_3 FUEL r13.1 r13.2 r16 h63) (cj (slices_symMergeCmpFunc_int_impl_OrderOf_1_c13_ok o o_ a2 a3 a40_0 a40_1 a40_2 a40_3 r16 r18 h67) (cj h68 (cj h68 (cj h68 (cj h68 (cj h69 (cj (slices_symMergeCmpFunc_int_impl_OrderOf_1_ok fuel r18 o_ r16 (i64 (bshr .u64 (u64 (i64 (o_ + a3))) 1)) a40_0 a40_1 a40_2 a40_3 r19 h70) (cj rfl (cj h71 (cj h71 (cj h71 (cj h71 (cj1 h72))))))))))))))))))))) (fun h71 =>
                Pn.some (Fn.of [.wait 1, .mask [0, 1, 2, 3, 4], .ren [0], .join 41 (X.go) (st 220 [(0, V.ow 0), (1, V.sc (.int .i64 o_)), (2, V.sc (.int .i64 a2)), (3, V.sc (.int .i64 a3)), (4, V.fn 163 [V.cp [V.sl true 58 (List.map E58 a40_0), V.sc (.int .i64 a40_1), V.sc (.int .i64 a40_2), V.sl true 137 (List.map E137 a40_3)]])] [Blk.row 3 (List.map E3 o) []] [some 0]), .wait 1, .mask [0, 1, 2, 3, 4], .ren [0], .join 41 (X.go) (st 220 [(0, V.ow 0), (1, V.sc (.int .i64 o_)), (2, V.sc (.int .i64 a2)), (3, V.sc (.int .i64 a3)), (4, V.fn 163 [V.cp [V.sl true 58 (List.map E58 a40_0), V.sc (.int .i64 a40_1), V.sc (.int .i64 a40_2), V.sl true 137 (List.map E137 a40_3)]])] [Blk.row 3 (List.map E3 o) []] [some 0]), .wait 14, .mask [0, 1, 2, 3, 4, 18, 19], .ren [0], .join 9 (X.go) (st 220 [(0, V.ow 0), (1, V.sc (.int .i64 o_)), (2, V.sc (.int .i64 a2)), (3, V.sc (.int .i64 a3)), (4, V.fn 163 [V.cp [V.sl true 58 (List.map E58 a40_0), V.sc (.int .i64 a40_1), V.sc (.int .i64 a40_2), V.sl true 137 (List.map E137 a40_3)]]), (18, V.sc (.int .i64 (i64 (bshr .u64 (u64 (i64 (o_ + a3))) 1)))), (19, V.sc (.int .i64 (i64 ((i64 (bshr .u64 (u64 (i64 (o_ + a3))) 1)) + a2)))), (20, V.sc (.int .i64 r13.1)), (21, V.sc (.int .i64 r13.2))] [Blk.row 3 (List.map E3 o) []] [some 0]), .wait 4, .mask [0, 1, 2, 3, 4, 18, 19, 20, 21, 22], .ren [0], .loop (X.out 8) (st 220 [(0, V.ow 0), (1, V.sc (.int .i64 o_)), (2, V.sc (.int .i64 a2)), (3, V.sc (.int .i64 a3)), (4, V.fn 163 [V.cp [V.sl true 58 (List.map E58 a40_0), V.sc (.int .i64 a40_1), V.sc (.int .i64 a40_2), V.sl true 137 (List.map E137 a40_3)]]), (18, V.sc (.int .i64 (i64 (bshr .u64 (u64 (i64 (o_ + a3))) 1)))), (19, V.sc (.int .i64 (i64 ((i64 (bshr .u64 (u64 (i64 (o_ + a3))) 1)) + a2)))), (20, V.sc (.int .i64 r16))] [Blk.row 3 (List.map E3 o) []] [some 0]), .wait 5, .mask [0, 1, 2, 3, 4, 18, 20, 24], .ren [0], .join 5 (X.go) (st 220 [(0, V.ow 0), (1, V.sc (.int .i64 o_)), (3, V.sc (.int .i64 a3)), (4, V.fn 163 [V.cp [V.sl true 58 (List.map E58 a40_0), V.sc (.int .i64 a40_1), V.sc (.int .i64 a40_2), V.sl true 137 (List.map E137 a40_3)]]), (18, V.sc (.int .i64 (i64 (bshr .u64 (u64 (i64 (o_ + a3))) 1)))), (20, V.sc (.int .i64 r16)), (24, V.sc (.int .i64 (i64 ((i64 ((i64 (bshr .u64 (u64 (i64 (o_ + a3))) 1)) + a2)) - r16))))] [Blk.row 3 (List.map E3 r18) []] [some 0]), .bit true, .bit true, .bit true, .bit true, .bit true, .call [true, false, false, false, false] (V.tup []) [V.sl true 3 (List.map E3 r19)], .bit false, .bit false, .bit false, .bit false, .bit false] (p := [HT Try.prog (sub (codeOf Try.prog 218) [0]) (st 220 [(0, V.ow 0), (1, V.sc (.int .i64 o_)), (2, V.sc (.int .i64 a2)), (3, V.sc (.int .i64 a3)), (4, V.fn 163 [V.cp [V.sl true 58 (List.map E58 a40_0), V.sc (.int .i64 a40_1), V.sc (.int .i64 a40_2), V.sl true 137 (List.map E137 a40_3)]])] [Blk.row 3 (List.map E3 o) []] [some 0]) (X.go) (st 220 [(0, V.ow 0), (1, V.sc (.int .i64 o_)), (2, V.sc (.int .i64 a2)), (3, V.sc (.int .i64 a3)), (4, V.fn 163 [V.cp [V.sl true 58 (List.map E58 a40_0), V.sc (.int .i64 a40_1), V.sc (.int .i64 a40_2), V.sl true 137 (List.map E137 a40_3)]])] [Blk.row 3 (List.map E3 o) []] [some 0]),
                 HT Try.prog (sub (codeOf Try.prog 218) [1, 0]) (st 220 [(0, V.ow 0), (1, V.sc (.int .i64 o_)), (2, V.sc (.int .i64 a2)), (3, V.sc (.int .i64 a3)), (4, V.fn 163 [V.cp [V.sl true 58 (List.map E58 a40_0), V.sc (.int .i64 a40_1), V.sc (.int .i64 a40_2), V.sl true 137 (List.map E137 a40_3)]])] [Blk.row 3 (List.map E3 o) []] [some 0]) (X.go) (st 220 [(0, V.ow 0), (1, V.sc (.int .i64 o_)), (2, V.sc (.int .i64 a2)), (3, V.sc (.int .i64 a3)), (4, V.fn 163 [V.cp [V.sl true 58 (List.map E58 a40_0), V.sc (.int .i64 a40_1), V.sc (.int .i64 a40_2), V.sl true 137 (List.map E137 a40_3)]])] [Blk.row 3 (List.map E3 o) []] [some 0]),
                 ¬ (1 : Int) < 0,
                 HT Try.prog (sub (codeOf Try.prog 218) [1, 1, 1, 1, 1, 0]) (st 220 [(0, V.ow 0), (1, V.sc (.int .i64 o_)), (2, V.sc (.int .i64 a2)), (3, V.sc (.int .i64 a3)), (4, V.fn 163 [V.cp [V.sl true 58 (List.map E58 a40_0), V.sc (.int .i64 a40_1), V.sc (.int .i64 a40_2), V.sl true 137 (List.map E137 a40_3)]]), (18, V.sc (.int .i64 (i64 (bshr .u64 (u64 (i64 (o_ + a3))) 1)))), (19, V.sc (.int .i64 (i64 ((i64 (bshr .u64 (u64 (i64 (o_ + a3))) 1)) + a2))))] [Blk.row 3 (List.map E3 o) []] [some 0]) (X.go) (st 220 [(0, V.ow 0), (1, V.sc (.int .i64 o_)), (2, V.sc (.int .i64 a2)), (3, V.sc (.int .i64 a3)), (4, V.fn 163 [V.cp [V.sl true 58 (List.map E58 a40_0), V.sc (.int .i64 a40_1), V.sc (.int .i64 a40_2), V.sl true 137 (List.map E137 a40_3)]]), (18, V.sc (.int .i64 (i64 (bshr .u64 (u64 (i64 (o_ + a3))) 1)))), (19, V.sc (.int .i64 (i64 ((i64 (bshr .u64 (u64 (i64 (o_ + a3))) 1)) + a2)))), (20, V.sc (.int .i64 r13.1)), (21, V.sc (.int .i64 r13.2))] [Blk.row 3 (List.map E3 o) []] [some 0]),
                 Loop Try.prog (sub (codeOf Try.prog 218) [1, 1, 1, 1, 1, 1, 1, 0, 0, 0]) (st 220 [(0, V.ow 0), (1, V.sc (.int .i64 o_)), (2, V.sc (.int .i64 a2)), (3, V.sc (.int .i64 a3)), (4, V.fn 163 [V.cp [V.sl true 58 (List.map E58 a40_0), V.sc (.int .i64 a40_1), V.sc (.int .i64 a40_2), V.sl true 137 (List.map E137 a40_3)]]), (18, V.sc (.int .i64 (i64 (bshr .u64 (u64 (i64 (o_ + a3))) 1)))), (19, V.sc (.int .i64 (i64 ((i64 (bshr .u64 (u64 (i64 (o_ + a3))) 1)) + a2)))), (20, V.sc (.int .i64 r13.1)), (21, V.sc (.int .i64 r13.2)), (22, V.sc (.int .i64 (i64 ((i64 ((i64 (bshr .u64 (u64 (i64 (o_ + a3))) 1)) + a2)) - 1))))] [Blk.row 3 (List.map E3 o) []] [some 0]) (X.out 8) (st 220 [(0, V.ow 0), (1, V.sc (.int .i64 o_)), (2, V.sc (.int .i64 a2)), (3, V.sc (.int .i64 a3)), (4, V.fn 163 [V.cp [V.sl true 58 (List.map E58 a40_0), V.sc (.int .i64 a40_1), V.sc (.int .i64 a40_2), V.sl true 137 (List.map E137 a40_3)]]), (18, V.sc (.int .i64 (i64 (bshr .u64 (u64 (i64 (o_ + a3))) 1)))), (19, V.sc (.int .i64 (i64 ((i64 (bshr .u64 (u64 (i64 (o_ + a3))) 1)) + a2)))), (20, V.sc (.int .i64 r16))] [Blk.row 3 (List.map E3 o) []] [some 0]),
                 HT Try.prog (sub (codeOf Try.prog 218) [1, 1, 1, 1, 1, 1, 1, 1, 1, 0]) (st 220 [(0, V.ow 0), (1, V.sc (.int .i64 o_)), (2, V.sc (.int .i64 a2)), (3, V.sc (.int .i64 a3)), (4, V.fn 163 [V.cp [V.sl true 58 (List.map E58 a40_0), V.sc (.int .i64 a40_1), V.sc (.int .i64 a40_2), V.sl true 137 (List.map E137 a40_3)]]), (18, V.sc (.int .i64 (i64 (bshr .u64 (u64 (i64 (o_ + a3))) 1)))), (20, V.sc (.int .i64 r16)), (24, V.sc (.int .i64 (i64 ((i64 ((i64 (bshr .u64 (u64 (i64 (o_ + a3))) 1)) + a2)) - r16))))] [Blk.row 3 (List.map E3 o) []] [some 0]) (X.go) (st 220 [(0, V.ow 0), (1, V.sc (.int .i64 o_)), (3, V.sc (.int .i64 a3)), (4, V.fn 163 [V.cp [V.sl true 58 (List.map E58 a40_0), V.sc (.int .i64 a40_1), V.sc (.int .i64 a40_2), V.sl true 137 (List.map E137 a40_3)]]), (18, V.sc (.int .i64 (i64 (bshr .u64 (u64 (i64 (o_ + a3))) 1)))), (20, V.sc (.int .i64 r16)), (24, V.sc (.int .i64 (i64 ((i64 ((i64 (bshr .u64 (u64 (i64 (o_ + a3))) 1)) + a2)) - r16))))] [Blk.row 3 (List.map E3 r18) []] [some 0]),
                 (decide (o_ < r16)) = true,
                 (decide (o_ < r16)) = true,
                 (decide (o_ < r16)) = true,
                 (decide (o_ < r16)) = true,
                 (decide (r16 < (i64 (bshr .u64 (u64 (i64 (o_ + a3))) 1)))) = true,
                 Fn Try.prog 218 [(true, E24 r18), (false, E3 o_), (false, E3 r16), (false, E3 (i64 (bshr .u64 (u64 (i64 (o_ + a3))) 1))), (false, V.fn 163 [V.cp [V.sl true 58 (List.map E58 a40_0), V.sc (.int .i64 a40_1), V.sc (.int .i64 a40_2), V.sl true 137 (List.map E137 a40_3)]])] (V.tup []) [V.sl true 3 (List.map E3 r19)],
                 (true || ((V.tup []).nv && nvL [V.sl true 3 (List.map E3 r19)])) = true,
                 (decide ((i64 (bshr .u64 (u64 (i64 (o_ + a3))) 1)) < (i64 ((i64 ((i64 (bshr .u64 (u64 (i64 (o_ + a3))) 1)) + a2)) - r16)))) = false,
                 (decide ((i64 (bshr .u64 (u64 (i64 (o_ + a3))) 1)) < (i64 ((i64 ((i64 (bshr .u64 (u64 (i64 (o_ + a3))) 1)) + a2)) - r16)))) = false,
                 (decide ((i64 (bshr .u64 (u64 (i64 (o_ + a3))) 1)) < (i64 ((i64 ((i64 (bshr .u64 (u64 (i64 (o_ + a3))) 1)) + a2)) - r16)))) = false,
                 (decide ((i64 (bshr .u64 (u64 (i64 (o_ + a3))) 1)) < (i64 ((i64 ((i64 (bshr .u64 (u64 (i64 (o_ + a3))) 1)) + a2)) - r16)))) = false,
                 false = false]) (by kernel_rfl) (cj ((slices_symMergeCmpFunc_int_impl_OrderOf_1_c0_ok o o_ a2 a3 a40_0 a40_1 a40_2 a40_3 r6 h23).at h24) (cj ((slices_symMergeCmpFunc_int_impl_OrderOf_1_c5_ok o o_ a2 a3 a40_0 a40_1 a40_2 a40_3 r12 h48).at h49) (cj (by decide) (cj (slices_symMergeCmpFunc_int_impl_OrderOf_1_c10_ok o o_ a2 a3 a40_0 a40_1 a40_2 a40_3 r13 h52) (cj (slices_symMergeCmpFunc_int_impl_OrderOf_1_l4_ok o o_ a2 a3 a40_0 a40_1 a40_2 a40_3 FUEL r13.1 r13.2 r16 h63) (cj (slices_symMergeCmpFunc_int_impl_OrderOf_1_c13_ok o o_ a2 a3 a40_0 a40_1 a40_2 a40_3 r16 r18 h67) (cj h68 (cj h68 (cj h68 (cj h68 (cj h69 (cj (slices_symMergeCmpFunc_int_impl_OrderOf_1_ok fuel r18 o_ r16 (i64 (bshr .u64 (u64 (i64 (o_ + a3))) 1)) a40_0 a40_1 a40_2 a40_3 r19 h70) (cj rfl (cj h71 (cj h71 (cj h71 (cj h71 (cj1 rfl)))))))))))))))))))))) (fun h69 =>
              Pn.ite (fun h74 =>
               Pn.ite (fun h75 =>
                Pn.bind (fun r21 h76 =>
                 Pn.some (Fn.of [.wait 1, .mask [0, 1, 2, 3, 4], .ren [0], .join 41 (X.go) (st 220 [(0, V.ow 0), (1, V.sc (.int .i64 o_)), (2, V.sc (.int .i64 a2)), (3, V.sc (.int .i64 a3)), (4, V.fn 163 [V.cp [V.sl true 58 (List.map E58 a40_0), V.sc (.int .i64 a40_1), V.sc (.int .i64 a40_2), V.sl true 137 (List.map E137 a40_3)]])] [Blk.row 3 (List.map E3 o) []] [some 0]), .wait 1, .mask [0, 1, 2, 3, 4], .ren [0], .join 41 (X.go) (st 220 [(0, V.ow 0), (1, V.sc (.int .i64 o_)), (2, V.sc (.int .i64 a2)), (3, V.sc (.int .i64 a3)), (4, V.fn 163 [V.cp [V.sl true 58 (List.map E58 a40_0), V.sc (.int .i64 a40_1), V.sc (.int .i64 a40_2), V.sl true 137 (List.map E137 a40_3)]])] [Blk.row 3 (List.map E3 o) []] [some 0]), .wait 14, .mask [0, 1, 2, 3, 4, 18, 19], .ren [0], .join 9 (X.go) (st 220 [(0, V.ow 0), (1, V.sc (.int .i64 o_)), (2, V.sc (.int .i64 a2)), (3, V.sc (.int .i64 a3)), (4, V.fn 163 [V.cp [V.sl true 58 (List.map E58 a40_0), V.sc (.int .i64 a40_1), V.sc (.int .i64 a40_2), V.sl true 137 (List.map E137 a40_3)]]), (18, V.sc (.int .i64 (i64 (bshr .u64 (u64 (i64 (o_ + a3))) 1)))), (19, V.sc (.int .i64 (i64 ((i64 (bshr .u64 (u64 (i64 (o_ + a3))) 1)) + a2)))), (20, V.sc (.int .i64 r13.1)), (21, V.sc (.int .i64 r13.2))] [Blk.row 3 (List.map E3 o) []] [some 0]), .wait 4, .mask [0, 1, 2, 3, 4, 18, 19, 20, 21, 22], .ren [0], .loop (X.out 8) (st 220 [(0, V.ow 0), (1, V.sc (.int .i64 o_)), (2, V.sc (.int .i64 a2)), (3, V.sc (.int .i64 a3)), (4, V.fn 163 [V.cp [V.sl true 58 (List.map E58 a40_0), V.sc (.int .i64 a40_1), V.sc (.int .i64 a40_2), V.sl true 137 (List.map E137 a40_3)]]), (18, V.sc (.int .i64 (i64 (bshr .u64 (u64 (i64 (o_ + a3))) 1)))), (19, V.sc (.int .i64 (i64 ((i64 (bshr .u64 (u64 (i64 (o_ + a3))) 1)) + a2)))), (20, V.sc (.int .i64 r16))] [Blk.row 3 (List.map E3 o) []] [some 0]), .wait 5, .mask [0, 1, 2, 3, 4, 18, 20, 24], .ren [0], .join 5 (X.go) (st 220 [(0, V.ow 0), (1, V.sc (.int .i64 o_)), (3, V.sc (.int .i64 a3)), (4, V.fn 163 [V.cp [V.sl true 58 (List.map E58 a40_0), V.sc (.int .i64 a40_1), V.sc (.int .i64 a40_2), V.sl true 137 (List.map E137 a40_3)]]), (18, V.sc (.int .i64 (i64 (bshr .u64 (u64 (i64 (o_ + a3))) 1)))), (20, V.sc (.int .i64 r16)), (24, V.sc (.int .i64 (i64 ((i64 ((i64 (bshr .u64 (u64 (i64 (o_ + a3))) 1)) + a2)) - r16))))] [Blk.row 3 (List.map E3 r18) []] [some 0]), .bit true, .bit true, .bit true, .bit true, .bit false, .bit true, .bit true, .bit true, .bit true, .bit true, .call [true, false, false, false, false] (V.tup []) [V.sl true 3 (List.map E3 r21)]] (p := [HT Try.prog (sub (codeOf Try.prog 218) [0]) (st 220 [(0, V.ow 0), (1, V.sc (.int .i64 o_)), (2, V.sc (.int .i64 a2)), (3, V.sc (.int .i64 a3)), (4, V.fn 163 [V.cp [V.sl true 58 (List.map E58 a40_0), V.sc (.int .i64 a40_1), V.sc (.int .i64 a40_2), V.sl true 137 (List.map E137 a40_3)]])] [Blk.row 3 (List.map E3 o) []] [some 0]) (X.go) (st 220 [(0, V.ow 0), (1, V.sc (.int .i64 o_)), (2, V.sc (.int .i64 a2)), (3, V.sc (.int .i64 a3)), (4, V.fn 163 [V.cp [V.sl true 58 (List.map E58 a40_0), V.sc (.int .i64 a40_1), V.sc (.int .i64 a40_2), V.sl true 137 (List.map E137 a40_3)]])] [Blk.row 3 (List.map E3 o) []] [some 0]),
                  HT Try.prog (sub (codeOf Try.prog 218) [1, 0]) (st 220 [(0, V.ow 0), (1, V.sc (.int .i64 o_)), (2, V.sc (.int .i64 a2)), (3, V.sc (.int .i64 a3)), (4, V.fn 163 [V.cp [V.sl true 58 (List.map E58 a40_0), V.sc (.int .i64 a40_1), V.sc (.int .i64 a40_2), V.sl true 137 (List.map E137 a40_3)]])] [Blk.row 3 (List.map E3 o) []] [some 0]) (X.go) (st 220 [(0, V.ow 0), (1, V.sc (.int .i64 o_)), (2, V.sc (.int .i64 a2)), (3, V.sc (.int .i64 a3)), (4, V.fn 163 [V.cp [V.sl true 58 (List.map E58 a40_0), V.sc (.int .i64 a40_1), V.sc (.int .i64 a40_2), V.sl true 137 (List.map E137 a40_3)]])] [Blk.row 3 (List.map E3 o) []] [some 0]),
                  ¬ (1 : Int) < 0,
                  HT Try.prog (sub (codeOf Try.prog 218) [1, 1, 1, 1, 1, 0]) (st 220 [(0, V.ow 0), (1, V.sc (.int .i64 o_)), (2, V.sc (.int .i64 a2)), (3, V.sc (.int .i64 a3)), (4, V.fn 163 [V.cp [V.sl true 58 (List.map E58 a40_0), V.sc (.int .i64 a40_1), V.sc (.int .i64 a40_2), V.sl true 137 (List.map E137 a40_3)]]), (18, V.sc (.int .i64 (i64 (bshr .u64 (u64 (i64 (o_ + a3))) 1)))), (19, V.sc (.int .i64 (i64 ((i64 (bshr .u64 (u64 (i64 (o_ + a3))) 1)) + a2))))] [Blk.row 3 (List.map E3 o) []] [some 0]) (X.go) (st 220 [(0, V.ow 0), (1, V.sc (.int .i64 o_)), (2, V.sc (.int .i64 a2)), (3, V.sc (.int .i64 a3)), (4, V.fn 163 [V.cp [V.sl true 58 (List.map E58 a40_0), V.sc (.int .i64 a40_1), V.sc (.int .i64 a40_2), V.sl true 137 (List.map E137 a40_3)]]), (18, V.sc (.int .i64 (i64 (bshr .u64 (u64 (i64 (o_ + a3))) 1)))), (19, V.sc (.int .i64 (i64 ((i64 (bshr .u64 (u64 (i64 (o_ + a3))) 1)) + a2)))), (20, V.sc (.int .i64 r13.1)), (21, V.sc (.int .i64 r13.2))] [Blk.row 3 (List.map E3 o) []] [some 0]),
                  Loop Try.prog (sub (codeOf Try.prog 218) [1, 1, 1, 1, 1, 1, 1, 0, 0, 0]) (st 220 [(0, V.ow 0), (1, V.sc (.int .i64 o_)), (2, V.sc (.int .i64 a2)), (3, V.sc (.int .i64 a3)), (4, V.fn 163 [V.cp [V.sl true 58 (List.map E58 a40_0), V.sc (.int .i64 a40_1), V.sc (.int .i64 a40_2), V.sl true 137 (List.map E137 a40_3)]]), (18, V.sc (.int .i64 (i64 (bshr .u64 (u64 (i64 (o_ + a3))) 1)))), (19, V.sc (.int .i64 (i64 ((i64 (bshr .u64 (u64 (i64 (o_ + a3))) 1)) + a2)))), (20, V.sc (.int .i64 r13.1)), (21, V.sc (.int .i64 r13.2)), (22, V.sc (.int .i64 (i64 ((i64 ((i64 (bshr .u64 (u64 (i64 (o_ + a3))) 1)) + a2)) - 1))))] [Blk.row 3 (List.map E3 o) []] [some 0]) (X.out 8) (st 220 [(0, V.ow 0), (1, V.sc (.int .i64 o_)), (2, V.sc (.int .i64 a2)), (3, V.sc (.int .i64 a3)), (4, V.fn 163 [V.cp [V.sl true 58 (List.map E58 a40_0), V.sc (.int .i64 a40_1), V.sc (.int .i64 a40_2), V.sl true 137 (List.map E137 a40_3)]]), (18, V.sc (.int .i64 (i64 (bshr .u64 (u64 (i64 (o_ + a3))) 1)))), (19, V.sc (.int .i64 (i64 ((i64 (bshr .u64 (u64 (i64 (o_ + a3))) 1)) + a2)))), (20, V.sc (.int .i64 r16))] [Blk.row 3 (List.map E3 o) []] [some 0]),
                  HT Try.prog (sub (codeOf Try.prog 218) [1, 1, 1, 1, 1, 1, 1, 1, 1, 0]) (st 220 [(0, V.ow 0), (1, V.sc (.int .i64 o_)), (2, V.sc (.int .i64 a2)), (3, V.sc (.int .i64 a3)), (4, V.fn 163 [V.cp [V.sl true 58 (List.map E58 a40_0), V.sc (.int .i64 a40_1), V.sc (.int .i64 a40_2), V.sl true 137 (List.map E137 a40_3)]]), (18, V.sc (.int .i64 (i64 (bshr .u64 (u64 (i64 (o_ + a3))) 1)))), (20, V.sc (.int .i64 r16)), (24, V.sc (.int .i64 (i64 ((i64 ((i64 (bshr .u64 (u64 (i64 (o_ + a3))) 1)) + a2)) - r16))))] [Blk.row 3 (List.map E3 o) []] [some 0]) (X.go) (st 220 [(0, V.ow 0), (1, V.sc (.int .i64 o_)), (3, V.sc (.int .i64 a3)), (4, V.fn 163 [V.cp [V.sl true 58 (List.map E58 a40_0), V.sc (.int .i64 a40_1), V.sc (.int .i64 a40_2), V.sl true 137 (List.map E137 a40_3)]]), (18, V.sc (.int .i64 (i64 (bshr .u64 (u64 (i64 (o_ + a3))) 1)))), (20, V.sc (.int .i64 r16)), (24, V.sc (.int .i64 (i64 ((i64 ((i64 (bshr .u64 (u64 (i64 (o_ + a3))) 1)) + a2)) - r16))))] [Blk.row 3 (List.map E3 r18) []] [some 0]),
                  (decide (o_ < r16)) = true,
                  (decide (o_ < r16)) = true,
                  (decide (o_ < r16)) = true,
                  (decide (o_ < r16)) = true,
                  (decide (r16 < (i64 (bshr .u64 (u64 (i64 (o_ + a3))) 1)))) = false,
                  (decide ((i64 (bshr .u64 (u64 (i64 (o_ + a3))) 1)) < (i64 ((i64 ((i64 (bshr .u64 (u64 (i64 (o_ + a3))) 1)) + a2)) - r16)))) = true,
                  (decide ((i64 (bshr .u64 (u64 (i64 (o_ + a3))) 1)) < (i64 ((i64 ((i64 (bshr .u64 (u64 (i64 (o_ + a3))) 1)) + a2)) - r16)))) = true,
                  (decide ((i64 (bshr .u64 (u64 (i64 (o_ + a3))) 1)) < (i64 ((i64 ((i64 (bshr .u64 (u64 (i64 (o_ + a3))) 1)) + a2)) - r16)))) = true,
                  (decide ((i64 (bshr .u64 (u64 (i64 (o_ + a3))) 1)) < (i64 ((i64 ((i64 (bshr .u64 (u64 (i64 (o_ + a3))) 1)) + a2)) - r16)))) = true,
                  (decide ((i64 ((i64 ((i64 (bshr .u64 (u64 (i64 (o_ + a3))) 1)) + a2)) - r16)) < a3)) = true,
                  Fn Try.prog 218 [(true, E24 r18), (false, E3 (i64 (bshr .u64 (u64 (i64 (o_ + a3))) 1))), (false, E3 (i64 ((i64 ((i64 (bshr .u64 (u64 (i64 (o_ + a3))) 1)) + a2)) - r16))), (false, E3 a3), (false, V.fn 163 [V.cp [V.sl true 58 (List.map E58 a40_0), V.sc (.int .i64 a40_1), V.sc (.int .i64 a40_2), V.sl true 137 (List.map E137 a40_3)]])] (V.tup []) [V.sl true 3 (List.map E3 r21)],
                  (true || ((V.tup []).nv && nvL [V.sl true 3 (List.map E3 r21)])) = true]) (by kernel_rfl) (cj ((slices_symMergeCmpFunc_int_impl_OrderOf_1_c0_ok o o_ a2 a3 a40_0 a40_1 a40_2 a40_3 r6 h23).at h24) (cj ((slices_symMergeCmpFunc_int_impl_OrderOf_1_c5_ok o o_ a2 a3 a40_0 a40_1 a40_2 a40_3 r12 h48).at h49) (cj (by decide) (cj (slices_symMergeCmpFunc_int_impl_OrderOf_1_c10_ok o o_ a2 a3 a40_0 a40_1 a40_2 a40_3 r13 h52) (cj (slices_symMergeCmpFunc_int_impl_OrderOf_1_l4_ok o o_ a2 a3 a40_0 a40_1 a40_2 a40_3 FUEL r13.1 r13.2 r16 h63) (cj (slices_symMergeCmpFunc_int_impl_OrderOf_1_c13_ok o o_ a2 a3 a40_0 a40_1 a40_2 a40_3 r16 r18 h67) (cj h68 (cj h68 (cj h68 (cj h68 (cj h69 (cj h74 (cj h74 (cj h74 (cj h74 (cj h75 (cj (slices_symMergeCmpFunc_int_impl_OrderOf_1_ok fuel r18 (i64 (bshr .u64 (u64 (i64 (o_ + a3))) 1)) (i64 ((i64 ((i64 (bshr .u64 (u64 (i64 (o_ + a3))) 1)) + a2)) - r16)) a3 a40_0 a40_1 a40_2 a40_3 r21 h76) (cj1 rfl))))))))))))))))))))) (fun h75 =>
                Pn.some (Fn.of [.wait 1, .mask [0, 1, 2, 3, 4], .ren [0], .join 41 (X.go) (st 220 [(0, V.ow 0), (1, V.sc (.int .i64 o_)), (2, V.sc (.int .i64 a2)), (3, V.sc (.int .i64 a3)), (4, V.fn 163 [V.cp [V.sl true 58 (List.map E58 a40_0), V.sc (.int .i64 a40_1), V.sc (.int .i64 a40_2), V.sl true 137 (List.map E137 a40_3)]])] [Blk.row 3 (List.map E3 o) []] [some 0]), .wait 1, .mask [0, 1, 2, 3, 4], .ren [0], .join 41 (X.go) (st 220 [(0, V.ow 0), (1, V.sc (.int .i64 o_)), (2, V.sc (.int .i64 a2)), (3, V.sc (.int .i64 a3)), (4, V.fn 163 [V.cp [V.sl true 58 (List.map E58 a40_0), V.sc (.int .i64 a40_1), V.sc (.int .i64 a40_2), V.sl true 137 (List.map E137 a40_3)]])] [Blk.row 3 (List.map E3 o) []] [some 0]), .wait 14, .mask [0, 1, 2, 3, 4, 18, 19], .ren [0], .join 9 (X.go) (st 220 [(0, V.ow 0), (1, V.sc (.int .i64 o_)), (2, V.sc (.int .i64 a2)), (3, V.sc (.int .i64 a3)), (4, V.fn 163 [V.cp [V.sl true 58 (List.map E58 a40_0), V.sc (.int .i64 a40_1), V.sc (.int .i64 a40_2), V.sl true 137 (List.map E137 a40_3)]]), (18, V.sc (.int .i64 (i64 (bshr .u64 (u64 (i64 (o_ + a3))) 1)))), (19, V.sc (.int .i64 (i64 ((i64 (bshr .u64 (u64 (i64 (o_ + a3))) 1)) + a2)))), (20, V.sc (.int .i64 r13.1)), (21, V.sc (.int .i64 r13.2))] [Blk.row 3 (List.map E3 o) []] [some 0]), .wait 4, .mask [0, 1, 2, 3, 4, 18, 19, 20, 21, 22], .ren [0], .loop (X.out 8) (st 220 [(0, V.ow 0), (1, V.sc (.int .i64 o_)), (2, V.sc (.int .i64 a2)), (3, V.sc (.int .i64 a3)), (4, V.fn 163 [V.cp [V.sl true 58 (List.map E58 a40_0), V.sc (.int .i64 a40_1), V.sc (.int .i64 a40_2), V.sl true 137 (List.map E137 a40_3)]]), (18, V.sc (.int .i64 (i64 (bshr .u64 (u64 (i64 (o_ + a3))) 1)))), (19, V.sc (.int .i64 (i64 ((i64 (bshr .u64 (u64 (i64 (o_ + a3))) 1)) + a2)))), (20, V.sc (.int .i64 r16))] [Blk.row 3 (List.map E3 o) []] [some 0]), .wait 5, .mask [0, 1, 2, 3, 4, 18, 20, 24], .ren [0], .join 5 (X.go) (st 220 [(0, V.ow 0), (1, V.sc (.int .i64 o_)), (3, V.sc (.int .i64 a3)), (4, V.fn 163 [V.cp [V.sl true 58 (List.map E58 a40_0), V.sc (.int .i64 a40_1), V.sc (.int .i64 a40_2), V.sl true 137 (List.map E137 a40_3)]]), (18, V.sc (.int .i64 (i64 (bshr .u64 (u64 (i64 (o_ + a3))) 1)))), (20, V.sc (.int .i64 r16)), (24, V.sc (.int .i64 (i64 ((i64 ((i64 (bshr .u64 (u64 (i64 (o_ + a3))) 1)) + a2)) - r16))))] [Blk.row 3 (List.map E3 r18) []] [some 0]), .bit true, .bit true, .bit true, .bit true, .bit false, .bit true, .bit true, .bit true, .bit true, .bit false] (p := [HT Try.prog (sub (codeOf Try.prog 218) [0]) (st 220 [(0, V.ow 0), (1, V.sc (.int .i64 o_)), (2, V.sc (.int .i64 a2)), (3, V.sc (.int .i64 a3)), (4, V.fn 163 [V.cp [V.sl true 58 (List.map E58 a40_0), V.sc (.int .i64 a40_1), V.sc (.int .i64 a40_2), V.sl true 137 (List.map E137 a40_3)]])] [Blk.row 3 (List.map E3 o) []] [some 0]) (X.go) (st 220 [(0, V.ow 0), (1, V.sc (.int .i64 o_)), (2, V.sc (.int .i64 a2)), (3, V.sc (.int .i64 a3)), (4, V.fn 163 [V.cp [V.sl true 58 (List.map E58 a40_0), V.sc (.int .i64 a40_1), V.sc (.int .i64 a40_2), V.sl true 137 (List.map E137 a40_3)]])] [Blk.row 3 (List.map E3 o) []] [some 0]),
                 HT Try.prog (sub (codeOf Try.prog 218) [1, 0]) (st 220 [(0, V.ow 0), (1, V.sc (.int .i64 o_)), (2, V.sc (.int .i64 a2)), (3, V.sc (.int .i64 a3)), (4, V.fn 163 [V.cp [V.sl true 58 (List.map E58 a40_0), V.sc (.int .i64 a40_1), V.sc (.int .i64 a40_2), V.sl true 137 (List.map E137 a40_3)]])] [Blk.row 3 (List.map E3 o) []] [some 0]) (X.go) (st 220 [(0, V.ow 0), (1, V.sc (.int .i64 o_)), (2, V.sc (.int .i64 a2)), (3, V.sc (.int .i64 a3)), (4, V.fn 163 [V.cp [V.sl true 58 (List.map E58 a40_0), V.sc (.int .i64 a40_1), V.sc (.int .i64 a40_2), V.sl true 137 (List.map E137 a40_3)]])] [Blk.row 3 (List.map E3 o) []] [some 0]),
                 ¬ (1 : Int) < 0,
                 HT Try.prog (sub (codeOf Try.prog 218) [1, 1, 1, 1, 1, 0]) (st 220 [(0, V.ow 0), (1, V.sc (.int .i64 o_)), (2, V.sc (.int .i64 a2)), (3, V.sc (.int .i64 a3)), (4, V.fn 163 [V.cp [V.sl true 58 (List.map E58 a40_0), V.sc (.int .i64 a40_1), V.sc (.int .i64 a40_2), V.sl true 137 (List.map E137 a40_3)]]), (18, V.sc (.int .i64 (i64 (bshr .u64 (u64 (i64 (o_ + a3))) 1)))), (19, V.sc (.int .i64 (i64 ((i64 (bshr .u64 (u64 (i64 (o_ + a3))) 1)) + a2))))] [Blk.row 3 (List.map E3 o) []] [some 0]) (X.go) (st 220 [(0, V.ow 0), (1, V.sc (.int .i64 o_)), (2, V.sc (.int .i64 a2)), (3, V.sc (.int .i64 a3)), (4, V.fn 163 [V.cp [V.sl true 58 (List.map E58 a40_0), V.sc (.int .i64 a40_1), V.sc (.int .i64 a40_2), V.sl true 137 (List.map E137 a40_3)]]), (18, V.sc (.int .i64 (i64 (bshr .u64 (u64 (i64 (o_ + a3))) 1)))), (19, V.sc (.int .i64 (i64 ((i64 (bshr .u64 (u64 (i64 (o_ + a3))) 1)) + a2)))), (20, V.sc (.int .i64 r13.1)), (21, V.sc (.int .i64 r13.2))] [Blk.row 3 (List.map E3 o) []] [some 0]),
                 Loop Try.prog (sub (codeOf Try.prog 218) [1, 1, 1, 1, 1, 1, 1, 0, 0, 0]) (st 220 [(0, V.ow 0), (1, V.sc (.int .i64 o_)), (2, V.sc (.int .i64 a2)), (3, V.sc (.int .i64 a3)), (4, V.fn 163 [V.cp [V.sl true 58 (List.map E58 a40_0), V.sc (.int .i64 a40_1), V.sc (.int .i64 a40_2), V.sl true 137 (List.map E137 a40_3)]]), (18, V.sc (.int .i64 (i64 (bshr .u64 (u64 (i64 (o_ + a3))) 1)))), (19, V.sc (.int .i64 (i64 ((i64 (bshr .u64 (u64 (i64 (o_ + a3))) 1)) + a2)))), (20, V.sc (.int .i64 r13.1)), (21, V.sc (.int .i64 r13.2)), (22, V.sc (.int .i64 (i64 ((i64 ((i64 (bshr .u64 (u64 (i64 (o_ + a3))) 1)) + a2)) - 1))))] [Blk.row 3 (List.map E3 o) []] [some 0]) (X.out 8) (st 220 [(0, V.ow 0), (1, V.sc (.int .i64 o_)), (2, V.sc (.int .i64 a2)), (3, V.sc (.int .i64 a3)), (4, V.fn 163 [V.cp [V.sl true 58 (List.map E58 a40_0), V.sc (.int .i64 a40_1), V.sc (.int .i64 a40_2), V.sl true 137 (List.map E137 a40_3)]]), (18, V.sc (.int .i64 (i64 (bshr .u64 (u64 (i64 (o_ + a3))) 1)))), (19, V.sc (.int .i64 (i64 ((i64 (bshr .u64 (u64 (i64 (o_ + a3))) 1)) + a2)))), (20, V.sc (.int .i64 r16))] [Blk.row 3 (List.map E3 o) []] [some 0]),
                 HT Try.prog (sub (codeOf Try.prog 218) [1, 1, 1, 1, 1, 1, 1, 1, 1, 0]) (st 220 [(0, V.ow 0), (1, V.sc (.int .i64 o_)), (2, V.sc (.int .i64 a2)), (3, V.sc (.int .i64 a3)), (4, V.fn 163 [V.cp [V.sl true 58 (List.map E58 a40_0), V.sc (.int .i64 a40_1), V.sc (.int .i64 a40_2), V.sl true 137 (List.map E137 a40_3)]]), (18, V.sc (.int .i64 (i64 (bshr .u64 (u64 (i64 (o_ + a3))) 1)))), (20, V.sc (.int .i64 r16)), (24, V.sc (.int .i64 (i64 ((i64 ((i64 (bshr .u64 (u64 (i64 (o_ + a3))) 1)) + a2)) - r16))))] [Blk.row 3 (List.map E3 o) []] [some 0]) (X.go) (st 220 [(0, V.ow 0), (1, V.sc (.int .i64 o_)), (3, V.sc (.int .i64 a3)), (4, V.fn 163 [V.cp [V.sl true 58 (List.map E58 a40_0), V.sc (.int .i64 a40_1), V.sc (.int .i64 a40_2), V.sl true 137 (List.map E137 a40_3)]]), (18, V.sc (.int .i64 (i64 (bshr .u64 (u64 (i64 (o_ + a3))) 1)))), (20, V.sc (.int .i64 r16)), (24, V.sc (.int .i64 (i64 ((i64 ((i64 (bshr .u64 (u64 (i64 (o_ + a3))) 1)) + a2)) - r16))))] [Blk.row 3 (List.map E3 r18) []] [some 0]),
                 (decide (o_ < r16)) = true,
                 (decide (o_ < r16)) = true,
                 (decide (o_ < r16)) = true,
                 (decide (o_ < r16)) = true,
                 (decide (r16 < (i64 (bshr .u64 (u64 (i64 (o_ + a3))) 1)))) = false,
                 (decide ((i64 (bshr .u64 (u64 (i64 (o_ + a3))) 1)) < (i64 ((i64 ((i64 (bshr .u64 (u64 (i64 (o_ + a3))) 1)) + a2)) - r16)))) = true,
                 (decide ((i64 (bshr .u64 (u64 (i64 (o_ + a3))) 1)) < (i64 ((i64 ((i64 (bshr .u64 (u64 (i64 (o_ + a3))) 1)) + a2)) - r16)))) = true,
                 (decide ((i64 (bshr .u64 (u64 (i64 (o_ + a3))) 1)) < (i64 ((i64 ((i64 (bshr .u64 (u64 (i64 (o_ + a3))) 1)) + a2)) - r16)))) = true,
                 (decide ((i64 (bshr .u64 (u64 (i64 (o_ + a3))) 1)) < (i64 ((i64 ((i64 (bshr .u64 (u64 (i64 (o_ + a3))) 1)) + a2)) - r16)))) = true,
                 (decide ((i64 ((i64 ((i64 (bshr .u64 (u64 (i64 (o_ + a3))) 1)) + a2)) - r16)) < a3)) = false]) (by kernel_rfl) (cj ((slices_symMergeCmpFunc_int_impl_OrderOf_1_c0_ok o o_ a2 a3 a40_0 a40_1 a40_2 a40_3 r6 h23).at h24) (cj ((slices_symMergeCmpFunc_int_impl_OrderOf_1_c5_ok o o_ a2 a3 a40_0 a40_1 a40_2 a40_3 r12 h48).at h49) (cj (by decide) (cj (slices_symMergeCmpFunc_int_impl_OrderOf_1_c10_ok o o_ a2 a3 a40_0 a40_1 a40_2 a40_3 r13 h52) (cj (slices_symMergeCmpFunc_int_impl_OrderOf_1_l4_ok o o_ a2 a3 a40_0 a40_1 a40_2 a40_3 FUEL r13.1 r13.2 r16 h63) (cj (slices_symMergeCmpFunc_int_impl_OrderOf_1_c13_ok o o_ a2 a3 a40_0 a40_1 a40_2 a40_3 r16 r18 h67) (cj h68 (cj h68 (cj h68 (cj h68 (cj h69 (cj h74 (cj h74 (cj h74 (cj h74 (cj1 h75))))))))))))))))))) (fun h74 =>
               Pn.some (Fn.of [.wait 1, .mask [0, 1, 2, 3, 4], .ren [0], .join 41 (X.go) (st 220 [(0, V.ow 0), (1, V.sc (.int .i64 o_)), (2, V.sc (.int .i64 a2)), (3, V.sc (.int .i64 a3)), (4, V.fn 163 [V.cp [V.sl true 58 (List.map E58 a40_0), V.sc (.int .i64 a40_1), V.sc (.int .i64 a40_2), V.sl true 137 (List.map E137 a40_3)]])] [Blk.row 3 (List.map E3 o) []] [some 0]), .wait 1, .mask [0, 1, 2, 3, 4], .ren [0], .join 41 (X.go) (st 220 [(0, V.ow 0), (1, V.sc (.int .i64 o_)), (2, V.sc (.int .i64 a2)), (3, V.sc (.int .i64 a3)), (4, V.fn 163 [V.cp [V.sl true 58 (List.map E58 a40_0), V.sc (.int .i64 a40_1), V.sc (.int .i64 a40_2), V.sl true 137 (List.map E137 a40_3)]])] [Blk.row 3 (List.map E3 o) []] [some 0]), .wait 14, .mask [0, 1, 2, 3, 4, 18, 19], .ren [0], .join 9 (X.go) (st 220 [(0, V.ow 0), (1, V.sc (.int .i64 o_)), (2, V.sc (.int .i64 a2)), (3, V.sc (.int .i64 a3)), (4, V.fn 163 [V.cp [V.sl true 58 (List.map E58 a40_0), V.sc (.int .i64 a40_1), V.sc (.int .i64 a40_2), V.sl true 137 (List.map E137 a40_3)]]), (18, V.sc (.int .i64 (i64 (bshr .u64 (u64 (i64 (o_ + a3))) 1)))), (19, V.sc (.int .i64 (i64 ((i64 (bshr .u64 (u64 (i64 (o_ + a3))) 1)) + a2)))), (20, V.sc (.int .i64 r13.1)), (21, V.sc (.int .i64 r13.2))] [Blk.row 3 (List.map E3 o) []] [some 0]), .wait 4, .mask [0, 1, 2, 3, 4, 18, 19, 20, 21, 22], .ren [0], .loop (X.out 8) (st 220 [(0, V.ow 0), (1, V.sc (.int .i64 o_)), (2, V.sc (.int .i64 a2)), (3, V.sc (.int .i64 a3)), (4, V.fn 163 [V.cp [V.sl true 58 (List.map E58 a40_0), V.sc (.int .i64 a40_1), V.sc (.int .i64 a40_2), V.sl true 137 (List.map E137 a40_3)]]), (18, V.sc (.int .i64 (i64 (bshr .u64 (u64 (i64 (o_ + a3))) 1)))), (19, V.sc (.int .i64 (i64 ((i64 (bshr .u64 (u64 (i64 (o_ + a3))) 1)) + a2)))), (20, V.sc (.int .i64 r16))] [Blk.row 3 (List.map E3 o) []] [some 0]), .wait 5, .mask [0, 1, 2, 3, 4, 18, 20, 24], .ren [0], .join 5 (X.go) (st 220 [(0, V.ow 0), (1, V.sc (.int .i64 o_)), (3, V.sc (.int .i64 a3)), (4, V.fn 163 [V.cp [V.sl true 58 (List.map E58 a40_0), V.sc (.int .i64 a40_1), V.sc (.int .i64 a40_2), V.sl true 137 (List.map E137 a40_3)]]), (18, V.sc (.int .i64 (i64 (bshr .u64 (u64 (i64 (o_ + a3))) 1)))), (20, V.sc (.int .i64 r16)), (24, V.sc (.int .i64 (i64 ((i64 ((i64 (bshr .u64 (u64 (i64 (o_ + a3))) 1)) + a2)) - r16))))] [Blk.row 3 (List.map E3 r18) []] [some 0]), .bit true, .bit true, .bit true, .bit true, .bit false, .bit false, .bit false, .bit false, .bit false, .bit false] (p := [HT Try.prog (sub (codeOf Try.prog 218) [0]) (st 220 [(0, V.ow 0), (1, V.sc (.int .i64 o_)), (2, V.sc (.int .i64 a2)), (3, V.sc (.int .i64 a3)), (4, V.fn 163 [V.cp [V.sl true 58 (List.map E58 a40_0), V.sc (.int .i64 a40_1), V.sc (.int .i64 a40_2), V.sl true 137 (List.map E137 a40_3)]])] [Blk.row 3 (List.map E3 o) []] [some 0]) (X.go) (st 220 [(0, V.ow 0), (1, V.sc (.int .i64 o_)), (2, V.sc (.int .i64 a2)), (3, V.sc (.int .i64 a3)), (4, V.fn 163 [V.cp [V.sl true 58 (List.map E58 a40_0), V.sc (.int .i64 a40_1), V.sc (.int .i64 a40_2), V.sl true 137 (List.map E137 a40_3)]])] [Blk.row 3 (List.map E3 o) []] [some 0]),
                HT Try.prog (sub (codeOf Try.prog 218) [1, 0]) (st 220 [(0, V.ow 0), (1, V.sc (.int .i64 o_)), (2, V.sc (.int .i64 a2)), (3, V.sc (.int .i64 a3)), (4, V.fn 163 [V.cp [V.sl true 58 (List.map E58 a40_0), V.sc (.int .i64 a40_1), V.sc (.int .i64 a40_2), V.sl true 137 (List.map E137 a40_3)]])] [Blk.row 3 (List.map E3 o) []] [some 0]) (X.go) (st 220 [(0, V.ow 0), (1, V.sc (.int .i64 o_)), (2, V.sc (.int .i64 a2)), (3, V.sc (.int .i64 a3)), (4, V.fn 163 [V.cp [V.sl true 58 (List.map E58 a40_0), V.sc (.int .i64 a40_1), V.sc (.int .i64 a40_2), V.sl true 137 (List.map E137 a40_3)]])] [Blk.row 3 (List.map E3 o) []] [some 0]),
                ¬ (1 : Int) < 0,
                HT Try.prog (sub (codeOf Try.prog 218) [1, 1, 1, 1, 1, 0]) (st 220 [(0, V.ow 0), (1, V.sc (.int .i64 o_)), (2, V.sc (.int .i64 a2)), (3, V.sc (.int .i64 a3)), (4, V.fn 163 [V.cp [V.sl true 58 (List.map E58 a40_0), V.sc (.int .i64 a40_1), V.sc (.int .i64 a40_2), V.sl true 137 (List.map E137 a40_3)]]), (18, V.sc (.int .i64 (i64 (bshr .u64 (u64 (i64 (o_ + a3))) 1)))), (19, V.sc (.int .i64 (i64 ((i64 (bshr .u64 (u64 (i64 (o_ + a3))) 1)) + a2))))] [Blk.row 3 (List.map E3 o) []] [some 0]) (X.go) (st 220 [(0, V.ow 0), (1, V.sc (.int .i64 o_)), (2, V.sc (.int .i64 a2)), (3, V.sc (.int .i64 a3)), (4, V.fn 163 [V.cp [V.sl true 58 (List.map E58 a40_0), V.sc (.int .i64 a40_1), V.sc (.int .i64 a40_2), V.sl true 137 (List.map E137 a40_3)]]), (18, V.sc (.int .i64 (i64 (bshr .u64 (u64 (i64 (o_ + a3))) 1)))), (19, V.sc (.int .i64 (i64 ((i64 (bshr .u64 (u64 (i64 (o_ + a3))) 1)) + a2)))), (20, V.sc (.int .i64 r13.1)), (21, V.sc (.int .i64 r13.2))] [Blk.row 3 (List.map E3 o) []] [some 0]),
                Loop Try.prog (sub (codeOf Try.prog 218) [1, 1, 1, 1, 1, 1, 1, 0, 0, 0]) (st 220 [(0, V.ow 0), (1, V.sc (.int .i64 o_)), (2, V.sc (.int .i64 a2)), (3, V.sc (.int .i64 a3)), (4, V.fn 163 [V.cp [V.sl true 58 (List.map E58 a40_0), V.sc (.int .i64 a40_1), V.sc (.int .i64 a40_2), V.sl true 137 (List.map E137 a40_3)]]), (18, V.sc (.int .i64 (i64 (bshr .u64 (u64 (i64 (o_ + a3))) 1)))), (19, V.sc (.int .i64 (i64 ((i64 (bshr .u64 (u64 (i64 (o_ + a3))) 1)) + a2)))), (20, V.sc (.int .i64 r13.1)), (21, V.sc (.int .i64 r13.2)), (22, V.sc (.int .i64 (i64 ((i64 ((i64 (bshr .u64 (u64 (i64 (o_ + a3))) 1)) + a2)) - 1))))] [Blk.row 3 (List.map E3 o) []] [some 0]) (X.out 8) (st 220 [(0, V.ow 0), (1, V.sc (.int .i64 o_)), (2, V.sc (.int .i64 a2)), (3, V.sc (.int .i64 a3)), (4, V.fn 163 [V.cp [V.sl true 58 (List.map E58 a40_0), V.sc (.int .i64 a40_1), V.sc (.int .i64 a40_2), V.sl true 137 (List.map E137 a40_3)]]), (18, V.sc (.int .i64 (i64 (bshr .u64 (u64 (i64 (o_ + a3))) 1)))), (19, V.sc (.int .i64 (i64 ((i64 (bshr .u64 (u64 (i64 (o_ + a3))) 1)) + a2)))), (20, V.sc (.int .i64 r16))] [Blk.row 3 (List.map E3 o) []] [some 0]),
                HT Try.prog (sub (codeOf Try.prog 218) [1, 1, 1, 1, 1, 1, 1, 1, 1, 0]) (st 220 [(0, V.ow 0), (1, V.sc (.int .i64 o_)), (2, V.sc (.int .i64 a2)), (3, V.sc (.int .i64 a3)), (4, V.fn 163 [V.cp [V.sl true 58 (List.map E58 a40_0), V.sc (.int .i64 a40_1), V.sc (.int .i64 a40_2), V.sl true 137 (List.map E137 a40_3)]]), (18, V.sc (.int .i64 (i64 (bshr .u64 (u64 (i64 (o_ + a3))) 1)))), (20, V.sc (.int .i64 r16)), (24, V.sc (.int .i64 (i64 ((i64 ((i64 (bshr .u64 (u64 (i64 (o_ + a3))) 1)) + a2)) - r16))))] [Blk.row 3 (List.map E3 o) []] [some 0]) (X.go) (st 220 [(0, V.ow 0), (1, V.sc (.int .i64 o_)), (3, V.sc (.int .i64 a3)), (4, V.fn 163 [V.cp [V.sl true 58 (List.map E58 a40_0), V.sc (.int .i64 a40_1), V.sc (.int .i64 a40_2), V.sl true 137 (List.map E137 a40_3)]]), (18, V.sc (.int .i64 (i64 (bshr .u64 (u64 (i64 (o_ + a3))) 1)))), (20, V.sc (.int .i64 r16)), (24, V.sc (.int .i64 (i64 ((i64 ((i64 (bshr .u64 (u64 (i64 (o_ + a3))) 1)) + a2)) - r16))))] [Blk.row 3 (List.map E3 r18) []] [some 0]),
                (decide (o_ < r16)) = true,
                (decide (o_ < r16)) = true,
                (decide (o_ < r16)) = true,
                (decide (o_ < r16)) = true,
                (decide (r16 < (i64 (bshr .u64 (u64 (i64 (o_ + a3))) 1)))) = false,
                (decide ((i64 (bshr .u64 (u64 (i64 (o_ + a3))) 1)) < (i64 ((i64 ((i64 (bshr .u64 (u64 (i64 (o_ + a3))) 1)) + a2)) - r16)))) = false,
                (decide ((i64 (bshr .u64 (u64 (i64 (o_ + a3))) 1)) < (i64 ((i64 ((i64 (bshr .u64 (u64 (i64 (o_ + a3))) 1)) + a2)) - r16)))) = false,
                (decide ((i64 (bshr .u64 (u64 (i64 (o_ + a3))) 1)) < (i64 ((i64 ((i64 (bshr .u64 (u64 (i64 (o_ + a3))) 1)) + a2)) - r16)))) = false,
                (decide ((i64 (bshr .u64 (u64 (i64 (o_ + a3))) 1)) < (i64 ((i64 ((i64 (bshr .u64 (u64 (i64 (o_ + a3))) 1)) + a2)) - r16)))) = false,
                false = false]) (by kernel_rfl) (cj ((slices_symMergeCmpFunc_int_impl_OrderOf_1_c0_ok o o_ a2 a3 a40_0 a40_1 a40_2 a40_3 r6 h23).at h24) (cj ((slices_symMergeCmpFunc_int_impl_OrderOf_1_c5_ok o o_ a2 a3 a40_0 a40_1 a40_2 a40_3 r12 h48).at h49) (cj (by decide) (cj (slices_symMergeCmpFunc_int_impl_OrderOf_1_c10_ok o o_ a2 a3 a40_0 a40_1 a40_2 a40_3 r13 h52) (cj (slices_symMergeCmpFunc_int_impl_OrderOf_1_l4_ok o o_ a2 a3 a40_0 a40_1 a40_2 a40_3 FUEL r13.1 r13.2 r16 h63) (cj (slices_symMergeCmpFunc_int_impl_OrderOf_1_c13_ok o o_ a2 a3 a40_0 a40_1 a40_2 a40_3 r16 r18 h67) (cj h68 (cj h68 (cj h68 (cj h68 (cj h69 (cj h74 (cj h74 (cj h74 (cj h74 (cj1 rfl)))))))))))))))))))) (fun h68 =>
             Pn.ite (fun h77 =>
              Pn.ite (fun h78 =>
               Pn.bind (fun r22 h79 =>
                Pn.some (Fn.of [.wait 1, .mask [0, 1, 2, 3, 4], .ren [0], .join 41 (X.go) (st 220 [(0, V.ow 0), (1, V.sc (.int .i64 o_)), (2, V.sc (.int .i64 a2)), (3, V.sc (.int .i64 a3)), (4, V.fn 163 [V.cp [V.sl true 58 (List.map E58 a40_0), V.sc (.int .i64 a40_1), V.sc (.int .i64 a40_2), V.sl true 137 (List.map E137 a40_3)]])] [Blk.row 3 (List.map E3 o) []] [some 0]), .wait 1, .mask [0, 1, 2, 3, 4], .ren [0], .join 41 (X.go) (st 220 [(0, V.ow 0), (1, V.sc (.int .i64 o_)), (2, V.sc (.int .i64 a2)), (3, V.sc (.int .i64 a3)), (4, V.fn 163 [V.cp [V.sl true 58 (List.map E58 a40_0), V.sc (.int .i64 a40_1), V.sc (.int .i64 a40_2), V.sl true 137 (List.map E137 a40_3)]])] [Blk.row 3 (List.map E3 o) []] [some 0]), .wait 14, .mask [0, 1, 2, 3, 4, 18, 19], .ren [0], .join 9 (X.go) (st 220 [(0, V.ow 0), (1, V.sc (.int .i64 o_)), (2, V.sc (.int .i64 a2)), (3, V.sc (.int .i64 a3)), (4, V.fn 163 [V.cp [V.sl true 58 (List.map E58 a40_0), V.sc (.int .i64 a40_1), V.sc (.int .i64 a40_2), V.sl true 137 (List.map E137 a40_3)]]), (18, V.sc (.int .i64 (i64 (bshr .u64 (u64 (i64 (o_ + a3))) 1)))), (19, V.sc (.int .i64 (i64 ((i64 (bshr .u64 (u64 (i64 (o_ + a3))) 1)) + a2)))), (20, V.sc (.int .i64 r13.1)), (21, V.sc (.int .i64 r13.2))] [Blk.row 3 (List.map E3 o) []] [some 0]), .wait 4, .mask [0, 1, 2, 3, 4, 18, 19, 20, 21, 22], .ren [0], .loop (X.out 8) (st 220 [(0, V.ow 0), (1, V.sc (.int .i64 o_)), (2, V.sc (.int .i64 a2)), (3, V.sc (.int .i64 a3)), (4, V.fn 163 [V.cp [V.sl true 58 (List.map E58 a40_0), V.sc (.int .i64 a40_1), V.sc (.int .i64 a40_2), V.sl true 137 (List.map E137 a40_3)]]), (18, V.sc (.int .i64 (i64 (bshr .u64 (u64 (i64 (o_ + a3))) 1)))), (19, V.sc (.int .i64 (i64 ((i64 (bshr .u64 (u64 (i64 (o_ + a3))) 1)) + a2)))), (20, V.sc (.int .i64 r16))] [Blk.row 3 (List.map E3 o) []] [some 0]), .wait 5, .mask [0, 1, 2, 3, 4, 18, 20, 24], .ren [0], .join 5 (X.go) (st 220 [(0, V.ow 0), (1, V.sc (.int .i64 o_)), (3, V.sc (.int .i64 a3)), (4, V.fn 163 [V.cp [V.sl true 58 (List.map E58 a40_0), V.sc (.int .i64 a40_1), V.sc (.int .i64 a40_2), V.sl true 137 (List.map E137 a40_3)]]), (18, V.sc (.int .i64 (i64 (bshr .u64 (u64 (i64 (o_ + a3))) 1)))), (20, V.sc (.int .i64 r16)), (24, V.sc (.int .i64 (i64 ((i64 ((i64 (bshr .u64 (u64 (i64 (o_ + a3))) 1)) + a2)) - r16))))] [Blk.row 3 (List.map E3 r18) []] [some 0]), .bit false, .bit false, .bit false, .bit false, .bit false, .bit true, .bit true, .bit true, .bit true, .bit true, .call [true, false, false, false, false] (V.tup []) [V.sl true 3 (List.map E3 r22)]] (p := [HT Try.prog (sub (codeOf Try.prog 218) [0]) (st 220 [(0, V.ow 0), (1, V.sc (.int .i64 o_)), (2, V.sc (.int .i64 a2)), (3, V.sc (.int .i64 a3)), (4, V.fn 163 [V.cp [V.sl true 58 (List.map E58 a40_0), V.sc (.int .i64 a40_1), V.sc (.int .i64 a40_2), V.sl true 137 (List.map E137 a40_3)]])] [Blk.row 3 (List.map E3 o) []] [some 0]) (X.go) (st 220 [(0, V.ow 0), (1, V.sc (.int .i64 o_)), (2, V.sc (.int .i64 a2)), (3, V.sc (.int .i64 a3)), (4, V.fn 163 [V.cp [V.sl true 58 (List.map E58 a40_0), V.sc (.int .i64 a40_1), V.sc (.int .i64 a40_2), V.sl true 137 (List.map E137 a40_3)]])] [Blk.row 3 (List.map E3 o) []] [some 0]),
                 HT Try.prog (sub (codeOf Try.prog 218) [1, 0]) (st 220 [(0, V.ow 0), (1, V.sc (.int .i64 o_)), (2, V.sc (.int .i64 a2)), (3, V.sc (.int .i64 a3)), (4, V.fn 163 [V.cp [V.sl true 58 (List.map E58 a40_0), V.sc (.int .i64 a40_1), V.sc (.int .i64 a40_2), V.sl true 137 (List.map E137 a40_3)]])] [Blk.row 3 (List.map E3 o) []] [some 0]) (X.go) (st 220 [(0, V.ow 0), (1, V.sc (.int .i64 o_)), (2, V.sc (.int .i64 a2)), (3, V.sc (.int .i64 a3)), (4, V.fn 163 [V.cp [V.sl true 58 (List.map E58 a40_0), V.sc (.int .i64 a40_1), V.sc (.int .i64 a40_2), V.sl true 137 (List.map E137 a40_3)]])] [Blk.row 3 (List.map E3 o) []] [some 0]),
                 ¬ (1 : Int) < 0,
                 HT Try.prog (sub (codeOf Try.prog 218) [1, 1, 1, 1, 1, 0]) (st 220 [(0, V.ow 0), (1, V.sc (.int .i64 o_)), (2, V.sc (.int .i64 a2)), (3, V.sc (.int .i64 a3)), (4, V.fn 163 [V.cp [V.sl true 58 (List.map E58 a40_0), V.sc (.int .i64 a40_1), V.sc (.int .i64 a40_2), V.sl true 137 (List.map E137 a40_3)]]), (18, V.sc (.int .i64 (i64 (bshr .u64 (u64 (i64 (o_ + a3))) 1)))), (19, V.sc (.int .i64 (i64 ((i64 (bshr .u64 (u64 (i64 (o_ + a3))) 1)) + a2))))] [Blk.row 3 (List.map E3 o) []] [some 0]) (X.go) (st 220 [(0, V.ow 0), (1, V.sc (.int .i64 o_)), (2, V.sc (.int .i64 a2)), (3, V.sc (.int .i64 a3)), (4, V.fn 163 [V.cp [V.sl true 58 (List.map E58 a40_0), V.sc (.int .i64 a40_1), V.sc (.int .i64 a40_2), V.sl true 137 (List.map E137 a40_3)]]), (18, V.sc (.int .i64 (i64 (bshr .u64 (u64 (i64 (o_ + a3))) 1)))), (19, V.sc (.int .i64 (i64 ((i64 (bshr .u64 (u64 (i64 (o_ + a3))) 1)) + a2)))), (20, V.sc (.int .i64 r13.1)), (21, V.sc (.int .i64 r13.2))] [Blk.row 3 (List.map E3 o) []] [some 0]),
                 Loop Try.prog (sub (codeOf Try.prog 218) [1, 1, 1, 1, 1, 1, 1, 0, 0, 0]) (st 220 [(0, V.ow 0), (1, V.sc (.int .i64 o_)), (2, V.sc (.int .i64 a2)), (3, V.sc (.int .i64 a3)), (4, V.fn 163 [V.cp [V.sl true 58 (List.map E58 a40_0), V.sc (.int .i64 a40_1), V.sc (.int .i64 a40_2), V.sl true 137 (List.map E137 a40_3)]]), (18, V.sc (.int .i64 (i64 (bshr .u64 (u64 (i64 (o_ + a3))) 1)))), (19, V.sc (.int .i64 (i64 ((i64 (bshr .u64 (u64 (i64 (o_ + a3))) 1)) + a2)))), (20, V.sc (.int .i64 r13.1)), (21, V.sc (.int .i64 r13.2)), (22, V.sc (.int .i64 (i64 ((i64 ((i64 (bshr .u64 (u64 (i64 (o_ + a3))) 1)) + a2)) - 1))))] [Blk.row 3 (List.map E3 o) []] [some 0]) (X.out 8) (st 220 [(0, V.ow 0), (1, V.sc (.int .i64 o_)), (2, V.sc (.int .i64 a2)), (3, V.sc (.int .i64 a3)), (4, V.fn 163 [V.cp [V.sl true 58 (List.map E58 a40_0), V.sc (.int .i64 a40_1), V.sc (.int .i64 a40_2), V.sl true 137 (List.map E137 a40_3)]]), (18, V.sc (.int .i64 (i64 (bshr .u64 (u64 (i64 (o_ + a3))) 1)))), (19, V.sc (.int .i64 (i64 ((i64 (bshr .u64 (u64 (i64 (o_ + a3))) 1)) + a2)))), (20, V.sc (.int .i64 r16))] [Blk.row 3 (List.map E3 o) []] [some 0]),
                 HT Try.prog (sub (codeOf Try.prog 218) [1, 1, 1, 1, 1, 1, 1, 1, 1, 0]) (st 220 [(0, V.ow 0), (1, V.sc (.int .i64 o_)), (2, V.sc (.int .i64 a2)), (3, V.sc (.int .i64 a3)), (4, V.fn 163 [V.cp [V.sl true 58 (List.map E58 a40_0), V.sc (.int .i64 a40_1), V.sc (.int .i64 a40_2), V.sl true 137 (List.map E137 a40_3)]]), (18, V.sc (.int .i64 (i64 (bshr .u64 (u64 (i64 (o_ + a3))) 1)))), (20, V.sc (.int .i64 r16)), (24, V.sc (.int .i64 (i64 ((i64 ((i64 (bshr .u64 (u64 (i64 (o_ + a3))) 1)) + a2)) - r16))))] [Blk.row 3 (List.map E3 o) []] [some 0]) (X.go) (st 220 [(0, V.ow 0), (1, V.sc (.int .i64 o_)), (3, V.sc (.int .i64 a3)), (4, V.fn 163 [V.cp [V.sl true 58 (List.map E58 a40_0), V.sc (.int .i64 a40_1), V.sc (.int .i64 a40_2), V.sl true 137 (List.map E137 a40_3)]]), (18, V.sc (.int .i64 (i64 (bshr .u64 (u64 (i64 (o_ + a3))) 1)))), (20, V.sc (.int .i64 r16)), (24, V.sc (.int .i64 (i64 ((i64 ((i64 (bshr .u64 (u64 (i64 (o_ + a3))) 1)) + a2)) - r16))))] [Blk.row 3 (List.map E3 r18) []] [some 0]),
                 (decide (o_ < r16)) = false,
                 (decide (o_ < r16)) = false,
                 (decide (o_ < r16)) = false,
                 (decide (o_ < r16)) = false,
                 false = false,
                 (decide ((i64 (bshr .u64 (u64 (i64 (o_ + a3))) 1)) < (i64 ((i64 ((i64 (bshr .u64 (u64 (i64 (o_ + a3))) 1)) + a2)) - r16)))) = true,
                 (decide ((i64 (bshr .u64 (u64 (i64 (o_ + a3))) 1)) < (i64 ((i64 ((i64 (bshr .u64 (u64 (i64 (o_ + a3))) 1)) + a2)) - r16)))) = true,
                 (decide ((i64 (bshr .u64 (u64 (i64 (o_ + a3))) 1)) < (i64 ((i64 ((i64 (bshr .u64 (u64 (i64 (o_ + a3))) 1)) + a2)) - r16)))) = true,
                 (decide ((i64 (bshr .u64 (u64 (i64 (o_ + a3))) 1)) < (i64 ((i64 ((i64 (bshr .u64 (u64 (i64 (o_ + a3))) 1)) + a2)) - r16)))) = true,
                 (decide ((i64 ((i64 ((i64 (bshr .u64 (u64 (i64 (o_ + a3))) 1)) + a2)) - r16)) < a3)) = true,
                 Fn Try.prog 218 [(true, E24 r18), (false, E3 (i64 (bshr .u64 (u64 (i64 (o_ + a3))) 1))), (false, E3 (i64 ((i64 ((i64 (bshr .u64 (u64 (i64 (o_ + a3))) 1)) + a2)) - r16))), (false, E3 a3), (false, V.fn 163 [V.cp [V.sl true 58 (List.map E58 a40_0), V.sc (.int .i64 a40_1), V.sc (.int .i64 a40_2), V.sl true 137 (List.map E137 a40_3)]])] (V.tup []) [V.sl true 3 (List.map E3 r22)],
                 (true || ((V.tup []).nv && nvL [V.sl true 3 (List.map E3 r22)])) = true]) (by kernel_rfl) (cj ((slices_symMergeCmpFunc_int_impl_OrderOf_1_c0_ok o o_ a2 a3 a40_0 a40_1 a40_2 a40_3 r6 h23).at h24) (cj ((slices_symMergeCmpFunc_int_impl_OrderOf_1_c5_ok o o_ a2 a3 a40_0 a40_1 a40_2 a40_3 r12 h48).at h49) (cj (by decide) (cj (slices_symMergeCmpFunc_int_impl_OrderOf_1_c10_ok o o_ a2 a3 a40_0 a40_1 a40_2 a40_3 r13 h52) (cj (slices_symMergeCmpFunc_int_impl_OrderOf_1_l4_ok o o_ a2 a3 a40_0 a40_1 a40_2 a40_3 FUEL r13.1 r13.2 r16 h63) (cj (slices_symMergeCmpFunc_int_impl_OrderOf_1_c13_ok o o_ a2 a3 a40_0 a40_1 a40_2 a40_3 r16 r18 h67) (cj h68 (cj h68 (cj h68 (cj h68 (cj rfl (cj h77 (cj h77 (cj h77 (cj h77 (cj h78 (cj (slices_symMergeCmpFunc_int_impl_OrderOf_1_ok fuel r18 (i64 (bshr .u64 (u64 (i64 (o_ + a3))) 1)) (i64 ((i64 ((i64 (bshr .u64 (u64 (i64 (o_ + a3))) 1)) + a2)) - r16)) a3 a40_0 a40_1 a40_2 a40_3 r22 h79) (cj1 rfl))))))))))))))))))))) (fun h78 =>
               Pn.some (Fn.of [.wait 1, .mask [0, 1, 2, 3, 4], .ren [0], .join 41 (X.go) (st 220 [(0, V.ow 0), (1, V.sc (.int .i64 o_)), (2, V.sc (.int .i64 a2)), (3, V.sc (.int .i64 a3)), (4, V.fn 163 [V.cp [V.sl true 58 (List.map E58 a40_0), V.sc (.int .i64 a40_1), V.sc (.int .i64 a40_2), V.sl true 137 (List.map E137 a40_3)]])] [Blk.row 3 (List.map E3 o) []] [some 0]), .wait 1, .mask [0, 1, 2, 3, 4], .ren [0], .join 41 (X.go) (st 220 [(0, V.ow 0), (1, V.sc (.int .i64 o_)), (2, V.sc (.int .i64 a2)), (3, V.sc (.int .i64 a3)), (4, V.fn 163 [V.cp [V.sl true 58 (List.map E58 a40_0), V.sc (.int .i64 a40_1), V.sc (.int .i64 a40_2), V.sl true 137 (List.map E137 a40_3)]])] [Blk.row 3 (List.map E3 o) []] [some 0]), .wait 14, .mask [0, 1, 2, 3, 4, 18, 19], .ren [0], .join 9 (X.go) (st 220 [(0, V.ow 0), (1, V.sc (.int .i64 o_)), (2, V.sc (.int .i64 a2)), (3, V.sc (.int .i64 a3)), (4, V.fn 163 [V.cp [V.sl true 58 (List.map E58 a40_0), V.sc (.int .i64 a40_1), V.sc (.int .i64 a40_2), V.sl true 137 (List.map E137 a40_3)]]), (18, V.sc (.int .i64 (i64 (bshr .u64 (u64 (i64 (o_ + a3))) 1)))), (19, V.sc (.int .i64 (i64 ((i64 (bshr .u64 (u64 (i64 (o_ + a3))) 1)) + a2)))), (20, V.sc (.int .i64 r13.1)), (21, V.sc (.int .i64 r13.2))] [Blk.row 3 (List.map E3 o) []] [some 0]), .wait 4, .mask [0, 1, 2, 3, 4, 18, 19, 20, 21, 22], .ren [0], .loop (X.out 8) (st 220 [(0, V.ow 0), (1, V.sc (.int .i64 o_)), (2, V.sc (.int .i64 a2)), (3, V.sc (.int .i64 a3)), (4, V.fn 163 [V.cp [V.sl true 58 (List.map E58 a40_0), V.sc (.int .i64 a40_1), V.sc (.int .i64 a40_2), V.sl true 137 (List.map E137 a40_3)]]), (18, V.sc (.int .i64 (i64 (bshr .u64 (u64 (i64 (o_ + a3))) 1)))), (19, V.sc (.int .i64 (i64 ((i64 (bshr .u64 (u64 (i64 (o_ + a3))) 1)) + a2)))), (20, V.sc (.int .i64 r16))] [Blk.row 3 (List.map E3 o) []] [some 0]), .wait 5, .mask [0, 1, 2, 3, 4, 18, 20, 24], .ren [0], .join 5 (X.go) (st 220 [(0, V.ow 0), (1, V.sc (.int .i64 o_)), (3, V.sc (.int .i64 a3)), (4, V.fn 163 [V.cp [V.sl true 58 (List.map E58 a40_0), V.sc (.int .i64 a40_1), V.sc (.int .i64 a40_2), V.sl true 137 (List.map E137 a40_3)]]), (18, V.sc (.int .i64 (i64 (bshr .u64 (u64 (i64 (o_ + a3))) 1)))), (20, V.sc (.int .i64 r16)), (24, V.sc (.int .i64 (i64 ((i64 ((i64 (bshr .u64 (u64 (i64 (o_ + a3))) 1)) + a2)) - r16))))] [Blk.row 3 (List.map E3 r18) []] [some 0]), .bit false, .bit false, .bit false, .bit false, .bit false, .bit true, .bit true, .bit true, .bit true, .bit false] (p := [HT Try.prog (sub (codeOf Try.prog 218) [0]) (st 220 [(0, V.ow 0), (1, V.sc (.int .i64 o_)), (2, V.sc (.int .i64 a2)), (3, V.sc (.int .i64 a3)), (4, V.fn 163 [V.cp [V.sl true 58 (List.map E58 a40_0), V.sc (.int .i64 a40_1), V.sc (.int .i64 a40_2), V.sl true 137 (List.map E137 a40_3)]])] [Blk.row 3 (List.map E3 o) []] [some 0]) (X.go) (st 220 [(0, V.ow 0), (1, V.sc (.int .i64 o_)), (2, V.sc (.int .i64 a2)), (3, V.sc (.int .i64 a3)), (4, V.fn 163 [V.cp [V.sl true 58 (List.map E58 a40_0), V.sc (.int .i64 a40_1), V.sc (.int .i64 a40_2), V.sl true 137 (List.map E137 a40_3)]])] [Blk.row 3 (List.map E3 o) []] [some 0]),
                HT Try.prog (sub (codeOf Try.prog 218) [1, 0]) (st 220 [(0, V.ow 0), (1, V.sc (.int .i64 o_)), (2, V.sc (.int .i64 a2)), (3, V.sc (.int .i64 a3)), (4, V.fn 163 [V.cp [V.sl true 58 (List.map E58 a40_0), V.sc (.int .i64 a40_1), V.sc (.int .i64 a40_2), V.sl true 137 (List.map E137 a40_3)]])] [Blk.row 3 (List.map E3 o) []] [some 0]) (X.go) (st 220 [(0, V.ow 0), (1, V.sc (.int .i64 o_)), (2, V.sc (.int .i64 a2)), (3, V.sc (.int .i64 a3)), (4, V.fn 163 [V.cp [V.sl true 58 (List.map E58 a40_0), V.sc (.int .i64 a40_1), V.sc (.int .i64 a40_2), V.sl true 137 (List.map E137 a40_3)]])] [Blk.row 3 (List.map E3 o) []] [some 0]),
                ¬ (1 : Int) < 0,
                HT Try.prog (sub (codeOf Try.prog 218) [1, 1, 1, 1, 1, 0]) (st 220 [(0, V.ow 0), (1, V.sc (.int .i64 o_)), (2, V.sc (.int .i64 a2)), (3, V.sc (.int .i64 a3)), (4, V.fn 163 [V.cp [V.sl true 58 (List.map E58 a40_0), V.sc (.int .i64 a40_1), V.sc (.int .i64 a40_2), V.sl true 137 (List.map E137 a40_3)]]), (18, V.sc (.int .i64 (i64 (bshr .u64 (u64 (i64 (o_ + a3))) 1)))), (19, V.sc (.int .i64 (i64 ((i64 (bshr .u64 (u64 (i64 (o_ + a3))) 1)) + a2))))] [Blk.row 3 (List.map E3 o) []] [some 0]) (X.go) (st 220 [(0, V.ow 0), (1, V.sc (.int .i64 o_)), (2, V.sc (.int .i64 a2)), (3, V.sc (.int .i64 a3)), (4, V.fn 163 [V.cp [V.sl true 58 (List.map E58 a40_0), V.sc (.int .i64 a40_1), V.sc (.int .i64 a40_2), V.sl true 137 (List.map E137 a40_3)]]), (18, V.sc (.int .i64 (i64 (bshr .u64 (u64 (i64 (o_ + a3))) 1)))), (19, V.sc (.int .i64 (i64 ((i64 (bshr .u64 (u64 (i64 (o_ + a3))) 1)) + a2)))), (20, V.sc (.int .i64 r13.1)), (21, V.sc (.int .i64 r13.2))] [Blk.row 3 (List.map E3 o) []] [some 0]),
                Loop Try.prog (sub (codeOf Try.prog 218) [1, 1, 1, 1, 1, 1, 1, 0, 0, 0]) (st 220 [(0, V.ow 0), (1, V.sc (.int .i64 o_)), (2, V.sc (.int .i64 a2)), (3, V.sc (.int .i64 a3)), (4, V.fn 163 [V.cp [V.sl true 58 (List.map E58 a40_0), V.sc (.int .i64 a40_1), V.sc (.int .i64 a40_2), V.sl true 137 (List.map E137 a40_3)]]), (18, V.sc (.int .i64 (i64 (bshr .u64 (u64 (i64 (o_ + a3))) 1)))), (19, V.sc (.int .i64 (i64 ((i64 (bshr .u64 (u64 (i64 (o_ + a3))) 1)) + a2)))), (20, V.sc (.int .i64 r13.1)), (21, V.sc (.int .i64 r13.2)), (22, V.sc (.int .i64 (i64 ((i64 ((i64 (bshr .u64 (u64 (i64 (o_ + a3))) 1)) + a2)) - 1))))] [Blk.row 3 (List.map E3 o) []] [some 0]) (X.out 8) (st 220 [(0, V.ow 0), (1, V.sc (.int .i64 o_)), (2, V.sc (.int .i64 a2)), (3, V.sc (.int .i64 a3)), (4, V.fn 163 [V.cp [V.sl true 58 (List.map E58 a40_0), V.sc (.int .i64 a40_1), V.sc (.int .i64 a40_2), V.sl true 137 (List.map E137 a40_3)]]), (18, V.sc (.int .i64 (i64 (bshr .u64 (u64 (i64 (o_ + a3))) 1)))), (19, V.sc (.int .i64 (i64 ((i64 (bshr .u64 (u64 (i64 (o_ + a3))) 1)) + a2)))), (20, V.sc (.int .i64 r16))] [Blk.row 3 (List.map E3 o) []] [some 0]),
                HT Try.prog (sub (codeOf Try.prog 218) [1, 1, 1, 1, 1, 1, 1, 1, 1, 0]) (st 220 [(0, V.ow 0), (1, V.sc (.int .i64 o_)), (2, V.sc (.int .i64 a2)), (3, V.sc (.int .i64 a3)), (4, V.fn 163 [V.cp [V.sl true 58 (List.map E58 a40_0), V.sc (.int .i64 a40_1), V.sc (.int .i64 a40_2), V.sl true 137 (List.map E137 a40_3)]]), (18, V.sc (.int .i64 (i64 (bshr .u64 (u64 (i64 (o_ + a3))) 1)))), (20, V.sc (.int .i64 r16)), (24, V.sc (.int .i64 (i64 ((i64 ((i64 (bshr .u64 (u64 (i64 (o_ + a3))) 1)) + a2)) - r16))))] [Blk.row 3 (List.map E3 o) []] [some 0]) (X.go) (st 220 [(0, V.ow 0), (1, V.sc (.int .i64 o_)), (3, V.sc (.int .i64 a3)), (4, V.fn 163 [V.cp [V.sl true 58 (List.map E58 a40_0), V.sc (.int .i64 a40_1), V.sc (.int .i64 a40_2), V.sl true 137 (List.map E137 a40_3)]]), (18, V.sc (.int .i64 (i64 (bshr .u64 (u64 (i64 (o_ + a3))) 1)))), (20, V.sc (.int .i64 r16)), (24, V.sc (.int .i64 (i64 ((i64 ((i64 (bshr .u64 (u64 (i64 (o_ + a3))) 1)) + a2)) - r16))))] [Blk.row 3 (List.map E3 r18) []] [some 0]),
                (decide (o_ < r16)) = false,
                (decide (o_ < r16)) = false,
                (decide (o_ < r16)) = false,
                (decide (o_ < r16)) = false,
                false = false,
                (decide ((i64 (bshr .u64 (u64 (i64 (o_ + a3))) 1)) < (i64 ((i64 ((i64 (bshr .u64 (u64 (i64 (o_ + a3))) 1)) + a2)) - r16)))) = true,
                (decide ((i64 (bshr .u64 (u64 (i64 (o_ + a3))) 1)) < (i64 ((i64 ((i64 (bshr .u64 (u64 (i64 (o_ + a3))) 1)) + a2)) - r16)))) = true,
                (decide ((i64 (bshr .u64 (u64 (i64 (o_ + a3))) 1)) < (i64 ((i64 ((i64 (bshr .u64 (u64 (i64 (o_ + a3))) 1)) + a2)) - r16)))) = true,
                (decide ((i64 (bshr .u64 (u64 (i64 (o_ + a3))) 1)) < (i64 ((i64 ((i64 (bshr .u64 (u64 (i64 (o_ + a3))) 1)) + a2)) - r16)))) = true,
                (decide ((i64 ((i64 ((i64 (bshr .u64 (u64 (i64 (o_ + a3))) 1)) + a2)) - r16)) < a3)) = false]) (by kernel_rfl) (cj ((slices_symMergeCmpFunc_int_impl_OrderOf_1_c0_ok o o_ a2 a3 a40_0 a40_1 a40_2 a40_3 r6 h23).at h24) (cj ((slices_symMergeCmpFunc_int_impl_OrderOf_1_c5_ok o o_ a2 a3 a40_0 a40_1 a40_2 a40_3 r12 h48).at h49) (cj (by decide) (cj (slices_symMergeCmpFunc_int_impl_OrderOf_1_c10_ok o o_ a2 a3 a40_0 a40_1 a40_2 a40_3 r13 h52) (cj (slices_symMergeCmpFunc_int_impl_OrderOf_1_l4_ok o o_ a2 a3 a40_0 a40_1 a40_2 a40_3 FUEL r13.1 r13.2 r16 h63) (cj (slices_symMergeCmpFunc_int_impl_OrderOf_1_c13_ok o o_ a2 a3 a40_0 a40_1 a40_2 a40_3 r16 r18 h67) (cj h68 (cj h68 (cj h68 (cj h68 (cj rfl (cj h77 (cj h77 (cj h77 (cj h77 (cj1 h78))))))))))))))))))) (fun h77 =>
              Pn.some (Fn.of [.wait 1, .mask [0, 1, 2, 3, 4], .ren [0], .join 41 (X.go) (st 220 [(0, V.ow 0), (1, V.sc (.int .i64 o_)), (2, V.sc (.int .i64 a2)), (3, V.sc (.int .i64 a3)), (4, V.fn 163 [V.cp [V.sl true 58 (List.map E58 a40_0), V.sc (.int .i64 a40_1), V.sc (.int .i64 a40_2), V.sl true 137 (List.map E137 a40_3)]])] [Blk.row 3 (List.map E3 o) []] [some 0]), .wait 1, .mask [0, 1, 2, 3, 4], .ren [0], .join 41 (X.go) (st 220 [(0, V.ow 0), (1, V.sc (.int .i64 o_)), (2, V.sc (.int .i64 a2)), (3, V.sc (.int .i64 a3)), (4, V.fn 163 [V.cp [V.sl true 58 (List.map E58 a40_0), V.sc (.int .i64 a40_1), V.sc (.int .i64 a40_2), V.sl true 137 (List.map E137 a40_3)]])] [Blk.row 3 (List.map E3 o) []] [some 0]), .wait 14, .mask [0, 1, 2, 3, 4, 18, 19], .ren [0], .join 9 (X.go) (st 220 [(0, V.ow 0), (1, V.sc (.int .i64 o_)), (2, V.sc (.int .i64 a2)), (3, V.sc (.int .i64 a3)), (4, V.fn 163 [V.cp [V.sl true 58 (List.map E58 a40_0), V.sc (.int .i64 a40_1), V.sc (.int .i64 a40_2), V.sl true 137 (List.map E137 a40_3)]]), (18, V.sc (.int .i64 (i64 (bshr .u64 (u64 (i64 (o_ + a3))) 1)))), (19, V.sc (.int .i64 (i64 ((i64 (bshr .u64 (u64 (i64 (o_ + a3))) 1)) + a2)))), (20, V.sc (.int .i64 r13.1)), (21, V.sc (.int .i64 r13.2))] [Blk.row 3 (List.map E3 o) []] [some 0]), .wait 4, .mask [0, 1, 2, 3, 4, 18, 19, 20, 21, 22], .ren [0], .loop (X.out 8) (st 220 [(0, V.ow 0), (1, V.sc (.int .i64 o_)), (2, V.sc (.int .i64 a2)), (3, V.sc (.int .i64 a3)), (4, V.fn 163 [V.cp [V.sl true 58 (List.map E58 a40_0), V.sc (.int .i64 a40_1), V.sc (.int .i64 a40_2), V.sl true 137 (List.map E137 a40_3)]]), (18, V.sc (.int .i64 (i64 (bshr .u64 (u64 (i64 (o_ + a3))) 1)))), (19, V.sc (.int .i64 (i64 ((i64 (bshr .u64 (u64 (i64 (o_ + a3))) 1)) + a2)))), (20, V.sc (.int .i64 r16))] [Blk.row 3 (List.map E3 o) []] [some 0]), .wait 5, .mask [0, 1, 2, 3, 4, 18, 20, 24], .ren [0], .join 5 (X.go) (st 220 [(0, V.ow 0), (1, V.sc (.int .i64 o_)), (3, V.sc (.int .i64 a3)), (4, V.fn 163 [V.cp [V.sl true 58 (List.map E58 a40_0), V.sc (.int .i64 a40_1), V.sc (.int .i64 a40_2), V.sl true 137 (List.map E137 a40_3)]]), (18, V.sc (.int .i64 (i64 (bshr .u64 (u64 (i64 (o_ + a3))) 1)))), (20, V.sc (.int .i64 r16)), (24, V.sc (.int .i64 (i64 ((i64 ((i64 (bshr .u64 (u64 (i64 (o_ + a3))) 1)) + a2)) - r16))))] [Blk.row 3 (List.map E3 r18) []] [some 0]), .bit false, .bit false, .bit false, .bit false, .bit false, .bit false, .bit false, .bit false, .bit false, .bit false] (p := [HT Try.prog (sub (codeOf Try.prog 218) [0]) (st 220 [(0, V.ow 0), (1, V.sc (.int .i64 o_)), (2, V.sc (.int .i64 a2)), (3, V.sc (.int .i64 a3)), (4, V.fn 163 [V.cp [V.sl true 58 (List.map E58 a40_0), V.sc (.int .i64 a40_1), V.sc (.int .i64 a40_2), V.sl true 137 (List.map E137 a40_3)]])] [Blk.row 3 (List.map E3 o) []] [some 0]) (X.go) (st 220 [(0, V.ow 0), (1, V.sc (.int .i64 o_)), (2, V.sc (.int .i64 a2)), (3, V.sc (.int .i64 a3)), (4, V.fn 163 [V.cp [V.sl true 58 (List.map E58 a40_0), V.sc (.int .i64 a40_1), V.sc (.int .i64 a40_2), V.sl true 137 (List.map E137 a40_3)]])] [Blk.row 3 (List.map E3 o) []] [some 0]),
               HT Try.prog (sub (codeOf Try.prog 218) [1, 0]) (st 220 [(0, V.ow 0), (1, V.sc (.int .i64 o_)), (2, V.sc (.int .i64 a2)), (3, V.sc (.int .i64 a3)), (4, V.fn 163 [V.cp [V.sl true 58 (List.map E58 a40_0), V.sc (.int .i64 a40_1), V.sc (.int .i64 a40_2), V.sl true 137 (List.map E137 a40_3)]])] [Blk.row 3 (List.map E3 o) []] [some 0]) (X.go) (st 220 [(0, V.ow 0), (1, V.sc (.int .i64 o_)), (2, V.sc (.int .i64 a2)), (3, V.sc (.int .i64 a3)), (4, V.fn 163 [V.cp [V.sl true 58 (List.map E58 a40_0), V.sc (.int .i64 a40_1), V.sc (.int .i64 a40_2), V.sl true 137 (List.map E137 a40_3)]])] [Blk.row 3 (List.map E3 o) []] [some 0]),
               ¬ (1 : Int) < 0,
               HT Try.prog (sub (codeOf Try.prog 218) [1, 1, 1, 1, 1, 0]) (st 220 [(0, V.ow 0), (1, V.sc (.int .i64 o_)), (2, V.sc (.int .i64 a2)), (3, V.sc (.int .i64 a3)), (4, V.fn 163 [V.cp [V.sl true 58 (List.map E58 a40_0), V.sc (.int .i64 a40_1), V.sc (.int .i64 a40_2), V.sl true 137 (List.map E137 a40_3)]]), (18, V.sc (.int .i64 (i64 (bshr .u64 (u64 (i64 (o_ + a3))) 1)))), (19, V.sc (.int .i64 (i64 ((i64 (bshr .u64 (u64 (i64 (o_ + a3))) 1)) + a2))))] [Blk.row 3 (List.map E3 o) []] [some 0]) (X.go) (st 220 [(0, V.ow 0), (1, V.sc (.int .i64 o_)), (2, V.sc (.int .i64 a2)), (3, V.sc (.int .i64 a3)), (4, V.fn 163 [V.cp [V.sl true 58 (List.map E58 a40_0), V.sc (.int .i64 a40_1), V.sc (.int .i64 a40_2), V.sl true 137 (List.map E137 a40_3)]]), (18, V.sc (.int .i64 (i64 (bshr .u64 (u64 (i64 (o_ + a3))) 1)))), (19, V.sc (.int .i64 (i64 ((i64 (bshr .u64 (u64 (i64 (o_ + a3))) 1)) + a2)))), (20, V.sc (.int .i64 r13.1)), (21, V.sc (.int .i64 r13.2))] [Blk.row 3 (List.map E3 o) []] [some 0]),
               Loop Try.prog (sub (codeOf Try.prog 218) [1, 1, 1, 1, 1, 1, 1, 0, 0, 0]) (st 220 [(0, V.ow 0), (1, V.sc (.int .i64 o_)), (2, V.sc (.int .i64 a2)), (3, V.sc (.int .i64 a3)), (4, V.fn 163 [V.cp [V.sl true 58 (List.map E58 a40_0), V.sc (.int .i64 a40_1), V.sc (.int .i64 a40_2), V.sl true 137 (List.map E137 a40_3)]]), (18, V.sc (.int .i64 (i64 (bshr .u64 (u64 (i64 (o_ + a3))) 1)))), (19, V.sc (.int .i64 (i64 ((i64 (bshr .u64 (u64 (i64 (o_ + a3))) 1)) + a2)))), (20, V.sc (.int .i64 r13.1)), (21, V.sc (.int .i64 r13.2)), (22, V.sc (.int .i64 (i64 ((i64 ((i64 (bshr .u64 (u64 (i64 (o_ + a3))) 1)) + a2)) - 1))))] [Blk.row 3 (List.map E3 o) []] [some 0]) (X.out 8) (st 220 [(0, V.ow 0), (1, V.sc (.int .i64 o_)), (2, V.sc (.int .i64 a2)), (3, V.sc (.int .i64 a3)), (4, V.fn 163 [V.cp [V.sl true 58 (List.map E58 a40_0), V.sc (.int .i64 a40_1), V.sc (.int .i64 a40_2), V.sl true 137 (List.map E137 a40_3)]]), (18, V.sc (.int .i64 (i64 (bshr .u64 (u64 (i64 (o_ + a3))) 1)))), (19, V.sc (.int .i64 (i64 ((i64 (bshr .u64 (u64 (i64 (o_ + a3))) 1)) + a2)))), (20, V.sc (.int .i64 r16))] [Blk.row 3 (List.map E3 o) []] [some 0]),
               HT Try.prog (sub (codeOf Try.prog 218) [1, 1, 1, 1, 1, 1, 1, 1, 1, 0]) (st 220 [(0, V.ow 0), (1, V.sc (.int .i64 o_)), (2, V.sc (.int .i64 a2)), (3, V.sc (.int .i64 a3)), (4, V.fn 163 [V.cp [V.sl true 58 (List.map E58 a40_0), V.sc (.int .i64 a40_1), V.sc (.int .i64 a40_2), V.sl true 137 (List.map E137 a40_3)]]), (18, V.sc (.int .i64 (i64 (bshr .u64 (u64 (i64 (o_ + a3))) 1)))), (20, V.sc (.int .i64 r16)), (24, V.sc (.int .i64 (i64 ((i64 ((i64 (bshr .u64 (u64 (i64 (o_ + a3))) 1)) + a2)) - r16))))] [Blk.row 3 (List.map E3 o) []] [some 0]) (X.go) (st 220 [(0, V.ow 0), (1, V.sc (.int .i64 o_)), (3, V.sc (.int .i64 a3)), (4, V.fn 163 [V.cp [V.sl true 58 (List.map E58 a40_0), V.sc (.int .i64 a40_1), V.sc (.int .i64 a40_2), V.sl true 137 (List.map E137 a40_3)]]), (18, V.sc (.int .i64 (i64 (bshr .u64 (u64 (i64 (o_ + a3))) 1)))), (20, V.sc (.int .i64 r16)), (24, V.sc (.int .i64 (i64 ((i64 ((i64 (bshr .u64 (u64 (i64 (o_ + a3))) 1)) + a2)) - r16))))] [Blk.row 3 (List.map E3 r18) []] [some 0]),
               (decide (o_ < r16)) = false,
               (decide (o_ < r16)) = false,
               (decide (o_ < r16)) = false,
               (decide (o_ < r16)) = false,
               false = false,
               (decide ((i64 (bshr .u64 (u64 (i64 (o_ + a3))) 1)) < (i64 ((i64 ((i64 (bshr .u64 (u64 (i64 (o_ + a3))) 1)) + a2)) - r16)))) = false,
               (decide ((i64 (bshr .u64 (u64 (i64 (o_ + a3))) 1)) < (i64 ((i64 ((i64 (bshr .u64 (u64 (i64 (o_ + a3))) 1)) + a2)) - r16)))) = false,
               (decide ((i64 (bshr .u64 (u64 (i64 (o_ + a3))) 1)) < (i64 ((i64 ((i64 (bshr .u64 (u64 (i64 (o_ + a3))) 1)) + a2)) - r16)))) = false,
               (decide ((i64 (bshr .u64 (u64 (i64 (o_ + a3))) 1)) < (i64 ((i64 ((i64 (bshr .u64 (u64 (i64 (o_ + a3))) 1)) + a2)) - r16)))) = false,
               false = false]) (by kernel_rfl) (cj ((slices_symMergeCmpFunc_int_impl_OrderOf_1_c0_ok o o_ a2 a3 a40_0 a40_1 a40_2 a40_3 r6 h23).at h24) (cj ((slices_symMergeCmpFunc_int_impl_OrderOf_1_c5_ok o o_ a2 a3 a40_0 a40_1 a40_2 a40_3 r12 h48).at h49) (cj (by decide) (cj (slices_symMergeCmpFunc_int_impl_OrderOf_1_c10_ok o o_ a2 a3 a40_0 a40_1 a40_2 a40_3 r13 h52) (cj (slices_symMergeCmpFunc_int_impl_OrderOf_1_l4_ok o o_ a2 a3 a40_0 a40_1 a40_2 a40_3 FUEL r13.1 r13.2 r16 h63) (cj (slices_symMergeCmpFunc_int_impl_OrderOf_1_c13_ok o o_ a2 a3 a40_0 a40_1 a40_2 a40_3 r16 r18 h67) (cj h68 (cj h68 (cj h68 (cj h68 (cj rfl (cj h77 (cj h77 (cj h77 (cj h77 (cj1 rfl))))))))))))))))))))))) (fun s12 h50 =>
         Pn.some (Fn.of [.wait 1, .mask [0, 1, 2, 3, 4], .ren [0], .join 41 (X.go) (st 220 [(0, V.ow 0), (1, V.sc (.int .i64 o_)), (2, V.sc (.int .i64 a2)), (3, V.sc (.int .i64 a3)), (4, V.fn 163 [V.cp [V.sl true 58 (List.map E58 a40_0), V.sc (.int .i64 a40_1), V.sc (.int .i64 a40_2), V.sl true 137 (List.map E137 a40_3)]])] [Blk.row 3 (List.map E3 o) []] [some 0]), .wait 1, .mask [0, 1, 2, 3, 4], .ren [0], .join 41 (X.ret) (st 220 [] [Blk.row 3 (List.map E3 s12) []] [some 0])] (p := [HT Try.prog (sub (codeOf Try.prog 218) [0]) (st 220 [(0, V.ow 0), (1, V.sc (.int .i64 o_)), (2, V.sc (.int .i64 a2)), (3, V.sc (.int .i64 a3)), (4, V.fn 163 [V.cp [V.sl true 58 (List.map E58 a40_0), V.sc (.int .i64 a40_1), V.sc (.int .i64 a40_2), V.sl true 137 (List.map E137 a40_3)]])] [Blk.row 3 (List.map E3 o) []] [some 0]) (X.go) (st 220 [(0, V.ow 0), (1, V.sc (.int .i64 o_)), (2, V.sc (.int .i64 a2)), (3, V.sc (.int .i64 a3)), (4, V.fn 163 [V.cp [V.sl true 58 (List.map E58 a40_0), V.sc (.int .i64 a40_1), V.sc (.int .i64 a40_2), V.sl true 137 (List.map E137 a40_3)]])] [Blk.row 3 (List.map E3 o) []] [some 0]),
          HT Try.prog (sub (codeOf Try.prog 218) [1, 0]) (st 220 [(0, V.ow 0), (1, V.sc (.int .i64 o_)), (2, V.sc (.int .i64 a2)), (3, V.sc (.int .i64 a3)), (4, V.fn 163 [V.cp [V.sl true 58 (List.map E58 a40_0), V.sc (.int .i64 a40_1), V.sc (.int .i64 a40_2), V.sl true 137 (List.map E137 a40_3)]])] [Blk.row 3 (List.map E3 o) []] [some 0]) (X.ret) (st 220 [] [Blk.row 3 (List.map E3 s12) []] [some 0])]) (by kernel_rfl) (cj ((slices_symMergeCmpFunc_int_impl_OrderOf_1_c0_ok o o_ a2 a3 a40_0 a40_1 a40_2 a40_3 r6 h23).at h24) (cj1 ((slices_symMergeCmpFunc_int_impl_OrderOf_1_c5_ok o o_ a2 a3 a40_0 a40_1 a40_2 a40_3 r12 h48).at h50))))))) (fun s6 h25 =>
       Pn.some (Fn.of [.wait 1, .mask [0, 1, 2, 3, 4], .ren [0], .join 41 (X.ret) (st 220 [] [Blk.row 3 (List.map E3 s6) []] [some 0])] (p := [HT Try.prog (sub (codeOf Try.prog 218) [0]) (st 220 [(0, V.ow 0), (1, V.sc (.int .i64 o_)), (2, V.sc (.int .i64 a2)), (3, V.sc (.int .i64 a3)), (4, V.fn 163 [V.cp [V.sl true 58 (List.map E58 a40_0), V.sc (.int .i64 a40_1), V.sc (.int .i64 a40_2), V.sl true 137 (List.map E137 a40_3)]])] [Blk.row 3 (List.map E3 o) []] [some 0]) (X.ret) (st 220 [] [Blk.row 3 (List.map E3 s6) []] [some 0])]) (by kernel_rfl) (cj1 ((slices_symMergeCmpFunc_int_impl_OrderOf_1_c0_ok o o_ a2 a3 a40_0 a40_1 a40_2 a40_3 r6 h23).at h25)))))
def slices_stableCmpFunc_int_impl_OrderOf_1_l0 (n : Int) (cmp0_0 : List Stripe) (cmp0_1 : Int) (cmp0_2 : Int) (cmp0_3 : List Task) : Nat → Int → Int → (List Int) → Option (Int × (List Int))
  | 0, _, _, _ => none
  | fuel + 1, v1, v2, v3 =>
   if (decide (v2 ≤ n)) = true then
    (slices_insertionSortCmpFunc_int_impl_OrderOf_1 v3 v1 v2 cmp0_0 cmp0_1 cmp0_2 cmp0_3).bind fun r1 =>
    slices_stableCmpFunc_int_impl_OrderOf_1_l0 n cmp0_0 cmp0_1 cmp0_2 cmp0_3 fuel v2 (i64 (v2 + 20)) r1
   else
    some (v1, v3)
theorem slices_stableCmpFunc_int_impl_OrderOf_1_l0_ok (n : Int) (cmp0_0 : List Stripe) (cmp0_1 : Int) (cmp0_2 : Int) (cmp0_3 : List Task) : ∀ (fuel : Nat) (v1 : Int) (v2 : Int) (v3 : List Int), Pn (LpO Try.prog (sub (codeOf Try.prog 201) [1, 1, 0, 0, 0]) (st 63 [(0, V.ow 0), (1, V.sc (.int .i64 n)), (2, V.fn 163 [V.cp [V.sl true 58 (List.map E58 cmp0_0), V.sc (.int .i64 cmp0_1), V.sc (.int .i64 cmp0_2), V.sl true 137 (List.map E137 cmp0_3)]]), (6, V.sc (.int .i64 20)), (7, V.sc (.int .i64 v1)), (8, V.sc (.int .i64 v2))] [Blk.row 3 (List.map E3 v3) []] [some 0]) (fun (y : Int × (List Int)) => (X.out 0, st 63 [(0, V.ow 0), (1, V.sc (.int .i64 n)), (2, V.fn 163 [V.cp [V.sl true 58 (List.map E58 cmp0_0), V.sc (.int .i64 cmp0_1), V.sc (.int .i64 cmp0_2), V.sl true 137 (List.map E137 cmp0_3)]]), (6, V.sc (.int .i64 20)), (7, V.sc (.int .i64 y.1))] [Blk.row 3 (List.map E3 y.2) []] [some 0]))) (slices_stableCmpFunc_int_impl_OrderOf_1_l0 n cmp0_0 cmp0_1 cmp0_2 cmp0_3 fuel v1 v2 v3)
  | 0, _, _, _ => Pn.none
  | fuel + 1, v1, v2, v3 => by
    unfold slices_stableCmpFunc_int_impl_OrderOf_1_l0
    exact
     Pn.ite (fun h1 =>
      Pn.bind (fun r1 h2 =>
       LpO.go [.bit true, .call [true, false, false, false] (V.tup []) [V.sl true 3 (List.map E3 r1)], .wait 7, .mask [0, 1, 2, 6, 7, 8], .ren [0]] (p := [(decide (v2 ≤ n)) = true,
        Fn Try.prog 217 [(true, E24 v3), (false, E3 v1), (false, E3 v2), (false, V.fn 163 [V.cp [V.sl true 58 (List.map E58 cmp0_0), V.sc (.int .i64 cmp0_1), V.sc (.int .i64 cmp0_2), V.sl true 137 (List.map E137 cmp0_3)]])] (V.tup []) [V.sl true 3 (List.map E3 r1)],
        (true || ((V.tup []).nv && nvL [V.sl true 3 (List.map E3 r1)])) = true]) (by kernel_rfl) (cj h1 (cj (slices_insertionSortCmpFunc_int_impl_OrderOf_1_ok v3 v1 v2 cmp0_0 cmp0_1 cmp0_2 cmp0_3 r1 h2) (cj1 rfl))) (slices_stableCmpFunc_int_impl_OrderOf_1_l0_ok n cmp0_0 cmp0_1 cmp0_2 cmp0_3 fuel v2 (i64 (v2 + 20)) r1))) (fun h1 =>
      Pn.some (LpO.out [.bit false, .mask [0, 1, 2, 6, 7], .ren [0]] (p := [(decide (v2 ≤ n)) = false]) (by kernel_rfl) (show X.out 0 ≠ X.go from nofun) (cj1 h1)))
def slices_stableCmpFunc_int_impl_OrderOf_1_l2 (n : Int) (cmp0_0 : List Stripe) (cmp0_1 : Int) (cmp0_2 : Int) (cmp0_3 : List Task) (v4 : Int) : Nat → Int → Int → (List Int) → Option (Int × (List Int))
  | 0, _, _, _ => none
  | fuel + 1, v6, v7, v8 =>
   if (decide (v7 ≤ n)) = true then
    (slices_symMergeCmpFunc_int_impl_OrderOf_1 FUEL v8 v6 (i64 (v6 + v4)) v7 cmp0_0 cmp0_1 cmp0_2 cmp0_3).bind fun r4 =>
    slices_stableCmpFunc_int_impl_OrderOf_1_l2 n cmp0_0 cmp0_1 cmp0_2 cmp0_3 v4 fuel v7 (i64 (v7 + (i64 (2 * v4)))) r4
   else
    some (v6, v8)
theorem slices_stableCmpFunc_int_impl_OrderOf_1_l2_ok (n : Int) (cmp0_0 : List Stripe) (cmp0_1 : Int) (cmp0_2 : Int) (cmp0_3 : List Task) (v4 : Int) : ∀ (fuel : Nat) (v6 : Int) (v7 : Int) (v8 : List Int), Pn (LpO Try.prog (sub (codeOf Try.prog 201) [1, 1, 1, 1, 0, 0, 1, 0, 1, 0, 0, 0]) (st 63 [(0, V.ow 0), (1, V.sc (.int .i64 n)), (2, V.fn 163 [V.cp [V.sl true 58 (List.map E58 cmp0_0), V.sc (.int .i64 cmp0_1), V.sc (.int .i64 cmp0_2), V.sl true 137 (List.map E137 cmp0_3)]]), (6, V.sc (.int .i64 v4)), (7, V.sc (.int .i64 v6)), (8, V.sc (.int .i64 v7))] [Blk.row 3 (List.map E3 v8) []] [some 0]) (fun (y : Int × (List Int)) => (X.out 4, st 63 [(0, V.ow 0), (1, V.sc (.int .i64 n)), (2, V.fn 163 [V.cp [V.sl true 58 (List.map E58 cmp0_0), V.sc (.int .i64 cmp0_1), V.sc (.int .i64 cmp0_2), V.sl true 137 (List.map E137 cmp0_3)]]), (6, V.sc (.int .i64 v4)), (7, V.sc (.int .i64 y.1))] [Blk.row 3 (List.map E3 y.2) []] [some 0]))) (slices_stableCmpFunc_int_impl_OrderOf_1_l2 n cmp0_0 cmp0_1 cmp0_2 cmp0_3 v4 fuel v6 v7 v8)
  | 0, _, _, _ => Pn.none
  | fuel + 1, v6, v7, v8 => by
    unfold slices_stableCmpFunc_int_impl_OrderOf_1_l2
    exact
     Pn.ite (fun h6 =>
      Pn.bind (fun r4 h7 =>
       LpO.go [.bit true, .call [true, false, false, false, false] (V.tup []) [V.sl true 3 (List.map E3 r4)], .wait 8, .mask [0, 1, 2, 6, 7, 8], .ren [0]] (p := [(decide (v7 ≤ n)) = true,
        Fn Try.prog 218 [(true, E24 v8), (false, E3 v6), (false, E3 (i64 (v6 + v4))), (false, E3 v7), (false, V.fn 163 [V.cp [V.sl true 58 (List.map E58 cmp0_0), V.sc (.int .i64 cmp0_1), V.sc (.int .i64 cmp0_2), V.sl true 137 (List.map E137 cmp0_3)]])] (V.tup []) [V.sl true 3 (List.map E3 r4)],
        (true || ((V.tup []).nv && nvL [V.sl true 3 (List.map E3 r4)])) = true]) (by kernel_rfl) (cj h6 (cj (slices_symMergeCmpFunc_int_impl_OrderOf_1_ok FUEL v8 v6 (i64 (v6 + v4)) v7 cmp0_0 cmp0_1 cmp0_2 cmp0_3 r4 h7) (cj1 rfl))) (slices_stableCmpFunc_int_impl_OrderOf_1_l2_ok n cmp0_0 cmp0_1 cmp0_2 cmp0_3 v4 fuel v7 (i64 (v7 + (i64 (2 * v4)))) r4))) (fun h6 =>
      Pn.some (LpO.out [.bit false, .mask [0, 1, 2, 6, 7], .ren [0]] (p := [(decide (v7 ≤ n)) = false]) (by kernel_rfl) (show X.out 4 ≠ X.go from nofun) (cj1 h6)))
def slices_stableCmpFunc_int_impl_OrderOf_1_l1 (n : Int) (cmp0_0 : List Stripe) (cmp0_1 : Int) (cmp0_2 : Int) (cmp0_3 : List Task) : Nat → Int → (List Int) → Option ((List Int))
  | 0, _, _ => none
  | fuel + 1, v4, v5 =>
   if (decide (v4 < n)) = true then
    (slices_stableCmpFunc_int_impl_OrderOf_1_l2 n cmp0_0 cmp0_1 cmp0_2 cmp0_3 v4 FUEL 0 (i64 (2 * v4)) v5).bind fun r5 =>
    if (decide ((i64 (r5.1 + v4)) < n)) = true then
     (slices_symMergeCmpFunc_int_impl_OrderOf_1 FUEL r5.2 r5.1 (i64 (r5.1 + v4)) n cmp0_0 cmp0_1 cmp0_2 cmp0_3).bind fun r6 =>
     slices_stableCmpFunc_int_impl_OrderOf_1_l1 n cmp0_0 cmp0_1 cmp0_2 cmp0_3 fuel (i64 (v4 * 2)) r6
    else
     slices_stableCmpFunc_int_impl_OrderOf_1_l1 n cmp0_0 cmp0_1 cmp0_2 cmp0_3 fuel (i64 (v4 * 2)) r5.2
   else
    some v5
theorem slices_stableCmpFunc_int_impl_OrderOf_1_l1_ok (n : Int) (cmp0_0 : List Stripe) (cmp0_1 : Int) (cmp0_2 : Int) (cmp0_3 : List Task) : ∀ (fuel : Nat) (v4 : Int) (v5 : List Int), Pn (LpO Try.prog (sub (codeOf Try.prog 201) [1, 1, 1, 1, 0, 0]) (st 63 [(0, V.ow 0), (1, V.sc (.int .i64 n)), (2, V.fn 163 [V.cp [V.sl true 58 (List.map E58 cmp0_0), V.sc (.int .i64 cmp0_1), V.sc (.int .i64 cmp0_2), V.sl true 137 (List.map E137 cmp0_3)]]), (6, V.sc (.int .i64 v4))] [Blk.row 3 (List.map E3 v5) []] [some 0]) (fun (y : (List Int)) => (X.out 2, st 63 [] [Blk.row 3 (List.map E3 y) []] [some 0]))) (slices_stableCmpFunc_int_impl_OrderOf_1_l1 n cmp0_0 cmp0_1 cmp0_2 cmp0_3 fuel v4 v5)
  | 0, _, _ => Pn.none
  | fuel + 1, v4, v5 => by
    unfold slices_stableCmpFunc_int_impl_OrderOf_1_l1
    exact
     Pn.ite (fun h5 =>
      Pn.bind (fun r5 h8 =>
       Pn.ite (fun h9 =>
        Pn.bind (fun r6 h10 =>
         LpO.go [.bit true, .wait 4, .mask [0, 1, 2, 6, 7, 8], .ren [0], .loop (X.out 4) (st 63 [(0, V.ow 0), (1, V.sc (.int .i64 n)), (2, V.fn 163 [V.cp [V.sl true 58 (List.map E58 cmp0_0), V.sc (.int .i64 cmp0_1), V.sc (.int .i64 cmp0_2), V.sl true 137 (List.map E137 cmp0_3)]]), (6, V.sc (.int .i64 v4)), (7, V.sc (.int .i64 r5.1))] [Blk.row 3 (List.map E3 r5.2) []] [some 0]), .bit true, .call [true, false, false, false, false] (V.tup []) [V.sl true 3 (List.map E3 r6)], .wait 4, .mask [0, 1, 2, 6], .ren [0]] (p := [(decide (v4 < n)) = true,
          Loop Try.prog (sub (codeOf Try.prog 201) [1, 1, 1, 1, 0, 0, 1, 0, 1, 0, 0, 0]) (st 63 [(0, V.ow 0), (1, V.sc (.int .i64 n)), (2, V.fn 163 [V.cp [V.sl true 58 (List.map E58 cmp0_0), V.sc (.int .i64 cmp0_1), V.sc (.int .i64 cmp0_2), V.sl true 137 (List.map E137 cmp0_3)]]), (6, V.sc (.int .i64 v4)), (7, V.sc (.int .i64 0)), (8, V.sc (.int .i64 (i64 (2 * v4))))] [Blk.row 3 (List.map E3 v5) []] [some 0]) (X.out 4) (st 63 [(0, V.ow 0), (1, V.sc (.int .i64 n)), (2, V.fn 163 [V.cp [V.sl true 58 (List.map E58 cmp0_0), V.sc (.int .i64 cmp0_1), V.sc (.int .i64 cmp0_2), V.sl true 137 (List.map E137 cmp0_3)]]), (6, V.sc (.int .i64 v4)), (7, V.sc (.int .i64 r5.1))] [Blk.row 3 (List.map E3 r5.2) []] [some 0]),
          (decide ((i64 (r5.1 + v4)) < n)) = true,
          Fn Try.prog 218 [(true, E24 r5.2), (false, E3 r5.1), (false, E3 (i64 (r5.1 + v4))), (false, E3 n), (false, V.fn 163 [V.cp [V.sl true 58 (List.map E58 cmp0_0), V.sc (.int .i64 cmp0_1), V.sc (.int .i64 cmp0_2), V.sl true 137 (List.map E137 cmp0_3)]])] (V.tup []) [V.sl true 3 (List.map E3 r6)],
          (true || ((V.tup []).nv && nvL [V.sl true 3 (List.map E3 r6)])) = true]) (by kernel_rfl) (cj h5 (cj (slices_stableCmpFunc_int_impl_OrderOf_1_l2_ok n cmp0_0 cmp0_1 cmp0_2 cmp0_3 v4 FUEL 0 (i64 (2 * v4)) v5 r5 h8) (cj h9 (cj (slices_symMergeCmpFunc_int_impl_OrderOf_1_ok FUEL r5.2 r5.1 (i64 (r5.1 + v4)) n cmp0_0 cmp0_1 cmp0_2 cmp0_3 r6 h10) (cj1 rfl))))) (slices_stableCmpFunc_int_impl_OrderOf_1_l1_ok n cmp0_0 cmp0_1 cmp0_2 cmp0_3 fuel (i64 (v4 * 2)) r6))) (fun h9 =>
        LpO.go [.bit true, .wait 4, .mask [0, 1, 2, 6, 7, 8], .ren [0], .loop (X.out 4) (st 63 [(0, V.ow 0), (1, V.sc (.int .i64 n)), (2, V.fn 163 [V.cp [V.sl true 58 (List.map E58 cmp0_0), V.sc (.int .i64 cmp0_1), V.sc (.int .i64 cmp0_2), V.sl true 137 (List.map E137 cmp0_3)]]), (6, V.sc (.int .i64 v4)), (7, V.sc (.int .i64 r5.1))] [Blk.row 3 (List.map E3 r5.2) []] [some 0]), .bit false, .wait 3, .mask [0, 1, 2, 6], .ren [0]] (p := [(decide (v4 < n)) = true,
         Loop Try.prog (sub (codeOf Try.prog 201) [1, 1, 1, 1, 0, 0, 1, 0, 1, 0, 0, 0]) (st 63 [(0, V.ow 0), (1, V.sc (.int .i64 n)), (2, V.fn 163 [V.cp [V.sl true 58 (List.map E58 cmp0_0), V.sc (.int .i64 cmp0_1), V.sc (.int .i64 cmp0_2), V.sl true 137 (List.map E137 cmp0_3)]]), (6, V.sc (.int .i64 v4)), (7, V.sc (.int .i64 0)), (8, V.sc (.int .i64 (i64 (2 * v4))))] [Blk.row 3 (List.map E3 v5) []] [some 0]) (X.out 4) (st 63 [(0, V.ow 0), (1, V.sc (.int .i64 n)), (2, V.fn 163 [V.cp [V.sl true 58 (List.map E58 cmp0_0), V.sc (.int .i64 cmp0_1), V.sc (.int .i64 cmp0_2), V.sl true 137 (List.map E137 cmp0_3)]]), (6, V.sc (.int .i64 v4)), (7, V.sc (.int .i64 r5.1))] [Blk.row 3 (List.map E3 r5.2) []] [some 0]),
         (decide ((i64 (r5.1 + v4)) < n)) = false]) (by kernel_rfl) (cj h5 (cj (slices_stableCmpFunc_int_impl_OrderOf_1_l2_ok n cmp0_0 cmp0_1 cmp0_2 cmp0_3 v4 FUEL 0 (i64 (2 * v4)) v5 r5 h8) (cj1 h9))) (slices_stableCmpFunc_int_impl_OrderOf_1_l1_ok n cmp0_0 cmp0_1 cmp0_2 cmp0_3 fuel (i64 (v4 * 2)) r5.2)))) (fun h5 =>
      Pn.some (LpO.out [.bit false, .mask [], .ren [0]] (p := [(decide (v4 < n)) = false]) (by kernel_rfl) (show X.out 2 ≠ X.go from nofun) (cj1 h5)))
def slices_stableCmpFunc_int_impl_OrderOf_1 (data : List Int) (n : Int) (cmp0_0 : List Stripe) (cmp0_1 : Int) (cmp0_2 : Int) (cmp0_3 : List Task) : Option ((List Int)) :=
 (slices_stableCmpFunc_int_impl_OrderOf_1_l0 n cmp0_0 cmp0_1 cmp0_2 cmp0_3 FUEL 0 20 data).bind fun r2 =>
 (slices_insertionSortCmpFunc_int_impl_OrderOf_1 r2.2 r2.1 n cmp0_0 cmp0_1 cmp0_2 cmp0_3).bind fun r3 =>
 (slices_stableCmpFunc_int_impl_OrderOf_1_l1 n cmp0_0 cmp0_1 cmp0_2 cmp0_3 FUEL 20 r3).bind fun r7 =>
 some r7
theorem slices_stableCmpFunc_int_impl_OrderOf_1_ok (data : List Int) (n : Int) (cmp0_0 : List Stripe) (cmp0_1 : Int) (cmp0_2 : Int) (cmp0_3 : List Task) : Pn (fun y => Fn Try.prog 201 [(true, E24 data), (false, E3 n), (false, V.fn 163 [V.cp [V.sl true 58 (List.map E58 cmp0_0), V.sc (.int .i64 cmp0_1), V.sc (.int .i64 cmp0_2), V.sl true 137 (List.map E137 cmp0_3)]])] (V.tup []) [V.sl true 3 (List.map E3 y)]) (slices_stableCmpFunc_int_impl_OrderOf_1 data n cmp0_0 cmp0_1 cmp0_2 cmp0_3) := by
  unfold slices_stableCmpFunc_int_impl_OrderOf_1
  exact
   Pn.bind (fun r2 h3 =>
    Pn.bind (fun r3 h4 =>
     Pn.bind (fun r7 h11 =>
      Pn.some (Fn.of [.wait 5, .mask [0, 1, 2, 6, 7, 8], .ren [0], .loop (X.out 0) (st 63 [(0, V.ow 0), (1, V.sc (.int .i64 n)), (2, V.fn 163 [V.cp [V.sl true 58 (List.map E58 cmp0_0), V.sc (.int .i64 cmp0_1), V.sc (.int .i64 cmp0_2), V.sl true 137 (List.map E137 cmp0_3)]]), (6, V.sc (.int .i64 20)), (7, V.sc (.int .i64 r2.1))] [Blk.row 3 (List.map E3 r2.2) []] [some 0]), .call [true, false, false, false] (V.tup []) [V.sl true 3 (List.map E3 r3)], .wait 1, .mask [0, 1, 2, 6], .ren [0], .loop (X.out 2) (st 63 [] [Blk.row 3 (List.map E3 r7) []] [some 0])] (p := [Loop Try.prog (sub (codeOf Try.prog 201) [1, 1, 0, 0, 0]) (st 63 [(0, V.ow 0), (1, V.sc (.int .i64 n)), (2, V.fn 163 [V.cp [V.sl true 58 (List.map E58 cmp0_0), V.sc (.int .i64 cmp0_1), V.sc (.int .i64 cmp0_2), V.sl true 137 (List.map E137 cmp0_3)]]), (6, V.sc (.int .i64 20)), (7, V.sc (.int .i64 0)), (8, V.sc (.int .i64 20))] [Blk.row 3 (List.map E3 data) []] [some 0]) (X.out 0) (st 63 [(0, V.ow 0), (1, V.sc (.int .i64 n)), (2, V.fn 163 [V.cp [V.sl true 58 (List.map E58 cmp0_0), V.sc (.int .i64 cmp0_1), V.sc (.int .i64 cmp0_2), V.sl true 137 (List.map E137 cmp0_3)]]), (6, V.sc (.int .i64 20)), (7, V.sc (.int .i64 r2.1))] [Blk.row 3 (List.map E3 r2.2) []] [some 0]),
       Fn Try.prog 217 [(true, E24 r2.2), (false, E3 r2.1), (false, E3 n), (false, V.fn 163 [V.cp [V.sl true 58 (List.map E58 cmp0_0), V.sc (.int .i64 cmp0_1), V.sc (.int .i64 cmp0_2), V.sl true 137 (List.map E137 cmp0_3)]])] (V.tup []) [V.sl true 3 (List.map E3 r3)],
       (true || ((V.tup []).nv && nvL [V.sl true 3 (List.map E3 r3)])) = true,
       Loop Try.prog (sub (codeOf Try.prog 201) [1, 1, 1, 1, 0, 0]) (st 63 [(0, V.ow 0), (1, V.sc (.int .i64 n)), (2, V.fn 163 [V.cp [V.sl true 58 (List.map E58 cmp0_0), V.sc (.int .i64 cmp0_1), V.sc (.int .i64 cmp0_2), V.sl true 137 (List.map E137 cmp0_3)]]), (6, V.sc (.int .i64 20))] [Blk.row 3 (List.map E3 r3) []] [some 0]) (X.out 2) (st 63 [] [Blk.row 3 (List.map E3 r7) []] [some 0])]) (by kernel_rfl) (cj (slices_stableCmpFunc_int_impl_OrderOf_1_l0_ok n cmp0_0 cmp0_1 cmp0_2 cmp0_3 FUEL 0 20 data r2 h3) (cj (slices_insertionSortCmpFunc_int_impl_OrderOf_1_ok r2.2 r2.1 n cmp0_0 cmp0_1 cmp0_2 cmp0_3 r3 h4) (cj rfl (cj1 (slices_stableCmpFunc_int_impl_OrderOf_1_l1_ok n cmp0_0 cmp0_1 cmp0_2 cmp0_3 FUEL 20 r3 r7 h11)))))))))
def slices_SortStableFunc_int_impl_OrderOf_1 (x_ : List Int) (cmp0_0 : List Stripe) (cmp0_1 : Int) (cmp0_2 : Int) (cmp0_3 : List Task) : Option ((List Int)) :=
 (slices_stableCmpFunc_int_impl_OrderOf_1 x_ (x_.length : Int) cmp0_0 cmp0_1 cmp0_2 cmp0_3).bind fun r1 =>
 some r1
theorem slices_SortStableFunc_int_impl_OrderOf_1_ok (x_ : List Int) (cmp0_0 : List Stripe) (cmp0_1 : Int) (cmp0_2 : Int) (cmp0_3 : List Task) : Pn (fun y => Fn Try.prog 162 [(true, E24 x_), (false, V.fn 163 [V.cp [V.sl true 58 (List.map E58 cmp0_0), V.sc (.int .i64 cmp0_1), V.sc (.int .i64 cmp0_2), V.sl true 137 (List.map E137 cmp0_3)]])] (V.tup []) [V.sl true 3 (List.map E3 y)]) (slices_SortStableFunc_int_impl_OrderOf_1 x_ cmp0_0 cmp0_1 cmp0_2 cmp0_3) := by
  unfold slices_SortStableFunc_int_impl_OrderOf_1
  exact
   Pn.bind (fun r1 h1 =>
    Pn.some (Fn.of [.wait 3, .nm 6 (V.sc (.int .i64 (x_.length : Int))), .call [true, false, false] (V.tup []) [V.sl true 3 (List.map E3 r1)]] (p := [V.sc (.int .i64 ((List.map E3 x_).length : Int)) = V.sc (.int .i64 (x_.length : Int)),
     Fn Try.prog 201 [(true, E24 x_), (false, E3 (x_.length : Int)), (false, V.fn 163 [V.cp [V.sl true 58 (List.map E58 cmp0_0), V.sc (.int .i64 cmp0_1), V.sc (.int .i64 cmp0_2), V.sl true 137 (List.map E137 cmp0_3)]])] (V.tup []) [V.sl true 3 (List.map E3 r1)],
     (true || ((V.tup []).nv && nvL [V.sl true 3 (List.map E3 r1)])) = true]) (by kernel_rfl) (cj (len_nm _ _) (cj (slices_stableCmpFunc_int_impl_OrderOf_1_ok x_ (x_.length : Int) cmp0_0 cmp0_1 cmp0_2 cmp0_3 r1 h1) (cj1 rfl)))))
def impl_OrderOf_l0 (w : World) : List Task → List Task → (List Int) → Option ((List Int))
  | [], p1, v1 =>
   some v1
  | x1 :: t1, p1, v1 =>
   if (x1.Lin != (-1)) = true then
    if (capOk (v1.length + 1)) = true then
     impl_OrderOf_l0 w t1 (p1 ++ [x1]) (v1 ++ [(p1.length : Int)])
    else none
   else
    impl_OrderOf_l0 w t1 (p1 ++ [x1]) v1
theorem impl_OrderOf_l0_ok (w : World) (h2 : capOk w.Tasks.length = true) : ∀ (t1 p1 : List Task) (_ : w.Tasks = p1 ++ t1) (v1 : List Int), Pn (LpO Try.prog (sub (codeOf Try.prog 103) [1, 1, 0, 1, 0, 0]) (st 27 [(1, V.ptr 0 0), (3, V.ow 1), (8, V.sl false 137 (List.map E137 w.Tasks)), (9, V.sc (.int .i64 (w.Tasks.length : Int))), (10, V.sc (.int .i64 (p1.length : Int)))] [Blk.box 81 [V.sl false 58 (List.map E58 w.Stripes), V.sc (.int .i64 w.Now), V.sc (.int .i64 w.Step), V.sl false 137 (List.map E137 w.Tasks)], Blk.row 3 (List.map E3 v1) []] []) (fun (y : (List Int)) => (X.out 0, st 27 [(1, V.ptr 0 0), (3, V.ow 1)] [Blk.box 81 [V.sl false 58 (List.map E58 w.Stripes), V.sc (.int .i64 w.Now), V.sc (.int .i64 w.Step), V.sl false 137 (List.map E137 w.Tasks)], Blk.row 3 (List.map E3 y) []] []))) (impl_OrderOf_l0 w t1 p1 v1)
  | [], p1, h1, v1 => by
    unfold impl_OrderOf_l0
    exact
     Pn.some (LpO.out [.bit false, .mask [1, 3], .ren [0, 1]] (p := [(decide ((p1.length : Int) < (w.Tasks.length : Int))) = false]) (by kernel_rfl) (show X.out 0 ≠ X.go from nofun) (cj1 (rng_end h1)))
  | x1 :: t1, p1, h1, v1 => by
    unfold impl_OrderOf_l0
    exact
     Pn.ite (fun h3 =>
      Pn.ite (fun h4 =>
       LpO.go [.bit true, .el (E137 x1), .bit true, .cp [V.sc (.int .i64 (p1.length : Int))], .nb 4 (.row 3 (List.map E3 (v1 ++ [(p1.length : Int)])) []), .wait 4, .mask [1, 3, 8, 9, 10], .ren [0, 4], .nm 10 (V.sc (.int .i64 ((p1 ++ [x1]).length : Int)))] (p := [(decide ((p1.length : Int) < (w.Tasks.length : Int))) = true,
        (0 : Int) ≤ (p1.length : Int),
        (List.map E137 w.Tasks)[(p1.length : Int).toNat]? = some (E137 x1),
        (x1.Lin != (-1)) = true,
        [V.sc (.int .i64 (p1.length : Int))] = [V.sc (.int .i64 (p1.length : Int))],
        [V.sc (.int .i64 (p1.length : Int))].all V.flatE = true,
        (List.map E3 v1).length + [V.sc (.int .i64 (p1.length : Int))].length ≤ 9223372036854775807,
        ((List.map E3 v1).length + [V.sc (.int .i64 (p1.length : Int))].length) * 8 ≤ 140737488355328,
        Blk.row 3 ((List.map E3 v1) ++ [V.sc (.int .i64 (p1.length : Int))]) [] = Blk.row 3 (List.map E3 (v1 ++ [(p1.length : Int)])) [],
        V.sc (.int .i64 (i64 ((p1.length : Int) + 1))) = V.sc (.int .i64 ((p1 ++ [x1]).length : Int))]) (by kernel_rfl) (cj (rng_lt h1) (cj (by omega) (cj (rng_get _ h1) (cj h3 (cj rfl (cj rfl (cj (cap1 (capN (by simp) h4)) (cj (cap2 (capN (by simp) h4) (by decide)) (cj (nb_app E3 v1 [(p1.length : Int)]) (cj1 (rng_next h1 h2))))))))))) (impl_OrderOf_l0_ok w h2 t1 (p1 ++ [x1]) (rng_step h1) (v1 ++ [(p1.length : Int)]))) (fun h4 =>
       Pn.none)) (fun h3 =>
      LpO.go [.bit true, .el (E137 x1), .bit false, .wait 2, .mask [1, 3, 8, 9, 10], .ren [0, 1], .nm 10 (V.sc (.int .i64 ((p1 ++ [x1]).length : Int)))] (p := [(decide ((p1.length : Int) < (w.Tasks.length : Int))) = true,
       (0 : Int) ≤ (p1.length : Int),
       (List.map E137 w.Tasks)[(p1.length : Int).toNat]? = some (E137 x1),
       (x1.Lin != (-1)) = false,
       V.sc (.int .i64 (i64 ((p1.length : Int) + 1))) = V.sc (.int .i64 ((p1 ++ [x1]).length : Int))]) (by kernel_rfl) (cj (rng_lt h1) (cj (by omega) (cj (rng_get _ h1) (cj h3 (cj1 (rng_next h1 h2)))))) (impl_OrderOf_l0_ok w h2 t1 (p1 ++ [x1]) (rng_step h1) v1))
def impl_OrderOf (w : World) : Option ((List Int)) :=
 if (capOk w.Tasks.length) = true then
  (impl_OrderOf_l0 w w.Tasks [] []).bind fun r1 =>
  (slices_SortStableFunc_int_impl_OrderOf_1 r1 w.Stripes w.Now w.Step w.Tasks).bind fun r2 =>
  some r2
 else none
theorem impl_OrderOf_ok (w : World) : Pn (fun y => Fn Try.prog 103 [(false, E81 w)] (E24 y) []) (impl_OrderOf w) := by
  unfold impl_OrderOf
  exact
   Pn.ite (fun h5 =>
    Pn.bind (fun r1 h6 =>
     Pn.bind (fun r2 h7 =>
      Pn.some (Fn.of [.wait 7, .nm 9 (V.sc (.int .i64 (w.Tasks.length : Int))), .wait 2, .mask [1, 3, 8, 9, 10], .ren [0, 1], .loop (X.out 0) (st 27 [(1, V.ptr 0 0), (3, V.ow 1)] [Blk.box 81 [V.sl false 58 (List.map E58 w.Stripes), V.sc (.int .i64 w.Now), V.sc (.int .i64 w.Step), V.sl false 137 (List.map E137 w.Tasks)], Blk.row 3 (List.map E3 r1) []] []), .call [true, false] (V.tup []) [V.sl true 3 (List.map E3 r2)]] (p := [V.sc (.int .i64 ((List.map E137 w.Tasks).length : Int)) = V.sc (.int .i64 (w.Tasks.length : Int)),
       Loop Try.prog (sub (codeOf Try.prog 103) [1, 1, 0, 1, 0, 0]) (st 27 [(1, V.ptr 0 0), (3, V.ow 1), (8, V.sl false 137 (List.map E137 w.Tasks)), (9, V.sc (.int .i64 (w.Tasks.length : Int))), (10, V.sc (.int .i64 0))] [Blk.box 81 [V.sl false 58 (List.map E58 w.Stripes), V.sc (.int .i64 w.Now), V.sc (.int .i64 w.Step), V.sl false 137 (List.map E137 w.Tasks)], Blk.row 3 ([] : List V) []] []) (X.out 0) (st 27 [(1, V.ptr 0 0), (3, V.ow 1)] [Blk.box 81 [V.sl false 58 (List.map E58 w.Stripes), V.sc (.int .i64 w.Now), V.sc (.int .i64 w.Step), V.sl false 137 (List.map E137 w.Tasks)], Blk.row 3 (List.map E3 r1) []] []),
       Fn Try.prog 162 [(true, E24 r1), (false, V.fn 163 [V.cp [V.sl true 58 (List.map E58 w.Stripes), V.sc (.int .i64 w.Now), V.sc (.int .i64 w.Step), V.sl true 137 (List.map E137 w.Tasks)]])] (V.tup []) [V.sl true 3 (List.map E3 r2)],
       (false || ((V.tup []).nv && nvL [V.sl true 3 (List.map E3 r2)])) = true]) (by kernel_rfl) (cj (len_nm _ _) (cj (impl_OrderOf_l0_ok w h5 w.Tasks [] rfl [] r1 h6) (cj (slices_SortStableFunc_int_impl_OrderOf_1_ok r1 w.Stripes w.Now w.Step w.Tasks r2 h7) (cj1 (by simp [V.nv, nvL, nvL_all, nv_E3]))))))))) (fun h5 =>
    Pn.none)
def slices_Clone_byte (s_ : List Int) : Option (List Int) := if capOk s_.length = true then some s_ else none
theorem slices_Clone_byte_ok : ∀ (s_ : List Int), Pn (fun y => Fn Try.prog 164 [(false, E22 s_)] (E22 y) []) (slices_Clone_byte s_)
  | [] => by
    unfold slices_Clone_byte
    exact Pn.ite (fun h => Pn.some (Fn.two [] [.bit true] [.bit false, .cp (List.map E5 []), .nb 1 (.row 5 (List.map E5 []) [])] (p := []) (pT := [true = true]) (pF := [false = false, (List.map E5 []).map V.vw = (List.map E5 []), ([] : List V).length + (List.map E5 []).length ≤ 9223372036854775807, (([] : List V).length + (List.map E5 []).length) * 1 ≤ 140737488355328, Blk.row 5 (([] : List V) ++ (List.map E5 [])) [] = Blk.row 5 (List.map E5 []) []]) (by kernel_rfl) trivial (cj1 rfl) (cj rfl (cj (vw_id (fun _ => rfl) _) (cj (cap1 (capN (by simp) h)) (cj (cap2 (capN (by simp) h) (by decide)) (cj1 rfl))))))) (fun _ => Pn.none)
  | x :: t => by
    unfold slices_Clone_byte
    exact Pn.ite (fun h => Pn.some (Fn.two [] [.bit true] [.bit false, .cp (List.map E5 (x :: t)), .nb 1 (.row 5 (List.map E5 (x :: t)) [])] (p := []) (pT := [false = false, (List.map E5 (x :: t)).map V.vw = (List.map E5 (x :: t)), ([] : List V).length + (List.map E5 (x :: t)).length ≤ 9223372036854775807, (([] : List V).length + (List.map E5 (x :: t)).length) * 1 ≤ 140737488355328, Blk.row 5 (([] : List V) ++ (List.map E5 (x :: t))) [] = Blk.row 5 (List.map E5 (x :: t)) []]) (pF := [false = false, (List.map E5 (x :: t)).map V.vw = (List.map E5 (x :: t)), ([] : List V).length + (List.map E5 (x :: t)).length ≤ 9223372036854775807, (([] : List V).length + (List.map E5 (x :: t)).length) * 1 ≤ 140737488355328, Blk.row 5 (([] : List V) ++ (List.map E5 (x :: t))) [] = Blk.row 5 (List.map E5 (x :: t)) []]) (by kernel_rfl) trivial (cj rfl (cj (vw_id (fun _ => rfl) _) (cj (cap1 (capN (by simp) h)) (cj (cap2 (capN (by simp) h) (by decide)) (cj1 rfl))))) (cj rfl (cj (vw_id (fun _ => rfl) _) (cj (cap1 (capN (by simp) h)) (cj (cap2 (capN (by simp) h) (by decide)) (cj1 rfl))))))) (fun _ => Pn.none)
def slices_Clone_int (s_ : List Int) : Option (List Int) := if capOk s_.length = true then some s_ else none
theorem slices_Clone_int_ok : ∀ (s_ : List Int), Pn (fun y => Fn Try.prog 165 [(false, E24 s_)] (E24 y) []) (slices_Clone_int s_)
  | [] => by
    unfold slices_Clone_int
    exact Pn.ite (fun h => Pn.some (Fn.two [] [.bit true] [.bit false, .cp (List.map E3 []), .nb 1 (.row 3 (List.map E3 []) [])] (p := []) (pT := [true = true]) (pF := [false = false, (List.map E3 []).map V.vw = (List.map E3 []), ([] : List V).length + (List.map E3 []).length ≤ 9223372036854775807, (([] : List V).length + (List.map E3 []).length) * 8 ≤ 140737488355328, Blk.row 3 (([] : List V) ++ (List.map E3 [])) [] = Blk.row 3 (List.map E3 []) []]) (by kernel_rfl) trivial (cj1 rfl) (cj rfl (cj (vw_id (fun _ => rfl) _) (cj (cap1 (capN (by simp) h)) (cj (cap2 (capN (by simp) h) (by decide)) (cj1 rfl))))))) (fun _ => Pn.none)
  | x :: t => by
    unfold slices_Clone_int
    exact Pn.ite (fun h => Pn.some (Fn.two [] [.bit true] [.bit false, .cp (List.map E3 (x :: t)), .nb 1 (.row 3 (List.map E3 (x :: t)) [])] (p := []) (pT := [false = false, (List.map E3 (x :: t)).map V.vw = (List.map E3 (x :: t)), ([] : List V).length + (List.map E3 (x :: t)).length ≤ 9223372036854775807, (([] : List V).length + (List.map E3 (x :: t)).length) * 8 ≤ 140737488355328, Blk.row 3 (([] : List V) ++ (List.map E3 (x :: t))) [] = Blk.row 3 (List.map E3 (x :: t)) []]) (pF := [false = false, (List.map E3 (x :: t)).map V.vw = (List.map E3 (x :: t)), ([] : List V).length + (List.map E3 (x :: t)).length ≤ 9223372036854775807, (([] : List V).length + (List.map E3 (x :: t)).length) * 8 ≤ 140737488355328, Blk.row 3 (([] : List V) ++ (List.map E3 (x :: t))) [] = Blk.row 3 (List.map E3 (x :: t)) []]) (by kernel_rfl) trivial (cj rfl (cj (vw_id (fun _ => rfl) _) (cj (cap1 (capN (by simp) h)) (cj (cap2 (capN (by simp) h) (by decide)) (cj1 rfl))))) (cj rfl (cj (vw_id (fun _ => rfl) _) (cj (cap1 (capN (by simp) h)) (cj (cap2 (capN (by simp) h) (by decide)) (cj1 rfl))))))) (fun _ => Pn.none)
def impl_Task_copied (t : Task) : Option (Task) :=
 (slices_Clone_byte t.Data).bind fun r1 =>
 (slices_Clone_int t.Set).bind fun r2 =>
 (slices_Clone_byte t.Reply).bind fun r3 =>
 some (Task.mk r1 t.Pc r2 t.Held t.Inv t.Lin t.Res t.At r3)
theorem impl_Task_copied_ok (t : Task) : Pn (fun y => Fn Try.prog 104 [(false, E137 t)] (E137 y) []) (impl_Task_copied t) := by
  unfold impl_Task_copied
  exact
   Pn.bind (fun r1 h1 =>
    Pn.bind (fun r2 h2 =>
     Pn.bind (fun r3 h3 =>
      Pn.some (Fn.of [.draw [10, 12, 14], .call [] (E22 r1) [], .call [] (E24 r2) [], .call [] (E22 r3) []] (p := [Fn Try.prog 164 [(false, E22 t.Data)] (E22 r1) [],
       (true || ((E22 r1).nv && nvL [])) = true,
       Fn Try.prog 165 [(false, E24 t.Set)] (E24 r2) [],
       (true || ((E24 r2).nv && nvL [])) = true,
       Fn Try.prog 164 [(false, E22 t.Reply)] (E22 r3) [],
       (true || ((E22 r3).nv && nvL [])) = true]) (by kernel_rfl) (cj (slices_Clone_byte_ok t.Data r1 h1) (cj rfl (cj (slices_Clone_int_ok t.Set r2 h2) (cj rfl (cj (slices_Clone_byte_ok t.Reply r3 h3) (cj1 rfl))))))))))
def impl_DonesOf_l0 (w : World) (r1 : (List Int)) : List Int → (List Done) → Option ((List Done))
  | [], v1 =>
   some v1
  | x1 :: t1, v1 =>
   if (decide (0 ≤ x1)) = true then
    (w.Tasks[x1.toNat]?).bind fun x2 =>
    (impl_Task_copied x2).bind fun r2 =>
    if (capOk (v1.length + 1)) = true then
     impl_DonesOf_l0 w r1 t1 (v1 ++ [(Done.mk r2.At r2.Data r2.Reply)])
    else none
   else none
theorem impl_DonesOf_l0_ok (w : World) (r1 : (List Int)) (h3 : capOk r1.length = true) : ∀ (t1 p1 : List Int) (_ : r1 = p1 ++ t1) (v1 : List Done), Pn (LpO Try.prog (sub (codeOf Try.prog 46) [1, 1, 0, 1, 0, 0]) (st 33 [(1, V.ptr 0 0), (3, V.ow 1), (9, V.ow 2), (10, V.sc (.int .i64 (r1.length : Int))), (11, V.sc (.int .i64 (p1.length : Int)))] [Blk.box 81 [V.sl false 58 (List.map E58 w.Stripes), V.sc (.int .i64 w.Now), V.sc (.int .i64 w.Step), V.sl false 137 (List.map E137 w.Tasks)], Blk.row 140 (List.map E140 v1) [], Blk.row 3 (List.map E3 r1) []] []) (fun (y : (List Done)) => (X.out 0, st 33 [(3, V.ow 0)] [Blk.row 140 (List.map E140 y) []] []))) (impl_DonesOf_l0 w r1 t1 v1)
  | [], p1, h2, v1 => by
    unfold impl_DonesOf_l0
    exact
     Pn.some (LpO.out [.bit false, .mask [3], .ren [1]] (p := [(decide ((p1.length : Int) < (r1.length : Int))) = false]) (by kernel_rfl) (show X.out 0 ≠ X.go from nofun) (cj1 (rng_end h2)))
  | x1 :: t1, p1, h2, v1 => by
    unfold impl_DonesOf_l0
    exact
     Pn.ite (fun h4 =>
      Pn.bind (fun x2 h5 =>
       Pn.bind (fun r2 h6 =>
        Pn.ite (fun h7 =>
         LpO.go [.bit true, .el (E3 x1), .el (E137 x2), .call [] (E137 r2) [], .wait 11, .shut 7, .mv, .nb 8 (.row 140 (List.map E140 (v1 ++ [(Done.mk r2.At r2.Data r2.Reply)])) []), .wait 4, .mask [1, 3, 9, 10, 11], .ren [0, 8, 2], .nm 11 (V.sc (.int .i64 ((p1 ++ [x1]).length : Int)))] (p := [(decide ((p1.length : Int) < (r1.length : Int))) = true,
          (0 : Int) ≤ (p1.length : Int),
          ((p1.length : Int) : Int) < ((List.map E3 r1).length : Int),
          look [] ((p1.length : Int).toNat) = none,
          (List.map E3 r1)[(p1.length : Int).toNat]? = some (E3 x1),
          (0 : Int) ≤ x1,
          (List.map E137 w.Tasks)[x1.toNat]? = some (E137 x2),
          Fn Try.prog 104 [(false, E137 x2)] (E137 r2) [],
          (true || ((E137 r2).nv && nvL [])) = true,
          (List.map E140 v1).length + [V.agg [V.sc (.int .i64 r2.At), V.sl true 5 (List.map E5 r2.Data), V.sl true 5 (List.map E5 r2.Reply)]].length ≤ 9223372036854775807,
          ((List.map E140 v1).length + [V.agg [V.sc (.int .i64 r2.At), V.sl true 5 (List.map E5 r2.Data), V.sl true 5 (List.map E5 r2.Reply)]].length) * 56 ≤ 140737488355328,
          Blk.row 140 ((List.map E140 v1) ++ [V.agg [V.sc (.int .i64 r2.At), V.sl true 5 (List.map E5 r2.Data), V.sl true 5 (List.map E5 r2.Reply)]]) [] = Blk.row 140 (List.map E140 (v1 ++ [(Done.mk r2.At r2.Data r2.Reply)])) [],
          V.sc (.int .i64 (i64 ((p1.length : Int) + 1))) = V.sc (.int .i64 ((p1 ++ [x1]).length : Int))]) (by kernel_rfl) (cj (rng_lt h2) (cj (by omega) (cj (rng_ltI _ h2) (cj rfl (cj (rng_get _ h2) (cj (od h4) (cj (map_get h5) (cj (impl_Task_copied_ok x2 r2 h6) (cj rfl (cj (cap1 (capN (by simp) h7)) (cj (cap2 (capN (by simp) h7) (by decide)) (cj (nb_app E140 v1 [(Done.mk r2.At r2.Data r2.Reply)]) (cj1 (rng_next h2 h3)))))))))))))) (impl_DonesOf_l0_ok w r1 h3 t1 (p1 ++ [x1]) (rng_step h2) (v1 ++ [(Done.mk r2.At r2.Data r2.Reply)]))) (fun h7 =>
         Pn.none)))) (fun h4 =>
      Pn.none)
def impl_DonesOf (w : World) : Option ((List Done)) :=
 (impl_OrderOf w).bind fun r1 =>
 if (capOk r1.length) = true then
  (impl_DonesOf_l0 w r1 r1 []).bind fun r3 =>
  some r3
 else none
theorem impl_DonesOf_ok (w : World) : Pn (fun y => Fn Try.prog 46 [(false, E81 w)] (E77 y) []) (impl_DonesOf w) := by
  unfold impl_DonesOf
  exact
   Pn.bind (fun r1 h1 =>
    Pn.ite (fun h8 =>
     Pn.bind (fun r3 h9 =>
      Pn.some (Fn.of [.call [] (E24 r1) [], .wait 1, .nm 10 (V.sc (.int .i64 (r1.length : Int))), .wait 2, .mask [1, 3, 9, 10, 11], .ren [0, 1, 2], .loop (X.out 0) (st 33 [(3, V.ow 0)] [Blk.row 140 (List.map E140 r3) []] [])] (p := [Fn Try.prog 103 [(false, E81 w)] (E24 r1) [],
       (true || ((E24 r1).nv && nvL [])) = true,
       V.sc (.int .i64 ((List.map E3 r1).length : Int)) = V.sc (.int .i64 (r1.length : Int)),
       Loop Try.prog (sub (codeOf Try.prog 46) [1, 1, 0, 1, 0, 0]) (st 33 [(1, V.ptr 0 0), (3, V.ow 1), (9, V.ow 2), (10, V.sc (.int .i64 (r1.length : Int))), (11, V.sc (.int .i64 0))] [Blk.box 81 [V.sl false 58 (List.map E58 w.Stripes), V.sc (.int .i64 w.Now), V.sc (.int .i64 w.Step), V.sl false 137 (List.map E137 w.Tasks)], Blk.row 140 ([] : List V) [], Blk.row 3 (List.map E3 r1) []] []) (X.out 0) (st 33 [(3, V.ow 0)] [Blk.row 140 (List.map E140 r3) []] [])]) (by kernel_rfl) (cj (impl_OrderOf_ok w r1 h1) (cj rfl (cj (len_nm _ _) (cj1 (impl_DonesOf_l0_ok w r1 h8 r1 [] rfl [] r3 h9)))))))) (fun h8 =>
     Pn.none))
def laws_eqByteS_l0 (a : List Int) (b : List Int) : List Int → List Int → Option (Lo Unit Unit)
  | [], p1 =>
   some (.out ())
  | x1 :: t1, p1 =>
   (b[(p1.length : Int).toNat]?).bind fun x2 =>
   if (x1 != x2) = true then
    some (.ret ())
   else
    laws_eqByteS_l0 a b t1 (p1 ++ [x1])
theorem laws_eqByteS_l0_ok (a : List Int) (b : List Int) (h3 : capOk a.length = true) : ∀ (t1 p1 : List Int) (_ : a = p1 ++ t1) , Pn (LpO Try.prog (sub (codeOf Try.prog 166) [1, 1, 0, 1, 0, 0]) (st 26 [(0, V.sl false 5 (List.map E5 a)), (1, V.sl false 5 (List.map E5 b)), (5, V.sc (.int .i64 (p1.length : Int)))] [] []) (fun (y : Lo Unit Unit) => Lo.elim y (fun s => (X.out 0, st 26 [] [] [])) (fun s => (X.ret, st 26 [(4, V.sc (.bool false))] [] [])))) (laws_eqByteS_l0 a b t1 p1)
  | [], p1, h2 => by
    unfold laws_eqByteS_l0
    exact
     Pn.some (LpO.out [.wait 3, .nm 13 (V.sc (.int .i64 (a.length : Int))), .bit false, .mask [], .ren []] (p := [V.sc (.int .i64 ((List.map E5 a).length : Int)) = V.sc (.int .i64 (a.length : Int)),
      (decide ((p1.length : Int) < (a.length : Int))) = false]) (by kernel_rfl) (show X.out 0 ≠ X.go from nofun) (cj (len_nm _ _) (cj1 (rng_end h2))))
  | x1 :: t1, p1, h2 => by
    unfold laws_eqByteS_l0
    exact
     Pn.bind (fun x2 h4 =>
      Pn.ite (fun h5 =>
       Pn.some (LpO.out [.wait 3, .nm 13 (V.sc (.int .i64 (a.length : Int))), .bit true, .draw [], .el (E5 x1), .el (E5 x2), .bit true, .wait 1, .mask [4], .ren []] (p := [V.sc (.int .i64 ((List.map E5 a).length : Int)) = V.sc (.int .i64 (a.length : Int)),
        (decide ((p1.length : Int) < (a.length : Int))) = true,
        (0 : Int) ≤ (p1.length : Int),
        (List.map E5 a)[(p1.length : Int).toNat]? = some (E5 x1),
        (0 : Int) ≤ (p1.length : Int),
        (List.map E5 b)[(p1.length : Int).toNat]? = some (E5 x2),
        (x1 != x2) = true]) (by kernel_rfl) (show X.ret ≠ X.go from nofun) (cj (len_nm _ _) (cj (rng_lt h2) (cj (by omega) (cj (rng_get _ h2) (cj (by omega) (cj (map_get h4) (cj1 h5))))))))) (fun h5 =>
       LpO.go [.wait 3, .nm 13 (V.sc (.int .i64 (a.length : Int))), .bit true, .draw [], .el (E5 x1), .el (E5 x2), .bit false, .wait 3, .mask [0, 1, 5], .ren [], .nm 5 (V.sc (.int .i64 ((p1 ++ [x1]).length : Int)))] (p := [V.sc (.int .i64 ((List.map E5 a).length : Int)) = V.sc (.int .i64 (a.length : Int)),
        (decide ((p1.length : Int) < (a.length : Int))) = true,
        (0 : Int) ≤ (p1.length : Int),
        (List.map E5 a)[(p1.length : Int).toNat]? = some (E5 x1),
        (0 : Int) ≤ (p1.length : Int),
        (List.map E5 b)[(p1.length : Int).toNat]? = some (E5 x2),
        (x1 != x2) = false,
        V.sc (.int .i64 (i64 ((p1.length : Int) + 1))) = V.sc (.int .i64 ((p1 ++ [x1]).length : Int))]) (by kernel_rfl) (cj (len_nm _ _) (cj (rng_lt h2) (cj (by omega) (cj (rng_get _ h2) (cj (by omega) (cj (map_get h4) (cj h5 (cj1 (rng_next h2 h3))))))))) (laws_eqByteS_l0_ok a b h3 t1 (p1 ++ [x1]) (rng_step h2))))
def laws_eqByteS (a : List Int) (b : List Int) : Option (Bool) :=
 if ((a.length : Int) != (b.length : Int)) = true then
  some false
 else
  if (capOk a.length) = true then
   (laws_eqByteS_l0 a b a []).bind fun r1 =>
   Lo.elim r1 (fun s1 =>
    some true) (fun s2 =>
    some false)
  else none
theorem laws_eqByteS_ok (a : List Int) (b : List Int) : Pn (fun y => Fn Try.prog 166 [(false, E22 a), (false, E22 b)] (E4 y) []) (laws_eqByteS a b) := by
  unfold laws_eqByteS
  exact
   Pn.ite (fun h1 =>
    Pn.some (Fn.of [.wait 3, .nm 7 (V.sc (.int .i64 (a.length : Int))), .wait 2, .nm 9 (V.sc (.int .i64 (b.length : Int))), .bit true] (p := [V.sc (.int .i64 ((List.map E5 a).length : Int)) = V.sc (.int .i64 (a.length : Int)),
     V.sc (.int .i64 ((List.map E5 b).length : Int)) = V.sc (.int .i64 (b.length : Int)),
     ((a.length : Int) != (b.length : Int)) = true]) (by kernel_rfl) (cj (len_nm _ _) (cj (len_nm _ _) (cj1 h1))))) (fun h1 =>
    Pn.ite (fun h6 =>
     Pn.bind (fun r1 h7 =>
      Pn.lo (fun s1 h8 =>
       Pn.some (Fn.of [.wait 3, .nm 7 (V.sc (.int .i64 (a.length : Int))), .wait 2, .nm 9 (V.sc (.int .i64 (b.length : Int))), .bit false, .wait 1, .mask [0, 1, 5], .ren [], .loop (X.out 0) (st 26 [] [] [])] (p := [V.sc (.int .i64 ((List.map E5 a).length : Int)) = V.sc (.int .i64 (a.length : Int)),
        V.sc (.int .i64 ((List.map E5 b).length : Int)) = V.sc (.int .i64 (b.length : Int)),
        ((a.length : Int) != (b.length : Int)) = false,
        Loop Try.prog (sub (codeOf Try.prog 166) [1, 1, 0, 1, 0, 0]) (st 26 [(0, V.sl false 5 (List.map E5 a)), (1, V.sl false 5 (List.map E5 b)), (5, V.sc (.int .i64 0))] [] []) (X.out 0) (st 26 [] [] [])]) (by kernel_rfl) (cj (len_nm _ _) (cj (len_nm _ _) (cj h1 (cj1 ((laws_eqByteS_l0_ok a b h6 a [] rfl r1 h7).at h8))))))) (fun s2 h9 =>
       Pn.some (Fn.of [.wait 3, .nm 7 (V.sc (.int .i64 (a.length : Int))), .wait 2, .nm 9 (V.sc (.int .i64 (b.length : Int))), .bit false, .wait 1, .mask [0, 1, 5], .ren [], .loop (X.ret) (st 26 [(4, V.sc (.bool false))] [] [])] (p := [V.sc (.int .i64 ((List.map E5 a).length : Int)) = V.sc (.int .i64 (a.length : Int)),
        V.sc (.int .i64 ((List.map E5 b).length : Int)) = V.sc (.int .i64 (b.length : Int)),
        ((a.length : Int) != (b.length : Int)) = false,
        Loop Try.prog (sub (codeOf Try.prog 166) [1, 1, 0, 1, 0, 0]) (st 26 [(0, V.sl false 5 (List.map E5 a)), (1, V.sl false 5 (List.map E5 b)), (5, V.sc (.int .i64 0))] [] []) (X.ret) (st 26 [(4, V.sc (.bool false))] [] [])]) (by kernel_rfl) (cj (len_nm _ _) (cj (len_nm _ _) (cj h1 (cj1 ((laws_eqByteS_l0_ok a b h6 a [] rfl r1 h7).at h9))))))))) (fun h6 =>
     Pn.none))
def laws_eqDone (a : Done) (b : Done) : Option (Bool) :=
 if (a.At != b.At) = true then
  some false
 else
  (laws_eqByteS a.Data b.Data).bind fun r1 =>
  if r1 = true then
   (laws_eqByteS a.Reply b.Reply).bind fun r2 =>
   if r2 = true then
    some true
   else
    some false
  else
   some false
theorem laws_eqDone_ok (a : Done) (b : Done) : Pn (fun y => Fn Try.prog 105 [(false, E140 a), (false, E140 b)] (E4 y) []) (laws_eqDone a b) := by
  unfold laws_eqDone
  exact
   Pn.ite (fun h1 =>
    Pn.some (Fn.of [.bit true] (p := [(a.At != b.At) = true]) (by kernel_rfl) (cj1 h1))) (fun h1 =>
    Pn.bind (fun r1 h2 =>
     Pn.ite (fun h3 =>
      Pn.bind (fun r2 h4 =>
       Pn.ite (fun h5 =>
        Pn.some (Fn.of [.bit false, .call [] (E4 r1) [], .bit false, .call [] (E4 r2) [], .bit false] (p := [(a.At != b.At) = false,
         Fn Try.prog 166 [(false, E22 a.Data), (false, E22 b.Data)] (E4 r1) [],
         (true || ((E4 r1).nv && nvL [])) = true,
         (!r1) = false,
         Fn Try.prog 166 [(false, E22 a.Reply), (false, E22 b.Reply)] (E4 r2) [],
         (true || ((E4 r2).nv && nvL [])) = true,
         (!r2) = false]) (by kernel_rfl) (cj h1 (cj (laws_eqByteS_ok a.Data b.Data r1 h2) (cj rfl (cj (nf h3) (cj (laws_eqByteS_ok a.Reply b.Reply r2 h4) (cj rfl (cj1 (nf h5)))))))))) (fun h5 =>
        Pn.some (Fn.of [.bit false, .call [] (E4 r1) [], .bit false, .call [] (E4 r2) [], .bit true] (p := [(a.At != b.At) = false,
         Fn Try.prog 166 [(false, E22 a.Data), (false, E22 b.Data)] (E4 r1) [],
         (true || ((E4 r1).nv && nvL [])) = true,
         (!r1) = false,
         Fn Try.prog 166 [(false, E22 a.Reply), (false, E22 b.Reply)] (E4 r2) [],
         (true || ((E4 r2).nv && nvL [])) = true,
         (!r2) = true]) (by kernel_rfl) (cj h1 (cj (laws_eqByteS_ok a.Data b.Data r1 h2) (cj rfl (cj (nf h3) (cj (laws_eqByteS_ok a.Reply b.Reply r2 h4) (cj rfl (cj1 (nt h5)))))))))))) (fun h3 =>
      Pn.some (Fn.of [.bit false, .call [] (E4 r1) [], .bit true] (p := [(a.At != b.At) = false,
       Fn Try.prog 166 [(false, E22 a.Data), (false, E22 b.Data)] (E4 r1) [],
       (true || ((E4 r1).nv && nvL [])) = true,
       (!r1) = true]) (by kernel_rfl) (cj h1 (cj (laws_eqByteS_ok a.Data b.Data r1 h2) (cj rfl (cj1 (nt h3)))))))))
def laws_eqDoneS_l0 (a : List Done) (b : List Done) : List Done → List Done → Option (Lo Unit Unit)
  | [], p1 =>
   some (.out ())
  | x1 :: t1, p1 =>
   (b[(p1.length : Int).toNat]?).bind fun x2 =>
   (laws_eqDone x1 x2).bind fun r1 =>
   if r1 = true then
    laws_eqDoneS_l0 a b t1 (p1 ++ [x1])
   else
    some (.ret ())
theorem laws_eqDoneS_l0_ok (a : List Done) (b : List Done) (h3 : capOk a.length = true) : ∀ (t1 p1 : List Done) (_ : a = p1 ++ t1) , Pn (LpO Try.prog (sub (codeOf Try.prog 47) [1, 1, 0, 1, 0, 0]) (st 27 [(0, V.sl false 140 (List.map E140 a)), (1, V.sl false 140 (List.map E140 b)), (5, V.sc (.int .i64 (p1.length : Int)))] [] []) (fun (y : Lo Unit Unit) => Lo.elim y (fun s => (X.out 0, st 27 [] [] [])) (fun s => (X.ret, st 27 [(4, V.sc (.bool false))] [] [])))) (laws_eqDoneS_l0 a b t1 p1)
  | [], p1, h2 => by
    unfold laws_eqDoneS_l0
    exact
     Pn.some (LpO.out [.wait 3, .nm 13 (V.sc (.int .i64 (a.length : Int))), .bit false, .mask [], .ren []] (p := [V.sc (.int .i64 ((List.map E140 a).length : Int)) = V.sc (.int .i64 (a.length : Int)),
      (decide ((p1.length : Int) < (a.length : Int))) = false]) (by kernel_rfl) (show X.out 0 ≠ X.go from nofun) (cj (len_nm _ _) (cj1 (rng_end h2))))
  | x1 :: t1, p1, h2 => by
    unfold laws_eqDoneS_l0
    exact
     Pn.bind (fun x2 h4 =>
      Pn.bind (fun r1 h5 =>
       Pn.ite (fun h6 =>
        LpO.go [.wait 3, .nm 13 (V.sc (.int .i64 (a.length : Int))), .bit true, .draw [], .el (E140 x1), .el (E140 x2), .call [] (E4 r1) [], .bit false, .wait 3, .mask [0, 1, 5], .ren [], .nm 5 (V.sc (.int .i64 ((p1 ++ [x1]).length : Int)))] (p := [V.sc (.int .i64 ((List.map E140 a).length : Int)) = V.sc (.int .i64 (a.length : Int)),
         (decide ((p1.length : Int) < (a.length : Int))) = true,
         (0 : Int) ≤ (p1.length : Int),
         (List.map E140 a)[(p1.length : Int).toNat]? = some (E140 x1),
         (0 : Int) ≤ (p1.length : Int),
         (List.map E140 b)[(p1.length : Int).toNat]? = some (E140 x2),
         Fn Try.prog 105 [(false, E140 x1), (false, E140 x2)] (E4 r1) [],
         (true || ((E4 r1).nv && nvL [])) = true,
         (!r1) = false,
         V.sc (.int .i64 (i64 ((p1.length : Int) + 1))) = V.sc (.int .i64 ((p1 ++ [x1]).length : Int))]) (by kernel_rfl) (cj (len_nm _ _) (cj (rng_lt h2) (cj (by omega) (cj (rng_get _ h2) (cj (by omega) (cj (map_get h4) (cj (laws_eqDone_ok x1 x2 r1 h5) (cj rfl (cj (nf h6) (cj1 (rng_next h2 h3))))))))))) (laws_eqDoneS_l0_ok a b h3 t1 (p1 ++ [x1]) (rng_step h2))) (fun h6 =>
        Pn.some (LpO.out [.wait 3, .nm 13 (V.sc (.int .i64 (a.length : Int))), .bit true, .draw [], .el (E140 x1), .el (E140 x2), .call [] (E4 r1) [], .bit true, .wait 1, .mask [4], .ren []] (p := [V.sc (.int .i64 ((List.map E140 a).length : Int)) = V.sc (.int .i64 (a.length : Int)),
         (decide ((p1.length : Int) < (a.length : Int))) = true,
         (0 : Int) ≤ (p1.length : Int),
         (List.map E140 a)[(p1.length : Int).toNat]? = some (E140 x1),
         (0 : Int) ≤ (p1.length : Int),
         (List.map E140 b)[(p1.length : Int).toNat]? = some (E140 x2),
         Fn Try.prog 105 [(false, E140 x1), (false, E140 x2)] (E4 r1) [],
         (true || ((E4 r1).nv && nvL [])) = true,
         (!r1) = true]) (by kernel_rfl) (show X.ret ≠ X.go from nofun) (cj (len_nm _ _) (cj (rng_lt h2) (cj (by omega) (cj (rng_get _ h2) (cj (by omega) (cj (map_get h4) (cj (laws_eqDone_ok x1 x2 r1 h5) (cj rfl (cj1 (nt h6))))))))))))))
def laws_eqDoneS (a : List Done) (b : List Done) : Option (Bool) :=
 if ((a.length : Int) != (b.length : Int)) = true then
  some false
 else
  if (capOk a.length) = true then
   (laws_eqDoneS_l0 a b a []).bind fun r2 =>
   Lo.elim r2 (fun s1 =>
    some true) (fun s2 =>
    some false)
  else none
theorem laws_eqDoneS_ok (a : List Done) (b : List Done) : Pn (fun y => Fn Try.prog 47 [(false, E77 a), (false, E77 b)] (E4 y) []) (laws_eqDoneS a b) := by
  unfold laws_eqDoneS
  exact
   Pn.ite (fun h1 =>
    Pn.some (Fn.of [.wait 3, .nm 7 (V.sc (.int .i64 (a.length : Int))), .wait 2, .nm 9 (V.sc (.int .i64 (b.length : Int))), .bit true] (p := [V.sc (.int .i64 ((List.map E140 a).length : Int)) = V.sc (.int .i64 (a.length : Int)),
     V.sc (.int .i64 ((List.map E140 b).length : Int)) = V.sc (.int .i64 (b.length : Int)),
     ((a.length : Int) != (b.length : Int)) = true]) (by kernel_rfl) (cj (len_nm _ _) (cj (len_nm _ _) (cj1 h1))))) (fun h1 =>
    Pn.ite (fun h7 =>
     Pn.bind (fun r2 h8 =>
      Pn.lo (fun s1 h9 =>
       Pn.some (Fn.of [.wait 3, .nm 7 (V.sc (.int .i64 (a.length : Int))), .wait 2, .nm 9 (V.sc (.int .i64 (b.length : Int))), .bit false, .wait 1, .mask [0, 1, 5], .ren [], .loop (X.out 0) (st 27 [] [] [])] (p := [V.sc (.int .i64 ((List.map E140 a).length : Int)) = V.sc (.int .i64 (a.length : Int)),
        V.sc (.int .i64 ((List.map E140 b).length : Int)) = V.sc (.int .i64 (b.length : Int)),
        ((a.length : Int) != (b.length : Int)) = false,
        Loop Try.prog (sub (codeOf Try.prog 47) [1, 1, 0, 1, 0, 0]) (st 27 [(0, V.sl false 140 (List.map E140 a)), (1, V.sl false 140 (List.map E140 b)), (5, V.sc (.int .i64 0))] [] []) (X.out 0) (st 27 [] [] [])]) (by kernel_rfl) (cj (len_nm _ _) (cj (len_nm _ _) (cj h1 (cj1 ((laws_eqDoneS_l0_ok a b h7 a [] rfl r2 h8).at h9))))))) (fun s2 h10 =>
       Pn.some (Fn.of [.wait 3, .nm 7 (V.sc (.int .i64 (a.length : Int))), .wait 2, .nm 9 (V.sc (.int .i64 (b.length : Int))), .bit false, .wait 1, .mask [0, 1, 5], .ren [], .loop (X.ret) (st 27 [(4, V.sc (.bool false))] [] [])] (p := [V.sc (.int .i64 ((List.map E140 a).length : Int)) = V.sc (.int .i64 (a.length : Int)),
        V.sc (.int .i64 ((List.map E140 b).length : Int)) = V.sc (.int .i64 (b.length : Int)),
        ((a.length : Int) != (b.length : Int)) = false,
        Loop Try.prog (sub (codeOf Try.prog 47) [1, 1, 0, 1, 0, 0]) (st 27 [(0, V.sl false 140 (List.map E140 a)), (1, V.sl false 140 (List.map E140 b)), (5, V.sc (.int .i64 0))] [] []) (X.ret) (st 27 [(4, V.sc (.bool false))] [] [])]) (by kernel_rfl) (cj (len_nm _ _) (cj (len_nm _ _) (cj h1 (cj1 ((laws_eqDoneS_l0_ok a b h7 a [] rfl r2 h8).at h10))))))))) (fun h7 =>
     Pn.none))
def laws_eqHold (a : Hold) (b : Hold) : Option (Bool) :=
 if (a.Id == b.Id) = true then
  if (a.Amount != b.Amount) = true then
   some false
  else
   if (a.Due != b.Due) = true then
    some false
   else
    some true
 else
  some false
theorem laws_eqHold_ok (a : Hold) (b : Hold) : Pn (fun y => Fn Try.prog 215 [(false, E36 a), (false, E36 b)] (E4 y) []) (laws_eqHold a b) := by
  unfold laws_eqHold
  exact
   Pn.ite (fun h1 =>
    Pn.ite (fun h2 =>
     Pn.some (Fn.of [.bit false, .bit true] (p := [(!(a.Id == b.Id)) = false,
      (a.Amount != b.Amount) = true]) (by kernel_rfl) (cj (nf h1) (cj1 h2)))) (fun h2 =>
     Pn.ite (fun h3 =>
      Pn.some (Fn.of [.bit false, .bit false, .bit true] (p := [(!(a.Id == b.Id)) = false,
       (a.Amount != b.Amount) = false,
       (a.Due != b.Due) = true]) (by kernel_rfl) (cj (nf h1) (cj h2 (cj1 h3))))) (fun h3 =>
      Pn.some (Fn.of [.bit false, .bit false, .bit false] (p := [(!(a.Id == b.Id)) = false,
       (a.Amount != b.Amount) = false,
       (a.Due != b.Due) = false]) (by kernel_rfl) (cj (nf h1) (cj h2 (cj1 h3))))))) (fun h1 =>
    Pn.some (Fn.of [.bit true] (p := [(!(a.Id == b.Id)) = true]) (by kernel_rfl) (cj1 (nt h1))))
def laws_eqHoldS_l0 (a : List Hold) (b : List Hold) : List Hold → List Hold → Option (Lo Unit Unit)
  | [], p1 =>
   some (.out ())
  | x1 :: t1, p1 =>
   (b[(p1.length : Int).toNat]?).bind fun x2 =>
   (laws_eqHold x1 x2).bind fun r1 =>
   if r1 = true then
    laws_eqHoldS_l0 a b t1 (p1 ++ [x1])
   else
    some (.ret ())
theorem laws_eqHoldS_l0_ok (a : List Hold) (b : List Hold) (h3 : capOk a.length = true) : ∀ (t1 p1 : List Hold) (_ : a = p1 ++ t1) , Pn (LpO Try.prog (sub (codeOf Try.prog 195) [1, 1, 0, 1, 0, 0]) (st 27 [(0, V.sl false 36 (List.map E36 a)), (1, V.sl false 36 (List.map E36 b)), (5, V.sc (.int .i64 (p1.length : Int)))] [] []) (fun (y : Lo Unit Unit) => Lo.elim y (fun s => (X.out 0, st 27 [] [] [])) (fun s => (X.ret, st 27 [(4, V.sc (.bool false))] [] [])))) (laws_eqHoldS_l0 a b t1 p1)
  | [], p1, h2 => by
    unfold laws_eqHoldS_l0
    exact
     Pn.some (LpO.out [.wait 3, .nm 13 (V.sc (.int .i64 (a.length : Int))), .bit false, .mask [], .ren []] (p := [V.sc (.int .i64 ((List.map E36 a).length : Int)) = V.sc (.int .i64 (a.length : Int)),
      (decide ((p1.length : Int) < (a.length : Int))) = false]) (by kernel_rfl) (show X.out 0 ≠ X.go from nofun) (cj (len_nm _ _) (cj1 (rng_end h2))))
  | x1 :: t1, p1, h2 => by
    unfold laws_eqHoldS_l0
    exact
     Pn.bind (fun x2 h4 =>
      Pn.bind (fun r1 h5 =>
       Pn.ite (fun h6 =>
        LpO.go [.wait 3, .nm 13 (V.sc (.int .i64 (a.length : Int))), .bit true, .draw [], .el (E36 x1), .el (E36 x2), .call [] (E4 r1) [], .bit false, .wait 3, .mask [0, 1, 5], .ren [], .nm 5 (V.sc (.int .i64 ((p1 ++ [x1]).length : Int)))] (p := [V.sc (.int .i64 ((List.map E36 a).length : Int)) = V.sc (.int .i64 (a.length : Int)),
         (decide ((p1.length : Int) < (a.length : Int))) = true,
         (0 : Int) ≤ (p1.length : Int),
         (List.map E36 a)[(p1.length : Int).toNat]? = some (E36 x1),
         (0 : Int) ≤ (p1.length : Int),
         (List.map E36 b)[(p1.length : Int).toNat]? = some (E36 x2),
         Fn Try.prog 215 [(false, E36 x1), (false, E36 x2)] (E4 r1) [],
         (true || ((E4 r1).nv && nvL [])) = true,
         (!r1) = false,
         V.sc (.int .i64 (i64 ((p1.length : Int) + 1))) = V.sc (.int .i64 ((p1 ++ [x1]).length : Int))]) (by kernel_rfl) (cj (len_nm _ _) (cj (rng_lt h2) (cj (by omega) (cj (rng_get _ h2) (cj (by omega) (cj (map_get h4) (cj (laws_eqHold_ok x1 x2 r1 h5) (cj rfl (cj (nf h6) (cj1 (rng_next h2 h3))))))))))) (laws_eqHoldS_l0_ok a b h3 t1 (p1 ++ [x1]) (rng_step h2))) (fun h6 =>
        Pn.some (LpO.out [.wait 3, .nm 13 (V.sc (.int .i64 (a.length : Int))), .bit true, .draw [], .el (E36 x1), .el (E36 x2), .call [] (E4 r1) [], .bit true, .wait 1, .mask [4], .ren []] (p := [V.sc (.int .i64 ((List.map E36 a).length : Int)) = V.sc (.int .i64 (a.length : Int)),
         (decide ((p1.length : Int) < (a.length : Int))) = true,
         (0 : Int) ≤ (p1.length : Int),
         (List.map E36 a)[(p1.length : Int).toNat]? = some (E36 x1),
         (0 : Int) ≤ (p1.length : Int),
         (List.map E36 b)[(p1.length : Int).toNat]? = some (E36 x2),
         Fn Try.prog 215 [(false, E36 x1), (false, E36 x2)] (E4 r1) [],
         (true || ((E4 r1).nv && nvL [])) = true,
         (!r1) = true]) (by kernel_rfl) (show X.ret ≠ X.go from nofun) (cj (len_nm _ _) (cj (rng_lt h2) (cj (by omega) (cj (rng_get _ h2) (cj (by omega) (cj (map_get h4) (cj (laws_eqHold_ok x1 x2 r1 h5) (cj rfl (cj1 (nt h6))))))))))))))
def laws_eqHoldS (a : List Hold) (b : List Hold) : Option (Bool) :=
 if ((a.length : Int) != (b.length : Int)) = true then
  some false
 else
  if (capOk a.length) = true then
   (laws_eqHoldS_l0 a b a []).bind fun r2 =>
   Lo.elim r2 (fun s1 =>
    some true) (fun s2 =>
    some false)
  else none
theorem laws_eqHoldS_ok (a : List Hold) (b : List Hold) : Pn (fun y => Fn Try.prog 195 [(false, E23 a), (false, E23 b)] (E4 y) []) (laws_eqHoldS a b) := by
  unfold laws_eqHoldS
  exact
   Pn.ite (fun h1 =>
    Pn.some (Fn.of [.wait 3, .nm 7 (V.sc (.int .i64 (a.length : Int))), .wait 2, .nm 9 (V.sc (.int .i64 (b.length : Int))), .bit true] (p := [V.sc (.int .i64 ((List.map E36 a).length : Int)) = V.sc (.int .i64 (a.length : Int)),
     V.sc (.int .i64 ((List.map E36 b).length : Int)) = V.sc (.int .i64 (b.length : Int)),
     ((a.length : Int) != (b.length : Int)) = true]) (by kernel_rfl) (cj (len_nm _ _) (cj (len_nm _ _) (cj1 h1))))) (fun h1 =>
    Pn.ite (fun h7 =>
     Pn.bind (fun r2 h8 =>
      Pn.lo (fun s1 h9 =>
       Pn.some (Fn.of [.wait 3, .nm 7 (V.sc (.int .i64 (a.length : Int))), .wait 2, .nm 9 (V.sc (.int .i64 (b.length : Int))), .bit false, .wait 1, .mask [0, 1, 5], .ren [], .loop (X.out 0) (st 27 [] [] [])] (p := [V.sc (.int .i64 ((List.map E36 a).length : Int)) = V.sc (.int .i64 (a.length : Int)),
        V.sc (.int .i64 ((List.map E36 b).length : Int)) = V.sc (.int .i64 (b.length : Int)),
        ((a.length : Int) != (b.length : Int)) = false,
        Loop Try.prog (sub (codeOf Try.prog 195) [1, 1, 0, 1, 0, 0]) (st 27 [(0, V.sl false 36 (List.map E36 a)), (1, V.sl false 36 (List.map E36 b)), (5, V.sc (.int .i64 0))] [] []) (X.out 0) (st 27 [] [] [])]) (by kernel_rfl) (cj (len_nm _ _) (cj (len_nm _ _) (cj h1 (cj1 ((laws_eqHoldS_l0_ok a b h7 a [] rfl r2 h8).at h9))))))) (fun s2 h10 =>
       Pn.some (Fn.of [.wait 3, .nm 7 (V.sc (.int .i64 (a.length : Int))), .wait 2, .nm 9 (V.sc (.int .i64 (b.length : Int))), .bit false, .wait 1, .mask [0, 1, 5], .ren [], .loop (X.ret) (st 27 [(4, V.sc (.bool false))] [] [])] (p := [V.sc (.int .i64 ((List.map E36 a).length : Int)) = V.sc (.int .i64 (a.length : Int)),
        V.sc (.int .i64 ((List.map E36 b).length : Int)) = V.sc (.int .i64 (b.length : Int)),
        ((a.length : Int) != (b.length : Int)) = false,
        Loop Try.prog (sub (codeOf Try.prog 195) [1, 1, 0, 1, 0, 0]) (st 27 [(0, V.sl false 36 (List.map E36 a)), (1, V.sl false 36 (List.map E36 b)), (5, V.sc (.int .i64 0))] [] []) (X.ret) (st 27 [(4, V.sc (.bool false))] [] [])]) (by kernel_rfl) (cj (len_nm _ _) (cj (len_nm _ _) (cj h1 (cj1 ((laws_eqHoldS_l0_ok a b h7 a [] rfl r2 h8).at h10))))))))) (fun h7 =>
     Pn.none))
def laws_eqIntS_l0 (a : List Int) (b : List Int) : List Int → List Int → Option (Lo Unit Unit)
  | [], p1 =>
   some (.out ())
  | x1 :: t1, p1 =>
   (b[(p1.length : Int).toNat]?).bind fun x2 =>
   if (x1 != x2) = true then
    some (.ret ())
   else
    laws_eqIntS_l0 a b t1 (p1 ++ [x1])
theorem laws_eqIntS_l0_ok (a : List Int) (b : List Int) (h3 : capOk a.length = true) : ∀ (t1 p1 : List Int) (_ : a = p1 ++ t1) , Pn (LpO Try.prog (sub (codeOf Try.prog 41) [1, 1, 0, 1, 0, 0]) (st 26 [(0, V.sl false 3 (List.map E3 a)), (1, V.sl false 3 (List.map E3 b)), (5, V.sc (.int .i64 (p1.length : Int)))] [] []) (fun (y : Lo Unit Unit) => Lo.elim y (fun s => (X.out 0, st 26 [] [] [])) (fun s => (X.ret, st 26 [(4, V.sc (.bool false))] [] [])))) (laws_eqIntS_l0 a b t1 p1)
  | [], p1, h2 => by
    unfold laws_eqIntS_l0
    exact
     Pn.some (LpO.out [.wait 3, .nm 13 (V.sc (.int .i64 (a.length : Int))), .bit false, .mask [], .ren []] (p := [V.sc (.int .i64 ((List.map E3 a).length : Int)) = V.sc (.int .i64 (a.length : Int)),
      (decide ((p1.length : Int) < (a.length : Int))) = false]) (by kernel_rfl) (show X.out 0 ≠ X.go from nofun) (cj (len_nm _ _) (cj1 (rng_end h2))))
  | x1 :: t1, p1, h2 => by
    unfold laws_eqIntS_l0
    exact
     Pn.bind (fun x2 h4 =>
      Pn.ite (fun h5 =>
       Pn.some (LpO.out [.wait 3, .nm 13 (V.sc (.int .i64 (a.length : Int))), .bit true, .draw [], .el (E3 x1), .el (E3 x2), .bit true, .wait 1, .mask [4], .ren []] (p := [V.sc (.int .i64 ((List.map E3 a).length : Int)) = V.sc (.int .i64 (a.length : Int)),
        (decide ((p1.length : Int) < (a.length : Int))) = true,
        (0 : Int) ≤ (p1.length : Int),
        (List.map E3 a)[(p1.length : Int).toNat]? = some (E3 x1),
        (0 : Int) ≤ (p1.length : Int),
        (List.map E3 b)[(p1.length : Int).toNat]? = some (E3 x2),
        (x1 != x2) = true]) (by kernel_rfl) (show X.ret ≠ X.go from nofun) (cj (len_nm _ _) (cj (rng_lt h2) (cj (by omega) (cj (rng_get _ h2) (cj (by omega) (cj (map_get h4) (cj1 h5))))))))) (fun h5 =>
       LpO.go [.wait 3, .nm 13 (V.sc (.int .i64 (a.length : Int))), .bit true, .draw [], .el (E3 x1), .el (E3 x2), .bit false, .wait 3, .mask [0, 1, 5], .ren [], .nm 5 (V.sc (.int .i64 ((p1 ++ [x1]).length : Int)))] (p := [V.sc (.int .i64 ((List.map E3 a).length : Int)) = V.sc (.int .i64 (a.length : Int)),
        (decide ((p1.length : Int) < (a.length : Int))) = true,
        (0 : Int) ≤ (p1.length : Int),
        (List.map E3 a)[(p1.length : Int).toNat]? = some (E3 x1),
        (0 : Int) ≤ (p1.length : Int),
        (List.map E3 b)[(p1.length : Int).toNat]? = some (E3 x2),
        (x1 != x2) = false,
        V.sc (.int .i64 (i64 ((p1.length : Int) + 1))) = V.sc (.int .i64 ((p1 ++ [x1]).length : Int))]) (by kernel_rfl) (cj (len_nm _ _) (cj (rng_lt h2) (cj (by omega) (cj (rng_get _ h2) (cj (by omega) (cj (map_get h4) (cj h5 (cj1 (rng_next h2 h3))))))))) (laws_eqIntS_l0_ok a b h3 t1 (p1 ++ [x1]) (rng_step h2))))
def laws_eqIntS (a : List Int) (b : List Int) : Option (Bool) :=
 if ((a.length : Int) != (b.length : Int)) = true then
  some false
 else
  if (capOk a.length) = true then
   (laws_eqIntS_l0 a b a []).bind fun r1 =>
   Lo.elim r1 (fun s1 =>
    some true) (fun s2 =>
    some false)
  else none
theorem laws_eqIntS_ok (a : List Int) (b : List Int) : Pn (fun y => Fn Try.prog 41 [(false, E24 a), (false, E24 b)] (E4 y) []) (laws_eqIntS a b) := by
  unfold laws_eqIntS
  exact
   Pn.ite (fun h1 =>
    Pn.some (Fn.of [.wait 3, .nm 7 (V.sc (.int .i64 (a.length : Int))), .wait 2, .nm 9 (V.sc (.int .i64 (b.length : Int))), .bit true] (p := [V.sc (.int .i64 ((List.map E3 a).length : Int)) = V.sc (.int .i64 (a.length : Int)),
     V.sc (.int .i64 ((List.map E3 b).length : Int)) = V.sc (.int .i64 (b.length : Int)),
     ((a.length : Int) != (b.length : Int)) = true]) (by kernel_rfl) (cj (len_nm _ _) (cj (len_nm _ _) (cj1 h1))))) (fun h1 =>
    Pn.ite (fun h6 =>
     Pn.bind (fun r1 h7 =>
      Pn.lo (fun s1 h8 =>
       Pn.some (Fn.of [.wait 3, .nm 7 (V.sc (.int .i64 (a.length : Int))), .wait 2, .nm 9 (V.sc (.int .i64 (b.length : Int))), .bit false, .wait 1, .mask [0, 1, 5], .ren [], .loop (X.out 0) (st 26 [] [] [])] (p := [V.sc (.int .i64 ((List.map E3 a).length : Int)) = V.sc (.int .i64 (a.length : Int)),
        V.sc (.int .i64 ((List.map E3 b).length : Int)) = V.sc (.int .i64 (b.length : Int)),
        ((a.length : Int) != (b.length : Int)) = false,
        Loop Try.prog (sub (codeOf Try.prog 41) [1, 1, 0, 1, 0, 0]) (st 26 [(0, V.sl false 3 (List.map E3 a)), (1, V.sl false 3 (List.map E3 b)), (5, V.sc (.int .i64 0))] [] []) (X.out 0) (st 26 [] [] [])]) (by kernel_rfl) (cj (len_nm _ _) (cj (len_nm _ _) (cj h1 (cj1 ((laws_eqIntS_l0_ok a b h6 a [] rfl r1 h7).at h8))))))) (fun s2 h9 =>
       Pn.some (Fn.of [.wait 3, .nm 7 (V.sc (.int .i64 (a.length : Int))), .wait 2, .nm 9 (V.sc (.int .i64 (b.length : Int))), .bit false, .wait 1, .mask [0, 1, 5], .ren [], .loop (X.ret) (st 26 [(4, V.sc (.bool false))] [] [])] (p := [V.sc (.int .i64 ((List.map E3 a).length : Int)) = V.sc (.int .i64 (a.length : Int)),
        V.sc (.int .i64 ((List.map E3 b).length : Int)) = V.sc (.int .i64 (b.length : Int)),
        ((a.length : Int) != (b.length : Int)) = false,
        Loop Try.prog (sub (codeOf Try.prog 41) [1, 1, 0, 1, 0, 0]) (st 26 [(0, V.sl false 3 (List.map E3 a)), (1, V.sl false 3 (List.map E3 b)), (5, V.sc (.int .i64 0))] [] []) (X.ret) (st 26 [(4, V.sc (.bool false))] [] [])]) (by kernel_rfl) (cj (len_nm _ _) (cj (len_nm _ _) (cj h1 (cj1 ((laws_eqIntS_l0_ok a b h6 a [] rfl r1 h7).at h9))))))))) (fun h6 =>
     Pn.none))
def laws_eqRing (a : Ring) (b : Ring) : Option (Bool) :=
 if (a.Span != b.Span) = true then
  some false
 else
  if (a.Head != b.Head) = true then
   some false
  else
   (laws_eqIntS a.Counts b.Counts).bind fun r1 =>
   if r1 = true then
    (laws_eqIntS a.Sums b.Sums).bind fun r2 =>
    if r2 = true then
     some true
    else
     some false
   else
    some false
theorem laws_eqRing_ok (a : Ring) (b : Ring) : Pn (fun y => Fn Try.prog 196 [(false, E26 a), (false, E26 b)] (E4 y) []) (laws_eqRing a b) := by
  unfold laws_eqRing
  exact
   Pn.ite (fun h1 =>
    Pn.some (Fn.of [.bit true] (p := [(a.Span != b.Span) = true]) (by kernel_rfl) (cj1 h1))) (fun h1 =>
    Pn.ite (fun h2 =>
     Pn.some (Fn.of [.bit false, .bit true] (p := [(a.Span != b.Span) = false,
      (a.Head != b.Head) = true]) (by kernel_rfl) (cj h1 (cj1 h2)))) (fun h2 =>
     Pn.bind (fun r1 h3 =>
      Pn.ite (fun h4 =>
       Pn.bind (fun r2 h5 =>
        Pn.ite (fun h6 =>
         Pn.some (Fn.of [.bit false, .bit false, .call [] (E4 r1) [], .bit false, .call [] (E4 r2) [], .bit false] (p := [(a.Span != b.Span) = false,
          (a.Head != b.Head) = false,
          Fn Try.prog 41 [(false, E24 a.Counts), (false, E24 b.Counts)] (E4 r1) [],
          (true || ((E4 r1).nv && nvL [])) = true,
          (!r1) = false,
          Fn Try.prog 41 [(false, E24 a.Sums), (false, E24 b.Sums)] (E4 r2) [],
          (true || ((E4 r2).nv && nvL [])) = true,
          (!r2) = false]) (by kernel_rfl) (cj h1 (cj h2 (cj (laws_eqIntS_ok a.Counts b.Counts r1 h3) (cj rfl (cj (nf h4) (cj (laws_eqIntS_ok a.Sums b.Sums r2 h5) (cj rfl (cj1 (nf h6))))))))))) (fun h6 =>
         Pn.some (Fn.of [.bit false, .bit false, .call [] (E4 r1) [], .bit false, .call [] (E4 r2) [], .bit true] (p := [(a.Span != b.Span) = false,
          (a.Head != b.Head) = false,
          Fn Try.prog 41 [(false, E24 a.Counts), (false, E24 b.Counts)] (E4 r1) [],
          (true || ((E4 r1).nv && nvL [])) = true,
          (!r1) = false,
          Fn Try.prog 41 [(false, E24 a.Sums), (false, E24 b.Sums)] (E4 r2) [],
          (true || ((E4 r2).nv && nvL [])) = true,
          (!r2) = true]) (by kernel_rfl) (cj h1 (cj h2 (cj (laws_eqIntS_ok a.Counts b.Counts r1 h3) (cj rfl (cj (nf h4) (cj (laws_eqIntS_ok a.Sums b.Sums r2 h5) (cj rfl (cj1 (nt h6))))))))))))) (fun h4 =>
       Pn.some (Fn.of [.bit false, .bit false, .call [] (E4 r1) [], .bit true] (p := [(a.Span != b.Span) = false,
        (a.Head != b.Head) = false,
        Fn Try.prog 41 [(false, E24 a.Counts), (false, E24 b.Counts)] (E4 r1) [],
        (true || ((E4 r1).nv && nvL [])) = true,
        (!r1) = true]) (by kernel_rfl) (cj h1 (cj h2 (cj (laws_eqIntS_ok a.Counts b.Counts r1 h3) (cj rfl (cj1 (nt h4)))))))))))
def laws_eqSlot (a : Slot) (b : Slot) : Option (Bool) :=
 if (a.Trace == b.Trace) = true then
  if (a.Mti == b.Mti) = true then
   (laws_eqByteS a.Reply b.Reply).bind fun r1 =>
   if r1 = true then
    some true
   else
    some false
  else
   some false
 else
  some false
theorem laws_eqSlot_ok (a : Slot) (b : Slot) : Pn (fun y => Fn Try.prog 216 [(false, E164 a), (false, E164 b)] (E4 y) []) (laws_eqSlot a b) := by
  unfold laws_eqSlot
  exact
   Pn.ite (fun h1 =>
    Pn.ite (fun h2 =>
     Pn.bind (fun r1 h3 =>
      Pn.ite (fun h4 =>
       Pn.some (Fn.of [.bit false, .bit false, .call [] (E4 r1) [], .bit false] (p := [(!(a.Trace == b.Trace)) = false,
        (!(a.Mti == b.Mti)) = false,
        Fn Try.prog 166 [(false, E22 a.Reply), (false, E22 b.Reply)] (E4 r1) [],
        (true || ((E4 r1).nv && nvL [])) = true,
        (!r1) = false]) (by kernel_rfl) (cj (nf h1) (cj (nf h2) (cj (laws_eqByteS_ok a.Reply b.Reply r1 h3) (cj rfl (cj1 (nf h4)))))))) (fun h4 =>
       Pn.some (Fn.of [.bit false, .bit false, .call [] (E4 r1) [], .bit true] (p := [(!(a.Trace == b.Trace)) = false,
        (!(a.Mti == b.Mti)) = false,
        Fn Try.prog 166 [(false, E22 a.Reply), (false, E22 b.Reply)] (E4 r1) [],
        (true || ((E4 r1).nv && nvL [])) = true,
        (!r1) = true]) (by kernel_rfl) (cj (nf h1) (cj (nf h2) (cj (laws_eqByteS_ok a.Reply b.Reply r1 h3) (cj rfl (cj1 (nt h4)))))))))) (fun h2 =>
     Pn.some (Fn.of [.bit false, .bit true] (p := [(!(a.Trace == b.Trace)) = false,
      (!(a.Mti == b.Mti)) = true]) (by kernel_rfl) (cj (nf h1) (cj1 (nt h2)))))) (fun h1 =>
    Pn.some (Fn.of [.bit true] (p := [(!(a.Trace == b.Trace)) = true]) (by kernel_rfl) (cj1 (nt h1))))
def laws_eqSlotS_l0 (a : List Slot) (b : List Slot) : List Slot → List Slot → Option (Lo Unit Unit)
  | [], p1 =>
   some (.out ())
  | x1 :: t1, p1 =>
   (b[(p1.length : Int).toNat]?).bind fun x2 =>
   (laws_eqSlot x1 x2).bind fun r1 =>
   if r1 = true then
    laws_eqSlotS_l0 a b t1 (p1 ++ [x1])
   else
    some (.ret ())
theorem laws_eqSlotS_l0_ok (a : List Slot) (b : List Slot) (h3 : capOk a.length = true) : ∀ (t1 p1 : List Slot) (_ : a = p1 ++ t1) , Pn (LpO Try.prog (sub (codeOf Try.prog 197) [1, 1, 0, 1, 0, 0]) (st 27 [(0, V.sl false 164 (List.map E164 a)), (1, V.sl false 164 (List.map E164 b)), (5, V.sc (.int .i64 (p1.length : Int)))] [] []) (fun (y : Lo Unit Unit) => Lo.elim y (fun s => (X.out 0, st 27 [] [] [])) (fun s => (X.ret, st 27 [(4, V.sc (.bool false))] [] [])))) (laws_eqSlotS_l0 a b t1 p1)
  | [], p1, h2 => by
    unfold laws_eqSlotS_l0
    exact
     Pn.some (LpO.out [.wait 3, .nm 13 (V.sc (.int .i64 (a.length : Int))), .bit false, .mask [], .ren []] (p := [V.sc (.int .i64 ((List.map E164 a).length : Int)) = V.sc (.int .i64 (a.length : Int)),
      (decide ((p1.length : Int) < (a.length : Int))) = false]) (by kernel_rfl) (show X.out 0 ≠ X.go from nofun) (cj (len_nm _ _) (cj1 (rng_end h2))))
  | x1 :: t1, p1, h2 => by
    unfold laws_eqSlotS_l0
    exact
     Pn.bind (fun x2 h4 =>
      Pn.bind (fun r1 h5 =>
       Pn.ite (fun h6 =>
        LpO.go [.wait 3, .nm 13 (V.sc (.int .i64 (a.length : Int))), .bit true, .draw [], .el (E164 x1), .el (E164 x2), .call [] (E4 r1) [], .bit false, .wait 3, .mask [0, 1, 5], .ren [], .nm 5 (V.sc (.int .i64 ((p1 ++ [x1]).length : Int)))] (p := [V.sc (.int .i64 ((List.map E164 a).length : Int)) = V.sc (.int .i64 (a.length : Int)),
         (decide ((p1.length : Int) < (a.length : Int))) = true,
         (0 : Int) ≤ (p1.length : Int),
         (List.map E164 a)[(p1.length : Int).toNat]? = some (E164 x1),
         (0 : Int) ≤ (p1.length : Int),
         (List.map E164 b)[(p1.length : Int).toNat]? = some (E164 x2),
         Fn Try.prog 216 [(false, E164 x1), (false, E164 x2)] (E4 r1) [],
         (true || ((E4 r1).nv && nvL [])) = true,
         (!r1) = false,
         V.sc (.int .i64 (i64 ((p1.length : Int) + 1))) = V.sc (.int .i64 ((p1 ++ [x1]).length : Int))]) (by kernel_rfl) (cj (len_nm _ _) (cj (rng_lt h2) (cj (by omega) (cj (rng_get _ h2) (cj (by omega) (cj (map_get h4) (cj (laws_eqSlot_ok x1 x2 r1 h5) (cj rfl (cj (nf h6) (cj1 (rng_next h2 h3))))))))))) (laws_eqSlotS_l0_ok a b h3 t1 (p1 ++ [x1]) (rng_step h2))) (fun h6 =>
        Pn.some (LpO.out [.wait 3, .nm 13 (V.sc (.int .i64 (a.length : Int))), .bit true, .draw [], .el (E164 x1), .el (E164 x2), .call [] (E4 r1) [], .bit true, .wait 1, .mask [4], .ren []] (p := [V.sc (.int .i64 ((List.map E164 a).length : Int)) = V.sc (.int .i64 (a.length : Int)),
         (decide ((p1.length : Int) < (a.length : Int))) = true,
         (0 : Int) ≤ (p1.length : Int),
         (List.map E164 a)[(p1.length : Int).toNat]? = some (E164 x1),
         (0 : Int) ≤ (p1.length : Int),
         (List.map E164 b)[(p1.length : Int).toNat]? = some (E164 x2),
         Fn Try.prog 216 [(false, E164 x1), (false, E164 x2)] (E4 r1) [],
         (true || ((E4 r1).nv && nvL [])) = true,
         (!r1) = true]) (by kernel_rfl) (show X.ret ≠ X.go from nofun) (cj (len_nm _ _) (cj (rng_lt h2) (cj (by omega) (cj (rng_get _ h2) (cj (by omega) (cj (map_get h4) (cj (laws_eqSlot_ok x1 x2 r1 h5) (cj rfl (cj1 (nt h6))))))))))))))
def laws_eqSlotS (a : List Slot) (b : List Slot) : Option (Bool) :=
 if ((a.length : Int) != (b.length : Int)) = true then
  some false
 else
  if (capOk a.length) = true then
   (laws_eqSlotS_l0 a b a []).bind fun r2 =>
   Lo.elim r2 (fun s1 =>
    some true) (fun s2 =>
    some false)
  else none
theorem laws_eqSlotS_ok (a : List Slot) (b : List Slot) : Pn (fun y => Fn Try.prog 197 [(false, E27 a), (false, E27 b)] (E4 y) []) (laws_eqSlotS a b) := by
  unfold laws_eqSlotS
  exact
   Pn.ite (fun h1 =>
    Pn.some (Fn.of [.wait 3, .nm 7 (V.sc (.int .i64 (a.length : Int))), .wait 2, .nm 9 (V.sc (.int .i64 (b.length : Int))), .bit true] (p := [V.sc (.int .i64 ((List.map E164 a).length : Int)) = V.sc (.int .i64 (a.length : Int)),
     V.sc (.int .i64 ((List.map E164 b).length : Int)) = V.sc (.int .i64 (b.length : Int)),
     ((a.length : Int) != (b.length : Int)) = true]) (by kernel_rfl) (cj (len_nm _ _) (cj (len_nm _ _) (cj1 h1))))) (fun h1 =>
    Pn.ite (fun h7 =>
     Pn.bind (fun r2 h8 =>
      Pn.lo (fun s1 h9 =>
       Pn.some (Fn.of [.wait 3, .nm 7 (V.sc (.int .i64 (a.length : Int))), .wait 2, .nm 9 (V.sc (.int .i64 (b.length : Int))), .bit false, .wait 1, .mask [0, 1, 5], .ren [], .loop (X.out 0) (st 27 [] [] [])] (p := [V.sc (.int .i64 ((List.map E164 a).length : Int)) = V.sc (.int .i64 (a.length : Int)),
        V.sc (.int .i64 ((List.map E164 b).length : Int)) = V.sc (.int .i64 (b.length : Int)),
        ((a.length : Int) != (b.length : Int)) = false,
        Loop Try.prog (sub (codeOf Try.prog 197) [1, 1, 0, 1, 0, 0]) (st 27 [(0, V.sl false 164 (List.map E164 a)), (1, V.sl false 164 (List.map E164 b)), (5, V.sc (.int .i64 0))] [] []) (X.out 0) (st 27 [] [] [])]) (by kernel_rfl) (cj (len_nm _ _) (cj (len_nm _ _) (cj h1 (cj1 ((laws_eqSlotS_l0_ok a b h7 a [] rfl r2 h8).at h9))))))) (fun s2 h10 =>
       Pn.some (Fn.of [.wait 3, .nm 7 (V.sc (.int .i64 (a.length : Int))), .wait 2, .nm 9 (V.sc (.int .i64 (b.length : Int))), .bit false, .wait 1, .mask [0, 1, 5], .ren [], .loop (X.ret) (st 27 [(4, V.sc (.bool false))] [] [])] (p := [V.sc (.int .i64 ((List.map E164 a).length : Int)) = V.sc (.int .i64 (a.length : Int)),
        V.sc (.int .i64 ((List.map E164 b).length : Int)) = V.sc (.int .i64 (b.length : Int)),
        ((a.length : Int) != (b.length : Int)) = false,
        Loop Try.prog (sub (codeOf Try.prog 197) [1, 1, 0, 1, 0, 0]) (st 27 [(0, V.sl false 164 (List.map E164 a)), (1, V.sl false 164 (List.map E164 b)), (5, V.sc (.int .i64 0))] [] []) (X.ret) (st 27 [(4, V.sc (.bool false))] [] [])]) (by kernel_rfl) (cj (len_nm _ _) (cj (len_nm _ _) (cj h1 (cj1 ((laws_eqSlotS_l0_ok a b h7 a [] rfl r2 h8).at h10))))))))) (fun h7 =>
     Pn.none))
def laws_eqAcct (a : Acct) (b : Acct) : Option (Bool) :=
 if (a.Id == b.Id) = true then
  if (a.Limit != b.Limit) = true then
   some false
  else
   if (a.Posted != b.Posted) = true then
    some false
   else
    if (a.Most != b.Most) = true then
     some false
    else
     if (a.MostSum != b.MostSum) = true then
      some false
     else
      (laws_eqHoldS a.Holds b.Holds).bind fun r1 =>
      if r1 = true then
       (laws_eqRing a.Ring b.Ring).bind fun r2 =>
       if r2 = true then
        (laws_eqSlotS a.Slots b.Slots).bind fun r3 =>
        if r3 = true then
         some true
        else
         some false
       else
        some false
      else
       some false
 else
  some false
theorem laws_eqAcct_ok (a : Acct) (b : Acct) : Pn (fun y => Fn Try.prog 152 [(false, E29 a), (false, E29 b)] (E4 y) []) (laws_eqAcct a b) := by
  unfold laws_eqAcct
  exact
   Pn.ite (fun h1 =>
    Pn.ite (fun h2 =>
     Pn.some (Fn.of [.bit false, .bit true] (p := [(!(a.Id == b.Id)) = false,
      (a.Limit != b.Limit) = true]) (by kernel_rfl) (cj (nf h1) (cj1 h2)))) (fun h2 =>
     Pn.ite (fun h3 =>
      Pn.some (Fn.of [.bit false, .bit false, .bit true] (p := [(!(a.Id == b.Id)) = false,
       (a.Limit != b.Limit) = false,
       (a.Posted != b.Posted) = true]) (by kernel_rfl) (cj (nf h1) (cj h2 (cj1 h3))))) (fun h3 =>
      Pn.ite (fun h4 =>
       Pn.some (Fn.of [.bit false, .bit false, .bit false, .bit true] (p := [(!(a.Id == b.Id)) = false,
        (a.Limit != b.Limit) = false,
        (a.Posted != b.Posted) = false,
        (a.Most != b.Most) = true]) (by kernel_rfl) (cj (nf h1) (cj h2 (cj h3 (cj1 h4)))))) (fun h4 =>
       Pn.ite (fun h5 =>
        Pn.some (Fn.of [.bit false, .bit false, .bit false, .bit false, .bit true] (p := [(!(a.Id == b.Id)) = false,
         (a.Limit != b.Limit) = false,
         (a.Posted != b.Posted) = false,
         (a.Most != b.Most) = false,
         (a.MostSum != b.MostSum) = true]) (by kernel_rfl) (cj (nf h1) (cj h2 (cj h3 (cj h4 (cj1 h5))))))) (fun h5 =>
        Pn.bind (fun r1 h6 =>
         Pn.ite (fun h7 =>
          Pn.bind (fun r2 h8 =>
           Pn.ite (fun h9 =>
            Pn.bind (fun r3 h10 =>
             Pn.ite (fun h11 =>
              Pn.some (Fn.of [.bit false, .bit false, .bit false, .bit false, .bit false, .call [] (E4 r1) [], .bit false, .call [] (E4 r2) [], .bit false, .call [] (E4 r3) [], .bit false] (p := [(!(a.Id == b.Id)) = false,
               (a.Limit != b.Limit) = false,
               (a.Posted != b.Posted) = false,
               (a.Most != b.Most) = false,
               (a.MostSum != b.MostSum) = false,
               Fn Try.prog 195 [(false, E23 a.Holds), (false, E23 b.Holds)] (E4 r1) [],
               (true || ((E4 r1).nv && nvL [])) = true,
               (!r1) = false,
               Fn Try.prog 196 [(false, E26 a.Ring), (false, E26 b.Ring)] (E4 r2) [],
               (true || ((E4 r2).nv && nvL [])) = true,
               (!r2) = false,
               Fn Try.prog 197 [(false, E27 a.Slots), (false, E27 b.Slots)] (E4 r3) [],
               (true || ((E4 r3).nv && nvL [])) = true,
               (!r3) = false]) (by kernel_rfl) (cj (nf h1) (cj h2 (cj h3 (cj h4 (cj h5 (cj (laws_eqHoldS_ok a.Holds b.Holds r1 h6) (cj rfl (cj (nf h7) (cj (laws_eqRing_ok a.Ring b.Ring r2 h8) (cj rfl (cj (nf h9) (cj (laws_eqSlotS_ok a.Slots b.Slots r3 h10) (cj rfl (cj1 (nf h11))))))))))))))))) (fun h11 =>
              Pn.some (Fn.of [.bit false, .bit false, .bit false, .bit false, .bit false, .call [] (E4 r1) [], .bit false, .call [] (E4 r2) [], .bit false, .call [] (E4 r3) [], .bit true] (p := [(!(a.Id == b.Id)) = false,
               (a.Limit != b.Limit) = false,
               (a.Posted != b.Posted) = false,
               (a.Most != b.Most) = false,
               (a.MostSum != b.MostSum) = false,
               Fn Try.prog 195 [(false, E23 a.Holds), (false, E23 b.Holds)] (E4 r1) [],
               (true || ((E4 r1).nv && nvL [])) = true,
               (!r1) = false,
               Fn Try.prog 196 [(false, E26 a.Ring), (false, E26 b.Ring)] (E4 r2) [],
               (true || ((E4 r2).nv && nvL [])) = true,
               (!r2) = false,
               Fn Try.prog 197 [(false, E27 a.Slots), (false, E27 b.Slots)] (E4 r3) [],
               (true || ((E4 r3).nv && nvL [])) = true,
               (!r3) = true]) (by kernel_rfl) (cj (nf h1) (cj h2 (cj h3 (cj h4 (cj h5 (cj (laws_eqHoldS_ok a.Holds b.Holds r1 h6) (cj rfl (cj (nf h7) (cj (laws_eqRing_ok a.Ring b.Ring r2 h8) (cj rfl (cj (nf h9) (cj (laws_eqSlotS_ok a.Slots b.Slots r3 h10) (cj rfl (cj1 (nt h11))))))))))))))))))) (fun h9 =>
            Pn.some (Fn.of [.bit false, .bit false, .bit false, .bit false, .bit false, .call [] (E4 r1) [], .bit false, .call [] (E4 r2) [], .bit true] (p := [(!(a.Id == b.Id)) = false,
             (a.Limit != b.Limit) = false,
             (a.Posted != b.Posted) = false,
             (a.Most != b.Most) = false,
             (a.MostSum != b.MostSum) = false,
             Fn Try.prog 195 [(false, E23 a.Holds), (false, E23 b.Holds)] (E4 r1) [],
             (true || ((E4 r1).nv && nvL [])) = true,
             (!r1) = false,
             Fn Try.prog 196 [(false, E26 a.Ring), (false, E26 b.Ring)] (E4 r2) [],
             (true || ((E4 r2).nv && nvL [])) = true,
             (!r2) = true]) (by kernel_rfl) (cj (nf h1) (cj h2 (cj h3 (cj h4 (cj h5 (cj (laws_eqHoldS_ok a.Holds b.Holds r1 h6) (cj rfl (cj (nf h7) (cj (laws_eqRing_ok a.Ring b.Ring r2 h8) (cj rfl (cj1 (nt h9)))))))))))))))) (fun h7 =>
          Pn.some (Fn.of [.bit false, .bit false, .bit false, .bit false, .bit false, .call [] (E4 r1) [], .bit true] (p := [(!(a.Id == b.Id)) = false,
           (a.Limit != b.Limit) = false,
           (a.Posted != b.Posted) = false,
           (a.Most != b.Most) = false,
           (a.MostSum != b.MostSum) = false,
           Fn Try.prog 195 [(false, E23 a.Holds), (false, E23 b.Holds)] (E4 r1) [],
           (true || ((E4 r1).nv && nvL [])) = true,
           (!r1) = true]) (by kernel_rfl) (cj (nf h1) (cj h2 (cj h3 (cj h4 (cj h5 (cj (laws_eqHoldS_ok a.Holds b.Holds r1 h6) (cj rfl (cj1 (nt h7))))))))))))))))) (fun h1 =>
    Pn.some (Fn.of [.bit true] (p := [(!(a.Id == b.Id)) = true]) (by kernel_rfl) (cj1 (nt h1))))
def laws_eqAcctS_l0 (a : List Acct) (b : List Acct) : List Acct → List Acct → Option (Lo Unit Unit)
  | [], p1 =>
   some (.out ())
  | x1 :: t1, p1 =>
   (b[(p1.length : Int).toNat]?).bind fun x2 =>
   (laws_eqAcct x1 x2).bind fun r1 =>
   if r1 = true then
    laws_eqAcctS_l0 a b t1 (p1 ++ [x1])
   else
    some (.ret ())
theorem laws_eqAcctS_l0_ok (a : List Acct) (b : List Acct) (h3 : capOk a.length = true) : ∀ (t1 p1 : List Acct) (_ : a = p1 ++ t1) , Pn (LpO Try.prog (sub (codeOf Try.prog 93) [1, 1, 0, 1, 0, 0]) (st 27 [(0, V.sl false 29 (List.map E29 a)), (1, V.sl false 29 (List.map E29 b)), (5, V.sc (.int .i64 (p1.length : Int)))] [] []) (fun (y : Lo Unit Unit) => Lo.elim y (fun s => (X.out 0, st 27 [] [] [])) (fun s => (X.ret, st 27 [(4, V.sc (.bool false))] [] [])))) (laws_eqAcctS_l0 a b t1 p1)
  | [], p1, h2 => by
    unfold laws_eqAcctS_l0
    exact
     Pn.some (LpO.out [.wait 3, .nm 13 (V.sc (.int .i64 (a.length : Int))), .bit false, .mask [], .ren []] (p := [V.sc (.int .i64 ((List.map E29 a).length : Int)) = V.sc (.int .i64 (a.length : Int)),
      (decide ((p1.length : Int) < (a.length : Int))) = false]) (by kernel_rfl) (show X.out 0 ≠ X.go from nofun) (cj (len_nm _ _) (cj1 (rng_end h2))))
  | x1 :: t1, p1, h2 => by
    unfold laws_eqAcctS_l0
    exact
     Pn.bind (fun x2 h4 =>
      Pn.bind (fun r1 h5 =>
       Pn.ite (fun h6 =>
        LpO.go [.wait 3, .nm 13 (V.sc (.int .i64 (a.length : Int))), .bit true, .draw [], .el (E29 x1), .el (E29 x2), .call [] (E4 r1) [], .bit false, .wait 3, .mask [0, 1, 5], .ren [], .nm 5 (V.sc (.int .i64 ((p1 ++ [x1]).length : Int)))] (p := [V.sc (.int .i64 ((List.map E29 a).length : Int)) = V.sc (.int .i64 (a.length : Int)),
         (decide ((p1.length : Int) < (a.length : Int))) = true,
         (0 : Int) ≤ (p1.length : Int),
         (List.map E29 a)[(p1.length : Int).toNat]? = some (E29 x1),
         (0 : Int) ≤ (p1.length : Int),
         (List.map E29 b)[(p1.length : Int).toNat]? = some (E29 x2),
         Fn Try.prog 152 [(false, E29 x1), (false, E29 x2)] (E4 r1) [],
         (true || ((E4 r1).nv && nvL [])) = true,
         (!r1) = false,
         V.sc (.int .i64 (i64 ((p1.length : Int) + 1))) = V.sc (.int .i64 ((p1 ++ [x1]).length : Int))]) (by kernel_rfl) (cj (len_nm _ _) (cj (rng_lt h2) (cj (by omega) (cj (rng_get _ h2) (cj (by omega) (cj (map_get h4) (cj (laws_eqAcct_ok x1 x2 r1 h5) (cj rfl (cj (nf h6) (cj1 (rng_next h2 h3))))))))))) (laws_eqAcctS_l0_ok a b h3 t1 (p1 ++ [x1]) (rng_step h2))) (fun h6 =>
        Pn.some (LpO.out [.wait 3, .nm 13 (V.sc (.int .i64 (a.length : Int))), .bit true, .draw [], .el (E29 x1), .el (E29 x2), .call [] (E4 r1) [], .bit true, .wait 1, .mask [4], .ren []] (p := [V.sc (.int .i64 ((List.map E29 a).length : Int)) = V.sc (.int .i64 (a.length : Int)),
         (decide ((p1.length : Int) < (a.length : Int))) = true,
         (0 : Int) ≤ (p1.length : Int),
         (List.map E29 a)[(p1.length : Int).toNat]? = some (E29 x1),
         (0 : Int) ≤ (p1.length : Int),
         (List.map E29 b)[(p1.length : Int).toNat]? = some (E29 x2),
         Fn Try.prog 152 [(false, E29 x1), (false, E29 x2)] (E4 r1) [],
         (true || ((E4 r1).nv && nvL [])) = true,
         (!r1) = true]) (by kernel_rfl) (show X.ret ≠ X.go from nofun) (cj (len_nm _ _) (cj (rng_lt h2) (cj (by omega) (cj (rng_get _ h2) (cj (by omega) (cj (map_get h4) (cj (laws_eqAcct_ok x1 x2 r1 h5) (cj rfl (cj1 (nt h6))))))))))))))
def laws_eqAcctS (a : List Acct) (b : List Acct) : Option (Bool) :=
 if ((a.length : Int) != (b.length : Int)) = true then
  some false
 else
  if (capOk a.length) = true then
   (laws_eqAcctS_l0 a b a []).bind fun r2 =>
   Lo.elim r2 (fun s1 =>
    some true) (fun s2 =>
    some false)
  else none
theorem laws_eqAcctS_ok (a : List Acct) (b : List Acct) : Pn (fun y => Fn Try.prog 93 [(false, E48 a), (false, E48 b)] (E4 y) []) (laws_eqAcctS a b) := by
  unfold laws_eqAcctS
  exact
   Pn.ite (fun h1 =>
    Pn.some (Fn.of [.wait 3, .nm 7 (V.sc (.int .i64 (a.length : Int))), .wait 2, .nm 9 (V.sc (.int .i64 (b.length : Int))), .bit true] (p := [V.sc (.int .i64 ((List.map E29 a).length : Int)) = V.sc (.int .i64 (a.length : Int)),
     V.sc (.int .i64 ((List.map E29 b).length : Int)) = V.sc (.int .i64 (b.length : Int)),
     ((a.length : Int) != (b.length : Int)) = true]) (by kernel_rfl) (cj (len_nm _ _) (cj (len_nm _ _) (cj1 h1))))) (fun h1 =>
    Pn.ite (fun h7 =>
     Pn.bind (fun r2 h8 =>
      Pn.lo (fun s1 h9 =>
       Pn.some (Fn.of [.wait 3, .nm 7 (V.sc (.int .i64 (a.length : Int))), .wait 2, .nm 9 (V.sc (.int .i64 (b.length : Int))), .bit false, .wait 1, .mask [0, 1, 5], .ren [], .loop (X.out 0) (st 27 [] [] [])] (p := [V.sc (.int .i64 ((List.map E29 a).length : Int)) = V.sc (.int .i64 (a.length : Int)),
        V.sc (.int .i64 ((List.map E29 b).length : Int)) = V.sc (.int .i64 (b.length : Int)),
        ((a.length : Int) != (b.length : Int)) = false,
        Loop Try.prog (sub (codeOf Try.prog 93) [1, 1, 0, 1, 0, 0]) (st 27 [(0, V.sl false 29 (List.map E29 a)), (1, V.sl false 29 (List.map E29 b)), (5, V.sc (.int .i64 0))] [] []) (X.out 0) (st 27 [] [] [])]) (by kernel_rfl) (cj (len_nm _ _) (cj (len_nm _ _) (cj h1 (cj1 ((laws_eqAcctS_l0_ok a b h7 a [] rfl r2 h8).at h9))))))) (fun s2 h10 =>
       Pn.some (Fn.of [.wait 3, .nm 7 (V.sc (.int .i64 (a.length : Int))), .wait 2, .nm 9 (V.sc (.int .i64 (b.length : Int))), .bit false, .wait 1, .mask [0, 1, 5], .ren [], .loop (X.ret) (st 27 [(4, V.sc (.bool false))] [] [])] (p := [V.sc (.int .i64 ((List.map E29 a).length : Int)) = V.sc (.int .i64 (a.length : Int)),
        V.sc (.int .i64 ((List.map E29 b).length : Int)) = V.sc (.int .i64 (b.length : Int)),
        ((a.length : Int) != (b.length : Int)) = false,
        Loop Try.prog (sub (codeOf Try.prog 93) [1, 1, 0, 1, 0, 0]) (st 27 [(0, V.sl false 29 (List.map E29 a)), (1, V.sl false 29 (List.map E29 b)), (5, V.sc (.int .i64 0))] [] []) (X.ret) (st 27 [(4, V.sc (.bool false))] [] [])]) (by kernel_rfl) (cj (len_nm _ _) (cj (len_nm _ _) (cj h1 (cj1 ((laws_eqAcctS_l0_ok a b h7 a [] rfl r2 h8).at h10))))))))) (fun h7 =>
     Pn.none))
def laws_eqStripe (a : Stripe) (b : Stripe) : Option (Bool) :=
 if (a.Owner != b.Owner) = true then
  some false
 else
  (laws_eqAcctS a.Accts b.Accts).bind fun r1 =>
  if r1 = true then
   some true
  else
   some false
theorem laws_eqStripe_ok (a : Stripe) (b : Stripe) : Pn (fun y => Fn Try.prog 94 [(false, E58 a), (false, E58 b)] (E4 y) []) (laws_eqStripe a b) := by
  unfold laws_eqStripe
  exact
   Pn.ite (fun h1 =>
    Pn.some (Fn.of [.bit true] (p := [(a.Owner != b.Owner) = true]) (by kernel_rfl) (cj1 h1))) (fun h1 =>
    Pn.bind (fun r1 h2 =>
     Pn.ite (fun h3 =>
      Pn.some (Fn.of [.bit false, .call [] (E4 r1) [], .bit false] (p := [(a.Owner != b.Owner) = false,
       Fn Try.prog 93 [(false, E48 a.Accts), (false, E48 b.Accts)] (E4 r1) [],
       (true || ((E4 r1).nv && nvL [])) = true,
       (!r1) = false]) (by kernel_rfl) (cj h1 (cj (laws_eqAcctS_ok a.Accts b.Accts r1 h2) (cj rfl (cj1 (nf h3))))))) (fun h3 =>
      Pn.some (Fn.of [.bit false, .call [] (E4 r1) [], .bit true] (p := [(a.Owner != b.Owner) = false,
       Fn Try.prog 93 [(false, E48 a.Accts), (false, E48 b.Accts)] (E4 r1) [],
       (true || ((E4 r1).nv && nvL [])) = true,
       (!r1) = true]) (by kernel_rfl) (cj h1 (cj (laws_eqAcctS_ok a.Accts b.Accts r1 h2) (cj rfl (cj1 (nt h3)))))))))
def laws_eqStripeS_l0 (a : List Stripe) (b : List Stripe) : List Stripe → List Stripe → Option (Lo Unit Unit)
  | [], p1 =>
   some (.out ())
  | x1 :: t1, p1 =>
   (b[(p1.length : Int).toNat]?).bind fun x2 =>
   (laws_eqStripe x1 x2).bind fun r1 =>
   if r1 = true then
    laws_eqStripeS_l0 a b t1 (p1 ++ [x1])
   else
    some (.ret ())
theorem laws_eqStripeS_l0_ok (a : List Stripe) (b : List Stripe) (h3 : capOk a.length = true) : ∀ (t1 p1 : List Stripe) (_ : a = p1 ++ t1) , Pn (LpO Try.prog (sub (codeOf Try.prog 34) [1, 1, 0, 1, 0, 0]) (st 27 [(0, V.sl false 58 (List.map E58 a)), (1, V.sl false 58 (List.map E58 b)), (5, V.sc (.int .i64 (p1.length : Int)))] [] []) (fun (y : Lo Unit Unit) => Lo.elim y (fun s => (X.out 0, st 27 [] [] [])) (fun s => (X.ret, st 27 [(4, V.sc (.bool false))] [] [])))) (laws_eqStripeS_l0 a b t1 p1)
  | [], p1, h2 => by
    unfold laws_eqStripeS_l0
    exact
     Pn.some (LpO.out [.wait 3, .nm 13 (V.sc (.int .i64 (a.length : Int))), .bit false, .mask [], .ren []] (p := [V.sc (.int .i64 ((List.map E58 a).length : Int)) = V.sc (.int .i64 (a.length : Int)),
      (decide ((p1.length : Int) < (a.length : Int))) = false]) (by kernel_rfl) (show X.out 0 ≠ X.go from nofun) (cj (len_nm _ _) (cj1 (rng_end h2))))
  | x1 :: t1, p1, h2 => by
    unfold laws_eqStripeS_l0
    exact
     Pn.bind (fun x2 h4 =>
      Pn.bind (fun r1 h5 =>
       Pn.ite (fun h6 =>
        LpO.go [.wait 3, .nm 13 (V.sc (.int .i64 (a.length : Int))), .bit true, .draw [], .el (E58 x1), .el (E58 x2), .call [] (E4 r1) [], .bit false, .wait 3, .mask [0, 1, 5], .ren [], .nm 5 (V.sc (.int .i64 ((p1 ++ [x1]).length : Int)))] (p := [V.sc (.int .i64 ((List.map E58 a).length : Int)) = V.sc (.int .i64 (a.length : Int)),
         (decide ((p1.length : Int) < (a.length : Int))) = true,
         (0 : Int) ≤ (p1.length : Int),
         (List.map E58 a)[(p1.length : Int).toNat]? = some (E58 x1),
         (0 : Int) ≤ (p1.length : Int),
         (List.map E58 b)[(p1.length : Int).toNat]? = some (E58 x2),
         Fn Try.prog 94 [(false, E58 x1), (false, E58 x2)] (E4 r1) [],
         (true || ((E4 r1).nv && nvL [])) = true,
         (!r1) = false,
         V.sc (.int .i64 (i64 ((p1.length : Int) + 1))) = V.sc (.int .i64 ((p1 ++ [x1]).length : Int))]) (by kernel_rfl) (cj (len_nm _ _) (cj (rng_lt h2) (cj (by omega) (cj (rng_get _ h2) (cj (by omega) (cj (map_get h4) (cj (laws_eqStripe_ok x1 x2 r1 h5) (cj rfl (cj (nf h6) (cj1 (rng_next h2 h3))))))))))) (laws_eqStripeS_l0_ok a b h3 t1 (p1 ++ [x1]) (rng_step h2))) (fun h6 =>
        Pn.some (LpO.out [.wait 3, .nm 13 (V.sc (.int .i64 (a.length : Int))), .bit true, .draw [], .el (E58 x1), .el (E58 x2), .call [] (E4 r1) [], .bit true, .wait 1, .mask [4], .ren []] (p := [V.sc (.int .i64 ((List.map E58 a).length : Int)) = V.sc (.int .i64 (a.length : Int)),
         (decide ((p1.length : Int) < (a.length : Int))) = true,
         (0 : Int) ≤ (p1.length : Int),
         (List.map E58 a)[(p1.length : Int).toNat]? = some (E58 x1),
         (0 : Int) ≤ (p1.length : Int),
         (List.map E58 b)[(p1.length : Int).toNat]? = some (E58 x2),
         Fn Try.prog 94 [(false, E58 x1), (false, E58 x2)] (E4 r1) [],
         (true || ((E4 r1).nv && nvL [])) = true,
         (!r1) = true]) (by kernel_rfl) (show X.ret ≠ X.go from nofun) (cj (len_nm _ _) (cj (rng_lt h2) (cj (by omega) (cj (rng_get _ h2) (cj (by omega) (cj (map_get h4) (cj (laws_eqStripe_ok x1 x2 r1 h5) (cj rfl (cj1 (nt h6))))))))))))))
def laws_eqStripeS (a : List Stripe) (b : List Stripe) : Option (Bool) :=
 if ((a.length : Int) != (b.length : Int)) = true then
  some false
 else
  if (capOk a.length) = true then
   (laws_eqStripeS_l0 a b a []).bind fun r2 =>
   Lo.elim r2 (fun s1 =>
    some true) (fun s2 =>
    some false)
  else none
theorem laws_eqStripeS_ok (a : List Stripe) (b : List Stripe) : Pn (fun y => Fn Try.prog 34 [(false, E53 a), (false, E53 b)] (E4 y) []) (laws_eqStripeS a b) := by
  unfold laws_eqStripeS
  exact
   Pn.ite (fun h1 =>
    Pn.some (Fn.of [.wait 3, .nm 7 (V.sc (.int .i64 (a.length : Int))), .wait 2, .nm 9 (V.sc (.int .i64 (b.length : Int))), .bit true] (p := [V.sc (.int .i64 ((List.map E58 a).length : Int)) = V.sc (.int .i64 (a.length : Int)),
     V.sc (.int .i64 ((List.map E58 b).length : Int)) = V.sc (.int .i64 (b.length : Int)),
     ((a.length : Int) != (b.length : Int)) = true]) (by kernel_rfl) (cj (len_nm _ _) (cj (len_nm _ _) (cj1 h1))))) (fun h1 =>
    Pn.ite (fun h7 =>
     Pn.bind (fun r2 h8 =>
      Pn.lo (fun s1 h9 =>
       Pn.some (Fn.of [.wait 3, .nm 7 (V.sc (.int .i64 (a.length : Int))), .wait 2, .nm 9 (V.sc (.int .i64 (b.length : Int))), .bit false, .wait 1, .mask [0, 1, 5], .ren [], .loop (X.out 0) (st 27 [] [] [])] (p := [V.sc (.int .i64 ((List.map E58 a).length : Int)) = V.sc (.int .i64 (a.length : Int)),
        V.sc (.int .i64 ((List.map E58 b).length : Int)) = V.sc (.int .i64 (b.length : Int)),
        ((a.length : Int) != (b.length : Int)) = false,
        Loop Try.prog (sub (codeOf Try.prog 34) [1, 1, 0, 1, 0, 0]) (st 27 [(0, V.sl false 58 (List.map E58 a)), (1, V.sl false 58 (List.map E58 b)), (5, V.sc (.int .i64 0))] [] []) (X.out 0) (st 27 [] [] [])]) (by kernel_rfl) (cj (len_nm _ _) (cj (len_nm _ _) (cj h1 (cj1 ((laws_eqStripeS_l0_ok a b h7 a [] rfl r2 h8).at h9))))))) (fun s2 h10 =>
       Pn.some (Fn.of [.wait 3, .nm 7 (V.sc (.int .i64 (a.length : Int))), .wait 2, .nm 9 (V.sc (.int .i64 (b.length : Int))), .bit false, .wait 1, .mask [0, 1, 5], .ren [], .loop (X.ret) (st 27 [(4, V.sc (.bool false))] [] [])] (p := [V.sc (.int .i64 ((List.map E58 a).length : Int)) = V.sc (.int .i64 (a.length : Int)),
        V.sc (.int .i64 ((List.map E58 b).length : Int)) = V.sc (.int .i64 (b.length : Int)),
        ((a.length : Int) != (b.length : Int)) = false,
        Loop Try.prog (sub (codeOf Try.prog 34) [1, 1, 0, 1, 0, 0]) (st 27 [(0, V.sl false 58 (List.map E58 a)), (1, V.sl false 58 (List.map E58 b)), (5, V.sc (.int .i64 0))] [] []) (X.ret) (st 27 [(4, V.sc (.bool false))] [] [])]) (by kernel_rfl) (cj (len_nm _ _) (cj (len_nm _ _) (cj h1 (cj1 ((laws_eqStripeS_l0_ok a b h7 a [] rfl r2 h8).at h10))))))))) (fun h7 =>
     Pn.none))
def laws_eqTask (a : Task) (b : Task) : Option (Bool) :=
 (laws_eqByteS a.Data b.Data).bind fun r1 =>
 if r1 = true then
  if (a.Pc != b.Pc) = true then
   some false
  else
   (laws_eqIntS a.Set b.Set).bind fun r2 =>
   if r2 = true then
    if (a.Held != b.Held) = true then
     some false
    else
     if (a.Inv != b.Inv) = true then
      some false
     else
      if (a.Lin != b.Lin) = true then
       some false
      else
       if (a.Res != b.Res) = true then
        some false
       else
        if (a.At != b.At) = true then
         some false
        else
         (laws_eqByteS a.Reply b.Reply).bind fun r3 =>
         if r3 = true then
          some true
         else
          some false
   else
    some false
 else
  some false
theorem laws_eqTask_ok (a : Task) (b : Task) : Pn (fun y => Fn Try.prog 167 [(false, E137 a), (false, E137 b)] (E4 y) []) (laws_eqTask a b) := by
  unfold laws_eqTask
  exact
   Pn.bind (fun r1 h1 =>
    Pn.ite (fun h2 =>
     Pn.ite (fun h3 =>
      Pn.some (Fn.of [.call [] (E4 r1) [], .bit false, .bit true] (p := [Fn Try.prog 166 [(false, E22 a.Data), (false, E22 b.Data)] (E4 r1) [],
       (true || ((E4 r1).nv && nvL [])) = true,
       (!r1) = false,
       (a.Pc != b.Pc) = true]) (by kernel_rfl) (cj (laws_eqByteS_ok a.Data b.Data r1 h1) (cj rfl (cj (nf h2) (cj1 h3)))))) (fun h3 =>
      Pn.bind (fun r2 h4 =>
       Pn.ite (fun h5 =>
        Pn.ite (fun h6 =>
         Pn.some (Fn.of [.call [] (E4 r1) [], .bit false, .bit false, .call [] (E4 r2) [], .bit false, .bit true] (p := [Fn Try.prog 166 [(false, E22 a.Data), (false, E22 b.Data)] (E4 r1) [],
          (true || ((E4 r1).nv && nvL [])) = true,
          (!r1) = false,
          (a.Pc != b.Pc) = false,
          Fn Try.prog 41 [(false, E24 a.Set), (false, E24 b.Set)] (E4 r2) [],
          (true || ((E4 r2).nv && nvL [])) = true,
          (!r2) = false,
          (a.Held != b.Held) = true]) (by kernel_rfl) (cj (laws_eqByteS_ok a.Data b.Data r1 h1) (cj rfl (cj (nf h2) (cj h3 (cj (laws_eqIntS_ok a.Set b.Set r2 h4) (cj rfl (cj (nf h5) (cj1 h6)))))))))) (fun h6 =>
         Pn.ite (fun h7 =>
          Pn.some (Fn.of [.call [] (E4 r1) [], .bit false, .bit false, .call [] (E4 r2) [], .bit false, .bit false, .bit true] (p := [Fn Try.prog 166 [(false, E22 a.Data), (false, E22 b.Data)] (E4 r1) [],
           (true || ((E4 r1).nv && nvL [])) = true,
           (!r1) = false,
           (a.Pc != b.Pc) = false,
           Fn Try.prog 41 [(false, E24 a.Set), (false, E24 b.Set)] (E4 r2) [],
           (true || ((E4 r2).nv && nvL [])) = true,
           (!r2) = false,
           (a.Held != b.Held) = false,
           (a.Inv != b.Inv) = true]) (by kernel_rfl) (cj (laws_eqByteS_ok a.Data b.Data r1 h1) (cj rfl (cj (nf h2) (cj h3 (cj (laws_eqIntS_ok a.Set b.Set r2 h4) (cj rfl (cj (nf h5) (cj h6 (cj1 h7))))))))))) (fun h7 =>
          Pn.ite (fun h8 =>
           Pn.some (Fn.of [.call [] (E4 r1) [], .bit false, .bit false, .call [] (E4 r2) [], .bit false, .bit false, .bit false, .bit true] (p := [Fn Try.prog 166 [(false, E22 a.Data), (false, E22 b.Data)] (E4 r1) [],
            (true || ((E4 r1).nv && nvL [])) = true,
            (!r1) = false,
            (a.Pc != b.Pc) = false,
            Fn Try.prog 41 [(false, E24 a.Set), (false, E24 b.Set)] (E4 r2) [],
            (true || ((E4 r2).nv && nvL [])) = true,
            (!r2) = false,
            (a.Held != b.Held) = false,
            (a.Inv != b.Inv) = false,
            (a.Lin != b.Lin) = true]) (by kernel_rfl) (cj (laws_eqByteS_ok a.Data b.Data r1 h1) (cj rfl (cj (nf h2) (cj h3 (cj (laws_eqIntS_ok a.Set b.Set r2 h4) (cj rfl (cj (nf h5) (cj h6 (cj h7 (cj1 h8)))))))))))) (fun h8 =>
           Pn.ite (fun h9 =>
            Pn.some (Fn.of [.call [] (E4 r1) [], .bit false, .bit false, .call [] (E4 r2) [], .bit false, .bit false, .bit false, .bit false, .bit true] (p := [Fn Try.prog 166 [(false, E22 a.Data), (false, E22 b.Data)] (E4 r1) [],
             (true || ((E4 r1).nv && nvL [])) = true,
             (!r1) = false,
             (a.Pc != b.Pc) = false,
             Fn Try.prog 41 [(false, E24 a.Set), (false, E24 b.Set)] (E4 r2) [],
             (true || ((E4 r2).nv && nvL [])) = true,
             (!r2) = false,
             (a.Held != b.Held) = false,
             (a.Inv != b.Inv) = false,
             (a.Lin != b.Lin) = false,
             (a.Res != b.Res) = true]) (by kernel_rfl) (cj (laws_eqByteS_ok a.Data b.Data r1 h1) (cj rfl (cj (nf h2) (cj h3 (cj (laws_eqIntS_ok a.Set b.Set r2 h4) (cj rfl (cj (nf h5) (cj h6 (cj h7 (cj h8 (cj1 h9))))))))))))) (fun h9 =>
            Pn.ite (fun h10 =>
             Pn.some (Fn.of [.call [] (E4 r1) [], .bit false, .bit false, .call [] (E4 r2) [], .bit false, .bit false, .bit false, .bit false, .bit false, .bit true] (p := [Fn Try.prog 166 [(false, E22 a.Data), (false, E22 b.Data)] (E4 r1) [],
              (true || ((E4 r1).nv && nvL [])) = true,
              (!r1) = false,
              (a.Pc != b.Pc) = false,
              Fn Try.prog 41 [(false, E24 a.Set), (false, E24 b.Set)] (E4 r2) [],
              (true || ((E4 r2).nv && nvL [])) = true,
              (!r2) = false,
              (a.Held != b.Held) = false,
              (a.Inv != b.Inv) = false,
              (a.Lin != b.Lin) = false,
              (a.Res != b.Res) = false,
              (a.At != b.At) = true]) (by kernel_rfl) (cj (laws_eqByteS_ok a.Data b.Data r1 h1) (cj rfl (cj (nf h2) (cj h3 (cj (laws_eqIntS_ok a.Set b.Set r2 h4) (cj rfl (cj (nf h5) (cj h6 (cj h7 (cj h8 (cj h9 (cj1 h10)))))))))))))) (fun h10 =>
             Pn.bind (fun r3 h11 =>
              Pn.ite (fun h12 =>
               Pn.some (Fn.of [.call [] (E4 r1) [], .bit false, .bit false, .call [] (E4 r2) [], .bit false, .bit false, .bit false, .bit false, .bit false, .bit false, .call [] (E4 r3) [], .bit false] (p := [Fn Try.prog 166 [(false, E22 a.Data), (false, E22 b.Data)] (E4 r1) [],
                (true || ((E4 r1).nv && nvL [])) = true,
                (!r1) = false,
                (a.Pc != b.Pc) = false,
                Fn Try.prog 41 [(false, E24 a.Set), (false, E24 b.Set)] (E4 r2) [],
                (true || ((E4 r2).nv && nvL [])) = true,
                (!r2) = false,
                (a.Held != b.Held) = false,
                (a.Inv != b.Inv) = false,
                (a.Lin != b.Lin) = false,
                (a.Res != b.Res) = false,
                (a.At != b.At) = false,
                Fn Try.prog 166 [(false, E22 a.Reply), (false, E22 b.Reply)] (E4 r3) [],
                (true || ((E4 r3).nv && nvL [])) = true,
                (!r3) = false]) (by kernel_rfl) (cj (laws_eqByteS_ok a.Data b.Data r1 h1) (cj rfl (cj (nf h2) (cj h3 (cj (laws_eqIntS_ok a.Set b.Set r2 h4) (cj rfl (cj (nf h5) (cj h6 (cj h7 (cj h8 (cj h9 (cj h10 (cj (laws_eqByteS_ok a.Reply b.Reply r3 h11) (cj rfl (cj1 (nf h12)))))))))))))))))) (fun h12 =>
               Pn.some (Fn.of [.call [] (E4 r1) [], .bit false, .bit false, .call [] (E4 r2) [], .bit false, .bit false, .bit false, .bit false, .bit false, .bit false, .call [] (E4 r3) [], .bit true] (p := [Fn Try.prog 166 [(false, E22 a.Data), (false, E22 b.Data)] (E4 r1) [],
                (true || ((E4 r1).nv && nvL [])) = true,
                (!r1) = false,
                (a.Pc != b.Pc) = false,
                Fn Try.prog 41 [(false, E24 a.Set), (false, E24 b.Set)] (E4 r2) [],
                (true || ((E4 r2).nv && nvL [])) = true,
                (!r2) = false,
                (a.Held != b.Held) = false,
                (a.Inv != b.Inv) = false,
                (a.Lin != b.Lin) = false,
                (a.Res != b.Res) = false,
                (a.At != b.At) = false,
                Fn Try.prog 166 [(false, E22 a.Reply), (false, E22 b.Reply)] (E4 r3) [],
                (true || ((E4 r3).nv && nvL [])) = true,
                (!r3) = true]) (by kernel_rfl) (cj (laws_eqByteS_ok a.Data b.Data r1 h1) (cj rfl (cj (nf h2) (cj h3 (cj (laws_eqIntS_ok a.Set b.Set r2 h4) (cj rfl (cj (nf h5) (cj h6 (cj h7 (cj h8 (cj h9 (cj h10 (cj (laws_eqByteS_ok a.Reply b.Reply r3 h11) (cj rfl (cj1 (nt h12))))))))))))))))))))))))) (fun h5 =>
        Pn.some (Fn.of [.call [] (E4 r1) [], .bit false, .bit false, .call [] (E4 r2) [], .bit true] (p := [Fn Try.prog 166 [(false, E22 a.Data), (false, E22 b.Data)] (E4 r1) [],
         (true || ((E4 r1).nv && nvL [])) = true,
         (!r1) = false,
         (a.Pc != b.Pc) = false,
         Fn Try.prog 41 [(false, E24 a.Set), (false, E24 b.Set)] (E4 r2) [],
         (true || ((E4 r2).nv && nvL [])) = true,
         (!r2) = true]) (by kernel_rfl) (cj (laws_eqByteS_ok a.Data b.Data r1 h1) (cj rfl (cj (nf h2) (cj h3 (cj (laws_eqIntS_ok a.Set b.Set r2 h4) (cj rfl (cj1 (nt h5))))))))))))) (fun h2 =>
     Pn.some (Fn.of [.call [] (E4 r1) [], .bit true] (p := [Fn Try.prog 166 [(false, E22 a.Data), (false, E22 b.Data)] (E4 r1) [],
      (true || ((E4 r1).nv && nvL [])) = true,
      (!r1) = true]) (by kernel_rfl) (cj (laws_eqByteS_ok a.Data b.Data r1 h1) (cj rfl (cj1 (nt h2)))))))
def laws_eqTaskS_l0 (a : List Task) (b : List Task) : List Task → List Task → Option (Lo Unit Unit)
  | [], p1 =>
   some (.out ())
  | x1 :: t1, p1 =>
   (b[(p1.length : Int).toNat]?).bind fun x2 =>
   (laws_eqTask x1 x2).bind fun r1 =>
   if r1 = true then
    laws_eqTaskS_l0 a b t1 (p1 ++ [x1])
   else
    some (.ret ())
theorem laws_eqTaskS_l0_ok (a : List Task) (b : List Task) (h3 : capOk a.length = true) : ∀ (t1 p1 : List Task) (_ : a = p1 ++ t1) , Pn (LpO Try.prog (sub (codeOf Try.prog 106) [1, 1, 0, 1, 0, 0]) (st 27 [(0, V.sl false 137 (List.map E137 a)), (1, V.sl false 137 (List.map E137 b)), (5, V.sc (.int .i64 (p1.length : Int)))] [] []) (fun (y : Lo Unit Unit) => Lo.elim y (fun s => (X.out 0, st 27 [] [] [])) (fun s => (X.ret, st 27 [(4, V.sc (.bool false))] [] [])))) (laws_eqTaskS_l0 a b t1 p1)
  | [], p1, h2 => by
    unfold laws_eqTaskS_l0
    exact
     Pn.some (LpO.out [.wait 3, .nm 13 (V.sc (.int .i64 (a.length : Int))), .bit false, .mask [], .ren []] (p := [V.sc (.int .i64 ((List.map E137 a).length : Int)) = V.sc (.int .i64 (a.length : Int)),
      (decide ((p1.length : Int) < (a.length : Int))) = false]) (by kernel_rfl) (show X.out 0 ≠ X.go from nofun) (cj (len_nm _ _) (cj1 (rng_end h2))))
  | x1 :: t1, p1, h2 => by
    unfold laws_eqTaskS_l0
    exact
     Pn.bind (fun x2 h4 =>
      Pn.bind (fun r1 h5 =>
       Pn.ite (fun h6 =>
        LpO.go [.wait 3, .nm 13 (V.sc (.int .i64 (a.length : Int))), .bit true, .draw [], .el (E137 x1), .el (E137 x2), .call [] (E4 r1) [], .bit false, .wait 3, .mask [0, 1, 5], .ren [], .nm 5 (V.sc (.int .i64 ((p1 ++ [x1]).length : Int)))] (p := [V.sc (.int .i64 ((List.map E137 a).length : Int)) = V.sc (.int .i64 (a.length : Int)),
         (decide ((p1.length : Int) < (a.length : Int))) = true,
         (0 : Int) ≤ (p1.length : Int),
         (List.map E137 a)[(p1.length : Int).toNat]? = some (E137 x1),
         (0 : Int) ≤ (p1.length : Int),
         (List.map E137 b)[(p1.length : Int).toNat]? = some (E137 x2),
         Fn Try.prog 167 [(false, E137 x1), (false, E137 x2)] (E4 r1) [],
         (true || ((E4 r1).nv && nvL [])) = true,
         (!r1) = false,
         V.sc (.int .i64 (i64 ((p1.length : Int) + 1))) = V.sc (.int .i64 ((p1 ++ [x1]).length : Int))]) (by kernel_rfl) (cj (len_nm _ _) (cj (rng_lt h2) (cj (by omega) (cj (rng_get _ h2) (cj (by omega) (cj (map_get h4) (cj (laws_eqTask_ok x1 x2 r1 h5) (cj rfl (cj (nf h6) (cj1 (rng_next h2 h3))))))))))) (laws_eqTaskS_l0_ok a b h3 t1 (p1 ++ [x1]) (rng_step h2))) (fun h6 =>
        Pn.some (LpO.out [.wait 3, .nm 13 (V.sc (.int .i64 (a.length : Int))), .bit true, .draw [], .el (E137 x1), .el (E137 x2), .call [] (E4 r1) [], .bit true, .wait 1, .mask [4], .ren []] (p := [V.sc (.int .i64 ((List.map E137 a).length : Int)) = V.sc (.int .i64 (a.length : Int)),
         (decide ((p1.length : Int) < (a.length : Int))) = true,
         (0 : Int) ≤ (p1.length : Int),
         (List.map E137 a)[(p1.length : Int).toNat]? = some (E137 x1),
         (0 : Int) ≤ (p1.length : Int),
         (List.map E137 b)[(p1.length : Int).toNat]? = some (E137 x2),
         Fn Try.prog 167 [(false, E137 x1), (false, E137 x2)] (E4 r1) [],
         (true || ((E4 r1).nv && nvL [])) = true,
         (!r1) = true]) (by kernel_rfl) (show X.ret ≠ X.go from nofun) (cj (len_nm _ _) (cj (rng_lt h2) (cj (by omega) (cj (rng_get _ h2) (cj (by omega) (cj (map_get h4) (cj (laws_eqTask_ok x1 x2 r1 h5) (cj rfl (cj1 (nt h6))))))))))))))
def laws_eqTaskS (a : List Task) (b : List Task) : Option (Bool) :=
 if ((a.length : Int) != (b.length : Int)) = true then
  some false
 else
  if (capOk a.length) = true then
   (laws_eqTaskS_l0 a b a []).bind fun r2 =>
   Lo.elim r2 (fun s1 =>
    some true) (fun s2 =>
    some false)
  else none
theorem laws_eqTaskS_ok (a : List Task) (b : List Task) : Pn (fun y => Fn Try.prog 106 [(false, E79 a), (false, E79 b)] (E4 y) []) (laws_eqTaskS a b) := by
  unfold laws_eqTaskS
  exact
   Pn.ite (fun h1 =>
    Pn.some (Fn.of [.wait 3, .nm 7 (V.sc (.int .i64 (a.length : Int))), .wait 2, .nm 9 (V.sc (.int .i64 (b.length : Int))), .bit true] (p := [V.sc (.int .i64 ((List.map E137 a).length : Int)) = V.sc (.int .i64 (a.length : Int)),
     V.sc (.int .i64 ((List.map E137 b).length : Int)) = V.sc (.int .i64 (b.length : Int)),
     ((a.length : Int) != (b.length : Int)) = true]) (by kernel_rfl) (cj (len_nm _ _) (cj (len_nm _ _) (cj1 h1))))) (fun h1 =>
    Pn.ite (fun h7 =>
     Pn.bind (fun r2 h8 =>
      Pn.lo (fun s1 h9 =>
       Pn.some (Fn.of [.wait 3, .nm 7 (V.sc (.int .i64 (a.length : Int))), .wait 2, .nm 9 (V.sc (.int .i64 (b.length : Int))), .bit false, .wait 1, .mask [0, 1, 5], .ren [], .loop (X.out 0) (st 27 [] [] [])] (p := [V.sc (.int .i64 ((List.map E137 a).length : Int)) = V.sc (.int .i64 (a.length : Int)),
        V.sc (.int .i64 ((List.map E137 b).length : Int)) = V.sc (.int .i64 (b.length : Int)),
        ((a.length : Int) != (b.length : Int)) = false,
        Loop Try.prog (sub (codeOf Try.prog 106) [1, 1, 0, 1, 0, 0]) (st 27 [(0, V.sl false 137 (List.map E137 a)), (1, V.sl false 137 (List.map E137 b)), (5, V.sc (.int .i64 0))] [] []) (X.out 0) (st 27 [] [] [])]) (by kernel_rfl) (cj (len_nm _ _) (cj (len_nm _ _) (cj h1 (cj1 ((laws_eqTaskS_l0_ok a b h7 a [] rfl r2 h8).at h9))))))) (fun s2 h10 =>
       Pn.some (Fn.of [.wait 3, .nm 7 (V.sc (.int .i64 (a.length : Int))), .wait 2, .nm 9 (V.sc (.int .i64 (b.length : Int))), .bit false, .wait 1, .mask [0, 1, 5], .ren [], .loop (X.ret) (st 27 [(4, V.sc (.bool false))] [] [])] (p := [V.sc (.int .i64 ((List.map E137 a).length : Int)) = V.sc (.int .i64 (a.length : Int)),
        V.sc (.int .i64 ((List.map E137 b).length : Int)) = V.sc (.int .i64 (b.length : Int)),
        ((a.length : Int) != (b.length : Int)) = false,
        Loop Try.prog (sub (codeOf Try.prog 106) [1, 1, 0, 1, 0, 0]) (st 27 [(0, V.sl false 137 (List.map E137 a)), (1, V.sl false 137 (List.map E137 b)), (5, V.sc (.int .i64 0))] [] []) (X.ret) (st 27 [(4, V.sc (.bool false))] [] [])]) (by kernel_rfl) (cj (len_nm _ _) (cj (len_nm _ _) (cj h1 (cj1 ((laws_eqTaskS_l0_ok a b h7 a [] rfl r2 h8).at h10))))))))) (fun h7 =>
     Pn.none))
def laws_eqWorld (a : World) (b : World) : Option (Bool) :=
 (laws_eqStripeS a.Stripes b.Stripes).bind fun r1 =>
 if r1 = true then
  if (a.Now != b.Now) = true then
   some false
  else
   if (a.Step != b.Step) = true then
    some false
   else
    (laws_eqTaskS a.Tasks b.Tasks).bind fun r2 =>
    if r2 = true then
     some true
    else
     some false
 else
  some false
theorem laws_eqWorld_ok (a : World) (b : World) : Pn (fun y => Fn Try.prog 48 [(false, E81 a), (false, E81 b)] (E4 y) []) (laws_eqWorld a b) := by
  unfold laws_eqWorld
  exact
   Pn.bind (fun r1 h1 =>
    Pn.ite (fun h2 =>
     Pn.ite (fun h3 =>
      Pn.some (Fn.of [.call [] (E4 r1) [], .bit false, .bit true] (p := [Fn Try.prog 34 [(false, E53 a.Stripes), (false, E53 b.Stripes)] (E4 r1) [],
       (true || ((E4 r1).nv && nvL [])) = true,
       (!r1) = false,
       (a.Now != b.Now) = true]) (by kernel_rfl) (cj (laws_eqStripeS_ok a.Stripes b.Stripes r1 h1) (cj rfl (cj (nf h2) (cj1 h3)))))) (fun h3 =>
      Pn.ite (fun h4 =>
       Pn.some (Fn.of [.call [] (E4 r1) [], .bit false, .bit false, .bit true] (p := [Fn Try.prog 34 [(false, E53 a.Stripes), (false, E53 b.Stripes)] (E4 r1) [],
        (true || ((E4 r1).nv && nvL [])) = true,
        (!r1) = false,
        (a.Now != b.Now) = false,
        (a.Step != b.Step) = true]) (by kernel_rfl) (cj (laws_eqStripeS_ok a.Stripes b.Stripes r1 h1) (cj rfl (cj (nf h2) (cj h3 (cj1 h4))))))) (fun h4 =>
       Pn.bind (fun r2 h5 =>
        Pn.ite (fun h6 =>
         Pn.some (Fn.of [.call [] (E4 r1) [], .bit false, .bit false, .bit false, .call [] (E4 r2) [], .bit false] (p := [Fn Try.prog 34 [(false, E53 a.Stripes), (false, E53 b.Stripes)] (E4 r1) [],
          (true || ((E4 r1).nv && nvL [])) = true,
          (!r1) = false,
          (a.Now != b.Now) = false,
          (a.Step != b.Step) = false,
          Fn Try.prog 106 [(false, E79 a.Tasks), (false, E79 b.Tasks)] (E4 r2) [],
          (true || ((E4 r2).nv && nvL [])) = true,
          (!r2) = false]) (by kernel_rfl) (cj (laws_eqStripeS_ok a.Stripes b.Stripes r1 h1) (cj rfl (cj (nf h2) (cj h3 (cj h4 (cj (laws_eqTaskS_ok a.Tasks b.Tasks r2 h5) (cj rfl (cj1 (nf h6))))))))))) (fun h6 =>
         Pn.some (Fn.of [.call [] (E4 r1) [], .bit false, .bit false, .bit false, .call [] (E4 r2) [], .bit true] (p := [Fn Try.prog 34 [(false, E53 a.Stripes), (false, E53 b.Stripes)] (E4 r1) [],
          (true || ((E4 r1).nv && nvL [])) = true,
          (!r1) = false,
          (a.Now != b.Now) = false,
          (a.Step != b.Step) = false,
          Fn Try.prog 106 [(false, E79 a.Tasks), (false, E79 b.Tasks)] (E4 r2) [],
          (true || ((E4 r2).nv && nvL [])) = true,
          (!r2) = true]) (by kernel_rfl) (cj (laws_eqStripeS_ok a.Stripes b.Stripes r1 h1) (cj rfl (cj (nf h2) (cj h3 (cj h4 (cj (laws_eqTaskS_ok a.Tasks b.Tasks r2 h5) (cj rfl (cj1 (nt h6))))))))))))))) (fun h2 =>
     Pn.some (Fn.of [.call [] (E4 r1) [], .bit true] (p := [Fn Try.prog 34 [(false, E53 a.Stripes), (false, E53 b.Stripes)] (E4 r1) [],
      (true || ((E4 r1).nv && nvL [])) = true,
      (!r1) = true]) (by kernel_rfl) (cj (laws_eqStripeS_ok a.Stripes b.Stripes r1 h1) (cj rfl (cj1 (nt h2)))))))
end Go.Proofs.YtdcejeemommkfaaM
