/- Printed by gen.py: functions on plain data, and that the program computes them. No condition. -/
import Derived.Test.YtbophjkjmlenpaaGreatDoorFqG1
namespace Go.Proofs.YtbophjkjmlenpaaGreatDoorM
set_option linter.unusedVariables false
set_option linter.unusedSimpArgs false
open Go.RowKit
set_option maxRecDepth 100000

def impl_MsgOk_c2 (m : Msg) (v1 : Int) : Option (Lo Unit Unit) :=
 if (decide (v1 < (m.List.length : Int))) = true then
 some (.out ())
 else
 some (.ret ())
theorem impl_MsgOk_c2_ok (m : Msg) (v1 : Int) : Pn (JnO Tryz.prog (sub (codeOf Tryz.prog 92) [1, 0, 1, 0, 0, 1, 0]) (st 39 [(1, V.ptr 0 0), (6, V.sl false 120 (List.map E120 m.List)), (7, vI (m.List.length : Int)), (8, vI v1), (9, V.sc (.bool (decide (v1 < (m.List.length : Int)))))] [Blk.box 72 [V.sc (.string m.Mti), V.sl false 120 (List.map E120 m.List)]] []) (fun (y : Lo Unit Unit) => Lo.elim y (fun s => (X.go, st 39 [(1, V.ptr 0 0), (6, V.sl false 120 (List.map E120 m.List)), (7, vI (m.List.length : Int)), (8, vI v1)] [Blk.box 72 [V.sc (.string m.Mti), V.sl false 120 (List.map E120 m.List)]] [])) (fun s => (X.out 0, st 39 [(1, V.ptr 0 0)] [Blk.box 72 [V.sc (.string m.Mti), V.sl false 120 (List.map E120 m.List)]] [])))) (impl_MsgOk_c2 m v1) := by
  unfold impl_MsgOk_c2
  exact
   Pn.ite (fun h1 =>
   Pn.some (JnO.of [.bit true, .mask [1, 6, 7, 8], .ren [0]] (p := [(decide (v1 < (m.List.length : Int))) = true]) (by kernel_rfl) (cj1 h1))) (fun h1 =>
   Pn.some (JnO.of [.bit false, .mask [1], .ren [0]] (p := [(decide (v1 < (m.List.length : Int))) = false]) (by kernel_rfl) (cj1 h1)))
def impl_MsgOk_c3 (m : Msg) (v1 : Int) : Option (Lo Unit Unit) :=
 if (decide (0 ≤ v1)) = true then
 (m.List[v1.toNat]?).bind fun x1 =>
 (impl_FieldOk x1.No x1.Text).bind fun r2 =>
 if r2 = true then
 if (decide (0 < v1)) = true then
 if (decide (0 ≤ (i64 (v1 - 1)))) = true then
 (m.List[(i64 (v1 - 1)).toNat]?).bind fun x2 =>
 if (decide (x1.No ≤ x2.No)) = true then
 some (.ret ())
 else
 some (.out ())
 else none
 else
 some (.out ())
 else
 some (.ret ())
 else none
theorem impl_MsgOk_c3_ok (m : Msg) (v1 : Int) : Pn (JnO Tryz.prog (sub (codeOf Tryz.prog 92) [1, 0, 1, 0, 0, 1, 1, 0]) (st 39 [(1, V.ptr 0 0), (6, V.sl false 120 (List.map E120 m.List)), (7, vI (m.List.length : Int)), (8, vI v1)] [Blk.box 72 [V.sc (.string m.Mti), V.sl false 120 (List.map E120 m.List)]] []) (fun (y : Lo Unit Unit) => Lo.elim y (fun s => (X.go, st 39 [(1, V.ptr 0 0), (6, V.sl false 120 (List.map E120 m.List)), (7, vI (m.List.length : Int)), (8, vI v1)] [Blk.box 72 [V.sc (.string m.Mti), V.sl false 120 (List.map E120 m.List)]] [])) (fun s => (X.ret, st 39 [(2, V.sc (.bool false))] [] [])))) (impl_MsgOk_c3 m v1) := by
  unfold impl_MsgOk_c3
  exact
   Pn.ite (fun h5 =>
   Pn.bind (fun x1 h6 =>
   Pn.bind (fun r2 h7 =>
   Pn.ite (fun h8 =>
   Pn.ite (fun h9 =>
   Pn.ite (fun h10 =>
   Pn.bind (fun x2 h11 =>
   Pn.ite (fun h12 =>
   Pn.some (JnO.of [.el (E120 x1), .draw [], .call [] (E4 r2) [], .bit false, .bit false, .bit false, .bit true, .bit true, .bit true, .bit true, .bit true, .bit true, .bit true, .el (E120 x2), .bit true, .bit true, .bit true, .bit false, .bit true, .bit false, .bit true, .wait 1, .mask [2], .ren []] (p := [(0 : Int) ≤ v1,(List.map E120 m.List)[v1.toNat]? = some (E120 x1),Fn Tryz.prog 153 [(false, E3 x1.No), (false, E9 x1.Text)] (E4 r2) [],(true || ((E4 r2).nv && nvL [])) = true,(!r2) = false,(!r2) = false,(!r2) = false,(decide (0 < v1)) = true,(decide (0 < v1)) = true,(decide (0 < v1)) = true,(decide (0 < v1)) = true,(decide (0 < v1)) = true,(decide (0 < v1)) = true,(decide (0 < v1)) = true,(0 : Int) ≤ (i64 (v1 - 1)),(List.map E120 m.List)[(i64 (v1 - 1)).toNat]? = some (E120 x2),(decide (0 < v1)) = true,(decide (0 < v1)) = true,(decide (0 < v1)) = true,(!r2) = false,(decide (0 < v1)) = true,(!r2) = false,(decide (x1.No ≤ x2.No)) = true]) (by kernel_rfl) (cj (od h5) (cj (map_get h6) (cj (impl_FieldOk_ok x1.No x1.Text r2 h7) (cj rfl (cj (nf h8) (cj (nf h8) (cj (nf h8) (cj h9 (cj h9 (cj h9 (cj h9 (cj h9 (cj h9 (cj h9 (cj (od h10) (cj (map_get h11) (cj h9 (cj h9 (cj h9 (cj (nf h8) (cj h9 (cj (nf h8) (cj1 h12))))))))))))))))))))))))) (fun h12 =>
   Pn.some (JnO.of [.el (E120 x1), .draw [], .call [] (E4 r2) [], .bit false, .bit false, .bit false, .bit true, .bit true, .bit true, .bit true, .bit true, .bit true, .bit true, .el (E120 x2), .bit true, .bit true, .bit true, .bit false, .bit true, .bit false, .bit false, .mask [1, 6, 7, 8], .ren [0]] (p := [(0 : Int) ≤ v1,(List.map E120 m.List)[v1.toNat]? = some (E120 x1),Fn Tryz.prog 153 [(false, E3 x1.No), (false, E9 x1.Text)] (E4 r2) [],(true || ((E4 r2).nv && nvL [])) = true,(!r2) = false,(!r2) = false,(!r2) = false,(decide (0 < v1)) = true,(decide (0 < v1)) = true,(decide (0 < v1)) = true,(decide (0 < v1)) = true,(decide (0 < v1)) = true,(decide (0 < v1)) = true,(decide (0 < v1)) = true,(0 : Int) ≤ (i64 (v1 - 1)),(List.map E120 m.List)[(i64 (v1 - 1)).toNat]? = some (E120 x2),(decide (0 < v1)) = true,(decide (0 < v1)) = true,(decide (0 < v1)) = true,(!r2) = false,(decide (0 < v1)) = true,(!r2) = false,(decide (x1.No ≤ x2.No)) = false]) (by kernel_rfl) (cj (od h5) (cj (map_get h6) (cj (impl_FieldOk_ok x1.No x1.Text r2 h7) (cj rfl (cj (nf h8) (cj (nf h8) (cj (nf h8) (cj h9 (cj h9 (cj h9 (cj h9 (cj h9 (cj h9 (cj h9 (cj (od h10) (cj (map_get h11) (cj h9 (cj h9 (cj h9 (cj (nf h8) (cj h9 (cj (nf h8) (cj1 h12))))))))))))))))))))))))))) (fun h10 =>
   Pn.none)) (fun h9 =>
   Pn.some (JnO.of [.el (E120 x1), .draw [], .call [] (E4 r2) [], .bit false, .bit false, .bit false, .bit false, .bit false, .bit false, .bit false, .bit false, .bit false, .bit false, .bit false, .bit false, .bit false, .bit false, .bit false, .bit false, .bit false, .mask [1, 6, 7, 8], .ren [0]] (p := [(0 : Int) ≤ v1,(List.map E120 m.List)[v1.toNat]? = some (E120 x1),Fn Tryz.prog 153 [(false, E3 x1.No), (false, E9 x1.Text)] (E4 r2) [],(true || ((E4 r2).nv && nvL [])) = true,(!r2) = false,(!r2) = false,(!r2) = false,(decide (0 < v1)) = false,(decide (0 < v1)) = false,(decide (0 < v1)) = false,(decide (0 < v1)) = false,(decide (0 < v1)) = false,(decide (0 < v1)) = false,(decide (0 < v1)) = false,(decide (0 < v1)) = false,(decide (0 < v1)) = false,(decide (0 < v1)) = false,(!r2) = false,(decide (0 < v1)) = false,(!r2) = false,false = false]) (by kernel_rfl) (cj (od h5) (cj (map_get h6) (cj (impl_FieldOk_ok x1.No x1.Text r2 h7) (cj rfl (cj (nf h8) (cj (nf h8) (cj (nf h8) (cj h9 (cj h9 (cj h9 (cj h9 (cj h9 (cj h9 (cj h9 (cj h9 (cj h9 (cj h9 (cj (nf h8) (cj h9 (cj (nf h8) (cj1 rfl)))))))))))))))))))))))) (fun h8 =>
   Pn.some (JnO.of [.el (E120 x1), .draw [], .call [] (E4 r2) [], .bit true, .bit true, .bit true, .bit true, .bit true, .bit true, .wait 1, .mask [2], .ren []] (p := [(0 : Int) ≤ v1,(List.map E120 m.List)[v1.toNat]? = some (E120 x1),Fn Tryz.prog 153 [(false, E3 x1.No), (false, E9 x1.Text)] (E4 r2) [],(true || ((E4 r2).nv && nvL [])) = true,(!r2) = true,(!r2) = true,(!r2) = true,(!r2) = true,(!r2) = true,true = true]) (by kernel_rfl) (cj (od h5) (cj (map_get h6) (cj (impl_FieldOk_ok x1.No x1.Text r2 h7) (cj rfl (cj (nt h8) (cj (nt h8) (cj (nt h8) (cj (nt h8) (cj (nt h8) (cj1 rfl))))))))))))))) (fun h5 =>
   Pn.none)
def impl_MsgOk_l0 (m : Msg) : Nat → Int → Option (Lo Unit Unit)
  | 0, _ => none
  | fuel + 1, v1 =>
   (impl_MsgOk_c2 m v1).bind fun r1 =>
   Lo.elim r1 (fun s1 =>
   (impl_MsgOk_c3 m v1).bind fun r3 =>
   Lo.elim r3 (fun s3 =>
   impl_MsgOk_l0 m fuel (i64 (v1 + 1))) (fun s4 =>
   some (.ret ()))) (fun s2 =>
   some (.out ()))
theorem impl_MsgOk_l0_ok (m : Msg) : ∀ (fuel : Nat) (v1 : Int), Pn (LpO Tryz.prog (sub (codeOf Tryz.prog 92) [1, 0, 1, 0, 0]) (st 39 [(1, V.ptr 0 0), (6, V.sl false 120 (List.map E120 m.List)), (7, vI (m.List.length : Int)), (8, vI v1)] [Blk.box 72 [V.sc (.string m.Mti), V.sl false 120 (List.map E120 m.List)]] []) (fun (y : Lo Unit Unit) => Lo.elim y (fun s => (X.out 0, st 39 [(1, V.ptr 0 0)] [Blk.box 72 [V.sc (.string m.Mti), V.sl false 120 (List.map E120 m.List)]] [])) (fun s => (X.ret, st 39 [(2, V.sc (.bool false))] [] [])))) (impl_MsgOk_l0 m fuel v1)
  | 0, _ => Pn.none
  | fuel + 1, v1 => by
    unfold impl_MsgOk_l0
    exact
     Pn.bind (fun r1 h2 =>
     Pn.lo (fun s1 h3 =>
     Pn.bind (fun r3 h13 =>
     Pn.lo (fun s3 h14 =>
     LpO.go [.wait 2, .mask [1, 6, 7, 8, 9], .ren [0], .join 3 (X.go) (st 39 [(1, V.ptr 0 0), (6, V.sl false 120 (List.map E120 m.List)), (7, vI (m.List.length : Int)), (8, vI v1)] [Blk.box 72 [V.sc (.string m.Mti), V.sl false 120 (List.map E120 m.List)]] []), .wait 1, .mask [1, 6, 7, 8], .ren [0], .join 10 (X.go) (st 39 [(1, V.ptr 0 0), (6, V.sl false 120 (List.map E120 m.List)), (7, vI (m.List.length : Int)), (8, vI v1)] [Blk.box 72 [V.sc (.string m.Mti), V.sl false 120 (List.map E120 m.List)]] []), .wait 3, .mask [1, 6, 7, 8], .ren [0]] (p := [HT Tryz.prog (sub (codeOf Tryz.prog 92) [1, 0, 1, 0, 0, 1, 0]) (st 39 [(1, V.ptr 0 0), (6, V.sl false 120 (List.map E120 m.List)), (7, vI (m.List.length : Int)), (8, vI v1), (9, V.sc (.bool (decide (v1 < (m.List.length : Int)))))] [Blk.box 72 [V.sc (.string m.Mti), V.sl false 120 (List.map E120 m.List)]] []) (X.go) (st 39 [(1, V.ptr 0 0), (6, V.sl false 120 (List.map E120 m.List)), (7, vI (m.List.length : Int)), (8, vI v1)] [Blk.box 72 [V.sc (.string m.Mti), V.sl false 120 (List.map E120 m.List)]] []),HT Tryz.prog (sub (codeOf Tryz.prog 92) [1, 0, 1, 0, 0, 1, 1, 0]) (st 39 [(1, V.ptr 0 0), (6, V.sl false 120 (List.map E120 m.List)), (7, vI (m.List.length : Int)), (8, vI v1)] [Blk.box 72 [V.sc (.string m.Mti), V.sl false 120 (List.map E120 m.List)]] []) (X.go) (st 39 [(1, V.ptr 0 0), (6, V.sl false 120 (List.map E120 m.List)), (7, vI (m.List.length : Int)), (8, vI v1)] [Blk.box 72 [V.sc (.string m.Mti), V.sl false 120 (List.map E120 m.List)]] [])]) (by kernel_rfl) (cj ((impl_MsgOk_c2_ok m v1 r1 h2).at h3 :) (cj1 ((impl_MsgOk_c3_ok m v1 r3 h13).at h14 :))) (impl_MsgOk_l0_ok m fuel (i64 (v1 + 1)))) (fun s4 h15 =>
     Pn.some (LpO.out [.wait 2, .mask [1, 6, 7, 8, 9], .ren [0], .join 3 (X.go) (st 39 [(1, V.ptr 0 0), (6, V.sl false 120 (List.map E120 m.List)), (7, vI (m.List.length : Int)), (8, vI v1)] [Blk.box 72 [V.sc (.string m.Mti), V.sl false 120 (List.map E120 m.List)]] []), .wait 1, .mask [1, 6, 7, 8], .ren [0], .join 10 (X.ret) (st 39 [(2, V.sc (.bool false))] [] []), .wait 1, .mask [2], .ren []] (p := [HT Tryz.prog (sub (codeOf Tryz.prog 92) [1, 0, 1, 0, 0, 1, 0]) (st 39 [(1, V.ptr 0 0), (6, V.sl false 120 (List.map E120 m.List)), (7, vI (m.List.length : Int)), (8, vI v1), (9, V.sc (.bool (decide (v1 < (m.List.length : Int)))))] [Blk.box 72 [V.sc (.string m.Mti), V.sl false 120 (List.map E120 m.List)]] []) (X.go) (st 39 [(1, V.ptr 0 0), (6, V.sl false 120 (List.map E120 m.List)), (7, vI (m.List.length : Int)), (8, vI v1)] [Blk.box 72 [V.sc (.string m.Mti), V.sl false 120 (List.map E120 m.List)]] []),HT Tryz.prog (sub (codeOf Tryz.prog 92) [1, 0, 1, 0, 0, 1, 1, 0]) (st 39 [(1, V.ptr 0 0), (6, V.sl false 120 (List.map E120 m.List)), (7, vI (m.List.length : Int)), (8, vI v1)] [Blk.box 72 [V.sc (.string m.Mti), V.sl false 120 (List.map E120 m.List)]] []) (X.ret) (st 39 [(2, V.sc (.bool false))] [] [])]) (by kernel_rfl) (show X.ret ≠ X.go from nofun) (cj ((impl_MsgOk_c2_ok m v1 r1 h2).at h3 :) (cj1 ((impl_MsgOk_c3_ok m v1 r3 h13).at h15 :))))))) (fun s2 h4 =>
     Pn.some (LpO.out [.wait 2, .mask [1, 6, 7, 8, 9], .ren [0], .join 3 (X.out 0) (st 39 [(1, V.ptr 0 0)] [Blk.box 72 [V.sc (.string m.Mti), V.sl false 120 (List.map E120 m.List)]] []), .wait 1, .mask [1], .ren [0]] (p := [HT Tryz.prog (sub (codeOf Tryz.prog 92) [1, 0, 1, 0, 0, 1, 0]) (st 39 [(1, V.ptr 0 0), (6, V.sl false 120 (List.map E120 m.List)), (7, vI (m.List.length : Int)), (8, vI v1), (9, V.sc (.bool (decide (v1 < (m.List.length : Int)))))] [Blk.box 72 [V.sc (.string m.Mti), V.sl false 120 (List.map E120 m.List)]] []) (X.out 0) (st 39 [(1, V.ptr 0 0)] [Blk.box 72 [V.sc (.string m.Mti), V.sl false 120 (List.map E120 m.List)]] [])]) (by kernel_rfl) (show X.out 0 ≠ X.go from nofun) (cj1 ((impl_MsgOk_c2_ok m v1 r1 h2).at h4 :)))))
def impl_MsgOk (m : Msg) : Option (Bool) :=
 (impl_MsgOk_l0 m FUEL 0).bind fun r4 =>
 Lo.elim r4 (fun s5 =>
 (impl_isWide m.Mti 4).bind fun r5 =>
 some r5) (fun s6 =>
 some false)
theorem impl_MsgOk_ok (m : Msg) : Pn (fun y => Fn Tryz.prog 92 [(false, E72 m)] (E4 y) []) (impl_MsgOk m) := by
  unfold impl_MsgOk
  exact
   Pn.bind (fun r4 h16 =>
   Pn.lo (fun s5 h17 =>
   Pn.bind (fun r5 h19 =>
   Pn.some (Fn.of [.wait 5, .nm 7 (vI (m.List.length : Int)), .wait 2, .mask [1, 6, 7, 8], .ren [0], .loop (X.out 0) (st 39 [(1, V.ptr 0 0)] [Blk.box 72 [V.sc (.string m.Mti), V.sl false 120 (List.map E120 m.List)]] []), .call [] (E4 r5) []] (p := [vI ((List.map E120 m.List).length : Int) = vI (m.List.length : Int),Loop Tryz.prog (sub (codeOf Tryz.prog 92) [1, 0, 1, 0, 0]) (st 39 [(1, V.ptr 0 0), (6, V.sl false 120 (List.map E120 m.List)), (7, vI (m.List.length : Int)), (8, vI 0)] [Blk.box 72 [V.sc (.string m.Mti), V.sl false 120 (List.map E120 m.List)]] []) (X.out 0) (st 39 [(1, V.ptr 0 0)] [Blk.box 72 [V.sc (.string m.Mti), V.sl false 120 (List.map E120 m.List)]] []),Fn Tryz.prog 148 [(false, E9 m.Mti), (false, E3 4)] (E4 r5) [],(true || ((E4 r5).nv && nvL [])) = true]) (by kernel_rfl) (cj (len_nm _ _) (cj ((impl_MsgOk_l0_ok m FUEL 0 r4 h16).at h17 :) (cj (impl_isWide_ok m.Mti 4 r5 h19) (cj1 rfl))))))) (fun s6 h18 =>
   Pn.some (Fn.of [.wait 5, .nm 7 (vI (m.List.length : Int)), .wait 2, .mask [1, 6, 7, 8], .ren [0], .loop (X.ret) (st 39 [(2, V.sc (.bool false))] [] [])] (p := [vI ((List.map E120 m.List).length : Int) = vI (m.List.length : Int),Loop Tryz.prog (sub (codeOf Tryz.prog 92) [1, 0, 1, 0, 0]) (st 39 [(1, V.ptr 0 0), (6, V.sl false 120 (List.map E120 m.List)), (7, vI (m.List.length : Int)), (8, vI 0)] [Blk.box 72 [V.sc (.string m.Mti), V.sl false 120 (List.map E120 m.List)]] []) (X.ret) (st 39 [(2, V.sc (.bool false))] [] [])]) (by kernel_rfl) (cj (len_nm _ _) (cj1 ((impl_MsgOk_l0_ok m FUEL 0 r4 h16).at h18 :))))))
def impl_MtiKnown (mti : ByteArray) : Option (Bool) :=
 if (mti == (bs [48, 49, 48, 48])) = true then
 some true
 else
 if (mti == (bs [48, 50, 48, 48])) = true then
 some true
 else
 some (mti == (bs [48, 50, 50, 48]))
theorem impl_MtiKnown_ok (mti : ByteArray) : Pn (fun y => Fn Tryz.prog 38 [(false, E9 mti)] (E4 y) []) (impl_MtiKnown mti) := by
  unfold impl_MtiKnown
  exact
   Pn.ite (fun h1 =>
   Pn.some (Fn.of [.bit true, .bit true, .bit true, .bit true, .bit true, .bit true] (p := [(mti == (bs [48, 49, 48, 48])) = true,(mti == (bs [48, 49, 48, 48])) = true,(mti == (bs [48, 49, 48, 48])) = true,true = true,true = true,true = true]) (by kernel_rfl) (cj h1 (cj h1 (cj h1 (cj rfl (cj rfl (cj1 rfl)))))))) (fun h1 =>
   Pn.ite (fun h2 =>
   Pn.some (Fn.of [.bit false, .bit false, .bit false, .bit true, .bit true, .bit true] (p := [(mti == (bs [48, 49, 48, 48])) = false,(mti == (bs [48, 49, 48, 48])) = false,(mti == (bs [48, 49, 48, 48])) = false,(mti == (bs [48, 50, 48, 48])) = true,(mti == (bs [48, 50, 48, 48])) = true,(mti == (bs [48, 50, 48, 48])) = true]) (by kernel_rfl) (cj h1 (cj h1 (cj h1 (cj h2 (cj h2 (cj1 h2)))))))) (fun h2 =>
   Pn.some (Fn.of [.bit false, .bit false, .bit false, .bit false, .bit false, .bit false] (p := [(mti == (bs [48, 49, 48, 48])) = false,(mti == (bs [48, 49, 48, 48])) = false,(mti == (bs [48, 49, 48, 48])) = false,(mti == (bs [48, 50, 48, 48])) = false,(mti == (bs [48, 50, 48, 48])) = false,(mti == (bs [48, 50, 48, 48])) = false]) (by kernel_rfl) (cj h1 (cj h1 (cj h1 (cj h2 (cj h2 (cj1 h2)))))))))
def impl_FieldOf_l0 (m : Msg) (no : Int) : List Field → Option (Lo Unit ByteArray)
  | [] =>
   some (.out ())
  | x1 :: t1 =>
   if (x1.No == no) = true then
   some (.ret x1.Text)
   else
   impl_FieldOf_l0 m no t1
theorem impl_FieldOf_l0_ok (m : Msg) (no : Int) (h2 : capOk m.List.length = true) : ∀ (t1 p1 : List Field) (_ : m.List = p1 ++ t1) , Pn (LpO Tryz.prog (sub (codeOf Tryz.prog 93) [1, 0, 1, 0, 0]) (st 22 [(1, vI no), (9, V.sl false 120 (List.map E120 m.List)), (10, vI (m.List.length : Int)), (11, vI (p1.length : Int))] [] []) (fun (y : Lo Unit ByteArray) => Lo.elim y (fun s => (X.out 0, st 22 [] [] [])) (fun s => (X.ret, st 22 [(4, V.sc (.string s)), (5, V.sc (.bool true))] [] [])))) (impl_FieldOf_l0 m no t1)
  | [], p1, h1 => by
    unfold impl_FieldOf_l0
    exact
     Pn.some (LpO.out [.bit false, .mask [], .ren []] (p := [(decide ((p1.length : Int) < (m.List.length : Int))) = false]) (by kernel_rfl) (show X.out 0 ≠ X.go from nofun) (cj1 (rng_end h1)))
  | x1 :: t1, p1, h1 => by
    unfold impl_FieldOf_l0
    exact
     Pn.ite (fun h3 =>
     Pn.some (LpO.out [.bit true, .el (E120 x1), .bit true, .wait 4, .mask [4, 5], .ren []] (p := [(decide ((p1.length : Int) < (m.List.length : Int))) = true,(0 : Int) ≤ (p1.length : Int),(List.map E120 m.List)[(p1.length : Int).toNat]? = some (E120 x1),(x1.No == no) = true]) (by kernel_rfl) (show X.ret ≠ X.go from nofun) (cj (rng_lt h1) (cj (by omega) (cj (rng_get _ h1) (cj1 h3)))))) (fun h3 =>
     LpO.go [.bit true, .el (E120 x1), .bit false, .wait 2, .mask [1, 9, 10, 11], .ren [], .nm 11 (vI ((p1 ++ [x1]).length : Int))] (p := [(decide ((p1.length : Int) < (m.List.length : Int))) = true,(0 : Int) ≤ (p1.length : Int),(List.map E120 m.List)[(p1.length : Int).toNat]? = some (E120 x1),(x1.No == no) = false,vI (i64 ((p1.length : Int) + 1)) = vI ((p1 ++ [x1]).length : Int)]) (by kernel_rfl) (cj (rng_lt h1) (cj (by omega) (cj (rng_get _ h1) (cj h3 (cj1 (rng_next h1 h2)))))) (impl_FieldOf_l0_ok m no h2 t1 (p1 ++ [x1]) (rng_step h1)))
def impl_FieldOf (m : Msg) (no : Int) : Option (ByteArray × Bool) :=
 if (capOk m.List.length) = true then
 (impl_FieldOf_l0 m no m.List).bind fun r1 =>
 Lo.elim r1 (fun s1 =>
 some (bs [], false)) (fun s2 =>
 some (s2, true))
 else none
theorem impl_FieldOf_ok (m : Msg) (no : Int) : Pn (fun y => Fn Tryz.prog 93 [(false, E72 m), (false, E3 no)] (V.tup [E9 y.1, E4 y.2]) []) (impl_FieldOf m no) := by
  unfold impl_FieldOf
  exact
   Pn.ite (fun h4 =>
   Pn.bind (fun r1 h5 =>
   Pn.lo (fun s1 h6 =>
   Pn.some (Fn.of [.wait 6, .nm 10 (vI (m.List.length : Int)), .wait 2, .mask [1, 9, 10, 11], .ren [], .loop (X.out 0) (st 22 [] [] [])] (p := [vI ((List.map E120 m.List).length : Int) = vI (m.List.length : Int),Loop Tryz.prog (sub (codeOf Tryz.prog 93) [1, 0, 1, 0, 0]) (st 22 [(1, vI no), (9, V.sl false 120 (List.map E120 m.List)), (10, vI (m.List.length : Int)), (11, vI 0)] [] []) (X.out 0) (st 22 [] [] [])]) (by kernel_rfl) (cj (len_nm _ _) (cj1 ((impl_FieldOf_l0_ok m no h4 m.List [] rfl r1 h5).at h6 :))))) (fun s2 h7 =>
   Pn.some (Fn.of [.wait 6, .nm 10 (vI (m.List.length : Int)), .wait 2, .mask [1, 9, 10, 11], .ren [], .loop (X.ret) (st 22 [(4, V.sc (.string s2)), (5, V.sc (.bool true))] [] [])] (p := [vI ((List.map E120 m.List).length : Int) = vI (m.List.length : Int),Loop Tryz.prog (sub (codeOf Tryz.prog 93) [1, 0, 1, 0, 0]) (st 22 [(1, vI no), (9, V.sl false 120 (List.map E120 m.List)), (10, vI (m.List.length : Int)), (11, vI 0)] [] []) (X.ret) (st 22 [(4, V.sc (.string s2)), (5, V.sc (.bool true))] [] [])]) (by kernel_rfl) (cj (len_nm _ _) (cj1 ((impl_FieldOf_l0_ok m no h4 m.List [] rfl r1 h5).at h7 :))))))) (fun h4 =>
   Pn.none)
def impl_ReqOf_1 (r_ : opRow) (c0_0 : ByteArray) (c0_1 : List Field) (c1_0 : ByteArray) : Option (Bool) :=
 if (r_.mti == c0_0) = true then
 if (decide (0 ≤ 2)) = true then
 if (decide (2 ≤ (c1_0.size : Int))) = true then
 some (r_.code == (c1_0.extract 0 2))
 else none
 else none
 else
 some false
theorem impl_ReqOf_1_ok (r_ : opRow) (c0_0 : ByteArray) (c0_1 : List Field) (c1_0 : ByteArray) : Pn (fun y => Fn Tryz.prog 96 [(false, E87 r_), (false, V.cp [V.sc (.string c0_0), V.sl true 120 (List.map E120 c0_1)]), (false, V.cp [V.sc (.string c1_0)])] (E4 y) []) (impl_ReqOf_1 r_ c0_0 c0_1 c1_0) := by
  unfold impl_ReqOf_1
  exact
   Pn.ite (fun h1 =>
   Pn.ite (fun h2 =>
   Pn.ite (fun h3 =>
   Pn.some (Fn.of [.draw [], .bit true, .bit true, .bit true, .bit true, .bit true, .bit true] (p := [(r_.mti == c0_0) = true,(r_.mti == c0_0) = true,(r_.mti == c0_0) = true,(r_.mti == c0_0) = true,(0 : Int) ≤ 0,(0 : Int) ≤ 2,(2 : Int) ≤ (c1_0.size : Int),(r_.mti == c0_0) = true,(r_.mti == c0_0) = true]) (by kernel_rfl) (cj h1 (cj h1 (cj h1 (cj h1 (cj (by decide) (cj (od h2) (cj (od h3) (cj h1 (cj1 h1))))))))))) (fun h3 =>
   Pn.none)) (fun h2 =>
   Pn.none)) (fun h1 =>
   Pn.some (Fn.of [.draw [], .bit false, .bit false, .bit false, .bit false, .bit false, .bit false] (p := [(r_.mti == c0_0) = false,(r_.mti == c0_0) = false,(r_.mti == c0_0) = false,(r_.mti == c0_0) = false,(r_.mti == c0_0) = false,(r_.mti == c0_0) = false]) (by kernel_rfl) (cj h1 (cj h1 (cj h1 (cj h1 (cj h1 (cj1 h1))))))))
def slices_IndexFunc_impl_opRow_impl_ReqOf_1_l0 (s_ : List opRow) (f0_0 : ByteArray) (f0_1 : List Field) (f1_0 : ByteArray) : List opRow → List opRow → Option (Lo Unit Int)
  | [], p1 =>
   some (.out ())
  | x1 :: t1, p1 =>
   (impl_ReqOf_1 x1 f0_0 f0_1 f1_0).bind fun r1 =>
   if r1 = true then
   some (.ret (p1.length : Int))
   else
   slices_IndexFunc_impl_opRow_impl_ReqOf_1_l0 s_ f0_0 f0_1 f1_0 t1 (p1 ++ [x1])
theorem slices_IndexFunc_impl_opRow_impl_ReqOf_1_l0_ok (s_ : List opRow) (f0_0 : ByteArray) (f0_1 : List Field) (f1_0 : ByteArray) (h2 : capOk s_.length = true) : ∀ (t1 p1 : List opRow) (_ : s_ = p1 ++ t1) , Pn (LpO Tryz.prog (sub (codeOf Tryz.prog 94) [1, 0, 1, 0, 0]) (st 19 [(0, V.sl false 87 (List.map E87 s_)), (1, V.fn 96 [V.cp [V.sc (.string f0_0), V.sl true 120 (List.map E120 f0_1)], V.cp [V.sc (.string f1_0)]]), (7, vI (s_.length : Int)), (8, vI (p1.length : Int))] [] []) (fun (y : Lo Unit Int) => Lo.elim y (fun s => (X.out 0, st 19 [] [] [])) (fun s => (X.ret, st 19 [(4, vI s)] [] [])))) (slices_IndexFunc_impl_opRow_impl_ReqOf_1_l0 s_ f0_0 f0_1 f1_0 t1 p1)
  | [], p1, h1 => by
    unfold slices_IndexFunc_impl_opRow_impl_ReqOf_1_l0
    exact
     Pn.some (LpO.out [.bit false, .mask [], .ren []] (p := [(decide ((p1.length : Int) < (s_.length : Int))) = false]) (by kernel_rfl) (show X.out 0 ≠ X.go from nofun) (cj1 (rng_end h1)))
  | x1 :: t1, p1, h1 => by
    unfold slices_IndexFunc_impl_opRow_impl_ReqOf_1_l0
    exact
     Pn.bind (fun r1 h3 =>
     Pn.ite (fun h4 =>
     Pn.some (LpO.out [.bit true, .el (E87 x1), .call [] (E4 r1) [], .bit true, .wait 2, .mask [4], .ren []] (p := [(decide ((p1.length : Int) < (s_.length : Int))) = true,(0 : Int) ≤ (p1.length : Int),(List.map E87 s_)[(p1.length : Int).toNat]? = some (E87 x1),Fn Tryz.prog 96 [(false, E87 x1), (false, V.cp [V.sc (.string f0_0), V.sl true 120 (List.map E120 f0_1)]), (false, V.cp [V.sc (.string f1_0)])] (E4 r1) [],(true || ((E4 r1).nv && nvL [])) = true,r1 = true]) (by kernel_rfl) (show X.ret ≠ X.go from nofun) (cj (rng_lt h1) (cj (by omega) (cj (rng_get _ h1) (cj (impl_ReqOf_1_ok x1 f0_0 f0_1 f1_0 r1 h3) (cj rfl (cj1 h4)))))))) (fun h4 =>
     LpO.go [.bit true, .el (E87 x1), .call [] (E4 r1) [], .bit false, .wait 2, .mask [0, 1, 7, 8], .ren [], .nm 8 (vI ((p1 ++ [x1]).length : Int))] (p := [(decide ((p1.length : Int) < (s_.length : Int))) = true,(0 : Int) ≤ (p1.length : Int),(List.map E87 s_)[(p1.length : Int).toNat]? = some (E87 x1),Fn Tryz.prog 96 [(false, E87 x1), (false, V.cp [V.sc (.string f0_0), V.sl true 120 (List.map E120 f0_1)]), (false, V.cp [V.sc (.string f1_0)])] (E4 r1) [],(true || ((E4 r1).nv && nvL [])) = true,r1 = false,vI (i64 ((p1.length : Int) + 1)) = vI ((p1 ++ [x1]).length : Int)]) (by kernel_rfl) (cj (rng_lt h1) (cj (by omega) (cj (rng_get _ h1) (cj (impl_ReqOf_1_ok x1 f0_0 f0_1 f1_0 r1 h3) (cj rfl (cj h4 (cj1 (rng_next h1 h2)))))))) (slices_IndexFunc_impl_opRow_impl_ReqOf_1_l0_ok s_ f0_0 f0_1 f1_0 h2 t1 (p1 ++ [x1]) (rng_step h1))))
def slices_IndexFunc_impl_opRow_impl_ReqOf_1 (s_ : List opRow) (f0_0 : ByteArray) (f0_1 : List Field) (f1_0 : ByteArray) : Option (Int) :=
 if (capOk s_.length) = true then
 (slices_IndexFunc_impl_opRow_impl_ReqOf_1_l0 s_ f0_0 f0_1 f1_0 s_ []).bind fun r2 =>
 Lo.elim r2 (fun s1 =>
 some (-1)) (fun s2 =>
 some s2)
 else none
theorem slices_IndexFunc_impl_opRow_impl_ReqOf_1_ok (s_ : List opRow) (f0_0 : ByteArray) (f0_1 : List Field) (f1_0 : ByteArray) : Pn (fun y => Fn Tryz.prog 94 [(false, E127 s_), (false, V.fn 96 [V.cp [V.sc (.string f0_0), V.sl true 120 (List.map E120 f0_1)], V.cp [V.sc (.string f1_0)]])] (E3 y) []) (slices_IndexFunc_impl_opRow_impl_ReqOf_1 s_ f0_0 f0_1 f1_0) := by
  unfold slices_IndexFunc_impl_opRow_impl_ReqOf_1
  exact
   Pn.ite (fun h5 =>
   Pn.bind (fun r2 h6 =>
   Pn.lo (fun s1 h7 =>
   Pn.some (Fn.of [.wait 3, .nm 7 (vI (s_.length : Int)), .wait 2, .mask [0, 1, 7, 8], .ren [], .loop (X.out 0) (st 19 [] [] [])] (p := [vI ((List.map E87 s_).length : Int) = vI (s_.length : Int),Loop Tryz.prog (sub (codeOf Tryz.prog 94) [1, 0, 1, 0, 0]) (st 19 [(0, V.sl false 87 (List.map E87 s_)), (1, V.fn 96 [V.cp [V.sc (.string f0_0), V.sl true 120 (List.map E120 f0_1)], V.cp [V.sc (.string f1_0)]]), (7, vI (s_.length : Int)), (8, vI 0)] [] []) (X.out 0) (st 19 [] [] [])]) (by kernel_rfl) (cj (len_nm _ _) (cj1 ((slices_IndexFunc_impl_opRow_impl_ReqOf_1_l0_ok s_ f0_0 f0_1 f1_0 h5 s_ [] rfl r2 h6).at h7 :))))) (fun s2 h8 =>
   Pn.some (Fn.of [.wait 3, .nm 7 (vI (s_.length : Int)), .wait 2, .mask [0, 1, 7, 8], .ren [], .loop (X.ret) (st 19 [(4, vI s2)] [] [])] (p := [vI ((List.map E87 s_).length : Int) = vI (s_.length : Int),Loop Tryz.prog (sub (codeOf Tryz.prog 94) [1, 0, 1, 0, 0]) (st 19 [(0, V.sl false 87 (List.map E87 s_)), (1, V.fn 96 [V.cp [V.sc (.string f0_0), V.sl true 120 (List.map E120 f0_1)], V.cp [V.sc (.string f1_0)]]), (7, vI (s_.length : Int)), (8, vI 0)] [] []) (X.ret) (st 19 [(4, vI s2)] [] [])]) (by kernel_rfl) (cj (len_nm _ _) (cj1 ((slices_IndexFunc_impl_opRow_impl_ReqOf_1_l0_ok s_ f0_0 f0_1 f1_0 h5 s_ [] rfl r2 h6).at h8 :))))))) (fun h5 =>
   Pn.none)
def impl_Narrow (s_ : ByteArray) : Option (Int × Bool) := (impl_Digits s_).bind fun r1 => if (r1 && decide (s_.size ≤ 18)) = true then (match Lib.atoiAll s_.data.toList with | .ok v => some (v, true) | _ => none) else (if (decide (s_.size ≤ 140737488355328)) = true then some (0, false) else none)
theorem impl_Narrow_ok (s_ : ByteArray) : Pn (fun y => Fn Tryz.prog 97 [(false, E9 s_)] (V.tup [E3 y.1, E4 y.2]) []) (impl_Narrow s_) := by
  unfold impl_Narrow
  refine Pn.bind (fun r1 h1 => ?_)
  have hD := fun w hw => Fn.calls [.string s_] (impl_Digits_ok s_ r1 h1) (r := .bool r1) rfl w hw
  rcases tfB (r1 && decide (s_.size ≤ 18)) with hr | hr
  · rw [hr, if_pos rfl]
    simp only [Bool.and_eq_true, decide_eq_true_eq] at hr
    obtain ⟨rfl, hs⟩ := hr
    have hs2 : ¬ (18 : Int) < (s_.size : Int) := by omega
    cases hv : Lib.atoiAll s_.data.toList with
    | ok v =>
      refine Pn.some (Fn.flats [.string s_] (by kernel_rfl) rfl (rs := [.int .i64 v, .bool true]) (fun w hw => ?_))
      have hA := fun w => Go.Proofs.Any.strconv_Atoi_ok Tryz.laysC172 s_ (by omega) v hv w
      go_enter Tryz.func97, Tryz.ntmps97
      go_wp2_with (go_at_call 154; refine (hD _ hw).mono ?_; rintro e w1 ⟨rfl, hb1⟩)
      go_wp2_with (go_at_call 113; refine (hA _).mono ?_; rintro e w2 ⟨rfl, hb2⟩)
      go_wp2
      go_ret2
      exact ⟨rfl, below_then hb1 (below_bytes hb2)⟩
    | «syntax» => exact Pn.none
    | range => exact Pn.none
  · rw [hr, if_neg (by simp)]
    refine Pn.ite (fun hz => ?_) (fun _ => Pn.none)
    have hz := of_decide_eq_true hz
    refine Pn.some (Fn.flats [.string s_] (by kernel_rfl) rfl (rs := [.int .i64 0, .bool false]) (fun w hw => ?_))
    cases r1 with
    | true =>
      simp only [Bool.true_and, decide_eq_false_iff_not] at hr
      have hs2 : (18 : Int) < (s_.size : Int) := by omega
      go_enter Tryz.func97, Tryz.ntmps97
      go_wp2_with (go_at_call 154; refine (hD _ hw).mono ?_; rintro e w1 ⟨rfl, hb1⟩)
      go_wp2
      go_ret2
      exact ⟨rfl, hb1⟩
    | false =>
      go_enter Tryz.func97, Tryz.ntmps97
      go_wp2_with (go_at_call 154; refine (hD _ hw).mono ?_; rintro e w1 ⟨rfl, hb1⟩)
      go_wp2
      go_ret2
      exact ⟨rfl, hb1⟩
def strings_TrimRight (s_ : ByteArray) (cutset : ByteArray) : Option (ByteArray) := if (decide (s_.size ≤ 9223372036854775807) && decide (cutset = bs [32])) = true then some (trimP s_ 32) else none
theorem strings_TrimRight_ok (s_ : ByteArray) (cutset : ByteArray) : Pn (fun y => Fn Tryz.prog 155 [(false, E9 s_), (false, E9 cutset)] (E9 y) []) (strings_TrimRight s_ cutset) := by
  unfold strings_TrimRight
  exact Pn.ite (fun h => Pn.some (by
    simp only [Bool.and_eq_true, decide_eq_true_eq] at h
    exact Fn.flat [(.string s_), (.string cutset)] (by kernel_rfl) rfl (fun w hw => by
      rw [h.2]
      exact (Go.Proofs.Any.strings_TrimRight_one Tryz.lays162 s_ 32 (by decide) w h.1).mono fun e w2 ⟨h1, h2⟩ => ⟨h1, h2 ▸ Below.refl _ _⟩))) (fun _ => Pn.none)
def impl_FieldBare (s_ : ByteArray) : Option (ByteArray) :=
 (strings_TrimRight s_ (bs [32])).bind fun r1 =>
 some r1
theorem impl_FieldBare_ok (s_ : ByteArray) : Pn (fun y => Fn Tryz.prog 98 [(false, E9 s_)] (E9 y) []) (impl_FieldBare s_) := by
  unfold impl_FieldBare
  exact
   Pn.bind (fun r1 h1 =>
   Pn.some (Fn.of [.call [] (E9 r1) []] (p := [Fn Tryz.prog 155 [(false, E9 s_), (false, E9 (bs [32]))] (E9 r1) [],(true || ((E9 r1).nv && nvL [])) = true]) (by kernel_rfl) (cj (strings_TrimRight_ok s_ (bs [32]) r1 h1) (cj1 rfl))))
def impl_ReqOf_l0 (o : Msg) (r5 : Int) (r6 : opRow) : List Int → ByteArray → ByteArray → ByteArray → ByteArray → Int → Int → Option (Lo (ByteArray × ByteArray × ByteArray × ByteArray × Int × Int) Unit)
  | [], v1, v2, v3, v4, v5, v6 =>
   some (.out (v1, v2, v3, v4, v5, v6))
  | x1 :: t1, v1, v2, v3, v4, v5, v6 =>
   (impl_FieldOf o x1).bind fun r7 =>
   if r7.2 = true then
   if (x1 == 2) = true then
   impl_ReqOf_l0 o r5 r6 t1 r7.1 v2 v3 v4 v5 v6
   else
   if (x1 == 4) = true then
   (impl_Narrow r7.1).bind fun r8 =>
   impl_ReqOf_l0 o r5 r6 t1 v1 v2 v3 v4 r8.1 v6
   else
   if (x1 == 11) = true then
   impl_ReqOf_l0 o r5 r6 t1 v1 v2 v3 r7.1 v5 v6
   else
   if (x1 == 14) = true then
   (impl_Narrow r7.1).bind fun r9 =>
   impl_ReqOf_l0 o r5 r6 t1 v1 v2 v3 v4 v5 r9.1
   else
   if (x1 == 38) = true then
   (impl_FieldBare r7.1).bind fun r10 =>
   impl_ReqOf_l0 o r5 r6 t1 v1 v2 r10 v4 v5 v6
   else
   if (x1 == 103) = true then
   impl_ReqOf_l0 o r5 r6 t1 v1 r7.1 v3 v4 v5 v6
   else
   impl_ReqOf_l0 o r5 r6 t1 v1 v2 v3 v4 v5 v6
   else
   some (.ret ())
theorem impl_ReqOf_l0_ok (o : Msg) (r5 : Int) (r6 : opRow) (h12 : capOk ([2, 11] ++ r6.fields).length = true) : ∀ (t1 p1 : List Int) (_ : ([2, 11] ++ r6.fields) = p1 ++ t1) (v1 : ByteArray) (v2 : ByteArray) (v3 : ByteArray) (v4 : ByteArray) (v5 : Int) (v6 : Int), Pn (LpO Tryz.prog (sub (codeOf Tryz.prog 36) [1, 1, 1, 1, 1, 1, 1, 0, 1, 0, 0]) (st 96 [(1, V.ptr 0 0), (2, V.ptr 1 0), (6, V.ptr 2 0), (41, V.ow 3), (42, vI (([2, 11] ++ r6.fields).length : Int)), (43, vI (p1.length : Int))] [Blk.box 72 [V.sc (.string o.Mti), V.sl false 120 (List.map E120 o.List)], Blk.box 23 [vI 0, V.sc (.string ByteArray.empty), V.sc (.string ByteArray.empty), V.sc (.string ByteArray.empty), V.sc (.string ByteArray.empty), V.sc (.string ByteArray.empty), vI 0, vI 0], Blk.box 23 [vI (i64 (1 + r5)), V.sc (.string v1), V.sc (.string v2), V.sc (.string v3), V.sc (.string v4), V.sc (.string o.Mti), vI v5, vI v6], Blk.row 3 (List.map E3 ([2, 11] ++ r6.fields)) []] []) (fun (y : Lo (ByteArray × ByteArray × ByteArray × ByteArray × Int × Int) Unit) => Lo.elim y (fun s => (X.out 0, st 96 [(2, V.ptr 0 0), (6, V.ptr 1 0)] [Blk.box 23 [vI 0, V.sc (.string ByteArray.empty), V.sc (.string ByteArray.empty), V.sc (.string ByteArray.empty), V.sc (.string ByteArray.empty), V.sc (.string ByteArray.empty), vI 0, vI 0], Blk.box 23 [vI (i64 (1 + r5)), V.sc (.string s.1), V.sc (.string s.2.1), V.sc (.string s.2.2.1), V.sc (.string s.2.2.2.1), V.sc (.string o.Mti), vI s.2.2.2.2.1, vI s.2.2.2.2.2]] [])) (fun s => (X.ret, st 96 [(2, V.ptr 0 0), (3, vI 1)] [Blk.box 23 [vI 0, V.sc (.string ByteArray.empty), V.sc (.string ByteArray.empty), V.sc (.string ByteArray.empty), V.sc (.string ByteArray.empty), V.sc (.string ByteArray.empty), vI 0, vI 0]] [])))) (impl_ReqOf_l0 o r5 r6 t1 v1 v2 v3 v4 v5 v6)
  | [], p1, h11, v1, v2, v3, v4, v5, v6 => by
    unfold impl_ReqOf_l0
    exact
     Pn.some (LpO.out [.bit false, .mask [2, 6], .ren [1, 2]] (p := [(decide ((p1.length : Int) < (([2, 11] ++ r6.fields).length : Int))) = false]) (by kernel_rfl) (show X.out 0 ≠ X.go from nofun) (cj1 (rng_end h11)))
  | x1 :: t1, p1, h11, v1, v2, v3, v4, v5, v6 => by
    unfold impl_ReqOf_l0
    exact
     Pn.bind (fun r7 h13 =>
     Pn.ite (fun h14 =>
     Pn.ite (fun h15 =>
     LpO.go [.bit true, .el (E3 x1), .call [] (V.tup [E9 r7.1, E4 r7.2]) [], .bit false, .bit true, .wait 5, .mask [1, 2, 6, 41, 42, 43], .ren [0, 1, 2, 3], .nm 43 (vI ((p1 ++ [x1]).length : Int))] (p := [(decide ((p1.length : Int) < (([2, 11] ++ r6.fields).length : Int))) = true,(0 : Int) ≤ (p1.length : Int),((p1.length : Int) : Int) < ((List.map E3 ([2, 11] ++ r6.fields)).length : Int),look [] ((p1.length : Int).toNat) = none,(List.map E3 ([2, 11] ++ r6.fields))[(p1.length : Int).toNat]? = some (E3 x1),Fn Tryz.prog 93 [(false, E72 o), (false, E3 x1)] (V.tup [E9 r7.1, E4 r7.2]) [],(true || ((V.tup [E9 r7.1, E4 r7.2]).nv && nvL [])) = true,(!r7.2) = false,(x1 == 2) = true,vI (i64 ((p1.length : Int) + 1)) = vI ((p1 ++ [x1]).length : Int)]) (by kernel_rfl) (cj (rng_lt h11) (cj (by omega) (cj (rng_ltI _ h11) (cj rfl (cj (rng_get _ h11) (cj (impl_FieldOf_ok o x1 r7 h13) (cj rfl (cj (nf h14) (cj h15 (cj1 (rng_next h11 h12))))))))))) (impl_ReqOf_l0_ok o r5 r6 h12 t1 (p1 ++ [x1]) (rng_step h11) r7.1 v2 v3 v4 v5 v6)) (fun h15 =>
     Pn.ite (fun h16 =>
     Pn.bind (fun r8 h17 =>
     LpO.go [.bit true, .el (E3 x1), .call [] (V.tup [E9 r7.1, E4 r7.2]) [], .bit false, .bit false, .bit true, .call [] (V.tup [E3 r8.1, E4 r8.2]) [], .wait 8, .mask [1, 2, 6, 41, 42, 43], .ren [0, 1, 2, 3], .nm 43 (vI ((p1 ++ [x1]).length : Int))] (p := [(decide ((p1.length : Int) < (([2, 11] ++ r6.fields).length : Int))) = true,(0 : Int) ≤ (p1.length : Int),((p1.length : Int) : Int) < ((List.map E3 ([2, 11] ++ r6.fields)).length : Int),look [] ((p1.length : Int).toNat) = none,(List.map E3 ([2, 11] ++ r6.fields))[(p1.length : Int).toNat]? = some (E3 x1),Fn Tryz.prog 93 [(false, E72 o), (false, E3 x1)] (V.tup [E9 r7.1, E4 r7.2]) [],(true || ((V.tup [E9 r7.1, E4 r7.2]).nv && nvL [])) = true,(!r7.2) = false,(x1 == 2) = false,(x1 == 4) = true,Fn Tryz.prog 97 [(false, E9 r7.1)] (V.tup [E3 r8.1, E4 r8.2]) [],(true || ((V.tup [E3 r8.1, E4 r8.2]).nv && nvL [])) = true,vI (i64 ((p1.length : Int) + 1)) = vI ((p1 ++ [x1]).length : Int)]) (by kernel_rfl) (cj (rng_lt h11) (cj (by omega) (cj (rng_ltI _ h11) (cj rfl (cj (rng_get _ h11) (cj (impl_FieldOf_ok o x1 r7 h13) (cj rfl (cj (nf h14) (cj h15 (cj h16 (cj (impl_Narrow_ok r7.1 r8 h17) (cj rfl (cj1 (rng_next h11 h12)))))))))))))) (impl_ReqOf_l0_ok o r5 r6 h12 t1 (p1 ++ [x1]) (rng_step h11) v1 v2 v3 v4 r8.1 v6))) (fun h16 =>
     Pn.ite (fun h18 =>
     LpO.go [.bit true, .el (E3 x1), .call [] (V.tup [E9 r7.1, E4 r7.2]) [], .bit false, .bit false, .bit false, .bit true, .wait 5, .mask [1, 2, 6, 41, 42, 43], .ren [0, 1, 2, 3], .nm 43 (vI ((p1 ++ [x1]).length : Int))] (p := [(decide ((p1.length : Int) < (([2, 11] ++ r6.fields).length : Int))) = true,(0 : Int) ≤ (p1.length : Int),((p1.length : Int) : Int) < ((List.map E3 ([2, 11] ++ r6.fields)).length : Int),look [] ((p1.length : Int).toNat) = none,(List.map E3 ([2, 11] ++ r6.fields))[(p1.length : Int).toNat]? = some (E3 x1),Fn Tryz.prog 93 [(false, E72 o), (false, E3 x1)] (V.tup [E9 r7.1, E4 r7.2]) [],(true || ((V.tup [E9 r7.1, E4 r7.2]).nv && nvL [])) = true,(!r7.2) = false,(x1 == 2) = false,(x1 == 4) = false,(x1 == 11) = true,vI (i64 ((p1.length : Int) + 1)) = vI ((p1 ++ [x1]).length : Int)]) (by kernel_rfl) (cj (rng_lt h11) (cj (by omega) (cj (rng_ltI _ h11) (cj rfl (cj (rng_get _ h11) (cj (impl_FieldOf_ok o x1 r7 h13) (cj rfl (cj (nf h14) (cj h15 (cj h16 (cj h18 (cj1 (rng_next h11 h12))))))))))))) (impl_ReqOf_l0_ok o r5 r6 h12 t1 (p1 ++ [x1]) (rng_step h11) v1 v2 v3 r7.1 v5 v6)) (fun h18 =>
     Pn.ite (fun h19 =>
     Pn.bind (fun r9 h20 =>
     LpO.go [.bit true, .el (E3 x1), .call [] (V.tup [E9 r7.1, E4 r7.2]) [], .bit false, .bit false, .bit false, .bit false, .bit true, .call [] (V.tup [E3 r9.1, E4 r9.2]) [], .wait 8, .mask [1, 2, 6, 41, 42, 43], .ren [0, 1, 2, 3], .nm 43 (vI ((p1 ++ [x1]).length : Int))] (p := [(decide ((p1.length : Int) < (([2, 11] ++ r6.fields).length : Int))) = true,(0 : Int) ≤ (p1.length : Int),((p1.length : Int) : Int) < ((List.map E3 ([2, 11] ++ r6.fields)).length : Int),look [] ((p1.length : Int).toNat) = none,(List.map E3 ([2, 11] ++ r6.fields))[(p1.length : Int).toNat]? = some (E3 x1),Fn Tryz.prog 93 [(false, E72 o), (false, E3 x1)] (V.tup [E9 r7.1, E4 r7.2]) [],(true || ((V.tup [E9 r7.1, E4 r7.2]).nv && nvL [])) = true,(!r7.2) = false,(x1 == 2) = false,(x1 == 4) = false,(x1 == 11) = false,(x1 == 14) = true,Fn Tryz.prog 97 [(false, E9 r7.1)] (V.tup [E3 r9.1, E4 r9.2]) [],(true || ((V.tup [E3 r9.1, E4 r9.2]).nv && nvL [])) = true,vI (i64 ((p1.length : Int) + 1)) = vI ((p1 ++ [x1]).length : Int)]) (by kernel_rfl) (cj (rng_lt h11) (cj (by omega) (cj (rng_ltI _ h11) (cj rfl (cj (rng_get _ h11) (cj (impl_FieldOf_ok o x1 r7 h13) (cj rfl (cj (nf h14) (cj h15 (cj h16 (cj h18 (cj h19 (cj (impl_Narrow_ok r7.1 r9 h20) (cj rfl (cj1 (rng_next h11 h12)))))))))))))))) (impl_ReqOf_l0_ok o r5 r6 h12 t1 (p1 ++ [x1]) (rng_step h11) v1 v2 v3 v4 v5 r9.1))) (fun h19 =>
     Pn.ite (fun h21 =>
     Pn.bind (fun r10 h22 =>
     LpO.go [.bit true, .el (E3 x1), .call [] (V.tup [E9 r7.1, E4 r7.2]) [], .bit false, .bit false, .bit false, .bit false, .bit false, .bit true, .call [] (E9 r10) [], .wait 5, .mask [1, 2, 6, 41, 42, 43], .ren [0, 1, 2, 3], .nm 43 (vI ((p1 ++ [x1]).length : Int))] (p := [(decide ((p1.length : Int) < (([2, 11] ++ r6.fields).length : Int))) = true,(0 : Int) ≤ (p1.length : Int),((p1.length : Int) : Int) < ((List.map E3 ([2, 11] ++ r6.fields)).length : Int),look [] ((p1.length : Int).toNat) = none,(List.map E3 ([2, 11] ++ r6.fields))[(p1.length : Int).toNat]? = some (E3 x1),Fn Tryz.prog 93 [(false, E72 o), (false, E3 x1)] (V.tup [E9 r7.1, E4 r7.2]) [],(true || ((V.tup [E9 r7.1, E4 r7.2]).nv && nvL [])) = true,(!r7.2) = false,(x1 == 2) = false,(x1 == 4) = false,(x1 == 11) = false,(x1 == 14) = false,(x1 == 38) = true,Fn Tryz.prog 98 [(false, E9 r7.1)] (E9 r10) [],(true || ((E9 r10).nv && nvL [])) = true,vI (i64 ((p1.length : Int) + 1)) = vI ((p1 ++ [x1]).length : Int)]) (by kernel_rfl) (cj (rng_lt h11) (cj (by omega) (cj (rng_ltI _ h11) (cj rfl (cj (rng_get _ h11) (cj (impl_FieldOf_ok o x1 r7 h13) (cj rfl (cj (nf h14) (cj h15 (cj h16 (cj h18 (cj h19 (cj h21 (cj (impl_FieldBare_ok r7.1 r10 h22) (cj rfl (cj1 (rng_next h11 h12))))))))))))))))) (impl_ReqOf_l0_ok o r5 r6 h12 t1 (p1 ++ [x1]) (rng_step h11) v1 v2 r10 v4 v5 v6))) (fun h21 =>
     Pn.ite (fun h23 =>
     LpO.go [.bit true, .el (E3 x1), .call [] (V.tup [E9 r7.1, E4 r7.2]) [], .bit false, .bit false, .bit false, .bit false, .bit false, .bit false, .bit true, .wait 5, .mask [1, 2, 6, 41, 42, 43], .ren [0, 1, 2, 3], .nm 43 (vI ((p1 ++ [x1]).length : Int))] (p := [(decide ((p1.length : Int) < (([2, 11] ++ r6.fields).length : Int))) = true,(0 : Int) ≤ (p1.length : Int),((p1.length : Int) : Int) < ((List.map E3 ([2, 11] ++ r6.fields)).length : Int),look [] ((p1.length : Int).toNat) = none,(List.map E3 ([2, 11] ++ r6.fields))[(p1.length : Int).toNat]? = some (E3 x1),Fn Tryz.prog 93 [(false, E72 o), (false, E3 x1)] (V.tup [E9 r7.1, E4 r7.2]) [],(true || ((V.tup [E9 r7.1, E4 r7.2]).nv && nvL [])) = true,(!r7.2) = false,(x1 == 2) = false,(x1 == 4) = false,(x1 == 11) = false,(x1 == 14) = false,(x1 == 38) = false,(x1 == 103) = true,vI (i64 ((p1.length : Int) + 1)) = vI ((p1 ++ [x1]).length : Int)]) (by kernel_rfl) (cj (rng_lt h11) (cj (by omega) (cj (rng_ltI _ h11) (cj rfl (cj (rng_get _ h11) (cj (impl_FieldOf_ok o x1 r7 h13) (cj rfl (cj (nf h14) (cj h15 (cj h16 (cj h18 (cj h19 (cj h21 (cj h23 (cj1 (rng_next h11 h12)))))))))))))))) (impl_ReqOf_l0_ok o r5 r6 h12 t1 (p1 ++ [x1]) (rng_step h11) v1 r7.1 v3 v4 v5 v6)) (fun h23 =>
     LpO.go [.bit true, .el (E3 x1), .call [] (V.tup [E9 r7.1, E4 r7.2]) [], .bit false, .bit false, .bit false, .bit false, .bit false, .bit false, .bit false, .wait 2, .mask [1, 2, 6, 41, 42, 43], .ren [0, 1, 2, 3], .nm 43 (vI ((p1 ++ [x1]).length : Int))] (p := [(decide ((p1.length : Int) < (([2, 11] ++ r6.fields).length : Int))) = true,(0 : Int) ≤ (p1.length : Int),((p1.length : Int) : Int) < ((List.map E3 ([2, 11] ++ r6.fields)).length : Int),look [] ((p1.length : Int).toNat) = none,(List.map E3 ([2, 11] ++ r6.fields))[(p1.length : Int).toNat]? = some (E3 x1),Fn Tryz.prog 93 [(false, E72 o), (false, E3 x1)] (V.tup [E9 r7.1, E4 r7.2]) [],(true || ((V.tup [E9 r7.1, E4 r7.2]).nv && nvL [])) = true,(!r7.2) = false,(x1 == 2) = false,(x1 == 4) = false,(x1 == 11) = false,(x1 == 14) = false,(x1 == 38) = false,(x1 == 103) = false,vI (i64 ((p1.length : Int) + 1)) = vI ((p1 ++ [x1]).length : Int)]) (by kernel_rfl) (cj (rng_lt h11) (cj (by omega) (cj (rng_ltI _ h11) (cj rfl (cj (rng_get _ h11) (cj (impl_FieldOf_ok o x1 r7 h13) (cj rfl (cj (nf h14) (cj h15 (cj h16 (cj h18 (cj h19 (cj h21 (cj h23 (cj1 (rng_next h11 h12)))))))))))))))) (impl_ReqOf_l0_ok o r5 r6 h12 t1 (p1 ++ [x1]) (rng_step h11) v1 v2 v3 v4 v5 v6)))))))) (fun h14 =>
     Pn.some (LpO.out [.bit true, .el (E3 x1), .call [] (V.tup [E9 r7.1, E4 r7.2]) [], .bit true, .wait 3, .mask [2, 3], .ren [1]] (p := [(decide ((p1.length : Int) < (([2, 11] ++ r6.fields).length : Int))) = true,(0 : Int) ≤ (p1.length : Int),((p1.length : Int) : Int) < ((List.map E3 ([2, 11] ++ r6.fields)).length : Int),look [] ((p1.length : Int).toNat) = none,(List.map E3 ([2, 11] ++ r6.fields))[(p1.length : Int).toNat]? = some (E3 x1),Fn Tryz.prog 93 [(false, E72 o), (false, E3 x1)] (V.tup [E9 r7.1, E4 r7.2]) [],(true || ((V.tup [E9 r7.1, E4 r7.2]).nv && nvL [])) = true,(!r7.2) = true]) (by kernel_rfl) (show X.ret ≠ X.go from nofun) (cj (rng_lt h11) (cj (by omega) (cj (rng_ltI _ h11) (cj rfl (cj (rng_get _ h11) (cj (impl_FieldOf_ok o x1 r7 h13) (cj rfl (cj1 (nt h14))))))))))))
def impl_ReqOf (o : Msg) : Option (Req × Int) :=
 (impl_MsgOk o).bind fun r1 =>
 if r1 = true then
 (impl_MtiKnown o.Mti).bind fun r2 =>
 if r2 = true then
 (impl_FieldOf o 3).bind fun r3 =>
 if r3.2 = true then
 (impl_opRows).bind fun r4 =>
 (slices_IndexFunc_impl_opRow_impl_ReqOf_1 r4 o.Mti o.List r3.1).bind fun r5 =>
 (impl_opOf (i64 (1 + r5))).bind fun r6 =>
 if (capOk (2 + r6.fields.length)) = true then
 if (capOk ([2, 11] ++ r6.fields).length) = true then
 (impl_ReqOf_l0 o r5 r6 ([2, 11] ++ r6.fields) ByteArray.empty ByteArray.empty ByteArray.empty ByteArray.empty 0 0).bind fun r11 =>
 Lo.elim r11 (fun s1 =>
 (impl_ReqOk (Req.mk (i64 (1 + r5)) s1.1 s1.2.1 s1.2.2.1 s1.2.2.2.1 o.Mti s1.2.2.2.2.1 s1.2.2.2.2.2)).bind fun r12 =>
 if r12 = true then
 some ((Req.mk (i64 (1 + r5)) s1.1 s1.2.1 s1.2.2.1 s1.2.2.2.1 o.Mti s1.2.2.2.2.1 s1.2.2.2.2.2), 0)
 else
 some ((Req.mk 0 ByteArray.empty ByteArray.empty ByteArray.empty ByteArray.empty ByteArray.empty 0 0), 1)) (fun s2 =>
 some ((Req.mk 0 ByteArray.empty ByteArray.empty ByteArray.empty ByteArray.empty ByteArray.empty 0 0), 1))
 else none
 else none
 else
 some ((Req.mk 0 ByteArray.empty ByteArray.empty ByteArray.empty ByteArray.empty ByteArray.empty 0 0), 1)
 else
 some ((Req.mk 0 ByteArray.empty ByteArray.empty ByteArray.empty ByteArray.empty ByteArray.empty 0 0), 2)
 else
 some ((Req.mk 0 ByteArray.empty ByteArray.empty ByteArray.empty ByteArray.empty ByteArray.empty 0 0), 1)
theorem impl_ReqOf_ok (o : Msg) : Pn (fun y => Fn Tryz.prog 36 [(false, E72 o)] (V.tup [E23 y.1, E3 y.2]) []) (impl_ReqOf o) := by
  unfold impl_ReqOf
  exact
   Pn.bind (fun r1 h1 =>
   Pn.ite (fun h2 =>
   Pn.bind (fun r2 h3 =>
   Pn.ite (fun h4 =>
   Pn.bind (fun r3 h5 =>
   Pn.ite (fun h6 =>
   Pn.bind (fun r4 h7 =>
   Pn.bind (fun r5 h8 =>
   Pn.bind (fun r6 h9 =>
   Pn.ite (fun h10 =>
   Pn.ite (fun h24 =>
   Pn.bind (fun r11 h25 =>
   Pn.lo (fun s1 h26 =>
   Pn.bind (fun r12 h28 =>
   Pn.ite (fun h29 =>
   Pn.some (Fn.of [.call [] (E4 r1) [], .bit false, .call [] (E4 r2) [], .bit false, .call [] (V.tup [E9 r3.1, E4 r3.2]) [], .bit false, .call [] (E127 r4) [], .call [] (E3 r5) [], .call [] (E87 r6) [], .cp (List.map E3 r6.fields), .nb 7 (.row 3 (List.map E3 ([2, 11] ++ r6.fields)) []), .wait 1, .nm 42 (vI (([2, 11] ++ r6.fields).length : Int)), .wait 2, .mask [1, 2, 6, 41, 42, 43], .ren [0, 1, 3, 7], .loop (X.out 0) (st 96 [(2, V.ptr 0 0), (6, V.ptr 1 0)] [Blk.box 23 [vI 0, V.sc (.string ByteArray.empty), V.sc (.string ByteArray.empty), V.sc (.string ByteArray.empty), V.sc (.string ByteArray.empty), V.sc (.string ByteArray.empty), vI 0, vI 0], Blk.box 23 [vI (i64 (1 + r5)), V.sc (.string s1.1), V.sc (.string s1.2.1), V.sc (.string s1.2.2.1), V.sc (.string s1.2.2.2.1), V.sc (.string o.Mti), vI s1.2.2.2.2.1, vI s1.2.2.2.2.2]] []), .call [] (E4 r12) [], .bit false] (p := [Fn Tryz.prog 92 [(false, E72 o)] (E4 r1) [],(true || ((E4 r1).nv && nvL [])) = true,(!r1) = false,Fn Tryz.prog 38 [(false, E9 o.Mti)] (E4 r2) [],(true || ((E4 r2).nv && nvL [])) = true,(!r2) = false,Fn Tryz.prog 93 [(false, E72 o), (false, E3 3)] (V.tup [E9 r3.1, E4 r3.2]) [],(true || ((V.tup [E9 r3.1, E4 r3.2]).nv && nvL [])) = true,(!r3.2) = false,Fn Tryz.prog 95 [] (E127 r4) [],(true || ((E127 r4).nv && nvL [])) = true,Fn Tryz.prog 94 [(false, E127 r4), (false, V.fn 96 [V.cp [V.sc (.string o.Mti), V.sl true 120 (List.map E120 o.List)], V.cp [V.sc (.string r3.1)]])] (E3 r5) [],(false || ((E3 r5).nv && nvL [])) = true,Fn Tryz.prog 50 [(false, E3 (i64 (1 + r5)))] (E87 r6) [],(true || ((E87 r6).nv && nvL [])) = true,(List.map E3 r6.fields) = (List.map E3 r6.fields),(List.map E3 r6.fields).all V.flatE = true,[vI 2, vI 11].length + (List.map E3 r6.fields).length ≤ 9223372036854775807,([vI 2, vI 11].length + (List.map E3 r6.fields).length) * 8 ≤ 140737488355328,Blk.row 3 ([vI 2, vI 11] ++ (List.map E3 r6.fields)) [] = Blk.row 3 (List.map E3 ([2, 11] ++ r6.fields)) [],vI ((List.map E3 ([2, 11] ++ r6.fields)).length : Int) = vI (([2, 11] ++ r6.fields).length : Int),Loop Tryz.prog (sub (codeOf Tryz.prog 36) [1, 1, 1, 1, 1, 1, 1, 0, 1, 0, 0]) (st 96 [(1, V.ptr 0 0), (2, V.ptr 1 0), (6, V.ptr 2 0), (41, V.ow 3), (42, vI (([2, 11] ++ r6.fields).length : Int)), (43, vI 0)] [Blk.box 72 [V.sc (.string o.Mti), V.sl false 120 (List.map E120 o.List)], Blk.box 23 [vI 0, V.sc (.string ByteArray.empty), V.sc (.string ByteArray.empty), V.sc (.string ByteArray.empty), V.sc (.string ByteArray.empty), V.sc (.string ByteArray.empty), vI 0, vI 0], Blk.box 23 [vI (i64 (1 + r5)), V.sc (.string ByteArray.empty), V.sc (.string ByteArray.empty), V.sc (.string ByteArray.empty), V.sc (.string ByteArray.empty), V.sc (.string o.Mti), vI 0, vI 0], Blk.row 3 (List.map E3 ([2, 11] ++ r6.fields)) []] []) (X.out 0) (st 96 [(2, V.ptr 0 0), (6, V.ptr 1 0)] [Blk.box 23 [vI 0, V.sc (.string ByteArray.empty), V.sc (.string ByteArray.empty), V.sc (.string ByteArray.empty), V.sc (.string ByteArray.empty), V.sc (.string ByteArray.empty), vI 0, vI 0], Blk.box 23 [vI (i64 (1 + r5)), V.sc (.string s1.1), V.sc (.string s1.2.1), V.sc (.string s1.2.2.1), V.sc (.string s1.2.2.2.1), V.sc (.string o.Mti), vI s1.2.2.2.2.1, vI s1.2.2.2.2.2]] []),Fn Tryz.prog 88 [(false, E23 (Req.mk (i64 (1 + r5)) s1.1 s1.2.1 s1.2.2.1 s1.2.2.2.1 o.Mti s1.2.2.2.2.1 s1.2.2.2.2.2))] (E4 r12) [],(true || ((E4 r12).nv && nvL [])) = true,(!r12) = false]) (by kernel_rfl) (cj (impl_MsgOk_ok o r1 h1) (cj rfl (cj (nf h2) (cj (impl_MtiKnown_ok o.Mti r2 h3) (cj rfl (cj (nf h4) (cj (impl_FieldOf_ok o 3 r3 h5) (cj rfl (cj (nf h6) (cj (impl_opRows_ok  r4 h7) (cj rfl (cj (slices_IndexFunc_impl_opRow_impl_ReqOf_1_ok r4 o.Mti o.List r3.1 r5 h8) (cj (by simp [V.nv, nvL, nvL_all, nv_E3]) (cj (impl_opOf_ok (i64 (1 + r5)) r6 h9) (cj rfl (cj rfl (cj (flat_map (fun _ => rfl) _) (cj (cap1 (capN (by simp) h10)) (cj (cap2 (capN (by simp) h10) (by decide)) (cj (nb_app E3 [2, 11] r6.fields) (cj (len_nm _ _) (cj (by have q := ((impl_ReqOf_l0_ok o r5 r6 h24 ([2, 11] ++ r6.fields) [] rfl ByteArray.empty ByteArray.empty ByteArray.empty ByteArray.empty 0 0 r11 h25).at h26 :); have e0 : (([] : List Int).length : Int) = 0 := rfl; rw [e0] at q; exact q) (cj (impl_ReqOk_ok (Req.mk (i64 (1 + r5)) s1.1 s1.2.1 s1.2.2.1 s1.2.2.2.1 o.Mti s1.2.2.2.2.1 s1.2.2.2.2.2) r12 h28) (cj rfl (cj1 (nf h29)))))))))))))))))))))))))))) (fun h29 =>
   Pn.some (Fn.of [.call [] (E4 r1) [], .bit false, .call [] (E4 r2) [], .bit false, .call [] (V.tup [E9 r3.1, E4 r3.2]) [], .bit false, .call [] (E127 r4) [], .call [] (E3 r5) [], .call [] (E87 r6) [], .cp (List.map E3 r6.fields), .nb 7 (.row 3 (List.map E3 ([2, 11] ++ r6.fields)) []), .wait 1, .nm 42 (vI (([2, 11] ++ r6.fields).length : Int)), .wait 2, .mask [1, 2, 6, 41, 42, 43], .ren [0, 1, 3, 7], .loop (X.out 0) (st 96 [(2, V.ptr 0 0), (6, V.ptr 1 0)] [Blk.box 23 [vI 0, V.sc (.string ByteArray.empty), V.sc (.string ByteArray.empty), V.sc (.string ByteArray.empty), V.sc (.string ByteArray.empty), V.sc (.string ByteArray.empty), vI 0, vI 0], Blk.box 23 [vI (i64 (1 + r5)), V.sc (.string s1.1), V.sc (.string s1.2.1), V.sc (.string s1.2.2.1), V.sc (.string s1.2.2.2.1), V.sc (.string o.Mti), vI s1.2.2.2.2.1, vI s1.2.2.2.2.2]] []), .call [] (E4 r12) [], .bit true] (p := [Fn Tryz.prog 92 [(false, E72 o)] (E4 r1) [],(true || ((E4 r1).nv && nvL [])) = true,(!r1) = false,Fn Tryz.prog 38 [(false, E9 o.Mti)] (E4 r2) [],(true || ((E4 r2).nv && nvL [])) = true,(!r2) = false,Fn Tryz.prog 93 [(false, E72 o), (false, E3 3)] (V.tup [E9 r3.1, E4 r3.2]) [],(true || ((V.tup [E9 r3.1, E4 r3.2]).nv && nvL [])) = true,(!r3.2) = false,Fn Tryz.prog 95 [] (E127 r4) [],(true || ((E127 r4).nv && nvL [])) = true,Fn Tryz.prog 94 [(false, E127 r4), (false, V.fn 96 [V.cp [V.sc (.string o.Mti), V.sl true 120 (List.map E120 o.List)], V.cp [V.sc (.string r3.1)]])] (E3 r5) [],(false || ((E3 r5).nv && nvL [])) = true,Fn Tryz.prog 50 [(false, E3 (i64 (1 + r5)))] (E87 r6) [],(true || ((E87 r6).nv && nvL [])) = true,(List.map E3 r6.fields) = (List.map E3 r6.fields),(List.map E3 r6.fields).all V.flatE = true,[vI 2, vI 11].length + (List.map E3 r6.fields).length ≤ 9223372036854775807,([vI 2, vI 11].length + (List.map E3 r6.fields).length) * 8 ≤ 140737488355328,Blk.row 3 ([vI 2, vI 11] ++ (List.map E3 r6.fields)) [] = Blk.row 3 (List.map E3 ([2, 11] ++ r6.fields)) [],vI ((List.map E3 ([2, 11] ++ r6.fields)).length : Int) = vI (([2, 11] ++ r6.fields).length : Int),Loop Tryz.prog (sub (codeOf Tryz.prog 36) [1, 1, 1, 1, 1, 1, 1, 0, 1, 0, 0]) (st 96 [(1, V.ptr 0 0), (2, V.ptr 1 0), (6, V.ptr 2 0), (41, V.ow 3), (42, vI (([2, 11] ++ r6.fields).length : Int)), (43, vI 0)] [Blk.box 72 [V.sc (.string o.Mti), V.sl false 120 (List.map E120 o.List)], Blk.box 23 [vI 0, V.sc (.string ByteArray.empty), V.sc (.string ByteArray.empty), V.sc (.string ByteArray.empty), V.sc (.string ByteArray.empty), V.sc (.string ByteArray.empty), vI 0, vI 0], Blk.box 23 [vI (i64 (1 + r5)), V.sc (.string ByteArray.empty), V.sc (.string ByteArray.empty), V.sc (.string ByteArray.empty), V.sc (.string ByteArray.empty), V.sc (.string o.Mti), vI 0, vI 0], Blk.row 3 (List.map E3 ([2, 11] ++ r6.fields)) []] []) (X.out 0) (st 96 [(2, V.ptr 0 0), (6, V.ptr 1 0)] [Blk.box 23 [vI 0, V.sc (.string ByteArray.empty), V.sc (.string ByteArray.empty), V.sc (.string ByteArray.empty), V.sc (.string ByteArray.empty), V.sc (.string ByteArray.empty), vI 0, vI 0], Blk.box 23 [vI (i64 (1 + r5)), V.sc (.string s1.1), V.sc (.string s1.2.1), V.sc (.string s1.2.2.1), V.sc (.string s1.2.2.2.1), V.sc (.string o.Mti), vI s1.2.2.2.2.1, vI s1.2.2.2.2.2]] []),Fn Tryz.prog 88 [(false, E23 (Req.mk (i64 (1 + r5)) s1.1 s1.2.1 s1.2.2.1 s1.2.2.2.1 o.Mti s1.2.2.2.2.1 s1.2.2.2.2.2))] (E4 r12) [],(true || ((E4 r12).nv && nvL [])) = true,(!r12) = true]) (by kernel_rfl) (cj (impl_MsgOk_ok o r1 h1) (cj rfl (cj (nf h2) (cj (impl_MtiKnown_ok o.Mti r2 h3) (cj rfl (cj (nf h4) (cj (impl_FieldOf_ok o 3 r3 h5) (cj rfl (cj (nf h6) (cj (impl_opRows_ok  r4 h7) (cj rfl (cj (slices_IndexFunc_impl_opRow_impl_ReqOf_1_ok r4 o.Mti o.List r3.1 r5 h8) (cj (by simp [V.nv, nvL, nvL_all, nv_E3]) (cj (impl_opOf_ok (i64 (1 + r5)) r6 h9) (cj rfl (cj rfl (cj (flat_map (fun _ => rfl) _) (cj (cap1 (capN (by simp) h10)) (cj (cap2 (capN (by simp) h10) (by decide)) (cj (nb_app E3 [2, 11] r6.fields) (cj (len_nm _ _) (cj (by have q := ((impl_ReqOf_l0_ok o r5 r6 h24 ([2, 11] ++ r6.fields) [] rfl ByteArray.empty ByteArray.empty ByteArray.empty ByteArray.empty 0 0 r11 h25).at h26 :); have e0 : (([] : List Int).length : Int) = 0 := rfl; rw [e0] at q; exact q) (cj (impl_ReqOk_ok (Req.mk (i64 (1 + r5)) s1.1 s1.2.1 s1.2.2.1 s1.2.2.2.1 o.Mti s1.2.2.2.2.1 s1.2.2.2.2.2) r12 h28) (cj rfl (cj1 (nt h29)))))))))))))))))))))))))))))) (fun s2 h27 =>
   Pn.some (Fn.of [.call [] (E4 r1) [], .bit false, .call [] (E4 r2) [], .bit false, .call [] (V.tup [E9 r3.1, E4 r3.2]) [], .bit false, .call [] (E127 r4) [], .call [] (E3 r5) [], .call [] (E87 r6) [], .cp (List.map E3 r6.fields), .nb 7 (.row 3 (List.map E3 ([2, 11] ++ r6.fields)) []), .wait 1, .nm 42 (vI (([2, 11] ++ r6.fields).length : Int)), .wait 2, .mask [1, 2, 6, 41, 42, 43], .ren [0, 1, 3, 7], .loop (X.ret) (st 96 [(2, V.ptr 0 0), (3, vI 1)] [Blk.box 23 [vI 0, V.sc (.string ByteArray.empty), V.sc (.string ByteArray.empty), V.sc (.string ByteArray.empty), V.sc (.string ByteArray.empty), V.sc (.string ByteArray.empty), vI 0, vI 0]] [])] (p := [Fn Tryz.prog 92 [(false, E72 o)] (E4 r1) [],(true || ((E4 r1).nv && nvL [])) = true,(!r1) = false,Fn Tryz.prog 38 [(false, E9 o.Mti)] (E4 r2) [],(true || ((E4 r2).nv && nvL [])) = true,(!r2) = false,Fn Tryz.prog 93 [(false, E72 o), (false, E3 3)] (V.tup [E9 r3.1, E4 r3.2]) [],(true || ((V.tup [E9 r3.1, E4 r3.2]).nv && nvL [])) = true,(!r3.2) = false,Fn Tryz.prog 95 [] (E127 r4) [],(true || ((E127 r4).nv && nvL [])) = true,Fn Tryz.prog 94 [(false, E127 r4), (false, V.fn 96 [V.cp [V.sc (.string o.Mti), V.sl true 120 (List.map E120 o.List)], V.cp [V.sc (.string r3.1)]])] (E3 r5) [],(false || ((E3 r5).nv && nvL [])) = true,Fn Tryz.prog 50 [(false, E3 (i64 (1 + r5)))] (E87 r6) [],(true || ((E87 r6).nv && nvL [])) = true,(List.map E3 r6.fields) = (List.map E3 r6.fields),(List.map E3 r6.fields).all V.flatE = true,[vI 2, vI 11].length + (List.map E3 r6.fields).length ≤ 9223372036854775807,([vI 2, vI 11].length + (List.map E3 r6.fields).length) * 8 ≤ 140737488355328,Blk.row 3 ([vI 2, vI 11] ++ (List.map E3 r6.fields)) [] = Blk.row 3 (List.map E3 ([2, 11] ++ r6.fields)) [],vI ((List.map E3 ([2, 11] ++ r6.fields)).length : Int) = vI (([2, 11] ++ r6.fields).length : Int),Loop Tryz.prog (sub (codeOf Tryz.prog 36) [1, 1, 1, 1, 1, 1, 1, 0, 1, 0, 0]) (st 96 [(1, V.ptr 0 0), (2, V.ptr 1 0), (6, V.ptr 2 0), (41, V.ow 3), (42, vI (([2, 11] ++ r6.fields).length : Int)), (43, vI 0)] [Blk.box 72 [V.sc (.string o.Mti), V.sl false 120 (List.map E120 o.List)], Blk.box 23 [vI 0, V.sc (.string ByteArray.empty), V.sc (.string ByteArray.empty), V.sc (.string ByteArray.empty), V.sc (.string ByteArray.empty), V.sc (.string ByteArray.empty), vI 0, vI 0], Blk.box 23 [vI (i64 (1 + r5)), V.sc (.string ByteArray.empty), V.sc (.string ByteArray.empty), V.sc (.string ByteArray.empty), V.sc (.string ByteArray.empty), V.sc (.string o.Mti), vI 0, vI 0], Blk.row 3 (List.map E3 ([2, 11] ++ r6.fields)) []] []) (X.ret) (st 96 [(2, V.ptr 0 0), (3, vI 1)] [Blk.box 23 [vI 0, V.sc (.string ByteArray.empty), V.sc (.string ByteArray.empty), V.sc (.string ByteArray.empty), V.sc (.string ByteArray.empty), V.sc (.string ByteArray.empty), vI 0, vI 0]] [])]) (by kernel_rfl) (cj (impl_MsgOk_ok o r1 h1) (cj rfl (cj (nf h2) (cj (impl_MtiKnown_ok o.Mti r2 h3) (cj rfl (cj (nf h4) (cj (impl_FieldOf_ok o 3 r3 h5) (cj rfl (cj (nf h6) (cj (impl_opRows_ok  r4 h7) (cj rfl (cj (slices_IndexFunc_impl_opRow_impl_ReqOf_1_ok r4 o.Mti o.List r3.1 r5 h8) (cj (by simp [V.nv, nvL, nvL_all, nv_E3]) (cj (impl_opOf_ok (i64 (1 + r5)) r6 h9) (cj rfl (cj rfl (cj (flat_map (fun _ => rfl) _) (cj (cap1 (capN (by simp) h10)) (cj (cap2 (capN (by simp) h10) (by decide)) (cj (nb_app E3 [2, 11] r6.fields) (cj (len_nm _ _) (cj1 (by have q := ((impl_ReqOf_l0_ok o r5 r6 h24 ([2, 11] ++ r6.fields) [] rfl ByteArray.empty ByteArray.empty ByteArray.empty ByteArray.empty 0 0 r11 h25).at h27 :); have e0 : (([] : List Int).length : Int) = 0 := rfl; rw [e0] at q; exact q))))))))))))))))))))))))))) (fun h24 =>
   Pn.none)) (fun h10 =>
   Pn.none))))) (fun h6 =>
   Pn.some (Fn.of [.call [] (E4 r1) [], .bit false, .call [] (E4 r2) [], .bit false, .call [] (V.tup [E9 r3.1, E4 r3.2]) [], .bit true] (p := [Fn Tryz.prog 92 [(false, E72 o)] (E4 r1) [],(true || ((E4 r1).nv && nvL [])) = true,(!r1) = false,Fn Tryz.prog 38 [(false, E9 o.Mti)] (E4 r2) [],(true || ((E4 r2).nv && nvL [])) = true,(!r2) = false,Fn Tryz.prog 93 [(false, E72 o), (false, E3 3)] (V.tup [E9 r3.1, E4 r3.2]) [],(true || ((V.tup [E9 r3.1, E4 r3.2]).nv && nvL [])) = true,(!r3.2) = true]) (by kernel_rfl) (cj (impl_MsgOk_ok o r1 h1) (cj rfl (cj (nf h2) (cj (impl_MtiKnown_ok o.Mti r2 h3) (cj rfl (cj (nf h4) (cj (impl_FieldOf_ok o 3 r3 h5) (cj rfl (cj1 (nt h6)))))))))))))) (fun h4 =>
   Pn.some (Fn.of [.call [] (E4 r1) [], .bit false, .call [] (E4 r2) [], .bit true] (p := [Fn Tryz.prog 92 [(false, E72 o)] (E4 r1) [],(true || ((E4 r1).nv && nvL [])) = true,(!r1) = false,Fn Tryz.prog 38 [(false, E9 o.Mti)] (E4 r2) [],(true || ((E4 r2).nv && nvL [])) = true,(!r2) = true]) (by kernel_rfl) (cj (impl_MsgOk_ok o r1 h1) (cj rfl (cj (nf h2) (cj (impl_MtiKnown_ok o.Mti r2 h3) (cj rfl (cj1 (nt h4))))))))))) (fun h2 =>
   Pn.some (Fn.of [.call [] (E4 r1) [], .bit true] (p := [Fn Tryz.prog 92 [(false, E72 o)] (E4 r1) [],(true || ((E4 r1).nv && nvL [])) = true,(!r1) = true]) (by kernel_rfl) (cj (impl_MsgOk_ok o r1 h1) (cj rfl (cj1 (nt h2)))))))
def impl_OpName (op : Int) : Option (ByteArray) :=
 (impl_opOf op).bind fun r1 =>
 some r1.name
theorem impl_OpName_ok (op : Int) : Pn (fun y => Fn Tryz.prog 40 [(false, E3 op)] (E9 y) []) (impl_OpName op) := by
  unfold impl_OpName
  exact
   Pn.bind (fun r1 h1 =>
   Pn.some (Fn.of [.call [] (E87 r1) []] (p := [Fn Tryz.prog 50 [(false, E3 op)] (E87 r1) [],(true || ((E87 r1).nv && nvL [])) = true]) (by kernel_rfl) (cj (impl_opOf_ok op r1 h1) (cj1 rfl))))
def impl_isMoney (n : Int) : Option (Bool) :=
 (impl_within n 0 4611686018427387904).bind fun r1 =>
 some r1
theorem impl_isMoney_ok (n : Int) : Pn (fun y => Fn Tryz.prog 114 [(false, E3 n)] (E4 y) []) (impl_isMoney n) := by
  unfold impl_isMoney
  exact
   Pn.bind (fun r1 h1 =>
   Pn.some (Fn.of [.call [] (E4 r1) []] (p := [Fn Tryz.prog 111 [(false, E3 n), (false, E3 0), (false, E3 4611686018427387904)] (E4 r1) [],(true || ((E4 r1).nv && nvL [])) = true]) (by kernel_rfl) (cj (impl_within_ok n 0 4611686018427387904 r1 h1) (cj1 rfl))))
def impl_NumText (n : Int) : Option (ByteArray) :=
 (impl_isMoney n).bind fun r1 =>
 if r1 = true then
 (strconv_Itoa n).bind fun r2 =>
 some r2
 else
 some (bs [])
theorem impl_NumText_ok (n : Int) : Pn (fun y => Fn Tryz.prog 84 [(false, E3 n)] (E9 y) []) (impl_NumText n) := by
  unfold impl_NumText
  exact
   Pn.bind (fun r1 h1 =>
   Pn.ite (fun h2 =>
   Pn.bind (fun r2 h3 =>
   Pn.some (Fn.of [.call [] (E4 r1) [], .bit false, .call [] (E9 r2) []] (p := [Fn Tryz.prog 114 [(false, E3 n)] (E4 r1) [],(true || ((E4 r1).nv && nvL [])) = true,(!r1) = false,Fn Tryz.prog 138 [(false, E3 n)] (E9 r2) [],(true || ((E9 r2).nv && nvL [])) = true]) (by kernel_rfl) (cj (impl_isMoney_ok n r1 h1) (cj rfl (cj (nf h2) (cj (strconv_Itoa_ok n r2 h3) (cj1 rfl)))))))) (fun h2 =>
   Pn.some (Fn.of [.call [] (E4 r1) [], .bit true] (p := [Fn Tryz.prog 114 [(false, E3 n)] (E4 r1) [],(true || ((E4 r1).nv && nvL [])) = true,(!r1) = true]) (by kernel_rfl) (cj (impl_isMoney_ok n r1 h1) (cj rfl (cj1 (nt h2)))))))
def strings_Join (o : List ByteArray) (o_ : ByteArray) : Option ByteArray := if (decide (o.length ≤ 140737488355328) && decide ((joined o o_).size ≤ 140737488355328)) = true then some (joined o o_) else none
theorem strings_Join_ok (o : List ByteArray) (o_ : ByteArray) : Pn (fun y => Fn Tryz.prog 99 [(false, E80 o), (false, E9 o_)] (E9 y) []) (strings_Join o o_) := by
  unfold strings_Join
  exact Pn.ite (fun h => Pn.some (by
    simp only [Bool.and_eq_true, decide_eq_true_eq] at h
    exact Fn.join (by kernel_rfl) (fun a c s w => Go.Proofs.Any.strings_Join_none Tryz.lays156 Tryz.Builder_Extra_156 a c s w) (fun bk o c xs s w h1 h2 h3 h4 h5 => Go.Proofs.Any.strings_Join Tryz.lays156 Tryz.Builder_Extra_156 bk o c xs s w h1 h2 h3 h4 h5) o o_ h.1 h.2)) (fun _ => Pn.none)
def impl_ReqText_c0 (q : Req) : Option (Lo Unit Unit) :=
 (impl_ReqOk q).bind fun r1 =>
 if r1 = true then
 some (.out ())
 else
 some (.ret ())
theorem impl_ReqText_c0_ok (q : Req) : Pn (JnO Tryz.prog (sub (codeOf Tryz.prog 37) [1, 0]) (st 51 [(1, V.ptr 0 0)] [Blk.box 23 [vI q.Op, V.sc (.string q.Acct), V.sc (.string q.Other), V.sc (.string q.Hold), V.sc (.string q.Trace), V.sc (.string q.Mti), vI q.Amount, vI q.Ttl]] []) (fun (y : Lo Unit Unit) => Lo.elim y (fun s => (X.go, st 51 [(1, V.ptr 0 0)] [Blk.box 23 [vI q.Op, V.sc (.string q.Acct), V.sc (.string q.Other), V.sc (.string q.Hold), V.sc (.string q.Trace), V.sc (.string q.Mti), vI q.Amount, vI q.Ttl]] [])) (fun s => (X.ret, st 51 [(2, V.sc (.string (bs [])))] [] [])))) (impl_ReqText_c0 q) := by
  unfold impl_ReqText_c0
  exact
   Pn.bind (fun r1 h1 =>
   Pn.ite (fun h2 =>
   Pn.some (JnO.of [.call [] (E4 r1) [], .bit false, .mask [1], .ren [0]] (p := [Fn Tryz.prog 88 [(false, E23 q)] (E4 r1) [],(true || ((E4 r1).nv && nvL [])) = true,(!r1) = false]) (by kernel_rfl) (cj (impl_ReqOk_ok q r1 h1) (cj rfl (cj1 (nf h2)))))) (fun h2 =>
   Pn.some (JnO.of [.call [] (E4 r1) [], .bit true, .wait 1, .mask [2], .ren []] (p := [Fn Tryz.prog 88 [(false, E23 q)] (E4 r1) [],(true || ((E4 r1).nv && nvL [])) = true,(!r1) = true]) (by kernel_rfl) (cj (impl_ReqOk_ok q r1 h1) (cj rfl (cj1 (nt h2)))))))
def impl_ReqText_c1 (q : Req) (r3 : ByteArray) : Option ((List ByteArray)) :=
 (impl_uses q.Op 38).bind fun r4 =>
 if r4 = true then
 some [r3, q.Acct, q.Trace, q.Hold]
 else
 some [r3, q.Acct, q.Trace]
theorem impl_ReqText_c1_ok (q : Req) (r3 : ByteArray) : Pn (JnO Tryz.prog (sub (codeOf Tryz.prog 37) [1, 1, 1, 0]) (st 51 [(1, V.ptr 0 0), (3, V.ow 1)] [Blk.box 23 [vI q.Op, V.sc (.string q.Acct), V.sc (.string q.Other), V.sc (.string q.Hold), V.sc (.string q.Trace), V.sc (.string q.Mti), vI q.Amount, vI q.Ttl], Blk.row 9 [V.sc (.string r3), V.sc (.string q.Acct), V.sc (.string q.Trace)] []] []) (fun (y : (List ByteArray)) => (X.go, st 51 [(1, V.ptr 0 0), (3, V.ow 1)] [Blk.box 23 [vI q.Op, V.sc (.string q.Acct), V.sc (.string q.Other), V.sc (.string q.Hold), V.sc (.string q.Trace), V.sc (.string q.Mti), vI q.Amount, vI q.Ttl], Blk.row 9 (List.map E9 y) []] []))) (impl_ReqText_c1 q r3) := by
  unfold impl_ReqText_c1
  exact
   Pn.bind (fun r4 h7 =>
   Pn.ite (fun h8 =>
   Pn.some (JnO.of [.call [] (E4 r4) [], .bit true, .cp [V.sc (.string q.Hold)], .wait 2, .mask [1, 3], .ren [0, 3]] (p := [Fn Tryz.prog 53 [(false, E3 q.Op), (false, E3 38)] (E4 r4) [],(true || ((E4 r4).nv && nvL [])) = true,r4 = true,[V.sc (.string q.Hold)] = [V.sc (.string q.Hold)],[V.sc (.string q.Hold)].all V.flatE = true,[V.sc (.string r3), V.sc (.string q.Acct), V.sc (.string q.Trace)].length + [V.sc (.string q.Hold)].length ≤ 9223372036854775807,([V.sc (.string r3), V.sc (.string q.Acct), V.sc (.string q.Trace)].length + [V.sc (.string q.Hold)].length) * 16 ≤ 140737488355328]) (by kernel_rfl) (cj (impl_uses_ok q.Op 38 r4 h7) (cj rfl (cj h8 (cj rfl (cj rfl (cj (Nat.le_of_ble_eq_true rfl) (cj1 (Nat.le_of_ble_eq_true rfl)))))))))) (fun h8 =>
   Pn.some (JnO.of [.call [] (E4 r4) [], .bit false, .mask [1, 3], .ren [0, 1]] (p := [Fn Tryz.prog 53 [(false, E3 q.Op), (false, E3 38)] (E4 r4) [],(true || ((E4 r4).nv && nvL [])) = true,r4 = false]) (by kernel_rfl) (cj (impl_uses_ok q.Op 38 r4 h7) (cj rfl (cj1 h8))))))
def impl_ReqText_c2 (q : Req) (r5 : (List ByteArray)) : Option ((List ByteArray)) :=
 (impl_uses q.Op 4).bind fun r6 =>
 if r6 = true then
 (impl_NumText q.Amount).bind fun r7 =>
 if (capOk (r5.length + 1)) = true then
 some (r5 ++ [r7])
 else none
 else
 some r5
theorem impl_ReqText_c2_ok (q : Req) (r5 : (List ByteArray)) : Pn (JnO Tryz.prog (sub (codeOf Tryz.prog 37) [1, 1, 1, 1, 0]) (st 51 [(1, V.ptr 0 0), (3, V.ow 1)] [Blk.box 23 [vI q.Op, V.sc (.string q.Acct), V.sc (.string q.Other), V.sc (.string q.Hold), V.sc (.string q.Trace), V.sc (.string q.Mti), vI q.Amount, vI q.Ttl], Blk.row 9 (List.map E9 r5) []] []) (fun (y : (List ByteArray)) => (X.go, st 51 [(1, V.ptr 0 0), (3, V.ow 1)] [Blk.box 23 [vI q.Op, V.sc (.string q.Acct), V.sc (.string q.Other), V.sc (.string q.Hold), V.sc (.string q.Trace), V.sc (.string q.Mti), vI q.Amount, vI q.Ttl], Blk.row 9 (List.map E9 y) []] []))) (impl_ReqText_c2 q r5) := by
  unfold impl_ReqText_c2
  exact
   Pn.bind (fun r6 h10 =>
   Pn.ite (fun h11 =>
   Pn.bind (fun r7 h12 =>
   Pn.ite (fun h13 =>
   Pn.some (JnO.of [.call [] (E4 r6) [], .bit true, .call [] (E9 r7) [], .cp [V.sc (.string r7)], .nb 3 (.row 9 (List.map E9 (r5 ++ [r7])) []), .wait 2, .mask [1, 3], .ren [0, 3]] (p := [Fn Tryz.prog 53 [(false, E3 q.Op), (false, E3 4)] (E4 r6) [],(true || ((E4 r6).nv && nvL [])) = true,r6 = true,Fn Tryz.prog 84 [(false, E3 q.Amount)] (E9 r7) [],(true || ((E9 r7).nv && nvL [])) = true,[V.sc (.string r7)] = [V.sc (.string r7)],[V.sc (.string r7)].all V.flatE = true,(List.map E9 r5).length + [V.sc (.string r7)].length ≤ 9223372036854775807,((List.map E9 r5).length + [V.sc (.string r7)].length) * 16 ≤ 140737488355328,Blk.row 9 ((List.map E9 r5) ++ [V.sc (.string r7)]) [] = Blk.row 9 (List.map E9 (r5 ++ [r7])) []]) (by kernel_rfl) (cj (impl_uses_ok q.Op 4 r6 h10) (cj rfl (cj h11 (cj (impl_NumText_ok q.Amount r7 h12) (cj rfl (cj rfl (cj rfl (cj (cap1 (capN (by simp) h13)) (cj (cap2 (capN (by simp) h13) (by decide)) (cj1 (nb_app E9 r5 [r7]))))))))))))) (fun h13 =>
   Pn.none))) (fun h11 =>
   Pn.some (JnO.of [.call [] (E4 r6) [], .bit false, .mask [1, 3], .ren [0, 1]] (p := [Fn Tryz.prog 53 [(false, E3 q.Op), (false, E3 4)] (E4 r6) [],(true || ((E4 r6).nv && nvL [])) = true,r6 = false]) (by kernel_rfl) (cj (impl_uses_ok q.Op 4 r6 h10) (cj rfl (cj1 h11))))))
def impl_ReqText_c3 (q : Req) (r8 : (List ByteArray)) : Option ((List ByteArray)) :=
 (impl_uses q.Op 14).bind fun r9 =>
 if r9 = true then
 (impl_NumText q.Ttl).bind fun r10 =>
 if (capOk (r8.length + 1)) = true then
 some (r8 ++ [r10])
 else none
 else
 some r8
theorem impl_ReqText_c3_ok (q : Req) (r8 : (List ByteArray)) : Pn (JnO Tryz.prog (sub (codeOf Tryz.prog 37) [1, 1, 1, 1, 1, 0]) (st 51 [(1, V.ptr 0 0), (3, V.ow 1)] [Blk.box 23 [vI q.Op, V.sc (.string q.Acct), V.sc (.string q.Other), V.sc (.string q.Hold), V.sc (.string q.Trace), V.sc (.string q.Mti), vI q.Amount, vI q.Ttl], Blk.row 9 (List.map E9 r8) []] []) (fun (y : (List ByteArray)) => (X.go, st 51 [(1, V.ptr 0 0), (3, V.ow 1)] [Blk.box 23 [vI q.Op, V.sc (.string q.Acct), V.sc (.string q.Other), V.sc (.string q.Hold), V.sc (.string q.Trace), V.sc (.string q.Mti), vI q.Amount, vI q.Ttl], Blk.row 9 (List.map E9 y) []] []))) (impl_ReqText_c3 q r8) := by
  unfold impl_ReqText_c3
  exact
   Pn.bind (fun r9 h15 =>
   Pn.ite (fun h16 =>
   Pn.bind (fun r10 h17 =>
   Pn.ite (fun h18 =>
   Pn.some (JnO.of [.call [] (E4 r9) [], .bit true, .call [] (E9 r10) [], .cp [V.sc (.string r10)], .nb 3 (.row 9 (List.map E9 (r8 ++ [r10])) []), .wait 2, .mask [1, 3], .ren [0, 3]] (p := [Fn Tryz.prog 53 [(false, E3 q.Op), (false, E3 14)] (E4 r9) [],(true || ((E4 r9).nv && nvL [])) = true,r9 = true,Fn Tryz.prog 84 [(false, E3 q.Ttl)] (E9 r10) [],(true || ((E9 r10).nv && nvL [])) = true,[V.sc (.string r10)] = [V.sc (.string r10)],[V.sc (.string r10)].all V.flatE = true,(List.map E9 r8).length + [V.sc (.string r10)].length ≤ 9223372036854775807,((List.map E9 r8).length + [V.sc (.string r10)].length) * 16 ≤ 140737488355328,Blk.row 9 ((List.map E9 r8) ++ [V.sc (.string r10)]) [] = Blk.row 9 (List.map E9 (r8 ++ [r10])) []]) (by kernel_rfl) (cj (impl_uses_ok q.Op 14 r9 h15) (cj rfl (cj h16 (cj (impl_NumText_ok q.Ttl r10 h17) (cj rfl (cj rfl (cj rfl (cj (cap1 (capN (by simp) h18)) (cj (cap2 (capN (by simp) h18) (by decide)) (cj1 (nb_app E9 r8 [r10]))))))))))))) (fun h18 =>
   Pn.none))) (fun h16 =>
   Pn.some (JnO.of [.call [] (E4 r9) [], .bit false, .mask [1, 3], .ren [0, 1]] (p := [Fn Tryz.prog 53 [(false, E3 q.Op), (false, E3 14)] (E4 r9) [],(true || ((E4 r9).nv && nvL [])) = true,r9 = false]) (by kernel_rfl) (cj (impl_uses_ok q.Op 14 r9 h15) (cj rfl (cj1 h16))))))
def impl_ReqText_c4 (q : Req) (r11 : (List ByteArray)) : Option ((List ByteArray)) :=
 (impl_uses q.Op 103).bind fun r12 =>
 if r12 = true then
 if (capOk (r11.length + 1)) = true then
 some (r11 ++ [q.Other])
 else none
 else
 some r11
theorem impl_ReqText_c4_ok (q : Req) (r11 : (List ByteArray)) : Pn (JnO Tryz.prog (sub (codeOf Tryz.prog 37) [1, 1, 1, 1, 1, 1, 0]) (st 51 [(1, V.ptr 0 0), (3, V.ow 1)] [Blk.box 23 [vI q.Op, V.sc (.string q.Acct), V.sc (.string q.Other), V.sc (.string q.Hold), V.sc (.string q.Trace), V.sc (.string q.Mti), vI q.Amount, vI q.Ttl], Blk.row 9 (List.map E9 r11) []] []) (fun (y : (List ByteArray)) => (X.go, st 51 [(3, V.ow 0)] [Blk.row 9 (List.map E9 y) []] []))) (impl_ReqText_c4 q r11) := by
  unfold impl_ReqText_c4
  exact
   Pn.bind (fun r12 h20 =>
   Pn.ite (fun h21 =>
   Pn.ite (fun h22 =>
   Pn.some (JnO.of [.call [] (E4 r12) [], .bit true, .cp [V.sc (.string q.Other)], .nb 3 (.row 9 (List.map E9 (r11 ++ [q.Other])) []), .wait 2, .mask [3], .ren [3]] (p := [Fn Tryz.prog 53 [(false, E3 q.Op), (false, E3 103)] (E4 r12) [],(true || ((E4 r12).nv && nvL [])) = true,r12 = true,[V.sc (.string q.Other)] = [V.sc (.string q.Other)],[V.sc (.string q.Other)].all V.flatE = true,(List.map E9 r11).length + [V.sc (.string q.Other)].length ≤ 9223372036854775807,((List.map E9 r11).length + [V.sc (.string q.Other)].length) * 16 ≤ 140737488355328,Blk.row 9 ((List.map E9 r11) ++ [V.sc (.string q.Other)]) [] = Blk.row 9 (List.map E9 (r11 ++ [q.Other])) []]) (by kernel_rfl) (cj (impl_uses_ok q.Op 103 r12 h20) (cj rfl (cj h21 (cj rfl (cj rfl (cj (cap1 (capN (by simp) h22)) (cj (cap2 (capN (by simp) h22) (by decide)) (cj1 (nb_app E9 r11 [q.Other]))))))))))) (fun h22 =>
   Pn.none)) (fun h21 =>
   Pn.some (JnO.of [.call [] (E4 r12) [], .bit false, .mask [3], .ren [1]] (p := [Fn Tryz.prog 53 [(false, E3 q.Op), (false, E3 103)] (E4 r12) [],(true || ((E4 r12).nv && nvL [])) = true,r12 = false]) (by kernel_rfl) (cj (impl_uses_ok q.Op 103 r12 h20) (cj rfl (cj1 h21))))))
def impl_ReqText (q : Req) : Option (ByteArray) :=
 (impl_ReqText_c0 q).bind fun r2 =>
 Lo.elim r2 (fun s1 =>
 (impl_OpName q.Op).bind fun r3 =>
 (impl_ReqText_c1 q r3).bind fun r5 =>
 (impl_ReqText_c2 q r5).bind fun r8 =>
 (impl_ReqText_c3 q r8).bind fun r11 =>
 (impl_ReqText_c4 q r11).bind fun r13 =>
 (strings_Join r13 (bs [32])).bind fun r14 =>
 some r14) (fun s2 =>
 some (bs []))
theorem impl_ReqText_ok (q : Req) : Pn (fun y => Fn Tryz.prog 37 [(false, E23 q)] (E9 y) []) (impl_ReqText q) := by
  unfold impl_ReqText
  exact
   Pn.bind (fun r2 h3 =>
   Pn.lo (fun s1 h4 =>
   Pn.bind (fun r3 h6 =>
   Pn.bind (fun r5 h9 =>
   Pn.bind (fun r8 h14 =>
   Pn.bind (fun r11 h19 =>
   Pn.bind (fun r13 h23 =>
   Pn.bind (fun r14 h24 =>
   Pn.some (Fn.of [.wait 3, .mask [1], .ren [0], .join 7 (X.go) (st 51 [(1, V.ptr 0 0)] [Blk.box 23 [vI q.Op, V.sc (.string q.Acct), V.sc (.string q.Other), V.sc (.string q.Hold), V.sc (.string q.Trace), V.sc (.string q.Mti), vI q.Amount, vI q.Ttl]] []), .draw [], .call [] (E9 r3) [], .wait 3, .mask [1, 3], .ren [0, 1], .join 5 (X.go) (st 51 [(1, V.ptr 0 0), (3, V.ow 1)] [Blk.box 23 [vI q.Op, V.sc (.string q.Acct), V.sc (.string q.Other), V.sc (.string q.Hold), V.sc (.string q.Trace), V.sc (.string q.Mti), vI q.Amount, vI q.Ttl], Blk.row 9 (List.map E9 r5) []] []), .wait 1, .mask [1, 3], .ren [0, 1], .join 5 (X.go) (st 51 [(1, V.ptr 0 0), (3, V.ow 1)] [Blk.box 23 [vI q.Op, V.sc (.string q.Acct), V.sc (.string q.Other), V.sc (.string q.Hold), V.sc (.string q.Trace), V.sc (.string q.Mti), vI q.Amount, vI q.Ttl], Blk.row 9 (List.map E9 r8) []] []), .wait 1, .mask [1, 3], .ren [0, 1], .join 5 (X.go) (st 51 [(1, V.ptr 0 0), (3, V.ow 1)] [Blk.box 23 [vI q.Op, V.sc (.string q.Acct), V.sc (.string q.Other), V.sc (.string q.Hold), V.sc (.string q.Trace), V.sc (.string q.Mti), vI q.Amount, vI q.Ttl], Blk.row 9 (List.map E9 r11) []] []), .wait 1, .mask [1, 3], .ren [0, 1], .join 5 (X.go) (st 51 [(3, V.ow 0)] [Blk.row 9 (List.map E9 r13) []] []), .call [] (E9 r14) []] (p := [HT Tryz.prog (sub (codeOf Tryz.prog 37) [1, 0]) (st 51 [(1, V.ptr 0 0)] [Blk.box 23 [vI q.Op, V.sc (.string q.Acct), V.sc (.string q.Other), V.sc (.string q.Hold), V.sc (.string q.Trace), V.sc (.string q.Mti), vI q.Amount, vI q.Ttl]] []) (X.go) (st 51 [(1, V.ptr 0 0)] [Blk.box 23 [vI q.Op, V.sc (.string q.Acct), V.sc (.string q.Other), V.sc (.string q.Hold), V.sc (.string q.Trace), V.sc (.string q.Mti), vI q.Amount, vI q.Ttl]] []),Fn Tryz.prog 40 [(false, E3 q.Op)] (E9 r3) [],(true || ((E9 r3).nv && nvL [])) = true,HT Tryz.prog (sub (codeOf Tryz.prog 37) [1, 1, 1, 0]) (st 51 [(1, V.ptr 0 0), (3, V.ow 1)] [Blk.box 23 [vI q.Op, V.sc (.string q.Acct), V.sc (.string q.Other), V.sc (.string q.Hold), V.sc (.string q.Trace), V.sc (.string q.Mti), vI q.Amount, vI q.Ttl], Blk.row 9 [V.sc (.string r3), V.sc (.string q.Acct), V.sc (.string q.Trace)] []] []) (X.go) (st 51 [(1, V.ptr 0 0), (3, V.ow 1)] [Blk.box 23 [vI q.Op, V.sc (.string q.Acct), V.sc (.string q.Other), V.sc (.string q.Hold), V.sc (.string q.Trace), V.sc (.string q.Mti), vI q.Amount, vI q.Ttl], Blk.row 9 (List.map E9 r5) []] []),HT Tryz.prog (sub (codeOf Tryz.prog 37) [1, 1, 1, 1, 0]) (st 51 [(1, V.ptr 0 0), (3, V.ow 1)] [Blk.box 23 [vI q.Op, V.sc (.string q.Acct), V.sc (.string q.Other), V.sc (.string q.Hold), V.sc (.string q.Trace), V.sc (.string q.Mti), vI q.Amount, vI q.Ttl], Blk.row 9 (List.map E9 r5) []] []) (X.go) (st 51 [(1, V.ptr 0 0), (3, V.ow 1)] [Blk.box 23 [vI q.Op, V.sc (.string q.Acct), V.sc (.string q.Other), V.sc (.string q.Hold), V.sc (.string q.Trace), V.sc (.string q.Mti), vI q.Amount, vI q.Ttl], Blk.row 9 (List.map E9 r8) []] []),HT Tryz.prog (sub (codeOf Tryz.prog 37) [1, 1, 1, 1, 1, 0]) (st 51 [(1, V.ptr 0 0), (3, V.ow 1)] [Blk.box 23 [vI q.Op, V.sc (.string q.Acct), V.sc (.string q.Other), V.sc (.string q.Hold), V.sc (.string q.Trace), V.sc (.string q.Mti), vI q.Amount, vI q.Ttl], Blk.row 9 (List.map E9 r8) []] []) (X.go) (st 51 [(1, V.ptr 0 0), (3, V.ow 1)] [Blk.box 23 [vI q.Op, V.sc (.string q.Acct), V.sc (.string q.Other), V.sc (.string q.Hold), V.sc (.string q.Trace), V.sc (.string q.Mti), vI q.Amount, vI q.Ttl], Blk.row 9 (List.map E9 r11) []] []),HT Tryz.prog (sub (codeOf Tryz.prog 37) [1, 1, 1, 1, 1, 1, 0]) (st 51 [(1, V.ptr 0 0), (3, V.ow 1)] [Blk.box 23 [vI q.Op, V.sc (.string q.Acct), V.sc (.string q.Other), V.sc (.string q.Hold), V.sc (.string q.Trace), V.sc (.string q.Mti), vI q.Amount, vI q.Ttl], Blk.row 9 (List.map E9 r11) []] []) (X.go) (st 51 [(3, V.ow 0)] [Blk.row 9 (List.map E9 r13) []] []),Fn Tryz.prog 99 [(false, E80 r13), (false, E9 (bs [32]))] (E9 r14) [],(false || ((E9 r14).nv && nvL [])) = true]) (by kernel_rfl) (cj ((impl_ReqText_c0_ok q r2 h3).at h4 :) (cj (impl_OpName_ok q.Op r3 h6) (cj rfl (cj (impl_ReqText_c1_ok q r3 r5 h9) (cj (impl_ReqText_c2_ok q r5 r8 h14) (cj (impl_ReqText_c3_ok q r8 r11 h19) (cj (impl_ReqText_c4_ok q r11 r13 h23) (cj (strings_Join_ok r13 (bs [32]) r14 h24) (cj1 (by simp [V.nv, nvL, nvL_all, nv_E9])))))))))))))))))) (fun s2 h5 =>
   Pn.some (Fn.of [.wait 3, .mask [1], .ren [0], .join 7 (X.ret) (st 51 [(2, V.sc (.string (bs [])))] [] [])] (p := [HT Tryz.prog (sub (codeOf Tryz.prog 37) [1, 0]) (st 51 [(1, V.ptr 0 0)] [Blk.box 23 [vI q.Op, V.sc (.string q.Acct), V.sc (.string q.Other), V.sc (.string q.Hold), V.sc (.string q.Trace), V.sc (.string q.Mti), vI q.Amount, vI q.Ttl]] []) (X.ret) (st 51 [(2, V.sc (.string (bs [])))] [] [])]) (by kernel_rfl) (cj1 ((impl_ReqText_c0_ok q r2 h3).at h5 :)))))
def strings_Split (s_ : ByteArray) (sep : ByteArray) : Option (List ByteArray) := if (decide (s_.size < 4294967281) && decide (1 ≤ sep.size) && decide ((splitP s_ sep).length ≤ 9223372036854775807)) = true then some (splitP s_ sep) else none
theorem strings_Split_ok (s_ : ByteArray) (sep : ByteArray) : Pn (fun y => Fn Tryz.prog 110 [(false, E9 s_), (false, E9 sep)] (E80 y) []) (strings_Split s_ sep) := by
  unfold strings_Split
  exact Pn.ite (fun h => Pn.some (by
    simp only [Bool.and_eq_true, decide_eq_true_eq] at h
    exact Fn.strs (e := 9) [(.string s_), (.string sep)] (by kernel_rfl) (by kernel_rfl) h.2 (fun w hw => by
      obtain ⟨mv, hm, mz, rfl⟩ := glob_cell hw (b := 2) (List.Mem.tail _ (List.Mem.head _)) (v := fun u => ∃ z, u = Value.int .i64 z) (fun cs ⟨z, hz⟩ => ⟨_, hz, z, rfl⟩)
      have hl : Lib.countB s_ sep + 1 = (splitP s_ sep).length := (Lib.splitB_all sep h.1.2 0 _ s_ rfl).symm
      rw [← hl]
      exact Go.Proofs.Any.strings_Split Tryz.lays146 (by kernel_rfl) s_ sep mz w (by omega) hm h.1.2))) (fun _ => Pn.none)
def impl_Cut (s_ : ByteArray) : Option ((List ByteArray)) :=
 (strings_Split s_ (bs [32])).bind fun r1 =>
 some r1
theorem impl_Cut_ok (s_ : ByteArray) : Pn (fun y => Fn Tryz.prog 49 [(false, E9 s_)] (E80 y) []) (impl_Cut s_) := by
  unfold impl_Cut
  exact
   Pn.bind (fun r1 h1 =>
   Pn.some (Fn.of [.call [] (E80 r1) []] (p := [Fn Tryz.prog 110 [(false, E9 s_), (false, E9 (bs [32]))] (E80 r1) [],(true || ((E80 r1).nv && nvL [])) = true]) (by kernel_rfl) (cj (strings_Split_ok s_ (bs [32]) r1 h1) (cj1 rfl))))
def impl_NameOp_1 (r_ : opRow) (c0_0 : ByteArray) : Option (Bool) :=
 some (r_.name == c0_0)
theorem impl_NameOp_1_ok (r_ : opRow) (c0_0 : ByteArray) : Pn (fun y => Fn Tryz.prog 100 [(false, E87 r_), (false, V.cp [V.sc (.string c0_0)])] (E4 y) []) (impl_NameOp_1 r_ c0_0) := by
  unfold impl_NameOp_1
  exact
   Pn.some (Fn.of [] (p := []) (by kernel_rfl) trivial)
def slices_IndexFunc_impl_opRow_impl_NameOp_1_l0 (s_ : List opRow) (f0_0 : ByteArray) : List opRow → List opRow → Option (Lo Unit Int)
  | [], p1 =>
   some (.out ())
  | x1 :: t1, p1 =>
   (impl_NameOp_1 x1 f0_0).bind fun r1 =>
   if r1 = true then
   some (.ret (p1.length : Int))
   else
   slices_IndexFunc_impl_opRow_impl_NameOp_1_l0 s_ f0_0 t1 (p1 ++ [x1])
theorem slices_IndexFunc_impl_opRow_impl_NameOp_1_l0_ok (s_ : List opRow) (f0_0 : ByteArray) (h2 : capOk s_.length = true) : ∀ (t1 p1 : List opRow) (_ : s_ = p1 ++ t1) , Pn (LpO Tryz.prog (sub (codeOf Tryz.prog 94) [1, 0, 1, 0, 0]) (st 19 [(0, V.sl false 87 (List.map E87 s_)), (1, V.fn 100 [V.cp [V.sc (.string f0_0)]]), (7, vI (s_.length : Int)), (8, vI (p1.length : Int))] [] []) (fun (y : Lo Unit Int) => Lo.elim y (fun s => (X.out 0, st 19 [] [] [])) (fun s => (X.ret, st 19 [(4, vI s)] [] [])))) (slices_IndexFunc_impl_opRow_impl_NameOp_1_l0 s_ f0_0 t1 p1)
  | [], p1, h1 => by
    unfold slices_IndexFunc_impl_opRow_impl_NameOp_1_l0
    exact
     Pn.some (LpO.out [.bit false, .mask [], .ren []] (p := [(decide ((p1.length : Int) < (s_.length : Int))) = false]) (by kernel_rfl) (show X.out 0 ≠ X.go from nofun) (cj1 (rng_end h1)))
  | x1 :: t1, p1, h1 => by
    unfold slices_IndexFunc_impl_opRow_impl_NameOp_1_l0
    exact
     Pn.bind (fun r1 h3 =>
     Pn.ite (fun h4 =>
     Pn.some (LpO.out [.bit true, .el (E87 x1), .call [] (E4 r1) [], .bit true, .wait 2, .mask [4], .ren []] (p := [(decide ((p1.length : Int) < (s_.length : Int))) = true,(0 : Int) ≤ (p1.length : Int),(List.map E87 s_)[(p1.length : Int).toNat]? = some (E87 x1),Fn Tryz.prog 100 [(false, E87 x1), (false, V.cp [V.sc (.string f0_0)])] (E4 r1) [],(true || ((E4 r1).nv && nvL [])) = true,r1 = true]) (by kernel_rfl) (show X.ret ≠ X.go from nofun) (cj (rng_lt h1) (cj (by omega) (cj (rng_get _ h1) (cj (impl_NameOp_1_ok x1 f0_0 r1 h3) (cj rfl (cj1 h4)))))))) (fun h4 =>
     LpO.go [.bit true, .el (E87 x1), .call [] (E4 r1) [], .bit false, .wait 2, .mask [0, 1, 7, 8], .ren [], .nm 8 (vI ((p1 ++ [x1]).length : Int))] (p := [(decide ((p1.length : Int) < (s_.length : Int))) = true,(0 : Int) ≤ (p1.length : Int),(List.map E87 s_)[(p1.length : Int).toNat]? = some (E87 x1),Fn Tryz.prog 100 [(false, E87 x1), (false, V.cp [V.sc (.string f0_0)])] (E4 r1) [],(true || ((E4 r1).nv && nvL [])) = true,r1 = false,vI (i64 ((p1.length : Int) + 1)) = vI ((p1 ++ [x1]).length : Int)]) (by kernel_rfl) (cj (rng_lt h1) (cj (by omega) (cj (rng_get _ h1) (cj (impl_NameOp_1_ok x1 f0_0 r1 h3) (cj rfl (cj h4 (cj1 (rng_next h1 h2)))))))) (slices_IndexFunc_impl_opRow_impl_NameOp_1_l0_ok s_ f0_0 h2 t1 (p1 ++ [x1]) (rng_step h1))))
def slices_IndexFunc_impl_opRow_impl_NameOp_1 (s_ : List opRow) (f0_0 : ByteArray) : Option (Int) :=
 if (capOk s_.length) = true then
 (slices_IndexFunc_impl_opRow_impl_NameOp_1_l0 s_ f0_0 s_ []).bind fun r2 =>
 Lo.elim r2 (fun s1 =>
 some (-1)) (fun s2 =>
 some s2)
 else none
theorem slices_IndexFunc_impl_opRow_impl_NameOp_1_ok (s_ : List opRow) (f0_0 : ByteArray) : Pn (fun y => Fn Tryz.prog 94 [(false, E127 s_), (false, V.fn 100 [V.cp [V.sc (.string f0_0)]])] (E3 y) []) (slices_IndexFunc_impl_opRow_impl_NameOp_1 s_ f0_0) := by
  unfold slices_IndexFunc_impl_opRow_impl_NameOp_1
  exact
   Pn.ite (fun h5 =>
   Pn.bind (fun r2 h6 =>
   Pn.lo (fun s1 h7 =>
   Pn.some (Fn.of [.wait 3, .nm 7 (vI (s_.length : Int)), .wait 2, .mask [0, 1, 7, 8], .ren [], .loop (X.out 0) (st 19 [] [] [])] (p := [vI ((List.map E87 s_).length : Int) = vI (s_.length : Int),Loop Tryz.prog (sub (codeOf Tryz.prog 94) [1, 0, 1, 0, 0]) (st 19 [(0, V.sl false 87 (List.map E87 s_)), (1, V.fn 100 [V.cp [V.sc (.string f0_0)]]), (7, vI (s_.length : Int)), (8, vI 0)] [] []) (X.out 0) (st 19 [] [] [])]) (by kernel_rfl) (cj (len_nm _ _) (cj1 ((slices_IndexFunc_impl_opRow_impl_NameOp_1_l0_ok s_ f0_0 h5 s_ [] rfl r2 h6).at h7 :))))) (fun s2 h8 =>
   Pn.some (Fn.of [.wait 3, .nm 7 (vI (s_.length : Int)), .wait 2, .mask [0, 1, 7, 8], .ren [], .loop (X.ret) (st 19 [(4, vI s2)] [] [])] (p := [vI ((List.map E87 s_).length : Int) = vI (s_.length : Int),Loop Tryz.prog (sub (codeOf Tryz.prog 94) [1, 0, 1, 0, 0]) (st 19 [(0, V.sl false 87 (List.map E87 s_)), (1, V.fn 100 [V.cp [V.sc (.string f0_0)]]), (7, vI (s_.length : Int)), (8, vI 0)] [] []) (X.ret) (st 19 [(4, vI s2)] [] [])]) (by kernel_rfl) (cj (len_nm _ _) (cj1 ((slices_IndexFunc_impl_opRow_impl_NameOp_1_l0_ok s_ f0_0 h5 s_ [] rfl r2 h6).at h8 :))))))) (fun h5 =>
   Pn.none)
def impl_NameOp (s_ : ByteArray) : Option (Int) :=
 (impl_opRows).bind fun r1 =>
 (slices_IndexFunc_impl_opRow_impl_NameOp_1 r1 s_).bind fun r2 =>
 some (i64 (1 + r2))
theorem impl_NameOp_ok (s_ : ByteArray) : Pn (fun y => Fn Tryz.prog 39 [(false, E9 s_)] (E3 y) []) (impl_NameOp s_) := by
  unfold impl_NameOp
  exact
   Pn.bind (fun r1 h1 =>
   Pn.bind (fun r2 h2 =>
   Pn.some (Fn.of [.call [] (E127 r1) [], .call [] (E3 r2) []] (p := [Fn Tryz.prog 95 [] (E127 r1) [],(true || ((E127 r1).nv && nvL [])) = true,Fn Tryz.prog 94 [(false, E127 r1), (false, V.fn 100 [V.cp [V.sc (.string s_)]])] (E3 r2) [],(false || ((E3 r2).nv && nvL [])) = true]) (by kernel_rfl) (cj (impl_opRows_ok  r1 h1) (cj rfl (cj (slices_IndexFunc_impl_opRow_impl_NameOp_1_ok r1 s_ r2 h2) (cj1 (by simp [V.nv, nvL, nvL_all, nv_E3]))))))))
def impl_OpMti (op : Int) : Option (ByteArray) :=
 (impl_opOf op).bind fun r1 =>
 some r1.mti
theorem impl_OpMti_ok (op : Int) : Pn (fun y => Fn Tryz.prog 51 [(false, E3 op)] (E9 y) []) (impl_OpMti op) := by
  unfold impl_OpMti
  exact
   Pn.bind (fun r1 h1 =>
   Pn.some (Fn.of [.call [] (E87 r1) []] (p := [Fn Tryz.prog 50 [(false, E3 op)] (E87 r1) [],(true || ((E87 r1).nv && nvL [])) = true]) (by kernel_rfl) (cj (impl_opOf_ok op r1 h1) (cj1 rfl))))
def impl_TextReq_1 (no : Int) (c0_0 : Int) (c1 : List ByteArray) : Option (ByteArray × (List ByteArray)) :=
 (impl_uses c0_0 no).bind fun r1 =>
 if r1 = true then
 (c1[0]?).bind fun x1 =>
 if (decide (1 ≤ (c1.length : Int))) = true then
 some (x1, ((c1.drop 1).take (c1.length - 1)))
 else none
 else
 some (bs [], c1)
theorem impl_TextReq_1_ok (no : Int) (c0_0 : Int) (c1 : List ByteArray) : Pn (fun y => Fn Tryz.prog 52 [(false, E3 no), (false, V.cp [vI c0_0]), (true, V.bx 80 [V.sl true 9 (List.map E9 c1)])] (E9 y.1) [V.bx 80 [V.sl true 9 (List.map E9 y.2)]]) (impl_TextReq_1 no c0_0 c1) := by
  unfold impl_TextReq_1
  exact
   Pn.bind (fun r1 h1 =>
   Pn.ite (fun h2 =>
   Pn.bind (fun x1 h3 =>
   Pn.ite (fun h4 =>
   Pn.some (Fn.as (outs := [V.bx 80 [V.sl true 9 (((List.map E9 c1).drop 1).take (c1.length - 1))]]) rfl (by rw [cut_map]) (Fn.of [.call [] (E4 r1) [], .bit false, .el (E9 x1), .wait 3, .nm 14 (V.sb 0 1 1 (c1.length - 1))] (p := [Fn Tryz.prog 53 [(false, E3 c0_0), (false, E3 no)] (E4 r1) [],(true || ((E4 r1).nv && nvL [])) = true,(!r1) = false,(0 : Int) ≤ 0,(0 : Int) < ((List.map E9 c1).length : Int),look [] 0 = none,(List.map E9 c1)[0]? = some (E9 x1),(0 : Int) ≤ 1,(1 : Int) ≤ ((List.map E9 c1).length : Int),(((List.map E9 c1).length : Int) : Int) ≤ ((List.map E9 c1).length : Int),V.sb 0 1 1 ((((List.map E9 c1).length : Int).toNat) - (1)) = V.sb 0 1 1 (c1.length - 1)]) (by kernel_rfl) (cj (impl_uses_ok c0_0 no r1 h1) (cj rfl (cj (nf h2) (cj (by decide) (cj (map_ltN (by decide) h3) (cj rfl (cj (map_get h3) (cj (by decide) (cj (by rw [List.length_map]; exact (od h4)) (cj (Int.le_refl _) (cj1 (by simp))))))))))))))) (fun h4 =>
   Pn.none))) (fun h2 =>
   Pn.some (Fn.of [.call [] (E4 r1) [], .bit true] (p := [Fn Tryz.prog 53 [(false, E3 c0_0), (false, E3 no)] (E4 r1) [],(true || ((E4 r1).nv && nvL [])) = true,(!r1) = true]) (by kernel_rfl) (cj (impl_uses_ok c0_0 no r1 h1) (cj rfl (cj1 (nt h2)))))))
def impl_TextNum (s_ : ByteArray) : Option (Int × Bool) := if (decide (s_.size ≤ 281474976710656)) = true then (match Lib.atoiAll s_.data.toList with | .ok v => (impl_isMoney v).bind fun r1 => if r1 = true then (impl_NumText v).bind fun r2 => (if (r2 == s_) = true then some (v, true) else some (0, false)) else some (0, false) | _ => some (0, false)) else none
set_option maxHeartbeats 4000000 in
theorem impl_TextNum_ok (s_ : ByteArray) : Pn (fun y => Fn Tryz.prog 54 [(false, E9 s_)] (V.tup [E3 y.1, E4 y.2]) []) (impl_TextNum s_) := by
  unfold impl_TextNum
  refine Pn.ite (fun hz => ?_) (fun _ => Pn.none)
  have hz := of_decide_eq_true hz
  cases hv : Lib.atoiAll s_.data.toList with
  | ok v =>
    refine Pn.bind (fun r1 h1 => ?_)
    have hD := fun w hw => Fn.calls [.int .i64 v] (impl_isMoney_ok v r1 h1) (r := .bool r1) rfl w hw
    have hA := fun w => Go.Proofs.Any.strconv_Atoi_ok Tryz.laysC172 s_ (by omega) v hv w
    refine Pn.ite (fun hr => ?_) (fun hr => ?_)
    · subst hr
      refine Pn.bind (fun r2 h2 => ?_)
      have hK := fun w hw => Fn.calls [.int .i64 v] (impl_NumText_ok v r2 h2) (r := .string r2) rfl w hw
      refine Pn.ite (fun hq => Pn.some (Fn.flats [.string s_] (by kernel_rfl) rfl (rs := [.int .i64 v, .bool true]) (fun w hw => ?_))) (fun hq => Pn.some (Fn.flats [.string s_] (by kernel_rfl) rfl (rs := [.int .i64 0, .bool false]) (fun w hw => ?_)))
      · have hq2 : r2 = s_ := ba_of_beq hq
        subst hq2
        go_enter Tryz.func54, Tryz.ntmps54
        go_wp2_with (go_at_call 113; refine (hA _).mono ?_; rintro e w1 ⟨rfl, hb1⟩)
        have hb1 := below_bytes hb1
        go_wp2_with (go_at_call 114; refine (hD _ (hw.below hb1)).mono ?_; rintro e w2 ⟨rfl, hb2⟩)
        have hb2 := below_then hb1 hb2
        go_wp2_with (go_at_call 84; refine (hK _ (hw.below hb2)).mono ?_; rintro e w3 ⟨rfl, hb3⟩)
        go_wp2
        go_ret2
        exact ⟨rfl, below_then hb2 hb3⟩
      · have hq3 : (r2.toList == s_.toList) = false := by rw [← beq_toListBytes]; exact hq
        go_enter Tryz.func54, Tryz.ntmps54
        go_wp2_with (go_at_call 113; refine (hA _).mono ?_; rintro e w1 ⟨rfl, hb1⟩)
        have hb1 := below_bytes hb1
        go_wp2_with (go_at_call 114; refine (hD _ (hw.below hb1)).mono ?_; rintro e w2 ⟨rfl, hb2⟩)
        have hb2 := below_then hb1 hb2
        go_wp2_with (go_at_call 84; refine (hK _ (hw.below hb2)).mono ?_; rintro e w3 ⟨rfl, hb3⟩)
        go_wp2
        go_ret2
        exact ⟨rfl, below_then hb2 hb3⟩
    · subst hr
      refine Pn.some (Fn.flats [.string s_] (by kernel_rfl) rfl (rs := [.int .i64 0, .bool false]) (fun w hw => ?_))
      go_enter Tryz.func54, Tryz.ntmps54
      go_wp2_with (go_at_call 113; refine (hA _).mono ?_; rintro e w1 ⟨rfl, hb1⟩)
      have hb1 := below_bytes hb1
      go_wp2_with (go_at_call 114; refine (hD _ (hw.below hb1)).mono ?_; rintro e w2 ⟨rfl, hb2⟩)
      go_wp2
      go_ret2
      exact ⟨rfl, below_then hb1 hb2⟩
  | «syntax» =>
    refine Pn.some (Fn.flats [.string s_] (by kernel_rfl) rfl (rs := [.int .i64 0, .bool false]) (fun w hw => ?_))
    obtain ⟨ev, hc, he⟩ := glob_cell hw (b := 0) (List.Mem.tail _ (List.Mem.tail _ (List.Mem.head _))) (v := fun ev => ev = .nilIface ∨ ∃ te pe, ev = .iface te pe) (fun cs h => h)
    have hA := Go.Proofs.Any.strconv_Atoi_syntax Tryz.laysC172 s_ hz hv ev w hc he
    go_enter Tryz.func54, Tryz.ntmps54
    go_wp2_with (go_at_call 113; refine hA.mono ?_; rintro e w1 ⟨M, rfl, _, _, hb1⟩)
    go_wp2
    go_ret2
    exact ⟨rfl, hb1⟩
  | range =>
    refine Pn.some (Fn.flats [.string s_] (by kernel_rfl) rfl (rs := [.int .i64 0, .bool false]) (fun w hw => ?_))
    obtain ⟨ev, hc, he⟩ := glob_cell hw (b := 1) (List.Mem.tail _ (List.Mem.tail _ (List.Mem.tail _ (List.Mem.head _)))) (v := fun ev => ev = .nilIface ∨ ∃ te pe, ev = .iface te pe) (fun cs h => h)
    have hA := Go.Proofs.Any.strconv_Atoi_range Tryz.laysC172 s_ hz hv ev w hc he
    go_enter Tryz.func54, Tryz.ntmps54
    go_wp2_with (go_at_call 113; refine hA.mono ?_; rintro e w1 ⟨M, rfl, _, _, hb1⟩)
    go_wp2
    go_ret2
    exact ⟨rfl, hb1⟩
def impl_TextReq_s1 (o : ByteArray) (x1 : ByteArray) (r2 : Int) (r1 : (List ByteArray)) (r3 : opRow) (r4 : ByteArray) (x2 : ByteArray) (x3 : ByteArray) : St := st 66 [(0, V.sc (.string o)), (2, V.ptr 0 0), (3, V.sc (.bool false)), (4, V.ptr 1 0), (5, V.ptr 3 0), (6, V.ptr 4 0), (8, V.sc (.string o)), (9, V.ow 2), (10, V.ow 2), (11, V.ep 2 1 0 0), (12, V.sc (.string x1)), (13, vI r2), (14, vI r2), (15, V.sc (.bool (r2 == 0))), (16, V.sc (.bool (r2 == 0))), (17, V.ow 2), (18, vI (r1.length : Int)), (19, vI r2), (20, V.agg [V.sc (.string r3.mti), V.sc (.string r3.code), V.sc (.string r3.name), V.ow 5]), (21, V.ow 5), (22, vI (r3.fields.length : Int)), (23, vI (i64 (3 + (r3.fields.length : Int)))), (24, V.sc (.bool ((r1.length : Int) != (i64 (3 + (r3.fields.length : Int)))))), (25, V.sc (.bool ((r1.length : Int) != (i64 (3 + (r3.fields.length : Int)))))), (27, vI r2), (28, vI r2), (29, V.sc (.string r4)), (30, V.ow 2), (31, V.ep 2 1 1 0), (32, V.sc (.string x2)), (33, V.ow 2), (34, V.ep 2 1 2 0), (35, V.sc (.string x3)), (36, V.agg [vI r2, V.sc (.string x2), V.sc (.string ByteArray.empty), V.sc (.string ByteArray.empty), V.sc (.string x3), V.sc (.string r4), vI 0, vI 0])] [Blk.box 23 [vI 0, V.sc (.string ByteArray.empty), V.sc (.string ByteArray.empty), V.sc (.string ByteArray.empty), V.sc (.string ByteArray.empty), V.sc (.string ByteArray.empty), vI 0, vI 0], Blk.box 80 [V.ow 2], Blk.row 9 (List.map E9 r1) [], Blk.box 3 [vI r2], Blk.box 23 [vI r2, V.sc (.string x2), V.sc (.string ByteArray.empty), V.sc (.string ByteArray.empty), V.sc (.string x3), V.sc (.string r4), vI 0, vI 0], Blk.row 3 (List.map E3 r3.fields) []] []
def impl_TextReq (o : ByteArray) : Option (Req × Bool) :=
 (impl_Cut o).bind fun r1 =>
 (r1[0]?).bind fun x1 =>
 (impl_NameOp x1).bind fun r2 =>
 if (r2 == 0) = true then
 some ((Req.mk 0 ByteArray.empty ByteArray.empty ByteArray.empty ByteArray.empty ByteArray.empty 0 0), false)
 else
 (impl_opOf r2).bind fun r3 =>
 if ((r1.length : Int) != (i64 (3 + (r3.fields.length : Int)))) = true then
 some ((Req.mk 0 ByteArray.empty ByteArray.empty ByteArray.empty ByteArray.empty ByteArray.empty 0 0), false)
 else
 (r1[1]?).bind fun x2 =>
 (r1[2]?).bind fun x3 =>
 (impl_OpMti r2).bind fun r4 =>
 if (decide (3 ≤ (r1.length : Int))) = true then
 (impl_TextReq_1 38 r2 ((r1.drop 3).take (r1.length - 3))).bind fun r5 =>
 (impl_TextReq_1 4 r2 r5.2).bind fun r6 =>
 (impl_TextNum r6.1).bind fun r7 =>
 (impl_TextReq_1 14 r2 r6.2).bind fun r8 =>
 (impl_TextNum r8.1).bind fun r9 =>
 (impl_TextReq_1 103 r2 r8.2).bind fun r10 =>
 (impl_ReqText (Req.mk r2 x2 r10.1 r5.1 x3 r4 r7.1 r9.1)).bind fun r11 =>
 if (r11 == o) = true then
 some ((Req.mk r2 x2 r10.1 r5.1 x3 r4 r7.1 r9.1), true)
 else
 some ((Req.mk 0 ByteArray.empty ByteArray.empty ByteArray.empty ByteArray.empty ByteArray.empty 0 0), false)
 else none
theorem impl_TextReq_ok (o : ByteArray) : Pn (fun y => Fn Tryz.prog 10 [(false, E9 o)] (V.tup [E23 y.1, E4 y.2]) []) (impl_TextReq o) := by
  unfold impl_TextReq
  exact
   Pn.bind (fun r1 h1 =>
   Pn.bind (fun x1 h2 =>
   Pn.bind (fun r2 h3 =>
   Pn.ite (fun h4 =>
   Pn.some (Fn.of [.call [] (E80 r1) [], .el (E9 x1), .call [] (E3 r2) [], .draw [], .bit true, .bit true, .bit true, .bit true, .bit true, .bit true, .bit true, .bit true, .bit true, .bit true] (p := [Fn Tryz.prog 49 [(false, E9 o)] (E80 r1) [],(true || ((E80 r1).nv && nvL [])) = true,(0 : Int) ≤ 0,(0 : Int) < ((List.map E9 r1).length : Int),look [] 0 = none,(List.map E9 r1)[0]? = some (E9 x1),Fn Tryz.prog 39 [(false, E9 x1)] (E3 r2) [],(true || ((E3 r2).nv && nvL [])) = true,(r2 == 0) = true,(r2 == 0) = true,(r2 == 0) = true,(r2 == 0) = true,(r2 == 0) = true,(r2 == 0) = true,(r2 == 0) = true,(r2 == 0) = true,(r2 == 0) = true,true = true]) (by kernel_rfl) (cj (impl_Cut_ok o r1 h1) (cj rfl (cj (by decide) (cj (map_ltN (by decide) h2) (cj rfl (cj (map_get h2) (cj (impl_NameOp_ok x1 r2 h3) (cj rfl (cj h4 (cj h4 (cj h4 (cj h4 (cj h4 (cj h4 (cj h4 (cj h4 (cj h4 (cj1 rfl)))))))))))))))))))) (fun h4 =>
   Pn.bind (fun r3 h5 =>
   Pn.ite (fun h6 =>
   Pn.some (Fn.of [.call [] (E80 r1) [], .el (E9 x1), .call [] (E3 r2) [], .draw [], .bit false, .bit false, .nm 18 (vI (r1.length : Int)), .bit false, .bit false, .call [] (E87 r3) [], .bit false, .bit false, .nm 22 (vI (r3.fields.length : Int)), .bit false, .bit false, .bit false, .bit true] (p := [Fn Tryz.prog 49 [(false, E9 o)] (E80 r1) [],(true || ((E80 r1).nv && nvL [])) = true,(0 : Int) ≤ 0,(0 : Int) < ((List.map E9 r1).length : Int),look [] 0 = none,(List.map E9 r1)[0]? = some (E9 x1),Fn Tryz.prog 39 [(false, E9 x1)] (E3 r2) [],(true || ((E3 r2).nv && nvL [])) = true,(r2 == 0) = false,(r2 == 0) = false,vI ((List.map E9 r1).length : Int) = vI (r1.length : Int),(r2 == 0) = false,(r2 == 0) = false,Fn Tryz.prog 50 [(false, E3 r2)] (E87 r3) [],(true || ((E87 r3).nv && nvL [])) = true,(r2 == 0) = false,(r2 == 0) = false,vI ((List.map E3 r3.fields).length : Int) = vI (r3.fields.length : Int),(r2 == 0) = false,(r2 == 0) = false,(r2 == 0) = false,((r1.length : Int) != (i64 (3 + (r3.fields.length : Int)))) = true]) (by kernel_rfl) (cj (impl_Cut_ok o r1 h1) (cj rfl (cj (by decide) (cj (map_ltN (by decide) h2) (cj rfl (cj (map_get h2) (cj (impl_NameOp_ok x1 r2 h3) (cj rfl (cj h4 (cj h4 (cj (len_nm _ _) (cj h4 (cj h4 (cj (impl_opOf_ok r2 r3 h5) (cj rfl (cj h4 (cj h4 (cj (len_nm _ _) (cj h4 (cj h4 (cj h4 (cj1 h6)))))))))))))))))))))))) (fun h6 =>
   Pn.bind (fun x2 h7 =>
   Pn.bind (fun x3 h8 =>
   Pn.bind (fun r4 h9 =>
   Pn.ite (fun h10 =>
   Pn.bind (fun r5 h11 =>
   Pn.bind (fun r6 h12 =>
   Pn.bind (fun r7 h13 =>
   Pn.bind (fun r8 h14 =>
   Pn.bind (fun r9 h15 =>
   Pn.bind (fun r10 h16 =>
   Pn.bind (fun r11 h17 =>
   Pn.ite (fun h18 =>
   Pn.some (Fn.of [.call [] (E80 r1) [], .el (E9 x1), .call [] (E3 r2) [], .draw [], .bit false, .bit false, .nm 18 (vI (r1.length : Int)), .bit false, .bit false, .call [] (E87 r3) [], .bit false, .bit false, .nm 22 (vI (r3.fields.length : Int)), .bit false, .bit false, .bit false, .bit false, .draw [11], .el (E9 x2), .el (E9 x3), .loop .go ((impl_TextReq_s1 o x1 r2 r1 r3 r4 x2 x3)), .call [] (E9 r4) [], .wait 3, .ren [0, 2, 1, 3, 5, 4], .call [] (E9 r4) [], .wait 2, .ren [0, 2, 1, 3, 5, 4], .wait 2, .nm 38 (V.sb 2 1 3 (r1.length - 3)), .call [false, false, true] (E9 r5.1) [V.bx 80 [V.sl true 9 (List.map E9 r5.2)]], .call [false, false, true] (E9 r6.1) [V.bx 80 [V.sl true 9 (List.map E9 r6.2)]], .call [] (V.tup [E3 r7.1, E4 r7.2]) [], .call [false, false, true] (E9 r8.1) [V.bx 80 [V.sl true 9 (List.map E9 r8.2)]], .call [] (V.tup [E3 r9.1, E4 r9.2]) [], .call [false, false, true] (E9 r10.1) [V.bx 80 [V.sl true 9 (List.map E9 r10.2)]], .call [] (E9 r11) [], .bit false] (p := [Fn Tryz.prog 49 [(false, E9 o)] (E80 r1) [],(true || ((E80 r1).nv && nvL [])) = true,(0 : Int) ≤ 0,(0 : Int) < ((List.map E9 r1).length : Int),look [] 0 = none,(List.map E9 r1)[0]? = some (E9 x1),Fn Tryz.prog 39 [(false, E9 x1)] (E3 r2) [],(true || ((E3 r2).nv && nvL [])) = true,(r2 == 0) = false,(r2 == 0) = false,vI ((List.map E9 r1).length : Int) = vI (r1.length : Int),(r2 == 0) = false,(r2 == 0) = false,Fn Tryz.prog 50 [(false, E3 r2)] (E87 r3) [],(true || ((E87 r3).nv && nvL [])) = true,(r2 == 0) = false,(r2 == 0) = false,vI ((List.map E3 r3.fields).length : Int) = vI (r3.fields.length : Int),(r2 == 0) = false,(r2 == 0) = false,(r2 == 0) = false,((r1.length : Int) != (i64 (3 + (r3.fields.length : Int)))) = false,(0 : Int) ≤ 1,(1 : Int) < ((List.map E9 r1).length : Int),look [] 1 = none,(List.map E9 r1)[1]? = some (E9 x2),(0 : Int) ≤ 2,(2 : Int) < ((List.map E9 r1).length : Int),look [] 2 = none,(List.map E9 r1)[2]? = some (E9 x3),Fn Tryz.prog 51 [(false, E3 r2)] (E9 r4) [],(true || ((E9 r4).nv && nvL [])) = true,(impl_TextReq_s1 o x1 r2 r1 r3 r4 x2 x3) = (impl_TextReq_s1 o x1 r2 r1 r3 r4 x2 x3),Fn Tryz.prog 51 [(false, E3 r2)] (E9 r4) [],(true || ((E9 r4).nv && nvL [])) = true,(impl_TextReq_s1 o x1 r2 r1 r3 r4 x2 x3) = (impl_TextReq_s1 o x1 r2 r1 r3 r4 x2 x3),(0 : Int) ≤ 3,(3 : Int) ≤ ((List.map E9 r1).length : Int),(((List.map E9 r1).length : Int) : Int) ≤ ((List.map E9 r1).length : Int),V.sb 2 1 3 ((((List.map E9 r1).length : Int).toNat) - (3)) = V.sb 2 1 3 (r1.length - 3),Fn Tryz.prog 52 [(false, E3 38), (false, V.cp [vI r2]), (true, V.bx 80 [V.sl true 9 (((List.map E9 r1).drop 3).take (r1.length - 3))])] (E9 r5.1) [V.bx 80 [V.sl true 9 (List.map E9 r5.2)]],(false || ((E9 r5.1).nv && nvL [V.bx 80 [V.sl true 9 (List.map E9 r5.2)]])) = true,Fn Tryz.prog 52 [(false, E3 4), (false, V.cp [vI r2]), (true, V.bx 80 [V.sl true 9 (List.map E9 r5.2)])] (E9 r6.1) [V.bx 80 [V.sl true 9 (List.map E9 r6.2)]],(false || ((E9 r6.1).nv && nvL [V.bx 80 [V.sl true 9 (List.map E9 r6.2)]])) = true,Fn Tryz.prog 54 [(false, E9 r6.1)] (V.tup [E3 r7.1, E4 r7.2]) [],(true || ((V.tup [E3 r7.1, E4 r7.2]).nv && nvL [])) = true,Fn Tryz.prog 52 [(false, E3 14), (false, V.cp [vI r2]), (true, V.bx 80 [V.sl true 9 (List.map E9 r6.2)])] (E9 r8.1) [V.bx 80 [V.sl true 9 (List.map E9 r8.2)]],(false || ((E9 r8.1).nv && nvL [V.bx 80 [V.sl true 9 (List.map E9 r8.2)]])) = true,Fn Tryz.prog 54 [(false, E9 r8.1)] (V.tup [E3 r9.1, E4 r9.2]) [],(true || ((V.tup [E3 r9.1, E4 r9.2]).nv && nvL [])) = true,Fn Tryz.prog 52 [(false, E3 103), (false, V.cp [vI r2]), (true, V.bx 80 [V.sl true 9 (List.map E9 r8.2)])] (E9 r10.1) [V.bx 80 [V.sl true 9 (List.map E9 r10.2)]],(false || ((E9 r10.1).nv && nvL [V.bx 80 [V.sl true 9 (List.map E9 r10.2)]])) = true,Fn Tryz.prog 37 [(false, E23 (Req.mk r2 x2 r10.1 r5.1 x3 r4 r7.1 r9.1))] (E9 r11) [],(true || ((E9 r11).nv && nvL [])) = true,(!(r11 == o)) = false]) (by kernel_rfl) (cj (impl_Cut_ok o r1 h1) (cj rfl (cj (by decide) (cj (map_ltN (by decide) h2) (cj rfl (cj (map_get h2) (cj (impl_NameOp_ok x1 r2 h3) (cj rfl (cj h4 (cj h4 (cj (len_nm _ _) (cj h4 (cj h4 (cj (impl_opOf_ok r2 r3 h5) (cj rfl (cj h4 (cj h4 (cj (len_nm _ _) (cj h4 (cj h4 (cj h4 (cj h6 (cj (by decide) (cj (map_ltN (by decide) h7) (cj rfl (cj (map_get h7) (cj (by decide) (cj (map_ltN (by decide) h8) (cj rfl (cj (map_get h8) (cj (impl_OpMti_ok r2 r4 h9) (cj rfl (cj rfl (cj (impl_OpMti_ok r2 r4 h9) (cj rfl (cj rfl (cj (by decide) (cj (by rw [List.length_map]; exact (od h10)) (cj (Int.le_refl _) (cj (by simp) (cj (Fn.args (by rw [cut_map]) (impl_TextReq_1_ok 38 r2 ((r1.drop 3).take (r1.length - 3)) r5 h11)) (cj (by simp [V.nv, nvL, nvL_all, nv_E9, nv_E80]) (cj (impl_TextReq_1_ok 4 r2 r5.2 r6 h12) (cj (by simp [V.nv, nvL, nvL_all, nv_E9, nv_E80]) (cj (impl_TextNum_ok r6.1 r7 h13) (cj rfl (cj (impl_TextReq_1_ok 14 r2 r6.2 r8 h14) (cj (by simp [V.nv, nvL, nvL_all, nv_E9, nv_E80]) (cj (impl_TextNum_ok r8.1 r9 h15) (cj rfl (cj (impl_TextReq_1_ok 103 r2 r8.2 r10 h16) (cj (by simp [V.nv, nvL, nvL_all, nv_E9, nv_E80]) (cj (impl_ReqText_ok (Req.mk r2 x2 r10.1 r5.1 x3 r4 r7.1 r9.1) r11 h17) (cj rfl (cj1 (nf h18)))))))))))))))))))))))))))))))))))))))))))))))))))))))))) (fun h18 =>
   Pn.some (Fn.of [.call [] (E80 r1) [], .el (E9 x1), .call [] (E3 r2) [], .draw [], .bit false, .bit false, .nm 18 (vI (r1.length : Int)), .bit false, .bit false, .call [] (E87 r3) [], .bit false, .bit false, .nm 22 (vI (r3.fields.length : Int)), .bit false, .bit false, .bit false, .bit false, .draw [11], .el (E9 x2), .el (E9 x3), .loop .go ((impl_TextReq_s1 o x1 r2 r1 r3 r4 x2 x3)), .call [] (E9 r4) [], .wait 3, .ren [0, 2, 1, 3, 5, 4], .call [] (E9 r4) [], .wait 2, .ren [0, 2, 1, 3, 5, 4], .wait 2, .nm 38 (V.sb 2 1 3 (r1.length - 3)), .call [false, false, true] (E9 r5.1) [V.bx 80 [V.sl true 9 (List.map E9 r5.2)]], .call [false, false, true] (E9 r6.1) [V.bx 80 [V.sl true 9 (List.map E9 r6.2)]], .call [] (V.tup [E3 r7.1, E4 r7.2]) [], .call [false, false, true] (E9 r8.1) [V.bx 80 [V.sl true 9 (List.map E9 r8.2)]], .call [] (V.tup [E3 r9.1, E4 r9.2]) [], .call [false, false, true] (E9 r10.1) [V.bx 80 [V.sl true 9 (List.map E9 r10.2)]], .call [] (E9 r11) [], .bit true] (p := [Fn Tryz.prog 49 [(false, E9 o)] (E80 r1) [],(true || ((E80 r1).nv && nvL [])) = true,(0 : Int) ≤ 0,(0 : Int) < ((List.map E9 r1).length : Int),look [] 0 = none,(List.map E9 r1)[0]? = some (E9 x1),Fn Tryz.prog 39 [(false, E9 x1)] (E3 r2) [],(true || ((E3 r2).nv && nvL [])) = true,(r2 == 0) = false,(r2 == 0) = false,vI ((List.map E9 r1).length : Int) = vI (r1.length : Int),(r2 == 0) = false,(r2 == 0) = false,Fn Tryz.prog 50 [(false, E3 r2)] (E87 r3) [],(true || ((E87 r3).nv && nvL [])) = true,(r2 == 0) = false,(r2 == 0) = false,vI ((List.map E3 r3.fields).length : Int) = vI (r3.fields.length : Int),(r2 == 0) = false,(r2 == 0) = false,(r2 == 0) = false,((r1.length : Int) != (i64 (3 + (r3.fields.length : Int)))) = false,(0 : Int) ≤ 1,(1 : Int) < ((List.map E9 r1).length : Int),look [] 1 = none,(List.map E9 r1)[1]? = some (E9 x2),(0 : Int) ≤ 2,(2 : Int) < ((List.map E9 r1).length : Int),look [] 2 = none,(List.map E9 r1)[2]? = some (E9 x3),Fn Tryz.prog 51 [(false, E3 r2)] (E9 r4) [],(true || ((E9 r4).nv && nvL [])) = true,(impl_TextReq_s1 o x1 r2 r1 r3 r4 x2 x3) = (impl_TextReq_s1 o x1 r2 r1 r3 r4 x2 x3),Fn Tryz.prog 51 [(false, E3 r2)] (E9 r4) [],(true || ((E9 r4).nv && nvL [])) = true,(impl_TextReq_s1 o x1 r2 r1 r3 r4 x2 x3) = (impl_TextReq_s1 o x1 r2 r1 r3 r4 x2 x3),(0 : Int) ≤ 3,(3 : Int) ≤ ((List.map E9 r1).length : Int),(((List.map E9 r1).length : Int) : Int) ≤ ((List.map E9 r1).length : Int),V.sb 2 1 3 ((((List.map E9 r1).length : Int).toNat) - (3)) = V.sb 2 1 3 (r1.length - 3),Fn Tryz.prog 52 [(false, E3 38), (false, V.cp [vI r2]), (true, V.bx 80 [V.sl true 9 (((List.map E9 r1).drop 3).take (r1.length - 3))])] (E9 r5.1) [V.bx 80 [V.sl true 9 (List.map E9 r5.2)]],(false || ((E9 r5.1).nv && nvL [V.bx 80 [V.sl true 9 (List.map E9 r5.2)]])) = true,Fn Tryz.prog 52 [(false, E3 4), (false, V.cp [vI r2]), (true, V.bx 80 [V.sl true 9 (List.map E9 r5.2)])] (E9 r6.1) [V.bx 80 [V.sl true 9 (List.map E9 r6.2)]],(false || ((E9 r6.1).nv && nvL [V.bx 80 [V.sl true 9 (List.map E9 r6.2)]])) = true,Fn Tryz.prog 54 [(false, E9 r6.1)] (V.tup [E3 r7.1, E4 r7.2]) [],(true || ((V.tup [E3 r7.1, E4 r7.2]).nv && nvL [])) = true,Fn Tryz.prog 52 [(false, E3 14), (false, V.cp [vI r2]), (true, V.bx 80 [V.sl true 9 (List.map E9 r6.2)])] (E9 r8.1) [V.bx 80 [V.sl true 9 (List.map E9 r8.2)]],(false || ((E9 r8.1).nv && nvL [V.bx 80 [V.sl true 9 (List.map E9 r8.2)]])) = true,Fn Tryz.prog 54 [(false, E9 r8.1)] (V.tup [E3 r9.1, E4 r9.2]) [],(true || ((V.tup [E3 r9.1, E4 r9.2]).nv && nvL [])) = true,Fn Tryz.prog 52 [(false, E3 103), (false, V.cp [vI r2]), (true, V.bx 80 [V.sl true 9 (List.map E9 r8.2)])] (E9 r10.1) [V.bx 80 [V.sl true 9 (List.map E9 r10.2)]],(false || ((E9 r10.1).nv && nvL [V.bx 80 [V.sl true 9 (List.map E9 r10.2)]])) = true,Fn Tryz.prog 37 [(false, E23 (Req.mk r2 x2 r10.1 r5.1 x3 r4 r7.1 r9.1))] (E9 r11) [],(true || ((E9 r11).nv && nvL [])) = true,(!(r11 == o)) = true]) (by kernel_rfl) (cj (impl_Cut_ok o r1 h1) (cj rfl (cj (by decide) (cj (map_ltN (by decide) h2) (cj rfl (cj (map_get h2) (cj (impl_NameOp_ok x1 r2 h3) (cj rfl (cj h4 (cj h4 (cj (len_nm _ _) (cj h4 (cj h4 (cj (impl_opOf_ok r2 r3 h5) (cj rfl (cj h4 (cj h4 (cj (len_nm _ _) (cj h4 (cj h4 (cj h4 (cj h6 (cj (by decide) (cj (map_ltN (by decide) h7) (cj rfl (cj (map_get h7) (cj (by decide) (cj (map_ltN (by decide) h8) (cj rfl (cj (map_get h8) (cj (impl_OpMti_ok r2 r4 h9) (cj rfl (cj rfl (cj (impl_OpMti_ok r2 r4 h9) (cj rfl (cj rfl (cj (by decide) (cj (by rw [List.length_map]; exact (od h10)) (cj (Int.le_refl _) (cj (by simp) (cj (Fn.args (by rw [cut_map]) (impl_TextReq_1_ok 38 r2 ((r1.drop 3).take (r1.length - 3)) r5 h11)) (cj (by simp [V.nv, nvL, nvL_all, nv_E9, nv_E80]) (cj (impl_TextReq_1_ok 4 r2 r5.2 r6 h12) (cj (by simp [V.nv, nvL, nvL_all, nv_E9, nv_E80]) (cj (impl_TextNum_ok r6.1 r7 h13) (cj rfl (cj (impl_TextReq_1_ok 14 r2 r6.2 r8 h14) (cj (by simp [V.nv, nvL, nvL_all, nv_E9, nv_E80]) (cj (impl_TextNum_ok r8.1 r9 h15) (cj rfl (cj (impl_TextReq_1_ok 103 r2 r8.2 r10 h16) (cj (by simp [V.nv, nvL, nvL_all, nv_E9, nv_E80]) (cj (impl_ReqText_ok (Req.mk r2 x2 r10.1 r5.1 x3 r4 r7.1 r9.1) r11 h17) (cj rfl (cj1 (nt h18)))))))))))))))))))))))))))))))))))))))))))))))))))))))))))))))))) (fun h10 =>
   Pn.none))))))))))
def laws_FnReq (o : List Int) : Option (Bool) :=
 if (decide (1048576 < (o.length : Int))) = true then
 some true
 else
 (spec_MakeBook o).bind fun r1 =>
 (spec_MakeReq o r1).bind fun r2 =>
 (impl_ReqMsg r2).bind fun r3 =>
 (impl_ReqOf r3.1).bind fun r4 =>
 (impl_ReqText r2).bind fun r5 =>
 (impl_TextReq r5).bind fun r6 =>
 if r3.2 = true then
 if (r4.2 == 0) = true then
 if ((r4.1.Op == r2.Op) && ((r4.1.Acct == r2.Acct) && ((r4.1.Other == r2.Other) && ((r4.1.Hold == r2.Hold) && ((r4.1.Trace == r2.Trace) && ((r4.1.Mti == r2.Mti) && ((r4.1.Amount == r2.Amount) && ((r4.1.Ttl == r2.Ttl) && true)))))))) = true then
 if r6.2 = true then
 if ((r6.1.Op == r2.Op) && ((r6.1.Acct == r2.Acct) && ((r6.1.Other == r2.Other) && ((r6.1.Hold == r2.Hold) && ((r6.1.Trace == r2.Trace) && ((r6.1.Mti == r2.Mti) && ((r6.1.Amount == r2.Amount) && ((r6.1.Ttl == r2.Ttl) && true)))))))) = true then
 (impl_MtiKnown r2.Mti).bind fun r7 =>
 if r7 = true then
 (impl_OpName r2.Op).bind fun r8 =>
 (impl_NameOp r8).bind fun r9 =>
 some (r9 == r2.Op)
 else
 some false
 else
 some false
 else
 some false
 else
 some false
 else
 some false
 else
 some false
theorem laws_FnReq_ok (o : List Int) : Pn (fun y => Fn Tryz.prog 8 [(false, E39 o)] (E4 y) []) (laws_FnReq o) := by
  unfold laws_FnReq
  exact
   Pn.ite (fun h1 =>
   Pn.some (Fn.of [.wait 3, .nm 12 (vI (o.length : Int)), .bit true] (p := [vI ((List.map E5 o).length : Int) = vI (o.length : Int),(decide (1048576 < (o.length : Int))) = true]) (by kernel_rfl) (cj (len_nm _ _) (cj1 h1)))) (fun h1 =>
   Pn.bind (fun r1 h2 =>
   Pn.bind (fun r2 h3 =>
   Pn.bind (fun r3 h4 =>
   Pn.bind (fun r4 h5 =>
   Pn.bind (fun r5 h6 =>
   Pn.bind (fun r6 h7 =>
   Pn.ite (fun h8 =>
   Pn.ite (fun h9 =>
   Pn.ite (fun h10 =>
   Pn.ite (fun h11 =>
   Pn.ite (fun h12 =>
   Pn.bind (fun r7 h13 =>
   Pn.ite (fun h14 =>
   Pn.bind (fun r8 h15 =>
   Pn.bind (fun r9 h16 =>
   Pn.some (Fn.of [.wait 3, .nm 12 (vI (o.length : Int)), .bit false, .call [] (E67 r1) [], .call [] (E23 r2) [], .call [] (V.tup [E72 r3.1, E4 r3.2]) [], .call [] (V.tup [E23 r4.1, E3 r4.2]) [], .call [] (E9 r5) [], .call [] (V.tup [E23 r6.1, E4 r6.2]) [], .draw [], .bit true, .bit true, .bit true, .bit true, .bit true, .bit true, .bit true, .bit true, .bit true, .bit true, .bit true, .bit true, .bit true, .bit true, .bit true, .bit true, .call [] (E4 r7) [], .bit true, .bit true, .bit true, .bit true, .bit true, .bit true, .call [] (E9 r8) [], .bit true, .call [] (E3 r9) [], .bit true, .bit true] (p := [vI ((List.map E5 o).length : Int) = vI (o.length : Int),(decide (1048576 < (o.length : Int))) = false,Fn Tryz.prog 33 [(false, E39 o)] (E67 r1) [],(true || ((E67 r1).nv && nvL [])) = true,Fn Tryz.prog 34 [(false, E39 o), (false, E67 r1)] (E23 r2) [],(false || ((E23 r2).nv && nvL [])) = true,Fn Tryz.prog 35 [(false, E23 r2)] (V.tup [E72 r3.1, E4 r3.2]) [],(true || ((V.tup [E72 r3.1, E4 r3.2]).nv && nvL [])) = true,Fn Tryz.prog 36 [(false, E72 r3.1)] (V.tup [E23 r4.1, E3 r4.2]) [],(false || ((V.tup [E23 r4.1, E3 r4.2]).nv && nvL [])) = true,Fn Tryz.prog 37 [(false, E23 r2)] (E9 r5) [],(true || ((E9 r5).nv && nvL [])) = true,Fn Tryz.prog 10 [(false, E9 r5)] (V.tup [E23 r6.1, E4 r6.2]) [],(true || ((V.tup [E23 r6.1, E4 r6.2]).nv && nvL [])) = true,r3.2 = true,r3.2 = true,r3.2 = true,(r4.2 == 0) = true,(r4.2 == 0) = true,(r4.2 == 0) = true,(r4.2 == 0) = true,((r4.1.Op == r2.Op) && ((r4.1.Acct == r2.Acct) && ((r4.1.Other == r2.Other) && ((r4.1.Hold == r2.Hold) && ((r4.1.Trace == r2.Trace) && ((r4.1.Mti == r2.Mti) && ((r4.1.Amount == r2.Amount) && ((r4.1.Ttl == r2.Ttl) && true)))))))) = true,((r4.1.Op == r2.Op) && ((r4.1.Acct == r2.Acct) && ((r4.1.Other == r2.Other) && ((r4.1.Hold == r2.Hold) && ((r4.1.Trace == r2.Trace) && ((r4.1.Mti == r2.Mti) && ((r4.1.Amount == r2.Amount) && ((r4.1.Ttl == r2.Ttl) && true)))))))) = true,r6.2 = true,r6.2 = true,r6.2 = true,r6.2 = true,((r6.1.Op == r2.Op) && ((r6.1.Acct == r2.Acct) && ((r6.1.Other == r2.Other) && ((r6.1.Hold == r2.Hold) && ((r6.1.Trace == r2.Trace) && ((r6.1.Mti == r2.Mti) && ((r6.1.Amount == r2.Amount) && ((r6.1.Ttl == r2.Ttl) && true)))))))) = true,((r6.1.Op == r2.Op) && ((r6.1.Acct == r2.Acct) && ((r6.1.Other == r2.Other) && ((r6.1.Hold == r2.Hold) && ((r6.1.Trace == r2.Trace) && ((r6.1.Mti == r2.Mti) && ((r6.1.Amount == r2.Amount) && ((r6.1.Ttl == r2.Ttl) && true)))))))) = true,((r6.1.Op == r2.Op) && ((r6.1.Acct == r2.Acct) && ((r6.1.Other == r2.Other) && ((r6.1.Hold == r2.Hold) && ((r6.1.Trace == r2.Trace) && ((r6.1.Mti == r2.Mti) && ((r6.1.Amount == r2.Amount) && ((r6.1.Ttl == r2.Ttl) && true)))))))) = true,Fn Tryz.prog 38 [(false, E9 r2.Mti)] (E4 r7) [],(true || ((E4 r7).nv && nvL [])) = true,((r6.1.Op == r2.Op) && ((r6.1.Acct == r2.Acct) && ((r6.1.Other == r2.Other) && ((r6.1.Hold == r2.Hold) && ((r6.1.Trace == r2.Trace) && ((r6.1.Mti == r2.Mti) && ((r6.1.Amount == r2.Amount) && ((r6.1.Ttl == r2.Ttl) && true)))))))) = true,r7 = true,r7 = true,r7 = true,r7 = true,r7 = true,Fn Tryz.prog 40 [(false, E3 r2.Op)] (E9 r8) [],(true || ((E9 r8).nv && nvL [])) = true,r7 = true,Fn Tryz.prog 39 [(false, E9 r8)] (E3 r9) [],(true || ((E3 r9).nv && nvL [])) = true,r7 = true,r7 = true]) (by kernel_rfl) (cj (len_nm _ _) (cj h1 (cj (spec_MakeBook_ok o r1 h2) (cj rfl (cj (spec_MakeReq_ok o r1 r2 h3) (cj (by simp [V.nv, nvL, nvL_all, nv_E3, nv_E9, nv_E23]) (cj (impl_ReqMsg_ok r2 r3 h4) (cj rfl (cj (impl_ReqOf_ok r3.1 r4 h5) (cj (by simp [V.nv, nvL, nvL_all, nv_E3, nv_E9, nv_E23]) (cj (impl_ReqText_ok r2 r5 h6) (cj rfl (cj (impl_TextReq_ok r5 r6 h7) (cj rfl (cj h8 (cj h8 (cj h8 (cj h9 (cj h9 (cj h9 (cj h9 (cj h10 (cj h10 (cj h11 (cj h11 (cj h11 (cj h11 (cj h12 (cj h12 (cj h12 (cj (impl_MtiKnown_ok r2.Mti r7 h13) (cj rfl (cj h12 (cj h14 (cj h14 (cj h14 (cj h14 (cj h14 (cj (impl_OpName_ok r2.Op r8 h15) (cj rfl (cj h14 (cj (impl_NameOp_ok r8 r9 h16) (cj rfl (cj h14 (cj1 h14))))))))))))))))))))))))))))))))))))))))))))))))) (fun h14 =>
   Pn.some (Fn.of [.wait 3, .nm 12 (vI (o.length : Int)), .bit false, .call [] (E67 r1) [], .call [] (E23 r2) [], .call [] (V.tup [E72 r3.1, E4 r3.2]) [], .call [] (V.tup [E23 r4.1, E3 r4.2]) [], .call [] (E9 r5) [], .call [] (V.tup [E23 r6.1, E4 r6.2]) [], .draw [], .bit true, .bit true, .bit true, .bit true, .bit true, .bit true, .bit true, .bit true, .bit true, .bit true, .bit true, .bit true, .bit true, .bit true, .bit true, .bit true, .call [] (E4 r7) [], .bit true, .bit false, .bit false, .bit false, .bit false, .bit false, .bit false, .bit false, .bit false] (p := [vI ((List.map E5 o).length : Int) = vI (o.length : Int),(decide (1048576 < (o.length : Int))) = false,Fn Tryz.prog 33 [(false, E39 o)] (E67 r1) [],(true || ((E67 r1).nv && nvL [])) = true,Fn Tryz.prog 34 [(false, E39 o), (false, E67 r1)] (E23 r2) [],(false || ((E23 r2).nv && nvL [])) = true,Fn Tryz.prog 35 [(false, E23 r2)] (V.tup [E72 r3.1, E4 r3.2]) [],(true || ((V.tup [E72 r3.1, E4 r3.2]).nv && nvL [])) = true,Fn Tryz.prog 36 [(false, E72 r3.1)] (V.tup [E23 r4.1, E3 r4.2]) [],(false || ((V.tup [E23 r4.1, E3 r4.2]).nv && nvL [])) = true,Fn Tryz.prog 37 [(false, E23 r2)] (E9 r5) [],(true || ((E9 r5).nv && nvL [])) = true,Fn Tryz.prog 10 [(false, E9 r5)] (V.tup [E23 r6.1, E4 r6.2]) [],(true || ((V.tup [E23 r6.1, E4 r6.2]).nv && nvL [])) = true,r3.2 = true,r3.2 = true,r3.2 = true,(r4.2 == 0) = true,(r4.2 == 0) = true,(r4.2 == 0) = true,(r4.2 == 0) = true,((r4.1.Op == r2.Op) && ((r4.1.Acct == r2.Acct) && ((r4.1.Other == r2.Other) && ((r4.1.Hold == r2.Hold) && ((r4.1.Trace == r2.Trace) && ((r4.1.Mti == r2.Mti) && ((r4.1.Amount == r2.Amount) && ((r4.1.Ttl == r2.Ttl) && true)))))))) = true,((r4.1.Op == r2.Op) && ((r4.1.Acct == r2.Acct) && ((r4.1.Other == r2.Other) && ((r4.1.Hold == r2.Hold) && ((r4.1.Trace == r2.Trace) && ((r4.1.Mti == r2.Mti) && ((r4.1.Amount == r2.Amount) && ((r4.1.Ttl == r2.Ttl) && true)))))))) = true,r6.2 = true,r6.2 = true,r6.2 = true,r6.2 = true,((r6.1.Op == r2.Op) && ((r6.1.Acct == r2.Acct) && ((r6.1.Other == r2.Other) && ((r6.1.Hold == r2.Hold) && ((r6.1.Trace == r2.Trace) && ((r6.1.Mti == r2.Mti) && ((r6.1.Amount == r2.Amount) && ((r6.1.Ttl == r2.Ttl) && true)))))))) = true,((r6.1.Op == r2.Op) && ((r6.1.Acct == r2.Acct) && ((r6.1.Other == r2.Other) && ((r6.1.Hold == r2.Hold) && ((r6.1.Trace == r2.Trace) && ((r6.1.Mti == r2.Mti) && ((r6.1.Amount == r2.Amount) && ((r6.1.Ttl == r2.Ttl) && true)))))))) = true,((r6.1.Op == r2.Op) && ((r6.1.Acct == r2.Acct) && ((r6.1.Other == r2.Other) && ((r6.1.Hold == r2.Hold) && ((r6.1.Trace == r2.Trace) && ((r6.1.Mti == r2.Mti) && ((r6.1.Amount == r2.Amount) && ((r6.1.Ttl == r2.Ttl) && true)))))))) = true,Fn Tryz.prog 38 [(false, E9 r2.Mti)] (E4 r7) [],(true || ((E4 r7).nv && nvL [])) = true,((r6.1.Op == r2.Op) && ((r6.1.Acct == r2.Acct) && ((r6.1.Other == r2.Other) && ((r6.1.Hold == r2.Hold) && ((r6.1.Trace == r2.Trace) && ((r6.1.Mti == r2.Mti) && ((r6.1.Amount == r2.Amount) && ((r6.1.Ttl == r2.Ttl) && true)))))))) = true,r7 = false,r7 = false,r7 = false,r7 = false,r7 = false,r7 = false,r7 = false,r7 = false]) (by kernel_rfl) (cj (len_nm _ _) (cj h1 (cj (spec_MakeBook_ok o r1 h2) (cj rfl (cj (spec_MakeReq_ok o r1 r2 h3) (cj (by simp [V.nv, nvL, nvL_all, nv_E3, nv_E9, nv_E23]) (cj (impl_ReqMsg_ok r2 r3 h4) (cj rfl (cj (impl_ReqOf_ok r3.1 r4 h5) (cj (by simp [V.nv, nvL, nvL_all, nv_E3, nv_E9, nv_E23]) (cj (impl_ReqText_ok r2 r5 h6) (cj rfl (cj (impl_TextReq_ok r5 r6 h7) (cj rfl (cj h8 (cj h8 (cj h8 (cj h9 (cj h9 (cj h9 (cj h9 (cj h10 (cj h10 (cj h11 (cj h11 (cj h11 (cj h11 (cj h12 (cj h12 (cj h12 (cj (impl_MtiKnown_ok r2.Mti r7 h13) (cj rfl (cj h12 (cj h14 (cj h14 (cj h14 (cj h14 (cj h14 (cj h14 (cj h14 (cj1 h14))))))))))))))))))))))))))))))))))))))))))))) (fun h12 =>
   Pn.some (Fn.of [.wait 3, .nm 12 (vI (o.length : Int)), .bit false, .call [] (E67 r1) [], .call [] (E23 r2) [], .call [] (V.tup [E72 r3.1, E4 r3.2]) [], .call [] (V.tup [E23 r4.1, E3 r4.2]) [], .call [] (E9 r5) [], .call [] (V.tup [E23 r6.1, E4 r6.2]) [], .draw [], .bit true, .bit true, .bit true, .bit true, .bit true, .bit true, .bit true, .bit true, .bit true, .bit true, .bit true, .bit true, .bit true, .bit false, .bit false, .bit false, .bit false, .bit false, .bit false, .bit false, .bit false, .bit false, .bit false, .bit false, .bit false] (p := [vI ((List.map E5 o).length : Int) = vI (o.length : Int),(decide (1048576 < (o.length : Int))) = false,Fn Tryz.prog 33 [(false, E39 o)] (E67 r1) [],(true || ((E67 r1).nv && nvL [])) = true,Fn Tryz.prog 34 [(false, E39 o), (false, E67 r1)] (E23 r2) [],(false || ((E23 r2).nv && nvL [])) = true,Fn Tryz.prog 35 [(false, E23 r2)] (V.tup [E72 r3.1, E4 r3.2]) [],(true || ((V.tup [E72 r3.1, E4 r3.2]).nv && nvL [])) = true,Fn Tryz.prog 36 [(false, E72 r3.1)] (V.tup [E23 r4.1, E3 r4.2]) [],(false || ((V.tup [E23 r4.1, E3 r4.2]).nv && nvL [])) = true,Fn Tryz.prog 37 [(false, E23 r2)] (E9 r5) [],(true || ((E9 r5).nv && nvL [])) = true,Fn Tryz.prog 10 [(false, E9 r5)] (V.tup [E23 r6.1, E4 r6.2]) [],(true || ((V.tup [E23 r6.1, E4 r6.2]).nv && nvL [])) = true,r3.2 = true,r3.2 = true,r3.2 = true,(r4.2 == 0) = true,(r4.2 == 0) = true,(r4.2 == 0) = true,(r4.2 == 0) = true,((r4.1.Op == r2.Op) && ((r4.1.Acct == r2.Acct) && ((r4.1.Other == r2.Other) && ((r4.1.Hold == r2.Hold) && ((r4.1.Trace == r2.Trace) && ((r4.1.Mti == r2.Mti) && ((r4.1.Amount == r2.Amount) && ((r4.1.Ttl == r2.Ttl) && true)))))))) = true,((r4.1.Op == r2.Op) && ((r4.1.Acct == r2.Acct) && ((r4.1.Other == r2.Other) && ((r4.1.Hold == r2.Hold) && ((r4.1.Trace == r2.Trace) && ((r4.1.Mti == r2.Mti) && ((r4.1.Amount == r2.Amount) && ((r4.1.Ttl == r2.Ttl) && true)))))))) = true,r6.2 = true,r6.2 = true,r6.2 = true,r6.2 = true,((r6.1.Op == r2.Op) && ((r6.1.Acct == r2.Acct) && ((r6.1.Other == r2.Other) && ((r6.1.Hold == r2.Hold) && ((r6.1.Trace == r2.Trace) && ((r6.1.Mti == r2.Mti) && ((r6.1.Amount == r2.Amount) && ((r6.1.Ttl == r2.Ttl) && true)))))))) = false,((r6.1.Op == r2.Op) && ((r6.1.Acct == r2.Acct) && ((r6.1.Other == r2.Other) && ((r6.1.Hold == r2.Hold) && ((r6.1.Trace == r2.Trace) && ((r6.1.Mti == r2.Mti) && ((r6.1.Amount == r2.Amount) && ((r6.1.Ttl == r2.Ttl) && true)))))))) = false,((r6.1.Op == r2.Op) && ((r6.1.Acct == r2.Acct) && ((r6.1.Other == r2.Other) && ((r6.1.Hold == r2.Hold) && ((r6.1.Trace == r2.Trace) && ((r6.1.Mti == r2.Mti) && ((r6.1.Amount == r2.Amount) && ((r6.1.Ttl == r2.Ttl) && true)))))))) = false,((r6.1.Op == r2.Op) && ((r6.1.Acct == r2.Acct) && ((r6.1.Other == r2.Other) && ((r6.1.Hold == r2.Hold) && ((r6.1.Trace == r2.Trace) && ((r6.1.Mti == r2.Mti) && ((r6.1.Amount == r2.Amount) && ((r6.1.Ttl == r2.Ttl) && true)))))))) = false,false = false,false = false,false = false,false = false,false = false,false = false,false = false,false = false]) (by kernel_rfl) (cj (len_nm _ _) (cj h1 (cj (spec_MakeBook_ok o r1 h2) (cj rfl (cj (spec_MakeReq_ok o r1 r2 h3) (cj (by simp [V.nv, nvL, nvL_all, nv_E3, nv_E9, nv_E23]) (cj (impl_ReqMsg_ok r2 r3 h4) (cj rfl (cj (impl_ReqOf_ok r3.1 r4 h5) (cj (by simp [V.nv, nvL, nvL_all, nv_E3, nv_E9, nv_E23]) (cj (impl_ReqText_ok r2 r5 h6) (cj rfl (cj (impl_TextReq_ok r5 r6 h7) (cj rfl (cj h8 (cj h8 (cj h8 (cj h9 (cj h9 (cj h9 (cj h9 (cj h10 (cj h10 (cj h11 (cj h11 (cj h11 (cj h11 (cj h12 (cj h12 (cj h12 (cj h12 (cj rfl (cj rfl (cj rfl (cj rfl (cj rfl (cj rfl (cj rfl (cj1 rfl)))))))))))))))))))))))))))))))))))))))))) (fun h11 =>
   Pn.some (Fn.of [.wait 3, .nm 12 (vI (o.length : Int)), .bit false, .call [] (E67 r1) [], .call [] (E23 r2) [], .call [] (V.tup [E72 r3.1, E4 r3.2]) [], .call [] (V.tup [E23 r4.1, E3 r4.2]) [], .call [] (E9 r5) [], .call [] (V.tup [E23 r6.1, E4 r6.2]) [], .draw [], .bit true, .bit true, .bit true, .bit true, .bit true, .bit true, .bit true, .bit true, .bit true, .bit false, .bit false, .bit false, .bit false, .bit false, .bit false, .bit false, .bit false, .bit false, .bit false, .bit false, .bit false, .bit false, .bit false, .bit false, .bit false] (p := [vI ((List.map E5 o).length : Int) = vI (o.length : Int),(decide (1048576 < (o.length : Int))) = false,Fn Tryz.prog 33 [(false, E39 o)] (E67 r1) [],(true || ((E67 r1).nv && nvL [])) = true,Fn Tryz.prog 34 [(false, E39 o), (false, E67 r1)] (E23 r2) [],(false || ((E23 r2).nv && nvL [])) = true,Fn Tryz.prog 35 [(false, E23 r2)] (V.tup [E72 r3.1, E4 r3.2]) [],(true || ((V.tup [E72 r3.1, E4 r3.2]).nv && nvL [])) = true,Fn Tryz.prog 36 [(false, E72 r3.1)] (V.tup [E23 r4.1, E3 r4.2]) [],(false || ((V.tup [E23 r4.1, E3 r4.2]).nv && nvL [])) = true,Fn Tryz.prog 37 [(false, E23 r2)] (E9 r5) [],(true || ((E9 r5).nv && nvL [])) = true,Fn Tryz.prog 10 [(false, E9 r5)] (V.tup [E23 r6.1, E4 r6.2]) [],(true || ((V.tup [E23 r6.1, E4 r6.2]).nv && nvL [])) = true,r3.2 = true,r3.2 = true,r3.2 = true,(r4.2 == 0) = true,(r4.2 == 0) = true,(r4.2 == 0) = true,(r4.2 == 0) = true,((r4.1.Op == r2.Op) && ((r4.1.Acct == r2.Acct) && ((r4.1.Other == r2.Other) && ((r4.1.Hold == r2.Hold) && ((r4.1.Trace == r2.Trace) && ((r4.1.Mti == r2.Mti) && ((r4.1.Amount == r2.Amount) && ((r4.1.Ttl == r2.Ttl) && true)))))))) = true,((r4.1.Op == r2.Op) && ((r4.1.Acct == r2.Acct) && ((r4.1.Other == r2.Other) && ((r4.1.Hold == r2.Hold) && ((r4.1.Trace == r2.Trace) && ((r4.1.Mti == r2.Mti) && ((r4.1.Amount == r2.Amount) && ((r4.1.Ttl == r2.Ttl) && true)))))))) = true,r6.2 = false,r6.2 = false,r6.2 = false,r6.2 = false,false = false,false = false,false = false,false = false,false = false,false = false,false = false,false = false,false = false,false = false,false = false,false = false]) (by kernel_rfl) (cj (len_nm _ _) (cj h1 (cj (spec_MakeBook_ok o r1 h2) (cj rfl (cj (spec_MakeReq_ok o r1 r2 h3) (cj (by simp [V.nv, nvL, nvL_all, nv_E3, nv_E9, nv_E23]) (cj (impl_ReqMsg_ok r2 r3 h4) (cj rfl (cj (impl_ReqOf_ok r3.1 r4 h5) (cj (by simp [V.nv, nvL, nvL_all, nv_E3, nv_E9, nv_E23]) (cj (impl_ReqText_ok r2 r5 h6) (cj rfl (cj (impl_TextReq_ok r5 r6 h7) (cj rfl (cj h8 (cj h8 (cj h8 (cj h9 (cj h9 (cj h9 (cj h9 (cj h10 (cj h10 (cj h11 (cj h11 (cj h11 (cj h11 (cj rfl (cj rfl (cj rfl (cj rfl (cj rfl (cj rfl (cj rfl (cj rfl (cj rfl (cj rfl (cj rfl (cj1 rfl)))))))))))))))))))))))))))))))))))))))))) (fun h10 =>
   Pn.some (Fn.of [.wait 3, .nm 12 (vI (o.length : Int)), .bit false, .call [] (E67 r1) [], .call [] (E23 r2) [], .call [] (V.tup [E72 r3.1, E4 r3.2]) [], .call [] (V.tup [E23 r4.1, E3 r4.2]) [], .call [] (E9 r5) [], .call [] (V.tup [E23 r6.1, E4 r6.2]) [], .draw [], .bit true, .bit true, .bit true, .bit true, .bit true, .bit true, .bit true, .bit false, .bit false, .bit false, .bit false, .bit false, .bit false, .bit false, .bit false, .bit false, .bit false, .bit false, .bit false, .bit false, .bit false, .bit false, .bit false, .bit false, .bit false] (p := [vI ((List.map E5 o).length : Int) = vI (o.length : Int),(decide (1048576 < (o.length : Int))) = false,Fn Tryz.prog 33 [(false, E39 o)] (E67 r1) [],(true || ((E67 r1).nv && nvL [])) = true,Fn Tryz.prog 34 [(false, E39 o), (false, E67 r1)] (E23 r2) [],(false || ((E23 r2).nv && nvL [])) = true,Fn Tryz.prog 35 [(false, E23 r2)] (V.tup [E72 r3.1, E4 r3.2]) [],(true || ((V.tup [E72 r3.1, E4 r3.2]).nv && nvL [])) = true,Fn Tryz.prog 36 [(false, E72 r3.1)] (V.tup [E23 r4.1, E3 r4.2]) [],(false || ((V.tup [E23 r4.1, E3 r4.2]).nv && nvL [])) = true,Fn Tryz.prog 37 [(false, E23 r2)] (E9 r5) [],(true || ((E9 r5).nv && nvL [])) = true,Fn Tryz.prog 10 [(false, E9 r5)] (V.tup [E23 r6.1, E4 r6.2]) [],(true || ((V.tup [E23 r6.1, E4 r6.2]).nv && nvL [])) = true,r3.2 = true,r3.2 = true,r3.2 = true,(r4.2 == 0) = true,(r4.2 == 0) = true,(r4.2 == 0) = true,(r4.2 == 0) = true,((r4.1.Op == r2.Op) && ((r4.1.Acct == r2.Acct) && ((r4.1.Other == r2.Other) && ((r4.1.Hold == r2.Hold) && ((r4.1.Trace == r2.Trace) && ((r4.1.Mti == r2.Mti) && ((r4.1.Amount == r2.Amount) && ((r4.1.Ttl == r2.Ttl) && true)))))))) = false,((r4.1.Op == r2.Op) && ((r4.1.Acct == r2.Acct) && ((r4.1.Other == r2.Other) && ((r4.1.Hold == r2.Hold) && ((r4.1.Trace == r2.Trace) && ((r4.1.Mti == r2.Mti) && ((r4.1.Amount == r2.Amount) && ((r4.1.Ttl == r2.Ttl) && true)))))))) = false,false = false,false = false,false = false,false = false,false = false,false = false,false = false,false = false,false = false,false = false,false = false,false = false,false = false,false = false,false = false,false = false]) (by kernel_rfl) (cj (len_nm _ _) (cj h1 (cj (spec_MakeBook_ok o r1 h2) (cj rfl (cj (spec_MakeReq_ok o r1 r2 h3) (cj (by simp [V.nv, nvL, nvL_all, nv_E3, nv_E9, nv_E23]) (cj (impl_ReqMsg_ok r2 r3 h4) (cj rfl (cj (impl_ReqOf_ok r3.1 r4 h5) (cj (by simp [V.nv, nvL, nvL_all, nv_E3, nv_E9, nv_E23]) (cj (impl_ReqText_ok r2 r5 h6) (cj rfl (cj (impl_TextReq_ok r5 r6 h7) (cj rfl (cj h8 (cj h8 (cj h8 (cj h9 (cj h9 (cj h9 (cj h9 (cj h10 (cj h10 (cj rfl (cj rfl (cj rfl (cj rfl (cj rfl (cj rfl (cj rfl (cj rfl (cj rfl (cj rfl (cj rfl (cj rfl (cj rfl (cj rfl (cj rfl (cj1 rfl)))))))))))))))))))))))))))))))))))))))))) (fun h9 =>
   Pn.some (Fn.of [.wait 3, .nm 12 (vI (o.length : Int)), .bit false, .call [] (E67 r1) [], .call [] (E23 r2) [], .call [] (V.tup [E72 r3.1, E4 r3.2]) [], .call [] (V.tup [E23 r4.1, E3 r4.2]) [], .call [] (E9 r5) [], .call [] (V.tup [E23 r6.1, E4 r6.2]) [], .draw [], .bit true, .bit true, .bit true, .bit false, .bit false, .bit false, .bit false, .bit false, .bit false, .bit false, .bit false, .bit false, .bit false, .bit false, .bit false, .bit false, .bit false, .bit false, .bit false, .bit false, .bit false, .bit false, .bit false, .bit false, .bit false] (p := [vI ((List.map E5 o).length : Int) = vI (o.length : Int),(decide (1048576 < (o.length : Int))) = false,Fn Tryz.prog 33 [(false, E39 o)] (E67 r1) [],(true || ((E67 r1).nv && nvL [])) = true,Fn Tryz.prog 34 [(false, E39 o), (false, E67 r1)] (E23 r2) [],(false || ((E23 r2).nv && nvL [])) = true,Fn Tryz.prog 35 [(false, E23 r2)] (V.tup [E72 r3.1, E4 r3.2]) [],(true || ((V.tup [E72 r3.1, E4 r3.2]).nv && nvL [])) = true,Fn Tryz.prog 36 [(false, E72 r3.1)] (V.tup [E23 r4.1, E3 r4.2]) [],(false || ((V.tup [E23 r4.1, E3 r4.2]).nv && nvL [])) = true,Fn Tryz.prog 37 [(false, E23 r2)] (E9 r5) [],(true || ((E9 r5).nv && nvL [])) = true,Fn Tryz.prog 10 [(false, E9 r5)] (V.tup [E23 r6.1, E4 r6.2]) [],(true || ((V.tup [E23 r6.1, E4 r6.2]).nv && nvL [])) = true,r3.2 = true,r3.2 = true,r3.2 = true,(r4.2 == 0) = false,(r4.2 == 0) = false,(r4.2 == 0) = false,(r4.2 == 0) = false,false = false,false = false,false = false,false = false,false = false,false = false,false = false,false = false,false = false,false = false,false = false,false = false,false = false,false = false,false = false,false = false,false = false,false = false]) (by kernel_rfl) (cj (len_nm _ _) (cj h1 (cj (spec_MakeBook_ok o r1 h2) (cj rfl (cj (spec_MakeReq_ok o r1 r2 h3) (cj (by simp [V.nv, nvL, nvL_all, nv_E3, nv_E9, nv_E23]) (cj (impl_ReqMsg_ok r2 r3 h4) (cj rfl (cj (impl_ReqOf_ok r3.1 r4 h5) (cj (by simp [V.nv, nvL, nvL_all, nv_E3, nv_E9, nv_E23]) (cj (impl_ReqText_ok r2 r5 h6) (cj rfl (cj (impl_TextReq_ok r5 r6 h7) (cj rfl (cj h8 (cj h8 (cj h8 (cj h9 (cj h9 (cj h9 (cj h9 (cj rfl (cj rfl (cj rfl (cj rfl (cj rfl (cj rfl (cj rfl (cj rfl (cj rfl (cj rfl (cj rfl (cj rfl (cj rfl (cj rfl (cj rfl (cj rfl (cj rfl (cj1 rfl)))))))))))))))))))))))))))))))))))))))))) (fun h8 =>
   Pn.some (Fn.of [.wait 3, .nm 12 (vI (o.length : Int)), .bit false, .call [] (E67 r1) [], .call [] (E23 r2) [], .call [] (V.tup [E72 r3.1, E4 r3.2]) [], .call [] (V.tup [E23 r4.1, E3 r4.2]) [], .call [] (E9 r5) [], .call [] (V.tup [E23 r6.1, E4 r6.2]) [], .draw [], .bit false, .bit false, .bit false, .bit false, .bit false, .bit false, .bit false, .bit false, .bit false, .bit false, .bit false, .bit false, .bit false, .bit false, .bit false, .bit false, .bit false, .bit false, .bit false, .bit false, .bit false, .bit false, .bit false, .bit false, .bit false] (p := [vI ((List.map E5 o).length : Int) = vI (o.length : Int),(decide (1048576 < (o.length : Int))) = false,Fn Tryz.prog 33 [(false, E39 o)] (E67 r1) [],(true || ((E67 r1).nv && nvL [])) = true,Fn Tryz.prog 34 [(false, E39 o), (false, E67 r1)] (E23 r2) [],(false || ((E23 r2).nv && nvL [])) = true,Fn Tryz.prog 35 [(false, E23 r2)] (V.tup [E72 r3.1, E4 r3.2]) [],(true || ((V.tup [E72 r3.1, E4 r3.2]).nv && nvL [])) = true,Fn Tryz.prog 36 [(false, E72 r3.1)] (V.tup [E23 r4.1, E3 r4.2]) [],(false || ((V.tup [E23 r4.1, E3 r4.2]).nv && nvL [])) = true,Fn Tryz.prog 37 [(false, E23 r2)] (E9 r5) [],(true || ((E9 r5).nv && nvL [])) = true,Fn Tryz.prog 10 [(false, E9 r5)] (V.tup [E23 r6.1, E4 r6.2]) [],(true || ((V.tup [E23 r6.1, E4 r6.2]).nv && nvL [])) = true,r3.2 = false,r3.2 = false,r3.2 = false,false = false,false = false,false = false,false = false,false = false,false = false,false = false,false = false,false = false,false = false,false = false,false = false,false = false,false = false,false = false,false = false,false = false,false = false,false = false,false = false,false = false,false = false]) (by kernel_rfl) (cj (len_nm _ _) (cj h1 (cj (spec_MakeBook_ok o r1 h2) (cj rfl (cj (spec_MakeReq_ok o r1 r2 h3) (cj (by simp [V.nv, nvL, nvL_all, nv_E3, nv_E9, nv_E23]) (cj (impl_ReqMsg_ok r2 r3 h4) (cj rfl (cj (impl_ReqOf_ok r3.1 r4 h5) (cj (by simp [V.nv, nvL, nvL_all, nv_E3, nv_E9, nv_E23]) (cj (impl_ReqText_ok r2 r5 h6) (cj rfl (cj (impl_TextReq_ok r5 r6 h7) (cj rfl (cj h8 (cj h8 (cj h8 (cj rfl (cj rfl (cj rfl (cj rfl (cj rfl (cj rfl (cj rfl (cj rfl (cj rfl (cj rfl (cj rfl (cj rfl (cj rfl (cj rfl (cj rfl (cj rfl (cj rfl (cj rfl (cj rfl (cj rfl (cj rfl (cj1 rfl))))))))))))))))))))))))))))))))))))))))))))))))
end Go.Proofs.YtbophjkjmlenpaaGreatDoorM
