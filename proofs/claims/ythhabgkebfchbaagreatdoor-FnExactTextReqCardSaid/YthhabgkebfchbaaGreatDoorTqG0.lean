/- Printed by gen.py: functions on plain data, and that the program computes them. No condition. -/
import Derived.Test.YthhabgkebfchbaaGreatDoorX1
import Derived.Test.YthhabgkebfchbaaGreatDoorX2
import Derived.Test.YthhabgkebfchbaaGreatDoorProg
namespace Go.Proofs.YthhabgkebfchbaaGreatDoorM
set_option linter.unusedVariables false
set_option linter.unusedSimpArgs false
open Go.RowKit
set_option maxRecDepth 100000

structure Req where
  Op : Int
  Acct : ByteArray
  Other : ByteArray
  Hold : ByteArray
  Trace : ByteArray
  Mti : ByteArray
  Amount : Int
  Ttl : Int
structure opRow where
  mti : ByteArray
  code : ByteArray
  name : ByteArray
  fields : List Int
abbrev vI (x : Int) : V := V.sc (.int .i64 x)
def E9 (x : ByteArray) : V := V.sc (.string x)
def E4 (x : Bool) : V := V.sc (.bool x)
def E3 (x : Int) : V := vI x
def E23 (x : Req) : V := V.agg [vI x.Op, V.sc (.string x.Acct), V.sc (.string x.Other), V.sc (.string x.Hold), V.sc (.string x.Trace), V.sc (.string x.Mti), vI x.Amount, vI x.Ttl]
def E28 (x : List ByteArray) : V := V.sl true 9 (List.map E9 x)
def E5 (x : Int) : V := V.sc (.int .u8 x)
def E37 (x : List Int) : V := V.sl true 3 (List.map E3 x)
def E39 (x : opRow) : V := V.agg [V.sc (.string x.mti), V.sc (.string x.code), V.sc (.string x.name), V.sl true 3 (List.map E3 x.fields)]
def E47 (x : List opRow) : V := V.sl true 39 (List.map E39 x)
theorem nv_E9 (x : ByteArray) : (E9 x).nv = true := by
  simp [E9, V.nv, nvL, nvL_all]
theorem nv_E4 (x : Bool) : (E4 x).nv = true := by
  simp [E4, V.nv, nvL, nvL_all]
theorem nv_E3 (x : Int) : (E3 x).nv = true := by
  simp [E3, V.nv, nvL, nvL_all]
theorem nv_E23 (x : Req) : (E23 x).nv = true := by
  simp [E23, V.nv, nvL, nvL_all]
theorem nv_E28 (x : List ByteArray) : (E28 x).nv = true := by
  simp [E28, V.nv, nvL, nvL_all, nv_E9]
theorem nv_E5 (x : Int) : (E5 x).nv = true := by
  simp [E5, V.nv, nvL, nvL_all]
theorem nv_E37 (x : List Int) : (E37 x).nv = true := by
  simp [E37, V.nv, nvL, nvL_all, nv_E3]
theorem nv_E39 (x : opRow) : (E39 x).nv = true := by
  simp [E39, V.nv, nvL, nvL_all, nv_E3]
theorem nv_E47 (x : List opRow) : (E47 x).nv = true := by
  simp [E47, V.nv, nvL, nvL_all, nv_E39]
def spec_l01Split_l0 (s_ : ByteArray) (by_ : Int) : Nat → Int → Int → (List ByteArray) → Option ((List ByteArray))
  | 0, _, _, _ => none
  | fuel + 1, v1, v2, v3 =>
   if (decide (v2 ≤ (s_.size : Int))) = true then
   if (v2 == (s_.size : Int)) = true then
   if (decide (0 ≤ v1)) = true then
   if (decide (v1 ≤ v2)) = true then
   if (capOk (v3.length + 1)) = true then
   spec_l01Split_l0 s_ by_ fuel (i64 (v2 + 1)) (i64 (v2 + 1)) (v3 ++ [s_.extract v1.toNat v2.toNat])
   else none
   else none
   else none
   else
   if (decide (0 ≤ v2)) = true then
   if (decide ((v2 : Int) < (s_.size : Int))) = true then
   if ((sAt s_ v2) == by_) = true then
   if (decide (0 ≤ v1)) = true then
   if (decide (v1 ≤ v2)) = true then
   if (capOk (v3.length + 1)) = true then
   spec_l01Split_l0 s_ by_ fuel (i64 (v2 + 1)) (i64 (v2 + 1)) (v3 ++ [s_.extract v1.toNat v2.toNat])
   else none
   else none
   else none
   else
   spec_l01Split_l0 s_ by_ fuel v1 (i64 (v2 + 1)) v3
   else none
   else none
   else
   some v3
theorem spec_l01Split_l0_ok (s_ : ByteArray) (by_ : Int) : ∀ (fuel : Nat) (v1 : Int) (v2 : Int) (v3 : List ByteArray), Pn (LpO Tryz.prog (sub (codeOf Tryz.prog 23) [1, 1, 1, 0, 1, 0, 0]) (st 36 [(0, V.sc (.string s_)), (1, V.sc (.int .u8 by_)), (5, V.ow 0), (6, vI v1), (7, vI v2)] [Blk.row 9 (List.map E9 v3) []] []) (fun (y : (List ByteArray)) => (X.out 0, st 36 [(5, V.ow 0)] [Blk.row 9 (List.map E9 y) []] []))) (spec_l01Split_l0 s_ by_ fuel v1 v2 v3)
  | 0, _, _, _ => Pn.none
  | fuel + 1, v1, v2, v3 => by
    unfold spec_l01Split_l0
    exact
     Pn.ite (fun h1 =>
     Pn.ite (fun h2 =>
     Pn.ite (fun h3 =>
     Pn.ite (fun h4 =>
     Pn.ite (fun h5 =>
     LpO.go [.bit true, .bit true, .bit true, .bit true, .bit true, .bit true, .bit true, .bit true, .cp [V.sc (.string (s_.extract v1.toNat v2.toNat))], .nb 2 (.row 9 (List.map E9 (v3 ++ [s_.extract v1.toNat v2.toNat])) []), .wait 8, .mask [0, 1, 5, 6, 7], .ren [2]] (p := [(decide (v2 ≤ (s_.size : Int))) = true,(v2 == (s_.size : Int)) = true,(v2 == (s_.size : Int)) = true,(v2 == (s_.size : Int)) = true,(v2 == (s_.size : Int)) = true,(v2 == (s_.size : Int)) = true,(v2 == (s_.size : Int)) = true,true = true,(0 : Int) ≤ v1,(v1 : Int) ≤ v2,(v2 : Int) ≤ (s_.size : Int),[V.sc (.string (s_.extract v1.toNat v2.toNat))] = [V.sc (.string (s_.extract v1.toNat v2.toNat))],[V.sc (.string (s_.extract v1.toNat v2.toNat))].all V.flatE = true,(List.map E9 v3).length + [V.sc (.string (s_.extract v1.toNat v2.toNat))].length ≤ 9223372036854775807,((List.map E9 v3).length + [V.sc (.string (s_.extract v1.toNat v2.toNat))].length) * 16 ≤ 140737488355328,Blk.row 9 ((List.map E9 v3) ++ [V.sc (.string (s_.extract v1.toNat v2.toNat))]) [] = Blk.row 9 (List.map E9 (v3 ++ [s_.extract v1.toNat v2.toNat])) []]) (by kernel_rfl) (cj h1 (cj h2 (cj h2 (cj h2 (cj h2 (cj h2 (cj h2 (cj rfl (cj (od h3) (cj (od h4) (cj (od h1) (cj rfl (cj rfl (cj (cap1 (capN (by simp) h5)) (cj (cap2 (capN (by simp) h5) (by decide)) (cj1 (nb_app E9 v3 [s_.extract v1.toNat v2.toNat]))))))))))))))))) (spec_l01Split_l0_ok s_ by_ fuel (i64 (v2 + 1)) (i64 (v2 + 1)) (v3 ++ [s_.extract v1.toNat v2.toNat]))) (fun h5 =>
     Pn.none)) (fun h4 =>
     Pn.none)) (fun h3 =>
     Pn.none)) (fun h2 =>
     Pn.ite (fun h6 =>
     Pn.ite (fun h7 =>
     Pn.ite (fun h8 =>
     Pn.ite (fun h9 =>
     Pn.ite (fun h10 =>
     Pn.ite (fun h11 =>
     LpO.go [.bit true, .bit false, .bit false, .bit false, .bit false, .bit false, .bit false, .bit true, .cp [V.sc (.string (s_.extract v1.toNat v2.toNat))], .nb 2 (.row 9 (List.map E9 (v3 ++ [s_.extract v1.toNat v2.toNat])) []), .wait 8, .mask [0, 1, 5, 6, 7], .ren [2]] (p := [(decide (v2 ≤ (s_.size : Int))) = true,(v2 == (s_.size : Int)) = false,(v2 == (s_.size : Int)) = false,(v2 == (s_.size : Int)) = false,(0 : Int) ≤ v2,(v2 : Int) < s_.size,(v2 == (s_.size : Int)) = false,(v2 == (s_.size : Int)) = false,(v2 == (s_.size : Int)) = false,((sAt s_ v2) == by_) = true,(0 : Int) ≤ v1,(v1 : Int) ≤ v2,(v2 : Int) ≤ (s_.size : Int),[V.sc (.string (s_.extract v1.toNat v2.toNat))] = [V.sc (.string (s_.extract v1.toNat v2.toNat))],[V.sc (.string (s_.extract v1.toNat v2.toNat))].all V.flatE = true,(List.map E9 v3).length + [V.sc (.string (s_.extract v1.toNat v2.toNat))].length ≤ 9223372036854775807,((List.map E9 v3).length + [V.sc (.string (s_.extract v1.toNat v2.toNat))].length) * 16 ≤ 140737488355328,Blk.row 9 ((List.map E9 v3) ++ [V.sc (.string (s_.extract v1.toNat v2.toNat))]) [] = Blk.row 9 (List.map E9 (v3 ++ [s_.extract v1.toNat v2.toNat])) []]) (by kernel_rfl) (cj h1 (cj h2 (cj h2 (cj h2 (cj (od h6) (cj (od h7) (cj h2 (cj h2 (cj h2 (cj h8 (cj (od h9) (cj (od h10) (cj (od h1) (cj rfl (cj rfl (cj (cap1 (capN (by simp) h11)) (cj (cap2 (capN (by simp) h11) (by decide)) (cj1 (nb_app E9 v3 [s_.extract v1.toNat v2.toNat]))))))))))))))))))) (spec_l01Split_l0_ok s_ by_ fuel (i64 (v2 + 1)) (i64 (v2 + 1)) (v3 ++ [s_.extract v1.toNat v2.toNat]))) (fun h11 =>
     Pn.none)) (fun h10 =>
     Pn.none)) (fun h9 =>
     Pn.none)) (fun h8 =>
     LpO.go [.bit true, .bit false, .bit false, .bit false, .bit false, .bit false, .bit false, .bit false, .wait 3, .mask [0, 1, 5, 6, 7], .ren [0]] (p := [(decide (v2 ≤ (s_.size : Int))) = true,(v2 == (s_.size : Int)) = false,(v2 == (s_.size : Int)) = false,(v2 == (s_.size : Int)) = false,(0 : Int) ≤ v2,(v2 : Int) < s_.size,(v2 == (s_.size : Int)) = false,(v2 == (s_.size : Int)) = false,(v2 == (s_.size : Int)) = false,((sAt s_ v2) == by_) = false]) (by kernel_rfl) (cj h1 (cj h2 (cj h2 (cj h2 (cj (od h6) (cj (od h7) (cj h2 (cj h2 (cj h2 (cj1 h8)))))))))) (spec_l01Split_l0_ok s_ by_ fuel v1 (i64 (v2 + 1)) v3))) (fun h7 =>
     Pn.none)) (fun h6 =>
     Pn.none))) (fun h1 =>
     Pn.some (LpO.out [.bit false, .mask [5], .ren [0]] (p := [(decide (v2 ≤ (s_.size : Int))) = false]) (by kernel_rfl) (show X.out 0 ≠ X.go from nofun) (cj1 h1)))
def spec_l01Split (s_ : ByteArray) (by_ : Int) : Option ((List ByteArray)) :=
 (spec_l01Split_l0 s_ by_ FUEL 0 0 []).bind fun r1 =>
 some r1
theorem spec_l01Split_ok (s_ : ByteArray) (by_ : Int) : Pn (fun y => Fn Tryz.prog 23 [(false, E9 s_), (false, E5 by_)] (E28 y) []) (spec_l01Split s_ by_) := by
  unfold spec_l01Split
  exact
   Pn.bind (fun r1 h12 =>
   Pn.some (Fn.of [.wait 6, .mask [0, 1, 5, 6, 7], .ren [0], .loop (X.out 0) (st 36 [(5, V.ow 0)] [Blk.row 9 (List.map E9 r1) []] [])] (p := [Loop Tryz.prog (sub (codeOf Tryz.prog 23) [1, 1, 1, 0, 1, 0, 0]) (st 36 [(0, V.sc (.string s_)), (1, V.sc (.int .u8 by_)), (5, V.ow 0), (6, vI 0), (7, vI 0)] [Blk.row 9 ([] : List V) []] []) (X.out 0) (st 36 [(5, V.ow 0)] [Blk.row 9 (List.map E9 r1) []] [])]) (by kernel_rfl) (cj1 (spec_l01Split_l0_ok s_ by_ FUEL 0 0 [] r1 h12))))
def spec_Cut (s_ : ByteArray) : Option ((List ByteArray)) :=
 (spec_l01Split s_ 32).bind fun r1 =>
 some r1
theorem spec_Cut_ok (s_ : ByteArray) : Pn (fun y => Fn Tryz.prog 7 [(false, E9 s_)] (E28 y) []) (spec_Cut s_) := by
  unfold spec_Cut
  exact
   Pn.bind (fun r1 h1 =>
   Pn.some (Fn.of [.call [] (E28 r1) []] (p := [Fn Tryz.prog 23 [(false, E9 s_), (false, E5 32)] (E28 r1) [],(true || ((E28 r1).nv && nvL [])) = true]) (by kernel_rfl) (cj (spec_l01Split_ok s_ 32 r1 h1) (cj1 rfl))))
def spec_l01In (n : Int) (lo : Int) (hi : Int) : Option (Bool) :=
 if (decide (lo ≤ n)) = true then
 some (decide (n ≤ hi))
 else
 some false
theorem spec_l01In_ok (n : Int) (lo : Int) (hi : Int) : Pn (fun y => Fn Tryz.prog 27 [(false, E3 n), (false, E3 lo), (false, E3 hi)] (E4 y) []) (spec_l01In n lo hi) := by
  unfold spec_l01In
  exact
   Pn.ite (fun h1 =>
   Pn.some (Fn.of [.bit true, .bit true, .bit true, .bit true] (p := [(decide (lo ≤ n)) = true,(decide (lo ≤ n)) = true,(decide (lo ≤ n)) = true,(decide (lo ≤ n)) = true]) (by kernel_rfl) (cj h1 (cj h1 (cj h1 (cj1 h1)))))) (fun h1 =>
   Pn.some (Fn.of [.bit false, .bit false, .bit false, .bit false] (p := [(decide (lo ≤ n)) = false,(decide (lo ≤ n)) = false,(decide (lo ≤ n)) = false,(decide (lo ≤ n)) = false]) (by kernel_rfl) (cj h1 (cj h1 (cj h1 (cj1 h1))))))
def spec_l11Op (op : Int) : Option (Bool) :=
 (spec_l01In op 1 8).bind fun r1 =>
 some r1
theorem spec_l11Op_ok (op : Int) : Pn (fun y => Fn Tryz.prog 25 [(false, E3 op)] (E4 y) []) (spec_l11Op op) := by
  unfold spec_l11Op
  exact
   Pn.bind (fun r1 h1 =>
   Pn.some (Fn.of [.call [] (E4 r1) []] (p := [Fn Tryz.prog 27 [(false, E3 op), (false, E3 1), (false, E3 8)] (E4 r1) [],(true || ((E4 r1).nv && nvL [])) = true]) (by kernel_rfl) (cj (spec_l01In_ok op 1 8 r1 h1) (cj1 rfl))))
def spec_OpName (op : Int) : Option (ByteArray) :=
 (spec_l11Op op).bind fun r1 =>
 if r1 = true then
 if (decide (0 ≤ op)) = true then
 ([bs [], bs [97, 117, 116, 104], bs [109, 111, 114, 101], bs [112, 97, 114, 116], bs [102, 105, 110, 97, 108], bs [102, 114, 101, 101], bs [109, 111, 118, 101], bs [97, 115, 107], bs [115, 119, 101, 101, 112]][op.toNat]?).bind fun x1 =>
 some x1
 else none
 else
 some (bs [])
theorem spec_OpName_ok (op : Int) : Pn (fun y => Fn Tryz.prog 24 [(false, E3 op)] (E9 y) []) (spec_OpName op) := by
  unfold spec_OpName
  exact
   Pn.bind (fun r1 h1 =>
   Pn.ite (fun h2 =>
   Pn.ite (fun h3 =>
   Pn.bind (fun x1 h4 =>
   Pn.some (Fn.of [.call [] (E4 r1) [], .bit false, .wait 1, .nb 0 (.row 9 (List.map E9 [bs [], bs [97, 117, 116, 104], bs [109, 111, 114, 101], bs [112, 97, 114, 116], bs [102, 105, 110, 97, 108], bs [102, 114, 101, 101], bs [109, 111, 118, 101], bs [97, 115, 107], bs [115, 119, 101, 101, 112]]) []), .el (E9 x1)] (p := [Fn Tryz.prog 25 [(false, E3 op)] (E4 r1) [],(true || ((E4 r1).nv && nvL [])) = true,(!r1) = false,Blk.row 9 [V.sc (.string (bs [])), V.sc (.string (bs [97, 117, 116, 104])), V.sc (.string (bs [109, 111, 114, 101])), V.sc (.string (bs [112, 97, 114, 116])), V.sc (.string (bs [102, 105, 110, 97, 108])), V.sc (.string (bs [102, 114, 101, 101])), V.sc (.string (bs [109, 111, 118, 101])), V.sc (.string (bs [97, 115, 107])), V.sc (.string (bs [115, 119, 101, 101, 112]))] [] = Blk.row 9 (List.map E9 [bs [], bs [97, 117, 116, 104], bs [109, 111, 114, 101], bs [112, 97, 114, 116], bs [102, 105, 110, 97, 108], bs [102, 114, 101, 101], bs [109, 111, 118, 101], bs [97, 115, 107], bs [115, 119, 101, 101, 112]]) [],(0 : Int) ≤ op,(op : Int) < ((List.map E9 [bs [], bs [97, 117, 116, 104], bs [109, 111, 114, 101], bs [112, 97, 114, 116], bs [102, 105, 110, 97, 108], bs [102, 114, 101, 101], bs [109, 111, 118, 101], bs [97, 115, 107], bs [115, 119, 101, 101, 112]]).length : Int),look [] op.toNat = none,(List.map E9 [bs [], bs [97, 117, 116, 104], bs [109, 111, 114, 101], bs [112, 97, 114, 116], bs [102, 105, 110, 97, 108], bs [102, 114, 101, 101], bs [109, 111, 118, 101], bs [97, 115, 107], bs [115, 119, 101, 101, 112]])[op.toNat]? = some (E9 x1)]) (by kernel_rfl) (cj (spec_l11Op_ok op r1 h1) (cj rfl (cj (nf h2) (cj rfl (cj (od h3) (cj (map_ltN (od h3) h4) (cj rfl (cj1 (map_get h4)))))))))))) (fun h3 =>
   Pn.none)) (fun h2 =>
   Pn.some (Fn.of [.call [] (E4 r1) [], .bit true] (p := [Fn Tryz.prog 25 [(false, E3 op)] (E4 r1) [],(true || ((E4 r1).nv && nvL [])) = true,(!r1) = true]) (by kernel_rfl) (cj (spec_l11Op_ok op r1 h1) (cj rfl (cj1 (nt h2)))))))
def spec_NameOp_l0 (s_ : ByteArray) : Nat → Int → Option (Lo Unit Int)
  | 0, _ => none
  | fuel + 1, v1 =>
   if (decide (v1 ≤ 8)) = true then
   (spec_OpName v1).bind fun r1 =>
   if (r1 == s_) = true then
   some (.ret v1)
   else
   spec_NameOp_l0 s_ fuel (i64 (v1 + 1))
   else
   some (.out ())
theorem spec_NameOp_l0_ok (s_ : ByteArray) : ∀ (fuel : Nat) (v1 : Int), Pn (LpO Tryz.prog (sub (codeOf Tryz.prog 8) [1, 0, 1, 0, 0]) (st 13 [(0, V.sc (.string s_)), (3, vI v1)] [] []) (fun (y : Lo Unit Int) => Lo.elim y (fun s => (X.out 0, st 13 [] [] [])) (fun s => (X.ret, st 13 [(2, vI s)] [] [])))) (spec_NameOp_l0 s_ fuel v1)
  | 0, _ => Pn.none
  | fuel + 1, v1 => by
    unfold spec_NameOp_l0
    exact
     Pn.ite (fun h1 =>
     Pn.bind (fun r1 h2 =>
     Pn.ite (fun h3 =>
     Pn.some (LpO.out [.bit true, .call [] (E9 r1) [], .bit true, .wait 2, .mask [2], .ren []] (p := [(decide (v1 ≤ 8)) = true,Fn Tryz.prog 24 [(false, E3 v1)] (E9 r1) [],(true || ((E9 r1).nv && nvL [])) = true,(r1 == s_) = true]) (by kernel_rfl) (show X.ret ≠ X.go from nofun) (cj h1 (cj (spec_OpName_ok v1 r1 h2) (cj rfl (cj1 h3)))))) (fun h3 =>
     LpO.go [.bit true, .call [] (E9 r1) [], .bit false, .wait 3, .mask [0, 3], .ren []] (p := [(decide (v1 ≤ 8)) = true,Fn Tryz.prog 24 [(false, E3 v1)] (E9 r1) [],(true || ((E9 r1).nv && nvL [])) = true,(r1 == s_) = false]) (by kernel_rfl) (cj h1 (cj (spec_OpName_ok v1 r1 h2) (cj rfl (cj1 h3)))) (spec_NameOp_l0_ok s_ fuel (i64 (v1 + 1)))))) (fun h1 =>
     Pn.some (LpO.out [.bit false, .mask [], .ren []] (p := [(decide (v1 ≤ 8)) = false]) (by kernel_rfl) (show X.out 0 ≠ X.go from nofun) (cj1 h1)))
def spec_NameOp (s_ : ByteArray) : Option (Int) :=
 (spec_NameOp_l0 s_ FUEL 1).bind fun r2 =>
 Lo.elim r2 (fun s1 =>
 some 0) (fun s2 =>
 some s2)
theorem spec_NameOp_ok (s_ : ByteArray) : Pn (fun y => Fn Tryz.prog 8 [(false, E9 s_)] (E3 y) []) (spec_NameOp s_) := by
  unfold spec_NameOp
  exact
   Pn.bind (fun r2 h4 =>
   Pn.lo (fun s1 h5 =>
   Pn.some (Fn.of [.wait 3, .mask [0, 3], .ren [], .loop (X.out 0) (st 13 [] [] [])] (p := [Loop Tryz.prog (sub (codeOf Tryz.prog 8) [1, 0, 1, 0, 0]) (st 13 [(0, V.sc (.string s_)), (3, vI 1)] [] []) (X.out 0) (st 13 [] [] [])]) (by kernel_rfl) (cj1 ((spec_NameOp_l0_ok s_ FUEL 1 r2 h4).at h5 :)))) (fun s2 h6 =>
   Pn.some (Fn.of [.wait 3, .mask [0, 3], .ren [], .loop (X.ret) (st 13 [(2, vI s2)] [] [])] (p := [Loop Tryz.prog (sub (codeOf Tryz.prog 8) [1, 0, 1, 0, 0]) (st 13 [(0, V.sc (.string s_)), (3, vI 1)] [] []) (X.ret) (st 13 [(2, vI s2)] [] [])]) (by kernel_rfl) (cj1 ((spec_NameOp_l0_ok s_ FUEL 1 r2 h4).at h6 :)))))
def spec_l11Mtis  : Option ((List ByteArray)) :=
 some [bs [], bs [48, 49, 48, 48], bs [48, 49, 48, 48], bs [48, 50, 50, 48], bs [48, 50, 50, 48], bs [48, 50, 50, 48], bs [48, 50, 48, 48], bs [48, 49, 48, 48], bs [48, 50, 48, 48]]
theorem spec_l11Mtis_ok  : Pn (fun y => Fn Tryz.prog 26 [] (E28 y) []) (spec_l11Mtis) := by
  unfold spec_l11Mtis
  exact
   Pn.some (Fn.of [] (p := []) (by kernel_rfl) trivial)
def spec_OpMti (op : Int) : Option (ByteArray) :=
 (spec_l11Op op).bind fun r1 =>
 if r1 = true then
 (spec_l11Mtis).bind fun r2 =>
 if (decide (0 ≤ op)) = true then
 (r2[op.toNat]?).bind fun x1 =>
 some x1
 else none
 else
 some (bs [])
theorem spec_OpMti_ok (op : Int) : Pn (fun y => Fn Tryz.prog 9 [(false, E3 op)] (E9 y) []) (spec_OpMti op) := by
  unfold spec_OpMti
  exact
   Pn.bind (fun r1 h1 =>
   Pn.ite (fun h2 =>
   Pn.bind (fun r2 h3 =>
   Pn.ite (fun h4 =>
   Pn.bind (fun x1 h5 =>
   Pn.some (Fn.of [.call [] (E4 r1) [], .bit false, .call [] (E28 r2) [], .el (E9 x1)] (p := [Fn Tryz.prog 25 [(false, E3 op)] (E4 r1) [],(true || ((E4 r1).nv && nvL [])) = true,(!r1) = false,Fn Tryz.prog 26 [] (E28 r2) [],(true || ((E28 r2).nv && nvL [])) = true,(0 : Int) ≤ op,(op : Int) < ((List.map E9 r2).length : Int),look [] op.toNat = none,(List.map E9 r2)[op.toNat]? = some (E9 x1)]) (by kernel_rfl) (cj (spec_l11Op_ok op r1 h1) (cj rfl (cj (nf h2) (cj (spec_l11Mtis_ok  r2 h3) (cj rfl (cj (od h4) (cj (map_ltN (od h4) h5) (cj rfl (cj1 (map_get h5))))))))))))) (fun h4 =>
   Pn.none))) (fun h2 =>
   Pn.some (Fn.of [.call [] (E4 r1) [], .bit true] (p := [Fn Tryz.prog 25 [(false, E3 op)] (E4 r1) [],(true || ((E4 r1).nv && nvL [])) = true,(!r1) = true]) (by kernel_rfl) (cj (spec_l11Op_ok op r1 h1) (cj rfl (cj1 (nt h2)))))))
def spec_l11Hold (op : Int) : Option (Bool) :=
 (spec_l11Op op).bind fun r1 =>
 if r1 = true then
 some (decide (op < 7))
 else
 some false
theorem spec_l11Hold_ok (op : Int) : Pn (fun y => Fn Tryz.prog 10 [(false, E3 op)] (E4 y) []) (spec_l11Hold op) := by
  unfold spec_l11Hold
  exact
   Pn.bind (fun r1 h1 =>
   Pn.ite (fun h2 =>
   Pn.some (Fn.of [.call [] (E4 r1) [], .bit true, .bit true, .bit true] (p := [Fn Tryz.prog 25 [(false, E3 op)] (E4 r1) [],(true || ((E4 r1).nv && nvL [])) = true,r1 = true,r1 = true,r1 = true]) (by kernel_rfl) (cj (spec_l11Op_ok op r1 h1) (cj rfl (cj h2 (cj h2 (cj1 h2))))))) (fun h2 =>
   Pn.some (Fn.of [.call [] (E4 r1) [], .bit false, .bit false, .bit false] (p := [Fn Tryz.prog 25 [(false, E3 op)] (E4 r1) [],(true || ((E4 r1).nv && nvL [])) = true,r1 = false,r1 = false,r1 = false]) (by kernel_rfl) (cj (spec_l11Op_ok op r1 h1) (cj rfl (cj h2 (cj h2 (cj1 h2))))))))
def spec_l11Amount (op : Int) : Option (Bool) :=
 (spec_l01In op 1 4).bind fun r1 =>
 some r1
theorem spec_l11Amount_ok (op : Int) : Pn (fun y => Fn Tryz.prog 11 [(false, E3 op)] (E4 y) []) (spec_l11Amount op) := by
  unfold spec_l11Amount
  exact
   Pn.bind (fun r1 h1 =>
   Pn.some (Fn.of [.call [] (E4 r1) []] (p := [Fn Tryz.prog 27 [(false, E3 op), (false, E3 1), (false, E3 4)] (E4 r1) [],(true || ((E4 r1).nv && nvL [])) = true]) (by kernel_rfl) (cj (spec_l01In_ok op 1 4 r1 h1) (cj1 rfl))))
def spec_Digits_l0 (s_ : ByteArray) : Nat → Int → Option (Lo Unit Unit)
  | 0, _ => none
  | fuel + 1, v1 =>
   if (decide (v1 < (s_.size : Int))) = true then
   if (decide (0 ≤ v1)) = true then
   if (decide ((v1 : Int) < (s_.size : Int))) = true then
   if (decide ((sAt s_ v1) < 48)) = true then
   some (.ret ())
   else
   if (decide (57 < (sAt s_ v1))) = true then
   some (.ret ())
   else
   spec_Digits_l0 s_ fuel (i64 (v1 + 1))
   else none
   else none
   else
   some (.out ())
theorem spec_Digits_l0_ok (s_ : ByteArray) : ∀ (fuel : Nat) (v1 : Int), Pn (LpO Tryz.prog (sub (codeOf Tryz.prog 28) [1, 0, 1, 0, 0]) (st 23 [(0, V.sc (.string s_)), (3, vI v1)] [] []) (fun (y : Lo Unit Unit) => Lo.elim y (fun s => (X.out 0, st 23 [(0, V.sc (.string s_))] [] [])) (fun s => (X.ret, st 23 [(2, V.sc (.bool false))] [] [])))) (spec_Digits_l0 s_ fuel v1)
  | 0, _ => Pn.none
  | fuel + 1, v1 => by
    unfold spec_Digits_l0
    exact
     Pn.ite (fun h1 =>
     Pn.ite (fun h2 =>
     Pn.ite (fun h3 =>
     Pn.ite (fun h4 =>
     Pn.some (LpO.out [.bit true, .bit true, .bit true, .bit true, .bit true, .bit true, .bit true, .wait 1, .mask [2], .ren []] (p := [(decide (v1 < (s_.size : Int))) = true,(0 : Int) ≤ v1,(v1 : Int) < s_.size,(decide ((sAt s_ v1) < 48)) = true,(decide ((sAt s_ v1) < 48)) = true,(decide ((sAt s_ v1) < 48)) = true,(decide ((sAt s_ v1) < 48)) = true,(decide ((sAt s_ v1) < 48)) = true,true = true]) (by kernel_rfl) (show X.ret ≠ X.go from nofun) (cj h1 (cj (od h2) (cj (od h3) (cj h4 (cj h4 (cj h4 (cj h4 (cj h4 (cj1 rfl))))))))))) (fun h4 =>
     Pn.ite (fun h5 =>
     Pn.some (LpO.out [.bit true, .bit false, .bit false, .bit false, .bit false, .bit false, .bit true, .wait 1, .mask [2], .ren []] (p := [(decide (v1 < (s_.size : Int))) = true,(0 : Int) ≤ v1,(v1 : Int) < s_.size,(decide ((sAt s_ v1) < 48)) = false,(decide ((sAt s_ v1) < 48)) = false,(decide ((sAt s_ v1) < 48)) = false,(0 : Int) ≤ v1,(v1 : Int) < s_.size,(decide ((sAt s_ v1) < 48)) = false,(decide ((sAt s_ v1) < 48)) = false,(decide (57 < (sAt s_ v1))) = true]) (by kernel_rfl) (show X.ret ≠ X.go from nofun) (cj h1 (cj (od h2) (cj (od h3) (cj h4 (cj h4 (cj h4 (cj (od h2) (cj (od h3) (cj h4 (cj h4 (cj1 h5))))))))))))) (fun h5 =>
     LpO.go [.bit true, .bit false, .bit false, .bit false, .bit false, .bit false, .bit false, .wait 3, .mask [0, 3], .ren []] (p := [(decide (v1 < (s_.size : Int))) = true,(0 : Int) ≤ v1,(v1 : Int) < s_.size,(decide ((sAt s_ v1) < 48)) = false,(decide ((sAt s_ v1) < 48)) = false,(decide ((sAt s_ v1) < 48)) = false,(0 : Int) ≤ v1,(v1 : Int) < s_.size,(decide ((sAt s_ v1) < 48)) = false,(decide ((sAt s_ v1) < 48)) = false,(decide (57 < (sAt s_ v1))) = false]) (by kernel_rfl) (cj h1 (cj (od h2) (cj (od h3) (cj h4 (cj h4 (cj h4 (cj (od h2) (cj (od h3) (cj h4 (cj h4 (cj1 h5))))))))))) (spec_Digits_l0_ok s_ fuel (i64 (v1 + 1)))))) (fun h3 =>
     Pn.none)) (fun h2 =>
     Pn.none)) (fun h1 =>
     Pn.some (LpO.out [.bit false, .mask [0], .ren []] (p := [(decide (v1 < (s_.size : Int))) = false]) (by kernel_rfl) (show X.out 0 ≠ X.go from nofun) (cj1 h1)))
def spec_Digits (s_ : ByteArray) : Option (Bool) :=
 (spec_Digits_l0 s_ FUEL 0).bind fun r1 =>
 Lo.elim r1 (fun s1 =>
 some (decide (0 < (s_.size : Int)))) (fun s2 =>
 some false)
theorem spec_Digits_ok (s_ : ByteArray) : Pn (fun y => Fn Tryz.prog 28 [(false, E9 s_)] (E4 y) []) (spec_Digits s_) := by
  unfold spec_Digits
  exact
   Pn.bind (fun r1 h6 =>
   Pn.lo (fun s1 h7 =>
   Pn.some (Fn.of [.wait 3, .mask [0, 3], .ren [], .loop (X.out 0) (st 23 [(0, V.sc (.string s_))] [] [])] (p := [Loop Tryz.prog (sub (codeOf Tryz.prog 28) [1, 0, 1, 0, 0]) (st 23 [(0, V.sc (.string s_)), (3, vI 0)] [] []) (X.out 0) (st 23 [(0, V.sc (.string s_))] [] [])]) (by kernel_rfl) (cj1 ((spec_Digits_l0_ok s_ FUEL 0 r1 h6).at h7 :)))) (fun s2 h8 =>
   Pn.some (Fn.of [.wait 3, .mask [0, 3], .ren [], .loop (X.ret) (st 23 [(2, V.sc (.bool false))] [] [])] (p := [Loop Tryz.prog (sub (codeOf Tryz.prog 28) [1, 0, 1, 0, 0]) (st 23 [(0, V.sc (.string s_)), (3, vI 0)] [] []) (X.ret) (st 23 [(2, V.sc (.bool false))] [] [])]) (by kernel_rfl) (cj1 ((spec_Digits_l0_ok s_ FUEL 0 r1 h6).at h8 :)))))
def spec_l01Money (n : Int) : Option (Bool) :=
 if (decide (0 ≤ n)) = true then
 some (decide (n ≤ 4611686018427387904))
 else
 some false
theorem spec_l01Money_ok (n : Int) : Pn (fun y => Fn Tryz.prog 44 [(false, E3 n)] (E4 y) []) (spec_l01Money n) := by
  unfold spec_l01Money
  exact
   Pn.ite (fun h1 =>
   Pn.some (Fn.of [.bit true, .bit true, .bit true] (p := [(decide (0 ≤ n)) = true,(decide (0 ≤ n)) = true,(decide (0 ≤ n)) = true]) (by kernel_rfl) (cj h1 (cj h1 (cj1 h1))))) (fun h1 =>
   Pn.some (Fn.of [.bit false, .bit false, .bit false] (p := [(decide (0 ≤ n)) = false,(decide (0 ≤ n)) = false,(decide (0 ≤ n)) = false]) (by kernel_rfl) (cj h1 (cj h1 (cj1 h1)))))
def spec_NumText_l0 (n : Int) : Nat → Int → ByteArray → Option (Int × ByteArray)
  | 0, _, _ => none
  | fuel + 1, v1, v2 =>
   if (decide (9 < v1)) = true then
   if (decide ((bstr [u8 (i64 (48 + (Int.tmod v1 10)))]).size + v2.size ≤ 9223372036854775807)) = true then
   spec_NumText_l0 n fuel (i64 (Int.tdiv v1 10)) ((bstr [u8 (i64 (48 + (Int.tmod v1 10)))]) ++ v2)
   else none
   else
   some (v1, v2)
theorem spec_NumText_l0_ok (n : Int) : ∀ (fuel : Nat) (v1 : Int) (v2 : ByteArray), Pn (LpO Tryz.prog (sub (codeOf Tryz.prog 29) [1, 1, 1, 0, 0, 0]) (st 26 [(0, vI v1), (3, V.sc (.string v2))] [] []) (fun (y : Int × ByteArray) => (X.out 0, st 26 [(0, vI y.1), (3, V.sc (.string y.2))] [] []))) (spec_NumText_l0 n fuel v1 v2)
  | 0, _, _ => Pn.none
  | fuel + 1, v1, v2 => by
    unfold spec_NumText_l0
    exact
     Pn.ite (fun h3 =>
     Pn.ite (fun h4 =>
     LpO.go [.bit true, .ints [u8 (i64 (48 + (Int.tmod v1 10)))], .wait 7, .mask [0, 3], .ren []] (p := [(decide (9 < v1)) = true,(10 : Int) ≠ 0,[V.sc (.int .u8 (u8 (i64 (48 + (Int.tmod v1 10)))))] = [u8 (i64 (48 + (Int.tmod v1 10)))].map fun n => V.sc (.int .u8 n),(bstr [u8 (i64 (48 + (Int.tmod v1 10)))]).size + v2.size ≤ 9223372036854775807,(10 : Int) ≠ 0]) (by kernel_rfl) (cj h3 (cj (by decide) (cj rfl (cj (od h4) (cj1 (by decide)))))) (spec_NumText_l0_ok n fuel (i64 (Int.tdiv v1 10)) ((bstr [u8 (i64 (48 + (Int.tmod v1 10)))]) ++ v2))) (fun h4 =>
     Pn.none)) (fun h3 =>
     Pn.some (LpO.out [.bit false, .mask [0, 3], .ren []] (p := [(decide (9 < v1)) = false]) (by kernel_rfl) (show X.out 0 ≠ X.go from nofun) (cj1 h3)))
def spec_NumText (n : Int) : Option (ByteArray) :=
 (spec_l01Money n).bind fun r1 =>
 if r1 = true then
 (spec_NumText_l0 n FUEL n (bs [])).bind fun r2 =>
 if (decide ((bstr [u8 (i64 (48 + r2.1))]).size + r2.2.size ≤ 9223372036854775807)) = true then
 some ((bstr [u8 (i64 (48 + r2.1))]) ++ r2.2)
 else none
 else
 some (bs [])
theorem spec_NumText_ok (n : Int) : Pn (fun y => Fn Tryz.prog 29 [(false, E3 n)] (E9 y) []) (spec_NumText n) := by
  unfold spec_NumText
  exact
   Pn.bind (fun r1 h1 =>
   Pn.ite (fun h2 =>
   Pn.bind (fun r2 h5 =>
   Pn.ite (fun h6 =>
   Pn.some (Fn.of [.call [] (E4 r1) [], .bit false, .wait 1, .mask [0, 3], .ren [], .loop (X.out 0) (st 26 [(0, vI r2.1), (3, V.sc (.string r2.2))] [] []), .ints [u8 (i64 (48 + r2.1))]] (p := [Fn Tryz.prog 44 [(false, E3 n)] (E4 r1) [],(true || ((E4 r1).nv && nvL [])) = true,(!r1) = false,Loop Tryz.prog (sub (codeOf Tryz.prog 29) [1, 1, 1, 0, 0, 0]) (st 26 [(0, vI n), (3, V.sc (.string (bs [])))] [] []) (X.out 0) (st 26 [(0, vI r2.1), (3, V.sc (.string r2.2))] [] []),[V.sc (.int .u8 (u8 (i64 (48 + r2.1))))] = [u8 (i64 (48 + r2.1))].map fun n => V.sc (.int .u8 n),(bstr [u8 (i64 (48 + r2.1))]).size + r2.2.size ≤ 9223372036854775807]) (by kernel_rfl) (cj (spec_l01Money_ok n r1 h1) (cj rfl (cj (nf h2) (cj (spec_NumText_l0_ok n FUEL n (bs []) r2 h5) (cj rfl (cj1 (od h6))))))))) (fun h6 =>
   Pn.none))) (fun h2 =>
   Pn.some (Fn.of [.call [] (E4 r1) [], .bit true] (p := [Fn Tryz.prog 44 [(false, E3 n)] (E4 r1) [],(true || ((E4 r1).nv && nvL [])) = true,(!r1) = true]) (by kernel_rfl) (cj (spec_l01Money_ok n r1 h1) (cj rfl (cj1 (nt h2)))))))
def spec_TextNum_l0 (s_ : ByteArray) : Nat → Int → Int → Option (Lo Int Unit)
  | 0, _, _ => none
  | fuel + 1, v1, v2 =>
   if (decide (v2 < (s_.size : Int))) = true then
   if (decide (0 ≤ v2)) = true then
   if (decide ((v2 : Int) < (s_.size : Int))) = true then
   if (decide ((i64 (Int.tdiv (i64 (4611686018427387904 - (i64 ((i64 (sAt s_ v2)) - 48)))) 10)) < v1)) = true then
   some (.ret ())
   else
   spec_TextNum_l0 s_ fuel (i64 ((i64 (v1 * 10)) + (i64 ((i64 (sAt s_ v2)) - 48)))) (i64 (v2 + 1))
   else none
   else none
   else
   some (.out v1)
theorem spec_TextNum_l0_ok (s_ : ByteArray) : ∀ (fuel : Nat) (v1 : Int) (v2 : Int), Pn (LpO Tryz.prog (sub (codeOf Tryz.prog 12) [1, 1, 1, 0, 1, 0, 0]) (st 40 [(0, V.sc (.string s_)), (4, vI v1), (5, vI v2)] [] []) (fun (y : Lo Int Unit) => Lo.elim y (fun s => (X.out 0, st 40 [(0, V.sc (.string s_)), (4, vI s)] [] [])) (fun s => (X.ret, st 40 [(2, vI 0), (3, V.sc (.bool false))] [] [])))) (spec_TextNum_l0 s_ fuel v1 v2)
  | 0, _, _ => Pn.none
  | fuel + 1, v1, v2 => by
    unfold spec_TextNum_l0
    exact
     Pn.ite (fun h4 =>
     Pn.ite (fun h5 =>
     Pn.ite (fun h6 =>
     Pn.ite (fun h7 =>
     Pn.some (LpO.out [.bit true, .bit true, .wait 2, .mask [2, 3], .ren []] (p := [(decide (v2 < (s_.size : Int))) = true,(0 : Int) ≤ v2,(v2 : Int) < s_.size,(10 : Int) ≠ 0,(decide ((i64 (Int.tdiv (i64 (4611686018427387904 - (i64 ((i64 (sAt s_ v2)) - 48)))) 10)) < v1)) = true]) (by kernel_rfl) (show X.ret ≠ X.go from nofun) (cj h4 (cj (od h5) (cj (od h6) (cj (by decide) (cj1 h7))))))) (fun h7 =>
     LpO.go [.bit true, .bit false, .wait 8, .mask [0, 4, 5], .ren []] (p := [(decide (v2 < (s_.size : Int))) = true,(0 : Int) ≤ v2,(v2 : Int) < s_.size,(10 : Int) ≠ 0,(decide ((i64 (Int.tdiv (i64 (4611686018427387904 - (i64 ((i64 (sAt s_ v2)) - 48)))) 10)) < v1)) = false]) (by kernel_rfl) (cj h4 (cj (od h5) (cj (od h6) (cj (by decide) (cj1 h7))))) (spec_TextNum_l0_ok s_ fuel (i64 ((i64 (v1 * 10)) + (i64 ((i64 (sAt s_ v2)) - 48)))) (i64 (v2 + 1))))) (fun h6 =>
     Pn.none)) (fun h5 =>
     Pn.none)) (fun h4 =>
     Pn.some (LpO.out [.bit false, .mask [0, 4], .ren []] (p := [(decide (v2 < (s_.size : Int))) = false]) (by kernel_rfl) (show X.out 0 ≠ X.go from nofun) (cj1 h4)))
def spec_TextNum (s_ : ByteArray) : Option (Int × Bool) :=
 (spec_Digits s_).bind fun r1 =>
 if r1 = true then
 if (decide (19 < (s_.size : Int))) = true then
 some (0, false)
 else
 (spec_TextNum_l0 s_ FUEL 0 0).bind fun r2 =>
 Lo.elim r2 (fun s1 =>
 (spec_NumText s1).bind fun r3 =>
 if (r3 == s_) = true then
 some (s1, true)
 else
 some (0, false)) (fun s2 =>
 some (0, false))
 else
 some (0, false)
theorem spec_TextNum_ok (s_ : ByteArray) : Pn (fun y => Fn Tryz.prog 12 [(false, E9 s_)] (V.tup [E3 y.1, E4 y.2]) []) (spec_TextNum s_) := by
  unfold spec_TextNum
  exact
   Pn.bind (fun r1 h1 =>
   Pn.ite (fun h2 =>
   Pn.ite (fun h3 =>
   Pn.some (Fn.of [.call [] (E4 r1) [], .bit false, .bit false, .bit false, .bit false, .bit true] (p := [Fn Tryz.prog 28 [(false, E9 s_)] (E4 r1) [],(true || ((E4 r1).nv && nvL [])) = true,(!r1) = false,(!r1) = false,(!r1) = false,(!r1) = false,(decide (19 < (s_.size : Int))) = true]) (by kernel_rfl) (cj (spec_Digits_ok s_ r1 h1) (cj rfl (cj (nf h2) (cj (nf h2) (cj (nf h2) (cj (nf h2) (cj1 h3))))))))) (fun h3 =>
   Pn.bind (fun r2 h8 =>
   Pn.lo (fun s1 h9 =>
   Pn.bind (fun r3 h11 =>
   Pn.ite (fun h12 =>
   Pn.some (Fn.of [.call [] (E4 r1) [], .bit false, .bit false, .bit false, .bit false, .bit false, .wait 2, .mask [0, 4, 5], .ren [], .loop (X.out 0) (st 40 [(0, V.sc (.string s_)), (4, vI s1)] [] []), .call [] (E9 r3) [], .bit false] (p := [Fn Tryz.prog 28 [(false, E9 s_)] (E4 r1) [],(true || ((E4 r1).nv && nvL [])) = true,(!r1) = false,(!r1) = false,(!r1) = false,(!r1) = false,(decide (19 < (s_.size : Int))) = false,Loop Tryz.prog (sub (codeOf Tryz.prog 12) [1, 1, 1, 0, 1, 0, 0]) (st 40 [(0, V.sc (.string s_)), (4, vI 0), (5, vI 0)] [] []) (X.out 0) (st 40 [(0, V.sc (.string s_)), (4, vI s1)] [] []),Fn Tryz.prog 29 [(false, E3 s1)] (E9 r3) [],(true || ((E9 r3).nv && nvL [])) = true,(!(r3 == s_)) = false]) (by kernel_rfl) (cj (spec_Digits_ok s_ r1 h1) (cj rfl (cj (nf h2) (cj (nf h2) (cj (nf h2) (cj (nf h2) (cj h3 (cj ((spec_TextNum_l0_ok s_ FUEL 0 0 r2 h8).at h9 :) (cj (spec_NumText_ok s1 r3 h11) (cj rfl (cj1 (nf h12)))))))))))))) (fun h12 =>
   Pn.some (Fn.of [.call [] (E4 r1) [], .bit false, .bit false, .bit false, .bit false, .bit false, .wait 2, .mask [0, 4, 5], .ren [], .loop (X.out 0) (st 40 [(0, V.sc (.string s_)), (4, vI s1)] [] []), .call [] (E9 r3) [], .bit true] (p := [Fn Tryz.prog 28 [(false, E9 s_)] (E4 r1) [],(true || ((E4 r1).nv && nvL [])) = true,(!r1) = false,(!r1) = false,(!r1) = false,(!r1) = false,(decide (19 < (s_.size : Int))) = false,Loop Tryz.prog (sub (codeOf Tryz.prog 12) [1, 1, 1, 0, 1, 0, 0]) (st 40 [(0, V.sc (.string s_)), (4, vI 0), (5, vI 0)] [] []) (X.out 0) (st 40 [(0, V.sc (.string s_)), (4, vI s1)] [] []),Fn Tryz.prog 29 [(false, E3 s1)] (E9 r3) [],(true || ((E9 r3).nv && nvL [])) = true,(!(r3 == s_)) = true]) (by kernel_rfl) (cj (spec_Digits_ok s_ r1 h1) (cj rfl (cj (nf h2) (cj (nf h2) (cj (nf h2) (cj (nf h2) (cj h3 (cj ((spec_TextNum_l0_ok s_ FUEL 0 0 r2 h8).at h9 :) (cj (spec_NumText_ok s1 r3 h11) (cj rfl (cj1 (nt h12)))))))))))))))) (fun s2 h10 =>
   Pn.some (Fn.of [.call [] (E4 r1) [], .bit false, .bit false, .bit false, .bit false, .bit false, .wait 2, .mask [0, 4, 5], .ren [], .loop (X.ret) (st 40 [(2, vI 0), (3, V.sc (.bool false))] [] [])] (p := [Fn Tryz.prog 28 [(false, E9 s_)] (E4 r1) [],(true || ((E4 r1).nv && nvL [])) = true,(!r1) = false,(!r1) = false,(!r1) = false,(!r1) = false,(decide (19 < (s_.size : Int))) = false,Loop Tryz.prog (sub (codeOf Tryz.prog 12) [1, 1, 1, 0, 1, 0, 0]) (st 40 [(0, V.sc (.string s_)), (4, vI 0), (5, vI 0)] [] []) (X.ret) (st 40 [(2, vI 0), (3, V.sc (.bool false))] [] [])]) (by kernel_rfl) (cj (spec_Digits_ok s_ r1 h1) (cj rfl (cj (nf h2) (cj (nf h2) (cj (nf h2) (cj (nf h2) (cj h3 (cj1 ((spec_TextNum_l0_ok s_ FUEL 0 0 r2 h8).at h10 :)))))))))))))) (fun h2 =>
   Pn.some (Fn.of [.call [] (E4 r1) [], .bit true, .bit true, .bit true, .bit true, .bit true] (p := [Fn Tryz.prog 28 [(false, E9 s_)] (E4 r1) [],(true || ((E4 r1).nv && nvL [])) = true,(!r1) = true,(!r1) = true,(!r1) = true,(!r1) = true,true = true]) (by kernel_rfl) (cj (spec_Digits_ok s_ r1 h1) (cj rfl (cj (nt h2) (cj (nt h2) (cj (nt h2) (cj (nt h2) (cj1 rfl))))))))))
def spec_Luhn_l0 (s_ : ByteArray) : Nat → Int → Bool → Int → Option (Int)
  | 0, _, _, _ => none
  | fuel + 1, v1, v2, v3 =>
   if (decide (0 ≤ v3)) = true then
   if (decide ((v3 : Int) < (s_.size : Int))) = true then
   if v2 = true then
   if (decide (9 < (i64 (2 * (i64 ((i64 (sAt s_ v3)) - 48)))))) = true then
   spec_Luhn_l0 s_ fuel (Int.tmod (i64 (v1 + (i64 ((i64 (2 * (i64 ((i64 (sAt s_ v3)) - 48)))) - 9)))) 10) (!v2) (i64 (v3 - 1))
   else
   spec_Luhn_l0 s_ fuel (Int.tmod (i64 (v1 + (i64 (2 * (i64 ((i64 (sAt s_ v3)) - 48)))))) 10) (!v2) (i64 (v3 - 1))
   else
   spec_Luhn_l0 s_ fuel (Int.tmod (i64 (v1 + (i64 ((i64 (sAt s_ v3)) - 48)))) 10) (!v2) (i64 (v3 - 1))
   else none
   else
   some v1
theorem spec_Luhn_l0_ok (s_ : ByteArray) : ∀ (fuel : Nat) (v1 : Int) (v2 : Bool) (v3 : Int), Pn (LpO Tryz.prog (sub (codeOf Tryz.prog 57) [1, 1, 1, 1, 0, 1, 0, 0]) (st 38 [(0, V.sc (.string s_)), (3, vI v1), (4, V.sc (.bool v2)), (5, vI v3)] [] []) (fun (y : Int) => (X.out 0, st 38 [(3, vI y)] [] []))) (spec_Luhn_l0 s_ fuel v1 v2 v3)
  | 0, _, _, _ => Pn.none
  | fuel + 1, v1, v2, v3 => by
    unfold spec_Luhn_l0
    exact
     Pn.ite (fun h3 =>
     Pn.ite (fun h4 =>
     Pn.ite (fun h5 =>
     Pn.ite (fun h6 =>
     LpO.go [.bit true, .bit true, .bit true, .wait 14, .mask [0, 3, 4, 5], .ren []] (p := [(decide (0 ≤ v3)) = true,(0 : Int) ≤ v3,(v3 : Int) < s_.size,v2 = true,(decide (9 < (i64 (2 * (i64 ((i64 (sAt s_ v3)) - 48)))))) = true,(10 : Int) ≠ 0]) (by kernel_rfl) (cj h3 (cj (od h3) (cj (od h4) (cj h5 (cj h6 (cj1 (by decide))))))) (spec_Luhn_l0_ok s_ fuel (Int.tmod (i64 (v1 + (i64 ((i64 (2 * (i64 ((i64 (sAt s_ v3)) - 48)))) - 9)))) 10) (!v2) (i64 (v3 - 1)))) (fun h6 =>
     LpO.go [.bit true, .bit true, .bit false, .wait 11, .mask [0, 3, 4, 5], .ren []] (p := [(decide (0 ≤ v3)) = true,(0 : Int) ≤ v3,(v3 : Int) < s_.size,v2 = true,(decide (9 < (i64 (2 * (i64 ((i64 (sAt s_ v3)) - 48)))))) = false,(10 : Int) ≠ 0]) (by kernel_rfl) (cj h3 (cj (od h3) (cj (od h4) (cj h5 (cj h6 (cj1 (by decide))))))) (spec_Luhn_l0_ok s_ fuel (Int.tmod (i64 (v1 + (i64 (2 * (i64 ((i64 (sAt s_ v3)) - 48)))))) 10) (!v2) (i64 (v3 - 1))))) (fun h5 =>
     LpO.go [.bit true, .bit false, .wait 11, .mask [0, 3, 4, 5], .ren []] (p := [(decide (0 ≤ v3)) = true,(0 : Int) ≤ v3,(v3 : Int) < s_.size,v2 = false,(10 : Int) ≠ 0]) (by kernel_rfl) (cj h3 (cj (od h3) (cj (od h4) (cj h5 (cj1 (by decide)))))) (spec_Luhn_l0_ok s_ fuel (Int.tmod (i64 (v1 + (i64 ((i64 (sAt s_ v3)) - 48)))) 10) (!v2) (i64 (v3 - 1))))) (fun h4 =>
     Pn.none)) (fun h3 =>
     Pn.some (LpO.out [.bit false, .mask [3], .ren []] (p := [(decide (0 ≤ v3)) = false]) (by kernel_rfl) (show X.out 0 ≠ X.go from nofun) (cj1 h3)))
def spec_Luhn (s_ : ByteArray) : Option (Int) :=
 (spec_Digits s_).bind fun r1 =>
 if r1 = true then
 (spec_Luhn_l0 s_ FUEL 0 true (i64 ((s_.size : Int) - 1))).bind fun r2 =>
 some (Int.tmod (i64 (10 - r2)) 10)
 else
 some (-1)
theorem spec_Luhn_ok (s_ : ByteArray) : Pn (fun y => Fn Tryz.prog 57 [(false, E9 s_)] (E3 y) []) (spec_Luhn s_) := by
  unfold spec_Luhn
  exact
   Pn.bind (fun r1 h1 =>
   Pn.ite (fun h2 =>
   Pn.bind (fun r2 h7 =>
   Pn.some (Fn.of [.call [] (E4 r1) [], .bit false, .wait 6, .mask [0, 3, 4, 5], .ren [], .loop (X.out 0) (st 38 [(3, vI r2)] [] [])] (p := [Fn Tryz.prog 28 [(false, E9 s_)] (E4 r1) [],(true || ((E4 r1).nv && nvL [])) = true,(!r1) = false,Loop Tryz.prog (sub (codeOf Tryz.prog 57) [1, 1, 1, 1, 0, 1, 0, 0]) (st 38 [(0, V.sc (.string s_)), (3, vI 0), (4, V.sc (.bool true)), (5, vI (i64 ((s_.size : Int) - 1)))] [] []) (X.out 0) (st 38 [(3, vI r2)] [] []),(10 : Int) ≠ 0]) (by kernel_rfl) (cj (spec_Digits_ok s_ r1 h1) (cj rfl (cj (nf h2) (cj (spec_Luhn_l0_ok s_ FUEL 0 true (i64 ((s_.size : Int) - 1)) r2 h7) (cj1 (by decide))))))))) (fun h2 =>
   Pn.some (Fn.of [.call [] (E4 r1) [], .bit true] (p := [Fn Tryz.prog 28 [(false, E9 s_)] (E4 r1) [],(true || ((E4 r1).nv && nvL [])) = true,(!r1) = true]) (by kernel_rfl) (cj (spec_Digits_ok s_ r1 h1) (cj rfl (cj1 (nt h2)))))))
def spec_LuhnOk (s_ : ByteArray) : Option (Bool) :=
 (spec_Digits s_).bind fun r1 =>
 if r1 = true then
 if (decide ((s_.size : Int) < 2)) = true then
 some false
 else
 if (decide (0 ≤ (i64 ((s_.size : Int) - 1)))) = true then
 if (decide ((i64 ((s_.size : Int) - 1)) ≤ (s_.size : Int))) = true then
 if (decide (0 ≤ i64 ((s_.size : Int) - 1))) = true then
 if (decide ((i64 ((s_.size : Int) - 1) : Int) < (s_.size : Int))) = true then
 (spec_Luhn (s_.extract 0 (i64 ((s_.size : Int) - 1)).toNat)).bind fun r2 =>
 some (r2 == (i64 ((i64 (sAt s_ (i64 ((s_.size : Int) - 1)))) - 48)))
 else none
 else none
 else none
 else none
 else
 some false
theorem spec_LuhnOk_ok (s_ : ByteArray) : Pn (fun y => Fn Tryz.prog 45 [(false, E9 s_)] (E4 y) []) (spec_LuhnOk s_) := by
  unfold spec_LuhnOk
  exact
   Pn.bind (fun r1 h1 =>
   Pn.ite (fun h2 =>
   Pn.ite (fun h3 =>
   Pn.some (Fn.of [.call [] (E4 r1) [], .bit false, .bit false, .bit false, .bit false, .bit true] (p := [Fn Tryz.prog 28 [(false, E9 s_)] (E4 r1) [],(true || ((E4 r1).nv && nvL [])) = true,(!r1) = false,(!r1) = false,(!r1) = false,(!r1) = false,(decide ((s_.size : Int) < 2)) = true]) (by kernel_rfl) (cj (spec_Digits_ok s_ r1 h1) (cj rfl (cj (nf h2) (cj (nf h2) (cj (nf h2) (cj (nf h2) (cj1 h3))))))))) (fun h3 =>
   Pn.ite (fun h4 =>
   Pn.ite (fun h5 =>
   Pn.ite (fun h6 =>
   Pn.ite (fun h7 =>
   Pn.bind (fun r2 h8 =>
   Pn.some (Fn.of [.call [] (E4 r1) [], .bit false, .bit false, .bit false, .bit false, .bit false, .draw [], .call [] (E3 r2) []] (p := [Fn Tryz.prog 28 [(false, E9 s_)] (E4 r1) [],(true || ((E4 r1).nv && nvL [])) = true,(!r1) = false,(!r1) = false,(!r1) = false,(!r1) = false,(decide ((s_.size : Int) < 2)) = false,(0 : Int) ≤ 0,(0 : Int) ≤ (i64 ((s_.size : Int) - 1)),((i64 ((s_.size : Int) - 1)) : Int) ≤ (s_.size : Int),(0 : Int) ≤ i64 ((s_.size : Int) - 1),(i64 ((s_.size : Int) - 1) : Int) < s_.size,Fn Tryz.prog 57 [(false, E9 (s_.extract 0 (i64 ((s_.size : Int) - 1)).toNat))] (E3 r2) [],(true || ((E3 r2).nv && nvL [])) = true]) (by kernel_rfl) (cj (spec_Digits_ok s_ r1 h1) (cj rfl (cj (nf h2) (cj (nf h2) (cj (nf h2) (cj (nf h2) (cj h3 (cj (by decide) (cj (od h4) (cj (od h5) (cj (od h6) (cj (od h7) (cj (spec_Luhn_ok (s_.extract 0 (i64 ((s_.size : Int) - 1)).toNat) r2 h8) (cj1 rfl))))))))))))))))) (fun h7 =>
   Pn.none)) (fun h6 =>
   Pn.none)) (fun h5 =>
   Pn.none)) (fun h4 =>
   Pn.none))) (fun h2 =>
   Pn.some (Fn.of [.call [] (E4 r1) [], .bit true, .bit true, .bit true, .bit true, .bit true] (p := [Fn Tryz.prog 28 [(false, E9 s_)] (E4 r1) [],(true || ((E4 r1).nv && nvL [])) = true,(!r1) = true,(!r1) = true,(!r1) = true,(!r1) = true,true = true]) (by kernel_rfl) (cj (spec_Digits_ok s_ r1 h1) (cj rfl (cj (nt h2) (cj (nt h2) (cj (nt h2) (cj (nt h2) (cj1 rfl))))))))))
def spec_AcctIdOk (s_ : ByteArray) : Option (Bool) :=
 if (decide ((s_.size : Int) ≤ 19)) = true then
 (spec_LuhnOk s_).bind fun r1 =>
 some r1
 else
 some false
theorem spec_AcctIdOk_ok (s_ : ByteArray) : Pn (fun y => Fn Tryz.prog 30 [(false, E9 s_)] (E4 y) []) (spec_AcctIdOk s_) := by
  unfold spec_AcctIdOk
  exact
   Pn.ite (fun h1 =>
   Pn.bind (fun r1 h2 =>
   Pn.some (Fn.of [.bit true, .bit true, .call [] (E4 r1) [], .bit true] (p := [(decide ((s_.size : Int) ≤ 19)) = true,(decide ((s_.size : Int) ≤ 19)) = true,Fn Tryz.prog 45 [(false, E9 s_)] (E4 r1) [],(true || ((E4 r1).nv && nvL [])) = true,(decide ((s_.size : Int) ≤ 19)) = true]) (by kernel_rfl) (cj h1 (cj h1 (cj (spec_LuhnOk_ok s_ r1 h2) (cj rfl (cj1 h1)))))))) (fun h1 =>
   Pn.some (Fn.of [.bit false, .bit false, .bit false] (p := [(decide ((s_.size : Int) ≤ 19)) = false,(decide ((s_.size : Int) ≤ 19)) = false,(decide ((s_.size : Int) ≤ 19)) = false]) (by kernel_rfl) (cj h1 (cj h1 (cj1 h1)))))
def spec_HoldIdOk_l0 (s_ : ByteArray) : Nat → Int → Option (Lo Unit Unit)
  | 0, _ => none
  | fuel + 1, v1 =>
   if (decide (v1 < (s_.size : Int))) = true then
   if (decide (0 ≤ v1)) = true then
   if (decide ((v1 : Int) < (s_.size : Int))) = true then
   if (decide ((sAt s_ v1) < 48)) = true then
   if (decide ((sAt s_ v1) < 97)) = true then
   some (.ret ())
   else
   if (decide (122 < (sAt s_ v1))) = true then
   some (.ret ())
   else
   spec_HoldIdOk_l0 s_ fuel (i64 (v1 + 1))
   else
   if (decide (57 < (sAt s_ v1))) = true then
   if (decide ((sAt s_ v1) < 97)) = true then
   some (.ret ())
   else
   if (decide (122 < (sAt s_ v1))) = true then
   some (.ret ())
   else
   spec_HoldIdOk_l0 s_ fuel (i64 (v1 + 1))
   else
   spec_HoldIdOk_l0 s_ fuel (i64 (v1 + 1))
   else none
   else none
   else
   some (.out ())
theorem spec_HoldIdOk_l0_ok (s_ : ByteArray) : ∀ (fuel : Nat) (v1 : Int), Pn (LpO Tryz.prog (sub (codeOf Tryz.prog 31) [1, 0, 1, 0, 0]) (st 35 [(0, V.sc (.string s_)), (3, vI v1)] [] []) (fun (y : Lo Unit Unit) => Lo.elim y (fun s => (X.out 0, st 35 [(0, V.sc (.string s_))] [] [])) (fun s => (X.ret, st 35 [(2, V.sc (.bool false))] [] [])))) (spec_HoldIdOk_l0 s_ fuel v1)
  | 0, _ => Pn.none
  | fuel + 1, v1 => by
    unfold spec_HoldIdOk_l0
    exact
     Pn.ite (fun h1 =>
     Pn.ite (fun h2 =>
     Pn.ite (fun h3 =>
     Pn.ite (fun h4 =>
     Pn.ite (fun h5 =>
     Pn.some (LpO.out [.bit true, .bit true, .bit true, .bit true, .bit true, .bit true, .bit true, .bit true, .bit true, .bit true, .bit true, .bit true, .bit true, .bit true, .bit true, .bit true, .bit true, .bit true, .bit true, .wait 1, .mask [2], .ren []] (p := [(decide (v1 < (s_.size : Int))) = true,(0 : Int) ≤ v1,(v1 : Int) < s_.size,(decide ((sAt s_ v1) < 48)) = true,(decide ((sAt s_ v1) < 48)) = true,(decide ((sAt s_ v1) < 48)) = true,(decide ((sAt s_ v1) < 48)) = true,(decide ((sAt s_ v1) < 48)) = true,true = true,true = true,true = true,(0 : Int) ≤ v1,(v1 : Int) < s_.size,true = true,true = true,(decide ((sAt s_ v1) < 97)) = true,(decide ((sAt s_ v1) < 97)) = true,(decide ((sAt s_ v1) < 97)) = true,(decide ((sAt s_ v1) < 97)) = true,true = true,(decide ((sAt s_ v1) < 97)) = true,true = true,true = true]) (by kernel_rfl) (show X.ret ≠ X.go from nofun) (cj h1 (cj (od h2) (cj (od h3) (cj h4 (cj h4 (cj h4 (cj h4 (cj h4 (cj rfl (cj rfl (cj rfl (cj (od h2) (cj (od h3) (cj rfl (cj rfl (cj h5 (cj h5 (cj h5 (cj h5 (cj rfl (cj h5 (cj rfl (cj1 rfl))))))))))))))))))))))))) (fun h5 =>
     Pn.ite (fun h6 =>
     Pn.some (LpO.out [.bit true, .bit true, .bit true, .bit true, .bit true, .bit true, .bit true, .bit true, .bit true, .bit true, .bit true, .bit false, .bit false, .bit false, .bit false, .bit true, .bit false, .bit true, .bit true, .wait 1, .mask [2], .ren []] (p := [(decide (v1 < (s_.size : Int))) = true,(0 : Int) ≤ v1,(v1 : Int) < s_.size,(decide ((sAt s_ v1) < 48)) = true,(decide ((sAt s_ v1) < 48)) = true,(decide ((sAt s_ v1) < 48)) = true,(decide ((sAt s_ v1) < 48)) = true,(decide ((sAt s_ v1) < 48)) = true,true = true,true = true,true = true,(0 : Int) ≤ v1,(v1 : Int) < s_.size,true = true,true = true,(decide ((sAt s_ v1) < 97)) = false,(decide ((sAt s_ v1) < 97)) = false,(decide ((sAt s_ v1) < 97)) = false,(0 : Int) ≤ v1,(v1 : Int) < s_.size,(decide ((sAt s_ v1) < 97)) = false,true = true,(decide ((sAt s_ v1) < 97)) = false,true = true,(decide (122 < (sAt s_ v1))) = true]) (by kernel_rfl) (show X.ret ≠ X.go from nofun) (cj h1 (cj (od h2) (cj (od h3) (cj h4 (cj h4 (cj h4 (cj h4 (cj h4 (cj rfl (cj rfl (cj rfl (cj (od h2) (cj (od h3) (cj rfl (cj rfl (cj h5 (cj h5 (cj h5 (cj (od h2) (cj (od h3) (cj h5 (cj rfl (cj h5 (cj rfl (cj1 h6))))))))))))))))))))))))))) (fun h6 =>
     LpO.go [.bit true, .bit true, .bit true, .bit true, .bit true, .bit true, .bit true, .bit true, .bit true, .bit true, .bit true, .bit false, .bit false, .bit false, .bit false, .bit true, .bit false, .bit true, .bit false, .wait 3, .mask [0, 3], .ren []] (p := [(decide (v1 < (s_.size : Int))) = true,(0 : Int) ≤ v1,(v1 : Int) < s_.size,(decide ((sAt s_ v1) < 48)) = true,(decide ((sAt s_ v1) < 48)) = true,(decide ((sAt s_ v1) < 48)) = true,(decide ((sAt s_ v1) < 48)) = true,(decide ((sAt s_ v1) < 48)) = true,true = true,true = true,true = true,(0 : Int) ≤ v1,(v1 : Int) < s_.size,true = true,true = true,(decide ((sAt s_ v1) < 97)) = false,(decide ((sAt s_ v1) < 97)) = false,(decide ((sAt s_ v1) < 97)) = false,(0 : Int) ≤ v1,(v1 : Int) < s_.size,(decide ((sAt s_ v1) < 97)) = false,true = true,(decide ((sAt s_ v1) < 97)) = false,true = true,(decide (122 < (sAt s_ v1))) = false]) (by kernel_rfl) (cj h1 (cj (od h2) (cj (od h3) (cj h4 (cj h4 (cj h4 (cj h4 (cj h4 (cj rfl (cj rfl (cj rfl (cj (od h2) (cj (od h3) (cj rfl (cj rfl (cj h5 (cj h5 (cj h5 (cj (od h2) (cj (od h3) (cj h5 (cj rfl (cj h5 (cj rfl (cj1 h6))))))))))))))))))))))))) (spec_HoldIdOk_l0_ok s_ fuel (i64 (v1 + 1)))))) (fun h4 =>
     Pn.ite (fun h7 =>
     Pn.ite (fun h8 =>
     Pn.some (LpO.out [.bit true, .bit false, .bit false, .bit false, .bit false, .bit false, .bit true, .bit true, .bit true, .bit true, .bit true, .bit true, .bit true, .bit true, .bit true, .bit true, .bit true, .bit true, .bit true, .wait 1, .mask [2], .ren []] (p := [(decide (v1 < (s_.size : Int))) = true,(0 : Int) ≤ v1,(v1 : Int) < s_.size,(decide ((sAt s_ v1) < 48)) = false,(decide ((sAt s_ v1) < 48)) = false,(decide ((sAt s_ v1) < 48)) = false,(0 : Int) ≤ v1,(v1 : Int) < s_.size,(decide ((sAt s_ v1) < 48)) = false,(decide ((sAt s_ v1) < 48)) = false,(decide (57 < (sAt s_ v1))) = true,(decide (57 < (sAt s_ v1))) = true,(decide (57 < (sAt s_ v1))) = true,(0 : Int) ≤ v1,(v1 : Int) < s_.size,(decide (57 < (sAt s_ v1))) = true,(decide (57 < (sAt s_ v1))) = true,(decide ((sAt s_ v1) < 97)) = true,(decide ((sAt s_ v1) < 97)) = true,(decide ((sAt s_ v1) < 97)) = true,(decide ((sAt s_ v1) < 97)) = true,(decide (57 < (sAt s_ v1))) = true,(decide ((sAt s_ v1) < 97)) = true,(decide (57 < (sAt s_ v1))) = true,true = true]) (by kernel_rfl) (show X.ret ≠ X.go from nofun) (cj h1 (cj (od h2) (cj (od h3) (cj h4 (cj h4 (cj h4 (cj (od h2) (cj (od h3) (cj h4 (cj h4 (cj h7 (cj h7 (cj h7 (cj (od h2) (cj (od h3) (cj h7 (cj h7 (cj h8 (cj h8 (cj h8 (cj h8 (cj h7 (cj h8 (cj h7 (cj1 rfl))))))))))))))))))))))))))) (fun h8 =>
     Pn.ite (fun h9 =>
     Pn.some (LpO.out [.bit true, .bit false, .bit false, .bit false, .bit false, .bit false, .bit true, .bit true, .bit true, .bit true, .bit true, .bit false, .bit false, .bit false, .bit false, .bit true, .bit false, .bit true, .bit true, .wait 1, .mask [2], .ren []] (p := [(decide (v1 < (s_.size : Int))) = true,(0 : Int) ≤ v1,(v1 : Int) < s_.size,(decide ((sAt s_ v1) < 48)) = false,(decide ((sAt s_ v1) < 48)) = false,(decide ((sAt s_ v1) < 48)) = false,(0 : Int) ≤ v1,(v1 : Int) < s_.size,(decide ((sAt s_ v1) < 48)) = false,(decide ((sAt s_ v1) < 48)) = false,(decide (57 < (sAt s_ v1))) = true,(decide (57 < (sAt s_ v1))) = true,(decide (57 < (sAt s_ v1))) = true,(0 : Int) ≤ v1,(v1 : Int) < s_.size,(decide (57 < (sAt s_ v1))) = true,(decide (57 < (sAt s_ v1))) = true,(decide ((sAt s_ v1) < 97)) = false,(decide ((sAt s_ v1) < 97)) = false,(decide ((sAt s_ v1) < 97)) = false,(0 : Int) ≤ v1,(v1 : Int) < s_.size,(decide ((sAt s_ v1) < 97)) = false,(decide (57 < (sAt s_ v1))) = true,(decide ((sAt s_ v1) < 97)) = false,(decide (57 < (sAt s_ v1))) = true,(decide (122 < (sAt s_ v1))) = true]) (by kernel_rfl) (show X.ret ≠ X.go from nofun) (cj h1 (cj (od h2) (cj (od h3) (cj h4 (cj h4 (cj h4 (cj (od h2) (cj (od h3) (cj h4 (cj h4 (cj h7 (cj h7 (cj h7 (cj (od h2) (cj (od h3) (cj h7 (cj h7 (cj h8 (cj h8 (cj h8 (cj (od h2) (cj (od h3) (cj h8 (cj h7 (cj h8 (cj h7 (cj1 h9))))))))))))))))))))))))))))) (fun h9 =>
     LpO.go [.bit true, .bit false, .bit false, .bit false, .bit false, .bit false, .bit true, .bit true, .bit true, .bit true, .bit true, .bit false, .bit false, .bit false, .bit false, .bit true, .bit false, .bit true, .bit false, .wait 3, .mask [0, 3], .ren []] (p := [(decide (v1 < (s_.size : Int))) = true,(0 : Int) ≤ v1,(v1 : Int) < s_.size,(decide ((sAt s_ v1) < 48)) = false,(decide ((sAt s_ v1) < 48)) = false,(decide ((sAt s_ v1) < 48)) = false,(0 : Int) ≤ v1,(v1 : Int) < s_.size,(decide ((sAt s_ v1) < 48)) = false,(decide ((sAt s_ v1) < 48)) = false,(decide (57 < (sAt s_ v1))) = true,(decide (57 < (sAt s_ v1))) = true,(decide (57 < (sAt s_ v1))) = true,(0 : Int) ≤ v1,(v1 : Int) < s_.size,(decide (57 < (sAt s_ v1))) = true,(decide (57 < (sAt s_ v1))) = true,(decide ((sAt s_ v1) < 97)) = false,(decide ((sAt s_ v1) < 97)) = false,(decide ((sAt s_ v1) < 97)) = false,(0 : Int) ≤ v1,(v1 : Int) < s_.size,(decide ((sAt s_ v1) < 97)) = false,(decide (57 < (sAt s_ v1))) = true,(decide ((sAt s_ v1) < 97)) = false,(decide (57 < (sAt s_ v1))) = true,(decide (122 < (sAt s_ v1))) = false]) (by kernel_rfl) (cj h1 (cj (od h2) (cj (od h3) (cj h4 (cj h4 (cj h4 (cj (od h2) (cj (od h3) (cj h4 (cj h4 (cj h7 (cj h7 (cj h7 (cj (od h2) (cj (od h3) (cj h7 (cj h7 (cj h8 (cj h8 (cj h8 (cj (od h2) (cj (od h3) (cj h8 (cj h7 (cj h8 (cj h7 (cj1 h9))))))))))))))))))))))))))) (spec_HoldIdOk_l0_ok s_ fuel (i64 (v1 + 1)))))) (fun h7 =>
     LpO.go [.bit true, .bit false, .bit false, .bit false, .bit false, .bit false, .bit false, .bit false, .bit false, .bit false, .bit false, .bit false, .bit false, .bit false, .wait 3, .mask [0, 3], .ren []] (p := [(decide (v1 < (s_.size : Int))) = true,(0 : Int) ≤ v1,(v1 : Int) < s_.size,(decide ((sAt s_ v1) < 48)) = false,(decide ((sAt s_ v1) < 48)) = false,(decide ((sAt s_ v1) < 48)) = false,(0 : Int) ≤ v1,(v1 : Int) < s_.size,(decide ((sAt s_ v1) < 48)) = false,(decide ((sAt s_ v1) < 48)) = false,(decide (57 < (sAt s_ v1))) = false,(decide (57 < (sAt s_ v1))) = false,(decide (57 < (sAt s_ v1))) = false,(decide (57 < (sAt s_ v1))) = false,(decide (57 < (sAt s_ v1))) = false,(decide (57 < (sAt s_ v1))) = false,(decide (57 < (sAt s_ v1))) = false,false = false]) (by kernel_rfl) (cj h1 (cj (od h2) (cj (od h3) (cj h4 (cj h4 (cj h4 (cj (od h2) (cj (od h3) (cj h4 (cj h4 (cj h7 (cj h7 (cj h7 (cj h7 (cj h7 (cj h7 (cj h7 (cj1 rfl)))))))))))))))))) (spec_HoldIdOk_l0_ok s_ fuel (i64 (v1 + 1)))))) (fun h3 =>
     Pn.none)) (fun h2 =>
     Pn.none)) (fun h1 =>
     Pn.some (LpO.out [.bit false, .mask [0], .ren []] (p := [(decide (v1 < (s_.size : Int))) = false]) (by kernel_rfl) (show X.out 0 ≠ X.go from nofun) (cj1 h1)))
def spec_HoldIdOk (s_ : ByteArray) : Option (Bool) :=
 (spec_HoldIdOk_l0 s_ FUEL 0).bind fun r1 =>
 Lo.elim r1 (fun s1 =>
 (spec_l01In (s_.size : Int) 1 6).bind fun r2 =>
 some r2) (fun s2 =>
 some false)
theorem spec_HoldIdOk_ok (s_ : ByteArray) : Pn (fun y => Fn Tryz.prog 31 [(false, E9 s_)] (E4 y) []) (spec_HoldIdOk s_) := by
  unfold spec_HoldIdOk
  exact
   Pn.bind (fun r1 h10 =>
   Pn.lo (fun s1 h11 =>
   Pn.bind (fun r2 h13 =>
   Pn.some (Fn.of [.wait 3, .mask [0, 3], .ren [], .loop (X.out 0) (st 35 [(0, V.sc (.string s_))] [] []), .call [] (E4 r2) []] (p := [Loop Tryz.prog (sub (codeOf Tryz.prog 31) [1, 0, 1, 0, 0]) (st 35 [(0, V.sc (.string s_)), (3, vI 0)] [] []) (X.out 0) (st 35 [(0, V.sc (.string s_))] [] []),Fn Tryz.prog 27 [(false, E3 (s_.size : Int)), (false, E3 1), (false, E3 6)] (E4 r2) [],(true || ((E4 r2).nv && nvL [])) = true]) (by kernel_rfl) (cj ((spec_HoldIdOk_l0_ok s_ FUEL 0 r1 h10).at h11 :) (cj (spec_l01In_ok (s_.size : Int) 1 6 r2 h13) (cj1 rfl)))))) (fun s2 h12 =>
   Pn.some (Fn.of [.wait 3, .mask [0, 3], .ren [], .loop (X.ret) (st 35 [(2, V.sc (.bool false))] [] [])] (p := [Loop Tryz.prog (sub (codeOf Tryz.prog 31) [1, 0, 1, 0, 0]) (st 35 [(0, V.sc (.string s_)), (3, vI 0)] [] []) (X.ret) (st 35 [(2, V.sc (.bool false))] [] [])]) (by kernel_rfl) (cj1 ((spec_HoldIdOk_l0_ok s_ FUEL 0 r1 h10).at h12 :)))))
def spec_ReqOk_c0 (o : Req) : Option (Lo Unit Unit) :=
 (spec_l11Op o.Op).bind fun r1 =>
 if r1 = true then
 (spec_OpMti o.Op).bind fun r2 =>
 if (o.Mti == r2) = true then
 (spec_AcctIdOk o.Acct).bind fun r3 =>
 if r3 = true then
 (spec_Digits o.Trace).bind fun r4 =>
 if r4 = true then
 if ((o.Trace.size : Int) != 6) = true then
 some (.ret ())
 else
 some (.out ())
 else
 some (.ret ())
 else
 some (.ret ())
 else
 some (.ret ())
 else
 some (.ret ())
theorem spec_ReqOk_c0_ok (o : Req) : Pn (JnO Tryz.prog (sub (codeOf Tryz.prog 13) [1, 0]) (st 110 [(1, V.ptr 0 0)] [Blk.box 23 [vI o.Op, V.sc (.string o.Acct), V.sc (.string o.Other), V.sc (.string o.Hold), V.sc (.string o.Trace), V.sc (.string o.Mti), vI o.Amount, vI o.Ttl]] []) (fun (y : Lo Unit Unit) => Lo.elim y (fun s => (X.go, st 110 [(1, V.ptr 0 0)] [Blk.box 23 [vI o.Op, V.sc (.string o.Acct), V.sc (.string o.Other), V.sc (.string o.Hold), V.sc (.string o.Trace), V.sc (.string o.Mti), vI o.Amount, vI o.Ttl]] [])) (fun s => (X.ret, st 110 [(2, V.sc (.bool false))] [] [])))) (spec_ReqOk_c0 o) := by
  unfold spec_ReqOk_c0
  exact
   Pn.bind (fun r1 h1 =>
   Pn.ite (fun h2 =>
   Pn.bind (fun r2 h3 =>
   Pn.ite (fun h4 =>
   Pn.bind (fun r3 h5 =>
   Pn.ite (fun h6 =>
   Pn.bind (fun r4 h7 =>
   Pn.ite (fun h8 =>
   Pn.ite (fun h9 =>
   Pn.some (JnO.of [.draw [], .call [] (E4 r1) [], .bit false, .bit false, .bit false, .bit false, .bit false, .call [] (E9 r2) [], .bit false, .bit false, .bit false, .bit false, .bit false, .call [] (E4 r3) [], .bit false, .bit false, .bit false, .bit false, .bit false, .call [] (E4 r4) [], .bit false, .bit false, .bit false, .bit false, .bit false, .bit false, .bit false, .bit true, .wait 1, .mask [2], .ren []] (p := [Fn Tryz.prog 25 [(false, E3 o.Op)] (E4 r1) [],(true || ((E4 r1).nv && nvL [])) = true,(!r1) = false,(!r1) = false,(!r1) = false,(!r1) = false,(!r1) = false,Fn Tryz.prog 9 [(false, E3 o.Op)] (E9 r2) [],(true || ((E9 r2).nv && nvL [])) = true,(!r1) = false,(!r1) = false,(!(o.Mti == r2)) = false,(!(o.Mti == r2)) = false,(!(o.Mti == r2)) = false,Fn Tryz.prog 30 [(false, E9 o.Acct)] (E4 r3) [],(true || ((E4 r3).nv && nvL [])) = true,(!(o.Mti == r2)) = false,(!(o.Mti == r2)) = false,(!r3) = false,(!r3) = false,(!r3) = false,Fn Tryz.prog 28 [(false, E9 o.Trace)] (E4 r4) [],(true || ((E4 r4).nv && nvL [])) = true,(!r3) = false,(!r3) = false,(!r4) = false,(!r4) = false,(!r4) = false,(!r4) = false,(!r4) = false,((o.Trace.size : Int) != 6) = true]) (by kernel_rfl) (cj (spec_l11Op_ok o.Op r1 h1) (cj rfl (cj (nf h2) (cj (nf h2) (cj (nf h2) (cj (nf h2) (cj (nf h2) (cj (spec_OpMti_ok o.Op r2 h3) (cj rfl (cj (nf h2) (cj (nf h2) (cj (nf h4) (cj (nf h4) (cj (nf h4) (cj (spec_AcctIdOk_ok o.Acct r3 h5) (cj rfl (cj (nf h4) (cj (nf h4) (cj (nf h6) (cj (nf h6) (cj (nf h6) (cj (spec_Digits_ok o.Trace r4 h7) (cj rfl (cj (nf h6) (cj (nf h6) (cj (nf h8) (cj (nf h8) (cj (nf h8) (cj (nf h8) (cj (nf h8) (cj1 h9))))))))))))))))))))))))))))))))) (fun h9 =>
   Pn.some (JnO.of [.draw [], .call [] (E4 r1) [], .bit false, .bit false, .bit false, .bit false, .bit false, .call [] (E9 r2) [], .bit false, .bit false, .bit false, .bit false, .bit false, .call [] (E4 r3) [], .bit false, .bit false, .bit false, .bit false, .bit false, .call [] (E4 r4) [], .bit false, .bit false, .bit false, .bit false, .bit false, .bit false, .bit false, .bit false, .mask [1], .ren [0]] (p := [Fn Tryz.prog 25 [(false, E3 o.Op)] (E4 r1) [],(true || ((E4 r1).nv && nvL [])) = true,(!r1) = false,(!r1) = false,(!r1) = false,(!r1) = false,(!r1) = false,Fn Tryz.prog 9 [(false, E3 o.Op)] (E9 r2) [],(true || ((E9 r2).nv && nvL [])) = true,(!r1) = false,(!r1) = false,(!(o.Mti == r2)) = false,(!(o.Mti == r2)) = false,(!(o.Mti == r2)) = false,Fn Tryz.prog 30 [(false, E9 o.Acct)] (E4 r3) [],(true || ((E4 r3).nv && nvL [])) = true,(!(o.Mti == r2)) = false,(!(o.Mti == r2)) = false,(!r3) = false,(!r3) = false,(!r3) = false,Fn Tryz.prog 28 [(false, E9 o.Trace)] (E4 r4) [],(true || ((E4 r4).nv && nvL [])) = true,(!r3) = false,(!r3) = false,(!r4) = false,(!r4) = false,(!r4) = false,(!r4) = false,(!r4) = false,((o.Trace.size : Int) != 6) = false]) (by kernel_rfl) (cj (spec_l11Op_ok o.Op r1 h1) (cj rfl (cj (nf h2) (cj (nf h2) (cj (nf h2) (cj (nf h2) (cj (nf h2) (cj (spec_OpMti_ok o.Op r2 h3) (cj rfl (cj (nf h2) (cj (nf h2) (cj (nf h4) (cj (nf h4) (cj (nf h4) (cj (spec_AcctIdOk_ok o.Acct r3 h5) (cj rfl (cj (nf h4) (cj (nf h4) (cj (nf h6) (cj (nf h6) (cj (nf h6) (cj (spec_Digits_ok o.Trace r4 h7) (cj rfl (cj (nf h6) (cj (nf h6) (cj (nf h8) (cj (nf h8) (cj (nf h8) (cj (nf h8) (cj (nf h8) (cj1 h9)))))))))))))))))))))))))))))))))) (fun h8 =>
   Pn.some (JnO.of [.draw [], .call [] (E4 r1) [], .bit false, .bit false, .bit false, .bit false, .bit false, .call [] (E9 r2) [], .bit false, .bit false, .bit false, .bit false, .bit false, .call [] (E4 r3) [], .bit false, .bit false, .bit false, .bit false, .bit false, .call [] (E4 r4) [], .bit false, .bit false, .bit true, .bit true, .bit true, .bit true, .bit true, .bit true, .wait 1, .mask [2], .ren []] (p := [Fn Tryz.prog 25 [(false, E3 o.Op)] (E4 r1) [],(true || ((E4 r1).nv && nvL [])) = true,(!r1) = false,(!r1) = false,(!r1) = false,(!r1) = false,(!r1) = false,Fn Tryz.prog 9 [(false, E3 o.Op)] (E9 r2) [],(true || ((E9 r2).nv && nvL [])) = true,(!r1) = false,(!r1) = false,(!(o.Mti == r2)) = false,(!(o.Mti == r2)) = false,(!(o.Mti == r2)) = false,Fn Tryz.prog 30 [(false, E9 o.Acct)] (E4 r3) [],(true || ((E4 r3).nv && nvL [])) = true,(!(o.Mti == r2)) = false,(!(o.Mti == r2)) = false,(!r3) = false,(!r3) = false,(!r3) = false,Fn Tryz.prog 28 [(false, E9 o.Trace)] (E4 r4) [],(true || ((E4 r4).nv && nvL [])) = true,(!r3) = false,(!r3) = false,(!r4) = true,(!r4) = true,(!r4) = true,(!r4) = true,(!r4) = true,true = true]) (by kernel_rfl) (cj (spec_l11Op_ok o.Op r1 h1) (cj rfl (cj (nf h2) (cj (nf h2) (cj (nf h2) (cj (nf h2) (cj (nf h2) (cj (spec_OpMti_ok o.Op r2 h3) (cj rfl (cj (nf h2) (cj (nf h2) (cj (nf h4) (cj (nf h4) (cj (nf h4) (cj (spec_AcctIdOk_ok o.Acct r3 h5) (cj rfl (cj (nf h4) (cj (nf h4) (cj (nf h6) (cj (nf h6) (cj (nf h6) (cj (spec_Digits_ok o.Trace r4 h7) (cj rfl (cj (nf h6) (cj (nf h6) (cj (nt h8) (cj (nt h8) (cj (nt h8) (cj (nt h8) (cj (nt h8) (cj1 rfl))))))))))))))))))))))))))))))))))) (fun h6 =>
   Pn.some (JnO.of [.draw [], .call [] (E4 r1) [], .bit false, .bit false, .bit false, .bit false, .bit false, .call [] (E9 r2) [], .bit false, .bit false, .bit false, .bit false, .bit false, .call [] (E4 r3) [], .bit false, .bit false, .bit true, .bit true, .bit true, .bit true, .bit true, .bit true, .bit true, .bit true, .bit true, .bit true, .bit true, .wait 1, .mask [2], .ren []] (p := [Fn Tryz.prog 25 [(false, E3 o.Op)] (E4 r1) [],(true || ((E4 r1).nv && nvL [])) = true,(!r1) = false,(!r1) = false,(!r1) = false,(!r1) = false,(!r1) = false,Fn Tryz.prog 9 [(false, E3 o.Op)] (E9 r2) [],(true || ((E9 r2).nv && nvL [])) = true,(!r1) = false,(!r1) = false,(!(o.Mti == r2)) = false,(!(o.Mti == r2)) = false,(!(o.Mti == r2)) = false,Fn Tryz.prog 30 [(false, E9 o.Acct)] (E4 r3) [],(true || ((E4 r3).nv && nvL [])) = true,(!(o.Mti == r2)) = false,(!(o.Mti == r2)) = false,(!r3) = true,(!r3) = true,(!r3) = true,(!r3) = true,(!r3) = true,true = true,true = true,true = true,true = true,true = true,true = true]) (by kernel_rfl) (cj (spec_l11Op_ok o.Op r1 h1) (cj rfl (cj (nf h2) (cj (nf h2) (cj (nf h2) (cj (nf h2) (cj (nf h2) (cj (spec_OpMti_ok o.Op r2 h3) (cj rfl (cj (nf h2) (cj (nf h2) (cj (nf h4) (cj (nf h4) (cj (nf h4) (cj (spec_AcctIdOk_ok o.Acct r3 h5) (cj rfl (cj (nf h4) (cj (nf h4) (cj (nt h6) (cj (nt h6) (cj (nt h6) (cj (nt h6) (cj (nt h6) (cj rfl (cj rfl (cj rfl (cj rfl (cj rfl (cj1 rfl))))))))))))))))))))))))))))))))) (fun h4 =>
   Pn.some (JnO.of [.draw [], .call [] (E4 r1) [], .bit false, .bit false, .bit false, .bit false, .bit false, .call [] (E9 r2) [], .bit false, .bit false, .bit true, .bit true, .bit true, .bit true, .bit true, .bit true, .bit true, .bit true, .bit true, .bit true, .bit true, .bit true, .bit true, .bit true, .bit true, .bit true, .wait 1, .mask [2], .ren []] (p := [Fn Tryz.prog 25 [(false, E3 o.Op)] (E4 r1) [],(true || ((E4 r1).nv && nvL [])) = true,(!r1) = false,(!r1) = false,(!r1) = false,(!r1) = false,(!r1) = false,Fn Tryz.prog 9 [(false, E3 o.Op)] (E9 r2) [],(true || ((E9 r2).nv && nvL [])) = true,(!r1) = false,(!r1) = false,(!(o.Mti == r2)) = true,(!(o.Mti == r2)) = true,(!(o.Mti == r2)) = true,(!(o.Mti == r2)) = true,(!(o.Mti == r2)) = true,true = true,true = true,true = true,true = true,true = true,true = true,true = true,true = true,true = true,true = true,true = true]) (by kernel_rfl) (cj (spec_l11Op_ok o.Op r1 h1) (cj rfl (cj (nf h2) (cj (nf h2) (cj (nf h2) (cj (nf h2) (cj (nf h2) (cj (spec_OpMti_ok o.Op r2 h3) (cj rfl (cj (nf h2) (cj (nf h2) (cj (nt h4) (cj (nt h4) (cj (nt h4) (cj (nt h4) (cj (nt h4) (cj rfl (cj rfl (cj rfl (cj rfl (cj rfl (cj rfl (cj rfl (cj rfl (cj rfl (cj rfl (cj1 rfl))))))))))))))))))))))))))))))) (fun h2 =>
   Pn.some (JnO.of [.draw [], .call [] (E4 r1) [], .bit true, .bit true, .bit true, .bit true, .bit true, .bit true, .bit true, .bit true, .bit true, .bit true, .bit true, .bit true, .bit true, .bit true, .bit true, .bit true, .bit true, .bit true, .bit true, .bit true, .bit true, .bit true, .bit true, .wait 1, .mask [2], .ren []] (p := [Fn Tryz.prog 25 [(false, E3 o.Op)] (E4 r1) [],(true || ((E4 r1).nv && nvL [])) = true,(!r1) = true,(!r1) = true,(!r1) = true,(!r1) = true,(!r1) = true,(!r1) = true,(!r1) = true,true = true,true = true,true = true,true = true,true = true,true = true,true = true,true = true,true = true,true = true,true = true,true = true,true = true,true = true,true = true,true = true]) (by kernel_rfl) (cj (spec_l11Op_ok o.Op r1 h1) (cj rfl (cj (nt h2) (cj (nt h2) (cj (nt h2) (cj (nt h2) (cj (nt h2) (cj (nt h2) (cj (nt h2) (cj rfl (cj rfl (cj rfl (cj rfl (cj rfl (cj rfl (cj rfl (cj rfl (cj rfl (cj rfl (cj rfl (cj rfl (cj rfl (cj rfl (cj rfl (cj1 rfl))))))))))))))))))))))))))))
def spec_ReqOk_c1 (o : Req) : Option (Lo Unit Unit) :=
 (spec_l11Hold o.Op).bind fun r6 =>
 if r6 = true then
 (spec_HoldIdOk o.Hold).bind fun r7 =>
 if r7 = true then
 (spec_l11Hold o.Op).bind fun r8 =>
 if r8 = true then
 some (.out ())
 else
 if (o.Hold == (bs [])) = true then
 some (.out ())
 else
 some (.ret ())
 else
 some (.ret ())
 else
 (spec_l11Hold o.Op).bind fun r9 =>
 if r9 = true then
 some (.out ())
 else
 if (o.Hold == (bs [])) = true then
 some (.out ())
 else
 some (.ret ())
theorem spec_ReqOk_c1_ok (o : Req) : Pn (JnO Tryz.prog (sub (codeOf Tryz.prog 13) [1, 1, 0]) (st 110 [(1, V.ptr 0 0)] [Blk.box 23 [vI o.Op, V.sc (.string o.Acct), V.sc (.string o.Other), V.sc (.string o.Hold), V.sc (.string o.Trace), V.sc (.string o.Mti), vI o.Amount, vI o.Ttl]] []) (fun (y : Lo Unit Unit) => Lo.elim y (fun s => (X.go, st 110 [(1, V.ptr 0 0)] [Blk.box 23 [vI o.Op, V.sc (.string o.Acct), V.sc (.string o.Other), V.sc (.string o.Hold), V.sc (.string o.Trace), V.sc (.string o.Mti), vI o.Amount, vI o.Ttl]] [])) (fun s => (X.ret, st 110 [(2, V.sc (.bool false))] [] [])))) (spec_ReqOk_c1 o) := by
  unfold spec_ReqOk_c1
  exact
   Pn.bind (fun r6 h13 =>
   Pn.ite (fun h14 =>
   Pn.bind (fun r7 h15 =>
   Pn.ite (fun h16 =>
   Pn.bind (fun r8 h17 =>
   Pn.ite (fun h18 =>
   Pn.some (JnO.of [.call [] (E4 r6) [], .bit true, .bit true, .bit true, .call [] (E4 r7) [], .bit true, .bit true, .bit false, .bit false, .bit false, .call [] (E4 r8) [], .bit false, .bit false, .bit false, .bit false, .bit false, .bit false, .bit false, .bit false, .bit false, .mask [1], .ren [0]] (p := [Fn Tryz.prog 10 [(false, E3 o.Op)] (E4 r6) [],(true || ((E4 r6).nv && nvL [])) = true,r6 = true,r6 = true,r6 = true,Fn Tryz.prog 31 [(false, E9 o.Hold)] (E4 r7) [],(true || ((E4 r7).nv && nvL [])) = true,r6 = true,r6 = true,(!r7) = false,(!r7) = false,(!r7) = false,Fn Tryz.prog 10 [(false, E3 o.Op)] (E4 r8) [],(true || ((E4 r8).nv && nvL [])) = true,(!r7) = false,(!r7) = false,(!r8) = false,(!r8) = false,(!r8) = false,(!r7) = false,(!r8) = false,(!r7) = false,false = false]) (by kernel_rfl) (cj (spec_l11Hold_ok o.Op r6 h13) (cj rfl (cj h14 (cj h14 (cj h14 (cj (spec_HoldIdOk_ok o.Hold r7 h15) (cj rfl (cj h14 (cj h14 (cj (nf h16) (cj (nf h16) (cj (nf h16) (cj (spec_l11Hold_ok o.Op r8 h17) (cj rfl (cj (nf h16) (cj (nf h16) (cj (nf h18) (cj (nf h18) (cj (nf h18) (cj (nf h16) (cj (nf h18) (cj (nf h16) (cj1 rfl))))))))))))))))))))))))) (fun h18 =>
   Pn.ite (fun h19 =>
   Pn.some (JnO.of [.call [] (E4 r6) [], .bit true, .bit true, .bit true, .call [] (E4 r7) [], .bit true, .bit true, .bit false, .bit false, .bit false, .call [] (E4 r8) [], .bit false, .bit false, .bit true, .bit true, .bit true, .bit false, .bit true, .bit false, .bit false, .mask [1], .ren [0]] (p := [Fn Tryz.prog 10 [(false, E3 o.Op)] (E4 r6) [],(true || ((E4 r6).nv && nvL [])) = true,r6 = true,r6 = true,r6 = true,Fn Tryz.prog 31 [(false, E9 o.Hold)] (E4 r7) [],(true || ((E4 r7).nv && nvL [])) = true,r6 = true,r6 = true,(!r7) = false,(!r7) = false,(!r7) = false,Fn Tryz.prog 10 [(false, E3 o.Op)] (E4 r8) [],(true || ((E4 r8).nv && nvL [])) = true,(!r7) = false,(!r7) = false,(!r8) = true,(!r8) = true,(!r8) = true,(!r7) = false,(!r8) = true,(!r7) = false,(!(o.Hold == (bs []))) = false]) (by kernel_rfl) (cj (spec_l11Hold_ok o.Op r6 h13) (cj rfl (cj h14 (cj h14 (cj h14 (cj (spec_HoldIdOk_ok o.Hold r7 h15) (cj rfl (cj h14 (cj h14 (cj (nf h16) (cj (nf h16) (cj (nf h16) (cj (spec_l11Hold_ok o.Op r8 h17) (cj rfl (cj (nf h16) (cj (nf h16) (cj (nt h18) (cj (nt h18) (cj (nt h18) (cj (nf h16) (cj (nt h18) (cj (nf h16) (cj1 (nf h19)))))))))))))))))))))))))) (fun h19 =>
   Pn.some (JnO.of [.call [] (E4 r6) [], .bit true, .bit true, .bit true, .call [] (E4 r7) [], .bit true, .bit true, .bit false, .bit false, .bit false, .call [] (E4 r8) [], .bit false, .bit false, .bit true, .bit true, .bit true, .bit false, .bit true, .bit false, .bit true, .wait 1, .mask [2], .ren []] (p := [Fn Tryz.prog 10 [(false, E3 o.Op)] (E4 r6) [],(true || ((E4 r6).nv && nvL [])) = true,r6 = true,r6 = true,r6 = true,Fn Tryz.prog 31 [(false, E9 o.Hold)] (E4 r7) [],(true || ((E4 r7).nv && nvL [])) = true,r6 = true,r6 = true,(!r7) = false,(!r7) = false,(!r7) = false,Fn Tryz.prog 10 [(false, E3 o.Op)] (E4 r8) [],(true || ((E4 r8).nv && nvL [])) = true,(!r7) = false,(!r7) = false,(!r8) = true,(!r8) = true,(!r8) = true,(!r7) = false,(!r8) = true,(!r7) = false,(!(o.Hold == (bs []))) = true]) (by kernel_rfl) (cj (spec_l11Hold_ok o.Op r6 h13) (cj rfl (cj h14 (cj h14 (cj h14 (cj (spec_HoldIdOk_ok o.Hold r7 h15) (cj rfl (cj h14 (cj h14 (cj (nf h16) (cj (nf h16) (cj (nf h16) (cj (spec_l11Hold_ok o.Op r8 h17) (cj rfl (cj (nf h16) (cj (nf h16) (cj (nt h18) (cj (nt h18) (cj (nt h18) (cj (nf h16) (cj (nt h18) (cj (nf h16) (cj1 (nt h19))))))))))))))))))))))))))))) (fun h16 =>
   Pn.some (JnO.of [.call [] (E4 r6) [], .bit true, .bit true, .bit true, .call [] (E4 r7) [], .bit true, .bit true, .bit true, .bit true, .bit true, .bit true, .bit true, .bit true, .bit true, .bit true, .wait 1, .mask [2], .ren []] (p := [Fn Tryz.prog 10 [(false, E3 o.Op)] (E4 r6) [],(true || ((E4 r6).nv && nvL [])) = true,r6 = true,r6 = true,r6 = true,Fn Tryz.prog 31 [(false, E9 o.Hold)] (E4 r7) [],(true || ((E4 r7).nv && nvL [])) = true,r6 = true,r6 = true,(!r7) = true,(!r7) = true,(!r7) = true,(!r7) = true,(!r7) = true,(!r7) = true,(!r7) = true,true = true]) (by kernel_rfl) (cj (spec_l11Hold_ok o.Op r6 h13) (cj rfl (cj h14 (cj h14 (cj h14 (cj (spec_HoldIdOk_ok o.Hold r7 h15) (cj rfl (cj h14 (cj h14 (cj (nt h16) (cj (nt h16) (cj (nt h16) (cj (nt h16) (cj (nt h16) (cj (nt h16) (cj (nt h16) (cj1 rfl))))))))))))))))))))) (fun h14 =>
   Pn.bind (fun r9 h20 =>
   Pn.ite (fun h21 =>
   Pn.some (JnO.of [.call [] (E4 r6) [], .bit false, .bit false, .bit false, .bit false, .bit false, .bit false, .bit false, .bit false, .call [] (E4 r9) [], .bit false, .bit false, .bit false, .bit false, .bit false, .bit false, .bit false, .bit false, .bit false, .mask [1], .ren [0]] (p := [Fn Tryz.prog 10 [(false, E3 o.Op)] (E4 r6) [],(true || ((E4 r6).nv && nvL [])) = true,r6 = false,r6 = false,r6 = false,r6 = false,r6 = false,false = false,false = false,false = false,Fn Tryz.prog 10 [(false, E3 o.Op)] (E4 r9) [],(true || ((E4 r9).nv && nvL [])) = true,false = false,false = false,(!r9) = false,(!r9) = false,(!r9) = false,false = false,(!r9) = false,false = false,false = false]) (by kernel_rfl) (cj (spec_l11Hold_ok o.Op r6 h13) (cj rfl (cj h14 (cj h14 (cj h14 (cj h14 (cj h14 (cj rfl (cj rfl (cj rfl (cj (spec_l11Hold_ok o.Op r9 h20) (cj rfl (cj rfl (cj rfl (cj (nf h21) (cj (nf h21) (cj (nf h21) (cj rfl (cj (nf h21) (cj rfl (cj1 rfl))))))))))))))))))))))) (fun h21 =>
   Pn.ite (fun h22 =>
   Pn.some (JnO.of [.call [] (E4 r6) [], .bit false, .bit false, .bit false, .bit false, .bit false, .bit false, .bit false, .bit false, .call [] (E4 r9) [], .bit false, .bit false, .bit true, .bit true, .bit true, .bit false, .bit true, .bit false, .bit false, .mask [1], .ren [0]] (p := [Fn Tryz.prog 10 [(false, E3 o.Op)] (E4 r6) [],(true || ((E4 r6).nv && nvL [])) = true,r6 = false,r6 = false,r6 = false,r6 = false,r6 = false,false = false,false = false,false = false,Fn Tryz.prog 10 [(false, E3 o.Op)] (E4 r9) [],(true || ((E4 r9).nv && nvL [])) = true,false = false,false = false,(!r9) = true,(!r9) = true,(!r9) = true,false = false,(!r9) = true,false = false,(!(o.Hold == (bs []))) = false]) (by kernel_rfl) (cj (spec_l11Hold_ok o.Op r6 h13) (cj rfl (cj h14 (cj h14 (cj h14 (cj h14 (cj h14 (cj rfl (cj rfl (cj rfl (cj (spec_l11Hold_ok o.Op r9 h20) (cj rfl (cj rfl (cj rfl (cj (nt h21) (cj (nt h21) (cj (nt h21) (cj rfl (cj (nt h21) (cj rfl (cj1 (nf h22)))))))))))))))))))))))) (fun h22 =>
   Pn.some (JnO.of [.call [] (E4 r6) [], .bit false, .bit false, .bit false, .bit false, .bit false, .bit false, .bit false, .bit false, .call [] (E4 r9) [], .bit false, .bit false, .bit true, .bit true, .bit true, .bit false, .bit true, .bit false, .bit true, .wait 1, .mask [2], .ren []] (p := [Fn Tryz.prog 10 [(false, E3 o.Op)] (E4 r6) [],(true || ((E4 r6).nv && nvL [])) = true,r6 = false,r6 = false,r6 = false,r6 = false,r6 = false,false = false,false = false,false = false,Fn Tryz.prog 10 [(false, E3 o.Op)] (E4 r9) [],(true || ((E4 r9).nv && nvL [])) = true,false = false,false = false,(!r9) = true,(!r9) = true,(!r9) = true,false = false,(!r9) = true,false = false,(!(o.Hold == (bs []))) = true]) (by kernel_rfl) (cj (spec_l11Hold_ok o.Op r6 h13) (cj rfl (cj h14 (cj h14 (cj h14 (cj h14 (cj h14 (cj rfl (cj rfl (cj rfl (cj (spec_l11Hold_ok o.Op r9 h20) (cj rfl (cj rfl (cj rfl (cj (nt h21) (cj (nt h21) (cj (nt h21) (cj rfl (cj (nt h21) (cj rfl (cj1 (nt h22))))))))))))))))))))))))))))
def spec_ReqOk_c2 (o : Req) : Option (Lo Unit Unit) :=
 (spec_l11Amount o.Op).bind fun r11 =>
 if r11 = true then
 (spec_l01In o.Amount 0 999999999999).bind fun r12 =>
 if r12 = true then
 (spec_l11Amount o.Op).bind fun r13 =>
 if r13 = true then
 some (.out ())
 else
 if (o.Amount != 0) = true then
 some (.ret ())
 else
 some (.out ())
 else
 some (.ret ())
 else
 (spec_l11Amount o.Op).bind fun r14 =>
 if r14 = true then
 some (.out ())
 else
 if (o.Amount != 0) = true then
 some (.ret ())
 else
 some (.out ())
theorem spec_ReqOk_c2_ok (o : Req) : Pn (JnO Tryz.prog (sub (codeOf Tryz.prog 13) [1, 1, 1, 0]) (st 110 [(1, V.ptr 0 0)] [Blk.box 23 [vI o.Op, V.sc (.string o.Acct), V.sc (.string o.Other), V.sc (.string o.Hold), V.sc (.string o.Trace), V.sc (.string o.Mti), vI o.Amount, vI o.Ttl]] []) (fun (y : Lo Unit Unit) => Lo.elim y (fun s => (X.go, st 110 [(1, V.ptr 0 0)] [Blk.box 23 [vI o.Op, V.sc (.string o.Acct), V.sc (.string o.Other), V.sc (.string o.Hold), V.sc (.string o.Trace), V.sc (.string o.Mti), vI o.Amount, vI o.Ttl]] [])) (fun s => (X.ret, st 110 [(2, V.sc (.bool false))] [] [])))) (spec_ReqOk_c2 o) := by
  unfold spec_ReqOk_c2
  exact
   Pn.bind (fun r11 h26 =>
   Pn.ite (fun h27 =>
   Pn.bind (fun r12 h28 =>
   Pn.ite (fun h29 =>
   Pn.bind (fun r13 h30 =>
   Pn.ite (fun h31 =>
   Pn.some (JnO.of [.call [] (E4 r11) [], .bit true, .bit true, .bit true, .call [] (E4 r12) [], .bit true, .bit true, .bit false, .bit false, .bit false, .call [] (E4 r13) [], .bit false, .bit false, .bit false, .bit false, .bit false, .bit false, .bit false, .bit false, .bit false, .mask [1], .ren [0]] (p := [Fn Tryz.prog 11 [(false, E3 o.Op)] (E4 r11) [],(true || ((E4 r11).nv && nvL [])) = true,r11 = true,r11 = true,r11 = true,Fn Tryz.prog 27 [(false, E3 o.Amount), (false, E3 0), (false, E3 999999999999)] (E4 r12) [],(true || ((E4 r12).nv && nvL [])) = true,r11 = true,r11 = true,(!r12) = false,(!r12) = false,(!r12) = false,Fn Tryz.prog 11 [(false, E3 o.Op)] (E4 r13) [],(true || ((E4 r13).nv && nvL [])) = true,(!r12) = false,(!r12) = false,(!r13) = false,(!r13) = false,(!r13) = false,(!r12) = false,(!r13) = false,(!r12) = false,false = false]) (by kernel_rfl) (cj (spec_l11Amount_ok o.Op r11 h26) (cj rfl (cj h27 (cj h27 (cj h27 (cj (spec_l01In_ok o.Amount 0 999999999999 r12 h28) (cj rfl (cj h27 (cj h27 (cj (nf h29) (cj (nf h29) (cj (nf h29) (cj (spec_l11Amount_ok o.Op r13 h30) (cj rfl (cj (nf h29) (cj (nf h29) (cj (nf h31) (cj (nf h31) (cj (nf h31) (cj (nf h29) (cj (nf h31) (cj (nf h29) (cj1 rfl))))))))))))))))))))))))) (fun h31 =>
   Pn.ite (fun h32 =>
   Pn.some (JnO.of [.call [] (E4 r11) [], .bit true, .bit true, .bit true, .call [] (E4 r12) [], .bit true, .bit true, .bit false, .bit false, .bit false, .call [] (E4 r13) [], .bit false, .bit false, .bit true, .bit true, .bit true, .bit false, .bit true, .bit false, .bit true, .wait 1, .mask [2], .ren []] (p := [Fn Tryz.prog 11 [(false, E3 o.Op)] (E4 r11) [],(true || ((E4 r11).nv && nvL [])) = true,r11 = true,r11 = true,r11 = true,Fn Tryz.prog 27 [(false, E3 o.Amount), (false, E3 0), (false, E3 999999999999)] (E4 r12) [],(true || ((E4 r12).nv && nvL [])) = true,r11 = true,r11 = true,(!r12) = false,(!r12) = false,(!r12) = false,Fn Tryz.prog 11 [(false, E3 o.Op)] (E4 r13) [],(true || ((E4 r13).nv && nvL [])) = true,(!r12) = false,(!r12) = false,(!r13) = true,(!r13) = true,(!r13) = true,(!r12) = false,(!r13) = true,(!r12) = false,(o.Amount != 0) = true]) (by kernel_rfl) (cj (spec_l11Amount_ok o.Op r11 h26) (cj rfl (cj h27 (cj h27 (cj h27 (cj (spec_l01In_ok o.Amount 0 999999999999 r12 h28) (cj rfl (cj h27 (cj h27 (cj (nf h29) (cj (nf h29) (cj (nf h29) (cj (spec_l11Amount_ok o.Op r13 h30) (cj rfl (cj (nf h29) (cj (nf h29) (cj (nt h31) (cj (nt h31) (cj (nt h31) (cj (nf h29) (cj (nt h31) (cj (nf h29) (cj1 h32))))))))))))))))))))))))) (fun h32 =>
   Pn.some (JnO.of [.call [] (E4 r11) [], .bit true, .bit true, .bit true, .call [] (E4 r12) [], .bit true, .bit true, .bit false, .bit false, .bit false, .call [] (E4 r13) [], .bit false, .bit false, .bit true, .bit true, .bit true, .bit false, .bit true, .bit false, .bit false, .mask [1], .ren [0]] (p := [Fn Tryz.prog 11 [(false, E3 o.Op)] (E4 r11) [],(true || ((E4 r11).nv && nvL [])) = true,r11 = true,r11 = true,r11 = true,Fn Tryz.prog 27 [(false, E3 o.Amount), (false, E3 0), (false, E3 999999999999)] (E4 r12) [],(true || ((E4 r12).nv && nvL [])) = true,r11 = true,r11 = true,(!r12) = false,(!r12) = false,(!r12) = false,Fn Tryz.prog 11 [(false, E3 o.Op)] (E4 r13) [],(true || ((E4 r13).nv && nvL [])) = true,(!r12) = false,(!r12) = false,(!r13) = true,(!r13) = true,(!r13) = true,(!r12) = false,(!r13) = true,(!r12) = false,(o.Amount != 0) = false]) (by kernel_rfl) (cj (spec_l11Amount_ok o.Op r11 h26) (cj rfl (cj h27 (cj h27 (cj h27 (cj (spec_l01In_ok o.Amount 0 999999999999 r12 h28) (cj rfl (cj h27 (cj h27 (cj (nf h29) (cj (nf h29) (cj (nf h29) (cj (spec_l11Amount_ok o.Op r13 h30) (cj rfl (cj (nf h29) (cj (nf h29) (cj (nt h31) (cj (nt h31) (cj (nt h31) (cj (nf h29) (cj (nt h31) (cj (nf h29) (cj1 h32)))))))))))))))))))))))))))) (fun h29 =>
   Pn.some (JnO.of [.call [] (E4 r11) [], .bit true, .bit true, .bit true, .call [] (E4 r12) [], .bit true, .bit true, .bit true, .bit true, .bit true, .bit true, .bit true, .bit true, .bit true, .bit true, .wait 1, .mask [2], .ren []] (p := [Fn Tryz.prog 11 [(false, E3 o.Op)] (E4 r11) [],(true || ((E4 r11).nv && nvL [])) = true,r11 = true,r11 = true,r11 = true,Fn Tryz.prog 27 [(false, E3 o.Amount), (false, E3 0), (false, E3 999999999999)] (E4 r12) [],(true || ((E4 r12).nv && nvL [])) = true,r11 = true,r11 = true,(!r12) = true,(!r12) = true,(!r12) = true,(!r12) = true,(!r12) = true,(!r12) = true,(!r12) = true,true = true]) (by kernel_rfl) (cj (spec_l11Amount_ok o.Op r11 h26) (cj rfl (cj h27 (cj h27 (cj h27 (cj (spec_l01In_ok o.Amount 0 999999999999 r12 h28) (cj rfl (cj h27 (cj h27 (cj (nt h29) (cj (nt h29) (cj (nt h29) (cj (nt h29) (cj (nt h29) (cj (nt h29) (cj (nt h29) (cj1 rfl))))))))))))))))))))) (fun h27 =>
   Pn.bind (fun r14 h33 =>
   Pn.ite (fun h34 =>
   Pn.some (JnO.of [.call [] (E4 r11) [], .bit false, .bit false, .bit false, .bit false, .bit false, .bit false, .bit false, .bit false, .call [] (E4 r14) [], .bit false, .bit false, .bit false, .bit false, .bit false, .bit false, .bit false, .bit false, .bit false, .mask [1], .ren [0]] (p := [Fn Tryz.prog 11 [(false, E3 o.Op)] (E4 r11) [],(true || ((E4 r11).nv && nvL [])) = true,r11 = false,r11 = false,r11 = false,r11 = false,r11 = false,false = false,false = false,false = false,Fn Tryz.prog 11 [(false, E3 o.Op)] (E4 r14) [],(true || ((E4 r14).nv && nvL [])) = true,false = false,false = false,(!r14) = false,(!r14) = false,(!r14) = false,false = false,(!r14) = false,false = false,false = false]) (by kernel_rfl) (cj (spec_l11Amount_ok o.Op r11 h26) (cj rfl (cj h27 (cj h27 (cj h27 (cj h27 (cj h27 (cj rfl (cj rfl (cj rfl (cj (spec_l11Amount_ok o.Op r14 h33) (cj rfl (cj rfl (cj rfl (cj (nf h34) (cj (nf h34) (cj (nf h34) (cj rfl (cj (nf h34) (cj rfl (cj1 rfl))))))))))))))))))))))) (fun h34 =>
   Pn.ite (fun h35 =>
   Pn.some (JnO.of [.call [] (E4 r11) [], .bit false, .bit false, .bit false, .bit false, .bit false, .bit false, .bit false, .bit false, .call [] (E4 r14) [], .bit false, .bit false, .bit true, .bit true, .bit true, .bit false, .bit true, .bit false, .bit true, .wait 1, .mask [2], .ren []] (p := [Fn Tryz.prog 11 [(false, E3 o.Op)] (E4 r11) [],(true || ((E4 r11).nv && nvL [])) = true,r11 = false,r11 = false,r11 = false,r11 = false,r11 = false,false = false,false = false,false = false,Fn Tryz.prog 11 [(false, E3 o.Op)] (E4 r14) [],(true || ((E4 r14).nv && nvL [])) = true,false = false,false = false,(!r14) = true,(!r14) = true,(!r14) = true,false = false,(!r14) = true,false = false,(o.Amount != 0) = true]) (by kernel_rfl) (cj (spec_l11Amount_ok o.Op r11 h26) (cj rfl (cj h27 (cj h27 (cj h27 (cj h27 (cj h27 (cj rfl (cj rfl (cj rfl (cj (spec_l11Amount_ok o.Op r14 h33) (cj rfl (cj rfl (cj rfl (cj (nt h34) (cj (nt h34) (cj (nt h34) (cj rfl (cj (nt h34) (cj rfl (cj1 h35))))))))))))))))))))))) (fun h35 =>
   Pn.some (JnO.of [.call [] (E4 r11) [], .bit false, .bit false, .bit false, .bit false, .bit false, .bit false, .bit false, .bit false, .call [] (E4 r14) [], .bit false, .bit false, .bit true, .bit true, .bit true, .bit false, .bit true, .bit false, .bit false, .mask [1], .ren [0]] (p := [Fn Tryz.prog 11 [(false, E3 o.Op)] (E4 r11) [],(true || ((E4 r11).nv && nvL [])) = true,r11 = false,r11 = false,r11 = false,r11 = false,r11 = false,false = false,false = false,false = false,Fn Tryz.prog 11 [(false, E3 o.Op)] (E4 r14) [],(true || ((E4 r14).nv && nvL [])) = true,false = false,false = false,(!r14) = true,(!r14) = true,(!r14) = true,false = false,(!r14) = true,false = false,(o.Amount != 0) = false]) (by kernel_rfl) (cj (spec_l11Amount_ok o.Op r11 h26) (cj rfl (cj h27 (cj h27 (cj h27 (cj h27 (cj h27 (cj rfl (cj rfl (cj rfl (cj (spec_l11Amount_ok o.Op r14 h33) (cj rfl (cj rfl (cj rfl (cj (nt h34) (cj (nt h34) (cj (nt h34) (cj rfl (cj (nt h34) (cj rfl (cj1 h35)))))))))))))))))))))))))))
def spec_ReqOk_c3 (o : Req) : Option (Lo Unit Unit) :=
 if (o.Op == 1) = true then
 (spec_l01In o.Ttl 0 9999).bind fun r16 =>
 if r16 = true then
 if (o.Op != 1) = true then
 if (o.Ttl != 0) = true then
 some (.ret ())
 else
 some (.out ())
 else
 some (.out ())
 else
 some (.ret ())
 else
 if (o.Op != 1) = true then
 if (o.Ttl != 0) = true then
 some (.ret ())
 else
 some (.out ())
 else
 some (.out ())
theorem spec_ReqOk_c3_ok (o : Req) : Pn (JnO Tryz.prog (sub (codeOf Tryz.prog 13) [1, 1, 1, 1, 0]) (st 110 [(1, V.ptr 0 0)] [Blk.box 23 [vI o.Op, V.sc (.string o.Acct), V.sc (.string o.Other), V.sc (.string o.Hold), V.sc (.string o.Trace), V.sc (.string o.Mti), vI o.Amount, vI o.Ttl]] []) (fun (y : Lo Unit Unit) => Lo.elim y (fun s => (X.go, st 110 [(1, V.ptr 0 0)] [Blk.box 23 [vI o.Op, V.sc (.string o.Acct), V.sc (.string o.Other), V.sc (.string o.Hold), V.sc (.string o.Trace), V.sc (.string o.Mti), vI o.Amount, vI o.Ttl]] [])) (fun s => (X.ret, st 110 [(2, V.sc (.bool false))] [] [])))) (spec_ReqOk_c3 o) := by
  unfold spec_ReqOk_c3
  exact
   Pn.ite (fun h39 =>
   Pn.bind (fun r16 h40 =>
   Pn.ite (fun h41 =>
   Pn.ite (fun h42 =>
   Pn.ite (fun h43 =>
   Pn.some (JnO.of [.bit true, .bit true, .bit true, .call [] (E4 r16) [], .bit true, .bit true, .bit false, .bit false, .bit false, .bit false, .bit true, .bit true, .bit true, .bit false, .bit true, .bit false, .bit true, .wait 1, .mask [2], .ren []] (p := [(o.Op == 1) = true,(o.Op == 1) = true,(o.Op == 1) = true,Fn Tryz.prog 27 [(false, E3 o.Ttl), (false, E3 0), (false, E3 9999)] (E4 r16) [],(true || ((E4 r16).nv && nvL [])) = true,(o.Op == 1) = true,(o.Op == 1) = true,(!r16) = false,(!r16) = false,(!r16) = false,(!r16) = false,(o.Op != 1) = true,(o.Op != 1) = true,(o.Op != 1) = true,(!r16) = false,(o.Op != 1) = true,(!r16) = false,(o.Ttl != 0) = true]) (by kernel_rfl) (cj h39 (cj h39 (cj h39 (cj (spec_l01In_ok o.Ttl 0 9999 r16 h40) (cj rfl (cj h39 (cj h39 (cj (nf h41) (cj (nf h41) (cj (nf h41) (cj (nf h41) (cj h42 (cj h42 (cj h42 (cj (nf h41) (cj h42 (cj (nf h41) (cj1 h43)))))))))))))))))))) (fun h43 =>
   Pn.some (JnO.of [.bit true, .bit true, .bit true, .call [] (E4 r16) [], .bit true, .bit true, .bit false, .bit false, .bit false, .bit false, .bit true, .bit true, .bit true, .bit false, .bit true, .bit false, .bit false, .mask [1], .ren [0]] (p := [(o.Op == 1) = true,(o.Op == 1) = true,(o.Op == 1) = true,Fn Tryz.prog 27 [(false, E3 o.Ttl), (false, E3 0), (false, E3 9999)] (E4 r16) [],(true || ((E4 r16).nv && nvL [])) = true,(o.Op == 1) = true,(o.Op == 1) = true,(!r16) = false,(!r16) = false,(!r16) = false,(!r16) = false,(o.Op != 1) = true,(o.Op != 1) = true,(o.Op != 1) = true,(!r16) = false,(o.Op != 1) = true,(!r16) = false,(o.Ttl != 0) = false]) (by kernel_rfl) (cj h39 (cj h39 (cj h39 (cj (spec_l01In_ok o.Ttl 0 9999 r16 h40) (cj rfl (cj h39 (cj h39 (cj (nf h41) (cj (nf h41) (cj (nf h41) (cj (nf h41) (cj h42 (cj h42 (cj h42 (cj (nf h41) (cj h42 (cj (nf h41) (cj1 h43))))))))))))))))))))) (fun h42 =>
   Pn.some (JnO.of [.bit true, .bit true, .bit true, .call [] (E4 r16) [], .bit true, .bit true, .bit false, .bit false, .bit false, .bit false, .bit false, .bit false, .bit false, .bit false, .bit false, .bit false, .bit false, .mask [1], .ren [0]] (p := [(o.Op == 1) = true,(o.Op == 1) = true,(o.Op == 1) = true,Fn Tryz.prog 27 [(false, E3 o.Ttl), (false, E3 0), (false, E3 9999)] (E4 r16) [],(true || ((E4 r16).nv && nvL [])) = true,(o.Op == 1) = true,(o.Op == 1) = true,(!r16) = false,(!r16) = false,(!r16) = false,(!r16) = false,(o.Op != 1) = false,(o.Op != 1) = false,(o.Op != 1) = false,(!r16) = false,(o.Op != 1) = false,(!r16) = false,false = false]) (by kernel_rfl) (cj h39 (cj h39 (cj h39 (cj (spec_l01In_ok o.Ttl 0 9999 r16 h40) (cj rfl (cj h39 (cj h39 (cj (nf h41) (cj (nf h41) (cj (nf h41) (cj (nf h41) (cj h42 (cj h42 (cj h42 (cj (nf h41) (cj h42 (cj (nf h41) (cj1 rfl))))))))))))))))))))) (fun h41 =>
   Pn.some (JnO.of [.bit true, .bit true, .bit true, .call [] (E4 r16) [], .bit true, .bit true, .bit true, .bit true, .bit true, .bit true, .bit true, .bit true, .bit true, .wait 1, .mask [2], .ren []] (p := [(o.Op == 1) = true,(o.Op == 1) = true,(o.Op == 1) = true,Fn Tryz.prog 27 [(false, E3 o.Ttl), (false, E3 0), (false, E3 9999)] (E4 r16) [],(true || ((E4 r16).nv && nvL [])) = true,(o.Op == 1) = true,(o.Op == 1) = true,(!r16) = true,(!r16) = true,(!r16) = true,(!r16) = true,(!r16) = true,(!r16) = true,true = true]) (by kernel_rfl) (cj h39 (cj h39 (cj h39 (cj (spec_l01In_ok o.Ttl 0 9999 r16 h40) (cj rfl (cj h39 (cj h39 (cj (nt h41) (cj (nt h41) (cj (nt h41) (cj (nt h41) (cj (nt h41) (cj (nt h41) (cj1 rfl)))))))))))))))))) (fun h39 =>
   Pn.ite (fun h44 =>
   Pn.ite (fun h45 =>
   Pn.some (JnO.of [.bit false, .bit false, .bit false, .bit false, .bit false, .bit false, .bit false, .bit false, .bit false, .bit true, .bit true, .bit true, .bit false, .bit true, .bit false, .bit true, .wait 1, .mask [2], .ren []] (p := [(o.Op == 1) = false,(o.Op == 1) = false,(o.Op == 1) = false,(o.Op == 1) = false,(o.Op == 1) = false,false = false,false = false,false = false,false = false,(o.Op != 1) = true,(o.Op != 1) = true,(o.Op != 1) = true,false = false,(o.Op != 1) = true,false = false,(o.Ttl != 0) = true]) (by kernel_rfl) (cj h39 (cj h39 (cj h39 (cj h39 (cj h39 (cj rfl (cj rfl (cj rfl (cj rfl (cj h44 (cj h44 (cj h44 (cj rfl (cj h44 (cj rfl (cj1 h45)))))))))))))))))) (fun h45 =>
   Pn.some (JnO.of [.bit false, .bit false, .bit false, .bit false, .bit false, .bit false, .bit false, .bit false, .bit false, .bit true, .bit true, .bit true, .bit false, .bit true, .bit false, .bit false, .mask [1], .ren [0]] (p := [(o.Op == 1) = false,(o.Op == 1) = false,(o.Op == 1) = false,(o.Op == 1) = false,(o.Op == 1) = false,false = false,false = false,false = false,false = false,(o.Op != 1) = true,(o.Op != 1) = true,(o.Op != 1) = true,false = false,(o.Op != 1) = true,false = false,(o.Ttl != 0) = false]) (by kernel_rfl) (cj h39 (cj h39 (cj h39 (cj h39 (cj h39 (cj rfl (cj rfl (cj rfl (cj rfl (cj h44 (cj h44 (cj h44 (cj rfl (cj h44 (cj rfl (cj1 h45))))))))))))))))))) (fun h44 =>
   Pn.some (JnO.of [.bit false, .bit false, .bit false, .bit false, .bit false, .bit false, .bit false, .bit false, .bit false, .bit false, .bit false, .bit false, .bit false, .bit false, .bit false, .bit false, .mask [1], .ren [0]] (p := [(o.Op == 1) = false,(o.Op == 1) = false,(o.Op == 1) = false,(o.Op == 1) = false,(o.Op == 1) = false,false = false,false = false,false = false,false = false,(o.Op != 1) = false,(o.Op != 1) = false,(o.Op != 1) = false,false = false,(o.Op != 1) = false,false = false,false = false]) (by kernel_rfl) (cj h39 (cj h39 (cj h39 (cj h39 (cj h39 (cj rfl (cj rfl (cj rfl (cj rfl (cj h44 (cj h44 (cj h44 (cj rfl (cj h44 (cj rfl (cj1 rfl)))))))))))))))))))
def spec_ReqOk (o : Req) : Option (Bool) :=
 (spec_ReqOk_c0 o).bind fun r5 =>
 Lo.elim r5 (fun s1 =>
 (spec_ReqOk_c1 o).bind fun r10 =>
 Lo.elim r10 (fun s3 =>
 (spec_ReqOk_c2 o).bind fun r15 =>
 Lo.elim r15 (fun s5 =>
 (spec_ReqOk_c3 o).bind fun r17 =>
 Lo.elim r17 (fun s7 =>
 if (o.Op == 6) = true then
 (spec_AcctIdOk o.Other).bind fun r18 =>
 if r18 = true then
 some true
 else
 if (o.Op != 6) = true then
 some (o.Other == (bs []))
 else
 some false
 else
 if (o.Op != 6) = true then
 some (o.Other == (bs []))
 else
 some false) (fun s8 =>
 some false)) (fun s6 =>
 some false)) (fun s4 =>
 some false)) (fun s2 =>
 some false)
theorem spec_ReqOk_ok (o : Req) : Pn (fun y => Fn Tryz.prog 13 [(false, E23 o)] (E4 y) []) (spec_ReqOk o) := by
  unfold spec_ReqOk
  exact
   Pn.bind (fun r5 h10 =>
   Pn.lo (fun s1 h11 =>
   Pn.bind (fun r10 h23 =>
   Pn.lo (fun s3 h24 =>
   Pn.bind (fun r15 h36 =>
   Pn.lo (fun s5 h37 =>
   Pn.bind (fun r17 h46 =>
   Pn.lo (fun s7 h47 =>
   Pn.ite (fun h49 =>
   Pn.bind (fun r18 h50 =>
   Pn.ite (fun h51 =>
   Pn.some (Fn.of [.wait 3, .mask [1], .ren [0], .join 7 (X.go) (st 110 [(1, V.ptr 0 0)] [Blk.box 23 [vI o.Op, V.sc (.string o.Acct), V.sc (.string o.Other), V.sc (.string o.Hold), V.sc (.string o.Trace), V.sc (.string o.Mti), vI o.Amount, vI o.Ttl]] []), .wait 1, .mask [1], .ren [0], .join 7 (X.go) (st 110 [(1, V.ptr 0 0)] [Blk.box 23 [vI o.Op, V.sc (.string o.Acct), V.sc (.string o.Other), V.sc (.string o.Hold), V.sc (.string o.Trace), V.sc (.string o.Mti), vI o.Amount, vI o.Ttl]] []), .wait 1, .mask [1], .ren [0], .join 7 (X.go) (st 110 [(1, V.ptr 0 0)] [Blk.box 23 [vI o.Op, V.sc (.string o.Acct), V.sc (.string o.Other), V.sc (.string o.Hold), V.sc (.string o.Trace), V.sc (.string o.Mti), vI o.Amount, vI o.Ttl]] []), .wait 1, .mask [1], .ren [0], .join 7 (X.go) (st 110 [(1, V.ptr 0 0)] [Blk.box 23 [vI o.Op, V.sc (.string o.Acct), V.sc (.string o.Other), V.sc (.string o.Hold), V.sc (.string o.Trace), V.sc (.string o.Mti), vI o.Amount, vI o.Ttl]] []), .bit true, .bit true, .bit true, .call [] (E4 r18) [], .bit true, .bit true, .bit true, .bit true, .bit true, .bit true, .bit true] (p := [HT Tryz.prog (sub (codeOf Tryz.prog 13) [1, 0]) (st 110 [(1, V.ptr 0 0)] [Blk.box 23 [vI o.Op, V.sc (.string o.Acct), V.sc (.string o.Other), V.sc (.string o.Hold), V.sc (.string o.Trace), V.sc (.string o.Mti), vI o.Amount, vI o.Ttl]] []) (X.go) (st 110 [(1, V.ptr 0 0)] [Blk.box 23 [vI o.Op, V.sc (.string o.Acct), V.sc (.string o.Other), V.sc (.string o.Hold), V.sc (.string o.Trace), V.sc (.string o.Mti), vI o.Amount, vI o.Ttl]] []),HT Tryz.prog (sub (codeOf Tryz.prog 13) [1, 1, 0]) (st 110 [(1, V.ptr 0 0)] [Blk.box 23 [vI o.Op, V.sc (.string o.Acct), V.sc (.string o.Other), V.sc (.string o.Hold), V.sc (.string o.Trace), V.sc (.string o.Mti), vI o.Amount, vI o.Ttl]] []) (X.go) (st 110 [(1, V.ptr 0 0)] [Blk.box 23 [vI o.Op, V.sc (.string o.Acct), V.sc (.string o.Other), V.sc (.string o.Hold), V.sc (.string o.Trace), V.sc (.string o.Mti), vI o.Amount, vI o.Ttl]] []),HT Tryz.prog (sub (codeOf Tryz.prog 13) [1, 1, 1, 0]) (st 110 [(1, V.ptr 0 0)] [Blk.box 23 [vI o.Op, V.sc (.string o.Acct), V.sc (.string o.Other), V.sc (.string o.Hold), V.sc (.string o.Trace), V.sc (.string o.Mti), vI o.Amount, vI o.Ttl]] []) (X.go) (st 110 [(1, V.ptr 0 0)] [Blk.box 23 [vI o.Op, V.sc (.string o.Acct), V.sc (.string o.Other), V.sc (.string o.Hold), V.sc (.string o.Trace), V.sc (.string o.Mti), vI o.Amount, vI o.Ttl]] []),HT Tryz.prog (sub (codeOf Tryz.prog 13) [1, 1, 1, 1, 0]) (st 110 [(1, V.ptr 0 0)] [Blk.box 23 [vI o.Op, V.sc (.string o.Acct), V.sc (.string o.Other), V.sc (.string o.Hold), V.sc (.string o.Trace), V.sc (.string o.Mti), vI o.Amount, vI o.Ttl]] []) (X.go) (st 110 [(1, V.ptr 0 0)] [Blk.box 23 [vI o.Op, V.sc (.string o.Acct), V.sc (.string o.Other), V.sc (.string o.Hold), V.sc (.string o.Trace), V.sc (.string o.Mti), vI o.Amount, vI o.Ttl]] []),(o.Op == 6) = true,(o.Op == 6) = true,(o.Op == 6) = true,Fn Tryz.prog 30 [(false, E9 o.Other)] (E4 r18) [],(true || ((E4 r18).nv && nvL [])) = true,(o.Op == 6) = true,r18 = true,r18 = true,r18 = true,r18 = true,r18 = true,r18 = true]) (by kernel_rfl) (cj ((spec_ReqOk_c0_ok o r5 h10).at h11 :) (cj ((spec_ReqOk_c1_ok o r10 h23).at h24 :) (cj ((spec_ReqOk_c2_ok o r15 h36).at h37 :) (cj ((spec_ReqOk_c3_ok o r17 h46).at h47 :) (cj h49 (cj h49 (cj h49 (cj (spec_AcctIdOk_ok o.Other r18 h50) (cj rfl (cj h49 (cj h51 (cj h51 (cj h51 (cj h51 (cj h51 (cj1 h51)))))))))))))))))) (fun h51 =>
   Pn.ite (fun h52 =>
   Pn.some (Fn.of [.wait 3, .mask [1], .ren [0], .join 7 (X.go) (st 110 [(1, V.ptr 0 0)] [Blk.box 23 [vI o.Op, V.sc (.string o.Acct), V.sc (.string o.Other), V.sc (.string o.Hold), V.sc (.string o.Trace), V.sc (.string o.Mti), vI o.Amount, vI o.Ttl]] []), .wait 1, .mask [1], .ren [0], .join 7 (X.go) (st 110 [(1, V.ptr 0 0)] [Blk.box 23 [vI o.Op, V.sc (.string o.Acct), V.sc (.string o.Other), V.sc (.string o.Hold), V.sc (.string o.Trace), V.sc (.string o.Mti), vI o.Amount, vI o.Ttl]] []), .wait 1, .mask [1], .ren [0], .join 7 (X.go) (st 110 [(1, V.ptr 0 0)] [Blk.box 23 [vI o.Op, V.sc (.string o.Acct), V.sc (.string o.Other), V.sc (.string o.Hold), V.sc (.string o.Trace), V.sc (.string o.Mti), vI o.Amount, vI o.Ttl]] []), .wait 1, .mask [1], .ren [0], .join 7 (X.go) (st 110 [(1, V.ptr 0 0)] [Blk.box 23 [vI o.Op, V.sc (.string o.Acct), V.sc (.string o.Other), V.sc (.string o.Hold), V.sc (.string o.Trace), V.sc (.string o.Mti), vI o.Amount, vI o.Ttl]] []), .bit true, .bit true, .bit true, .call [] (E4 r18) [], .bit true, .bit false, .bit false, .bit false, .bit false, .bit true, .bit true, .bit true, .bit false, .bit true, .bit false] (p := [HT Tryz.prog (sub (codeOf Tryz.prog 13) [1, 0]) (st 110 [(1, V.ptr 0 0)] [Blk.box 23 [vI o.Op, V.sc (.string o.Acct), V.sc (.string o.Other), V.sc (.string o.Hold), V.sc (.string o.Trace), V.sc (.string o.Mti), vI o.Amount, vI o.Ttl]] []) (X.go) (st 110 [(1, V.ptr 0 0)] [Blk.box 23 [vI o.Op, V.sc (.string o.Acct), V.sc (.string o.Other), V.sc (.string o.Hold), V.sc (.string o.Trace), V.sc (.string o.Mti), vI o.Amount, vI o.Ttl]] []),HT Tryz.prog (sub (codeOf Tryz.prog 13) [1, 1, 0]) (st 110 [(1, V.ptr 0 0)] [Blk.box 23 [vI o.Op, V.sc (.string o.Acct), V.sc (.string o.Other), V.sc (.string o.Hold), V.sc (.string o.Trace), V.sc (.string o.Mti), vI o.Amount, vI o.Ttl]] []) (X.go) (st 110 [(1, V.ptr 0 0)] [Blk.box 23 [vI o.Op, V.sc (.string o.Acct), V.sc (.string o.Other), V.sc (.string o.Hold), V.sc (.string o.Trace), V.sc (.string o.Mti), vI o.Amount, vI o.Ttl]] []),HT Tryz.prog (sub (codeOf Tryz.prog 13) [1, 1, 1, 0]) (st 110 [(1, V.ptr 0 0)] [Blk.box 23 [vI o.Op, V.sc (.string o.Acct), V.sc (.string o.Other), V.sc (.string o.Hold), V.sc (.string o.Trace), V.sc (.string o.Mti), vI o.Amount, vI o.Ttl]] []) (X.go) (st 110 [(1, V.ptr 0 0)] [Blk.box 23 [vI o.Op, V.sc (.string o.Acct), V.sc (.string o.Other), V.sc (.string o.Hold), V.sc (.string o.Trace), V.sc (.string o.Mti), vI o.Amount, vI o.Ttl]] []),HT Tryz.prog (sub (codeOf Tryz.prog 13) [1, 1, 1, 1, 0]) (st 110 [(1, V.ptr 0 0)] [Blk.box 23 [vI o.Op, V.sc (.string o.Acct), V.sc (.string o.Other), V.sc (.string o.Hold), V.sc (.string o.Trace), V.sc (.string o.Mti), vI o.Amount, vI o.Ttl]] []) (X.go) (st 110 [(1, V.ptr 0 0)] [Blk.box 23 [vI o.Op, V.sc (.string o.Acct), V.sc (.string o.Other), V.sc (.string o.Hold), V.sc (.string o.Trace), V.sc (.string o.Mti), vI o.Amount, vI o.Ttl]] []),(o.Op == 6) = true,(o.Op == 6) = true,(o.Op == 6) = true,Fn Tryz.prog 30 [(false, E9 o.Other)] (E4 r18) [],(true || ((E4 r18).nv && nvL [])) = true,(o.Op == 6) = true,r18 = false,r18 = false,r18 = false,r18 = false,(o.Op != 6) = true,(o.Op != 6) = true,(o.Op != 6) = true,r18 = false,(o.Op != 6) = true,r18 = false]) (by kernel_rfl) (cj ((spec_ReqOk_c0_ok o r5 h10).at h11 :) (cj ((spec_ReqOk_c1_ok o r10 h23).at h24 :) (cj ((spec_ReqOk_c2_ok o r15 h36).at h37 :) (cj ((spec_ReqOk_c3_ok o r17 h46).at h47 :) (cj h49 (cj h49 (cj h49 (cj (spec_AcctIdOk_ok o.Other r18 h50) (cj rfl (cj h49 (cj h51 (cj h51 (cj h51 (cj h51 (cj h52 (cj h52 (cj h52 (cj h51 (cj h52 (cj1 h51)))))))))))))))))))))) (fun h52 =>
   Pn.some (Fn.of [.wait 3, .mask [1], .ren [0], .join 7 (X.go) (st 110 [(1, V.ptr 0 0)] [Blk.box 23 [vI o.Op, V.sc (.string o.Acct), V.sc (.string o.Other), V.sc (.string o.Hold), V.sc (.string o.Trace), V.sc (.string o.Mti), vI o.Amount, vI o.Ttl]] []), .wait 1, .mask [1], .ren [0], .join 7 (X.go) (st 110 [(1, V.ptr 0 0)] [Blk.box 23 [vI o.Op, V.sc (.string o.Acct), V.sc (.string o.Other), V.sc (.string o.Hold), V.sc (.string o.Trace), V.sc (.string o.Mti), vI o.Amount, vI o.Ttl]] []), .wait 1, .mask [1], .ren [0], .join 7 (X.go) (st 110 [(1, V.ptr 0 0)] [Blk.box 23 [vI o.Op, V.sc (.string o.Acct), V.sc (.string o.Other), V.sc (.string o.Hold), V.sc (.string o.Trace), V.sc (.string o.Mti), vI o.Amount, vI o.Ttl]] []), .wait 1, .mask [1], .ren [0], .join 7 (X.go) (st 110 [(1, V.ptr 0 0)] [Blk.box 23 [vI o.Op, V.sc (.string o.Acct), V.sc (.string o.Other), V.sc (.string o.Hold), V.sc (.string o.Trace), V.sc (.string o.Mti), vI o.Amount, vI o.Ttl]] []), .bit true, .bit true, .bit true, .call [] (E4 r18) [], .bit true, .bit false, .bit false, .bit false, .bit false, .bit false, .bit false, .bit false, .bit false, .bit false, .bit false] (p := [HT Tryz.prog (sub (codeOf Tryz.prog 13) [1, 0]) (st 110 [(1, V.ptr 0 0)] [Blk.box 23 [vI o.Op, V.sc (.string o.Acct), V.sc (.string o.Other), V.sc (.string o.Hold), V.sc (.string o.Trace), V.sc (.string o.Mti), vI o.Amount, vI o.Ttl]] []) (X.go) (st 110 [(1, V.ptr 0 0)] [Blk.box 23 [vI o.Op, V.sc (.string o.Acct), V.sc (.string o.Other), V.sc (.string o.Hold), V.sc (.string o.Trace), V.sc (.string o.Mti), vI o.Amount, vI o.Ttl]] []),HT Tryz.prog (sub (codeOf Tryz.prog 13) [1, 1, 0]) (st 110 [(1, V.ptr 0 0)] [Blk.box 23 [vI o.Op, V.sc (.string o.Acct), V.sc (.string o.Other), V.sc (.string o.Hold), V.sc (.string o.Trace), V.sc (.string o.Mti), vI o.Amount, vI o.Ttl]] []) (X.go) (st 110 [(1, V.ptr 0 0)] [Blk.box 23 [vI o.Op, V.sc (.string o.Acct), V.sc (.string o.Other), V.sc (.string o.Hold), V.sc (.string o.Trace), V.sc (.string o.Mti), vI o.Amount, vI o.Ttl]] []),HT Tryz.prog (sub (codeOf Tryz.prog 13) [1, 1, 1, 0]) (st 110 [(1, V.ptr 0 0)] [Blk.box 23 [vI o.Op, V.sc (.string o.Acct), V.sc (.string o.Other), V.sc (.string o.Hold), V.sc (.string o.Trace), V.sc (.string o.Mti), vI o.Amount, vI o.Ttl]] []) (X.go) (st 110 [(1, V.ptr 0 0)] [Blk.box 23 [vI o.Op, V.sc (.string o.Acct), V.sc (.string o.Other), V.sc (.string o.Hold), V.sc (.string o.Trace), V.sc (.string o.Mti), vI o.Amount, vI o.Ttl]] []),HT Tryz.prog (sub (codeOf Tryz.prog 13) [1, 1, 1, 1, 0]) (st 110 [(1, V.ptr 0 0)] [Blk.box 23 [vI o.Op, V.sc (.string o.Acct), V.sc (.string o.Other), V.sc (.string o.Hold), V.sc (.string o.Trace), V.sc (.string o.Mti), vI o.Amount, vI o.Ttl]] []) (X.go) (st 110 [(1, V.ptr 0 0)] [Blk.box 23 [vI o.Op, V.sc (.string o.Acct), V.sc (.string o.Other), V.sc (.string o.Hold), V.sc (.string o.Trace), V.sc (.string o.Mti), vI o.Amount, vI o.Ttl]] []),(o.Op == 6) = true,(o.Op == 6) = true,(o.Op == 6) = true,Fn Tryz.prog 30 [(false, E9 o.Other)] (E4 r18) [],(true || ((E4 r18).nv && nvL [])) = true,(o.Op == 6) = true,r18 = false,r18 = false,r18 = false,r18 = false,(o.Op != 6) = false,(o.Op != 6) = false,(o.Op != 6) = false,r18 = false,(o.Op != 6) = false,r18 = false]) (by kernel_rfl) (cj ((spec_ReqOk_c0_ok o r5 h10).at h11 :) (cj ((spec_ReqOk_c1_ok o r10 h23).at h24 :) (cj ((spec_ReqOk_c2_ok o r15 h36).at h37 :) (cj ((spec_ReqOk_c3_ok o r17 h46).at h47 :) (cj h49 (cj h49 (cj h49 (cj (spec_AcctIdOk_ok o.Other r18 h50) (cj rfl (cj h49 (cj h51 (cj h51 (cj h51 (cj h51 (cj h52 (cj h52 (cj h52 (cj h51 (cj h52 (cj1 h51))))))))))))))))))))))))) (fun h49 =>
   Pn.ite (fun h53 =>
   Pn.some (Fn.of [.wait 3, .mask [1], .ren [0], .join 7 (X.go) (st 110 [(1, V.ptr 0 0)] [Blk.box 23 [vI o.Op, V.sc (.string o.Acct), V.sc (.string o.Other), V.sc (.string o.Hold), V.sc (.string o.Trace), V.sc (.string o.Mti), vI o.Amount, vI o.Ttl]] []), .wait 1, .mask [1], .ren [0], .join 7 (X.go) (st 110 [(1, V.ptr 0 0)] [Blk.box 23 [vI o.Op, V.sc (.string o.Acct), V.sc (.string o.Other), V.sc (.string o.Hold), V.sc (.string o.Trace), V.sc (.string o.Mti), vI o.Amount, vI o.Ttl]] []), .wait 1, .mask [1], .ren [0], .join 7 (X.go) (st 110 [(1, V.ptr 0 0)] [Blk.box 23 [vI o.Op, V.sc (.string o.Acct), V.sc (.string o.Other), V.sc (.string o.Hold), V.sc (.string o.Trace), V.sc (.string o.Mti), vI o.Amount, vI o.Ttl]] []), .wait 1, .mask [1], .ren [0], .join 7 (X.go) (st 110 [(1, V.ptr 0 0)] [Blk.box 23 [vI o.Op, V.sc (.string o.Acct), V.sc (.string o.Other), V.sc (.string o.Hold), V.sc (.string o.Trace), V.sc (.string o.Mti), vI o.Amount, vI o.Ttl]] []), .bit false, .bit false, .bit false, .bit false, .bit false, .bit false, .bit false, .bit false, .bit true, .bit true, .bit true, .bit false, .bit true, .bit false] (p := [HT Tryz.prog (sub (codeOf Tryz.prog 13) [1, 0]) (st 110 [(1, V.ptr 0 0)] [Blk.box 23 [vI o.Op, V.sc (.string o.Acct), V.sc (.string o.Other), V.sc (.string o.Hold), V.sc (.string o.Trace), V.sc (.string o.Mti), vI o.Amount, vI o.Ttl]] []) (X.go) (st 110 [(1, V.ptr 0 0)] [Blk.box 23 [vI o.Op, V.sc (.string o.Acct), V.sc (.string o.Other), V.sc (.string o.Hold), V.sc (.string o.Trace), V.sc (.string o.Mti), vI o.Amount, vI o.Ttl]] []),HT Tryz.prog (sub (codeOf Tryz.prog 13) [1, 1, 0]) (st 110 [(1, V.ptr 0 0)] [Blk.box 23 [vI o.Op, V.sc (.string o.Acct), V.sc (.string o.Other), V.sc (.string o.Hold), V.sc (.string o.Trace), V.sc (.string o.Mti), vI o.Amount, vI o.Ttl]] []) (X.go) (st 110 [(1, V.ptr 0 0)] [Blk.box 23 [vI o.Op, V.sc (.string o.Acct), V.sc (.string o.Other), V.sc (.string o.Hold), V.sc (.string o.Trace), V.sc (.string o.Mti), vI o.Amount, vI o.Ttl]] []),HT Tryz.prog (sub (codeOf Tryz.prog 13) [1, 1, 1, 0]) (st 110 [(1, V.ptr 0 0)] [Blk.box 23 [vI o.Op, V.sc (.string o.Acct), V.sc (.string o.Other), V.sc (.string o.Hold), V.sc (.string o.Trace), V.sc (.string o.Mti), vI o.Amount, vI o.Ttl]] []) (X.go) (st 110 [(1, V.ptr 0 0)] [Blk.box 23 [vI o.Op, V.sc (.string o.Acct), V.sc (.string o.Other), V.sc (.string o.Hold), V.sc (.string o.Trace), V.sc (.string o.Mti), vI o.Amount, vI o.Ttl]] []),HT Tryz.prog (sub (codeOf Tryz.prog 13) [1, 1, 1, 1, 0]) (st 110 [(1, V.ptr 0 0)] [Blk.box 23 [vI o.Op, V.sc (.string o.Acct), V.sc (.string o.Other), V.sc (.string o.Hold), V.sc (.string o.Trace), V.sc (.string o.Mti), vI o.Amount, vI o.Ttl]] []) (X.go) (st 110 [(1, V.ptr 0 0)] [Blk.box 23 [vI o.Op, V.sc (.string o.Acct), V.sc (.string o.Other), V.sc (.string o.Hold), V.sc (.string o.Trace), V.sc (.string o.Mti), vI o.Amount, vI o.Ttl]] []),(o.Op == 6) = false,(o.Op == 6) = false,(o.Op == 6) = false,(o.Op == 6) = false,false = false,false = false,false = false,false = false,(o.Op != 6) = true,(o.Op != 6) = true,(o.Op != 6) = true,false = false,(o.Op != 6) = true,false = false]) (by kernel_rfl) (cj ((spec_ReqOk_c0_ok o r5 h10).at h11 :) (cj ((spec_ReqOk_c1_ok o r10 h23).at h24 :) (cj ((spec_ReqOk_c2_ok o r15 h36).at h37 :) (cj ((spec_ReqOk_c3_ok o r17 h46).at h47 :) (cj h49 (cj h49 (cj h49 (cj h49 (cj rfl (cj rfl (cj rfl (cj rfl (cj h53 (cj h53 (cj h53 (cj rfl (cj h53 (cj1 rfl)))))))))))))))))))) (fun h53 =>
   Pn.some (Fn.of [.wait 3, .mask [1], .ren [0], .join 7 (X.go) (st 110 [(1, V.ptr 0 0)] [Blk.box 23 [vI o.Op, V.sc (.string o.Acct), V.sc (.string o.Other), V.sc (.string o.Hold), V.sc (.string o.Trace), V.sc (.string o.Mti), vI o.Amount, vI o.Ttl]] []), .wait 1, .mask [1], .ren [0], .join 7 (X.go) (st 110 [(1, V.ptr 0 0)] [Blk.box 23 [vI o.Op, V.sc (.string o.Acct), V.sc (.string o.Other), V.sc (.string o.Hold), V.sc (.string o.Trace), V.sc (.string o.Mti), vI o.Amount, vI o.Ttl]] []), .wait 1, .mask [1], .ren [0], .join 7 (X.go) (st 110 [(1, V.ptr 0 0)] [Blk.box 23 [vI o.Op, V.sc (.string o.Acct), V.sc (.string o.Other), V.sc (.string o.Hold), V.sc (.string o.Trace), V.sc (.string o.Mti), vI o.Amount, vI o.Ttl]] []), .wait 1, .mask [1], .ren [0], .join 7 (X.go) (st 110 [(1, V.ptr 0 0)] [Blk.box 23 [vI o.Op, V.sc (.string o.Acct), V.sc (.string o.Other), V.sc (.string o.Hold), V.sc (.string o.Trace), V.sc (.string o.Mti), vI o.Amount, vI o.Ttl]] []), .bit false, .bit false, .bit false, .bit false, .bit false, .bit false, .bit false, .bit false, .bit false, .bit false, .bit false, .bit false, .bit false, .bit false] (p := [HT Tryz.prog (sub (codeOf Tryz.prog 13) [1, 0]) (st 110 [(1, V.ptr 0 0)] [Blk.box 23 [vI o.Op, V.sc (.string o.Acct), V.sc (.string o.Other), V.sc (.string o.Hold), V.sc (.string o.Trace), V.sc (.string o.Mti), vI o.Amount, vI o.Ttl]] []) (X.go) (st 110 [(1, V.ptr 0 0)] [Blk.box 23 [vI o.Op, V.sc (.string o.Acct), V.sc (.string o.Other), V.sc (.string o.Hold), V.sc (.string o.Trace), V.sc (.string o.Mti), vI o.Amount, vI o.Ttl]] []),HT Tryz.prog (sub (codeOf Tryz.prog 13) [1, 1, 0]) (st 110 [(1, V.ptr 0 0)] [Blk.box 23 [vI o.Op, V.sc (.string o.Acct), V.sc (.string o.Other), V.sc (.string o.Hold), V.sc (.string o.Trace), V.sc (.string o.Mti), vI o.Amount, vI o.Ttl]] []) (X.go) (st 110 [(1, V.ptr 0 0)] [Blk.box 23 [vI o.Op, V.sc (.string o.Acct), V.sc (.string o.Other), V.sc (.string o.Hold), V.sc (.string o.Trace), V.sc (.string o.Mti), vI o.Amount, vI o.Ttl]] []),HT Tryz.prog (sub (codeOf Tryz.prog 13) [1, 1, 1, 0]) (st 110 [(1, V.ptr 0 0)] [Blk.box 23 [vI o.Op, V.sc (.string o.Acct), V.sc (.string o.Other), V.sc (.string o.Hold), V.sc (.string o.Trace), V.sc (.string o.Mti), vI o.Amount, vI o.Ttl]] []) (X.go) (st 110 [(1, V.ptr 0 0)] [Blk.box 23 [vI o.Op, V.sc (.string o.Acct), V.sc (.string o.Other), V.sc (.string o.Hold), V.sc (.string o.Trace), V.sc (.string o.Mti), vI o.Amount, vI o.Ttl]] []),HT Tryz.prog (sub (codeOf Tryz.prog 13) [1, 1, 1, 1, 0]) (st 110 [(1, V.ptr 0 0)] [Blk.box 23 [vI o.Op, V.sc (.string o.Acct), V.sc (.string o.Other), V.sc (.string o.Hold), V.sc (.string o.Trace), V.sc (.string o.Mti), vI o.Amount, vI o.Ttl]] []) (X.go) (st 110 [(1, V.ptr 0 0)] [Blk.box 23 [vI o.Op, V.sc (.string o.Acct), V.sc (.string o.Other), V.sc (.string o.Hold), V.sc (.string o.Trace), V.sc (.string o.Mti), vI o.Amount, vI o.Ttl]] []),(o.Op == 6) = false,(o.Op == 6) = false,(o.Op == 6) = false,(o.Op == 6) = false,false = false,false = false,false = false,false = false,(o.Op != 6) = false,(o.Op != 6) = false,(o.Op != 6) = false,false = false,(o.Op != 6) = false,false = false]) (by kernel_rfl) (cj ((spec_ReqOk_c0_ok o r5 h10).at h11 :) (cj ((spec_ReqOk_c1_ok o r10 h23).at h24 :) (cj ((spec_ReqOk_c2_ok o r15 h36).at h37 :) (cj ((spec_ReqOk_c3_ok o r17 h46).at h47 :) (cj h49 (cj h49 (cj h49 (cj h49 (cj rfl (cj rfl (cj rfl (cj rfl (cj h53 (cj h53 (cj h53 (cj rfl (cj h53 (cj1 rfl)))))))))))))))))))))) (fun s8 h48 =>
   Pn.some (Fn.of [.wait 3, .mask [1], .ren [0], .join 7 (X.go) (st 110 [(1, V.ptr 0 0)] [Blk.box 23 [vI o.Op, V.sc (.string o.Acct), V.sc (.string o.Other), V.sc (.string o.Hold), V.sc (.string o.Trace), V.sc (.string o.Mti), vI o.Amount, vI o.Ttl]] []), .wait 1, .mask [1], .ren [0], .join 7 (X.go) (st 110 [(1, V.ptr 0 0)] [Blk.box 23 [vI o.Op, V.sc (.string o.Acct), V.sc (.string o.Other), V.sc (.string o.Hold), V.sc (.string o.Trace), V.sc (.string o.Mti), vI o.Amount, vI o.Ttl]] []), .wait 1, .mask [1], .ren [0], .join 7 (X.go) (st 110 [(1, V.ptr 0 0)] [Blk.box 23 [vI o.Op, V.sc (.string o.Acct), V.sc (.string o.Other), V.sc (.string o.Hold), V.sc (.string o.Trace), V.sc (.string o.Mti), vI o.Amount, vI o.Ttl]] []), .wait 1, .mask [1], .ren [0], .join 7 (X.ret) (st 110 [(2, V.sc (.bool false))] [] [])] (p := [HT Tryz.prog (sub (codeOf Tryz.prog 13) [1, 0]) (st 110 [(1, V.ptr 0 0)] [Blk.box 23 [vI o.Op, V.sc (.string o.Acct), V.sc (.string o.Other), V.sc (.string o.Hold), V.sc (.string o.Trace), V.sc (.string o.Mti), vI o.Amount, vI o.Ttl]] []) (X.go) (st 110 [(1, V.ptr 0 0)] [Blk.box 23 [vI o.Op, V.sc (.string o.Acct), V.sc (.string o.Other), V.sc (.string o.Hold), V.sc (.string o.Trace), V.sc (.string o.Mti), vI o.Amount, vI o.Ttl]] []),HT Tryz.prog (sub (codeOf Tryz.prog 13) [1, 1, 0]) (st 110 [(1, V.ptr 0 0)] [Blk.box 23 [vI o.Op, V.sc (.string o.Acct), V.sc (.string o.Other), V.sc (.string o.Hold), V.sc (.string o.Trace), V.sc (.string o.Mti), vI o.Amount, vI o.Ttl]] []) (X.go) (st 110 [(1, V.ptr 0 0)] [Blk.box 23 [vI o.Op, V.sc (.string o.Acct), V.sc (.string o.Other), V.sc (.string o.Hold), V.sc (.string o.Trace), V.sc (.string o.Mti), vI o.Amount, vI o.Ttl]] []),HT Tryz.prog (sub (codeOf Tryz.prog 13) [1, 1, 1, 0]) (st 110 [(1, V.ptr 0 0)] [Blk.box 23 [vI o.Op, V.sc (.string o.Acct), V.sc (.string o.Other), V.sc (.string o.Hold), V.sc (.string o.Trace), V.sc (.string o.Mti), vI o.Amount, vI o.Ttl]] []) (X.go) (st 110 [(1, V.ptr 0 0)] [Blk.box 23 [vI o.Op, V.sc (.string o.Acct), V.sc (.string o.Other), V.sc (.string o.Hold), V.sc (.string o.Trace), V.sc (.string o.Mti), vI o.Amount, vI o.Ttl]] []),HT Tryz.prog (sub (codeOf Tryz.prog 13) [1, 1, 1, 1, 0]) (st 110 [(1, V.ptr 0 0)] [Blk.box 23 [vI o.Op, V.sc (.string o.Acct), V.sc (.string o.Other), V.sc (.string o.Hold), V.sc (.string o.Trace), V.sc (.string o.Mti), vI o.Amount, vI o.Ttl]] []) (X.ret) (st 110 [(2, V.sc (.bool false))] [] [])]) (by kernel_rfl) (cj ((spec_ReqOk_c0_ok o r5 h10).at h11 :) (cj ((spec_ReqOk_c1_ok o r10 h23).at h24 :) (cj ((spec_ReqOk_c2_ok o r15 h36).at h37 :) (cj1 ((spec_ReqOk_c3_ok o r17 h46).at h48 :))))))))) (fun s6 h38 =>
   Pn.some (Fn.of [.wait 3, .mask [1], .ren [0], .join 7 (X.go) (st 110 [(1, V.ptr 0 0)] [Blk.box 23 [vI o.Op, V.sc (.string o.Acct), V.sc (.string o.Other), V.sc (.string o.Hold), V.sc (.string o.Trace), V.sc (.string o.Mti), vI o.Amount, vI o.Ttl]] []), .wait 1, .mask [1], .ren [0], .join 7 (X.go) (st 110 [(1, V.ptr 0 0)] [Blk.box 23 [vI o.Op, V.sc (.string o.Acct), V.sc (.string o.Other), V.sc (.string o.Hold), V.sc (.string o.Trace), V.sc (.string o.Mti), vI o.Amount, vI o.Ttl]] []), .wait 1, .mask [1], .ren [0], .join 7 (X.ret) (st 110 [(2, V.sc (.bool false))] [] [])] (p := [HT Tryz.prog (sub (codeOf Tryz.prog 13) [1, 0]) (st 110 [(1, V.ptr 0 0)] [Blk.box 23 [vI o.Op, V.sc (.string o.Acct), V.sc (.string o.Other), V.sc (.string o.Hold), V.sc (.string o.Trace), V.sc (.string o.Mti), vI o.Amount, vI o.Ttl]] []) (X.go) (st 110 [(1, V.ptr 0 0)] [Blk.box 23 [vI o.Op, V.sc (.string o.Acct), V.sc (.string o.Other), V.sc (.string o.Hold), V.sc (.string o.Trace), V.sc (.string o.Mti), vI o.Amount, vI o.Ttl]] []),HT Tryz.prog (sub (codeOf Tryz.prog 13) [1, 1, 0]) (st 110 [(1, V.ptr 0 0)] [Blk.box 23 [vI o.Op, V.sc (.string o.Acct), V.sc (.string o.Other), V.sc (.string o.Hold), V.sc (.string o.Trace), V.sc (.string o.Mti), vI o.Amount, vI o.Ttl]] []) (X.go) (st 110 [(1, V.ptr 0 0)] [Blk.box 23 [vI o.Op, V.sc (.string o.Acct), V.sc (.string o.Other), V.sc (.string o.Hold), V.sc (.string o.Trace), V.sc (.string o.Mti), vI o.Amount, vI o.Ttl]] []),HT Tryz.prog (sub (codeOf Tryz.prog 13) [1, 1, 1, 0]) (st 110 [(1, V.ptr 0 0)] [Blk.box 23 [vI o.Op, V.sc (.string o.Acct), V.sc (.string o.Other), V.sc (.string o.Hold), V.sc (.string o.Trace), V.sc (.string o.Mti), vI o.Amount, vI o.Ttl]] []) (X.ret) (st 110 [(2, V.sc (.bool false))] [] [])]) (by kernel_rfl) (cj ((spec_ReqOk_c0_ok o r5 h10).at h11 :) (cj ((spec_ReqOk_c1_ok o r10 h23).at h24 :) (cj1 ((spec_ReqOk_c2_ok o r15 h36).at h38 :)))))))) (fun s4 h25 =>
   Pn.some (Fn.of [.wait 3, .mask [1], .ren [0], .join 7 (X.go) (st 110 [(1, V.ptr 0 0)] [Blk.box 23 [vI o.Op, V.sc (.string o.Acct), V.sc (.string o.Other), V.sc (.string o.Hold), V.sc (.string o.Trace), V.sc (.string o.Mti), vI o.Amount, vI o.Ttl]] []), .wait 1, .mask [1], .ren [0], .join 7 (X.ret) (st 110 [(2, V.sc (.bool false))] [] [])] (p := [HT Tryz.prog (sub (codeOf Tryz.prog 13) [1, 0]) (st 110 [(1, V.ptr 0 0)] [Blk.box 23 [vI o.Op, V.sc (.string o.Acct), V.sc (.string o.Other), V.sc (.string o.Hold), V.sc (.string o.Trace), V.sc (.string o.Mti), vI o.Amount, vI o.Ttl]] []) (X.go) (st 110 [(1, V.ptr 0 0)] [Blk.box 23 [vI o.Op, V.sc (.string o.Acct), V.sc (.string o.Other), V.sc (.string o.Hold), V.sc (.string o.Trace), V.sc (.string o.Mti), vI o.Amount, vI o.Ttl]] []),HT Tryz.prog (sub (codeOf Tryz.prog 13) [1, 1, 0]) (st 110 [(1, V.ptr 0 0)] [Blk.box 23 [vI o.Op, V.sc (.string o.Acct), V.sc (.string o.Other), V.sc (.string o.Hold), V.sc (.string o.Trace), V.sc (.string o.Mti), vI o.Amount, vI o.Ttl]] []) (X.ret) (st 110 [(2, V.sc (.bool false))] [] [])]) (by kernel_rfl) (cj ((spec_ReqOk_c0_ok o r5 h10).at h11 :) (cj1 ((spec_ReqOk_c1_ok o r10 h23).at h25 :))))))) (fun s2 h12 =>
   Pn.some (Fn.of [.wait 3, .mask [1], .ren [0], .join 7 (X.ret) (st 110 [(2, V.sc (.bool false))] [] [])] (p := [HT Tryz.prog (sub (codeOf Tryz.prog 13) [1, 0]) (st 110 [(1, V.ptr 0 0)] [Blk.box 23 [vI o.Op, V.sc (.string o.Acct), V.sc (.string o.Other), V.sc (.string o.Hold), V.sc (.string o.Trace), V.sc (.string o.Mti), vI o.Amount, vI o.Ttl]] []) (X.ret) (st 110 [(2, V.sc (.bool false))] [] [])]) (by kernel_rfl) (cj1 ((spec_ReqOk_c0_ok o r5 h10).at h12 :)))))
def spec_ReqText_c0 (q : Req) : Option (Lo Unit Unit) :=
 (spec_ReqOk q).bind fun r1 =>
 if r1 = true then
 some (.out ())
 else
 some (.ret ())
theorem spec_ReqText_c0_ok (q : Req) : Pn (JnO Tryz.prog (sub (codeOf Tryz.prog 14) [1, 0]) (st 53 [(1, V.ptr 0 0)] [Blk.box 23 [vI q.Op, V.sc (.string q.Acct), V.sc (.string q.Other), V.sc (.string q.Hold), V.sc (.string q.Trace), V.sc (.string q.Mti), vI q.Amount, vI q.Ttl]] []) (fun (y : Lo Unit Unit) => Lo.elim y (fun s => (X.go, st 53 [(1, V.ptr 0 0)] [Blk.box 23 [vI q.Op, V.sc (.string q.Acct), V.sc (.string q.Other), V.sc (.string q.Hold), V.sc (.string q.Trace), V.sc (.string q.Mti), vI q.Amount, vI q.Ttl]] [])) (fun s => (X.ret, st 53 [(2, V.sc (.string (bs [])))] [] [])))) (spec_ReqText_c0 q) := by
  unfold spec_ReqText_c0
  exact
   Pn.bind (fun r1 h1 =>
   Pn.ite (fun h2 =>
   Pn.some (JnO.of [.call [] (E4 r1) [], .bit false, .mask [1], .ren [0]] (p := [Fn Tryz.prog 13 [(false, E23 q)] (E4 r1) [],(true || ((E4 r1).nv && nvL [])) = true,(!r1) = false]) (by kernel_rfl) (cj (spec_ReqOk_ok q r1 h1) (cj rfl (cj1 (nf h2)))))) (fun h2 =>
   Pn.some (JnO.of [.call [] (E4 r1) [], .bit true, .wait 1, .mask [2], .ren []] (p := [Fn Tryz.prog 13 [(false, E23 q)] (E4 r1) [],(true || ((E4 r1).nv && nvL [])) = true,(!r1) = true]) (by kernel_rfl) (cj (spec_ReqOk_ok q r1 h1) (cj rfl (cj1 (nt h2)))))))
def spec_ReqText_c1 (q : Req) (r3 : ByteArray) : Option (ByteArray) :=
 (spec_l11Hold q.Op).bind fun r4 =>
 if r4 = true then
 if (decide (((((r3 ++ (bs [32])) ++ q.Acct) ++ (bs [32])) ++ q.Trace).size + (bs [32]).size ≤ 9223372036854775807)) = true then
 if (decide ((((((r3 ++ (bs [32])) ++ q.Acct) ++ (bs [32])) ++ q.Trace) ++ (bs [32])).size + q.Hold.size ≤ 9223372036854775807)) = true then
 some ((((((r3 ++ (bs [32])) ++ q.Acct) ++ (bs [32])) ++ q.Trace) ++ (bs [32])) ++ q.Hold)
 else none
 else none
 else
 some ((((r3 ++ (bs [32])) ++ q.Acct) ++ (bs [32])) ++ q.Trace)
theorem spec_ReqText_c1_ok (q : Req) (r3 : ByteArray) : Pn (JnO Tryz.prog (sub (codeOf Tryz.prog 14) [1, 1, 1, 0]) (st 53 [(1, V.ptr 0 0), (3, V.sc (.string ((((r3 ++ (bs [32])) ++ q.Acct) ++ (bs [32])) ++ q.Trace)))] [Blk.box 23 [vI q.Op, V.sc (.string q.Acct), V.sc (.string q.Other), V.sc (.string q.Hold), V.sc (.string q.Trace), V.sc (.string q.Mti), vI q.Amount, vI q.Ttl]] []) (fun (y : ByteArray) => (X.go, st 53 [(1, V.ptr 0 0), (3, V.sc (.string y))] [Blk.box 23 [vI q.Op, V.sc (.string q.Acct), V.sc (.string q.Other), V.sc (.string q.Hold), V.sc (.string q.Trace), V.sc (.string q.Mti), vI q.Amount, vI q.Ttl]] []))) (spec_ReqText_c1 q r3) := by
  unfold spec_ReqText_c1
  exact
   Pn.bind (fun r4 h11 =>
   Pn.ite (fun h12 =>
   Pn.ite (fun h13 =>
   Pn.ite (fun h14 =>
   Pn.some (JnO.of [.call [] (E4 r4) [], .bit true, .wait 6, .mask [1, 3], .ren [0]] (p := [Fn Tryz.prog 10 [(false, E3 q.Op)] (E4 r4) [],(true || ((E4 r4).nv && nvL [])) = true,r4 = true,((((r3 ++ (bs [32])) ++ q.Acct) ++ (bs [32])) ++ q.Trace).size + (bs [32]).size ≤ 9223372036854775807,(((((r3 ++ (bs [32])) ++ q.Acct) ++ (bs [32])) ++ q.Trace) ++ (bs [32])).size + q.Hold.size ≤ 9223372036854775807]) (by kernel_rfl) (cj (spec_l11Hold_ok q.Op r4 h11) (cj rfl (cj h12 (cj (od h13) (cj1 (od h14)))))))) (fun h14 =>
   Pn.none)) (fun h13 =>
   Pn.none)) (fun h12 =>
   Pn.some (JnO.of [.call [] (E4 r4) [], .bit false, .mask [1, 3], .ren [0]] (p := [Fn Tryz.prog 10 [(false, E3 q.Op)] (E4 r4) [],(true || ((E4 r4).nv && nvL [])) = true,r4 = false]) (by kernel_rfl) (cj (spec_l11Hold_ok q.Op r4 h11) (cj rfl (cj1 h12))))))
def spec_ReqText_c2 (q : Req) (r5 : ByteArray) : Option (ByteArray) :=
 (spec_l11Amount q.Op).bind fun r6 =>
 if r6 = true then
 if (decide (r5.size + (bs [32]).size ≤ 9223372036854775807)) = true then
 (spec_NumText q.Amount).bind fun r7 =>
 if (decide ((r5 ++ (bs [32])).size + r7.size ≤ 9223372036854775807)) = true then
 some ((r5 ++ (bs [32])) ++ r7)
 else none
 else none
 else
 some r5
theorem spec_ReqText_c2_ok (q : Req) (r5 : ByteArray) : Pn (JnO Tryz.prog (sub (codeOf Tryz.prog 14) [1, 1, 1, 1, 0]) (st 53 [(1, V.ptr 0 0), (3, V.sc (.string r5))] [Blk.box 23 [vI q.Op, V.sc (.string q.Acct), V.sc (.string q.Other), V.sc (.string q.Hold), V.sc (.string q.Trace), V.sc (.string q.Mti), vI q.Amount, vI q.Ttl]] []) (fun (y : ByteArray) => (X.go, st 53 [(1, V.ptr 0 0), (3, V.sc (.string y))] [Blk.box 23 [vI q.Op, V.sc (.string q.Acct), V.sc (.string q.Other), V.sc (.string q.Hold), V.sc (.string q.Trace), V.sc (.string q.Mti), vI q.Amount, vI q.Ttl]] []))) (spec_ReqText_c2 q r5) := by
  unfold spec_ReqText_c2
  exact
   Pn.bind (fun r6 h16 =>
   Pn.ite (fun h17 =>
   Pn.ite (fun h18 =>
   Pn.bind (fun r7 h19 =>
   Pn.ite (fun h20 =>
   Pn.some (JnO.of [.call [] (E4 r6) [], .bit true, .call [] (E9 r7) [], .wait 3, .mask [1, 3], .ren [0]] (p := [Fn Tryz.prog 11 [(false, E3 q.Op)] (E4 r6) [],(true || ((E4 r6).nv && nvL [])) = true,r6 = true,r5.size + (bs [32]).size ≤ 9223372036854775807,Fn Tryz.prog 29 [(false, E3 q.Amount)] (E9 r7) [],(true || ((E9 r7).nv && nvL [])) = true,(r5 ++ (bs [32])).size + r7.size ≤ 9223372036854775807]) (by kernel_rfl) (cj (spec_l11Amount_ok q.Op r6 h16) (cj rfl (cj h17 (cj (od h18) (cj (spec_NumText_ok q.Amount r7 h19) (cj rfl (cj1 (od h20)))))))))) (fun h20 =>
   Pn.none))) (fun h18 =>
   Pn.none)) (fun h17 =>
   Pn.some (JnO.of [.call [] (E4 r6) [], .bit false, .mask [1, 3], .ren [0]] (p := [Fn Tryz.prog 11 [(false, E3 q.Op)] (E4 r6) [],(true || ((E4 r6).nv && nvL [])) = true,r6 = false]) (by kernel_rfl) (cj (spec_l11Amount_ok q.Op r6 h16) (cj rfl (cj1 h17))))))
def spec_ReqText_c3 (q : Req) (r8 : ByteArray) : Option (ByteArray) :=
 if (q.Op == 1) = true then
 if (decide (r8.size + (bs [32]).size ≤ 9223372036854775807)) = true then
 (spec_NumText q.Ttl).bind fun r9 =>
 if (decide ((r8 ++ (bs [32])).size + r9.size ≤ 9223372036854775807)) = true then
 some ((r8 ++ (bs [32])) ++ r9)
 else none
 else none
 else
 some r8
theorem spec_ReqText_c3_ok (q : Req) (r8 : ByteArray) : Pn (JnO Tryz.prog (sub (codeOf Tryz.prog 14) [1, 1, 1, 1, 1, 0]) (st 53 [(1, V.ptr 0 0), (3, V.sc (.string r8))] [Blk.box 23 [vI q.Op, V.sc (.string q.Acct), V.sc (.string q.Other), V.sc (.string q.Hold), V.sc (.string q.Trace), V.sc (.string q.Mti), vI q.Amount, vI q.Ttl]] []) (fun (y : ByteArray) => (X.go, st 53 [(1, V.ptr 0 0), (3, V.sc (.string y))] [Blk.box 23 [vI q.Op, V.sc (.string q.Acct), V.sc (.string q.Other), V.sc (.string q.Hold), V.sc (.string q.Trace), V.sc (.string q.Mti), vI q.Amount, vI q.Ttl]] []))) (spec_ReqText_c3 q r8) := by
  unfold spec_ReqText_c3
  exact
   Pn.ite (fun h22 =>
   Pn.ite (fun h23 =>
   Pn.bind (fun r9 h24 =>
   Pn.ite (fun h25 =>
   Pn.some (JnO.of [.bit true, .call [] (E9 r9) [], .wait 3, .mask [1, 3], .ren [0]] (p := [(q.Op == 1) = true,r8.size + (bs [32]).size ≤ 9223372036854775807,Fn Tryz.prog 29 [(false, E3 q.Ttl)] (E9 r9) [],(true || ((E9 r9).nv && nvL [])) = true,(r8 ++ (bs [32])).size + r9.size ≤ 9223372036854775807]) (by kernel_rfl) (cj h22 (cj (od h23) (cj (spec_NumText_ok q.Ttl r9 h24) (cj rfl (cj1 (od h25)))))))) (fun h25 =>
   Pn.none))) (fun h23 =>
   Pn.none)) (fun h22 =>
   Pn.some (JnO.of [.bit false, .mask [1, 3], .ren [0]] (p := [(q.Op == 1) = false]) (by kernel_rfl) (cj1 h22)))
def spec_ReqText_c4 (q : Req) (r10 : ByteArray) : Option (ByteArray) :=
 if (q.Op == 6) = true then
 if (decide (r10.size + (bs [32]).size ≤ 9223372036854775807)) = true then
 if (decide ((r10 ++ (bs [32])).size + q.Other.size ≤ 9223372036854775807)) = true then
 some ((r10 ++ (bs [32])) ++ q.Other)
 else none
 else none
 else
 some r10
theorem spec_ReqText_c4_ok (q : Req) (r10 : ByteArray) : Pn (JnO Tryz.prog (sub (codeOf Tryz.prog 14) [1, 1, 1, 1, 1, 1, 0]) (st 53 [(1, V.ptr 0 0), (3, V.sc (.string r10))] [Blk.box 23 [vI q.Op, V.sc (.string q.Acct), V.sc (.string q.Other), V.sc (.string q.Hold), V.sc (.string q.Trace), V.sc (.string q.Mti), vI q.Amount, vI q.Ttl]] []) (fun (y : ByteArray) => (X.go, st 53 [(3, V.sc (.string y))] [] []))) (spec_ReqText_c4 q r10) := by
  unfold spec_ReqText_c4
  exact
   Pn.ite (fun h27 =>
   Pn.ite (fun h28 =>
   Pn.ite (fun h29 =>
   Pn.some (JnO.of [.bit true, .wait 6, .mask [3], .ren []] (p := [(q.Op == 6) = true,r10.size + (bs [32]).size ≤ 9223372036854775807,(r10 ++ (bs [32])).size + q.Other.size ≤ 9223372036854775807]) (by kernel_rfl) (cj h27 (cj (od h28) (cj1 (od h29)))))) (fun h29 =>
   Pn.none)) (fun h28 =>
   Pn.none)) (fun h27 =>
   Pn.some (JnO.of [.bit false, .mask [3], .ren []] (p := [(q.Op == 6) = false]) (by kernel_rfl) (cj1 h27)))
def spec_ReqText (q : Req) : Option (ByteArray) :=
 (spec_ReqText_c0 q).bind fun r2 =>
 Lo.elim r2 (fun s1 =>
 (spec_OpName q.Op).bind fun r3 =>
 if (decide (r3.size + (bs [32]).size ≤ 9223372036854775807)) = true then
 if (decide ((r3 ++ (bs [32])).size + q.Acct.size ≤ 9223372036854775807)) = true then
 if (decide (((r3 ++ (bs [32])) ++ q.Acct).size + (bs [32]).size ≤ 9223372036854775807)) = true then
 if (decide ((((r3 ++ (bs [32])) ++ q.Acct) ++ (bs [32])).size + q.Trace.size ≤ 9223372036854775807)) = true then
 (spec_ReqText_c1 q r3).bind fun r5 =>
 (spec_ReqText_c2 q r5).bind fun r8 =>
 (spec_ReqText_c3 q r8).bind fun r10 =>
 (spec_ReqText_c4 q r10).bind fun r11 =>
 some r11
 else none
 else none
 else none
 else none) (fun s2 =>
 some (bs []))
theorem spec_ReqText_ok (q : Req) : Pn (fun y => Fn Tryz.prog 14 [(false, E23 q)] (E9 y) []) (spec_ReqText q) := by
  unfold spec_ReqText
  exact
   Pn.bind (fun r2 h3 =>
   Pn.lo (fun s1 h4 =>
   Pn.bind (fun r3 h6 =>
   Pn.ite (fun h7 =>
   Pn.ite (fun h8 =>
   Pn.ite (fun h9 =>
   Pn.ite (fun h10 =>
   Pn.bind (fun r5 h15 =>
   Pn.bind (fun r8 h21 =>
   Pn.bind (fun r10 h26 =>
   Pn.bind (fun r11 h30 =>
   Pn.some (Fn.of [.wait 3, .mask [1], .ren [0], .join 7 (X.go) (st 53 [(1, V.ptr 0 0)] [Blk.box 23 [vI q.Op, V.sc (.string q.Acct), V.sc (.string q.Other), V.sc (.string q.Hold), V.sc (.string q.Trace), V.sc (.string q.Mti), vI q.Amount, vI q.Ttl]] []), .draw [], .call [] (E9 r3) [], .wait 6, .mask [1, 3], .ren [0], .join 5 (X.go) (st 53 [(1, V.ptr 0 0), (3, V.sc (.string r5))] [Blk.box 23 [vI q.Op, V.sc (.string q.Acct), V.sc (.string q.Other), V.sc (.string q.Hold), V.sc (.string q.Trace), V.sc (.string q.Mti), vI q.Amount, vI q.Ttl]] []), .wait 1, .mask [1, 3], .ren [0], .join 5 (X.go) (st 53 [(1, V.ptr 0 0), (3, V.sc (.string r8))] [Blk.box 23 [vI q.Op, V.sc (.string q.Acct), V.sc (.string q.Other), V.sc (.string q.Hold), V.sc (.string q.Trace), V.sc (.string q.Mti), vI q.Amount, vI q.Ttl]] []), .wait 1, .mask [1, 3], .ren [0], .join 5 (X.go) (st 53 [(1, V.ptr 0 0), (3, V.sc (.string r10))] [Blk.box 23 [vI q.Op, V.sc (.string q.Acct), V.sc (.string q.Other), V.sc (.string q.Hold), V.sc (.string q.Trace), V.sc (.string q.Mti), vI q.Amount, vI q.Ttl]] []), .wait 1, .mask [1, 3], .ren [0], .join 5 (X.go) (st 53 [(3, V.sc (.string r11))] [] [])] (p := [HT Tryz.prog (sub (codeOf Tryz.prog 14) [1, 0]) (st 53 [(1, V.ptr 0 0)] [Blk.box 23 [vI q.Op, V.sc (.string q.Acct), V.sc (.string q.Other), V.sc (.string q.Hold), V.sc (.string q.Trace), V.sc (.string q.Mti), vI q.Amount, vI q.Ttl]] []) (X.go) (st 53 [(1, V.ptr 0 0)] [Blk.box 23 [vI q.Op, V.sc (.string q.Acct), V.sc (.string q.Other), V.sc (.string q.Hold), V.sc (.string q.Trace), V.sc (.string q.Mti), vI q.Amount, vI q.Ttl]] []),Fn Tryz.prog 24 [(false, E3 q.Op)] (E9 r3) [],(true || ((E9 r3).nv && nvL [])) = true,r3.size + (bs [32]).size ≤ 9223372036854775807,(r3 ++ (bs [32])).size + q.Acct.size ≤ 9223372036854775807,((r3 ++ (bs [32])) ++ q.Acct).size + (bs [32]).size ≤ 9223372036854775807,(((r3 ++ (bs [32])) ++ q.Acct) ++ (bs [32])).size + q.Trace.size ≤ 9223372036854775807,HT Tryz.prog (sub (codeOf Tryz.prog 14) [1, 1, 1, 0]) (st 53 [(1, V.ptr 0 0), (3, V.sc (.string ((((r3 ++ (bs [32])) ++ q.Acct) ++ (bs [32])) ++ q.Trace)))] [Blk.box 23 [vI q.Op, V.sc (.string q.Acct), V.sc (.string q.Other), V.sc (.string q.Hold), V.sc (.string q.Trace), V.sc (.string q.Mti), vI q.Amount, vI q.Ttl]] []) (X.go) (st 53 [(1, V.ptr 0 0), (3, V.sc (.string r5))] [Blk.box 23 [vI q.Op, V.sc (.string q.Acct), V.sc (.string q.Other), V.sc (.string q.Hold), V.sc (.string q.Trace), V.sc (.string q.Mti), vI q.Amount, vI q.Ttl]] []),HT Tryz.prog (sub (codeOf Tryz.prog 14) [1, 1, 1, 1, 0]) (st 53 [(1, V.ptr 0 0), (3, V.sc (.string r5))] [Blk.box 23 [vI q.Op, V.sc (.string q.Acct), V.sc (.string q.Other), V.sc (.string q.Hold), V.sc (.string q.Trace), V.sc (.string q.Mti), vI q.Amount, vI q.Ttl]] []) (X.go) (st 53 [(1, V.ptr 0 0), (3, V.sc (.string r8))] [Blk.box 23 [vI q.Op, V.sc (.string q.Acct), V.sc (.string q.Other), V.sc (.string q.Hold), V.sc (.string q.Trace), V.sc (.string q.Mti), vI q.Amount, vI q.Ttl]] []),HT Tryz.prog (sub (codeOf Tryz.prog 14) [1, 1, 1, 1, 1, 0]) (st 53 [(1, V.ptr 0 0), (3, V.sc (.string r8))] [Blk.box 23 [vI q.Op, V.sc (.string q.Acct), V.sc (.string q.Other), V.sc (.string q.Hold), V.sc (.string q.Trace), V.sc (.string q.Mti), vI q.Amount, vI q.Ttl]] []) (X.go) (st 53 [(1, V.ptr 0 0), (3, V.sc (.string r10))] [Blk.box 23 [vI q.Op, V.sc (.string q.Acct), V.sc (.string q.Other), V.sc (.string q.Hold), V.sc (.string q.Trace), V.sc (.string q.Mti), vI q.Amount, vI q.Ttl]] []),HT Tryz.prog (sub (codeOf Tryz.prog 14) [1, 1, 1, 1, 1, 1, 0]) (st 53 [(1, V.ptr 0 0), (3, V.sc (.string r10))] [Blk.box 23 [vI q.Op, V.sc (.string q.Acct), V.sc (.string q.Other), V.sc (.string q.Hold), V.sc (.string q.Trace), V.sc (.string q.Mti), vI q.Amount, vI q.Ttl]] []) (X.go) (st 53 [(3, V.sc (.string r11))] [] [])]) (by kernel_rfl) (cj ((spec_ReqText_c0_ok q r2 h3).at h4 :) (cj (spec_OpName_ok q.Op r3 h6) (cj rfl (cj (od h7) (cj (od h8) (cj (od h9) (cj (od h10) (cj (spec_ReqText_c1_ok q r3 r5 h15) (cj (spec_ReqText_c2_ok q r5 r8 h21) (cj (spec_ReqText_c3_ok q r8 r10 h26) (cj1 (spec_ReqText_c4_ok q r10 r11 h30)))))))))))))))))) (fun h10 =>
   Pn.none)) (fun h9 =>
   Pn.none)) (fun h8 =>
   Pn.none)) (fun h7 =>
   Pn.none))) (fun s2 h5 =>
   Pn.some (Fn.of [.wait 3, .mask [1], .ren [0], .join 7 (X.ret) (st 53 [(2, V.sc (.string (bs [])))] [] [])] (p := [HT Tryz.prog (sub (codeOf Tryz.prog 14) [1, 0]) (st 53 [(1, V.ptr 0 0)] [Blk.box 23 [vI q.Op, V.sc (.string q.Acct), V.sc (.string q.Other), V.sc (.string q.Hold), V.sc (.string q.Trace), V.sc (.string q.Mti), vI q.Amount, vI q.Ttl]] []) (X.ret) (st 53 [(2, V.sc (.string (bs [])))] [] [])]) (by kernel_rfl) (cj1 ((spec_ReqText_c0_ok q r2 h3).at h5 :)))))
def spec_TextReq_s1 (o : ByteArray) (r2 : Int) (r4 : ByteArray) (x2 : ByteArray) (x3 : ByteArray) (r1 : (List ByteArray)) : St := st 79 [(0, V.sc (.string o)), (2, V.ptr 0 0), (4, V.ow 1), (5, vI r2), (6, V.ptr 2 0), (22, vI r2), (23, vI r2), (24, V.sc (.string r4)), (25, V.ow 1), (26, V.ep 1 1 1 0), (27, V.sc (.string x2)), (28, V.ow 1), (29, V.ep 1 1 2 0), (30, V.sc (.string x3)), (31, V.agg [vI r2, V.sc (.string x2), V.sc (.string ByteArray.empty), V.sc (.string ByteArray.empty), V.sc (.string x3), V.sc (.string r4), vI 0, vI 0])] [Blk.box 23 [vI 0, V.sc (.string ByteArray.empty), V.sc (.string ByteArray.empty), V.sc (.string ByteArray.empty), V.sc (.string ByteArray.empty), V.sc (.string ByteArray.empty), vI 0, vI 0], Blk.row 9 (List.map E9 r1) [], Blk.box 23 [vI r2, V.sc (.string x2), V.sc (.string ByteArray.empty), V.sc (.string ByteArray.empty), V.sc (.string x3), V.sc (.string r4), vI 0, vI 0]] []
def spec_TextReq_c0 (o : ByteArray) (r1 : (List ByteArray)) (r2 : Int) : Option (Lo Unit Unit) :=
 if (decide ((r1.length : Int) < 3)) = true then
 some (.ret ())
 else
 if (r2 == 0) = true then
 some (.ret ())
 else
 some (.out ())
theorem spec_TextReq_c0_ok (o : ByteArray) (r1 : (List ByteArray)) (r2 : Int) : Pn (JnO Tryz.prog (sub (codeOf Tryz.prog 4) [1, 1, 1, 0]) (st 79 [(0, V.sc (.string o)), (2, V.ptr 0 0), (4, V.ow 1), (5, vI r2)] [Blk.box 23 [vI 0, V.sc (.string ByteArray.empty), V.sc (.string ByteArray.empty), V.sc (.string ByteArray.empty), V.sc (.string ByteArray.empty), V.sc (.string ByteArray.empty), vI 0, vI 0], Blk.row 9 (List.map E9 r1) []] []) (fun (y : Lo Unit Unit) => Lo.elim y (fun s => (X.go, st 79 [(0, V.sc (.string o)), (2, V.ptr 0 0), (4, V.ow 1), (5, vI r2)] [Blk.box 23 [vI 0, V.sc (.string ByteArray.empty), V.sc (.string ByteArray.empty), V.sc (.string ByteArray.empty), V.sc (.string ByteArray.empty), V.sc (.string ByteArray.empty), vI 0, vI 0], Blk.row 9 (List.map E9 r1) []] [])) (fun s => (X.ret, st 79 [(2, V.ptr 0 0), (3, V.sc (.bool false))] [Blk.box 23 [vI 0, V.sc (.string ByteArray.empty), V.sc (.string ByteArray.empty), V.sc (.string ByteArray.empty), V.sc (.string ByteArray.empty), V.sc (.string ByteArray.empty), vI 0, vI 0]] [])))) (spec_TextReq_c0 o r1 r2) := by
  unfold spec_TextReq_c0
  exact
   Pn.ite (fun h4 =>
   Pn.some (JnO.of [.wait 2, .nm 15 (vI (r1.length : Int)), .bit true, .bit true, .bit true, .bit true, .wait 3, .mask [2, 3], .ren [0]] (p := [vI ((List.map E9 r1).length : Int) = vI (r1.length : Int),(decide ((r1.length : Int) < 3)) = true,(decide ((r1.length : Int) < 3)) = true,(decide ((r1.length : Int) < 3)) = true,true = true]) (by kernel_rfl) (cj (len_nm _ _) (cj h4 (cj h4 (cj h4 (cj1 rfl))))))) (fun h4 =>
   Pn.ite (fun h5 =>
   Pn.some (JnO.of [.wait 2, .nm 15 (vI (r1.length : Int)), .bit false, .bit false, .bit false, .bit true, .wait 3, .mask [2, 3], .ren [0]] (p := [vI ((List.map E9 r1).length : Int) = vI (r1.length : Int),(decide ((r1.length : Int) < 3)) = false,(decide ((r1.length : Int) < 3)) = false,(decide ((r1.length : Int) < 3)) = false,(r2 == 0) = true]) (by kernel_rfl) (cj (len_nm _ _) (cj h4 (cj h4 (cj h4 (cj1 h5))))))) (fun h5 =>
   Pn.some (JnO.of [.wait 2, .nm 15 (vI (r1.length : Int)), .bit false, .bit false, .bit false, .bit false, .mask [0, 2, 4, 5], .ren [0, 1]] (p := [vI ((List.map E9 r1).length : Int) = vI (r1.length : Int),(decide ((r1.length : Int) < 3)) = false,(decide ((r1.length : Int) < 3)) = false,(decide ((r1.length : Int) < 3)) = false,(r2 == 0) = false]) (by kernel_rfl) (cj (len_nm _ _) (cj h4 (cj h4 (cj h4 (cj1 h5))))))))
def spec_TextReq_c1 (o : ByteArray) (r1 : (List ByteArray)) (r2 : Int) (x2 : ByteArray) (x3 : ByteArray) (r4 : ByteArray) : Option (ByteArray) :=
 (spec_l11Hold r2).bind fun r5 =>
 if r5 = true then
 ((((r1.drop 3).take (r1.length - 3)) ++ [bs [], bs [], bs []])[0]?).bind fun x4 =>
 some x4
 else
 some ByteArray.empty
theorem spec_TextReq_c1_ok (o : ByteArray) (r1 : (List ByteArray)) (r2 : Int) (x2 : ByteArray) (x3 : ByteArray) (r4 : ByteArray) : Pn (JnO Tryz.prog (sub (codeOf Tryz.prog 4) [1, 1, 1, 1, 1, 1, 0]) (st 79 [(0, V.sc (.string o)), (2, V.ptr 0 0), (5, vI r2), (6, V.ptr 1 0), (7, V.ow 2)] [Blk.box 23 [vI 0, V.sc (.string ByteArray.empty), V.sc (.string ByteArray.empty), V.sc (.string ByteArray.empty), V.sc (.string ByteArray.empty), V.sc (.string ByteArray.empty), vI 0, vI 0], Blk.box 23 [vI r2, V.sc (.string x2), V.sc (.string ByteArray.empty), V.sc (.string ByteArray.empty), V.sc (.string x3), V.sc (.string r4), vI 0, vI 0], Blk.row 9 (List.map E9 (((r1.drop 3).take (r1.length - 3)) ++ [bs [], bs [], bs []])) []] []) (fun (y : ByteArray) => (X.go, st 79 [(0, V.sc (.string o)), (2, V.ptr 0 0), (5, vI r2), (6, V.ptr 1 0), (7, V.ow 2)] [Blk.box 23 [vI 0, V.sc (.string ByteArray.empty), V.sc (.string ByteArray.empty), V.sc (.string ByteArray.empty), V.sc (.string ByteArray.empty), V.sc (.string ByteArray.empty), vI 0, vI 0], Blk.box 23 [vI r2, V.sc (.string x2), V.sc (.string ByteArray.empty), V.sc (.string y), V.sc (.string x3), V.sc (.string r4), vI 0, vI 0], Blk.row 9 (List.map E9 (((r1.drop 3).take (r1.length - 3)) ++ [bs [], bs [], bs []])) []] []))) (spec_TextReq_c1 o r1 r2 x2 x3 r4) := by
  unfold spec_TextReq_c1
  exact
   Pn.bind (fun r5 h14 =>
   Pn.ite (fun h15 =>
   Pn.bind (fun x4 h16 =>
   Pn.some (JnO.of [.call [] (E4 r5) [], .bit true, .el (E9 x4), .wait 3, .mask [0, 2, 5, 6, 7], .ren [0, 1, 2]] (p := [Fn Tryz.prog 10 [(false, E3 r2)] (E4 r5) [],(true || ((E4 r5).nv && nvL [])) = true,r5 = true,(0 : Int) ≤ 0,(0 : Int) < ((List.map E9 (((r1.drop 3).take (r1.length - 3)) ++ [bs [], bs [], bs []])).length : Int),look [] 0 = none,(List.map E9 (((r1.drop 3).take (r1.length - 3)) ++ [bs [], bs [], bs []]))[0]? = some (E9 x4)]) (by kernel_rfl) (cj (spec_l11Hold_ok r2 r5 h14) (cj rfl (cj h15 (cj (by decide) (cj (map_ltN (by decide) h16) (cj rfl (cj1 (map_get h16))))))))))) (fun h15 =>
   Pn.some (JnO.of [.call [] (E4 r5) [], .bit false, .mask [0, 2, 5, 6, 7], .ren [0, 1, 2]] (p := [Fn Tryz.prog 10 [(false, E3 r2)] (E4 r5) [],(true || ((E4 r5).nv && nvL [])) = true,r5 = false]) (by kernel_rfl) (cj (spec_l11Hold_ok r2 r5 h14) (cj rfl (cj1 h15))))))
def spec_TextReq_c2 (o : ByteArray) (r1 : (List ByteArray)) (r2 : Int) (x2 : ByteArray) (x3 : ByteArray) (r4 : ByteArray) (r6 : ByteArray) : Option (Int) :=
 (spec_l11Amount r2).bind fun r7 =>
 if r7 = true then
 ((((r1.drop 3).take (r1.length - 3)) ++ [bs [], bs [], bs []])[1]?).bind fun x5 =>
 (spec_TextNum x5).bind fun r8 =>
 some r8.1
 else
 some 0
theorem spec_TextReq_c2_ok (o : ByteArray) (r1 : (List ByteArray)) (r2 : Int) (x2 : ByteArray) (x3 : ByteArray) (r4 : ByteArray) (r6 : ByteArray) : Pn (JnO Tryz.prog (sub (codeOf Tryz.prog 4) [1, 1, 1, 1, 1, 1, 1, 0]) (st 79 [(0, V.sc (.string o)), (2, V.ptr 0 0), (5, vI r2), (6, V.ptr 1 0), (7, V.ow 2)] [Blk.box 23 [vI 0, V.sc (.string ByteArray.empty), V.sc (.string ByteArray.empty), V.sc (.string ByteArray.empty), V.sc (.string ByteArray.empty), V.sc (.string ByteArray.empty), vI 0, vI 0], Blk.box 23 [vI r2, V.sc (.string x2), V.sc (.string ByteArray.empty), V.sc (.string r6), V.sc (.string x3), V.sc (.string r4), vI 0, vI 0], Blk.row 9 (List.map E9 (((r1.drop 3).take (r1.length - 3)) ++ [bs [], bs [], bs []])) []] []) (fun (y : Int) => (X.go, st 79 [(0, V.sc (.string o)), (2, V.ptr 0 0), (5, vI r2), (6, V.ptr 1 0), (7, V.ow 2)] [Blk.box 23 [vI 0, V.sc (.string ByteArray.empty), V.sc (.string ByteArray.empty), V.sc (.string ByteArray.empty), V.sc (.string ByteArray.empty), V.sc (.string ByteArray.empty), vI 0, vI 0], Blk.box 23 [vI r2, V.sc (.string x2), V.sc (.string ByteArray.empty), V.sc (.string r6), V.sc (.string x3), V.sc (.string r4), vI y, vI 0], Blk.row 9 (List.map E9 (((r1.drop 3).take (r1.length - 3)) ++ [bs [], bs [], bs []])) []] []))) (spec_TextReq_c2 o r1 r2 x2 x3 r4 r6) := by
  unfold spec_TextReq_c2
  exact
   Pn.bind (fun r7 h18 =>
   Pn.ite (fun h19 =>
   Pn.bind (fun x5 h20 =>
   Pn.bind (fun r8 h21 =>
   Pn.some (JnO.of [.call [] (E4 r7) [], .bit true, .el (E9 x5), .call [] (V.tup [E3 r8.1, E4 r8.2]) [], .wait 6, .mask [0, 2, 5, 6, 7], .ren [0, 1, 2]] (p := [Fn Tryz.prog 11 [(false, E3 r2)] (E4 r7) [],(true || ((E4 r7).nv && nvL [])) = true,r7 = true,(0 : Int) ≤ 1,(1 : Int) < ((List.map E9 (((r1.drop 3).take (r1.length - 3)) ++ [bs [], bs [], bs []])).length : Int),look [] 1 = none,(List.map E9 (((r1.drop 3).take (r1.length - 3)) ++ [bs [], bs [], bs []]))[1]? = some (E9 x5),Fn Tryz.prog 12 [(false, E9 x5)] (V.tup [E3 r8.1, E4 r8.2]) [],(true || ((V.tup [E3 r8.1, E4 r8.2]).nv && nvL [])) = true]) (by kernel_rfl) (cj (spec_l11Amount_ok r2 r7 h18) (cj rfl (cj h19 (cj (by decide) (cj (map_ltN (by decide) h20) (cj rfl (cj (map_get h20) (cj (spec_TextNum_ok x5 r8 h21) (cj1 rfl))))))))))))) (fun h19 =>
   Pn.some (JnO.of [.call [] (E4 r7) [], .bit false, .mask [0, 2, 5, 6, 7], .ren [0, 1, 2]] (p := [Fn Tryz.prog 11 [(false, E3 r2)] (E4 r7) [],(true || ((E4 r7).nv && nvL [])) = true,r7 = false]) (by kernel_rfl) (cj (spec_l11Amount_ok r2 r7 h18) (cj rfl (cj1 h19))))))
def spec_TextReq_c3 (o : ByteArray) (r1 : (List ByteArray)) (r2 : Int) (x2 : ByteArray) (x3 : ByteArray) (r4 : ByteArray) (r6 : ByteArray) (r9 : Int) : Option (Int) :=
 if (r2 == 1) = true then
 ((((r1.drop 3).take (r1.length - 3)) ++ [bs [], bs [], bs []])[2]?).bind fun x6 =>
 (spec_TextNum x6).bind fun r10 =>
 some r10.1
 else
 some 0
theorem spec_TextReq_c3_ok (o : ByteArray) (r1 : (List ByteArray)) (r2 : Int) (x2 : ByteArray) (x3 : ByteArray) (r4 : ByteArray) (r6 : ByteArray) (r9 : Int) : Pn (JnO Tryz.prog (sub (codeOf Tryz.prog 4) [1, 1, 1, 1, 1, 1, 1, 1, 0]) (st 79 [(0, V.sc (.string o)), (2, V.ptr 0 0), (5, vI r2), (6, V.ptr 1 0), (7, V.ow 2)] [Blk.box 23 [vI 0, V.sc (.string ByteArray.empty), V.sc (.string ByteArray.empty), V.sc (.string ByteArray.empty), V.sc (.string ByteArray.empty), V.sc (.string ByteArray.empty), vI 0, vI 0], Blk.box 23 [vI r2, V.sc (.string x2), V.sc (.string ByteArray.empty), V.sc (.string r6), V.sc (.string x3), V.sc (.string r4), vI r9, vI 0], Blk.row 9 (List.map E9 (((r1.drop 3).take (r1.length - 3)) ++ [bs [], bs [], bs []])) []] []) (fun (y : Int) => (X.go, st 79 [(0, V.sc (.string o)), (2, V.ptr 0 0), (5, vI r2), (6, V.ptr 1 0), (7, V.ow 2)] [Blk.box 23 [vI 0, V.sc (.string ByteArray.empty), V.sc (.string ByteArray.empty), V.sc (.string ByteArray.empty), V.sc (.string ByteArray.empty), V.sc (.string ByteArray.empty), vI 0, vI 0], Blk.box 23 [vI r2, V.sc (.string x2), V.sc (.string ByteArray.empty), V.sc (.string r6), V.sc (.string x3), V.sc (.string r4), vI r9, vI y], Blk.row 9 (List.map E9 (((r1.drop 3).take (r1.length - 3)) ++ [bs [], bs [], bs []])) []] []))) (spec_TextReq_c3 o r1 r2 x2 x3 r4 r6 r9) := by
  unfold spec_TextReq_c3
  exact
   Pn.ite (fun h23 =>
   Pn.bind (fun x6 h24 =>
   Pn.bind (fun r10 h25 =>
   Pn.some (JnO.of [.bit true, .el (E9 x6), .call [] (V.tup [E3 r10.1, E4 r10.2]) [], .wait 6, .mask [0, 2, 5, 6, 7], .ren [0, 1, 2]] (p := [(r2 == 1) = true,(0 : Int) ≤ 2,(2 : Int) < ((List.map E9 (((r1.drop 3).take (r1.length - 3)) ++ [bs [], bs [], bs []])).length : Int),look [] 2 = none,(List.map E9 (((r1.drop 3).take (r1.length - 3)) ++ [bs [], bs [], bs []]))[2]? = some (E9 x6),Fn Tryz.prog 12 [(false, E9 x6)] (V.tup [E3 r10.1, E4 r10.2]) [],(true || ((V.tup [E3 r10.1, E4 r10.2]).nv && nvL [])) = true]) (by kernel_rfl) (cj h23 (cj (by decide) (cj (map_ltN (by decide) h24) (cj rfl (cj (map_get h24) (cj (spec_TextNum_ok x6 r10 h25) (cj1 rfl))))))))))) (fun h23 =>
   Pn.some (JnO.of [.bit false, .mask [0, 2, 5, 6, 7], .ren [0, 1, 2]] (p := [(r2 == 1) = false]) (by kernel_rfl) (cj1 h23)))
def spec_TextReq_c4 (o : ByteArray) (r1 : (List ByteArray)) (r2 : Int) (x2 : ByteArray) (x3 : ByteArray) (r4 : ByteArray) (r6 : ByteArray) (r9 : Int) (r11 : Int) : Option (ByteArray) :=
 if (r2 == 6) = true then
 ((((r1.drop 3).take (r1.length - 3)) ++ [bs [], bs [], bs []])[1]?).bind fun x7 =>
 some x7
 else
 some ByteArray.empty
theorem spec_TextReq_c4_ok (o : ByteArray) (r1 : (List ByteArray)) (r2 : Int) (x2 : ByteArray) (x3 : ByteArray) (r4 : ByteArray) (r6 : ByteArray) (r9 : Int) (r11 : Int) : Pn (JnO Tryz.prog (sub (codeOf Tryz.prog 4) [1, 1, 1, 1, 1, 1, 1, 1, 1, 0]) (st 79 [(0, V.sc (.string o)), (2, V.ptr 0 0), (5, vI r2), (6, V.ptr 1 0), (7, V.ow 2)] [Blk.box 23 [vI 0, V.sc (.string ByteArray.empty), V.sc (.string ByteArray.empty), V.sc (.string ByteArray.empty), V.sc (.string ByteArray.empty), V.sc (.string ByteArray.empty), vI 0, vI 0], Blk.box 23 [vI r2, V.sc (.string x2), V.sc (.string ByteArray.empty), V.sc (.string r6), V.sc (.string x3), V.sc (.string r4), vI r9, vI r11], Blk.row 9 (List.map E9 (((r1.drop 3).take (r1.length - 3)) ++ [bs [], bs [], bs []])) []] []) (fun (y : ByteArray) => (X.go, st 79 [(0, V.sc (.string o)), (2, V.ptr 0 0), (6, V.ptr 1 0)] [Blk.box 23 [vI 0, V.sc (.string ByteArray.empty), V.sc (.string ByteArray.empty), V.sc (.string ByteArray.empty), V.sc (.string ByteArray.empty), V.sc (.string ByteArray.empty), vI 0, vI 0], Blk.box 23 [vI r2, V.sc (.string x2), V.sc (.string y), V.sc (.string r6), V.sc (.string x3), V.sc (.string r4), vI r9, vI r11]] []))) (spec_TextReq_c4 o r1 r2 x2 x3 r4 r6 r9 r11) := by
  unfold spec_TextReq_c4
  exact
   Pn.ite (fun h27 =>
   Pn.bind (fun x7 h28 =>
   Pn.some (JnO.of [.bit true, .el (E9 x7), .wait 3, .mask [0, 2, 6], .ren [0, 1]] (p := [(r2 == 6) = true,(0 : Int) ≤ 1,(1 : Int) < ((List.map E9 (((r1.drop 3).take (r1.length - 3)) ++ [bs [], bs [], bs []])).length : Int),look [] 1 = none,(List.map E9 (((r1.drop 3).take (r1.length - 3)) ++ [bs [], bs [], bs []]))[1]? = some (E9 x7)]) (by kernel_rfl) (cj h27 (cj (by decide) (cj (map_ltN (by decide) h28) (cj rfl (cj1 (map_get h28))))))))) (fun h27 =>
   Pn.some (JnO.of [.bit false, .mask [0, 2, 6], .ren [0, 1]] (p := [(r2 == 6) = false]) (by kernel_rfl) (cj1 h27)))
def spec_TextReq_c5 (o : ByteArray) (r2 : Int) (x2 : ByteArray) (x3 : ByteArray) (r4 : ByteArray) (r6 : ByteArray) (r9 : Int) (r11 : Int) (r12 : ByteArray) : Option (Lo Unit Unit) :=
 (spec_ReqOk (Req.mk r2 x2 r12 r6 x3 r4 r9 r11)).bind fun r13 =>
 if r13 = true then
 (spec_ReqText (Req.mk r2 x2 r12 r6 x3 r4 r9 r11)).bind fun r14 =>
 if (r14 == o) = true then
 some (.out ())
 else
 some (.ret ())
 else
 some (.ret ())
theorem spec_TextReq_c5_ok (o : ByteArray) (r2 : Int) (x2 : ByteArray) (x3 : ByteArray) (r4 : ByteArray) (r6 : ByteArray) (r9 : Int) (r11 : Int) (r12 : ByteArray) : Pn (JnO Tryz.prog (sub (codeOf Tryz.prog 4) [1, 1, 1, 1, 1, 1, 1, 1, 1, 1, 0]) (st 79 [(0, V.sc (.string o)), (2, V.ptr 0 0), (6, V.ptr 1 0)] [Blk.box 23 [vI 0, V.sc (.string ByteArray.empty), V.sc (.string ByteArray.empty), V.sc (.string ByteArray.empty), V.sc (.string ByteArray.empty), V.sc (.string ByteArray.empty), vI 0, vI 0], Blk.box 23 [vI r2, V.sc (.string x2), V.sc (.string r12), V.sc (.string r6), V.sc (.string x3), V.sc (.string r4), vI r9, vI r11]] []) (fun (y : Lo Unit Unit) => Lo.elim y (fun s => (X.go, st 79 [(2, V.ptr 0 0), (6, V.ptr 1 0)] [Blk.box 23 [vI 0, V.sc (.string ByteArray.empty), V.sc (.string ByteArray.empty), V.sc (.string ByteArray.empty), V.sc (.string ByteArray.empty), V.sc (.string ByteArray.empty), vI 0, vI 0], Blk.box 23 [vI r2, V.sc (.string x2), V.sc (.string r12), V.sc (.string r6), V.sc (.string x3), V.sc (.string r4), vI r9, vI r11]] [])) (fun s => (X.ret, st 79 [(2, V.ptr 0 0), (3, V.sc (.bool false))] [Blk.box 23 [vI 0, V.sc (.string ByteArray.empty), V.sc (.string ByteArray.empty), V.sc (.string ByteArray.empty), V.sc (.string ByteArray.empty), V.sc (.string ByteArray.empty), vI 0, vI 0]] [])))) (spec_TextReq_c5 o r2 x2 x3 r4 r6 r9 r11 r12) := by
  unfold spec_TextReq_c5
  exact
   Pn.bind (fun r13 h30 =>
   Pn.ite (fun h31 =>
   Pn.bind (fun r14 h32 =>
   Pn.ite (fun h33 =>
   Pn.some (JnO.of [.call [] (E4 r13) [], .bit false, .bit false, .call [] (E9 r14) [], .bit false, .bit false, .bit false, .bit false, .mask [2, 6], .ren [0, 1]] (p := [Fn Tryz.prog 13 [(false, E23 (Req.mk r2 x2 r12 r6 x3 r4 r9 r11))] (E4 r13) [],(true || ((E4 r13).nv && nvL [])) = true,(!r13) = false,(!r13) = false,Fn Tryz.prog 14 [(false, E23 (Req.mk r2 x2 r12 r6 x3 r4 r9 r11))] (E9 r14) [],(true || ((E9 r14).nv && nvL [])) = true,(!r13) = false,(!r13) = false,(!r13) = false,(!(r14 == o)) = false]) (by kernel_rfl) (cj (spec_ReqOk_ok (Req.mk r2 x2 r12 r6 x3 r4 r9 r11) r13 h30) (cj rfl (cj (nf h31) (cj (nf h31) (cj (spec_ReqText_ok (Req.mk r2 x2 r12 r6 x3 r4 r9 r11) r14 h32) (cj rfl (cj (nf h31) (cj (nf h31) (cj (nf h31) (cj1 (nf h33))))))))))))) (fun h33 =>
   Pn.some (JnO.of [.call [] (E4 r13) [], .bit false, .bit false, .call [] (E9 r14) [], .bit false, .bit false, .bit false, .bit true, .wait 3, .mask [2, 3], .ren [0]] (p := [Fn Tryz.prog 13 [(false, E23 (Req.mk r2 x2 r12 r6 x3 r4 r9 r11))] (E4 r13) [],(true || ((E4 r13).nv && nvL [])) = true,(!r13) = false,(!r13) = false,Fn Tryz.prog 14 [(false, E23 (Req.mk r2 x2 r12 r6 x3 r4 r9 r11))] (E9 r14) [],(true || ((E9 r14).nv && nvL [])) = true,(!r13) = false,(!r13) = false,(!r13) = false,(!(r14 == o)) = true]) (by kernel_rfl) (cj (spec_ReqOk_ok (Req.mk r2 x2 r12 r6 x3 r4 r9 r11) r13 h30) (cj rfl (cj (nf h31) (cj (nf h31) (cj (spec_ReqText_ok (Req.mk r2 x2 r12 r6 x3 r4 r9 r11) r14 h32) (cj rfl (cj (nf h31) (cj (nf h31) (cj (nf h31) (cj1 (nt h33))))))))))))))) (fun h31 =>
   Pn.some (JnO.of [.call [] (E4 r13) [], .bit true, .bit true, .bit true, .bit true, .bit true, .bit true, .wait 3, .mask [2, 3], .ren [0]] (p := [Fn Tryz.prog 13 [(false, E23 (Req.mk r2 x2 r12 r6 x3 r4 r9 r11))] (E4 r13) [],(true || ((E4 r13).nv && nvL [])) = true,(!r13) = true,(!r13) = true,(!r13) = true,(!r13) = true,(!r13) = true,true = true]) (by kernel_rfl) (cj (spec_ReqOk_ok (Req.mk r2 x2 r12 r6 x3 r4 r9 r11) r13 h30) (cj rfl (cj (nt h31) (cj (nt h31) (cj (nt h31) (cj (nt h31) (cj (nt h31) (cj1 rfl)))))))))))
def spec_TextReq (o : ByteArray) : Option (Req × Bool) :=
 (spec_Cut o).bind fun r1 =>
 (r1[0]?).bind fun x1 =>
 (spec_NameOp x1).bind fun r2 =>
 (spec_TextReq_c0 o r1 r2).bind fun r3 =>
 Lo.elim r3 (fun s1 =>
 (r1[1]?).bind fun x2 =>
 (r1[2]?).bind fun x3 =>
 (spec_OpMti r2).bind fun r4 =>
 if (decide (3 ≤ (r1.length : Int))) = true then
 if (capOk (((r1.drop 3).take (r1.length - 3)).length + 3)) = true then
 (spec_TextReq_c1 o r1 r2 x2 x3 r4).bind fun r6 =>
 (spec_TextReq_c2 o r1 r2 x2 x3 r4 r6).bind fun r9 =>
 (spec_TextReq_c3 o r1 r2 x2 x3 r4 r6 r9).bind fun r11 =>
 (spec_TextReq_c4 o r1 r2 x2 x3 r4 r6 r9 r11).bind fun r12 =>
 (spec_TextReq_c5 o r2 x2 x3 r4 r6 r9 r11 r12).bind fun r15 =>
 Lo.elim r15 (fun s3 =>
 some ((Req.mk r2 x2 r12 r6 x3 r4 r9 r11), true)) (fun s4 =>
 some ((Req.mk 0 ByteArray.empty ByteArray.empty ByteArray.empty ByteArray.empty ByteArray.empty 0 0), false))
 else none
 else none) (fun s2 =>
 some ((Req.mk 0 ByteArray.empty ByteArray.empty ByteArray.empty ByteArray.empty ByteArray.empty 0 0), false))
theorem spec_TextReq_ok (o : ByteArray) : Pn (fun y => Fn Tryz.prog 4 [(false, E9 o)] (V.tup [E23 y.1, E4 y.2]) []) (spec_TextReq o) := by
  unfold spec_TextReq
  exact
   Pn.bind (fun r1 h1 =>
   Pn.bind (fun x1 h2 =>
   Pn.bind (fun r2 h3 =>
   Pn.bind (fun r3 h6 =>
   Pn.lo (fun s1 h7 =>
   Pn.bind (fun x2 h9 =>
   Pn.bind (fun x3 h10 =>
   Pn.bind (fun r4 h11 =>
   Pn.ite (fun h12 =>
   Pn.ite (fun h13 =>
   Pn.bind (fun r6 h17 =>
   Pn.bind (fun r9 h22 =>
   Pn.bind (fun r11 h26 =>
   Pn.bind (fun r12 h29 =>
   Pn.bind (fun r15 h34 =>
   Pn.lo (fun s3 h35 =>
   Pn.some (Fn.of [.call [] (E28 r1) [], .el (E9 x1), .call [] (E3 r2) [], .wait 2, .mask [0, 2, 4, 5], .ren [0, 1], .join 7 (X.go) (st 79 [(0, V.sc (.string o)), (2, V.ptr 0 0), (4, V.ow 1), (5, vI r2)] [Blk.box 23 [vI 0, V.sc (.string ByteArray.empty), V.sc (.string ByteArray.empty), V.sc (.string ByteArray.empty), V.sc (.string ByteArray.empty), V.sc (.string ByteArray.empty), vI 0, vI 0], Blk.row 9 (List.map E9 r1) []] []), .draw [11], .el (E9 x2), .el (E9 x3), .loop .go ((spec_TextReq_s1 o r2 r4 x2 x3 r1)), .call [] (E9 r4) [], .wait 3, .ren [0, 1, 2], .call [] (E9 r4) [], .wait 2, .ren [0, 1, 2], .wait 2, .nm 33 (V.sb 1 1 3 (r1.length - 3)), .cp [V.sc (.string (bs [])), V.sc (.string (bs [])), V.sc (.string (bs []))], .nb 4 (.row 9 (List.map E9 (((r1.drop 3).take (r1.length - 3)) ++ [bs [], bs [], bs []])) []), .wait 2, .mask [0, 2, 5, 6, 7], .ren [0, 2, 4], .join 5 (X.go) (st 79 [(0, V.sc (.string o)), (2, V.ptr 0 0), (5, vI r2), (6, V.ptr 1 0), (7, V.ow 2)] [Blk.box 23 [vI 0, V.sc (.string ByteArray.empty), V.sc (.string ByteArray.empty), V.sc (.string ByteArray.empty), V.sc (.string ByteArray.empty), V.sc (.string ByteArray.empty), vI 0, vI 0], Blk.box 23 [vI r2, V.sc (.string x2), V.sc (.string ByteArray.empty), V.sc (.string r6), V.sc (.string x3), V.sc (.string r4), vI 0, vI 0], Blk.row 9 (List.map E9 (((r1.drop 3).take (r1.length - 3)) ++ [bs [], bs [], bs []])) []] []), .wait 1, .mask [0, 2, 5, 6, 7], .ren [0, 1, 2], .join 5 (X.go) (st 79 [(0, V.sc (.string o)), (2, V.ptr 0 0), (5, vI r2), (6, V.ptr 1 0), (7, V.ow 2)] [Blk.box 23 [vI 0, V.sc (.string ByteArray.empty), V.sc (.string ByteArray.empty), V.sc (.string ByteArray.empty), V.sc (.string ByteArray.empty), V.sc (.string ByteArray.empty), vI 0, vI 0], Blk.box 23 [vI r2, V.sc (.string x2), V.sc (.string ByteArray.empty), V.sc (.string r6), V.sc (.string x3), V.sc (.string r4), vI r9, vI 0], Blk.row 9 (List.map E9 (((r1.drop 3).take (r1.length - 3)) ++ [bs [], bs [], bs []])) []] []), .wait 1, .mask [0, 2, 5, 6, 7], .ren [0, 1, 2], .join 5 (X.go) (st 79 [(0, V.sc (.string o)), (2, V.ptr 0 0), (5, vI r2), (6, V.ptr 1 0), (7, V.ow 2)] [Blk.box 23 [vI 0, V.sc (.string ByteArray.empty), V.sc (.string ByteArray.empty), V.sc (.string ByteArray.empty), V.sc (.string ByteArray.empty), V.sc (.string ByteArray.empty), vI 0, vI 0], Blk.box 23 [vI r2, V.sc (.string x2), V.sc (.string ByteArray.empty), V.sc (.string r6), V.sc (.string x3), V.sc (.string r4), vI r9, vI r11], Blk.row 9 (List.map E9 (((r1.drop 3).take (r1.length - 3)) ++ [bs [], bs [], bs []])) []] []), .wait 1, .mask [0, 2, 5, 6, 7], .ren [0, 1, 2], .join 5 (X.go) (st 79 [(0, V.sc (.string o)), (2, V.ptr 0 0), (6, V.ptr 1 0)] [Blk.box 23 [vI 0, V.sc (.string ByteArray.empty), V.sc (.string ByteArray.empty), V.sc (.string ByteArray.empty), V.sc (.string ByteArray.empty), V.sc (.string ByteArray.empty), vI 0, vI 0], Blk.box 23 [vI r2, V.sc (.string x2), V.sc (.string r12), V.sc (.string r6), V.sc (.string x3), V.sc (.string r4), vI r9, vI r11]] []), .wait 1, .mask [0, 2, 6], .ren [0, 1], .join 7 (X.go) (st 79 [(2, V.ptr 0 0), (6, V.ptr 1 0)] [Blk.box 23 [vI 0, V.sc (.string ByteArray.empty), V.sc (.string ByteArray.empty), V.sc (.string ByteArray.empty), V.sc (.string ByteArray.empty), V.sc (.string ByteArray.empty), vI 0, vI 0], Blk.box 23 [vI r2, V.sc (.string x2), V.sc (.string r12), V.sc (.string r6), V.sc (.string x3), V.sc (.string r4), vI r9, vI r11]] [])] (p := [Fn Tryz.prog 7 [(false, E9 o)] (E28 r1) [],(true || ((E28 r1).nv && nvL [])) = true,(0 : Int) ≤ 0,(0 : Int) < ((List.map E9 r1).length : Int),look [] 0 = none,(List.map E9 r1)[0]? = some (E9 x1),Fn Tryz.prog 8 [(false, E9 x1)] (E3 r2) [],(true || ((E3 r2).nv && nvL [])) = true,HT Tryz.prog (sub (codeOf Tryz.prog 4) [1, 1, 1, 0]) (st 79 [(0, V.sc (.string o)), (2, V.ptr 0 0), (4, V.ow 1), (5, vI r2)] [Blk.box 23 [vI 0, V.sc (.string ByteArray.empty), V.sc (.string ByteArray.empty), V.sc (.string ByteArray.empty), V.sc (.string ByteArray.empty), V.sc (.string ByteArray.empty), vI 0, vI 0], Blk.row 9 (List.map E9 r1) []] []) (X.go) (st 79 [(0, V.sc (.string o)), (2, V.ptr 0 0), (4, V.ow 1), (5, vI r2)] [Blk.box 23 [vI 0, V.sc (.string ByteArray.empty), V.sc (.string ByteArray.empty), V.sc (.string ByteArray.empty), V.sc (.string ByteArray.empty), V.sc (.string ByteArray.empty), vI 0, vI 0], Blk.row 9 (List.map E9 r1) []] []),(0 : Int) ≤ 1,(1 : Int) < ((List.map E9 r1).length : Int),look [] 1 = none,(List.map E9 r1)[1]? = some (E9 x2),(0 : Int) ≤ 2,(2 : Int) < ((List.map E9 r1).length : Int),look [] 2 = none,(List.map E9 r1)[2]? = some (E9 x3),Fn Tryz.prog 9 [(false, E3 r2)] (E9 r4) [],(true || ((E9 r4).nv && nvL [])) = true,(spec_TextReq_s1 o r2 r4 x2 x3 r1) = (spec_TextReq_s1 o r2 r4 x2 x3 r1),Fn Tryz.prog 9 [(false, E3 r2)] (E9 r4) [],(true || ((E9 r4).nv && nvL [])) = true,(spec_TextReq_s1 o r2 r4 x2 x3 r1) = (spec_TextReq_s1 o r2 r4 x2 x3 r1),(0 : Int) ≤ 3,(3 : Int) ≤ ((List.map E9 r1).length : Int),(((List.map E9 r1).length : Int) : Int) ≤ ((List.map E9 r1).length : Int),V.sb 1 1 3 ((((List.map E9 r1).length : Int).toNat) - (3)) = V.sb 1 1 3 (r1.length - 3),[V.sc (.string (bs [])), V.sc (.string (bs [])), V.sc (.string (bs []))] = [V.sc (.string (bs [])), V.sc (.string (bs [])), V.sc (.string (bs []))],[V.sc (.string (bs [])), V.sc (.string (bs [])), V.sc (.string (bs []))].all V.flatE = true,(((List.map E9 r1).drop 3).take (r1.length - 3)).length + [V.sc (.string (bs [])), V.sc (.string (bs [])), V.sc (.string (bs []))].length ≤ 9223372036854775807,((((List.map E9 r1).drop 3).take (r1.length - 3)).length + [V.sc (.string (bs [])), V.sc (.string (bs [])), V.sc (.string (bs []))].length) * 16 ≤ 140737488355328,Blk.row 9 ((((List.map E9 r1).drop 3).take (r1.length - 3)) ++ [V.sc (.string (bs [])), V.sc (.string (bs [])), V.sc (.string (bs []))]) [] = Blk.row 9 (List.map E9 (((r1.drop 3).take (r1.length - 3)) ++ [bs [], bs [], bs []])) [],HT Tryz.prog (sub (codeOf Tryz.prog 4) [1, 1, 1, 1, 1, 1, 0]) (st 79 [(0, V.sc (.string o)), (2, V.ptr 0 0), (5, vI r2), (6, V.ptr 1 0), (7, V.ow 2)] [Blk.box 23 [vI 0, V.sc (.string ByteArray.empty), V.sc (.string ByteArray.empty), V.sc (.string ByteArray.empty), V.sc (.string ByteArray.empty), V.sc (.string ByteArray.empty), vI 0, vI 0], Blk.box 23 [vI r2, V.sc (.string x2), V.sc (.string ByteArray.empty), V.sc (.string ByteArray.empty), V.sc (.string x3), V.sc (.string r4), vI 0, vI 0], Blk.row 9 (List.map E9 (((r1.drop 3).take (r1.length - 3)) ++ [bs [], bs [], bs []])) []] []) (X.go) (st 79 [(0, V.sc (.string o)), (2, V.ptr 0 0), (5, vI r2), (6, V.ptr 1 0), (7, V.ow 2)] [Blk.box 23 [vI 0, V.sc (.string ByteArray.empty), V.sc (.string ByteArray.empty), V.sc (.string ByteArray.empty), V.sc (.string ByteArray.empty), V.sc (.string ByteArray.empty), vI 0, vI 0], Blk.box 23 [vI r2, V.sc (.string x2), V.sc (.string ByteArray.empty), V.sc (.string r6), V.sc (.string x3), V.sc (.string r4), vI 0, vI 0], Blk.row 9 (List.map E9 (((r1.drop 3).take (r1.length - 3)) ++ [bs [], bs [], bs []])) []] []),HT Tryz.prog (sub (codeOf Tryz.prog 4) [1, 1, 1, 1, 1, 1, 1, 0]) (st 79 [(0, V.sc (.string o)), (2, V.ptr 0 0), (5, vI r2), (6, V.ptr 1 0), (7, V.ow 2)] [Blk.box 23 [vI 0, V.sc (.string ByteArray.empty), V.sc (.string ByteArray.empty), V.sc (.string ByteArray.empty), V.sc (.string ByteArray.empty), V.sc (.string ByteArray.empty), vI 0, vI 0], Blk.box 23 [vI r2, V.sc (.string x2), V.sc (.string ByteArray.empty), V.sc (.string r6), V.sc (.string x3), V.sc (.string r4), vI 0, vI 0], Blk.row 9 (List.map E9 (((r1.drop 3).take (r1.length - 3)) ++ [bs [], bs [], bs []])) []] []) (X.go) (st 79 [(0, V.sc (.string o)), (2, V.ptr 0 0), (5, vI r2), (6, V.ptr 1 0), (7, V.ow 2)] [Blk.box 23 [vI 0, V.sc (.string ByteArray.empty), V.sc (.string ByteArray.empty), V.sc (.string ByteArray.empty), V.sc (.string ByteArray.empty), V.sc (.string ByteArray.empty), vI 0, vI 0], Blk.box 23 [vI r2, V.sc (.string x2), V.sc (.string ByteArray.empty), V.sc (.string r6), V.sc (.string x3), V.sc (.string r4), vI r9, vI 0], Blk.row 9 (List.map E9 (((r1.drop 3).take (r1.length - 3)) ++ [bs [], bs [], bs []])) []] []),HT Tryz.prog (sub (codeOf Tryz.prog 4) [1, 1, 1, 1, 1, 1, 1, 1, 0]) (st 79 [(0, V.sc (.string o)), (2, V.ptr 0 0), (5, vI r2), (6, V.ptr 1 0), (7, V.ow 2)] [Blk.box 23 [vI 0, V.sc (.string ByteArray.empty), V.sc (.string ByteArray.empty), V.sc (.string ByteArray.empty), V.sc (.string ByteArray.empty), V.sc (.string ByteArray.empty), vI 0, vI 0], Blk.box 23 [vI r2, V.sc (.string x2), V.sc (.string ByteArray.empty), V.sc (.string r6), V.sc (.string x3), V.sc (.string r4), vI r9, vI 0], Blk.row 9 (List.map E9 (((r1.drop 3).take (r1.length - 3)) ++ [bs [], bs [], bs []])) []] []) (X.go) (st 79 [(0, V.sc (.string o)), (2, V.ptr 0 0), (5, vI r2), (6, V.ptr 1 0), (7, V.ow 2)] [Blk.box 23 [vI 0, V.sc (.string ByteArray.empty), V.sc (.string ByteArray.empty), V.sc (.string ByteArray.empty), V.sc (.string ByteArray.empty), V.sc (.string ByteArray.empty), vI 0, vI 0], Blk.box 23 [vI r2, V.sc (.string x2), V.sc (.string ByteArray.empty), V.sc (.string r6), V.sc (.string x3), V.sc (.string r4), vI r9, vI r11], Blk.row 9 (List.map E9 (((r1.drop 3).take (r1.length - 3)) ++ [bs [], bs [], bs []])) []] []),HT Tryz.prog (sub (codeOf Tryz.prog 4) [1, 1, 1, 1, 1, 1, 1, 1, 1, 0]) (st 79 [(0, V.sc (.string o)), (2, V.ptr 0 0), (5, vI r2), (6, V.ptr 1 0), (7, V.ow 2)] [Blk.box 23 [vI 0, V.sc (.string ByteArray.empty), V.sc (.string ByteArray.empty), V.sc (.string ByteArray.empty), V.sc (.string ByteArray.empty), V.sc (.string ByteArray.empty), vI 0, vI 0], Blk.box 23 [vI r2, V.sc (.string x2), V.sc (.string ByteArray.empty), V.sc (.string r6), V.sc (.string x3), V.sc (.string r4), vI r9, vI r11], Blk.row 9 (List.map E9 (((r1.drop 3).take (r1.length - 3)) ++ [bs [], bs [], bs []])) []] []) (X.go) (st 79 [(0, V.sc (.string o)), (2, V.ptr 0 0), (6, V.ptr 1 0)] [Blk.box 23 [vI 0, V.sc (.string ByteArray.empty), V.sc (.string ByteArray.empty), V.sc (.string ByteArray.empty), V.sc (.string ByteArray.empty), V.sc (.string ByteArray.empty), vI 0, vI 0], Blk.box 23 [vI r2, V.sc (.string x2), V.sc (.string r12), V.sc (.string r6), V.sc (.string x3), V.sc (.string r4), vI r9, vI r11]] []),HT Tryz.prog (sub (codeOf Tryz.prog 4) [1, 1, 1, 1, 1, 1, 1, 1, 1, 1, 0]) (st 79 [(0, V.sc (.string o)), (2, V.ptr 0 0), (6, V.ptr 1 0)] [Blk.box 23 [vI 0, V.sc (.string ByteArray.empty), V.sc (.string ByteArray.empty), V.sc (.string ByteArray.empty), V.sc (.string ByteArray.empty), V.sc (.string ByteArray.empty), vI 0, vI 0], Blk.box 23 [vI r2, V.sc (.string x2), V.sc (.string r12), V.sc (.string r6), V.sc (.string x3), V.sc (.string r4), vI r9, vI r11]] []) (X.go) (st 79 [(2, V.ptr 0 0), (6, V.ptr 1 0)] [Blk.box 23 [vI 0, V.sc (.string ByteArray.empty), V.sc (.string ByteArray.empty), V.sc (.string ByteArray.empty), V.sc (.string ByteArray.empty), V.sc (.string ByteArray.empty), vI 0, vI 0], Blk.box 23 [vI r2, V.sc (.string x2), V.sc (.string r12), V.sc (.string r6), V.sc (.string x3), V.sc (.string r4), vI r9, vI r11]] [])]) (by kernel_rfl) (cj (spec_Cut_ok o r1 h1) (cj rfl (cj (by decide) (cj (map_ltN (by decide) h2) (cj rfl (cj (map_get h2) (cj (spec_NameOp_ok x1 r2 h3) (cj rfl (cj ((spec_TextReq_c0_ok o r1 r2 r3 h6).at h7 :) (cj (by decide) (cj (map_ltN (by decide) h9) (cj rfl (cj (map_get h9) (cj (by decide) (cj (map_ltN (by decide) h10) (cj rfl (cj (map_get h10) (cj (spec_OpMti_ok r2 r4 h11) (cj rfl (cj rfl (cj (spec_OpMti_ok r2 r4 h11) (cj rfl (cj rfl (cj (by decide) (cj (by rw [List.length_map]; exact (od h12)) (cj (Int.le_refl _) (cj (by simp) (cj rfl (cj rfl (cj (cap1 (capN (by simp) h13)) (cj (cap2 (capN (by simp) h13) (by decide)) (cj (by rw [cut_map]; exact nb_app E9 ((r1.drop 3).take (r1.length - 3)) [bs [], bs [], bs []]) (cj (spec_TextReq_c1_ok o r1 r2 x2 x3 r4 r6 h17) (cj (spec_TextReq_c2_ok o r1 r2 x2 x3 r4 r6 r9 h22) (cj (spec_TextReq_c3_ok o r1 r2 x2 x3 r4 r6 r9 r11 h26) (cj (spec_TextReq_c4_ok o r1 r2 x2 x3 r4 r6 r9 r11 r12 h29) (cj1 ((spec_TextReq_c5_ok o r2 x2 x3 r4 r6 r9 r11 r12 r15 h34).at h35 :)))))))))))))))))))))))))))))))))))))))) (fun s4 h36 =>
   Pn.some (Fn.of [.call [] (E28 r1) [], .el (E9 x1), .call [] (E3 r2) [], .wait 2, .mask [0, 2, 4, 5], .ren [0, 1], .join 7 (X.go) (st 79 [(0, V.sc (.string o)), (2, V.ptr 0 0), (4, V.ow 1), (5, vI r2)] [Blk.box 23 [vI 0, V.sc (.string ByteArray.empty), V.sc (.string ByteArray.empty), V.sc (.string ByteArray.empty), V.sc (.string ByteArray.empty), V.sc (.string ByteArray.empty), vI 0, vI 0], Blk.row 9 (List.map E9 r1) []] []), .draw [11], .el (E9 x2), .el (E9 x3), .loop .go ((spec_TextReq_s1 o r2 r4 x2 x3 r1)), .call [] (E9 r4) [], .wait 3, .ren [0, 1, 2], .call [] (E9 r4) [], .wait 2, .ren [0, 1, 2], .wait 2, .nm 33 (V.sb 1 1 3 (r1.length - 3)), .cp [V.sc (.string (bs [])), V.sc (.string (bs [])), V.sc (.string (bs []))], .nb 4 (.row 9 (List.map E9 (((r1.drop 3).take (r1.length - 3)) ++ [bs [], bs [], bs []])) []), .wait 2, .mask [0, 2, 5, 6, 7], .ren [0, 2, 4], .join 5 (X.go) (st 79 [(0, V.sc (.string o)), (2, V.ptr 0 0), (5, vI r2), (6, V.ptr 1 0), (7, V.ow 2)] [Blk.box 23 [vI 0, V.sc (.string ByteArray.empty), V.sc (.string ByteArray.empty), V.sc (.string ByteArray.empty), V.sc (.string ByteArray.empty), V.sc (.string ByteArray.empty), vI 0, vI 0], Blk.box 23 [vI r2, V.sc (.string x2), V.sc (.string ByteArray.empty), V.sc (.string r6), V.sc (.string x3), V.sc (.string r4), vI 0, vI 0], Blk.row 9 (List.map E9 (((r1.drop 3).take (r1.length - 3)) ++ [bs [], bs [], bs []])) []] []), .wait 1, .mask [0, 2, 5, 6, 7], .ren [0, 1, 2], .join 5 (X.go) (st 79 [(0, V.sc (.string o)), (2, V.ptr 0 0), (5, vI r2), (6, V.ptr 1 0), (7, V.ow 2)] [Blk.box 23 [vI 0, V.sc (.string ByteArray.empty), V.sc (.string ByteArray.empty), V.sc (.string ByteArray.empty), V.sc (.string ByteArray.empty), V.sc (.string ByteArray.empty), vI 0, vI 0], Blk.box 23 [vI r2, V.sc (.string x2), V.sc (.string ByteArray.empty), V.sc (.string r6), V.sc (.string x3), V.sc (.string r4), vI r9, vI 0], Blk.row 9 (List.map E9 (((r1.drop 3).take (r1.length - 3)) ++ [bs [], bs [], bs []])) []] []), .wait 1, .mask [0, 2, 5, 6, 7], .ren [0, 1, 2], .join 5 (X.go) (st 79 [(0, V.sc (.string o)), (2, V.ptr 0 0), (5, vI r2), (6, V.ptr 1 0), (7, V.ow 2)] [Blk.box 23 [vI 0, V.sc (.string ByteArray.empty), V.sc (.string ByteArray.empty), V.sc (.string ByteArray.empty), V.sc (.string ByteArray.empty), V.sc (.string ByteArray.empty), vI 0, vI 0], Blk.box 23 [vI r2, V.sc (.string x2), V.sc (.string ByteArray.empty), V.sc (.string r6), V.sc (.string x3), V.sc (.string r4), vI r9, vI r11], Blk.row 9 (List.map E9 (((r1.drop 3).take (r1.length - 3)) ++ [bs [], bs [], bs []])) []] []), .wait 1, .mask [0, 2, 5, 6, 7], .ren [0, 1, 2], .join 5 (X.go) (st 79 [(0, V.sc (.string o)), (2, V.ptr 0 0), (6, V.ptr 1 0)] [Blk.box 23 [vI 0, V.sc (.string ByteArray.empty), V.sc (.string ByteArray.empty), V.sc (.string ByteArray.empty), V.sc (.string ByteArray.empty), V.sc (.string ByteArray.empty), vI 0, vI 0], Blk.box 23 [vI r2, V.sc (.string x2), V.sc (.string r12), V.sc (.string r6), V.sc (.string x3), V.sc (.string r4), vI r9, vI r11]] []), .wait 1, .mask [0, 2, 6], .ren [0, 1], .join 7 (X.ret) (st 79 [(2, V.ptr 0 0), (3, V.sc (.bool false))] [Blk.box 23 [vI 0, V.sc (.string ByteArray.empty), V.sc (.string ByteArray.empty), V.sc (.string ByteArray.empty), V.sc (.string ByteArray.empty), V.sc (.string ByteArray.empty), vI 0, vI 0]] [])] (p := [Fn Tryz.prog 7 [(false, E9 o)] (E28 r1) [],(true || ((E28 r1).nv && nvL [])) = true,(0 : Int) ≤ 0,(0 : Int) < ((List.map E9 r1).length : Int),look [] 0 = none,(List.map E9 r1)[0]? = some (E9 x1),Fn Tryz.prog 8 [(false, E9 x1)] (E3 r2) [],(true || ((E3 r2).nv && nvL [])) = true,HT Tryz.prog (sub (codeOf Tryz.prog 4) [1, 1, 1, 0]) (st 79 [(0, V.sc (.string o)), (2, V.ptr 0 0), (4, V.ow 1), (5, vI r2)] [Blk.box 23 [vI 0, V.sc (.string ByteArray.empty), V.sc (.string ByteArray.empty), V.sc (.string ByteArray.empty), V.sc (.string ByteArray.empty), V.sc (.string ByteArray.empty), vI 0, vI 0], Blk.row 9 (List.map E9 r1) []] []) (X.go) (st 79 [(0, V.sc (.string o)), (2, V.ptr 0 0), (4, V.ow 1), (5, vI r2)] [Blk.box 23 [vI 0, V.sc (.string ByteArray.empty), V.sc (.string ByteArray.empty), V.sc (.string ByteArray.empty), V.sc (.string ByteArray.empty), V.sc (.string ByteArray.empty), vI 0, vI 0], Blk.row 9 (List.map E9 r1) []] []),(0 : Int) ≤ 1,(1 : Int) < ((List.map E9 r1).length : Int),look [] 1 = none,(List.map E9 r1)[1]? = some (E9 x2),(0 : Int) ≤ 2,(2 : Int) < ((List.map E9 r1).length : Int),look [] 2 = none,(List.map E9 r1)[2]? = some (E9 x3),Fn Tryz.prog 9 [(false, E3 r2)] (E9 r4) [],(true || ((E9 r4).nv && nvL [])) = true,(spec_TextReq_s1 o r2 r4 x2 x3 r1) = (spec_TextReq_s1 o r2 r4 x2 x3 r1),Fn Tryz.prog 9 [(false, E3 r2)] (E9 r4) [],(true || ((E9 r4).nv && nvL [])) = true,(spec_TextReq_s1 o r2 r4 x2 x3 r1) = (spec_TextReq_s1 o r2 r4 x2 x3 r1),(0 : Int) ≤ 3,(3 : Int) ≤ ((List.map E9 r1).length : Int),(((List.map E9 r1).length : Int) : Int) ≤ ((List.map E9 r1).length : Int),V.sb 1 1 3 ((((List.map E9 r1).length : Int).toNat) - (3)) = V.sb 1 1 3 (r1.length - 3),[V.sc (.string (bs [])), V.sc (.string (bs [])), V.sc (.string (bs []))] = [V.sc (.string (bs [])), V.sc (.string (bs [])), V.sc (.string (bs []))],[V.sc (.string (bs [])), V.sc (.string (bs [])), V.sc (.string (bs []))].all V.flatE = true,(((List.map E9 r1).drop 3).take (r1.length - 3)).length + [V.sc (.string (bs [])), V.sc (.string (bs [])), V.sc (.string (bs []))].length ≤ 9223372036854775807,((((List.map E9 r1).drop 3).take (r1.length - 3)).length + [V.sc (.string (bs [])), V.sc (.string (bs [])), V.sc (.string (bs []))].length) * 16 ≤ 140737488355328,Blk.row 9 ((((List.map E9 r1).drop 3).take (r1.length - 3)) ++ [V.sc (.string (bs [])), V.sc (.string (bs [])), V.sc (.string (bs []))]) [] = Blk.row 9 (List.map E9 (((r1.drop 3).take (r1.length - 3)) ++ [bs [], bs [], bs []])) [],HT Tryz.prog (sub (codeOf Tryz.prog 4) [1, 1, 1, 1, 1, 1, 0]) (st 79 [(0, V.sc (.string o)), (2, V.ptr 0 0), (5, vI r2), (6, V.ptr 1 0), (7, V.ow 2)] [Blk.box 23 [vI 0, V.sc (.string ByteArray.empty), V.sc (.string ByteArray.empty), V.sc (.string ByteArray.empty), V.sc (.string ByteArray.empty), V.sc (.string ByteArray.empty), vI 0, vI 0], Blk.box 23 [vI r2, V.sc (.string x2), V.sc (.string ByteArray.empty), V.sc (.string ByteArray.empty), V.sc (.string x3), V.sc (.string r4), vI 0, vI 0], Blk.row 9 (List.map E9 (((r1.drop 3).take (r1.length - 3)) ++ [bs [], bs [], bs []])) []] []) (X.go) (st 79 [(0, V.sc (.string o)), (2, V.ptr 0 0), (5, vI r2), (6, V.ptr 1 0), (7, V.ow 2)] [Blk.box 23 [vI 0, V.sc (.string ByteArray.empty), V.sc (.string ByteArray.empty), V.sc (.string ByteArray.empty), V.sc (.string ByteArray.empty), V.sc (.string ByteArray.empty), vI 0, vI 0], Blk.box 23 [vI r2, V.sc (.string x2), V.sc (.string ByteArray.empty), V.sc (.string r6), V.sc (.string x3), V.sc (.string r4), vI 0, vI 0], Blk.row 9 (List.map E9 (((r1.drop 3).take (r1.length - 3)) ++ [bs [], bs [], bs []])) []] []),HT Tryz.prog (sub (codeOf Tryz.prog 4) [1, 1, 1, 1, 1, 1, 1, 0]) (st 79 [(0, V.sc (.string o)), (2, V.ptr 0 0), (5, vI r2), (6, V.ptr 1 0), (7, V.ow 2)] [Blk.box 23 [vI 0, V.sc (.string ByteArray.empty), V.sc (.string ByteArray.empty), V.sc (.string ByteArray.empty), V.sc (.string ByteArray.empty), V.sc (.string ByteArray.empty), vI 0, vI 0], Blk.box 23 [vI r2, V.sc (.string x2), V.sc (.string ByteArray.empty), V.sc (.string r6), V.sc (.string x3), V.sc (.string r4), vI 0, vI 0], Blk.row 9 (List.map E9 (((r1.drop 3).take (r1.length - 3)) ++ [bs [], bs [], bs []])) []] []) (X.go) (st 79 [(0, V.sc (.string o)), (2, V.ptr 0 0), (5, vI r2), (6, V.ptr 1 0), (7, V.ow 2)] [Blk.box 23 [vI 0, V.sc (.string ByteArray.empty), V.sc (.string ByteArray.empty), V.sc (.string ByteArray.empty), V.sc (.string ByteArray.empty), V.sc (.string ByteArray.empty), vI 0, vI 0], Blk.box 23 [vI r2, V.sc (.string x2), V.sc (.string ByteArray.empty), V.sc (.string r6), V.sc (.string x3), V.sc (.string r4), vI r9, vI 0], Blk.row 9 (List.map E9 (((r1.drop 3).take (r1.length - 3)) ++ [bs [], bs [], bs []])) []] []),HT Tryz.prog (sub (codeOf Tryz.prog 4) [1, 1, 1, 1, 1, 1, 1, 1, 0]) (st 79 [(0, V.sc (.string o)), (2, V.ptr 0 0), (5, vI r2), (6, V.ptr 1 0), (7, V.ow 2)] [Blk.box 23 [vI 0, V.sc (.string ByteArray.empty), V.sc (.string ByteArray.empty), V.sc (.string ByteArray.empty), V.sc (.string ByteArray.empty), V.sc (.string ByteArray.empty), vI 0, vI 0], Blk.box 23 [vI r2, V.sc (.string x2), V.sc (.string ByteArray.empty), V.sc (.string r6), V.sc (.string x3), V.sc (.string r4), vI r9, vI 0], Blk.row 9 (List.map E9 (((r1.drop 3).take (r1.length - 3)) ++ [bs [], bs [], bs []])) []] []) (X.go) (st 79 [(0, V.sc (.string o)), (2, V.ptr 0 0), (5, vI r2), (6, V.ptr 1 0), (7, V.ow 2)] [Blk.box 23 [vI 0, V.sc (.string ByteArray.empty), V.sc (.string ByteArray.empty), V.sc (.string ByteArray.empty), V.sc (.string ByteArray.empty), V.sc (.string ByteArray.empty), vI 0, vI 0], Blk.box 23 [vI r2, V.sc (.string x2), V.sc (.string ByteArray.empty), V.sc (.string r6), V.sc (.string x3), V.sc (.string r4), vI r9, vI r11], Blk.row 9 (List.map E9 (((r1.drop 3).take (r1.length - 3)) ++ [bs [], bs [], bs []])) []] []),HT Tryz.prog (sub (codeOf Tryz.prog 4) [1, 1, 1, 1, 1, 1, 1, 1, 1, 0]) (st 79 [(0, V.sc (.string o)), (2, V.ptr 0 0), (5, vI r2), (6, V.ptr 1 0), (7, V.ow 2)] [Blk.box 23 [vI 0, V.sc (.string ByteArray.empty), V.sc (.string ByteArray.empty), V.sc (.string ByteArray.empty), V.sc (.string ByteArray.empty), V.sc (.string ByteArray.empty), vI 0, vI 0], Blk.box 23 [vI r2, V.sc (.string x2), V.sc (.string ByteArray.empty), V.sc (.string r6), V.sc (.string x3), V.sc (.string r4), vI r9, vI r11], Blk.row 9 (List.map E9 (((r1.drop 3).take (r1.length - 3)) ++ [bs [], bs [], bs []])) []] []) (X.go) (st 79 [(0, V.sc (.string o)), (2, V.ptr 0 0), (6, V.ptr 1 0)] [Blk.box 23 [vI 0, V.sc (.string ByteArray.empty), V.sc (.string ByteArray.empty), V.sc (.string ByteArray.empty), V.sc (.string ByteArray.empty), V.sc (.string ByteArray.empty), vI 0, vI 0], Blk.box 23 [vI r2, V.sc (.string x2), V.sc (.string r12), V.sc (.string r6), V.sc (.string x3), V.sc (.string r4), vI r9, vI r11]] []),HT Tryz.prog (sub (codeOf Tryz.prog 4) [1, 1, 1, 1, 1, 1, 1, 1, 1, 1, 0]) (st 79 [(0, V.sc (.string o)), (2, V.ptr 0 0), (6, V.ptr 1 0)] [Blk.box 23 [vI 0, V.sc (.string ByteArray.empty), V.sc (.string ByteArray.empty), V.sc (.string ByteArray.empty), V.sc (.string ByteArray.empty), V.sc (.string ByteArray.empty), vI 0, vI 0], Blk.box 23 [vI r2, V.sc (.string x2), V.sc (.string r12), V.sc (.string r6), V.sc (.string x3), V.sc (.string r4), vI r9, vI r11]] []) (X.ret) (st 79 [(2, V.ptr 0 0), (3, V.sc (.bool false))] [Blk.box 23 [vI 0, V.sc (.string ByteArray.empty), V.sc (.string ByteArray.empty), V.sc (.string ByteArray.empty), V.sc (.string ByteArray.empty), V.sc (.string ByteArray.empty), vI 0, vI 0]] [])]) (by kernel_rfl) (cj (spec_Cut_ok o r1 h1) (cj rfl (cj (by decide) (cj (map_ltN (by decide) h2) (cj rfl (cj (map_get h2) (cj (spec_NameOp_ok x1 r2 h3) (cj rfl (cj ((spec_TextReq_c0_ok o r1 r2 r3 h6).at h7 :) (cj (by decide) (cj (map_ltN (by decide) h9) (cj rfl (cj (map_get h9) (cj (by decide) (cj (map_ltN (by decide) h10) (cj rfl (cj (map_get h10) (cj (spec_OpMti_ok r2 r4 h11) (cj rfl (cj rfl (cj (spec_OpMti_ok r2 r4 h11) (cj rfl (cj rfl (cj (by decide) (cj (by rw [List.length_map]; exact (od h12)) (cj (Int.le_refl _) (cj (by simp) (cj rfl (cj rfl (cj (cap1 (capN (by simp) h13)) (cj (cap2 (capN (by simp) h13) (by decide)) (cj (by rw [cut_map]; exact nb_app E9 ((r1.drop 3).take (r1.length - 3)) [bs [], bs [], bs []]) (cj (spec_TextReq_c1_ok o r1 r2 x2 x3 r4 r6 h17) (cj (spec_TextReq_c2_ok o r1 r2 x2 x3 r4 r6 r9 h22) (cj (spec_TextReq_c3_ok o r1 r2 x2 x3 r4 r6 r9 r11 h26) (cj (spec_TextReq_c4_ok o r1 r2 x2 x3 r4 r6 r9 r11 r12 h29) (cj1 ((spec_TextReq_c5_ok o r2 x2 x3 r4 r6 r9 r11 r12 r15 h34).at h36 :)))))))))))))))))))))))))))))))))))))))))))))) (fun h13 =>
   Pn.none)) (fun h12 =>
   Pn.none))))) (fun s2 h8 =>
   Pn.some (Fn.of [.call [] (E28 r1) [], .el (E9 x1), .call [] (E3 r2) [], .wait 2, .mask [0, 2, 4, 5], .ren [0, 1], .join 7 (X.ret) (st 79 [(2, V.ptr 0 0), (3, V.sc (.bool false))] [Blk.box 23 [vI 0, V.sc (.string ByteArray.empty), V.sc (.string ByteArray.empty), V.sc (.string ByteArray.empty), V.sc (.string ByteArray.empty), V.sc (.string ByteArray.empty), vI 0, vI 0]] [])] (p := [Fn Tryz.prog 7 [(false, E9 o)] (E28 r1) [],(true || ((E28 r1).nv && nvL [])) = true,(0 : Int) ≤ 0,(0 : Int) < ((List.map E9 r1).length : Int),look [] 0 = none,(List.map E9 r1)[0]? = some (E9 x1),Fn Tryz.prog 8 [(false, E9 x1)] (E3 r2) [],(true || ((E3 r2).nv && nvL [])) = true,HT Tryz.prog (sub (codeOf Tryz.prog 4) [1, 1, 1, 0]) (st 79 [(0, V.sc (.string o)), (2, V.ptr 0 0), (4, V.ow 1), (5, vI r2)] [Blk.box 23 [vI 0, V.sc (.string ByteArray.empty), V.sc (.string ByteArray.empty), V.sc (.string ByteArray.empty), V.sc (.string ByteArray.empty), V.sc (.string ByteArray.empty), vI 0, vI 0], Blk.row 9 (List.map E9 r1) []] []) (X.ret) (st 79 [(2, V.ptr 0 0), (3, V.sc (.bool false))] [Blk.box 23 [vI 0, V.sc (.string ByteArray.empty), V.sc (.string ByteArray.empty), V.sc (.string ByteArray.empty), V.sc (.string ByteArray.empty), V.sc (.string ByteArray.empty), vI 0, vI 0]] [])]) (by kernel_rfl) (cj (spec_Cut_ok o r1 h1) (cj rfl (cj (by decide) (cj (map_ltN (by decide) h2) (cj rfl (cj (map_get h2) (cj (spec_NameOp_ok x1 r2 h3) (cj rfl (cj1 ((spec_TextReq_c0_ok o r1 r2 r3 h6).at h8 :))))))))))))))))
def strings_Split (s_ : ByteArray) (sep : ByteArray) : Option (List ByteArray) := if (decide (s_.size < 4294967281) && decide (1 ≤ sep.size) && decide ((splitP s_ sep).length ≤ 9223372036854775807)) = true then some (splitP s_ sep) else none
theorem strings_Split_ok (s_ : ByteArray) (sep : ByteArray) : Pn (fun y => Fn Tryz.prog 32 [(false, E9 s_), (false, E9 sep)] (E28 y) []) (strings_Split s_ sep) := by
  unfold strings_Split
  exact Pn.ite (fun h => Pn.some (by
    simp only [Bool.and_eq_true, decide_eq_true_eq] at h
    exact Fn.strs (e := 9) [(.string s_), (.string sep)] (by kernel_rfl) (by kernel_rfl) h.2 (fun w hw => by
      obtain ⟨mv, hm, mz, rfl⟩ := glob_cell hw (b := 2) (List.Mem.tail _ (List.Mem.head _)) (v := fun u => ∃ z, u = Value.int .i64 z) (fun cs ⟨z, hz⟩ => ⟨_, hz, z, rfl⟩)
      have hl : Lib.countB s_ sep + 1 = (splitP s_ sep).length := (Lib.splitB_all sep h.1.2 0 _ s_ rfl).symm
      rw [← hl]
      exact Go.Proofs.Any.strings_Split Tryz.lays146 (by kernel_rfl) s_ sep mz w (by omega) hm h.1.2))) (fun _ => Pn.none)
def impl_Cut (s_ : ByteArray) : Option ((List ByteArray)) :=
 (strings_Split s_ (bs [32])).bind fun r1 =>
 some r1
theorem impl_Cut_ok (s_ : ByteArray) : Pn (fun y => Fn Tryz.prog 15 [(false, E9 s_)] (E28 y) []) (impl_Cut s_) := by
  unfold impl_Cut
  exact
   Pn.bind (fun r1 h1 =>
   Pn.some (Fn.of [.call [] (E28 r1) []] (p := [Fn Tryz.prog 32 [(false, E9 s_), (false, E9 (bs [32]))] (E28 r1) [],(true || ((E28 r1).nv && nvL [])) = true]) (by kernel_rfl) (cj (strings_Split_ok s_ (bs [32]) r1 h1) (cj1 rfl))))
def impl_opRows  : Option ((List opRow)) :=
 some [(opRow.mk (bs [48, 49, 48, 48]) (bs [48, 48]) (bs [97, 117, 116, 104]) [4, 14, 38]), (opRow.mk (bs [48, 49, 48, 48]) (bs [48, 50]) (bs [109, 111, 114, 101]) [4, 38]), (opRow.mk (bs [48, 50, 50, 48]) (bs [48, 49]) (bs [112, 97, 114, 116]) [4, 38]), (opRow.mk (bs [48, 50, 50, 48]) (bs [48, 48]) (bs [102, 105, 110, 97, 108]) [4, 38]), (opRow.mk (bs [48, 50, 50, 48]) (bs [50, 48]) (bs [102, 114, 101, 101]) [38]), (opRow.mk (bs [48, 50, 48, 48]) (bs [52, 48]) (bs [109, 111, 118, 101]) [38, 103]), (opRow.mk (bs [48, 49, 48, 48]) (bs [51, 49]) (bs [97, 115, 107]) []), (opRow.mk (bs [48, 50, 48, 48]) (bs [57, 48]) (bs [115, 119, 101, 101, 112]) [])]
theorem impl_opRows_ok  : Pn (fun y => Fn Tryz.prog 34 [] (E47 y) []) (impl_opRows) := by
  unfold impl_opRows
  exact
   Pn.some (Fn.of [.wait 18, .shut 6] (p := []) (by kernel_rfl) trivial)
def impl_NameOp_1 (r_ : opRow) (c0_0 : ByteArray) : Option (Bool) :=
 some (r_.name == c0_0)
theorem impl_NameOp_1_ok (r_ : opRow) (c0_0 : ByteArray) : Pn (fun y => Fn Tryz.prog 35 [(false, E39 r_), (false, V.cp [V.sc (.string c0_0)])] (E4 y) []) (impl_NameOp_1 r_ c0_0) := by
  unfold impl_NameOp_1
  exact
   Pn.some (Fn.of [] (p := []) (by kernel_rfl) trivial)
def slices_IndexFunc_impl_opRow_impl_NameOp_1_l0 (s_ : List opRow) (f0_0 : ByteArray) : List opRow → List opRow → Option (Lo Unit Int)
  | [], p1 =>
   some (.out ())
  | x1 :: t1, p1 =>
   (impl_NameOp_1 x1 f0_0).bind fun r1 =>
   if r1 = true then
   some (.ret (p1.length : Int))
   else
   slices_IndexFunc_impl_opRow_impl_NameOp_1_l0 s_ f0_0 t1 (p1 ++ [x1])
theorem slices_IndexFunc_impl_opRow_impl_NameOp_1_l0_ok (s_ : List opRow) (f0_0 : ByteArray) (h2 : capOk s_.length = true) : ∀ (t1 p1 : List opRow) (_ : s_ = p1 ++ t1) , Pn (LpO Tryz.prog (sub (codeOf Tryz.prog 33) [1, 0, 1, 0, 0]) (st 19 [(0, V.sl false 39 (List.map E39 s_)), (1, V.fn 35 [V.cp [V.sc (.string f0_0)]]), (7, vI (s_.length : Int)), (8, vI (p1.length : Int))] [] []) (fun (y : Lo Unit Int) => Lo.elim y (fun s => (X.out 0, st 19 [] [] [])) (fun s => (X.ret, st 19 [(4, vI s)] [] [])))) (slices_IndexFunc_impl_opRow_impl_NameOp_1_l0 s_ f0_0 t1 p1)
  | [], p1, h1 => by
    unfold slices_IndexFunc_impl_opRow_impl_NameOp_1_l0
    exact
     Pn.some (LpO.out [.bit false, .mask [], .ren []] (p := [(decide ((p1.length : Int) < (s_.length : Int))) = false]) (by kernel_rfl) (show X.out 0 ≠ X.go from nofun) (cj1 (rng_end h1)))
  | x1 :: t1, p1, h1 => by
    unfold slices_IndexFunc_impl_opRow_impl_NameOp_1_l0
    exact
     Pn.bind (fun r1 h3 =>
     Pn.ite (fun h4 =>
     Pn.some (LpO.out [.bit true, .el (E39 x1), .call [] (E4 r1) [], .bit true, .wait 2, .mask [4], .ren []] (p := [(decide ((p1.length : Int) < (s_.length : Int))) = true,(0 : Int) ≤ (p1.length : Int),(List.map E39 s_)[(p1.length : Int).toNat]? = some (E39 x1),Fn Tryz.prog 35 [(false, E39 x1), (false, V.cp [V.sc (.string f0_0)])] (E4 r1) [],(true || ((E4 r1).nv && nvL [])) = true,r1 = true]) (by kernel_rfl) (show X.ret ≠ X.go from nofun) (cj (rng_lt h1) (cj (by omega) (cj (rng_get _ h1) (cj (impl_NameOp_1_ok x1 f0_0 r1 h3) (cj rfl (cj1 h4)))))))) (fun h4 =>
     LpO.go [.bit true, .el (E39 x1), .call [] (E4 r1) [], .bit false, .wait 2, .mask [0, 1, 7, 8], .ren [], .nm 8 (vI ((p1 ++ [x1]).length : Int))] (p := [(decide ((p1.length : Int) < (s_.length : Int))) = true,(0 : Int) ≤ (p1.length : Int),(List.map E39 s_)[(p1.length : Int).toNat]? = some (E39 x1),Fn Tryz.prog 35 [(false, E39 x1), (false, V.cp [V.sc (.string f0_0)])] (E4 r1) [],(true || ((E4 r1).nv && nvL [])) = true,r1 = false,vI (i64 ((p1.length : Int) + 1)) = vI ((p1 ++ [x1]).length : Int)]) (by kernel_rfl) (cj (rng_lt h1) (cj (by omega) (cj (rng_get _ h1) (cj (impl_NameOp_1_ok x1 f0_0 r1 h3) (cj rfl (cj h4 (cj1 (rng_next h1 h2)))))))) (slices_IndexFunc_impl_opRow_impl_NameOp_1_l0_ok s_ f0_0 h2 t1 (p1 ++ [x1]) (rng_step h1))))
def slices_IndexFunc_impl_opRow_impl_NameOp_1 (s_ : List opRow) (f0_0 : ByteArray) : Option (Int) :=
 if (capOk s_.length) = true then
 (slices_IndexFunc_impl_opRow_impl_NameOp_1_l0 s_ f0_0 s_ []).bind fun r2 =>
 Lo.elim r2 (fun s1 =>
 some (-1)) (fun s2 =>
 some s2)
 else none
theorem slices_IndexFunc_impl_opRow_impl_NameOp_1_ok (s_ : List opRow) (f0_0 : ByteArray) : Pn (fun y => Fn Tryz.prog 33 [(false, E47 s_), (false, V.fn 35 [V.cp [V.sc (.string f0_0)]])] (E3 y) []) (slices_IndexFunc_impl_opRow_impl_NameOp_1 s_ f0_0) := by
  unfold slices_IndexFunc_impl_opRow_impl_NameOp_1
  exact
   Pn.ite (fun h5 =>
   Pn.bind (fun r2 h6 =>
   Pn.lo (fun s1 h7 =>
   Pn.some (Fn.of [.wait 3, .nm 7 (vI (s_.length : Int)), .wait 2, .mask [0, 1, 7, 8], .ren [], .loop (X.out 0) (st 19 [] [] [])] (p := [vI ((List.map E39 s_).length : Int) = vI (s_.length : Int),Loop Tryz.prog (sub (codeOf Tryz.prog 33) [1, 0, 1, 0, 0]) (st 19 [(0, V.sl false 39 (List.map E39 s_)), (1, V.fn 35 [V.cp [V.sc (.string f0_0)]]), (7, vI (s_.length : Int)), (8, vI 0)] [] []) (X.out 0) (st 19 [] [] [])]) (by kernel_rfl) (cj (len_nm _ _) (cj1 ((slices_IndexFunc_impl_opRow_impl_NameOp_1_l0_ok s_ f0_0 h5 s_ [] rfl r2 h6).at h7 :))))) (fun s2 h8 =>
   Pn.some (Fn.of [.wait 3, .nm 7 (vI (s_.length : Int)), .wait 2, .mask [0, 1, 7, 8], .ren [], .loop (X.ret) (st 19 [(4, vI s2)] [] [])] (p := [vI ((List.map E39 s_).length : Int) = vI (s_.length : Int),Loop Tryz.prog (sub (codeOf Tryz.prog 33) [1, 0, 1, 0, 0]) (st 19 [(0, V.sl false 39 (List.map E39 s_)), (1, V.fn 35 [V.cp [V.sc (.string f0_0)]]), (7, vI (s_.length : Int)), (8, vI 0)] [] []) (X.ret) (st 19 [(4, vI s2)] [] [])]) (by kernel_rfl) (cj (len_nm _ _) (cj1 ((slices_IndexFunc_impl_opRow_impl_NameOp_1_l0_ok s_ f0_0 h5 s_ [] rfl r2 h6).at h8 :))))))) (fun h5 =>
   Pn.none)
def impl_NameOp (s_ : ByteArray) : Option (Int) :=
 (impl_opRows).bind fun r1 =>
 (slices_IndexFunc_impl_opRow_impl_NameOp_1 r1 s_).bind fun r2 =>
 some (i64 (1 + r2))
theorem impl_NameOp_ok (s_ : ByteArray) : Pn (fun y => Fn Tryz.prog 16 [(false, E9 s_)] (E3 y) []) (impl_NameOp s_) := by
  unfold impl_NameOp
  exact
   Pn.bind (fun r1 h1 =>
   Pn.bind (fun r2 h2 =>
   Pn.some (Fn.of [.call [] (E47 r1) [], .call [] (E3 r2) []] (p := [Fn Tryz.prog 34 [] (E47 r1) [],(true || ((E47 r1).nv && nvL [])) = true,Fn Tryz.prog 33 [(false, E47 r1), (false, V.fn 35 [V.cp [V.sc (.string s_)]])] (E3 r2) [],(false || ((E3 r2).nv && nvL [])) = true]) (by kernel_rfl) (cj (impl_opRows_ok  r1 h1) (cj rfl (cj (slices_IndexFunc_impl_opRow_impl_NameOp_1_ok r1 s_ r2 h2) (cj1 (by simp [V.nv, nvL, nvL_all, nv_E3]))))))))
def impl_within (n : Int) (low : Int) (high : Int) : Option (Bool) :=
 if (decide (low ≤ n)) = true then
 some (decide (n ≤ high))
 else
 some false
theorem impl_within_ok (n : Int) (low : Int) (high : Int) : Pn (fun y => Fn Tryz.prog 36 [(false, E3 n), (false, E3 low), (false, E3 high)] (E4 y) []) (impl_within n low high) := by
  unfold impl_within
  exact
   Pn.ite (fun h1 =>
   Pn.some (Fn.of [.bit true, .bit true, .bit true, .bit true] (p := [(decide (low ≤ n)) = true,(decide (low ≤ n)) = true,(decide (low ≤ n)) = true,(decide (low ≤ n)) = true]) (by kernel_rfl) (cj h1 (cj h1 (cj h1 (cj1 h1)))))) (fun h1 =>
   Pn.some (Fn.of [.bit false, .bit false, .bit false, .bit false] (p := [(decide (low ≤ n)) = false,(decide (low ≤ n)) = false,(decide (low ≤ n)) = false,(decide (low ≤ n)) = false]) (by kernel_rfl) (cj h1 (cj h1 (cj h1 (cj1 h1))))))
def impl_opOf (op : Int) : Option (opRow) :=
 (impl_within op 1 8).bind fun r1 =>
 if r1 = true then
 (impl_opRows).bind fun r2 =>
 if (decide (0 ≤ (i64 (op - 1)))) = true then
 (r2[(i64 (op - 1)).toNat]?).bind fun x1 =>
 some x1
 else none
 else
 some (opRow.mk ByteArray.empty ByteArray.empty ByteArray.empty [])
theorem impl_opOf_ok (op : Int) : Pn (fun y => Fn Tryz.prog 17 [(false, E3 op)] (E39 y) []) (impl_opOf op) := by
  unfold impl_opOf
  exact
   Pn.bind (fun r1 h1 =>
   Pn.ite (fun h2 =>
   Pn.bind (fun r2 h3 =>
   Pn.ite (fun h4 =>
   Pn.bind (fun x1 h5 =>
   Pn.some (Fn.of [.call [] (E4 r1) [], .bit false, .call [] (E47 r2) [], .wait 3, .foc 1 ((i64 (op - 1)).toNat) (E39 x1), .fo 0] (p := [Fn Tryz.prog 36 [(false, E3 op), (false, E3 1), (false, E3 8)] (E4 r1) [],(true || ((E4 r1).nv && nvL [])) = true,(!r1) = false,Fn Tryz.prog 34 [] (E47 r2) [],(true || ((E47 r2).nv && nvL [])) = true,(0 : Int) ≤ (i64 (op - 1)),((i64 (op - 1)) : Int) < ((List.map E39 r2).length : Int),look [] ((i64 (op - 1)).toNat) = none,(List.map E39 r2)[(i64 (op - 1)).toNat]? = some (E39 x1),look [((i64 (op - 1)).toNat, V.agg [V.sc (.string x1.mti), V.sc (.string x1.code), V.sc (.string x1.name), V.ow 2])] ((i64 (op - 1)).toNat) = some (V.agg [V.sc (.string x1.mti), V.sc (.string x1.code), V.sc (.string x1.name), V.ow 2]),((i64 (op - 1)).toNat) < (List.map E39 r2).length]) (by kernel_rfl) (cj (impl_within_ok op 1 8 r1 h1) (cj rfl (cj (nf h2) (cj (impl_opRows_ok  r2 h3) (cj rfl (cj (od h4) (cj (map_ltN (od h4) h5) (cj rfl (cj (map_get h5) (cj (look_cons_self _ _ _) (cj1 (map_lt h5))))))))))))))) (fun h4 =>
   Pn.none))) (fun h2 =>
   Pn.some (Fn.of [.call [] (E4 r1) [], .bit true] (p := [Fn Tryz.prog 36 [(false, E3 op), (false, E3 1), (false, E3 8)] (E4 r1) [],(true || ((E4 r1).nv && nvL [])) = true,(!r1) = true]) (by kernel_rfl) (cj (impl_within_ok op 1 8 r1 h1) (cj rfl (cj1 (nt h2)))))))
def impl_OpMti (op : Int) : Option (ByteArray) :=
 (impl_opOf op).bind fun r1 =>
 some r1.mti
theorem impl_OpMti_ok (op : Int) : Pn (fun y => Fn Tryz.prog 18 [(false, E3 op)] (E9 y) []) (impl_OpMti op) := by
  unfold impl_OpMti
  exact
   Pn.bind (fun r1 h1 =>
   Pn.some (Fn.of [.call [] (E39 r1) []] (p := [Fn Tryz.prog 17 [(false, E3 op)] (E39 r1) [],(true || ((E39 r1).nv && nvL [])) = true]) (by kernel_rfl) (cj (impl_opOf_ok op r1 h1) (cj1 rfl))))
def slices_Index_int_l0 (s_ : List Int) (v_ : Int) : List Int → List Int → Option (Lo Unit Int)
  | [], p1 =>
   some (.out ())
  | x1 :: t1, p1 =>
   if (v_ == x1) = true then
   some (.ret (p1.length : Int))
   else
   slices_Index_int_l0 s_ v_ t1 (p1 ++ [x1])
theorem slices_Index_int_l0_ok (s_ : List Int) (v_ : Int) (h2 : capOk s_.length = true) : ∀ (t1 p1 : List Int) (_ : s_ = p1 ++ t1) , Pn (LpO Tryz.prog (sub (codeOf Tryz.prog 47) [1, 0, 1, 0, 0]) (st 19 [(0, V.sl false 3 (List.map E3 s_)), (1, vI v_), (7, vI (s_.length : Int)), (8, vI (p1.length : Int))] [] []) (fun (y : Lo Unit Int) => Lo.elim y (fun s => (X.out 0, st 19 [] [] [])) (fun s => (X.ret, st 19 [(4, vI s)] [] [])))) (slices_Index_int_l0 s_ v_ t1 p1)
  | [], p1, h1 => by
    unfold slices_Index_int_l0
    exact
     Pn.some (LpO.out [.bit false, .mask [], .ren []] (p := [(decide ((p1.length : Int) < (s_.length : Int))) = false]) (by kernel_rfl) (show X.out 0 ≠ X.go from nofun) (cj1 (rng_end h1)))
  | x1 :: t1, p1, h1 => by
    unfold slices_Index_int_l0
    exact
     Pn.ite (fun h3 =>
     Pn.some (LpO.out [.bit true, .el (E3 x1), .bit true, .wait 2, .mask [4], .ren []] (p := [(decide ((p1.length : Int) < (s_.length : Int))) = true,(0 : Int) ≤ (p1.length : Int),(List.map E3 s_)[(p1.length : Int).toNat]? = some (E3 x1),(v_ == x1) = true]) (by kernel_rfl) (show X.ret ≠ X.go from nofun) (cj (rng_lt h1) (cj (by omega) (cj (rng_get _ h1) (cj1 h3)))))) (fun h3 =>
     LpO.go [.bit true, .el (E3 x1), .bit false, .wait 2, .mask [0, 1, 7, 8], .ren [], .nm 8 (vI ((p1 ++ [x1]).length : Int))] (p := [(decide ((p1.length : Int) < (s_.length : Int))) = true,(0 : Int) ≤ (p1.length : Int),(List.map E3 s_)[(p1.length : Int).toNat]? = some (E3 x1),(v_ == x1) = false,vI (i64 ((p1.length : Int) + 1)) = vI ((p1 ++ [x1]).length : Int)]) (by kernel_rfl) (cj (rng_lt h1) (cj (by omega) (cj (rng_get _ h1) (cj h3 (cj1 (rng_next h1 h2)))))) (slices_Index_int_l0_ok s_ v_ h2 t1 (p1 ++ [x1]) (rng_step h1)))
def slices_Index_int (s_ : List Int) (v_ : Int) : Option (Int) :=
 if (capOk s_.length) = true then
 (slices_Index_int_l0 s_ v_ s_ []).bind fun r1 =>
 Lo.elim r1 (fun s1 =>
 some (-1)) (fun s2 =>
 some s2)
 else none
theorem slices_Index_int_ok (s_ : List Int) (v_ : Int) : Pn (fun y => Fn Tryz.prog 47 [(false, E37 s_), (false, E3 v_)] (E3 y) []) (slices_Index_int s_ v_) := by
  unfold slices_Index_int
  exact
   Pn.ite (fun h4 =>
   Pn.bind (fun r1 h5 =>
   Pn.lo (fun s1 h6 =>
   Pn.some (Fn.of [.wait 3, .nm 7 (vI (s_.length : Int)), .wait 2, .mask [0, 1, 7, 8], .ren [], .loop (X.out 0) (st 19 [] [] [])] (p := [vI ((List.map E3 s_).length : Int) = vI (s_.length : Int),Loop Tryz.prog (sub (codeOf Tryz.prog 47) [1, 0, 1, 0, 0]) (st 19 [(0, V.sl false 3 (List.map E3 s_)), (1, vI v_), (7, vI (s_.length : Int)), (8, vI 0)] [] []) (X.out 0) (st 19 [] [] [])]) (by kernel_rfl) (cj (len_nm _ _) (cj1 ((slices_Index_int_l0_ok s_ v_ h4 s_ [] rfl r1 h5).at h6 :))))) (fun s2 h7 =>
   Pn.some (Fn.of [.wait 3, .nm 7 (vI (s_.length : Int)), .wait 2, .mask [0, 1, 7, 8], .ren [], .loop (X.ret) (st 19 [(4, vI s2)] [] [])] (p := [vI ((List.map E3 s_).length : Int) = vI (s_.length : Int),Loop Tryz.prog (sub (codeOf Tryz.prog 47) [1, 0, 1, 0, 0]) (st 19 [(0, V.sl false 3 (List.map E3 s_)), (1, vI v_), (7, vI (s_.length : Int)), (8, vI 0)] [] []) (X.ret) (st 19 [(4, vI s2)] [] [])]) (by kernel_rfl) (cj (len_nm _ _) (cj1 ((slices_Index_int_l0_ok s_ v_ h4 s_ [] rfl r1 h5).at h7 :))))))) (fun h4 =>
   Pn.none)
def slices_Contains_int (s_ : List Int) (v_ : Int) : Option (Bool) :=
 (slices_Index_int s_ v_).bind fun r1 =>
 some (decide (0 ≤ r1))
theorem slices_Contains_int_ok (s_ : List Int) (v_ : Int) : Pn (fun y => Fn Tryz.prog 37 [(false, E37 s_), (false, E3 v_)] (E4 y) []) (slices_Contains_int s_ v_) := by
  unfold slices_Contains_int
  exact
   Pn.bind (fun r1 h1 =>
   Pn.some (Fn.of [.call [] (E3 r1) []] (p := [Fn Tryz.prog 47 [(false, E37 s_), (false, E3 v_)] (E3 r1) [],(true || ((E3 r1).nv && nvL [])) = true]) (by kernel_rfl) (cj (slices_Index_int_ok s_ v_ r1 h1) (cj1 rfl))))
def impl_uses (op : Int) (no : Int) : Option (Bool) :=
 (impl_opOf op).bind fun r1 =>
 (slices_Contains_int r1.fields no).bind fun r2 =>
 some r2
theorem impl_uses_ok (op : Int) (no : Int) : Pn (fun y => Fn Tryz.prog 20 [(false, E3 op), (false, E3 no)] (E4 y) []) (impl_uses op no) := by
  unfold impl_uses
  exact
   Pn.bind (fun r1 h1 =>
   Pn.bind (fun r2 h2 =>
   Pn.some (Fn.of [.call [] (E39 r1) [], .call [] (E4 r2) []] (p := [Fn Tryz.prog 17 [(false, E3 op)] (E39 r1) [],(true || ((E39 r1).nv && nvL [])) = true,Fn Tryz.prog 37 [(false, E37 r1.fields), (false, E3 no)] (E4 r2) [],(false || ((E4 r2).nv && nvL [])) = true]) (by kernel_rfl) (cj (impl_opOf_ok op r1 h1) (cj rfl (cj (slices_Contains_int_ok r1.fields no r2 h2) (cj1 (by simp [V.nv, nvL, nvL_all, nv_E4]))))))))
def impl_TextReq_1 (no : Int) (c0_0 : Int) (c1 : List ByteArray) : Option (ByteArray × (List ByteArray)) :=
 (impl_uses c0_0 no).bind fun r1 =>
 if r1 = true then
 (c1[0]?).bind fun x1 =>
 if (decide (1 ≤ (c1.length : Int))) = true then
 some (x1, ((c1.drop 1).take (c1.length - 1)))
 else none
 else
 some (bs [], c1)
theorem impl_TextReq_1_ok (no : Int) (c0_0 : Int) (c1 : List ByteArray) : Pn (fun y => Fn Tryz.prog 19 [(false, E3 no), (false, V.cp [vI c0_0]), (true, V.bx 28 [V.sl true 9 (List.map E9 c1)])] (E9 y.1) [V.bx 28 [V.sl true 9 (List.map E9 y.2)]]) (impl_TextReq_1 no c0_0 c1) := by
  unfold impl_TextReq_1
  exact
   Pn.bind (fun r1 h1 =>
   Pn.ite (fun h2 =>
   Pn.bind (fun x1 h3 =>
   Pn.ite (fun h4 =>
   Pn.some (Fn.as (outs := [V.bx 28 [V.sl true 9 (((List.map E9 c1).drop 1).take (c1.length - 1))]]) rfl (by rw [cut_map]) (Fn.of [.call [] (E4 r1) [], .bit false, .el (E9 x1), .wait 3, .nm 14 (V.sb 0 1 1 (c1.length - 1))] (p := [Fn Tryz.prog 20 [(false, E3 c0_0), (false, E3 no)] (E4 r1) [],(true || ((E4 r1).nv && nvL [])) = true,(!r1) = false,(0 : Int) ≤ 0,(0 : Int) < ((List.map E9 c1).length : Int),look [] 0 = none,(List.map E9 c1)[0]? = some (E9 x1),(0 : Int) ≤ 1,(1 : Int) ≤ ((List.map E9 c1).length : Int),(((List.map E9 c1).length : Int) : Int) ≤ ((List.map E9 c1).length : Int),V.sb 0 1 1 ((((List.map E9 c1).length : Int).toNat) - (1)) = V.sb 0 1 1 (c1.length - 1)]) (by kernel_rfl) (cj (impl_uses_ok c0_0 no r1 h1) (cj rfl (cj (nf h2) (cj (by decide) (cj (map_ltN (by decide) h3) (cj rfl (cj (map_get h3) (cj (by decide) (cj (by rw [List.length_map]; exact (od h4)) (cj (Int.le_refl _) (cj1 (by simp))))))))))))))) (fun h4 =>
   Pn.none))) (fun h2 =>
   Pn.some (Fn.of [.call [] (E4 r1) [], .bit true] (p := [Fn Tryz.prog 20 [(false, E3 c0_0), (false, E3 no)] (E4 r1) [],(true || ((E4 r1).nv && nvL [])) = true,(!r1) = true]) (by kernel_rfl) (cj (impl_uses_ok c0_0 no r1 h1) (cj rfl (cj1 (nt h2)))))))
def impl_isMoney (n : Int) : Option (Bool) :=
 (impl_within n 0 4611686018427387904).bind fun r1 =>
 some r1
theorem impl_isMoney_ok (n : Int) : Pn (fun y => Fn Tryz.prog 39 [(false, E3 n)] (E4 y) []) (impl_isMoney n) := by
  unfold impl_isMoney
  exact
   Pn.bind (fun r1 h1 =>
   Pn.some (Fn.of [.call [] (E4 r1) []] (p := [Fn Tryz.prog 36 [(false, E3 n), (false, E3 0), (false, E3 4611686018427387904)] (E4 r1) [],(true || ((E4 r1).nv && nvL [])) = true]) (by kernel_rfl) (cj (impl_within_ok n 0 4611686018427387904 r1 h1) (cj1 rfl))))
def strconv_Itoa (i : Int) : Option ByteArray := if (decide (-9223372036854775808 ≤ i) && decide (i ≤ 9223372036854775807)) = true then some ⟨(Lib.itoa i).toArray⟩ else none
theorem strconv_Itoa_ok (i : Int) : Pn (fun y => Fn Tryz.prog 50 [(false, E3 i)] (E9 y) []) (strconv_Itoa i) := by
  unfold strconv_Itoa
  exact Pn.ite (fun h => Pn.some (Fn.flat [.int .i64 i] (by kernel_rfl) rfl fun w hw => by
    simp only [Bool.and_eq_true, decide_eq_true_eq] at h
    obtain ⟨cs, t, z, e1, e2⟩ := hw _ (List.Mem.head _)
    exact (Go.Proofs.Any.strconv_Itoa Tryz.laysM171 i h.1 h.2 w (tab_of (by kernel_rfl) e1 e2)).mono fun e w2 ⟨h1, k, os, h2⟩ => ⟨h1, h2 ▸ Lib.below_grow _ w (Nat.le_refl _) k os⟩)) (fun _ => Pn.none)
def impl_NumText (n : Int) : Option (ByteArray) :=
 (impl_isMoney n).bind fun r1 =>
 if r1 = true then
 (strconv_Itoa n).bind fun r2 =>
 some r2
 else
 some (bs [])
theorem impl_NumText_ok (n : Int) : Pn (fun y => Fn Tryz.prog 40 [(false, E3 n)] (E9 y) []) (impl_NumText n) := by
  unfold impl_NumText
  exact
   Pn.bind (fun r1 h1 =>
   Pn.ite (fun h2 =>
   Pn.bind (fun r2 h3 =>
   Pn.some (Fn.of [.call [] (E4 r1) [], .bit false, .call [] (E9 r2) []] (p := [Fn Tryz.prog 39 [(false, E3 n)] (E4 r1) [],(true || ((E4 r1).nv && nvL [])) = true,(!r1) = false,Fn Tryz.prog 50 [(false, E3 n)] (E9 r2) [],(true || ((E9 r2).nv && nvL [])) = true]) (by kernel_rfl) (cj (impl_isMoney_ok n r1 h1) (cj rfl (cj (nf h2) (cj (strconv_Itoa_ok n r2 h3) (cj1 rfl)))))))) (fun h2 =>
   Pn.some (Fn.of [.call [] (E4 r1) [], .bit true] (p := [Fn Tryz.prog 39 [(false, E3 n)] (E4 r1) [],(true || ((E4 r1).nv && nvL [])) = true,(!r1) = true]) (by kernel_rfl) (cj (impl_isMoney_ok n r1 h1) (cj rfl (cj1 (nt h2)))))))
def impl_TextNum (s_ : ByteArray) : Option (Int × Bool) := if (decide (s_.size ≤ 281474976710656)) = true then (match Lib.atoiAll s_.data.toList with | .ok v => (impl_isMoney v).bind fun r1 => if r1 = true then (impl_NumText v).bind fun r2 => (if (r2 == s_) = true then some (v, true) else some (0, false)) else some (0, false) | _ => some (0, false)) else none
set_option maxHeartbeats 4000000 in
theorem impl_TextNum_ok (s_ : ByteArray) : Pn (fun y => Fn Tryz.prog 21 [(false, E9 s_)] (V.tup [E3 y.1, E4 y.2]) []) (impl_TextNum s_) := by
  unfold impl_TextNum
  refine Pn.ite (fun hz => ?_) (fun _ => Pn.none)
  have hz := of_decide_eq_true hz
  cases hv : Lib.atoiAll s_.data.toList with
  | ok v =>
    refine Pn.bind (fun r1 h1 => ?_)
    have hD := fun w hw => Fn.calls [.int .i64 v] (impl_isMoney_ok v r1 h1) (r := .bool r1) rfl w hw
    have hA := fun w => Go.Proofs.Any.strconv_Atoi_ok Tryz.laysC172 s_ (by omega) v hv w
    refine Pn.ite (fun hr => ?_) (fun hr => ?_)
    · subst hr
      refine Pn.bind (fun r2 h2 => ?_)
      have hK := fun w hw => Fn.calls [.int .i64 v] (impl_NumText_ok v r2 h2) (r := .string r2) rfl w hw
      refine Pn.ite (fun hq => Pn.some (Fn.flats [.string s_] (by kernel_rfl) rfl (rs := [.int .i64 v, .bool true]) (fun w hw => ?_))) (fun hq => Pn.some (Fn.flats [.string s_] (by kernel_rfl) rfl (rs := [.int .i64 0, .bool false]) (fun w hw => ?_)))
      · have hq2 : r2 = s_ := ba_of_beq hq
        subst hq2
        go_enter Tryz.func21, Tryz.ntmps21
        go_wp2_with (go_at_call 38; refine (hA _).mono ?_; rintro e w1 ⟨rfl, hb1⟩)
        have hb1 := below_bytes hb1
        go_wp2_with (go_at_call 39; refine (hD _ (hw.below hb1)).mono ?_; rintro e w2 ⟨rfl, hb2⟩)
        have hb2 := below_then hb1 hb2
        go_wp2_with (go_at_call 40; refine (hK _ (hw.below hb2)).mono ?_; rintro e w3 ⟨rfl, hb3⟩)
        go_wp2
        go_ret2
        exact ⟨rfl, below_then hb2 hb3⟩
      · have hq3 : (r2.toList == s_.toList) = false := by rw [← beq_toListBytes]; exact hq
        go_enter Tryz.func21, Tryz.ntmps21
        go_wp2_with (go_at_call 38; refine (hA _).mono ?_; rintro e w1 ⟨rfl, hb1⟩)
        have hb1 := below_bytes hb1
        go_wp2_with (go_at_call 39; refine (hD _ (hw.below hb1)).mono ?_; rintro e w2 ⟨rfl, hb2⟩)
        have hb2 := below_then hb1 hb2
        go_wp2_with (go_at_call 40; refine (hK _ (hw.below hb2)).mono ?_; rintro e w3 ⟨rfl, hb3⟩)
        go_wp2
        go_ret2
        exact ⟨rfl, below_then hb2 hb3⟩
    · subst hr
      refine Pn.some (Fn.flats [.string s_] (by kernel_rfl) rfl (rs := [.int .i64 0, .bool false]) (fun w hw => ?_))
      go_enter Tryz.func21, Tryz.ntmps21
      go_wp2_with (go_at_call 38; refine (hA _).mono ?_; rintro e w1 ⟨rfl, hb1⟩)
      have hb1 := below_bytes hb1
      go_wp2_with (go_at_call 39; refine (hD _ (hw.below hb1)).mono ?_; rintro e w2 ⟨rfl, hb2⟩)
      go_wp2
      go_ret2
      exact ⟨rfl, below_then hb1 hb2⟩
  | «syntax» =>
    refine Pn.some (Fn.flats [.string s_] (by kernel_rfl) rfl (rs := [.int .i64 0, .bool false]) (fun w hw => ?_))
    obtain ⟨ev, hc, he⟩ := glob_cell hw (b := 0) (List.Mem.tail _ (List.Mem.tail _ (List.Mem.head _))) (v := fun ev => ev = .nilIface ∨ ∃ te pe, ev = .iface te pe) (fun cs h => h)
    have hA := Go.Proofs.Any.strconv_Atoi_syntax Tryz.laysC172 s_ hz hv ev w hc he
    go_enter Tryz.func21, Tryz.ntmps21
    go_wp2_with (go_at_call 38; refine hA.mono ?_; rintro e w1 ⟨M, rfl, _, _, hb1⟩)
    go_wp2
    go_ret2
    exact ⟨rfl, hb1⟩
  | range =>
    refine Pn.some (Fn.flats [.string s_] (by kernel_rfl) rfl (rs := [.int .i64 0, .bool false]) (fun w hw => ?_))
    obtain ⟨ev, hc, he⟩ := glob_cell hw (b := 1) (List.Mem.tail _ (List.Mem.tail _ (List.Mem.tail _ (List.Mem.head _)))) (v := fun ev => ev = .nilIface ∨ ∃ te pe, ev = .iface te pe) (fun cs h => h)
    have hA := Go.Proofs.Any.strconv_Atoi_range Tryz.laysC172 s_ hz hv ev w hc he
    go_enter Tryz.func21, Tryz.ntmps21
    go_wp2_with (go_at_call 38; refine hA.mono ?_; rintro e w1 ⟨M, rfl, _, _, hb1⟩)
    go_wp2
    go_ret2
    exact ⟨rfl, hb1⟩
def impl_Digits_l0 (s_ : ByteArray) : Nat → Int → Option (Lo Unit Unit)
  | 0, _ => none
  | fuel + 1, v1 =>
   if (decide (v1 < (s_.size : Int))) = true then
   if (decide (0 ≤ v1)) = true then
   if (decide ((v1 : Int) < (s_.size : Int))) = true then
   if (decide ((sAt s_ v1) < 48)) = true then
   some (.ret ())
   else
   if (decide (57 < (sAt s_ v1))) = true then
   some (.ret ())
   else
   impl_Digits_l0 s_ fuel (i64 (v1 + 1))
   else none
   else none
   else
   some (.out ())
theorem impl_Digits_l0_ok (s_ : ByteArray) : ∀ (fuel : Nat) (v1 : Int), Pn (LpO Tryz.prog (sub (codeOf Tryz.prog 68) [1, 0, 1, 0, 0]) (st 22 [(0, V.sc (.string s_)), (5, vI (s_.size : Int)), (6, vI v1)] [] []) (fun (y : Lo Unit Unit) => Lo.elim y (fun s => (X.out 0, st 22 [(0, V.sc (.string s_))] [] [])) (fun s => (X.ret, st 22 [(2, V.sc (.bool false))] [] [])))) (impl_Digits_l0 s_ fuel v1)
  | 0, _ => Pn.none
  | fuel + 1, v1 => by
    unfold impl_Digits_l0
    exact
     Pn.ite (fun h1 =>
     Pn.ite (fun h2 =>
     Pn.ite (fun h3 =>
     Pn.ite (fun h4 =>
     Pn.some (LpO.out [.bit true, .bit true, .bit true, .bit true, .bit true, .bit true, .bit true, .wait 1, .mask [2], .ren []] (p := [(decide (v1 < (s_.size : Int))) = true,(0 : Int) ≤ v1,(v1 : Int) < s_.size,(decide ((sAt s_ v1) < 48)) = true,(decide ((sAt s_ v1) < 48)) = true,(decide ((sAt s_ v1) < 48)) = true,(decide ((sAt s_ v1) < 48)) = true,(decide ((sAt s_ v1) < 48)) = true,true = true]) (by kernel_rfl) (show X.ret ≠ X.go from nofun) (cj h1 (cj (od h2) (cj (od h3) (cj h4 (cj h4 (cj h4 (cj h4 (cj h4 (cj1 rfl))))))))))) (fun h4 =>
     Pn.ite (fun h5 =>
     Pn.some (LpO.out [.bit true, .bit false, .bit false, .bit false, .bit false, .bit false, .bit true, .wait 1, .mask [2], .ren []] (p := [(decide (v1 < (s_.size : Int))) = true,(0 : Int) ≤ v1,(v1 : Int) < s_.size,(decide ((sAt s_ v1) < 48)) = false,(decide ((sAt s_ v1) < 48)) = false,(decide ((sAt s_ v1) < 48)) = false,(0 : Int) ≤ v1,(v1 : Int) < s_.size,(decide ((sAt s_ v1) < 48)) = false,(decide ((sAt s_ v1) < 48)) = false,(decide (57 < (sAt s_ v1))) = true]) (by kernel_rfl) (show X.ret ≠ X.go from nofun) (cj h1 (cj (od h2) (cj (od h3) (cj h4 (cj h4 (cj h4 (cj (od h2) (cj (od h3) (cj h4 (cj h4 (cj1 h5))))))))))))) (fun h5 =>
     LpO.go [.bit true, .bit false, .bit false, .bit false, .bit false, .bit false, .bit false, .wait 2, .mask [0, 5, 6], .ren []] (p := [(decide (v1 < (s_.size : Int))) = true,(0 : Int) ≤ v1,(v1 : Int) < s_.size,(decide ((sAt s_ v1) < 48)) = false,(decide ((sAt s_ v1) < 48)) = false,(decide ((sAt s_ v1) < 48)) = false,(0 : Int) ≤ v1,(v1 : Int) < s_.size,(decide ((sAt s_ v1) < 48)) = false,(decide ((sAt s_ v1) < 48)) = false,(decide (57 < (sAt s_ v1))) = false]) (by kernel_rfl) (cj h1 (cj (od h2) (cj (od h3) (cj h4 (cj h4 (cj h4 (cj (od h2) (cj (od h3) (cj h4 (cj h4 (cj1 h5))))))))))) (impl_Digits_l0_ok s_ fuel (i64 (v1 + 1)))))) (fun h3 =>
     Pn.none)) (fun h2 =>
     Pn.none)) (fun h1 =>
     Pn.some (LpO.out [.bit false, .mask [0], .ren []] (p := [(decide (v1 < (s_.size : Int))) = false]) (by kernel_rfl) (show X.out 0 ≠ X.go from nofun) (cj1 h1)))
def impl_Digits (s_ : ByteArray) : Option (Bool) :=
 (impl_Digits_l0 s_ FUEL 0).bind fun r1 =>
 Lo.elim r1 (fun s1 =>
 some (!(s_ == (bs [])))) (fun s2 =>
 some false)
theorem impl_Digits_ok (s_ : ByteArray) : Pn (fun y => Fn Tryz.prog 68 [(false, E9 s_)] (E4 y) []) (impl_Digits s_) := by
  unfold impl_Digits
  exact
   Pn.bind (fun r1 h6 =>
   Pn.lo (fun s1 h7 =>
   Pn.some (Fn.of [.wait 5, .mask [0, 5, 6], .ren [], .loop (X.out 0) (st 22 [(0, V.sc (.string s_))] [] [])] (p := [Loop Tryz.prog (sub (codeOf Tryz.prog 68) [1, 0, 1, 0, 0]) (st 22 [(0, V.sc (.string s_)), (5, vI (s_.size : Int)), (6, vI 0)] [] []) (X.out 0) (st 22 [(0, V.sc (.string s_))] [] [])]) (by kernel_rfl) (cj1 ((impl_Digits_l0_ok s_ FUEL 0 r1 h6).at h7 :)))) (fun s2 h8 =>
   Pn.some (Fn.of [.wait 5, .mask [0, 5, 6], .ren [], .loop (X.ret) (st 22 [(2, V.sc (.bool false))] [] [])] (p := [Loop Tryz.prog (sub (codeOf Tryz.prog 68) [1, 0, 1, 0, 0]) (st 22 [(0, V.sc (.string s_)), (5, vI (s_.size : Int)), (6, vI 0)] [] []) (X.ret) (st 22 [(2, V.sc (.bool false))] [] [])]) (by kernel_rfl) (cj1 ((impl_Digits_l0_ok s_ FUEL 0 r1 h6).at h8 :)))))
def impl_Luhn_l0 (s_ : ByteArray) : Nat → Int → Bool → Int → Option (Int)
  | 0, _, _, _ => none
  | fuel + 1, v1, v2, v3 =>
   if (decide (0 ≤ v3)) = true then
   if (decide ((v3 : Int) < (s_.size : Int))) = true then
   if v2 = true then
   if (decide (9 < (i64 ((i64 (u8 ((sAt s_ v3) - 48))) * 2)))) = true then
   impl_Luhn_l0 s_ fuel (i64 (v1 + (i64 ((i64 ((i64 (u8 ((sAt s_ v3) - 48))) * 2)) - 9)))) (!v2) (i64 (v3 - 1))
   else
   impl_Luhn_l0 s_ fuel (i64 (v1 + (i64 ((i64 (u8 ((sAt s_ v3) - 48))) * 2)))) (!v2) (i64 (v3 - 1))
   else
   impl_Luhn_l0 s_ fuel (i64 (v1 + (i64 (u8 ((sAt s_ v3) - 48))))) (!v2) (i64 (v3 - 1))
   else none
   else
   some v1
theorem impl_Luhn_l0_ok (s_ : ByteArray) : ∀ (fuel : Nat) (v1 : Int) (v2 : Bool) (v3 : Int), Pn (LpO Tryz.prog (sub (codeOf Tryz.prog 79) [1, 1, 1, 0, 1, 0, 0]) (st 38 [(0, V.sc (.string s_)), (3, vI v1), (4, V.sc (.bool v2)), (5, vI v3)] [] []) (fun (y : Int) => (X.out 0, st 38 [(3, vI y)] [] []))) (impl_Luhn_l0 s_ fuel v1 v2 v3)
  | 0, _, _, _ => Pn.none
  | fuel + 1, v1, v2, v3 => by
    unfold impl_Luhn_l0
    exact
     Pn.ite (fun h3 =>
     Pn.ite (fun h4 =>
     Pn.ite (fun h5 =>
     Pn.ite (fun h6 =>
     LpO.go [.bit true, .bit true, .bit true, .wait 13, .mask [0, 3, 4, 5], .ren []] (p := [(decide (0 ≤ v3)) = true,(0 : Int) ≤ v3,(v3 : Int) < s_.size,v2 = true,(decide (9 < (i64 ((i64 (u8 ((sAt s_ v3) - 48))) * 2)))) = true]) (by kernel_rfl) (cj h3 (cj (od h3) (cj (od h4) (cj h5 (cj1 h6))))) (impl_Luhn_l0_ok s_ fuel (i64 (v1 + (i64 ((i64 ((i64 (u8 ((sAt s_ v3) - 48))) * 2)) - 9)))) (!v2) (i64 (v3 - 1)))) (fun h6 =>
     LpO.go [.bit true, .bit true, .bit false, .wait 10, .mask [0, 3, 4, 5], .ren []] (p := [(decide (0 ≤ v3)) = true,(0 : Int) ≤ v3,(v3 : Int) < s_.size,v2 = true,(decide (9 < (i64 ((i64 (u8 ((sAt s_ v3) - 48))) * 2)))) = false]) (by kernel_rfl) (cj h3 (cj (od h3) (cj (od h4) (cj h5 (cj1 h6))))) (impl_Luhn_l0_ok s_ fuel (i64 (v1 + (i64 ((i64 (u8 ((sAt s_ v3) - 48))) * 2)))) (!v2) (i64 (v3 - 1))))) (fun h5 =>
     LpO.go [.bit true, .bit false, .wait 10, .mask [0, 3, 4, 5], .ren []] (p := [(decide (0 ≤ v3)) = true,(0 : Int) ≤ v3,(v3 : Int) < s_.size,v2 = false]) (by kernel_rfl) (cj h3 (cj (od h3) (cj (od h4) (cj1 h5)))) (impl_Luhn_l0_ok s_ fuel (i64 (v1 + (i64 (u8 ((sAt s_ v3) - 48))))) (!v2) (i64 (v3 - 1))))) (fun h4 =>
     Pn.none)) (fun h3 =>
     Pn.some (LpO.out [.bit false, .mask [3], .ren []] (p := [(decide (0 ≤ v3)) = false]) (by kernel_rfl) (show X.out 0 ≠ X.go from nofun) (cj1 h3)))
def impl_Luhn (s_ : ByteArray) : Option (Int) :=
 (impl_Digits s_).bind fun r1 =>
 if r1 = true then
 (impl_Luhn_l0 s_ FUEL 0 true (i64 ((s_.size : Int) - 1))).bind fun r2 =>
 some (Int.tmod (i64 (10 - (Int.tmod r2 10))) 10)
 else
 some (-1)
theorem impl_Luhn_ok (s_ : ByteArray) : Pn (fun y => Fn Tryz.prog 79 [(false, E9 s_)] (E3 y) []) (impl_Luhn s_) := by
  unfold impl_Luhn
  exact
   Pn.bind (fun r1 h1 =>
   Pn.ite (fun h2 =>
   Pn.bind (fun r2 h7 =>
   Pn.some (Fn.of [.call [] (E4 r1) [], .bit false, .wait 6, .mask [0, 3, 4, 5], .ren [], .loop (X.out 0) (st 38 [(3, vI r2)] [] [])] (p := [Fn Tryz.prog 68 [(false, E9 s_)] (E4 r1) [],(true || ((E4 r1).nv && nvL [])) = true,(!r1) = false,Loop Tryz.prog (sub (codeOf Tryz.prog 79) [1, 1, 1, 0, 1, 0, 0]) (st 38 [(0, V.sc (.string s_)), (3, vI 0), (4, V.sc (.bool true)), (5, vI (i64 ((s_.size : Int) - 1)))] [] []) (X.out 0) (st 38 [(3, vI r2)] [] []),(10 : Int) ≠ 0,(10 : Int) ≠ 0]) (by kernel_rfl) (cj (impl_Digits_ok s_ r1 h1) (cj rfl (cj (nf h2) (cj (impl_Luhn_l0_ok s_ FUEL 0 true (i64 ((s_.size : Int) - 1)) r2 h7) (cj (by decide) (cj1 (by decide)))))))))) (fun h2 =>
   Pn.some (Fn.of [.call [] (E4 r1) [], .bit true] (p := [Fn Tryz.prog 68 [(false, E9 s_)] (E4 r1) [],(true || ((E4 r1).nv && nvL [])) = true,(!r1) = true]) (by kernel_rfl) (cj (impl_Digits_ok s_ r1 h1) (cj rfl (cj1 (nt h2)))))))
def impl_LuhnOk (s_ : ByteArray) : Option (Bool) :=
 if (decide (1 ≤ (i64 ((s_.size : Int) - 1)))) = true then
 (impl_Digits s_).bind fun r1 =>
 if r1 = true then
 if (decide (0 ≤ (i64 ((s_.size : Int) - 1)))) = true then
 if (decide ((i64 ((s_.size : Int) - 1)) ≤ (s_.size : Int))) = true then
 if (decide (0 ≤ i64 ((s_.size : Int) - 1))) = true then
 if (decide ((i64 ((s_.size : Int) - 1) : Int) < (s_.size : Int))) = true then
 (impl_Luhn (s_.extract 0 (i64 ((s_.size : Int) - 1)).toNat)).bind fun r2 =>
 some (r2 == (i64 (u8 ((sAt s_ (i64 ((s_.size : Int) - 1))) - 48))))
 else none
 else none
 else none
 else none
 else
 some false
 else
 some false
theorem impl_LuhnOk_ok (s_ : ByteArray) : Pn (fun y => Fn Tryz.prog 67 [(false, E9 s_)] (E4 y) []) (impl_LuhnOk s_) := by
  unfold impl_LuhnOk
  exact
   Pn.ite (fun h1 =>
   Pn.bind (fun r1 h2 =>
   Pn.ite (fun h3 =>
   Pn.ite (fun h4 =>
   Pn.ite (fun h5 =>
   Pn.ite (fun h6 =>
   Pn.ite (fun h7 =>
   Pn.bind (fun r2 h8 =>
   Pn.some (Fn.of [.draw [], .bit true, .bit true, .call [] (E4 r1) [], .bit true, .bit true, .bit true, .bit true, .bit true, .bit true, .bit true, .bit true, .bit true, .bit true, .call [] (E3 r2) [], .bit true, .bit true] (p := [(decide (1 ≤ (i64 ((s_.size : Int) - 1)))) = true,(decide (1 ≤ (i64 ((s_.size : Int) - 1)))) = true,Fn Tryz.prog 68 [(false, E9 s_)] (E4 r1) [],(true || ((E4 r1).nv && nvL [])) = true,(decide (1 ≤ (i64 ((s_.size : Int) - 1)))) = true,r1 = true,r1 = true,r1 = true,(0 : Int) ≤ 0,(0 : Int) ≤ (i64 ((s_.size : Int) - 1)),((i64 ((s_.size : Int) - 1)) : Int) ≤ (s_.size : Int),r1 = true,r1 = true,r1 = true,(0 : Int) ≤ i64 ((s_.size : Int) - 1),(i64 ((s_.size : Int) - 1) : Int) < s_.size,r1 = true,r1 = true,r1 = true,Fn Tryz.prog 79 [(false, E9 (s_.extract 0 (i64 ((s_.size : Int) - 1)).toNat))] (E3 r2) [],(true || ((E3 r2).nv && nvL [])) = true,r1 = true,r1 = true]) (by kernel_rfl) (cj h1 (cj h1 (cj (impl_Digits_ok s_ r1 h2) (cj rfl (cj h1 (cj h3 (cj h3 (cj h3 (cj (by decide) (cj (od h4) (cj (od h5) (cj h3 (cj h3 (cj h3 (cj (od h6) (cj (od h7) (cj h3 (cj h3 (cj h3 (cj (impl_Luhn_ok (s_.extract 0 (i64 ((s_.size : Int) - 1)).toNat) r2 h8) (cj rfl (cj h3 (cj1 h3)))))))))))))))))))))))))) (fun h7 =>
   Pn.none)) (fun h6 =>
   Pn.none)) (fun h5 =>
   Pn.none)) (fun h4 =>
   Pn.none)) (fun h3 =>
   Pn.some (Fn.of [.draw [], .bit true, .bit true, .call [] (E4 r1) [], .bit true, .bit false, .bit false, .bit false, .bit false, .bit false, .bit false, .bit false, .bit false, .bit false, .bit false, .bit false] (p := [(decide (1 ≤ (i64 ((s_.size : Int) - 1)))) = true,(decide (1 ≤ (i64 ((s_.size : Int) - 1)))) = true,Fn Tryz.prog 68 [(false, E9 s_)] (E4 r1) [],(true || ((E4 r1).nv && nvL [])) = true,(decide (1 ≤ (i64 ((s_.size : Int) - 1)))) = true,r1 = false,r1 = false,r1 = false,r1 = false,r1 = false,r1 = false,r1 = false,r1 = false,r1 = false,r1 = false,r1 = false]) (by kernel_rfl) (cj h1 (cj h1 (cj (impl_Digits_ok s_ r1 h2) (cj rfl (cj h1 (cj h3 (cj h3 (cj h3 (cj h3 (cj h3 (cj h3 (cj h3 (cj h3 (cj h3 (cj h3 (cj1 h3)))))))))))))))))))) (fun h1 =>
   Pn.some (Fn.of [.draw [], .bit false, .bit false, .bit false, .bit false, .bit false, .bit false, .bit false, .bit false, .bit false, .bit false, .bit false, .bit false, .bit false, .bit false] (p := [(decide (1 ≤ (i64 ((s_.size : Int) - 1)))) = false,(decide (1 ≤ (i64 ((s_.size : Int) - 1)))) = false,(decide (1 ≤ (i64 ((s_.size : Int) - 1)))) = false,false = false,false = false,false = false,false = false,false = false,false = false,false = false,false = false,false = false,false = false,false = false]) (by kernel_rfl) (cj h1 (cj h1 (cj h1 (cj rfl (cj rfl (cj rfl (cj rfl (cj rfl (cj rfl (cj rfl (cj rfl (cj rfl (cj rfl (cj1 rfl))))))))))))))))
def impl_AcctIdOk (s_ : ByteArray) : Option (Bool) :=
 if (decide ((s_.size : Int) ≤ 19)) = true then
 (impl_LuhnOk s_).bind fun r1 =>
 some r1
 else
 some false
theorem impl_AcctIdOk_ok (s_ : ByteArray) : Pn (fun y => Fn Tryz.prog 51 [(false, E9 s_)] (E4 y) []) (impl_AcctIdOk s_) := by
  unfold impl_AcctIdOk
  exact
   Pn.ite (fun h1 =>
   Pn.bind (fun r1 h2 =>
   Pn.some (Fn.of [.bit true, .bit true, .call [] (E4 r1) [], .bit true] (p := [(decide ((s_.size : Int) ≤ 19)) = true,(decide ((s_.size : Int) ≤ 19)) = true,Fn Tryz.prog 67 [(false, E9 s_)] (E4 r1) [],(true || ((E4 r1).nv && nvL [])) = true,(decide ((s_.size : Int) ≤ 19)) = true]) (by kernel_rfl) (cj h1 (cj h1 (cj (impl_LuhnOk_ok s_ r1 h2) (cj rfl (cj1 h1)))))))) (fun h1 =>
   Pn.some (Fn.of [.bit false, .bit false, .bit false] (p := [(decide ((s_.size : Int) ≤ 19)) = false,(decide ((s_.size : Int) ≤ 19)) = false,(decide ((s_.size : Int) ≤ 19)) = false]) (by kernel_rfl) (cj h1 (cj h1 (cj1 h1)))))
def impl_isWide (s_ : ByteArray) (n : Int) : Option (Bool) :=
 (impl_Digits s_).bind fun r1 =>
 if r1 = true then
 some ((s_.size : Int) == n)
 else
 some false
theorem impl_isWide_ok (s_ : ByteArray) (n : Int) : Pn (fun y => Fn Tryz.prog 52 [(false, E9 s_), (false, E3 n)] (E4 y) []) (impl_isWide s_ n) := by
  unfold impl_isWide
  exact
   Pn.bind (fun r1 h1 =>
   Pn.ite (fun h2 =>
   Pn.some (Fn.of [.call [] (E4 r1) [], .bit true, .bit true, .bit true, .bit true, .bit true] (p := [Fn Tryz.prog 68 [(false, E9 s_)] (E4 r1) [],(true || ((E4 r1).nv && nvL [])) = true,r1 = true,r1 = true,r1 = true,r1 = true,r1 = true]) (by kernel_rfl) (cj (impl_Digits_ok s_ r1 h1) (cj rfl (cj h2 (cj h2 (cj h2 (cj h2 (cj1 h2))))))))) (fun h2 =>
   Pn.some (Fn.of [.call [] (E4 r1) [], .bit false, .bit false, .bit false, .bit false, .bit false] (p := [Fn Tryz.prog 68 [(false, E9 s_)] (E4 r1) [],(true || ((E4 r1).nv && nvL [])) = true,r1 = false,r1 = false,r1 = false,r1 = false,r1 = false]) (by kernel_rfl) (cj (impl_Digits_ok s_ r1 h1) (cj rfl (cj h2 (cj h2 (cj h2 (cj h2 (cj1 h2))))))))))
def impl_HoldIdOk_l0 (s_ : ByteArray) : Nat → Int → Option (Lo Unit Unit)
  | 0, _ => none
  | fuel + 1, v1 =>
   if (decide (v1 < (s_.size : Int))) = true then
   if (decide (0 ≤ v1)) = true then
   if (decide ((v1 : Int) < (s_.size : Int))) = true then
   if (decide ((sAt s_ v1) < 48)) = true then
   if (decide ((sAt s_ v1) < 97)) = true then
   some (.ret ())
   else
   if (decide (122 < (sAt s_ v1))) = true then
   some (.ret ())
   else
   impl_HoldIdOk_l0 s_ fuel (i64 (v1 + 1))
   else
   if (decide (57 < (sAt s_ v1))) = true then
   if (decide ((sAt s_ v1) < 97)) = true then
   some (.ret ())
   else
   if (decide (122 < (sAt s_ v1))) = true then
   some (.ret ())
   else
   impl_HoldIdOk_l0 s_ fuel (i64 (v1 + 1))
   else
   impl_HoldIdOk_l0 s_ fuel (i64 (v1 + 1))
   else none
   else none
   else
   some (.out ())
theorem impl_HoldIdOk_l0_ok (s_ : ByteArray) : ∀ (fuel : Nat) (v1 : Int), Pn (LpO Tryz.prog (sub (codeOf Tryz.prog 53) [1, 0, 1, 0, 0]) (st 35 [(0, V.sc (.string s_)), (5, vI (s_.size : Int)), (6, vI v1)] [] []) (fun (y : Lo Unit Unit) => Lo.elim y (fun s => (X.out 0, st 35 [(0, V.sc (.string s_))] [] [])) (fun s => (X.ret, st 35 [(2, V.sc (.bool false))] [] [])))) (impl_HoldIdOk_l0 s_ fuel v1)
  | 0, _ => Pn.none
  | fuel + 1, v1 => by
    unfold impl_HoldIdOk_l0
    exact
     Pn.ite (fun h1 =>
     Pn.ite (fun h2 =>
     Pn.ite (fun h3 =>
     Pn.ite (fun h4 =>
     Pn.ite (fun h5 =>
     Pn.some (LpO.out [.bit true, .bit true, .bit true, .bit true, .bit true, .bit true, .bit true, .bit true, .bit true, .bit true, .bit true, .bit true, .bit true, .bit true, .bit true, .bit true, .bit true, .bit true, .bit true, .wait 1, .mask [2], .ren []] (p := [(decide (v1 < (s_.size : Int))) = true,(0 : Int) ≤ v1,(v1 : Int) < s_.size,(decide ((sAt s_ v1) < 48)) = true,(decide ((sAt s_ v1) < 48)) = true,(decide ((sAt s_ v1) < 48)) = true,(decide ((sAt s_ v1) < 48)) = true,(decide ((sAt s_ v1) < 48)) = true,true = true,true = true,true = true,(0 : Int) ≤ v1,(v1 : Int) < s_.size,true = true,true = true,(decide ((sAt s_ v1) < 97)) = true,(decide ((sAt s_ v1) < 97)) = true,(decide ((sAt s_ v1) < 97)) = true,(decide ((sAt s_ v1) < 97)) = true,true = true,(decide ((sAt s_ v1) < 97)) = true,true = true,true = true]) (by kernel_rfl) (show X.ret ≠ X.go from nofun) (cj h1 (cj (od h2) (cj (od h3) (cj h4 (cj h4 (cj h4 (cj h4 (cj h4 (cj rfl (cj rfl (cj rfl (cj (od h2) (cj (od h3) (cj rfl (cj rfl (cj h5 (cj h5 (cj h5 (cj h5 (cj rfl (cj h5 (cj rfl (cj1 rfl))))))))))))))))))))))))) (fun h5 =>
     Pn.ite (fun h6 =>
     Pn.some (LpO.out [.bit true, .bit true, .bit true, .bit true, .bit true, .bit true, .bit true, .bit true, .bit true, .bit true, .bit true, .bit false, .bit false, .bit false, .bit false, .bit true, .bit false, .bit true, .bit true, .wait 1, .mask [2], .ren []] (p := [(decide (v1 < (s_.size : Int))) = true,(0 : Int) ≤ v1,(v1 : Int) < s_.size,(decide ((sAt s_ v1) < 48)) = true,(decide ((sAt s_ v1) < 48)) = true,(decide ((sAt s_ v1) < 48)) = true,(decide ((sAt s_ v1) < 48)) = true,(decide ((sAt s_ v1) < 48)) = true,true = true,true = true,true = true,(0 : Int) ≤ v1,(v1 : Int) < s_.size,true = true,true = true,(decide ((sAt s_ v1) < 97)) = false,(decide ((sAt s_ v1) < 97)) = false,(decide ((sAt s_ v1) < 97)) = false,(0 : Int) ≤ v1,(v1 : Int) < s_.size,(decide ((sAt s_ v1) < 97)) = false,true = true,(decide ((sAt s_ v1) < 97)) = false,true = true,(decide (122 < (sAt s_ v1))) = true]) (by kernel_rfl) (show X.ret ≠ X.go from nofun) (cj h1 (cj (od h2) (cj (od h3) (cj h4 (cj h4 (cj h4 (cj h4 (cj h4 (cj rfl (cj rfl (cj rfl (cj (od h2) (cj (od h3) (cj rfl (cj rfl (cj h5 (cj h5 (cj h5 (cj (od h2) (cj (od h3) (cj h5 (cj rfl (cj h5 (cj rfl (cj1 h6))))))))))))))))))))))))))) (fun h6 =>
     LpO.go [.bit true, .bit true, .bit true, .bit true, .bit true, .bit true, .bit true, .bit true, .bit true, .bit true, .bit true, .bit false, .bit false, .bit false, .bit false, .bit true, .bit false, .bit true, .bit false, .wait 2, .mask [0, 5, 6], .ren []] (p := [(decide (v1 < (s_.size : Int))) = true,(0 : Int) ≤ v1,(v1 : Int) < s_.size,(decide ((sAt s_ v1) < 48)) = true,(decide ((sAt s_ v1) < 48)) = true,(decide ((sAt s_ v1) < 48)) = true,(decide ((sAt s_ v1) < 48)) = true,(decide ((sAt s_ v1) < 48)) = true,true = true,true = true,true = true,(0 : Int) ≤ v1,(v1 : Int) < s_.size,true = true,true = true,(decide ((sAt s_ v1) < 97)) = false,(decide ((sAt s_ v1) < 97)) = false,(decide ((sAt s_ v1) < 97)) = false,(0 : Int) ≤ v1,(v1 : Int) < s_.size,(decide ((sAt s_ v1) < 97)) = false,true = true,(decide ((sAt s_ v1) < 97)) = false,true = true,(decide (122 < (sAt s_ v1))) = false]) (by kernel_rfl) (cj h1 (cj (od h2) (cj (od h3) (cj h4 (cj h4 (cj h4 (cj h4 (cj h4 (cj rfl (cj rfl (cj rfl (cj (od h2) (cj (od h3) (cj rfl (cj rfl (cj h5 (cj h5 (cj h5 (cj (od h2) (cj (od h3) (cj h5 (cj rfl (cj h5 (cj rfl (cj1 h6))))))))))))))))))))))))) (impl_HoldIdOk_l0_ok s_ fuel (i64 (v1 + 1)))))) (fun h4 =>
     Pn.ite (fun h7 =>
     Pn.ite (fun h8 =>
     Pn.some (LpO.out [.bit true, .bit false, .bit false, .bit false, .bit false, .bit false, .bit true, .bit true, .bit true, .bit true, .bit true, .bit true, .bit true, .bit true, .bit true, .bit true, .bit true, .bit true, .bit true, .wait 1, .mask [2], .ren []] (p := [(decide (v1 < (s_.size : Int))) = true,(0 : Int) ≤ v1,(v1 : Int) < s_.size,(decide ((sAt s_ v1) < 48)) = false,(decide ((sAt s_ v1) < 48)) = false,(decide ((sAt s_ v1) < 48)) = false,(0 : Int) ≤ v1,(v1 : Int) < s_.size,(decide ((sAt s_ v1) < 48)) = false,(decide ((sAt s_ v1) < 48)) = false,(decide (57 < (sAt s_ v1))) = true,(decide (57 < (sAt s_ v1))) = true,(decide (57 < (sAt s_ v1))) = true,(0 : Int) ≤ v1,(v1 : Int) < s_.size,(decide (57 < (sAt s_ v1))) = true,(decide (57 < (sAt s_ v1))) = true,(decide ((sAt s_ v1) < 97)) = true,(decide ((sAt s_ v1) < 97)) = true,(decide ((sAt s_ v1) < 97)) = true,(decide ((sAt s_ v1) < 97)) = true,(decide (57 < (sAt s_ v1))) = true,(decide ((sAt s_ v1) < 97)) = true,(decide (57 < (sAt s_ v1))) = true,true = true]) (by kernel_rfl) (show X.ret ≠ X.go from nofun) (cj h1 (cj (od h2) (cj (od h3) (cj h4 (cj h4 (cj h4 (cj (od h2) (cj (od h3) (cj h4 (cj h4 (cj h7 (cj h7 (cj h7 (cj (od h2) (cj (od h3) (cj h7 (cj h7 (cj h8 (cj h8 (cj h8 (cj h8 (cj h7 (cj h8 (cj h7 (cj1 rfl))))))))))))))))))))))))))) (fun h8 =>
     Pn.ite (fun h9 =>
     Pn.some (LpO.out [.bit true, .bit false, .bit false, .bit false, .bit false, .bit false, .bit true, .bit true, .bit true, .bit true, .bit true, .bit false, .bit false, .bit false, .bit false, .bit true, .bit false, .bit true, .bit true, .wait 1, .mask [2], .ren []] (p := [(decide (v1 < (s_.size : Int))) = true,(0 : Int) ≤ v1,(v1 : Int) < s_.size,(decide ((sAt s_ v1) < 48)) = false,(decide ((sAt s_ v1) < 48)) = false,(decide ((sAt s_ v1) < 48)) = false,(0 : Int) ≤ v1,(v1 : Int) < s_.size,(decide ((sAt s_ v1) < 48)) = false,(decide ((sAt s_ v1) < 48)) = false,(decide (57 < (sAt s_ v1))) = true,(decide (57 < (sAt s_ v1))) = true,(decide (57 < (sAt s_ v1))) = true,(0 : Int) ≤ v1,(v1 : Int) < s_.size,(decide (57 < (sAt s_ v1))) = true,(decide (57 < (sAt s_ v1))) = true,(decide ((sAt s_ v1) < 97)) = false,(decide ((sAt s_ v1) < 97)) = false,(decide ((sAt s_ v1) < 97)) = false,(0 : Int) ≤ v1,(v1 : Int) < s_.size,(decide ((sAt s_ v1) < 97)) = false,(decide (57 < (sAt s_ v1))) = true,(decide ((sAt s_ v1) < 97)) = false,(decide (57 < (sAt s_ v1))) = true,(decide (122 < (sAt s_ v1))) = true]) (by kernel_rfl) (show X.ret ≠ X.go from nofun) (cj h1 (cj (od h2) (cj (od h3) (cj h4 (cj h4 (cj h4 (cj (od h2) (cj (od h3) (cj h4 (cj h4 (cj h7 (cj h7 (cj h7 (cj (od h2) (cj (od h3) (cj h7 (cj h7 (cj h8 (cj h8 (cj h8 (cj (od h2) (cj (od h3) (cj h8 (cj h7 (cj h8 (cj h7 (cj1 h9))))))))))))))))))))))))))))) (fun h9 =>
     LpO.go [.bit true, .bit false, .bit false, .bit false, .bit false, .bit false, .bit true, .bit true, .bit true, .bit true, .bit true, .bit false, .bit false, .bit false, .bit false, .bit true, .bit false, .bit true, .bit false, .wait 2, .mask [0, 5, 6], .ren []] (p := [(decide (v1 < (s_.size : Int))) = true,(0 : Int) ≤ v1,(v1 : Int) < s_.size,(decide ((sAt s_ v1) < 48)) = false,(decide ((sAt s_ v1) < 48)) = false,(decide ((sAt s_ v1) < 48)) = false,(0 : Int) ≤ v1,(v1 : Int) < s_.size,(decide ((sAt s_ v1) < 48)) = false,(decide ((sAt s_ v1) < 48)) = false,(decide (57 < (sAt s_ v1))) = true,(decide (57 < (sAt s_ v1))) = true,(decide (57 < (sAt s_ v1))) = true,(0 : Int) ≤ v1,(v1 : Int) < s_.size,(decide (57 < (sAt s_ v1))) = true,(decide (57 < (sAt s_ v1))) = true,(decide ((sAt s_ v1) < 97)) = false,(decide ((sAt s_ v1) < 97)) = false,(decide ((sAt s_ v1) < 97)) = false,(0 : Int) ≤ v1,(v1 : Int) < s_.size,(decide ((sAt s_ v1) < 97)) = false,(decide (57 < (sAt s_ v1))) = true,(decide ((sAt s_ v1) < 97)) = false,(decide (57 < (sAt s_ v1))) = true,(decide (122 < (sAt s_ v1))) = false]) (by kernel_rfl) (cj h1 (cj (od h2) (cj (od h3) (cj h4 (cj h4 (cj h4 (cj (od h2) (cj (od h3) (cj h4 (cj h4 (cj h7 (cj h7 (cj h7 (cj (od h2) (cj (od h3) (cj h7 (cj h7 (cj h8 (cj h8 (cj h8 (cj (od h2) (cj (od h3) (cj h8 (cj h7 (cj h8 (cj h7 (cj1 h9))))))))))))))))))))))))))) (impl_HoldIdOk_l0_ok s_ fuel (i64 (v1 + 1)))))) (fun h7 =>
     LpO.go [.bit true, .bit false, .bit false, .bit false, .bit false, .bit false, .bit false, .bit false, .bit false, .bit false, .bit false, .bit false, .bit false, .bit false, .wait 2, .mask [0, 5, 6], .ren []] (p := [(decide (v1 < (s_.size : Int))) = true,(0 : Int) ≤ v1,(v1 : Int) < s_.size,(decide ((sAt s_ v1) < 48)) = false,(decide ((sAt s_ v1) < 48)) = false,(decide ((sAt s_ v1) < 48)) = false,(0 : Int) ≤ v1,(v1 : Int) < s_.size,(decide ((sAt s_ v1) < 48)) = false,(decide ((sAt s_ v1) < 48)) = false,(decide (57 < (sAt s_ v1))) = false,(decide (57 < (sAt s_ v1))) = false,(decide (57 < (sAt s_ v1))) = false,(decide (57 < (sAt s_ v1))) = false,(decide (57 < (sAt s_ v1))) = false,(decide (57 < (sAt s_ v1))) = false,(decide (57 < (sAt s_ v1))) = false,false = false]) (by kernel_rfl) (cj h1 (cj (od h2) (cj (od h3) (cj h4 (cj h4 (cj h4 (cj (od h2) (cj (od h3) (cj h4 (cj h4 (cj h7 (cj h7 (cj h7 (cj h7 (cj h7 (cj h7 (cj h7 (cj1 rfl)))))))))))))))))) (impl_HoldIdOk_l0_ok s_ fuel (i64 (v1 + 1)))))) (fun h3 =>
     Pn.none)) (fun h2 =>
     Pn.none)) (fun h1 =>
     Pn.some (LpO.out [.bit false, .mask [0], .ren []] (p := [(decide (v1 < (s_.size : Int))) = false]) (by kernel_rfl) (show X.out 0 ≠ X.go from nofun) (cj1 h1)))
def impl_HoldIdOk (s_ : ByteArray) : Option (Bool) :=
 (impl_HoldIdOk_l0 s_ FUEL 0).bind fun r1 =>
 Lo.elim r1 (fun s1 =>
 (impl_within (s_.size : Int) 1 6).bind fun r2 =>
 some r2) (fun s2 =>
 some false)
theorem impl_HoldIdOk_ok (s_ : ByteArray) : Pn (fun y => Fn Tryz.prog 53 [(false, E9 s_)] (E4 y) []) (impl_HoldIdOk s_) := by
  unfold impl_HoldIdOk
  exact
   Pn.bind (fun r1 h10 =>
   Pn.lo (fun s1 h11 =>
   Pn.bind (fun r2 h13 =>
   Pn.some (Fn.of [.wait 5, .mask [0, 5, 6], .ren [], .loop (X.out 0) (st 35 [(0, V.sc (.string s_))] [] []), .call [] (E4 r2) []] (p := [Loop Tryz.prog (sub (codeOf Tryz.prog 53) [1, 0, 1, 0, 0]) (st 35 [(0, V.sc (.string s_)), (5, vI (s_.size : Int)), (6, vI 0)] [] []) (X.out 0) (st 35 [(0, V.sc (.string s_))] [] []),Fn Tryz.prog 36 [(false, E3 (s_.size : Int)), (false, E3 1), (false, E3 6)] (E4 r2) [],(true || ((E4 r2).nv && nvL [])) = true]) (by kernel_rfl) (cj ((impl_HoldIdOk_l0_ok s_ FUEL 0 r1 h10).at h11 :) (cj (impl_within_ok (s_.size : Int) 1 6 r2 h13) (cj1 rfl)))))) (fun s2 h12 =>
   Pn.some (Fn.of [.wait 5, .mask [0, 5, 6], .ren [], .loop (X.ret) (st 35 [(2, V.sc (.bool false))] [] [])] (p := [Loop Tryz.prog (sub (codeOf Tryz.prog 53) [1, 0, 1, 0, 0]) (st 35 [(0, V.sc (.string s_)), (5, vI (s_.size : Int)), (6, vI 0)] [] []) (X.ret) (st 35 [(2, V.sc (.bool false))] [] [])]) (by kernel_rfl) (cj1 ((impl_HoldIdOk_l0_ok s_ FUEL 0 r1 h10).at h12 :)))))
end Go.Proofs.YthhabgkebfchbaaGreatDoorM
