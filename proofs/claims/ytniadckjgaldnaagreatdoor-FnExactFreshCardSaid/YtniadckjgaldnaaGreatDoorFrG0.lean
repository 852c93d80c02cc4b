/- Printed by gen.py: functions on plain data, and that the program computes them. No condition. -/
import Derived.Test.YtniadckjgaldnaaGreatDoorX2
import Derived.Test.YtniadckjgaldnaaGreatDoorProg
namespace Go.Proofs.YtniadckjgaldnaaGreatDoorM
set_option linter.unusedVariables false
set_option linter.unusedSimpArgs false
open Go.RowKit
set_option maxRecDepth 100000

structure Done where
  At : Int
  Data : List Int
  Reply : List Int
structure Req where
  Op : Int
  Acct : ByteArray
  Other : ByteArray
  Hold : ByteArray
  Trace : ByteArray
  Mti : ByteArray
  Amount : Int
  Ttl : Int
structure Field where
  No : Int
  Text : ByteArray
structure Msg where
  Mti : ByteArray
  List : List Field
structure fieldRow where
  no : Int
  kind : Int
  size : Int
structure opRow where
  mti : ByteArray
  code : ByteArray
  name : ByteArray
  fields : List Int
abbrev vI (x : Int) : V := V.sc (.int .i64 x)
def E3 (x : Int) : V := vI x
def E5 (x : Int) : V := V.sc (.int .u8 x)
def E31 (x : List Int) : V := V.sl true 5 (List.map E5 x)
def E33 (x : Done) : V := V.agg [vI x.At, V.sl true 5 (List.map E5 x.Data), V.sl true 5 (List.map E5 x.Reply)]
def E22 (x : List Done) : V := V.sl true 33 (List.map E33 x)
def E4 (x : Bool) : V := V.sc (.bool x)
def E34 (x : Done) : V := V.agg [vI x.At, V.sl true 5 (List.map E5 x.Data), V.sl true 5 (List.map E5 x.Reply)]
def E24 (x : List Done) : V := V.sl true 34 (List.map E34 x)
def E9 (x : ByteArray) : V := V.sc (.string x)
def E36 (x : Req) : V := V.agg [vI x.Op, V.sc (.string x.Acct), V.sc (.string x.Other), V.sc (.string x.Hold), V.sc (.string x.Trace), V.sc (.string x.Mti), vI x.Amount, vI x.Ttl]
def E59 (x : Field) : V := V.agg [vI x.No, V.sc (.string x.Text)]
def E44 (x : List Field) : V := V.sl true 59 (List.map E59 x)
def E46 (x : Msg) : V := V.agg [V.sc (.string x.Mti), V.sl true 59 (List.map E59 x.List)]
def E55 (x : List Int) : V := V.sl true 3 (List.map E3 x)
def E97 (x : List ByteArray) : V := V.sl true 9 (List.map E9 x)
def E88 (x : fieldRow) : V := V.agg [vI x.no, vI x.kind, vI x.size]
def E99 (x : List fieldRow) : V := V.sl true 88 (List.map E88 x)
def E75 (x : opRow) : V := V.agg [V.sc (.string x.mti), V.sc (.string x.code), V.sc (.string x.name), V.sl true 3 (List.map E3 x.fields)]
def E73 (x : List opRow) : V := V.sl true 75 (List.map E75 x)
abbrev vS (x : ByteArray) : V := V.sc (.string x)
abbrev vB (x : Bool) : V := V.sc (.bool x)
abbrev vE : V := V.sc (.string ByteArray.empty)
abbrev bT : It := .bit true
abbrev bF : It := .bit false
abbrev lF3 (x : List Int) : V := V.sl false 3 (List.map E3 x)
abbrev lF33 (x : List Done) : V := V.sl false 33 (List.map E33 x)
abbrev lF34 (x : List Done) : V := V.sl false 34 (List.map E34 x)
abbrev lF5 (x : List Int) : V := V.sl false 5 (List.map E5 x)
abbrev lF59 (x : List Field) : V := V.sl false 59 (List.map E59 x)
abbrev lF75 (x : List opRow) : V := V.sl false 75 (List.map E75 x)
abbrev lT34 (x : List Done) : V := V.sl true 34 (List.map E34 x)
abbrev lT5 (x : List Int) : V := V.sl true 5 (List.map E5 x)
abbrev lT59 (x : List Field) : V := V.sl true 59 (List.map E59 x)
theorem nv_E3 (x : Int) : (E3 x).nv = true := by
  simp [E3, V.nv, nvL, nvL_all]
theorem nv_E5 (x : Int) : (E5 x).nv = true := by
  simp [E5, V.nv, nvL, nvL_all]
theorem nv_E31 (x : List Int) : (E31 x).nv = true := by
  simp [E31, V.nv, nvL, nvL_all, nv_E5]
theorem nv_E33 (x : Done) : (E33 x).nv = true := by
  simp [E33, V.nv, nvL, nvL_all, nv_E5, nv_E5]
theorem nv_E22 (x : List Done) : (E22 x).nv = true := by
  simp [E22, V.nv, nvL, nvL_all, nv_E33]
theorem nv_E4 (x : Bool) : (E4 x).nv = true := by
  simp [E4, V.nv, nvL, nvL_all]
theorem nv_E34 (x : Done) : (E34 x).nv = true := by
  simp [E34, V.nv, nvL, nvL_all, nv_E5, nv_E5]
theorem nv_E24 (x : List Done) : (E24 x).nv = true := by
  simp [E24, V.nv, nvL, nvL_all, nv_E34]
theorem nv_E9 (x : ByteArray) : (E9 x).nv = true := by
  simp [E9, V.nv, nvL, nvL_all]
theorem nv_E36 (x : Req) : (E36 x).nv = true := by
  simp [E36, V.nv, nvL, nvL_all]
theorem nv_E59 (x : Field) : (E59 x).nv = true := by
  simp [E59, V.nv, nvL, nvL_all]
theorem nv_E44 (x : List Field) : (E44 x).nv = true := by
  simp [E44, V.nv, nvL, nvL_all, nv_E59]
theorem nv_E46 (x : Msg) : (E46 x).nv = true := by
  simp [E46, V.nv, nvL, nvL_all, nv_E59]
theorem nv_E55 (x : List Int) : (E55 x).nv = true := by
  simp [E55, V.nv, nvL, nvL_all, nv_E3]
theorem nv_E97 (x : List ByteArray) : (E97 x).nv = true := by
  simp [E97, V.nv, nvL, nvL_all, nv_E9]
theorem nv_E88 (x : fieldRow) : (E88 x).nv = true := by
  simp [E88, V.nv, nvL, nvL_all]
theorem nv_E99 (x : List fieldRow) : (E99 x).nv = true := by
  simp [E99, V.nv, nvL, nvL_all, nv_E88]
theorem nv_E75 (x : opRow) : (E75 x).nv = true := by
  simp [E75, V.nv, nvL, nvL_all, nv_E3]
theorem nv_E73 (x : List opRow) : (E73 x).nv = true := by
  simp [E73, V.nv, nvL, nvL_all, nv_E75]
def laws_szByteS (a : List Int) (left : Int) : Option (Int) :=
 if (decide ((i64 (left - (a.length : Int))) < 0)) = true then
 some (-1)
 else
 some (i64 (left - (a.length : Int)))
theorem laws_szByteS_ok (a : List Int) (left : Int) : Pn (fun y => Fn Tryz.prog 18 [(false, E31 a), (false, E3 left)] (E3 y) []) (laws_szByteS a left) := by
  unfold laws_szByteS
  exact
   Pn.ite (fun h1 =>
   Pn.some (Fn.of [.wait 4, .nm 7 (vI (a.length : Int)), bT] (p := [vI ((List.map E5 a).length : Int) = vI (a.length : Int),(decide ((i64 (left - (a.length : Int))) < 0)) = true]) (by kernel_rfl) (cj (len_nm _ _) (cj1 h1)))) (fun h1 =>
   Pn.some (Fn.of [.wait 4, .nm 7 (vI (a.length : Int)), bF] (p := [vI ((List.map E5 a).length : Int) = vI (a.length : Int),(decide ((i64 (left - (a.length : Int))) < 0)) = false]) (by kernel_rfl) (cj (len_nm _ _) (cj1 h1))))
def laws_szDone (a : Done) (left : Int) : Option (Int) :=
 (laws_szByteS a.Data left).bind fun r1 =>
 if (decide (r1 < 0)) = true then
 some (-1)
 else
 (laws_szByteS a.Reply r1).bind fun r2 =>
 if (decide (r2 < 0)) = true then
 some (-1)
 else
 some r2
theorem laws_szDone_ok (a : Done) (left : Int) : Pn (fun y => Fn Tryz.prog 11 [(false, E33 a), (false, E3 left)] (E3 y) []) (laws_szDone a left) := by
  unfold laws_szDone
  exact
   Pn.bind (fun r1 h1 =>
   Pn.ite (fun h2 =>
   Pn.some (Fn.of [.call [] (E3 r1) [], bT] (p := [Fn Tryz.prog 18 [(false, E31 a.Data), (false, E3 left)] (E3 r1) [],(true || ((E3 r1).nv && nvL [])) = true,(decide (r1 < 0)) = true]) (by kernel_rfl) (cj (laws_szByteS_ok a.Data left r1 h1) (cj rfl (cj1 h2))))) (fun h2 =>
   Pn.bind (fun r2 h3 =>
   Pn.ite (fun h4 =>
   Pn.some (Fn.of [.call [] (E3 r1) [], bF, .call [] (E3 r2) [], bT] (p := [Fn Tryz.prog 18 [(false, E31 a.Data), (false, E3 left)] (E3 r1) [],(true || ((E3 r1).nv && nvL [])) = true,(decide (r1 < 0)) = false,Fn Tryz.prog 18 [(false, E31 a.Reply), (false, E3 r1)] (E3 r2) [],(true || ((E3 r2).nv && nvL [])) = true,(decide (r2 < 0)) = true]) (by kernel_rfl) (cj (laws_szByteS_ok a.Data left r1 h1) (cj rfl (cj h2 (cj (laws_szByteS_ok a.Reply r1 r2 h3) (cj rfl (cj1 h4)))))))) (fun h4 =>
   Pn.some (Fn.of [.call [] (E3 r1) [], bF, .call [] (E3 r2) [], bF] (p := [Fn Tryz.prog 18 [(false, E31 a.Data), (false, E3 left)] (E3 r1) [],(true || ((E3 r1).nv && nvL [])) = true,(decide (r1 < 0)) = false,Fn Tryz.prog 18 [(false, E31 a.Reply), (false, E3 r1)] (E3 r2) [],(true || ((E3 r2).nv && nvL [])) = true,(decide (r2 < 0)) = false]) (by kernel_rfl) (cj (laws_szByteS_ok a.Data left r1 h1) (cj rfl (cj h2 (cj (laws_szByteS_ok a.Reply r1 r2 h3) (cj rfl (cj1 h4)))))))))))
def laws_szDoneS_l0 (a : List Done) : List Done → Int → Option (Lo Int Unit)
  | [], v1 =>
   some (.out v1)
  | x1 :: t1, v1 =>
   (laws_szDone x1 v1).bind fun r1 =>
   if (decide (r1 < 0)) = true then
   some (.ret ())
   else
   laws_szDoneS_l0 a t1 r1
theorem laws_szDoneS_l0_ok (a : List Done) (h3 : capOk a.length = true) : ∀ (t1 p1 : List Done) (_ : a = p1 ++ t1) (v1 : Int), Pn (LpO Tryz.prog (sub (codeOf Tryz.prog 4) [1, 1, 1, 0, 1, 0, 0]) (st 27 [(0, lF33 a), (1, vI v1), (5, vI (p1.length : Int))] [] []) (fun (y : Lo Int Unit) => Lo.elim y (fun s => (X.out 0, st 27 [(1, vI s)] [] [])) (fun s => (X.ret, st 27 [(4, vI (-1))] [] [])))) (laws_szDoneS_l0 a t1 v1)
  | [], p1, h2, v1 => by
    unfold laws_szDoneS_l0
    exact
     Pn.some (LpO.out [.wait 3, .nm 14 (vI (a.length : Int)), bF, .mask [1], .ren []] (p := [vI ((List.map E33 a).length : Int) = vI (a.length : Int),(decide ((p1.length : Int) < (a.length : Int))) = false]) (by kernel_rfl) (show X.out 0 ≠ X.go from nofun) (cj (len_nm _ _) (cj1 (rng_end h2))))
  | x1 :: t1, p1, h2, v1 => by
    unfold laws_szDoneS_l0
    exact
     Pn.bind (fun r1 h4 =>
     Pn.ite (fun h5 =>
     Pn.some (LpO.out [.wait 3, .nm 14 (vI (a.length : Int)), bT, .el (E33 x1), .call [] (E3 r1) [], bT, .wait 1, .mask [4], .ren []] (p := [vI ((List.map E33 a).length : Int) = vI (a.length : Int),(decide ((p1.length : Int) < (a.length : Int))) = true,(0 : Int) ≤ (p1.length : Int),(List.map E33 a)[(p1.length : Int).toNat]? = some (E33 x1),Fn Tryz.prog 11 [(false, E33 x1), (false, E3 v1)] (E3 r1) [],(true || ((E3 r1).nv && nvL [])) = true,(decide (r1 < 0)) = true]) (by kernel_rfl) (show X.ret ≠ X.go from nofun) (cj (len_nm _ _) (cj (rng_lt h2) (cj (by omega) (cj (rng_get _ h2) (cj (laws_szDone_ok x1 v1 r1 h4) (cj rfl (cj1 h5))))))))) (fun h5 =>
     LpO.go [.wait 3, .nm 14 (vI (a.length : Int)), bT, .el (E33 x1), .call [] (E3 r1) [], bF, .wait 3, .mask [0, 1, 5], .ren [], .nm 5 (vI ((p1 ++ [x1]).length : Int))] (p := [vI ((List.map E33 a).length : Int) = vI (a.length : Int),(decide ((p1.length : Int) < (a.length : Int))) = true,(0 : Int) ≤ (p1.length : Int),(List.map E33 a)[(p1.length : Int).toNat]? = some (E33 x1),Fn Tryz.prog 11 [(false, E33 x1), (false, E3 v1)] (E3 r1) [],(true || ((E3 r1).nv && nvL [])) = true,(decide (r1 < 0)) = false,vI (i64 ((p1.length : Int) + 1)) = vI ((p1 ++ [x1]).length : Int)]) (by kernel_rfl) (cj (len_nm _ _) (cj (rng_lt h2) (cj (by omega) (cj (rng_get _ h2) (cj (laws_szDone_ok x1 v1 r1 h4) (cj rfl (cj h5 (cj1 (rng_next h2 h3))))))))) (laws_szDoneS_l0_ok a h3 t1 (p1 ++ [x1]) (rng_step h2) r1)))
def laws_szDoneS (a : List Done) (left : Int) : Option (Int) :=
 if (decide ((i64 (left - (a.length : Int))) < 0)) = true then
 some (-1)
 else
 if (capOk a.length) = true then
 (laws_szDoneS_l0 a a (i64 (left - (a.length : Int)))).bind fun r2 =>
 Lo.elim r2 (fun s1 =>
 some s1) (fun s2 =>
 some (-1))
 else none
theorem laws_szDoneS_ok (a : List Done) (left : Int) : Pn (fun y => Fn Tryz.prog 4 [(false, E22 a), (false, E3 left)] (E3 y) []) (laws_szDoneS a left) := by
  unfold laws_szDoneS
  exact
   Pn.ite (fun h1 =>
   Pn.some (Fn.of [.wait 4, .nm 8 (vI (a.length : Int)), bT] (p := [vI ((List.map E33 a).length : Int) = vI (a.length : Int),(decide ((i64 (left - (a.length : Int))) < 0)) = true]) (by kernel_rfl) (cj (len_nm _ _) (cj1 h1)))) (fun h1 =>
   Pn.ite (fun h6 =>
   Pn.bind (fun r2 h7 =>
   Pn.lo (fun s1 h8 =>
   Pn.some (Fn.of [.wait 4, .nm 8 (vI (a.length : Int)), bF, .wait 1, .mask [0, 1, 5], .ren [], .loop (X.out 0) (st 27 [(1, vI s1)] [] [])] (p := [vI ((List.map E33 a).length : Int) = vI (a.length : Int),(decide ((i64 (left - (a.length : Int))) < 0)) = false,Loop Tryz.prog (sub (codeOf Tryz.prog 4) [1, 1, 1, 0, 1, 0, 0]) (st 27 [(0, lF33 a), (1, vI (i64 (left - (a.length : Int)))), (5, vI 0)] [] []) (X.out 0) (st 27 [(1, vI s1)] [] [])]) (by kernel_rfl) (cj (len_nm _ _) (cj h1 (cj1 ((laws_szDoneS_l0_ok a h6 a [] rfl (i64 (left - (a.length : Int))) r2 h7).at h8 :)))))) (fun s2 h9 =>
   Pn.some (Fn.of [.wait 4, .nm 8 (vI (a.length : Int)), bF, .wait 1, .mask [0, 1, 5], .ren [], .loop (X.ret) (st 27 [(4, vI (-1))] [] [])] (p := [vI ((List.map E33 a).length : Int) = vI (a.length : Int),(decide ((i64 (left - (a.length : Int))) < 0)) = false,Loop Tryz.prog (sub (codeOf Tryz.prog 4) [1, 1, 1, 0, 1, 0, 0]) (st 27 [(0, lF33 a), (1, vI (i64 (left - (a.length : Int)))), (5, vI 0)] [] []) (X.ret) (st 27 [(4, vI (-1))] [] [])]) (by kernel_rfl) (cj (len_nm _ _) (cj h1 (cj1 ((laws_szDoneS_l0_ok a h6 a [] rfl (i64 (left - (a.length : Int))) r2 h7).at h9 :)))))))) (fun h6 =>
   Pn.none))
def laws_toByteS_l0 (a : List Int) : List Int → List Int → (List Int) → Option ((List Int))
  | [], p1, v1 =>
   some v1
  | x1 :: t1, p1, v1 =>
   (v1[(p1.length : Int).toNat]?).bind fun x2 =>
   laws_toByteS_l0 a t1 (p1 ++ [x1]) (v1.set ((p1.length : Int).toNat) x1)
theorem laws_toByteS_l0_ok (a : List Int) (h4 : capOk a.length = true) : ∀ (t1 p1 : List Int) (_ : a = p1 ++ t1) (v1 : List Int), Pn (LpO Tryz.prog (sub (codeOf Tryz.prog 21) [1, 1, 0, 1, 0, 0]) (st 22 [(0, lF5 a), (3, V.ow 0), (4, vI (p1.length : Int))] [Blk.row 5 (List.map E5 v1) []] []) (fun (y : (List Int)) => (X.out 0, st 22 [(3, V.ow 0)] [Blk.row 5 (List.map E5 y) []] []))) (laws_toByteS_l0 a t1 p1 v1)
  | [], p1, h3, v1 => by
    unfold laws_toByteS_l0
    exact
     Pn.some (LpO.out [.wait 3, .nm 10 (vI (a.length : Int)), bF, .mask [3], .ren [0]] (p := [vI ((List.map E5 a).length : Int) = vI (a.length : Int),(decide ((p1.length : Int) < (a.length : Int))) = false]) (by kernel_rfl) (show X.out 0 ≠ X.go from nofun) (cj (len_nm _ _) (cj1 (rng_end h3))))
  | x1 :: t1, p1, h3, v1 => by
    unfold laws_toByteS_l0
    exact
     Pn.bind (fun x2 h5 =>
     LpO.go [.wait 3, .nm 10 (vI (a.length : Int)), bT, .el (E5 x1), .el (E5 x2), .nb 0 (.row 5 (List.map E5 (v1.set ((p1.length : Int).toNat) x1)) []), .wait 4, .mask [0, 3, 4], .ren [0], .nm 4 (vI ((p1 ++ [x1]).length : Int))] (p := [vI ((List.map E5 a).length : Int) = vI (a.length : Int),(decide ((p1.length : Int) < (a.length : Int))) = true,(0 : Int) ≤ (p1.length : Int),(List.map E5 a)[(p1.length : Int).toNat]? = some (E5 x1),(0 : Int) ≤ (p1.length : Int),((p1.length : Int) : Int) < ((List.map E5 v1).length : Int),look [] ((p1.length : Int).toNat) = none,(List.map E5 v1)[(p1.length : Int).toNat]? = some (E5 x2),Blk.row 5 ((List.map E5 v1).set ((p1.length : Int).toNat) (V.sc (.int .u8 x1))) [] = Blk.row 5 (List.map E5 (v1.set ((p1.length : Int).toNat) x1)) [],vI (i64 ((p1.length : Int) + 1)) = vI ((p1 ++ [x1]).length : Int)]) (by kernel_rfl) (cj (len_nm _ _) (cj (rng_lt h3) (cj (by omega) (cj (rng_get _ h3) (cj (by omega) (cj (map_ltN (by omega) h5) (cj rfl (cj (map_get h5) (cj (nb_set E5 _ _ x1) (cj1 (rng_next h3 h4))))))))))) (laws_toByteS_l0_ok a h4 t1 (p1 ++ [x1]) (rng_step h3) (v1.set ((p1.length : Int).toNat) x1)))
def laws_toByteS (a : List Int) : Option ((List Int)) :=
 if (decide (0 ≤ (a.length : Int))) = true then
 if (capOk (a.length : Int).toNat) = true then
 if (capOk a.length) = true then
 (laws_toByteS_l0 a a [] (List.replicate ((a.length : Int).toNat) 0)).bind fun r1 =>
 some r1
 else none
 else none
 else none
theorem laws_toByteS_ok (a : List Int) : Pn (fun y => Fn Tryz.prog 21 [(false, E31 a)] (E31 y) []) (laws_toByteS a) := by
  unfold laws_toByteS
  exact
   Pn.ite (fun h1 =>
   Pn.ite (fun h2 =>
   Pn.ite (fun h6 =>
   Pn.bind (fun r1 h7 =>
   Pn.some (Fn.of [.wait 3, .nm 6 (vI (a.length : Int)), .wait 1, .nb 0 (.row 5 (List.map E5 (List.replicate ((a.length : Int).toNat) 0)) []), .wait 3, .mask [0, 3, 4], .ren [0], .loop (X.out 0) (st 22 [(3, V.ow 0)] [Blk.row 5 (List.map E5 r1) []] [])] (p := [vI ((List.map E5 a).length : Int) = vI (a.length : Int),((a.length : Int) : Int) = (a.length : Int),(0 : Int) ≤ (a.length : Int),((a.length : Int) : Int) ≤ 9223372036854775807,1 * (a.length : Int).toNat ≤ 281474976710656,Blk.row 5 (List.replicate ((a.length : Int).toNat) (V.sc (.int .u8 0))) [] = Blk.row 5 (List.map E5 (List.replicate ((a.length : Int).toNat) 0)) [],Loop Tryz.prog (sub (codeOf Tryz.prog 21) [1, 1, 0, 1, 0, 0]) (st 22 [(0, lF5 a), (3, V.ow 0), (4, vI 0)] [Blk.row 5 (List.map E5 (List.replicate ((a.length : Int).toNat) 0)) []] []) (X.out 0) (st 22 [(3, V.ow 0)] [Blk.row 5 (List.map E5 r1) []] [])]) (by kernel_rfl) (cj (len_nm _ _) (cj rfl (cj (od h1) (cj (cap3 h1 h2) (cj (cap4 h2 (by decide)) (cj (nb_rep E5 _ 0) (cj1 (laws_toByteS_l0_ok a h6 a [] rfl (List.replicate ((a.length : Int).toNat) 0) r1 h7))))))))))) (fun h6 =>
   Pn.none)) (fun h2 =>
   Pn.none)) (fun h1 =>
   Pn.none)
def laws_toDone (a : Done) : Option (Done) :=
 (laws_toByteS a.Data).bind fun r1 =>
 (laws_toByteS a.Reply).bind fun r2 =>
 some (Done.mk a.At r1 r2)
theorem laws_toDone_ok (a : Done) : Pn (fun y => Fn Tryz.prog 13 [(false, E33 a)] (E34 y) []) (laws_toDone a) := by
  unfold laws_toDone
  exact
   Pn.bind (fun r1 h1 =>
   Pn.bind (fun r2 h2 =>
   Pn.some (Fn.of [.call [] (E31 r1) [], .call [] (E31 r2) []] (p := [Fn Tryz.prog 21 [(false, E31 a.Data)] (E31 r1) [],(true || ((E31 r1).nv && nvL [])) = true,Fn Tryz.prog 21 [(false, E31 a.Reply)] (E31 r2) [],(true || ((E31 r2).nv && nvL [])) = true]) (by kernel_rfl) (cj (laws_toByteS_ok a.Data r1 h1) (cj rfl (cj (laws_toByteS_ok a.Reply r2 h2) (cj1 rfl)))))))
def laws_toDoneS_l0 (a : List Done) : List Done → List Done → (List Done) → Option ((List Done))
  | [], p1, v1 =>
   some v1
  | x1 :: t1, p1, v1 =>
   (laws_toDone x1).bind fun r1 =>
   (v1[(p1.length : Int).toNat]?).bind fun x2 =>
   laws_toDoneS_l0 a t1 (p1 ++ [x1]) (v1.set ((p1.length : Int).toNat) r1)
theorem laws_toDoneS_l0_ok (a : List Done) (h4 : capOk a.length = true) : ∀ (t1 p1 : List Done) (_ : a = p1 ++ t1) (v1 : List Done), Pn (LpO Tryz.prog (sub (codeOf Tryz.prog 6) [1, 1, 0, 1, 0, 0]) (st 23 [(0, lF33 a), (3, V.ow 0), (4, vI (p1.length : Int))] [Blk.row 34 (List.map E34 v1) []] []) (fun (y : (List Done)) => (X.out 0, st 23 [(3, V.ow 0)] [Blk.row 34 (List.map E34 y) []] []))) (laws_toDoneS_l0 a t1 p1 v1)
  | [], p1, h3, v1 => by
    unfold laws_toDoneS_l0
    exact
     Pn.some (LpO.out [.wait 3, .nm 10 (vI (a.length : Int)), bF, .mask [3], .ren [0]] (p := [vI ((List.map E33 a).length : Int) = vI (a.length : Int),(decide ((p1.length : Int) < (a.length : Int))) = false]) (by kernel_rfl) (show X.out 0 ≠ X.go from nofun) (cj (len_nm _ _) (cj1 (rng_end h3))))
  | x1 :: t1, p1, h3, v1 => by
    unfold laws_toDoneS_l0
    exact
     Pn.bind (fun r1 h5 =>
     Pn.bind (fun x2 h6 =>
     LpO.go [.wait 3, .nm 10 (vI (a.length : Int)), bT, .el (E33 x1), .call [] (E34 r1) [], .wait 1, .foc 0 ((p1.length : Int).toNat) (E34 x2), .fo 0, .wait 4, .shut 0, .nb 0 (.row 34 (List.map E34 (v1.set ((p1.length : Int).toNat) r1)) []), .mask [0, 3, 4], .ren [0], .nm 4 (vI ((p1 ++ [x1]).length : Int))] (p := [vI ((List.map E33 a).length : Int) = vI (a.length : Int),(decide ((p1.length : Int) < (a.length : Int))) = true,(0 : Int) ≤ (p1.length : Int),(List.map E33 a)[(p1.length : Int).toNat]? = some (E33 x1),Fn Tryz.prog 13 [(false, E33 x1)] (E34 r1) [],(true || ((E34 r1).nv && nvL [])) = true,(0 : Int) ≤ (p1.length : Int),((p1.length : Int) : Int) < ((List.map E34 v1).length : Int),look [] ((p1.length : Int).toNat) = none,(List.map E34 v1)[(p1.length : Int).toNat]? = some (E34 x2),look [((p1.length : Int).toNat, V.agg [vI x2.At, V.ow 3, V.ow 4])] ((p1.length : Int).toNat) = some (V.agg [vI x2.At, V.ow 3, V.ow 4]),((p1.length : Int).toNat) < (List.map E34 v1).length,((p1.length : Int).toNat) = ((p1.length : Int).toNat),Blk.row 34 ((List.map E34 v1).set ((p1.length : Int).toNat) (V.agg [vI r1.At, lT5 r1.Data, lT5 r1.Reply])) [] = Blk.row 34 (List.map E34 (v1.set ((p1.length : Int).toNat) r1)) [],vI (i64 ((p1.length : Int) + 1)) = vI ((p1 ++ [x1]).length : Int)]) (by kernel_rfl) (cj (len_nm _ _) (cj (rng_lt h3) (cj (by omega) (cj (rng_get _ h3) (cj (laws_toDone_ok x1 r1 h5) (cj rfl (cj (by omega) (cj (map_ltN (by omega) h6) (cj rfl (cj (map_get h6) (cj (look_cons_self _ _ _) (cj (map_lt h6) (cj rfl (cj (nb_set E34 _ _ r1) (cj1 (rng_next h3 h4)))))))))))))))) (laws_toDoneS_l0_ok a h4 t1 (p1 ++ [x1]) (rng_step h3) (v1.set ((p1.length : Int).toNat) r1))))
def laws_toDoneS (a : List Done) : Option ((List Done)) :=
 if (decide (0 ≤ (a.length : Int))) = true then
 if (capOk (a.length : Int).toNat) = true then
 if (capOk a.length) = true then
 (laws_toDoneS_l0 a a [] (List.replicate ((a.length : Int).toNat) (Done.mk 0 [] []))).bind fun r2 =>
 some r2
 else none
 else none
 else none
theorem laws_toDoneS_ok (a : List Done) : Pn (fun y => Fn Tryz.prog 6 [(false, E22 a)] (E24 y) []) (laws_toDoneS a) := by
  unfold laws_toDoneS
  exact
   Pn.ite (fun h1 =>
   Pn.ite (fun h2 =>
   Pn.ite (fun h7 =>
   Pn.bind (fun r2 h8 =>
   Pn.some (Fn.of [.wait 3, .nm 6 (vI (a.length : Int)), .wait 1, .nb 0 (.row 34 (List.map E34 (List.replicate ((a.length : Int).toNat) (Done.mk 0 [] []))) []), .wait 3, .mask [0, 3, 4], .ren [0], .loop (X.out 0) (st 23 [(3, V.ow 0)] [Blk.row 34 (List.map E34 r2) []] [])] (p := [vI ((List.map E33 a).length : Int) = vI (a.length : Int),((a.length : Int) : Int) = (a.length : Int),(0 : Int) ≤ (a.length : Int),((a.length : Int) : Int) ≤ 9223372036854775807,56 * (a.length : Int).toNat ≤ 281474976710656,Blk.row 34 (List.replicate ((a.length : Int).toNat) (V.agg [vI 0, V.sl true 5 ([] : List V), V.sl true 5 ([] : List V)])) [] = Blk.row 34 (List.map E34 (List.replicate ((a.length : Int).toNat) (Done.mk 0 [] []))) [],Loop Tryz.prog (sub (codeOf Tryz.prog 6) [1, 1, 0, 1, 0, 0]) (st 23 [(0, lF33 a), (3, V.ow 0), (4, vI 0)] [Blk.row 34 (List.map E34 (List.replicate ((a.length : Int).toNat) (Done.mk 0 [] []))) []] []) (X.out 0) (st 23 [(3, V.ow 0)] [Blk.row 34 (List.map E34 r2) []] [])]) (by kernel_rfl) (cj (len_nm _ _) (cj rfl (cj (od h1) (cj (cap3 h1 h2) (cj (cap4 h2 (by decide)) (cj (nb_rep E34 _ (Done.mk 0 [] [])) (cj1 (laws_toDoneS_l0_ok a h7 a [] rfl (List.replicate ((a.length : Int).toNat) (Done.mk 0 [] [])) r2 h8))))))))))) (fun h7 =>
   Pn.none)) (fun h2 =>
   Pn.none)) (fun h1 =>
   Pn.none)
def spec_Digits_l0 (s_ : ByteArray) : Nat → Int → Option (Lo Unit Unit)
  | 0, _ => none
  | fuel + 1, v1 =>
   if (decide (v1 < (s_.size : Int))) = true then
   if (decide (0 ≤ v1)) = true then
   if (decide ((v1 : Int) < (s_.size : Int))) = true then
   if (decide ((sAt s_ v1) < 48)) = true then
   some (.ret ())
   else
   if (decide (57 < (sAt s_ v1))) = true then
   some (.ret ())
   else
   spec_Digits_l0 s_ fuel (i64 (v1 + 1))
   else none
   else none
   else
   some (.out ())
theorem spec_Digits_l0_ok (s_ : ByteArray) : ∀ (fuel : Nat) (v1 : Int), Pn (LpO Tryz.prog (sub (codeOf Tryz.prog 51) [1, 0, 1, 0, 0]) (st 23 [(0, vS s_), (3, vI v1)] [] []) (fun (y : Lo Unit Unit) => Lo.elim y (fun s => (X.out 0, st 23 [(0, vS s_)] [] [])) (fun s => (X.ret, st 23 [(2, vB false)] [] [])))) (spec_Digits_l0 s_ fuel v1)
  | 0, _ => Pn.none
  | fuel + 1, v1 => by
    unfold spec_Digits_l0
    exact
     Pn.ite (fun h1 =>
     Pn.ite (fun h2 =>
     Pn.ite (fun h3 =>
     Pn.ite (fun h4 =>
     Pn.some (LpO.out [bT, bT, bT, bT, bT, bT, bT, .wait 1, .mask [2], .ren []] (p := [(decide (v1 < (s_.size : Int))) = true,(0 : Int) ≤ v1,(v1 : Int) < s_.size,(decide ((sAt s_ v1) < 48)) = true,(decide ((sAt s_ v1) < 48)) = true,(decide ((sAt s_ v1) < 48)) = true,(decide ((sAt s_ v1) < 48)) = true,(decide ((sAt s_ v1) < 48)) = true,true = true]) (by kernel_rfl) (show X.ret ≠ X.go from nofun) (cj h1 (cj (od h2) (cj (od h3) (cj h4 (cj h4 (cj h4 (cj h4 (cj h4 (cj1 rfl))))))))))) (fun h4 =>
     Pn.ite (fun h5 =>
     Pn.some (LpO.out [bT, bF, bF, bF, bF, bF, bT, .wait 1, .mask [2], .ren []] (p := [(decide (v1 < (s_.size : Int))) = true,(0 : Int) ≤ v1,(v1 : Int) < s_.size,(decide ((sAt s_ v1) < 48)) = false,(decide ((sAt s_ v1) < 48)) = false,(decide ((sAt s_ v1) < 48)) = false,(0 : Int) ≤ v1,(v1 : Int) < s_.size,(decide ((sAt s_ v1) < 48)) = false,(decide ((sAt s_ v1) < 48)) = false,(decide (57 < (sAt s_ v1))) = true]) (by kernel_rfl) (show X.ret ≠ X.go from nofun) (cj h1 (cj (od h2) (cj (od h3) (cj h4 (cj h4 (cj h4 (cj (od h2) (cj (od h3) (cj h4 (cj h4 (cj1 h5))))))))))))) (fun h5 =>
     LpO.go [bT, bF, bF, bF, bF, bF, bF, .wait 3, .mask [0, 3], .ren []] (p := [(decide (v1 < (s_.size : Int))) = true,(0 : Int) ≤ v1,(v1 : Int) < s_.size,(decide ((sAt s_ v1) < 48)) = false,(decide ((sAt s_ v1) < 48)) = false,(decide ((sAt s_ v1) < 48)) = false,(0 : Int) ≤ v1,(v1 : Int) < s_.size,(decide ((sAt s_ v1) < 48)) = false,(decide ((sAt s_ v1) < 48)) = false,(decide (57 < (sAt s_ v1))) = false]) (by kernel_rfl) (cj h1 (cj (od h2) (cj (od h3) (cj h4 (cj h4 (cj h4 (cj (od h2) (cj (od h3) (cj h4 (cj h4 (cj1 h5))))))))))) (spec_Digits_l0_ok s_ fuel (i64 (v1 + 1)))))) (fun h3 =>
     Pn.none)) (fun h2 =>
     Pn.none)) (fun h1 =>
     Pn.some (LpO.out [bF, .mask [0], .ren []] (p := [(decide (v1 < (s_.size : Int))) = false]) (by kernel_rfl) (show X.out 0 ≠ X.go from nofun) (cj1 h1)))
def spec_Digits (s_ : ByteArray) : Option (Bool) :=
 (spec_Digits_l0 s_ FUEL 0).bind fun r1 =>
 Lo.elim r1 (fun s1 =>
 some (decide (0 < (s_.size : Int)))) (fun s2 =>
 some false)
theorem spec_Digits_ok (s_ : ByteArray) : Pn (fun y => Fn Tryz.prog 51 [(false, E9 s_)] (E4 y) []) (spec_Digits s_) := by
  unfold spec_Digits
  exact
   Pn.bind (fun r1 h6 =>
   Pn.lo (fun s1 h7 =>
   Pn.some (Fn.of [.wait 3, .mask [0, 3], .ren [], .loop (X.out 0) (st 23 [(0, vS s_)] [] [])] (p := [Loop Tryz.prog (sub (codeOf Tryz.prog 51) [1, 0, 1, 0, 0]) (st 23 [(0, vS s_), (3, vI 0)] [] []) (X.out 0) (st 23 [(0, vS s_)] [] [])]) (by kernel_rfl) (cj1 ((spec_Digits_l0_ok s_ FUEL 0 r1 h6).at h7 :)))) (fun s2 h8 =>
   Pn.some (Fn.of [.wait 3, .mask [0, 3], .ren [], .loop (X.ret) (st 23 [(2, vB false)] [] [])] (p := [Loop Tryz.prog (sub (codeOf Tryz.prog 51) [1, 0, 1, 0, 0]) (st 23 [(0, vS s_), (3, vI 0)] [] []) (X.ret) (st 23 [(2, vB false)] [] [])]) (by kernel_rfl) (cj1 ((spec_Digits_l0_ok s_ FUEL 0 r1 h6).at h8 :)))))
def spec_GetBcd_c0 (o : List Int) (o_ : Int) (a2 : Int) : Option (Lo Unit Unit) :=
 if (decide (a2 < 1)) = true then
 some (.ret ())
 else
 if (decide (38 < a2)) = true then
 some (.ret ())
 else
 if (decide (o_ < 0)) = true then
 some (.ret ())
 else
 if (decide ((o.length : Int) < o_)) = true then
 some (.ret ())
 else
 if (decide ((i64 ((o.length : Int) - o_)) < (i64 (Int.tdiv (i64 (a2 + 1)) 2)))) = true then
 some (.ret ())
 else
 some (.out ())
theorem spec_GetBcd_c0_ok (o : List Int) (o_ : Int) (a2 : Int) : Pn (JnO Tryz.prog (sub (codeOf Tryz.prog 25) [1, 0]) (st 84 [(0, lF5 o), (1, vI o_), (2, vI a2)] [] []) (fun (y : Lo Unit Unit) => Lo.elim y (fun s => (X.go, st 84 [(0, lF5 o), (1, vI o_), (2, vI a2)] [] [])) (fun s => (X.ret, st 84 [(6, vS (bs [])), (7, vI 0), (8, vB false)] [] [])))) (spec_GetBcd_c0 o o_ a2) := by
  unfold spec_GetBcd_c0
  exact
   Pn.ite (fun h1 =>
   Pn.some (JnO.of [bT, bT, bT, bT, bT, bT, bT, bT, bT, bT, bT, bT, bT, bT, bT, bT, bT, bT, bT, bT, bT, .wait 3, .mask [6, 7, 8], .ren []] (p := [(decide (a2 < 1)) = true,(decide (a2 < 1)) = true,(decide (a2 < 1)) = true,true = true,true = true,true = true,true = true,true = true,true = true,true = true,true = true,true = true,true = true,true = true,true = true,true = true,true = true,true = true,true = true,true = true,true = true]) (by kernel_rfl) (cj h1 (cj h1 (cj h1 (cj rfl (cj rfl (cj rfl (cj rfl (cj rfl (cj rfl (cj rfl (cj rfl (cj rfl (cj rfl (cj rfl (cj rfl (cj rfl (cj rfl (cj rfl (cj rfl (cj rfl (cj1 rfl))))))))))))))))))))))) (fun h1 =>
   Pn.ite (fun h2 =>
   Pn.some (JnO.of [bF, bF, bF, bT, bT, bT, bT, bT, bT, bT, bT, bT, bT, bT, bT, bT, bT, bT, bT, bT, bT, .wait 3, .mask [6, 7, 8], .ren []] (p := [(decide (a2 < 1)) = false,(decide (a2 < 1)) = false,(decide (a2 < 1)) = false,(decide (38 < a2)) = true,(decide (38 < a2)) = true,(decide (38 < a2)) = true,true = true,true = true,true = true,true = true,true = true,true = true,true = true,true = true,true = true,true = true,true = true,true = true,true = true,true = true,true = true]) (by kernel_rfl) (cj h1 (cj h1 (cj h1 (cj h2 (cj h2 (cj h2 (cj rfl (cj rfl (cj rfl (cj rfl (cj rfl (cj rfl (cj rfl (cj rfl (cj rfl (cj rfl (cj rfl (cj rfl (cj rfl (cj rfl (cj1 rfl))))))))))))))))))))))) (fun h2 =>
   Pn.ite (fun h3 =>
   Pn.some (JnO.of [bF, bF, bF, bF, bF, bF, bT, bT, bT, bT, bT, bT, bT, bT, bT, bT, bT, bT, bT, bT, bT, .wait 3, .mask [6, 7, 8], .ren []] (p := [(decide (a2 < 1)) = false,(decide (a2 < 1)) = false,(decide (a2 < 1)) = false,(decide (38 < a2)) = false,(decide (38 < a2)) = false,(decide (38 < a2)) = false,(decide (o_ < 0)) = true,(decide (o_ < 0)) = true,(decide (o_ < 0)) = true,(decide (o_ < 0)) = true,(decide (o_ < 0)) = true,true = true,true = true,true = true,true = true,true = true,true = true,true = true,true = true,true = true,true = true]) (by kernel_rfl) (cj h1 (cj h1 (cj h1 (cj h2 (cj h2 (cj h2 (cj h3 (cj h3 (cj h3 (cj h3 (cj h3 (cj rfl (cj rfl (cj rfl (cj rfl (cj rfl (cj rfl (cj rfl (cj rfl (cj rfl (cj1 rfl))))))))))))))))))))))) (fun h3 =>
   Pn.ite (fun h4 =>
   Pn.some (JnO.of [bF, bF, bF, bF, bF, bF, bF, bF, bF, .nm 24 (vI (o.length : Int)), bF, bF, bT, bT, bT, bT, bT, bT, bT, bT, bT, bT, .wait 3, .mask [6, 7, 8], .ren []] (p := [(decide (a2 < 1)) = false,(decide (a2 < 1)) = false,(decide (a2 < 1)) = false,(decide (38 < a2)) = false,(decide (38 < a2)) = false,(decide (38 < a2)) = false,(decide (o_ < 0)) = false,(decide (o_ < 0)) = false,(decide (o_ < 0)) = false,vI ((List.map E5 o).length : Int) = vI (o.length : Int),(decide (o_ < 0)) = false,(decide (o_ < 0)) = false,(decide ((o.length : Int) < o_)) = true,(decide ((o.length : Int) < o_)) = true,(decide ((o.length : Int) < o_)) = true,(decide ((o.length : Int) < o_)) = true,(decide ((o.length : Int) < o_)) = true,(decide ((o.length : Int) < o_)) = true,(decide ((o.length : Int) < o_)) = true,(decide ((o.length : Int) < o_)) = true,(decide ((o.length : Int) < o_)) = true,true = true]) (by kernel_rfl) (cj h1 (cj h1 (cj h1 (cj h2 (cj h2 (cj h2 (cj h3 (cj h3 (cj h3 (cj (len_nm _ _) (cj h3 (cj h3 (cj h4 (cj h4 (cj h4 (cj h4 (cj h4 (cj h4 (cj h4 (cj h4 (cj h4 (cj1 rfl)))))))))))))))))))))))) (fun h4 =>
   Pn.ite (fun h5 =>
   Pn.some (JnO.of [bF, bF, bF, bF, bF, bF, bF, bF, bF, .nm 24 (vI (o.length : Int)), bF, bF, bF, bF, bF, bF, bF, .nm 32 (vI (o.length : Int)), bF, bF, bF, bF, bT, .wait 3, .mask [6, 7, 8], .ren []] (p := [(decide (a2 < 1)) = false,(decide (a2 < 1)) = false,(decide (a2 < 1)) = false,(decide (38 < a2)) = false,(decide (38 < a2)) = false,(decide (38 < a2)) = false,(decide (o_ < 0)) = false,(decide (o_ < 0)) = false,(decide (o_ < 0)) = false,vI ((List.map E5 o).length : Int) = vI (o.length : Int),(decide (o_ < 0)) = false,(decide (o_ < 0)) = false,(decide ((o.length : Int) < o_)) = false,(decide ((o.length : Int) < o_)) = false,(decide ((o.length : Int) < o_)) = false,(2 : Int) ≠ 0,(decide ((o.length : Int) < o_)) = false,(decide ((o.length : Int) < o_)) = false,vI ((List.map E5 o).length : Int) = vI (o.length : Int),(decide ((o.length : Int) < o_)) = false,(decide ((o.length : Int) < o_)) = false,(decide ((o.length : Int) < o_)) = false,(decide ((o.length : Int) < o_)) = false,(decide ((i64 ((o.length : Int) - o_)) < (i64 (Int.tdiv (i64 (a2 + 1)) 2)))) = true]) (by kernel_rfl) (cj h1 (cj h1 (cj h1 (cj h2 (cj h2 (cj h2 (cj h3 (cj h3 (cj h3 (cj (len_nm _ _) (cj h3 (cj h3 (cj h4 (cj h4 (cj h4 (cj (by decide) (cj h4 (cj h4 (cj (len_nm _ _) (cj h4 (cj h4 (cj h4 (cj h4 (cj1 h5)))))))))))))))))))))))))) (fun h5 =>
   Pn.some (JnO.of [bF, bF, bF, bF, bF, bF, bF, bF, bF, .nm 24 (vI (o.length : Int)), bF, bF, bF, bF, bF, bF, bF, .nm 32 (vI (o.length : Int)), bF, bF, bF, bF, bF, .mask [0, 1, 2], .ren []] (p := [(decide (a2 < 1)) = false,(decide (a2 < 1)) = false,(decide (a2 < 1)) = false,(decide (38 < a2)) = false,(decide (38 < a2)) = false,(decide (38 < a2)) = false,(decide (o_ < 0)) = false,(decide (o_ < 0)) = false,(decide (o_ < 0)) = false,vI ((List.map E5 o).length : Int) = vI (o.length : Int),(decide (o_ < 0)) = false,(decide (o_ < 0)) = false,(decide ((o.length : Int) < o_)) = false,(decide ((o.length : Int) < o_)) = false,(decide ((o.length : Int) < o_)) = false,(2 : Int) ≠ 0,(decide ((o.length : Int) < o_)) = false,(decide ((o.length : Int) < o_)) = false,vI ((List.map E5 o).length : Int) = vI (o.length : Int),(decide ((o.length : Int) < o_)) = false,(decide ((o.length : Int) < o_)) = false,(decide ((o.length : Int) < o_)) = false,(decide ((o.length : Int) < o_)) = false,(decide ((i64 ((o.length : Int) - o_)) < (i64 (Int.tdiv (i64 (a2 + 1)) 2)))) = false]) (by kernel_rfl) (cj h1 (cj h1 (cj h1 (cj h2 (cj h2 (cj h2 (cj h3 (cj h3 (cj h3 (cj (len_nm _ _) (cj h3 (cj h3 (cj h4 (cj h4 (cj h4 (cj (by decide) (cj h4 (cj h4 (cj (len_nm _ _) (cj h4 (cj h4 (cj h4 (cj h4 (cj1 h5))))))))))))))))))))))))))))))
def spec_GetBcd_c2 (o : List Int) (o_ : Int) (a2 : Int) (v1 : Int) (v2 : ByteArray) : Option (Lo Unit Unit) :=
 if (decide (v1 < (i64 (o_ + (i64 (Int.tdiv (i64 (a2 + 1)) 2)))))) = true then
 some (.out ())
 else
 some (.ret ())
theorem spec_GetBcd_c2_ok (o : List Int) (o_ : Int) (a2 : Int) (v1 : Int) (v2 : ByteArray) : Pn (JnO Tryz.prog (sub (codeOf Tryz.prog 25) [1, 1, 1, 0, 1, 0, 0, 0]) (st 84 [(0, lF5 o), (1, vI o_), (2, vI a2), (9, vS v2), (10, vI v1)] [] []) (fun (y : Lo Unit Unit) => Lo.elim y (fun s => (X.go, st 84 [(0, lF5 o), (1, vI o_), (2, vI a2), (9, vS v2), (10, vI v1)] [] [])) (fun s => (X.out 0, st 84 [(1, vI o_), (2, vI a2), (9, vS v2)] [] [])))) (spec_GetBcd_c2 o o_ a2 v1 v2) := by
  unfold spec_GetBcd_c2
  exact
   Pn.ite (fun h9 =>
   Pn.some (JnO.of [bT, .mask [0, 1, 2, 9, 10], .ren []] (p := [(2 : Int) ≠ 0,(decide (v1 < (i64 (o_ + (i64 (Int.tdiv (i64 (a2 + 1)) 2)))))) = true]) (by kernel_rfl) (cj (by decide) (cj1 h9)))) (fun h9 =>
   Pn.some (JnO.of [bF, .mask [1, 2, 9], .ren []] (p := [(2 : Int) ≠ 0,(decide (v1 < (i64 (o_ + (i64 (Int.tdiv (i64 (a2 + 1)) 2)))))) = false]) (by kernel_rfl) (cj (by decide) (cj1 h9))))
def spec_GetBcd_l0 (o : List Int) (o_ : Int) (a2 : Int) : Nat → Int → ByteArray → Option (ByteArray)
  | 0, _, _ => none
  | fuel + 1, v1, v2 =>
   (spec_GetBcd_c2 o o_ a2 v1 v2).bind fun r2 =>
   Lo.elim r2 (fun s3 =>
   if (decide (0 ≤ v1)) = true then
   (o[v1.toNat]?).bind fun x1 =>
   if (decide (v2.size + (bstr [u8 (i64 (48 + (i64 (Int.tdiv (i64 x1) 16)))), u8 (i64 (48 + (Int.tmod (i64 x1) 16)))]).size ≤ 9223372036854775807)) = true then
   spec_GetBcd_l0 o o_ a2 fuel (i64 (v1 + 1)) (v2 ++ (bstr [u8 (i64 (48 + (i64 (Int.tdiv (i64 x1) 16)))), u8 (i64 (48 + (Int.tmod (i64 x1) 16)))]))
   else none
   else none) (fun s4 =>
   some v2)
theorem spec_GetBcd_l0_ok (o : List Int) (o_ : Int) (a2 : Int) : ∀ (fuel : Nat) (v1 : Int) (v2 : ByteArray), Pn (LpO Tryz.prog (sub (codeOf Tryz.prog 25) [1, 1, 1, 0, 1, 0, 0]) (st 84 [(0, lF5 o), (1, vI o_), (2, vI a2), (9, vS v2), (10, vI v1)] [] []) (fun (y : ByteArray) => (X.out 0, st 84 [(1, vI o_), (2, vI a2), (9, vS y)] [] []))) (spec_GetBcd_l0 o o_ a2 fuel v1 v2)
  | 0, _, _ => Pn.none
  | fuel + 1, v1, v2 => by
    unfold spec_GetBcd_l0
    exact
     Pn.bind (fun r2 h10 =>
     Pn.lo (fun s3 h11 =>
     Pn.ite (fun h13 =>
     Pn.bind (fun x1 h14 =>
     Pn.ite (fun h15 =>
     LpO.go [.wait 1, .mask [0, 1, 2, 9, 10], .ren [], .join 5 (X.go) (st 84 [(0, lF5 o), (1, vI o_), (2, vI a2), (9, vS v2), (10, vI v1)] [] []), .draw [], .el (E5 x1), .el (E5 x1), .ints [u8 (i64 (48 + (i64 (Int.tdiv (i64 x1) 16)))), u8 (i64 (48 + (Int.tmod (i64 x1) 16)))], .wait 6, .mask [0, 1, 2, 9, 10], .ren []] (p := [HT Tryz.prog (sub (codeOf Tryz.prog 25) [1, 1, 1, 0, 1, 0, 0, 0]) (st 84 [(0, lF5 o), (1, vI o_), (2, vI a2), (9, vS v2), (10, vI v1)] [] []) (X.go) (st 84 [(0, lF5 o), (1, vI o_), (2, vI a2), (9, vS v2), (10, vI v1)] [] []),(0 : Int) ≤ v1,(List.map E5 o)[v1.toNat]? = some (E5 x1),(16 : Int) ≠ 0,(0 : Int) ≤ v1,(List.map E5 o)[v1.toNat]? = some (E5 x1),(16 : Int) ≠ 0,[V.sc (.int .u8 (u8 (i64 (48 + (i64 (Int.tdiv (i64 x1) 16)))))), V.sc (.int .u8 (u8 (i64 (48 + (Int.tmod (i64 x1) 16)))))] = [u8 (i64 (48 + (i64 (Int.tdiv (i64 x1) 16)))), u8 (i64 (48 + (Int.tmod (i64 x1) 16)))].map fun n => V.sc (.int .u8 n),v2.size + (bstr [u8 (i64 (48 + (i64 (Int.tdiv (i64 x1) 16)))), u8 (i64 (48 + (Int.tmod (i64 x1) 16)))]).size ≤ 9223372036854775807]) (by kernel_rfl) (cj ((spec_GetBcd_c2_ok o o_ a2 v1 v2 r2 h10).at h11 :) (cj (od h13) (cj (map_get h14) (cj (by decide) (cj (od h13) (cj (map_get h14) (cj (by decide) (cj rfl (cj1 (od h15)))))))))) (spec_GetBcd_l0_ok o o_ a2 fuel (i64 (v1 + 1)) (v2 ++ (bstr [u8 (i64 (48 + (i64 (Int.tdiv (i64 x1) 16)))), u8 (i64 (48 + (Int.tmod (i64 x1) 16)))])))) (fun h15 =>
     Pn.none))) (fun h13 =>
     Pn.none)) (fun s4 h12 =>
     Pn.some (LpO.out [.wait 1, .mask [0, 1, 2, 9, 10], .ren [], .join 5 (X.out 0) (st 84 [(1, vI o_), (2, vI a2), (9, vS v2)] [] []), .wait 1, .mask [1, 2, 9], .ren []] (p := [HT Tryz.prog (sub (codeOf Tryz.prog 25) [1, 1, 1, 0, 1, 0, 0, 0]) (st 84 [(0, lF5 o), (1, vI o_), (2, vI a2), (9, vS v2), (10, vI v1)] [] []) (X.out 0) (st 84 [(1, vI o_), (2, vI a2), (9, vS v2)] [] [])]) (by kernel_rfl) (show X.out 0 ≠ X.go from nofun) (cj1 ((spec_GetBcd_c2_ok o o_ a2 v1 v2 r2 h10).at h12 :)))))
def spec_GetBcd_c4 (o_ : Int) (a2 : Int) (r3 : ByteArray) : Option (Lo Unit Unit) :=
 if (decide (0 ≤ 0)) = true then
 if (decide ((0 : Int) < (r3.size : Int))) = true then
 if ((sAt r3 0) != 48) = true then
 some (.ret ())
 else
 some (.out ())
 else none
 else none
theorem spec_GetBcd_c4_ok (o_ : Int) (a2 : Int) (r3 : ByteArray) : Pn (JnO Tryz.prog (sub (codeOf Tryz.prog 25) [1, 1, 1, 1, 0, 1, 0, 0]) (st 84 [(1, vI o_), (2, vI a2), (9, vS r3)] [] []) (fun (y : Lo Unit Unit) => Lo.elim y (fun s => (X.go, st 84 [(1, vI o_), (2, vI a2), (9, vS r3)] [] [])) (fun s => (X.ret, st 84 [(6, vS (bs [])), (7, vI 0), (8, vB false)] [] [])))) (spec_GetBcd_c4 o_ a2 r3) := by
  unfold spec_GetBcd_c4
  exact
   Pn.ite (fun h18 =>
   Pn.ite (fun h19 =>
   Pn.ite (fun h20 =>
   Pn.some (JnO.of [bT, .wait 3, .mask [6, 7, 8], .ren []] (p := [(0 : Int) ≤ 0,(0 : Int) < r3.size,((sAt r3 0) != 48) = true]) (by kernel_rfl) (cj (od h18) (cj (od h19) (cj1 h20))))) (fun h20 =>
   Pn.some (JnO.of [bF, .mask [1, 2, 9], .ren []] (p := [(0 : Int) ≤ 0,(0 : Int) < r3.size,((sAt r3 0) != 48) = false]) (by kernel_rfl) (cj (od h18) (cj (od h19) (cj1 h20)))))) (fun h19 =>
   Pn.none)) (fun h18 =>
   Pn.none)
def spec_GetBcd_c3 (o_ : Int) (a2 : Int) (r3 : ByteArray) : Option (Lo ByteArray Unit) :=
 if ((Int.tmod a2 2) == 1) = true then
 (spec_GetBcd_c4 o_ a2 r3).bind fun r4 =>
 Lo.elim r4 (fun s5 =>
 if (decide (1 ≤ (r3.size : Int))) = true then
 some (.out (r3.extract 1 (r3.size : Int).toNat))
 else none) (fun s6 =>
 some (.ret ()))
 else
 some (.out r3)
theorem spec_GetBcd_c3_ok (o_ : Int) (a2 : Int) (r3 : ByteArray) : Pn (JnO Tryz.prog (sub (codeOf Tryz.prog 25) [1, 1, 1, 1, 0]) (st 84 [(1, vI o_), (2, vI a2), (9, vS r3)] [] []) (fun (y : Lo ByteArray Unit) => Lo.elim y (fun s => (X.go, st 84 [(1, vI o_), (2, vI a2), (9, vS s)] [] [])) (fun s => (X.ret, st 84 [(6, vS (bs [])), (7, vI 0), (8, vB false)] [] [])))) (spec_GetBcd_c3 o_ a2 r3) := by
  unfold spec_GetBcd_c3
  exact
   Pn.ite (fun h17 =>
   Pn.bind (fun r4 h21 =>
   Pn.lo (fun s5 h22 =>
   Pn.ite (fun h24 =>
   Pn.some (JnO.of [bT, .mask [1, 2, 9], .ren [], .join 7 (X.go) (st 84 [(1, vI o_), (2, vI a2), (9, vS r3)] [] []), .wait 4, .mask [1, 2, 9], .ren []] (p := [(2 : Int) ≠ 0,((Int.tmod a2 2) == 1) = true,HT Tryz.prog (sub (codeOf Tryz.prog 25) [1, 1, 1, 1, 0, 1, 0, 0]) (st 84 [(1, vI o_), (2, vI a2), (9, vS r3)] [] []) (X.go) (st 84 [(1, vI o_), (2, vI a2), (9, vS r3)] [] []),(0 : Int) ≤ 1,(1 : Int) ≤ (r3.size : Int),((r3.size : Int) : Int) ≤ (r3.size : Int)]) (by kernel_rfl) (cj (by decide) (cj h17 (cj ((spec_GetBcd_c4_ok o_ a2 r3 r4 h21).at h22 :) (cj (by decide) (cj (od h24) (cj1 (by omega))))))))) (fun h24 =>
   Pn.none)) (fun s6 h23 =>
   Pn.some (JnO.of [bT, .mask [1, 2, 9], .ren [], .join 7 (X.ret) (st 84 [(6, vS (bs [])), (7, vI 0), (8, vB false)] [] []), .wait 1, .mask [6, 7, 8], .ren []] (p := [(2 : Int) ≠ 0,((Int.tmod a2 2) == 1) = true,HT Tryz.prog (sub (codeOf Tryz.prog 25) [1, 1, 1, 1, 0, 1, 0, 0]) (st 84 [(1, vI o_), (2, vI a2), (9, vS r3)] [] []) (X.ret) (st 84 [(6, vS (bs [])), (7, vI 0), (8, vB false)] [] [])]) (by kernel_rfl) (cj (by decide) (cj h17 (cj1 ((spec_GetBcd_c4_ok o_ a2 r3 r4 h21).at h23 :)))))))) (fun h17 =>
   Pn.some (JnO.of [bF, .mask [1, 2, 9], .ren []] (p := [(2 : Int) ≠ 0,((Int.tmod a2 2) == 1) = false]) (by kernel_rfl) (cj (by decide) (cj1 h17))))
def spec_GetBcd_c5 (o_ : Int) (a2 : Int) (s7 : ByteArray) : Option (Lo Unit Unit) :=
 (spec_Digits s7).bind fun r6 =>
 if r6 = true then
 some (.out ())
 else
 some (.ret ())
theorem spec_GetBcd_c5_ok (o_ : Int) (a2 : Int) (s7 : ByteArray) : Pn (JnO Tryz.prog (sub (codeOf Tryz.prog 25) [1, 1, 1, 1, 1, 0]) (st 84 [(1, vI o_), (2, vI a2), (9, vS s7)] [] []) (fun (y : Lo Unit Unit) => Lo.elim y (fun s => (X.go, st 84 [(1, vI o_), (2, vI a2), (9, vS s7)] [] [])) (fun s => (X.ret, st 84 [(6, vS (bs [])), (7, vI 0), (8, vB false)] [] [])))) (spec_GetBcd_c5 o_ a2 s7) := by
  unfold spec_GetBcd_c5
  exact
   Pn.bind (fun r6 h28 =>
   Pn.ite (fun h29 =>
   Pn.some (JnO.of [.call [] (E4 r6) [], bF, .mask [1, 2, 9], .ren []] (p := [Fn Tryz.prog 51 [(false, E9 s7)] (E4 r6) [],(true || ((E4 r6).nv && nvL [])) = true,(!r6) = false]) (by kernel_rfl) (cj (spec_Digits_ok s7 r6 h28) (cj rfl (cj1 (nf h29)))))) (fun h29 =>
   Pn.some (JnO.of [.call [] (E4 r6) [], bT, .wait 3, .mask [6, 7, 8], .ren []] (p := [Fn Tryz.prog 51 [(false, E9 s7)] (E4 r6) [],(true || ((E4 r6).nv && nvL [])) = true,(!r6) = true]) (by kernel_rfl) (cj (spec_Digits_ok s7 r6 h28) (cj rfl (cj1 (nt h29)))))))
def spec_GetBcd (o : List Int) (o_ : Int) (a2 : Int) : Option (ByteArray × Int × Bool) :=
 (spec_GetBcd_c0 o o_ a2).bind fun r1 =>
 Lo.elim r1 (fun s1 =>
 (spec_GetBcd_l0 o o_ a2 FUEL o_ (bs [])).bind fun r3 =>
 (spec_GetBcd_c3 o_ a2 r3).bind fun r5 =>
 Lo.elim r5 (fun s7 =>
 (spec_GetBcd_c5 o_ a2 s7).bind fun r7 =>
 Lo.elim r7 (fun s9 =>
 some (s7, i64 (o_ + (i64 (Int.tdiv (i64 (a2 + 1)) 2))), true)) (fun s10 =>
 some (bs [], 0, false))) (fun s8 =>
 some (bs [], 0, false))) (fun s2 =>
 some (bs [], 0, false))
theorem spec_GetBcd_ok (o : List Int) (o_ : Int) (a2 : Int) : Pn (fun y => Fn Tryz.prog 25 [(false, E31 o), (false, E3 o_), (false, E3 a2)] (V.tup [E9 y.1, E3 y.2.1, E4 y.2.2]) []) (spec_GetBcd o o_ a2) := by
  unfold spec_GetBcd
  exact
   Pn.bind (fun r1 h6 =>
   Pn.lo (fun s1 h7 =>
   Pn.bind (fun r3 h16 =>
   Pn.bind (fun r5 h25 =>
   Pn.lo (fun s7 h26 =>
   Pn.bind (fun r7 h30 =>
   Pn.lo (fun s9 h31 =>
   Pn.some (Fn.of [.wait 4, .mask [0, 1, 2], .ren [], .join 7 (X.go) (st 84 [(0, lF5 o), (1, vI o_), (2, vI a2)] [] []), .wait 4, .mask [0, 1, 2, 9, 10], .ren [], .loop (X.out 0) (st 84 [(1, vI o_), (2, vI a2), (9, vS r3)] [] []), .wait 1, .mask [1, 2, 9], .ren [], .join 13 (X.go) (st 84 [(1, vI o_), (2, vI a2), (9, vS s7)] [] []), .wait 1, .mask [1, 2, 9], .ren [], .join 7 (X.go) (st 84 [(1, vI o_), (2, vI a2), (9, vS s7)] [] [])] (p := [HT Tryz.prog (sub (codeOf Tryz.prog 25) [1, 0]) (st 84 [(0, lF5 o), (1, vI o_), (2, vI a2)] [] []) (X.go) (st 84 [(0, lF5 o), (1, vI o_), (2, vI a2)] [] []),Loop Tryz.prog (sub (codeOf Tryz.prog 25) [1, 1, 1, 0, 1, 0, 0]) (st 84 [(0, lF5 o), (1, vI o_), (2, vI a2), (9, vS (bs [])), (10, vI o_)] [] []) (X.out 0) (st 84 [(1, vI o_), (2, vI a2), (9, vS r3)] [] []),HT Tryz.prog (sub (codeOf Tryz.prog 25) [1, 1, 1, 1, 0]) (st 84 [(1, vI o_), (2, vI a2), (9, vS r3)] [] []) (X.go) (st 84 [(1, vI o_), (2, vI a2), (9, vS s7)] [] []),HT Tryz.prog (sub (codeOf Tryz.prog 25) [1, 1, 1, 1, 1, 0]) (st 84 [(1, vI o_), (2, vI a2), (9, vS s7)] [] []) (X.go) (st 84 [(1, vI o_), (2, vI a2), (9, vS s7)] [] []),(2 : Int) ≠ 0]) (by kernel_rfl) (cj ((spec_GetBcd_c0_ok o o_ a2 r1 h6).at h7 :) (cj (spec_GetBcd_l0_ok o o_ a2 FUEL o_ (bs []) r3 h16) (cj ((spec_GetBcd_c3_ok o_ a2 r3 r5 h25).at h26 :) (cj ((spec_GetBcd_c5_ok o_ a2 s7 r7 h30).at h31 :) (cj1 (by decide)))))))) (fun s10 h32 =>
   Pn.some (Fn.of [.wait 4, .mask [0, 1, 2], .ren [], .join 7 (X.go) (st 84 [(0, lF5 o), (1, vI o_), (2, vI a2)] [] []), .wait 4, .mask [0, 1, 2, 9, 10], .ren [], .loop (X.out 0) (st 84 [(1, vI o_), (2, vI a2), (9, vS r3)] [] []), .wait 1, .mask [1, 2, 9], .ren [], .join 13 (X.go) (st 84 [(1, vI o_), (2, vI a2), (9, vS s7)] [] []), .wait 1, .mask [1, 2, 9], .ren [], .join 7 (X.ret) (st 84 [(6, vS (bs [])), (7, vI 0), (8, vB false)] [] [])] (p := [HT Tryz.prog (sub (codeOf Tryz.prog 25) [1, 0]) (st 84 [(0, lF5 o), (1, vI o_), (2, vI a2)] [] []) (X.go) (st 84 [(0, lF5 o), (1, vI o_), (2, vI a2)] [] []),Loop Tryz.prog (sub (codeOf Tryz.prog 25) [1, 1, 1, 0, 1, 0, 0]) (st 84 [(0, lF5 o), (1, vI o_), (2, vI a2), (9, vS (bs [])), (10, vI o_)] [] []) (X.out 0) (st 84 [(1, vI o_), (2, vI a2), (9, vS r3)] [] []),HT Tryz.prog (sub (codeOf Tryz.prog 25) [1, 1, 1, 1, 0]) (st 84 [(1, vI o_), (2, vI a2), (9, vS r3)] [] []) (X.go) (st 84 [(1, vI o_), (2, vI a2), (9, vS s7)] [] []),HT Tryz.prog (sub (codeOf Tryz.prog 25) [1, 1, 1, 1, 1, 0]) (st 84 [(1, vI o_), (2, vI a2), (9, vS s7)] [] []) (X.ret) (st 84 [(6, vS (bs [])), (7, vI 0), (8, vB false)] [] [])]) (by kernel_rfl) (cj ((spec_GetBcd_c0_ok o o_ a2 r1 h6).at h7 :) (cj (spec_GetBcd_l0_ok o o_ a2 FUEL o_ (bs []) r3 h16) (cj ((spec_GetBcd_c3_ok o_ a2 r3 r5 h25).at h26 :) (cj1 ((spec_GetBcd_c5_ok o_ a2 s7 r7 h30).at h32 :))))))))) (fun s8 h27 =>
   Pn.some (Fn.of [.wait 4, .mask [0, 1, 2], .ren [], .join 7 (X.go) (st 84 [(0, lF5 o), (1, vI o_), (2, vI a2)] [] []), .wait 4, .mask [0, 1, 2, 9, 10], .ren [], .loop (X.out 0) (st 84 [(1, vI o_), (2, vI a2), (9, vS r3)] [] []), .wait 1, .mask [1, 2, 9], .ren [], .join 13 (X.ret) (st 84 [(6, vS (bs [])), (7, vI 0), (8, vB false)] [] [])] (p := [HT Tryz.prog (sub (codeOf Tryz.prog 25) [1, 0]) (st 84 [(0, lF5 o), (1, vI o_), (2, vI a2)] [] []) (X.go) (st 84 [(0, lF5 o), (1, vI o_), (2, vI a2)] [] []),Loop Tryz.prog (sub (codeOf Tryz.prog 25) [1, 1, 1, 0, 1, 0, 0]) (st 84 [(0, lF5 o), (1, vI o_), (2, vI a2), (9, vS (bs [])), (10, vI o_)] [] []) (X.out 0) (st 84 [(1, vI o_), (2, vI a2), (9, vS r3)] [] []),HT Tryz.prog (sub (codeOf Tryz.prog 25) [1, 1, 1, 1, 0]) (st 84 [(1, vI o_), (2, vI a2), (9, vS r3)] [] []) (X.ret) (st 84 [(6, vS (bs [])), (7, vI 0), (8, vB false)] [] [])]) (by kernel_rfl) (cj ((spec_GetBcd_c0_ok o o_ a2 r1 h6).at h7 :) (cj (spec_GetBcd_l0_ok o o_ a2 FUEL o_ (bs []) r3 h16) (cj1 ((spec_GetBcd_c3_ok o_ a2 r3 r5 h25).at h27 :))))))))) (fun s2 h8 =>
   Pn.some (Fn.of [.wait 4, .mask [0, 1, 2], .ren [], .join 7 (X.ret) (st 84 [(6, vS (bs [])), (7, vI 0), (8, vB false)] [] [])] (p := [HT Tryz.prog (sub (codeOf Tryz.prog 25) [1, 0]) (st 84 [(0, lF5 o), (1, vI o_), (2, vI a2)] [] []) (X.ret) (st 84 [(6, vS (bs [])), (7, vI 0), (8, vB false)] [] [])]) (by kernel_rfl) (cj1 ((spec_GetBcd_c0_ok o o_ a2 r1 h6).at h8 :)))))
def spec_GetBits_c0 (b : List Int) (at_ : Int) : Option (Lo Unit Unit) :=
 if (decide (at_ < 0)) = true then
 some (.ret ())
 else
 if (decide ((i64 ((b.length : Int) - 8)) < at_)) = true then
 some (.ret ())
 else
 some (.out ())
theorem spec_GetBits_c0_ok (b : List Int) (at_ : Int) : Pn (JnO Tryz.prog (sub (codeOf Tryz.prog 52) [1, 0]) (st 46 [(0, lF5 b), (1, vI at_)] [] []) (fun (y : Lo Unit Unit) => Lo.elim y (fun s => (X.go, st 46 [(0, lF5 b), (1, vI at_)] [] [])) (fun s => (X.ret, st 46 [(4, V.nl 3), (5, vI 0), (6, vB false)] [] [])))) (spec_GetBits_c0 b at_) := by
  unfold spec_GetBits_c0
  exact
   Pn.ite (fun h1 =>
   Pn.some (JnO.of [bT, bT, bT, bT, bT, bT, bT, .wait 3, .mask [4, 5, 6], .ren []] (p := [(decide (at_ < 0)) = true,(decide (at_ < 0)) = true,(decide (at_ < 0)) = true,(decide (at_ < 0)) = true,(decide (at_ < 0)) = true,(decide (at_ < 0)) = true,true = true]) (by kernel_rfl) (cj h1 (cj h1 (cj h1 (cj h1 (cj h1 (cj h1 (cj1 rfl))))))))) (fun h1 =>
   Pn.ite (fun h2 =>
   Pn.some (JnO.of [bF, bF, bF, .nm 14 (vI (b.length : Int)), bF, bF, bF, bT, .wait 3, .mask [4, 5, 6], .ren []] (p := [(decide (at_ < 0)) = false,(decide (at_ < 0)) = false,(decide (at_ < 0)) = false,vI ((List.map E5 b).length : Int) = vI (b.length : Int),(decide (at_ < 0)) = false,(decide (at_ < 0)) = false,(decide (at_ < 0)) = false,(decide ((i64 ((b.length : Int) - 8)) < at_)) = true]) (by kernel_rfl) (cj h1 (cj h1 (cj h1 (cj (len_nm _ _) (cj h1 (cj h1 (cj h1 (cj1 h2)))))))))) (fun h2 =>
   Pn.some (JnO.of [bF, bF, bF, .nm 14 (vI (b.length : Int)), bF, bF, bF, bF, .mask [0, 1], .ren []] (p := [(decide (at_ < 0)) = false,(decide (at_ < 0)) = false,(decide (at_ < 0)) = false,vI ((List.map E5 b).length : Int) = vI (b.length : Int),(decide (at_ < 0)) = false,(decide (at_ < 0)) = false,(decide (at_ < 0)) = false,(decide ((i64 ((b.length : Int) - 8)) < at_)) = false]) (by kernel_rfl) (cj h1 (cj h1 (cj h1 (cj (len_nm _ _) (cj h1 (cj h1 (cj h1 (cj1 h2)))))))))))
def spec_GetBits_c3 (b : List Int) (at_ : Int) (v1 : Int) (v2 : List Int) : Option (Lo Unit Unit) :=
 if (decide (v1 ≤ 64)) = true then
 some (.out ())
 else
 some (.ret ())
theorem spec_GetBits_c3_ok (b : List Int) (at_ : Int) (v1 : Int) (v2 : List Int) : Pn (JnO Tryz.prog (sub (codeOf Tryz.prog 52) [1, 1, 1, 0, 1, 0, 0, 0]) (st 46 [(0, lF5 b), (1, vI at_), (7, V.ow 0), (8, vI v1)] [Blk.row 3 (List.map E3 v2) []] []) (fun (y : Lo Unit Unit) => Lo.elim y (fun s => (X.go, st 46 [(0, lF5 b), (1, vI at_), (7, V.ow 0), (8, vI v1)] [Blk.row 3 (List.map E3 v2) []] [])) (fun s => (X.out 0, st 46 [(1, vI at_), (7, V.ow 0)] [Blk.row 3 (List.map E3 v2) []] [])))) (spec_GetBits_c3 b at_ v1 v2) := by
  unfold spec_GetBits_c3
  exact
   Pn.ite (fun h6 =>
   Pn.some (JnO.of [bT, .mask [0, 1, 7, 8], .ren [0]] (p := [(decide (v1 ≤ 64)) = true]) (by kernel_rfl) (cj1 h6))) (fun h6 =>
   Pn.some (JnO.of [bF, .mask [1, 7], .ren [0]] (p := [(decide (v1 ≤ 64)) = false]) (by kernel_rfl) (cj1 h6)))
def spec_GetBits_c4 (b : List Int) (at_ : Int) (v1 : Int) (v2 : List Int) : Option ((List Int)) :=
 if (decide (0 ≤ (i64 (at_ + (i64 (Int.tdiv (i64 (v1 - 1)) 8)))))) = true then
 (b[(i64 (at_ + (i64 (Int.tdiv (i64 (v1 - 1)) 8)))).toNat]?).bind fun x1 =>
 if (decide (¬ (i64 (7 - (Int.tmod (i64 (v1 - 1)) 8))) < 0)) = true then
 if ((Int.tmod (bshr .i64 (i64 x1) (i64 (7 - (Int.tmod (i64 (v1 - 1)) 8)))) 2) == 1) = true then
 if (capOk (v2.length + 1)) = true then
 some (v2 ++ [v1])
 else none
 else
 some v2
 else none
 else none
theorem spec_GetBits_c4_ok (b : List Int) (at_ : Int) (v1 : Int) (v2 : List Int) : Pn (JnO Tryz.prog (sub (codeOf Tryz.prog 52) [1, 1, 1, 0, 1, 0, 0, 1, 0]) (st 46 [(0, lF5 b), (1, vI at_), (7, V.ow 0), (8, vI v1)] [Blk.row 3 (List.map E3 v2) []] []) (fun (y : (List Int)) => (X.go, st 46 [(0, lF5 b), (1, vI at_), (7, V.ow 0), (8, vI v1)] [Blk.row 3 (List.map E3 y) []] []))) (spec_GetBits_c4 b at_ v1 v2) := by
  unfold spec_GetBits_c4
  exact
   Pn.ite (fun h10 =>
   Pn.bind (fun x1 h11 =>
   Pn.ite (fun h12 =>
   Pn.ite (fun h13 =>
   Pn.ite (fun h14 =>
   Pn.some (JnO.of [.el (E5 x1), bT, .cp [vI v1], .nb 2 (.row 3 (List.map E3 (v2 ++ [v1])) []), .wait 2, .mask [0, 1, 7, 8], .ren [2]] (p := [(8 : Int) ≠ 0,(0 : Int) ≤ (i64 (at_ + (i64 (Int.tdiv (i64 (v1 - 1)) 8)))),(List.map E5 b)[(i64 (at_ + (i64 (Int.tdiv (i64 (v1 - 1)) 8)))).toNat]? = some (E5 x1),(8 : Int) ≠ 0,¬ ((i64 (7 - (Int.tmod (i64 (v1 - 1)) 8))) : Int) < 0,(2 : Int) ≠ 0,((Int.tmod (bshr .i64 (i64 x1) (i64 (7 - (Int.tmod (i64 (v1 - 1)) 8)))) 2) == 1) = true,[vI v1] = [vI v1],[vI v1].all V.flatE = true,(List.map E3 v2).length + [vI v1].length ≤ 9223372036854775807,((List.map E3 v2).length + [vI v1].length) * 8 ≤ 140737488355328,Blk.row 3 ((List.map E3 v2) ++ [vI v1]) [] = Blk.row 3 (List.map E3 (v2 ++ [v1])) []]) (by kernel_rfl) (cj (by decide) (cj (od h10) (cj (map_get h11) (cj (by decide) (cj (od h12) (cj (by decide) (cj h13 (cj rfl (cj rfl (cj (cap1 (capN (by simp) h14)) (cj (cap2 (capN (by simp) h14) (by decide)) (cj1 (nb_app E3 v2 [v1]))))))))))))))) (fun h14 =>
   Pn.none)) (fun h13 =>
   Pn.some (JnO.of [.el (E5 x1), bF, .mask [0, 1, 7, 8], .ren [0]] (p := [(8 : Int) ≠ 0,(0 : Int) ≤ (i64 (at_ + (i64 (Int.tdiv (i64 (v1 - 1)) 8)))),(List.map E5 b)[(i64 (at_ + (i64 (Int.tdiv (i64 (v1 - 1)) 8)))).toNat]? = some (E5 x1),(8 : Int) ≠ 0,¬ ((i64 (7 - (Int.tmod (i64 (v1 - 1)) 8))) : Int) < 0,(2 : Int) ≠ 0,((Int.tmod (bshr .i64 (i64 x1) (i64 (7 - (Int.tmod (i64 (v1 - 1)) 8)))) 2) == 1) = false]) (by kernel_rfl) (cj (by decide) (cj (od h10) (cj (map_get h11) (cj (by decide) (cj (od h12) (cj (by decide) (cj1 h13)))))))))) (fun h12 =>
   Pn.none))) (fun h10 =>
   Pn.none)
def spec_GetBits_l0 (b : List Int) (at_ : Int) : Nat → Int → (List Int) → Option ((List Int))
  | 0, _, _ => none
  | fuel + 1, v1, v2 =>
   (spec_GetBits_c3 b at_ v1 v2).bind fun r2 =>
   Lo.elim r2 (fun s3 =>
   (spec_GetBits_c4 b at_ v1 v2).bind fun r3 =>
   spec_GetBits_l0 b at_ fuel (i64 (v1 + 1)) r3) (fun s4 =>
   some v2)
theorem spec_GetBits_l0_ok (b : List Int) (at_ : Int) : ∀ (fuel : Nat) (v1 : Int) (v2 : List Int), Pn (LpO Tryz.prog (sub (codeOf Tryz.prog 52) [1, 1, 1, 0, 1, 0, 0]) (st 46 [(0, lF5 b), (1, vI at_), (7, V.ow 0), (8, vI v1)] [Blk.row 3 (List.map E3 v2) []] []) (fun (y : (List Int)) => (X.out 0, st 46 [(1, vI at_), (7, V.ow 0)] [Blk.row 3 (List.map E3 y) []] []))) (spec_GetBits_l0 b at_ fuel v1 v2)
  | 0, _, _ => Pn.none
  | fuel + 1, v1, v2 => by
    unfold spec_GetBits_l0
    exact
     Pn.bind (fun r2 h7 =>
     Pn.lo (fun s3 h8 =>
     Pn.bind (fun r3 h15 =>
     LpO.go [.wait 1, .mask [0, 1, 7, 8], .ren [0], .join 5 (X.go) (st 46 [(0, lF5 b), (1, vI at_), (7, V.ow 0), (8, vI v1)] [Blk.row 3 (List.map E3 v2) []] []), .wait 1, .mask [0, 1, 7, 8], .ren [0], .join 6 (X.go) (st 46 [(0, lF5 b), (1, vI at_), (7, V.ow 0), (8, vI v1)] [Blk.row 3 (List.map E3 r3) []] []), .wait 4, .mask [0, 1, 7, 8], .ren [0]] (p := [HT Tryz.prog (sub (codeOf Tryz.prog 52) [1, 1, 1, 0, 1, 0, 0, 0]) (st 46 [(0, lF5 b), (1, vI at_), (7, V.ow 0), (8, vI v1)] [Blk.row 3 (List.map E3 v2) []] []) (X.go) (st 46 [(0, lF5 b), (1, vI at_), (7, V.ow 0), (8, vI v1)] [Blk.row 3 (List.map E3 v2) []] []),HT Tryz.prog (sub (codeOf Tryz.prog 52) [1, 1, 1, 0, 1, 0, 0, 1, 0]) (st 46 [(0, lF5 b), (1, vI at_), (7, V.ow 0), (8, vI v1)] [Blk.row 3 (List.map E3 v2) []] []) (X.go) (st 46 [(0, lF5 b), (1, vI at_), (7, V.ow 0), (8, vI v1)] [Blk.row 3 (List.map E3 r3) []] [])]) (by kernel_rfl) (cj ((spec_GetBits_c3_ok b at_ v1 v2 r2 h7).at h8 :) (cj1 (spec_GetBits_c4_ok b at_ v1 v2 r3 h15))) (spec_GetBits_l0_ok b at_ fuel (i64 (v1 + 1)) r3))) (fun s4 h9 =>
     Pn.some (LpO.out [.wait 1, .mask [0, 1, 7, 8], .ren [0], .join 5 (X.out 0) (st 46 [(1, vI at_), (7, V.ow 0)] [Blk.row 3 (List.map E3 v2) []] []), .wait 1, .mask [1, 7], .ren [0]] (p := [HT Tryz.prog (sub (codeOf Tryz.prog 52) [1, 1, 1, 0, 1, 0, 0, 0]) (st 46 [(0, lF5 b), (1, vI at_), (7, V.ow 0), (8, vI v1)] [Blk.row 3 (List.map E3 v2) []] []) (X.out 0) (st 46 [(1, vI at_), (7, V.ow 0)] [Blk.row 3 (List.map E3 v2) []] [])]) (by kernel_rfl) (show X.out 0 ≠ X.go from nofun) (cj1 ((spec_GetBits_c3_ok b at_ v1 v2 r2 h7).at h9 :)))))
def spec_GetBits (b : List Int) (at_ : Int) : Option ((List Int) × Int × Bool) :=
 (spec_GetBits_c0 b at_).bind fun r1 =>
 Lo.elim r1 (fun s1 =>
 (spec_GetBits_l0 b at_ FUEL 1 []).bind fun r4 =>
 some (r4, i64 (at_ + 8), true)) (fun s2 =>
 some ([], 0, false))
theorem spec_GetBits_ok (b : List Int) (at_ : Int) : Pn (fun y => Fn Tryz.prog 52 [(false, E31 b), (false, E3 at_)] (V.tup [E55 y.1, E3 y.2.1, E4 y.2.2]) []) (spec_GetBits b at_) := by
  unfold spec_GetBits
  exact
   Pn.bind (fun r1 h3 =>
   Pn.lo (fun s1 h4 =>
   Pn.bind (fun r4 h16 =>
   Pn.some (Fn.of [.wait 4, .mask [0, 1], .ren [], .join 7 (X.go) (st 46 [(0, lF5 b), (1, vI at_)] [] []), .wait 4, .mask [0, 1, 7, 8], .ren [0], .loop (X.out 0) (st 46 [(1, vI at_), (7, V.ow 0)] [Blk.row 3 (List.map E3 r4) []] [])] (p := [HT Tryz.prog (sub (codeOf Tryz.prog 52) [1, 0]) (st 46 [(0, lF5 b), (1, vI at_)] [] []) (X.go) (st 46 [(0, lF5 b), (1, vI at_)] [] []),Loop Tryz.prog (sub (codeOf Tryz.prog 52) [1, 1, 1, 0, 1, 0, 0]) (st 46 [(0, lF5 b), (1, vI at_), (7, V.ow 0), (8, vI 1)] [Blk.row 3 ([] : List V) []] []) (X.out 0) (st 46 [(1, vI at_), (7, V.ow 0)] [Blk.row 3 (List.map E3 r4) []] [])]) (by kernel_rfl) (cj ((spec_GetBits_c0_ok b at_ r1 h3).at h4 :) (cj1 (spec_GetBits_l0_ok b at_ FUEL 1 [] r4 h16)))))) (fun s2 h5 =>
   Pn.some (Fn.of [.wait 4, .mask [0, 1], .ren [], .join 7 (X.ret) (st 46 [(4, V.nl 3), (5, vI 0), (6, vB false)] [] [])] (p := [HT Tryz.prog (sub (codeOf Tryz.prog 52) [1, 0]) (st 46 [(0, lF5 b), (1, vI at_)] [] []) (X.ret) (st 46 [(4, V.nl 3), (5, vI 0), (6, vB false)] [] [])]) (by kernel_rfl) (cj1 ((spec_GetBits_c0_ok b at_ r1 h3).at h5 :)))))
def spec_FieldKind (no : Int) : Option (Int) :=
 if (no == 3) = true then
 some 1
 else
 if (no == 4) = true then
 some 1
 else
 if (no == 7) = true then
 some 1
 else
 if (no == 11) = true then
 some 1
 else
 if (no == 14) = true then
 some 1
 else
 if (no == 49) = true then
 some 1
 else
 if (no == 37) = true then
 some 2
 else
 if (no == 38) = true then
 some 2
 else
 if (no == 39) = true then
 some 2
 else
 if (no == 41) = true then
 some 2
 else
 if (no == 95) = true then
 some 2
 else
 if (no == 2) = true then
 some 3
 else
 if (no == 102) = true then
 some 4
 else
 if (no == 103) = true then
 some 4
 else
 if (no == 48) = true then
 some 5
 else
 if (no == 54) = true then
 some 5
 else
 some 0
theorem spec_FieldKind_ok (no : Int) : Pn (fun y => Fn Tryz.prog 53 [(false, E3 no)] (E3 y) []) (spec_FieldKind no) := by
  unfold spec_FieldKind
  exact
   Pn.ite (fun h1 =>
   Pn.some (Fn.of [bT, bT] (p := [(no == 3) = true,(no == 3) = true]) (by kernel_rfl) (cj h1 (cj1 h1)))) (fun h1 =>
   Pn.ite (fun h2 =>
   Pn.some (Fn.of [bF, bT, bT] (p := [(no == 3) = false,(no == 4) = true,(no == 4) = true]) (by kernel_rfl) (cj h1 (cj h2 (cj1 h2))))) (fun h2 =>
   Pn.ite (fun h3 =>
   Pn.some (Fn.of [bF, bF, bT, bT] (p := [(no == 3) = false,(no == 4) = false,(no == 7) = true,(no == 7) = true]) (by kernel_rfl) (cj h1 (cj h2 (cj h3 (cj1 h3)))))) (fun h3 =>
   Pn.ite (fun h4 =>
   Pn.some (Fn.of [bF, bF, bF, bT, bT] (p := [(no == 3) = false,(no == 4) = false,(no == 7) = false,(no == 11) = true,(no == 11) = true]) (by kernel_rfl) (cj h1 (cj h2 (cj h3 (cj h4 (cj1 h4))))))) (fun h4 =>
   Pn.ite (fun h5 =>
   Pn.some (Fn.of [bF, bF, bF, bF, bT, bT] (p := [(no == 3) = false,(no == 4) = false,(no == 7) = false,(no == 11) = false,(no == 14) = true,(no == 14) = true]) (by kernel_rfl) (cj h1 (cj h2 (cj h3 (cj h4 (cj h5 (cj1 h5)))))))) (fun h5 =>
   Pn.ite (fun h6 =>
   Pn.some (Fn.of [bF, bF, bF, bF, bF, bT] (p := [(no == 3) = false,(no == 4) = false,(no == 7) = false,(no == 11) = false,(no == 14) = false,(no == 49) = true]) (by kernel_rfl) (cj h1 (cj h2 (cj h3 (cj h4 (cj h5 (cj1 h6)))))))) (fun h6 =>
   Pn.ite (fun h7 =>
   Pn.some (Fn.of [bF, bF, bF, bF, bF, bF, bT, bT] (p := [(no == 3) = false,(no == 4) = false,(no == 7) = false,(no == 11) = false,(no == 14) = false,(no == 49) = false,(no == 37) = true,(no == 37) = true]) (by kernel_rfl) (cj h1 (cj h2 (cj h3 (cj h4 (cj h5 (cj h6 (cj h7 (cj1 h7)))))))))) (fun h7 =>
   Pn.ite (fun h8 =>
   Pn.some (Fn.of [bF, bF, bF, bF, bF, bF, bF, bT, bT] (p := [(no == 3) = false,(no == 4) = false,(no == 7) = false,(no == 11) = false,(no == 14) = false,(no == 49) = false,(no == 37) = false,(no == 38) = true,(no == 38) = true]) (by kernel_rfl) (cj h1 (cj h2 (cj h3 (cj h4 (cj h5 (cj h6 (cj h7 (cj h8 (cj1 h8))))))))))) (fun h8 =>
   Pn.ite (fun h9 =>
   Pn.some (Fn.of [bF, bF, bF, bF, bF, bF, bF, bF, bT, bT] (p := [(no == 3) = false,(no == 4) = false,(no == 7) = false,(no == 11) = false,(no == 14) = false,(no == 49) = false,(no == 37) = false,(no == 38) = false,(no == 39) = true,(no == 39) = true]) (by kernel_rfl) (cj h1 (cj h2 (cj h3 (cj h4 (cj h5 (cj h6 (cj h7 (cj h8 (cj h9 (cj1 h9)))))))))))) (fun h9 =>
   Pn.ite (fun h10 =>
   Pn.some (Fn.of [bF, bF, bF, bF, bF, bF, bF, bF, bF, bT, bT] (p := [(no == 3) = false,(no == 4) = false,(no == 7) = false,(no == 11) = false,(no == 14) = false,(no == 49) = false,(no == 37) = false,(no == 38) = false,(no == 39) = false,(no == 41) = true,(no == 41) = true]) (by kernel_rfl) (cj h1 (cj h2 (cj h3 (cj h4 (cj h5 (cj h6 (cj h7 (cj h8 (cj h9 (cj h10 (cj1 h10))))))))))))) (fun h10 =>
   Pn.ite (fun h11 =>
   Pn.some (Fn.of [bF, bF, bF, bF, bF, bF, bF, bF, bF, bF, bT] (p := [(no == 3) = false,(no == 4) = false,(no == 7) = false,(no == 11) = false,(no == 14) = false,(no == 49) = false,(no == 37) = false,(no == 38) = false,(no == 39) = false,(no == 41) = false,(no == 95) = true]) (by kernel_rfl) (cj h1 (cj h2 (cj h3 (cj h4 (cj h5 (cj h6 (cj h7 (cj h8 (cj h9 (cj h10 (cj1 h11))))))))))))) (fun h11 =>
   Pn.ite (fun h12 =>
   Pn.some (Fn.of [bF, bF, bF, bF, bF, bF, bF, bF, bF, bF, bF, bT] (p := [(no == 3) = false,(no == 4) = false,(no == 7) = false,(no == 11) = false,(no == 14) = false,(no == 49) = false,(no == 37) = false,(no == 38) = false,(no == 39) = false,(no == 41) = false,(no == 95) = false,(no == 2) = true]) (by kernel_rfl) (cj h1 (cj h2 (cj h3 (cj h4 (cj h5 (cj h6 (cj h7 (cj h8 (cj h9 (cj h10 (cj h11 (cj1 h12)))))))))))))) (fun h12 =>
   Pn.ite (fun h13 =>
   Pn.some (Fn.of [bF, bF, bF, bF, bF, bF, bF, bF, bF, bF, bF, bF, bT, bT] (p := [(no == 3) = false,(no == 4) = false,(no == 7) = false,(no == 11) = false,(no == 14) = false,(no == 49) = false,(no == 37) = false,(no == 38) = false,(no == 39) = false,(no == 41) = false,(no == 95) = false,(no == 2) = false,(no == 102) = true,(no == 102) = true]) (by kernel_rfl) (cj h1 (cj h2 (cj h3 (cj h4 (cj h5 (cj h6 (cj h7 (cj h8 (cj h9 (cj h10 (cj h11 (cj h12 (cj h13 (cj1 h13)))))))))))))))) (fun h13 =>
   Pn.ite (fun h14 =>
   Pn.some (Fn.of [bF, bF, bF, bF, bF, bF, bF, bF, bF, bF, bF, bF, bF, bT] (p := [(no == 3) = false,(no == 4) = false,(no == 7) = false,(no == 11) = false,(no == 14) = false,(no == 49) = false,(no == 37) = false,(no == 38) = false,(no == 39) = false,(no == 41) = false,(no == 95) = false,(no == 2) = false,(no == 102) = false,(no == 103) = true]) (by kernel_rfl) (cj h1 (cj h2 (cj h3 (cj h4 (cj h5 (cj h6 (cj h7 (cj h8 (cj h9 (cj h10 (cj h11 (cj h12 (cj h13 (cj1 h14)))))))))))))))) (fun h14 =>
   Pn.ite (fun h15 =>
   Pn.some (Fn.of [bF, bF, bF, bF, bF, bF, bF, bF, bF, bF, bF, bF, bF, bF, bT, bT] (p := [(no == 3) = false,(no == 4) = false,(no == 7) = false,(no == 11) = false,(no == 14) = false,(no == 49) = false,(no == 37) = false,(no == 38) = false,(no == 39) = false,(no == 41) = false,(no == 95) = false,(no == 2) = false,(no == 102) = false,(no == 103) = false,(no == 48) = true,(no == 48) = true]) (by kernel_rfl) (cj h1 (cj h2 (cj h3 (cj h4 (cj h5 (cj h6 (cj h7 (cj h8 (cj h9 (cj h10 (cj h11 (cj h12 (cj h13 (cj h14 (cj h15 (cj1 h15)))))))))))))))))) (fun h15 =>
   Pn.ite (fun h16 =>
   Pn.some (Fn.of [bF, bF, bF, bF, bF, bF, bF, bF, bF, bF, bF, bF, bF, bF, bF, bT] (p := [(no == 3) = false,(no == 4) = false,(no == 7) = false,(no == 11) = false,(no == 14) = false,(no == 49) = false,(no == 37) = false,(no == 38) = false,(no == 39) = false,(no == 41) = false,(no == 95) = false,(no == 2) = false,(no == 102) = false,(no == 103) = false,(no == 48) = false,(no == 54) = true]) (by kernel_rfl) (cj h1 (cj h2 (cj h3 (cj h4 (cj h5 (cj h6 (cj h7 (cj h8 (cj h9 (cj h10 (cj h11 (cj h12 (cj h13 (cj h14 (cj h15 (cj1 h16)))))))))))))))))) (fun h16 =>
   Pn.some (Fn.of [bF, bF, bF, bF, bF, bF, bF, bF, bF, bF, bF, bF, bF, bF, bF, bF] (p := [(no == 3) = false,(no == 4) = false,(no == 7) = false,(no == 11) = false,(no == 14) = false,(no == 49) = false,(no == 37) = false,(no == 38) = false,(no == 39) = false,(no == 41) = false,(no == 95) = false,(no == 2) = false,(no == 102) = false,(no == 103) = false,(no == 48) = false,(no == 54) = false]) (by kernel_rfl) (cj h1 (cj h2 (cj h3 (cj h4 (cj h5 (cj h6 (cj h7 (cj h8 (cj h9 (cj h10 (cj h11 (cj h12 (cj h13 (cj h14 (cj h15 (cj1 h16)))))))))))))))))))))))))))))))))
def spec_l04Nos_c0 (o : List Int) (r1 : (List Int) × Int × Bool) : Option (Lo Unit Unit) :=
 if r1.2.2 = true then
 some (.out ())
 else
 some (.ret ())
theorem spec_l04Nos_c0_ok (o : List Int) (r1 : (List Int) × Int × Bool) : Pn (JnO Tryz.prog (sub (codeOf Tryz.prog 26) [1, 1, 0]) (st 81 [(0, lF5 o), (5, V.ow 0), (6, vI r1.2.1), (7, vB r1.2.2)] [Blk.row 3 (List.map E3 r1.1) []] []) (fun (y : Lo Unit Unit) => Lo.elim y (fun s => (X.go, st 81 [(0, lF5 o), (5, V.ow 0), (6, vI r1.2.1)] [Blk.row 3 (List.map E3 r1.1) []] [])) (fun s => (X.ret, st 81 [(2, V.nl 3), (3, vI 0), (4, vB false)] [] [])))) (spec_l04Nos_c0 o r1) := by
  unfold spec_l04Nos_c0
  exact
   Pn.ite (fun h2 =>
   Pn.some (JnO.of [bF, .mask [0, 5, 6], .ren [0]] (p := [(!r1.2.2) = false]) (by kernel_rfl) (cj1 (nf h2)))) (fun h2 =>
   Pn.some (JnO.of [bT, .wait 3, .mask [2, 3, 4], .ren []] (p := [(!r1.2.2) = true]) (by kernel_rfl) (cj1 (nt h2))))
def spec_l04Nos_c3 (o : List Int) (r1 : (List Int) × Int × Bool) (v1 : Int) (v2 : Bool) (v3 : List Int) : Option (Lo Unit Unit) :=
 if (decide (v1 < (r1.1.length : Int))) = true then
 some (.out ())
 else
 some (.ret ())
theorem spec_l04Nos_c3_ok (o : List Int) (r1 : (List Int) × Int × Bool) (v1 : Int) (v2 : Bool) (v3 : List Int) : Pn (JnO Tryz.prog (sub (codeOf Tryz.prog 26) [1, 1, 1, 1, 1, 0, 1, 0, 0, 1, 0]) (st 81 [(0, lF5 o), (6, vI r1.2.1), (8, V.ow 0), (9, vB v2), (28, V.ow 1), (29, vI (r1.1.length : Int)), (30, vI v1), (31, vB (decide (v1 < (r1.1.length : Int))))] [Blk.row 3 (List.map E3 v3) [], Blk.row 3 (List.map E3 r1.1) []] []) (fun (y : Lo Unit Unit) => Lo.elim y (fun s => (X.go, st 81 [(0, lF5 o), (6, vI r1.2.1), (8, V.ow 0), (9, vB v2), (28, V.ow 1), (29, vI (r1.1.length : Int)), (30, vI v1)] [Blk.row 3 (List.map E3 v3) [], Blk.row 3 (List.map E3 r1.1) []] [])) (fun s => (X.out 0, st 81 [(0, lF5 o), (6, vI r1.2.1), (8, V.ow 0), (9, vB v2)] [Blk.row 3 (List.map E3 v3) []] [])))) (spec_l04Nos_c3 o r1 v1 v2 v3) := by
  unfold spec_l04Nos_c3
  exact
   Pn.ite (fun h6 =>
   Pn.some (JnO.of [bT, .mask [0, 6, 8, 9, 28, 29, 30], .ren [0, 1]] (p := [(decide (v1 < (r1.1.length : Int))) = true]) (by kernel_rfl) (cj1 h6))) (fun h6 =>
   Pn.some (JnO.of [bF, .mask [0, 6, 8, 9], .ren [0]] (p := [(decide (v1 < (r1.1.length : Int))) = false]) (by kernel_rfl) (cj1 h6)))
def spec_l04Nos_c4 (o : List Int) (r1 : (List Int) × Int × Bool) (v1 : Int) (v2 : Bool) (v3 : List Int) : Option (Bool × (List Int)) :=
 if (decide (0 ≤ v1)) = true then
 (r1.1[v1.toNat]?).bind fun x1 =>
 if (x1 == 1) = true then
 some (true, v3)
 else
 if (capOk (v3.length + 1)) = true then
 some (v2, (v3 ++ [x1]))
 else none
 else none
theorem spec_l04Nos_c4_ok (o : List Int) (r1 : (List Int) × Int × Bool) (v1 : Int) (v2 : Bool) (v3 : List Int) : Pn (JnO Tryz.prog (sub (codeOf Tryz.prog 26) [1, 1, 1, 1, 1, 0, 1, 0, 0, 1, 1, 0]) (st 81 [(0, lF5 o), (6, vI r1.2.1), (8, V.ow 0), (9, vB v2), (28, V.ow 1), (29, vI (r1.1.length : Int)), (30, vI v1)] [Blk.row 3 (List.map E3 v3) [], Blk.row 3 (List.map E3 r1.1) []] []) (fun (y : Bool × (List Int)) => (X.go, st 81 [(0, lF5 o), (6, vI r1.2.1), (8, V.ow 0), (9, vB y.1), (28, V.ow 1), (29, vI (r1.1.length : Int)), (30, vI v1)] [Blk.row 3 (List.map E3 y.2) [], Blk.row 3 (List.map E3 r1.1) []] []))) (spec_l04Nos_c4 o r1 v1 v2 v3) := by
  unfold spec_l04Nos_c4
  exact
   Pn.ite (fun h10 =>
   Pn.bind (fun x1 h11 =>
   Pn.ite (fun h12 =>
   Pn.some (JnO.of [.el (E3 x1), bT, .wait 1, .mask [0, 6, 8, 9, 28, 29, 30], .ren [0, 1]] (p := [(0 : Int) ≤ v1,(v1 : Int) < ((List.map E3 r1.1).length : Int),look [] v1.toNat = none,(List.map E3 r1.1)[v1.toNat]? = some (E3 x1),(x1 == 1) = true]) (by kernel_rfl) (cj (od h10) (cj (map_ltN (od h10) h11) (cj rfl (cj (map_get h11) (cj1 h12))))))) (fun h12 =>
   Pn.ite (fun h13 =>
   Pn.some (JnO.of [.el (E3 x1), bF, .cp [vI x1], .nb 3 (.row 3 (List.map E3 (v3 ++ [x1])) []), .wait 2, .mask [0, 6, 8, 9, 28, 29, 30], .ren [3, 1]] (p := [(0 : Int) ≤ v1,(v1 : Int) < ((List.map E3 r1.1).length : Int),look [] v1.toNat = none,(List.map E3 r1.1)[v1.toNat]? = some (E3 x1),(x1 == 1) = false,[vI x1] = [vI x1],[vI x1].all V.flatE = true,(List.map E3 v3).length + [vI x1].length ≤ 9223372036854775807,((List.map E3 v3).length + [vI x1].length) * 8 ≤ 140737488355328,Blk.row 3 ((List.map E3 v3) ++ [vI x1]) [] = Blk.row 3 (List.map E3 (v3 ++ [x1])) []]) (by kernel_rfl) (cj (od h10) (cj (map_ltN (od h10) h11) (cj rfl (cj (map_get h11) (cj h12 (cj rfl (cj rfl (cj (cap1 (capN (by simp) h13)) (cj (cap2 (capN (by simp) h13) (by decide)) (cj1 (nb_app E3 v3 [x1]))))))))))))) (fun h13 =>
   Pn.none)))) (fun h10 =>
   Pn.none)
def spec_l04Nos_l0 (o : List Int) (r1 : (List Int) × Int × Bool) : Nat → Int → Bool → (List Int) → Option (Bool × (List Int))
  | 0, _, _, _ => none
  | fuel + 1, v1, v2, v3 =>
   (spec_l04Nos_c3 o r1 v1 v2 v3).bind fun r3 =>
   Lo.elim r3 (fun s3 =>
   (spec_l04Nos_c4 o r1 v1 v2 v3).bind fun r4 =>
   spec_l04Nos_l0 o r1 fuel (i64 (v1 + 1)) r4.1 r4.2) (fun s4 =>
   some (v2, v3))
theorem spec_l04Nos_l0_ok (o : List Int) (r1 : (List Int) × Int × Bool) : ∀ (fuel : Nat) (v1 : Int) (v2 : Bool) (v3 : List Int), Pn (LpO Tryz.prog (sub (codeOf Tryz.prog 26) [1, 1, 1, 1, 1, 0, 1, 0, 0]) (st 81 [(0, lF5 o), (6, vI r1.2.1), (8, V.ow 0), (9, vB v2), (28, V.ow 1), (29, vI (r1.1.length : Int)), (30, vI v1)] [Blk.row 3 (List.map E3 v3) [], Blk.row 3 (List.map E3 r1.1) []] []) (fun (y : Bool × (List Int)) => (X.out 0, st 81 [(0, lF5 o), (6, vI r1.2.1), (8, V.ow 0), (9, vB y.1)] [Blk.row 3 (List.map E3 y.2) []] []))) (spec_l04Nos_l0 o r1 fuel v1 v2 v3)
  | 0, _, _, _ => Pn.none
  | fuel + 1, v1, v2, v3 => by
    unfold spec_l04Nos_l0
    exact
     Pn.bind (fun r3 h7 =>
     Pn.lo (fun s3 h8 =>
     Pn.bind (fun r4 h14 =>
     LpO.go [.wait 2, .mask [0, 6, 8, 9, 28, 29, 30, 31], .ren [0, 1], .join 3 (X.go) (st 81 [(0, lF5 o), (6, vI r1.2.1), (8, V.ow 0), (9, vB v2), (28, V.ow 1), (29, vI (r1.1.length : Int)), (30, vI v1)] [Blk.row 3 (List.map E3 v3) [], Blk.row 3 (List.map E3 r1.1) []] []), .wait 1, .mask [0, 6, 8, 9, 28, 29, 30], .ren [0, 1], .join 8 (X.go) (st 81 [(0, lF5 o), (6, vI r1.2.1), (8, V.ow 0), (9, vB r4.1), (28, V.ow 1), (29, vI (r1.1.length : Int)), (30, vI v1)] [Blk.row 3 (List.map E3 r4.2) [], Blk.row 3 (List.map E3 r1.1) []] []), .wait 3, .mask [0, 6, 8, 9, 28, 29, 30], .ren [0, 1]] (p := [HT Tryz.prog (sub (codeOf Tryz.prog 26) [1, 1, 1, 1, 1, 0, 1, 0, 0, 1, 0]) (st 81 [(0, lF5 o), (6, vI r1.2.1), (8, V.ow 0), (9, vB v2), (28, V.ow 1), (29, vI (r1.1.length : Int)), (30, vI v1), (31, vB (decide (v1 < (r1.1.length : Int))))] [Blk.row 3 (List.map E3 v3) [], Blk.row 3 (List.map E3 r1.1) []] []) (X.go) (st 81 [(0, lF5 o), (6, vI r1.2.1), (8, V.ow 0), (9, vB v2), (28, V.ow 1), (29, vI (r1.1.length : Int)), (30, vI v1)] [Blk.row 3 (List.map E3 v3) [], Blk.row 3 (List.map E3 r1.1) []] []),HT Tryz.prog (sub (codeOf Tryz.prog 26) [1, 1, 1, 1, 1, 0, 1, 0, 0, 1, 1, 0]) (st 81 [(0, lF5 o), (6, vI r1.2.1), (8, V.ow 0), (9, vB v2), (28, V.ow 1), (29, vI (r1.1.length : Int)), (30, vI v1)] [Blk.row 3 (List.map E3 v3) [], Blk.row 3 (List.map E3 r1.1) []] []) (X.go) (st 81 [(0, lF5 o), (6, vI r1.2.1), (8, V.ow 0), (9, vB r4.1), (28, V.ow 1), (29, vI (r1.1.length : Int)), (30, vI v1)] [Blk.row 3 (List.map E3 r4.2) [], Blk.row 3 (List.map E3 r1.1) []] [])]) (by kernel_rfl) (cj ((spec_l04Nos_c3_ok o r1 v1 v2 v3 r3 h7).at h8 :) (cj1 (spec_l04Nos_c4_ok o r1 v1 v2 v3 r4 h14))) (spec_l04Nos_l0_ok o r1 fuel (i64 (v1 + 1)) r4.1 r4.2))) (fun s4 h9 =>
     Pn.some (LpO.out [.wait 2, .mask [0, 6, 8, 9, 28, 29, 30, 31], .ren [0, 1], .join 3 (X.out 0) (st 81 [(0, lF5 o), (6, vI r1.2.1), (8, V.ow 0), (9, vB v2)] [Blk.row 3 (List.map E3 v3) []] []), .wait 1, .mask [0, 6, 8, 9], .ren [0]] (p := [HT Tryz.prog (sub (codeOf Tryz.prog 26) [1, 1, 1, 1, 1, 0, 1, 0, 0, 1, 0]) (st 81 [(0, lF5 o), (6, vI r1.2.1), (8, V.ow 0), (9, vB v2), (28, V.ow 1), (29, vI (r1.1.length : Int)), (30, vI v1), (31, vB (decide (v1 < (r1.1.length : Int))))] [Blk.row 3 (List.map E3 v3) [], Blk.row 3 (List.map E3 r1.1) []] []) (X.out 0) (st 81 [(0, lF5 o), (6, vI r1.2.1), (8, V.ow 0), (9, vB v2)] [Blk.row 3 (List.map E3 v3) []] [])]) (by kernel_rfl) (show X.out 0 ≠ X.go from nofun) (cj1 ((spec_l04Nos_c3_ok o r1 v1 v2 v3 r3 h7).at h9 :)))))
def spec_l04Nos_c6 (r5 : Bool × (List Int)) (r6 : (List Int) × Int × Bool) : Option (Lo Unit Unit) :=
 if r6.2.2 = true then
 if ((r6.1.length : Int) == 0) = true then
 some (.ret ())
 else
 some (.out ())
 else
 some (.ret ())
theorem spec_l04Nos_c6_ok (r5 : Bool × (List Int)) (r6 : (List Int) × Int × Bool) : Pn (JnO Tryz.prog (sub (codeOf Tryz.prog 26) [1, 1, 1, 1, 1, 1, 0, 1, 0, 1, 0]) (st 81 [(8, V.ow 0), (12, V.ow 1), (13, vI r6.2.1), (14, vB r6.2.2)] [Blk.row 3 (List.map E3 r5.2) [], Blk.row 3 (List.map E3 r6.1) []] []) (fun (y : Lo Unit Unit) => Lo.elim y (fun s => (X.go, st 81 [(8, V.ow 0), (12, V.ow 1), (13, vI r6.2.1)] [Blk.row 3 (List.map E3 r5.2) [], Blk.row 3 (List.map E3 r6.1) []] [])) (fun s => (X.ret, st 81 [(2, V.nl 3), (3, vI 0), (4, vB false)] [] [])))) (spec_l04Nos_c6 r5 r6) := by
  unfold spec_l04Nos_c6
  exact
   Pn.ite (fun h18 =>
   Pn.ite (fun h19 =>
   Pn.some (JnO.of [bF, bF, .nm 53 (vI (r6.1.length : Int)), bF, bF, bT, .wait 3, .mask [2, 3, 4], .ren []] (p := [(!r6.2.2) = false,(!r6.2.2) = false,vI ((List.map E3 r6.1).length : Int) = vI (r6.1.length : Int),(!r6.2.2) = false,(!r6.2.2) = false,((r6.1.length : Int) == 0) = true]) (by kernel_rfl) (cj (nf h18) (cj (nf h18) (cj (len_nm _ _) (cj (nf h18) (cj (nf h18) (cj1 h19)))))))) (fun h19 =>
   Pn.some (JnO.of [bF, bF, .nm 53 (vI (r6.1.length : Int)), bF, bF, bF, .mask [8, 12, 13], .ren [0, 1]] (p := [(!r6.2.2) = false,(!r6.2.2) = false,vI ((List.map E3 r6.1).length : Int) = vI (r6.1.length : Int),(!r6.2.2) = false,(!r6.2.2) = false,((r6.1.length : Int) == 0) = false]) (by kernel_rfl) (cj (nf h18) (cj (nf h18) (cj (len_nm _ _) (cj (nf h18) (cj (nf h18) (cj1 h19))))))))) (fun h18 =>
   Pn.some (JnO.of [bT, bT, bT, bT, bT, .wait 3, .mask [2, 3, 4], .ren []] (p := [(!r6.2.2) = true,(!r6.2.2) = true,(!r6.2.2) = true,(!r6.2.2) = true,true = true]) (by kernel_rfl) (cj (nt h18) (cj (nt h18) (cj (nt h18) (cj (nt h18) (cj1 rfl)))))))
def spec_l04Nos_c8 (r6 : (List Int) × Int × Bool) (v4 : Int) (v5 : List Int) : Option (Lo Unit Unit) :=
 if (decide (v4 < (r6.1.length : Int))) = true then
 some (.out ())
 else
 some (.ret ())
theorem spec_l04Nos_c8_ok (r6 : (List Int) × Int × Bool) (v4 : Int) (v5 : List Int) : Pn (JnO Tryz.prog (sub (codeOf Tryz.prog 26) [1, 1, 1, 1, 1, 1, 0, 1, 0, 1, 1, 0, 1, 0, 0, 1, 0]) (st 81 [(8, V.ow 0), (13, vI r6.2.1), (56, V.ow 1), (57, vI (r6.1.length : Int)), (58, vI v4), (59, vB (decide (v4 < (r6.1.length : Int))))] [Blk.row 3 (List.map E3 v5) [], Blk.row 3 (List.map E3 r6.1) []] []) (fun (y : Lo Unit Unit) => Lo.elim y (fun s => (X.go, st 81 [(8, V.ow 0), (13, vI r6.2.1), (56, V.ow 1), (57, vI (r6.1.length : Int)), (58, vI v4)] [Blk.row 3 (List.map E3 v5) [], Blk.row 3 (List.map E3 r6.1) []] [])) (fun s => (X.out 2, st 81 [(8, V.ow 0), (13, vI r6.2.1)] [Blk.row 3 (List.map E3 v5) []] [])))) (spec_l04Nos_c8 r6 v4 v5) := by
  unfold spec_l04Nos_c8
  exact
   Pn.ite (fun h23 =>
   Pn.some (JnO.of [bT, .mask [8, 13, 56, 57, 58], .ren [0, 1]] (p := [(decide (v4 < (r6.1.length : Int))) = true]) (by kernel_rfl) (cj1 h23))) (fun h23 =>
   Pn.some (JnO.of [bF, .mask [8, 13], .ren [0]] (p := [(decide (v4 < (r6.1.length : Int))) = false]) (by kernel_rfl) (cj1 h23)))
def spec_l04Nos_l1 (r6 : (List Int) × Int × Bool) : Nat → Int → (List Int) → Option ((List Int))
  | 0, _, _ => none
  | fuel + 1, v4, v5 =>
   (spec_l04Nos_c8 r6 v4 v5).bind fun r8 =>
   Lo.elim r8 (fun s7 =>
   if (decide (0 ≤ v4)) = true then
   (r6.1[v4.toNat]?).bind fun x2 =>
   if (capOk (v5.length + 1)) = true then
   spec_l04Nos_l1 r6 fuel (i64 (v4 + 1)) (v5 ++ [i64 (x2 + 64)])
   else none
   else none) (fun s8 =>
   some v5)
theorem spec_l04Nos_l1_ok (r6 : (List Int) × Int × Bool) : ∀ (fuel : Nat) (v4 : Int) (v5 : List Int), Pn (LpO Tryz.prog (sub (codeOf Tryz.prog 26) [1, 1, 1, 1, 1, 1, 0, 1, 0, 1, 1, 0, 1, 0, 0]) (st 81 [(8, V.ow 0), (13, vI r6.2.1), (56, V.ow 1), (57, vI (r6.1.length : Int)), (58, vI v4)] [Blk.row 3 (List.map E3 v5) [], Blk.row 3 (List.map E3 r6.1) []] []) (fun (y : (List Int)) => (X.out 2, st 81 [(8, V.ow 0), (13, vI r6.2.1)] [Blk.row 3 (List.map E3 y) []] []))) (spec_l04Nos_l1 r6 fuel v4 v5)
  | 0, _, _ => Pn.none
  | fuel + 1, v4, v5 => by
    unfold spec_l04Nos_l1
    exact
     Pn.bind (fun r8 h24 =>
     Pn.lo (fun s7 h25 =>
     Pn.ite (fun h27 =>
     Pn.bind (fun x2 h28 =>
     Pn.ite (fun h29 =>
     LpO.go [.wait 2, .mask [8, 13, 56, 57, 58, 59], .ren [0, 1], .join 3 (X.go) (st 81 [(8, V.ow 0), (13, vI r6.2.1), (56, V.ow 1), (57, vI (r6.1.length : Int)), (58, vI v4)] [Blk.row 3 (List.map E3 v5) [], Blk.row 3 (List.map E3 r6.1) []] []), .el (E3 x2), .cp [vI (i64 (x2 + 64))], .nb 3 (.row 3 (List.map E3 (v5 ++ [i64 (x2 + 64)])) []), .wait 4, .mask [8, 13, 56, 57, 58], .ren [3, 1]] (p := [HT Tryz.prog (sub (codeOf Tryz.prog 26) [1, 1, 1, 1, 1, 1, 0, 1, 0, 1, 1, 0, 1, 0, 0, 1, 0]) (st 81 [(8, V.ow 0), (13, vI r6.2.1), (56, V.ow 1), (57, vI (r6.1.length : Int)), (58, vI v4), (59, vB (decide (v4 < (r6.1.length : Int))))] [Blk.row 3 (List.map E3 v5) [], Blk.row 3 (List.map E3 r6.1) []] []) (X.go) (st 81 [(8, V.ow 0), (13, vI r6.2.1), (56, V.ow 1), (57, vI (r6.1.length : Int)), (58, vI v4)] [Blk.row 3 (List.map E3 v5) [], Blk.row 3 (List.map E3 r6.1) []] []),(0 : Int) ≤ v4,(v4 : Int) < ((List.map E3 r6.1).length : Int),look [] v4.toNat = none,(List.map E3 r6.1)[v4.toNat]? = some (E3 x2),[vI (i64 (x2 + 64))] = [vI (i64 (x2 + 64))],[vI (i64 (x2 + 64))].all V.flatE = true,(List.map E3 v5).length + [vI (i64 (x2 + 64))].length ≤ 9223372036854775807,((List.map E3 v5).length + [vI (i64 (x2 + 64))].length) * 8 ≤ 140737488355328,Blk.row 3 ((List.map E3 v5) ++ [vI (i64 (x2 + 64))]) [] = Blk.row 3 (List.map E3 (v5 ++ [i64 (x2 + 64)])) []]) (by kernel_rfl) (cj ((spec_l04Nos_c8_ok r6 v4 v5 r8 h24).at h25 :) (cj (od h27) (cj (map_ltN (od h27) h28) (cj rfl (cj (map_get h28) (cj rfl (cj rfl (cj (cap1 (capN (by simp) h29)) (cj (cap2 (capN (by simp) h29) (by decide)) (cj1 (nb_app E3 v5 [i64 (x2 + 64)]))))))))))) (spec_l04Nos_l1_ok r6 fuel (i64 (v4 + 1)) (v5 ++ [i64 (x2 + 64)]))) (fun h29 =>
     Pn.none))) (fun h27 =>
     Pn.none)) (fun s8 h26 =>
     Pn.some (LpO.out [.wait 2, .mask [8, 13, 56, 57, 58, 59], .ren [0, 1], .join 3 (X.out 2) (st 81 [(8, V.ow 0), (13, vI r6.2.1)] [Blk.row 3 (List.map E3 v5) []] []), .wait 1, .mask [8, 13], .ren [0]] (p := [HT Tryz.prog (sub (codeOf Tryz.prog 26) [1, 1, 1, 1, 1, 1, 0, 1, 0, 1, 1, 0, 1, 0, 0, 1, 0]) (st 81 [(8, V.ow 0), (13, vI r6.2.1), (56, V.ow 1), (57, vI (r6.1.length : Int)), (58, vI v4), (59, vB (decide (v4 < (r6.1.length : Int))))] [Blk.row 3 (List.map E3 v5) [], Blk.row 3 (List.map E3 r6.1) []] []) (X.out 2) (st 81 [(8, V.ow 0), (13, vI r6.2.1)] [Blk.row 3 (List.map E3 v5) []] [])]) (by kernel_rfl) (show X.out 2 ≠ X.go from nofun) (cj1 ((spec_l04Nos_c8_ok r6 v4 v5 r8 h24).at h26 :)))))
def spec_l04Nos_c5 (o : List Int) (r1 : (List Int) × Int × Bool) (r5 : Bool × (List Int)) : Option (Lo (Int × (List Int)) Unit) :=
 if r5.1 = true then
 (spec_GetBits o r1.2.1).bind fun r6 =>
 (spec_l04Nos_c6 r5 r6).bind fun r7 =>
 Lo.elim r7 (fun s5 =>
 (spec_l04Nos_l1 r6 FUEL 0 r5.2).bind fun r9 =>
 some (.out (r6.2.1, r9))) (fun s6 =>
 some (.ret ()))
 else
 some (.out (r1.2.1, r5.2))
theorem spec_l04Nos_c5_ok (o : List Int) (r1 : (List Int) × Int × Bool) (r5 : Bool × (List Int)) : Pn (JnO Tryz.prog (sub (codeOf Tryz.prog 26) [1, 1, 1, 1, 1, 1, 0]) (st 81 [(0, lF5 o), (6, vI r1.2.1), (8, V.ow 0), (9, vB r5.1)] [Blk.row 3 (List.map E3 r5.2) []] []) (fun (y : Lo (Int × (List Int)) Unit) => Lo.elim y (fun s => (X.go, st 81 [(6, vI s.1), (8, V.ow 0)] [Blk.row 3 (List.map E3 s.2) []] [])) (fun s => (X.ret, st 81 [(2, V.nl 3), (3, vI 0), (4, vB false)] [] [])))) (spec_l04Nos_c5 o r1 r5) := by
  unfold spec_l04Nos_c5
  exact
   Pn.ite (fun h16 =>
   Pn.bind (fun r6 h17 =>
   Pn.bind (fun r7 h20 =>
   Pn.lo (fun s5 h21 =>
   Pn.bind (fun r9 h30 =>
   Pn.some (JnO.of [bT, .call [] (V.tup [E55 r6.1, E3 r6.2.1, E4 r6.2.2]) [], .wait 8, .mask [8, 12, 13, 14], .ren [0, 1], .join 7 (X.go) (st 81 [(8, V.ow 0), (12, V.ow 1), (13, vI r6.2.1)] [Blk.row 3 (List.map E3 r5.2) [], Blk.row 3 (List.map E3 r6.1) []] []), .wait 2, .nm 57 (vI (r6.1.length : Int)), .wait 2, .mask [8, 13, 56, 57, 58], .ren [0, 1], .loop (X.out 2) (st 81 [(8, V.ow 0), (13, vI r6.2.1)] [Blk.row 3 (List.map E3 r9) []] []), .wait 3, .mask [6, 8], .ren [0]] (p := [r5.1 = true,Fn Tryz.prog 52 [(false, E31 o), (false, E3 r1.2.1)] (V.tup [E55 r6.1, E3 r6.2.1, E4 r6.2.2]) [],(true || ((V.tup [E55 r6.1, E3 r6.2.1, E4 r6.2.2]).nv && nvL [])) = true,HT Tryz.prog (sub (codeOf Tryz.prog 26) [1, 1, 1, 1, 1, 1, 0, 1, 0, 1, 0]) (st 81 [(8, V.ow 0), (12, V.ow 1), (13, vI r6.2.1), (14, vB r6.2.2)] [Blk.row 3 (List.map E3 r5.2) [], Blk.row 3 (List.map E3 r6.1) []] []) (X.go) (st 81 [(8, V.ow 0), (12, V.ow 1), (13, vI r6.2.1)] [Blk.row 3 (List.map E3 r5.2) [], Blk.row 3 (List.map E3 r6.1) []] []),vI ((List.map E3 r6.1).length : Int) = vI (r6.1.length : Int),Loop Tryz.prog (sub (codeOf Tryz.prog 26) [1, 1, 1, 1, 1, 1, 0, 1, 0, 1, 1, 0, 1, 0, 0]) (st 81 [(8, V.ow 0), (13, vI r6.2.1), (56, V.ow 1), (57, vI (r6.1.length : Int)), (58, vI 0)] [Blk.row 3 (List.map E3 r5.2) [], Blk.row 3 (List.map E3 r6.1) []] []) (X.out 2) (st 81 [(8, V.ow 0), (13, vI r6.2.1)] [Blk.row 3 (List.map E3 r9) []] [])]) (by kernel_rfl) (cj h16 (cj (spec_GetBits_ok o r1.2.1 r6 h17) (cj rfl (cj ((spec_l04Nos_c6_ok r5 r6 r7 h20).at h21 :) (cj (len_nm _ _) (cj1 (spec_l04Nos_l1_ok r6 FUEL 0 r5.2 r9 h30)))))))))) (fun s6 h22 =>
   Pn.some (JnO.of [bT, .call [] (V.tup [E55 r6.1, E3 r6.2.1, E4 r6.2.2]) [], .wait 8, .mask [8, 12, 13, 14], .ren [0, 1], .join 7 (X.ret) (st 81 [(2, V.nl 3), (3, vI 0), (4, vB false)] [] []), .wait 1, .mask [2, 3, 4], .ren []] (p := [r5.1 = true,Fn Tryz.prog 52 [(false, E31 o), (false, E3 r1.2.1)] (V.tup [E55 r6.1, E3 r6.2.1, E4 r6.2.2]) [],(true || ((V.tup [E55 r6.1, E3 r6.2.1, E4 r6.2.2]).nv && nvL [])) = true,HT Tryz.prog (sub (codeOf Tryz.prog 26) [1, 1, 1, 1, 1, 1, 0, 1, 0, 1, 0]) (st 81 [(8, V.ow 0), (12, V.ow 1), (13, vI r6.2.1), (14, vB r6.2.2)] [Blk.row 3 (List.map E3 r5.2) [], Blk.row 3 (List.map E3 r6.1) []] []) (X.ret) (st 81 [(2, V.nl 3), (3, vI 0), (4, vB false)] [] [])]) (by kernel_rfl) (cj h16 (cj (spec_GetBits_ok o r1.2.1 r6 h17) (cj rfl (cj1 ((spec_l04Nos_c6_ok r5 r6 r7 h20).at h22 :)))))))))) (fun h16 =>
   Pn.some (JnO.of [bF, .mask [6, 8], .ren [0]] (p := [r5.1 = false]) (by kernel_rfl) (cj1 h16)))
def spec_l04Nos_c11 (s9 : Int × (List Int)) (v6 : Int) : Option (Lo Unit Unit) :=
 if (decide (v6 < (s9.2.length : Int))) = true then
 some (.out ())
 else
 some (.ret ())
theorem spec_l04Nos_c11_ok (s9 : Int × (List Int)) (v6 : Int) : Pn (JnO Tryz.prog (sub (codeOf Tryz.prog 26) [1, 1, 1, 1, 1, 1, 1, 0, 1, 0, 0, 1, 0]) (st 81 [(6, vI s9.1), (8, V.ow 0), (69, V.ow 0), (70, vI (s9.2.length : Int)), (71, vI v6), (72, vB (decide (v6 < (s9.2.length : Int))))] [Blk.row 3 (List.map E3 s9.2) []] []) (fun (y : Lo Unit Unit) => Lo.elim y (fun s => (X.go, st 81 [(6, vI s9.1), (8, V.ow 0), (69, V.ow 0), (70, vI (s9.2.length : Int)), (71, vI v6)] [Blk.row 3 (List.map E3 s9.2) []] [])) (fun s => (X.out 4, st 81 [(6, vI s9.1), (8, V.ow 0)] [Blk.row 3 (List.map E3 s9.2) []] [])))) (spec_l04Nos_c11 s9 v6) := by
  unfold spec_l04Nos_c11
  exact
   Pn.ite (fun h34 =>
   Pn.some (JnO.of [bT, .mask [6, 8, 69, 70, 71], .ren [0]] (p := [(decide (v6 < (s9.2.length : Int))) = true]) (by kernel_rfl) (cj1 h34))) (fun h34 =>
   Pn.some (JnO.of [bF, .mask [6, 8], .ren [0]] (p := [(decide (v6 < (s9.2.length : Int))) = false]) (by kernel_rfl) (cj1 h34)))
def spec_l04Nos_c12 (s9 : Int × (List Int)) (v6 : Int) : Option (Lo Unit Unit) :=
 if (decide (0 ≤ v6)) = true then
 (s9.2[v6.toNat]?).bind fun x3 =>
 (spec_FieldKind x3).bind fun r12 =>
 if (r12 == 0) = true then
 some (.ret ())
 else
 some (.out ())
 else none
theorem spec_l04Nos_c12_ok (s9 : Int × (List Int)) (v6 : Int) : Pn (JnO Tryz.prog (sub (codeOf Tryz.prog 26) [1, 1, 1, 1, 1, 1, 1, 0, 1, 0, 0, 1, 1, 0]) (st 81 [(6, vI s9.1), (8, V.ow 0), (69, V.ow 0), (70, vI (s9.2.length : Int)), (71, vI v6)] [Blk.row 3 (List.map E3 s9.2) []] []) (fun (y : Lo Unit Unit) => Lo.elim y (fun s => (X.go, st 81 [(6, vI s9.1), (8, V.ow 0), (69, V.ow 0), (70, vI (s9.2.length : Int)), (71, vI v6)] [Blk.row 3 (List.map E3 s9.2) []] [])) (fun s => (X.ret, st 81 [(2, V.nl 3), (3, vI 0), (4, vB false)] [] [])))) (spec_l04Nos_c12 s9 v6) := by
  unfold spec_l04Nos_c12
  exact
   Pn.ite (fun h38 =>
   Pn.bind (fun x3 h39 =>
   Pn.bind (fun r12 h40 =>
   Pn.ite (fun h41 =>
   Pn.some (JnO.of [.el (E3 x3), .call [] (E3 r12) [], bT, .wait 3, .mask [2, 3, 4], .ren []] (p := [(0 : Int) ≤ v6,(v6 : Int) < ((List.map E3 s9.2).length : Int),look [] v6.toNat = none,(List.map E3 s9.2)[v6.toNat]? = some (E3 x3),Fn Tryz.prog 53 [(false, E3 x3)] (E3 r12) [],(true || ((E3 r12).nv && nvL [])) = true,(r12 == 0) = true]) (by kernel_rfl) (cj (od h38) (cj (map_ltN (od h38) h39) (cj rfl (cj (map_get h39) (cj (spec_FieldKind_ok x3 r12 h40) (cj rfl (cj1 h41))))))))) (fun h41 =>
   Pn.some (JnO.of [.el (E3 x3), .call [] (E3 r12) [], bF, .mask [6, 8, 69, 70, 71], .ren [0]] (p := [(0 : Int) ≤ v6,(v6 : Int) < ((List.map E3 s9.2).length : Int),look [] v6.toNat = none,(List.map E3 s9.2)[v6.toNat]? = some (E3 x3),Fn Tryz.prog 53 [(false, E3 x3)] (E3 r12) [],(true || ((E3 r12).nv && nvL [])) = true,(r12 == 0) = false]) (by kernel_rfl) (cj (od h38) (cj (map_ltN (od h38) h39) (cj rfl (cj (map_get h39) (cj (spec_FieldKind_ok x3 r12 h40) (cj rfl (cj1 h41)))))))))))) (fun h38 =>
   Pn.none)
def spec_l04Nos_l2 (s9 : Int × (List Int)) : Nat → Int → Option (Lo Unit Unit)
  | 0, _ => none
  | fuel + 1, v6 =>
   (spec_l04Nos_c11 s9 v6).bind fun r11 =>
   Lo.elim r11 (fun s11 =>
   (spec_l04Nos_c12 s9 v6).bind fun r13 =>
   Lo.elim r13 (fun s13 =>
   spec_l04Nos_l2 s9 fuel (i64 (v6 + 1))) (fun s14 =>
   some (.ret ()))) (fun s12 =>
   some (.out ()))
theorem spec_l04Nos_l2_ok (s9 : Int × (List Int)) : ∀ (fuel : Nat) (v6 : Int), Pn (LpO Tryz.prog (sub (codeOf Tryz.prog 26) [1, 1, 1, 1, 1, 1, 1, 0, 1, 0, 0]) (st 81 [(6, vI s9.1), (8, V.ow 0), (69, V.ow 0), (70, vI (s9.2.length : Int)), (71, vI v6)] [Blk.row 3 (List.map E3 s9.2) []] []) (fun (y : Lo Unit Unit) => Lo.elim y (fun s => (X.out 4, st 81 [(6, vI s9.1), (8, V.ow 0)] [Blk.row 3 (List.map E3 s9.2) []] [])) (fun s => (X.ret, st 81 [(2, V.nl 3), (3, vI 0), (4, vB false)] [] [])))) (spec_l04Nos_l2 s9 fuel v6)
  | 0, _ => Pn.none
  | fuel + 1, v6 => by
    unfold spec_l04Nos_l2
    exact
     Pn.bind (fun r11 h35 =>
     Pn.lo (fun s11 h36 =>
     Pn.bind (fun r13 h42 =>
     Pn.lo (fun s13 h43 =>
     LpO.go [.wait 2, .mask [6, 8, 69, 70, 71, 72], .ren [0], .join 3 (X.go) (st 81 [(6, vI s9.1), (8, V.ow 0), (69, V.ow 0), (70, vI (s9.2.length : Int)), (71, vI v6)] [Blk.row 3 (List.map E3 s9.2) []] []), .wait 1, .mask [6, 8, 69, 70, 71], .ren [0], .join 10 (X.go) (st 81 [(6, vI s9.1), (8, V.ow 0), (69, V.ow 0), (70, vI (s9.2.length : Int)), (71, vI v6)] [Blk.row 3 (List.map E3 s9.2) []] []), .wait 3, .mask [6, 8, 69, 70, 71], .ren [0]] (p := [HT Tryz.prog (sub (codeOf Tryz.prog 26) [1, 1, 1, 1, 1, 1, 1, 0, 1, 0, 0, 1, 0]) (st 81 [(6, vI s9.1), (8, V.ow 0), (69, V.ow 0), (70, vI (s9.2.length : Int)), (71, vI v6), (72, vB (decide (v6 < (s9.2.length : Int))))] [Blk.row 3 (List.map E3 s9.2) []] []) (X.go) (st 81 [(6, vI s9.1), (8, V.ow 0), (69, V.ow 0), (70, vI (s9.2.length : Int)), (71, vI v6)] [Blk.row 3 (List.map E3 s9.2) []] []),HT Tryz.prog (sub (codeOf Tryz.prog 26) [1, 1, 1, 1, 1, 1, 1, 0, 1, 0, 0, 1, 1, 0]) (st 81 [(6, vI s9.1), (8, V.ow 0), (69, V.ow 0), (70, vI (s9.2.length : Int)), (71, vI v6)] [Blk.row 3 (List.map E3 s9.2) []] []) (X.go) (st 81 [(6, vI s9.1), (8, V.ow 0), (69, V.ow 0), (70, vI (s9.2.length : Int)), (71, vI v6)] [Blk.row 3 (List.map E3 s9.2) []] [])]) (by kernel_rfl) (cj ((spec_l04Nos_c11_ok s9 v6 r11 h35).at h36 :) (cj1 ((spec_l04Nos_c12_ok s9 v6 r13 h42).at h43 :))) (spec_l04Nos_l2_ok s9 fuel (i64 (v6 + 1)))) (fun s14 h44 =>
     Pn.some (LpO.out [.wait 2, .mask [6, 8, 69, 70, 71, 72], .ren [0], .join 3 (X.go) (st 81 [(6, vI s9.1), (8, V.ow 0), (69, V.ow 0), (70, vI (s9.2.length : Int)), (71, vI v6)] [Blk.row 3 (List.map E3 s9.2) []] []), .wait 1, .mask [6, 8, 69, 70, 71], .ren [0], .join 10 (X.ret) (st 81 [(2, V.nl 3), (3, vI 0), (4, vB false)] [] []), .wait 1, .mask [2, 3, 4], .ren []] (p := [HT Tryz.prog (sub (codeOf Tryz.prog 26) [1, 1, 1, 1, 1, 1, 1, 0, 1, 0, 0, 1, 0]) (st 81 [(6, vI s9.1), (8, V.ow 0), (69, V.ow 0), (70, vI (s9.2.length : Int)), (71, vI v6), (72, vB (decide (v6 < (s9.2.length : Int))))] [Blk.row 3 (List.map E3 s9.2) []] []) (X.go) (st 81 [(6, vI s9.1), (8, V.ow 0), (69, V.ow 0), (70, vI (s9.2.length : Int)), (71, vI v6)] [Blk.row 3 (List.map E3 s9.2) []] []),HT Tryz.prog (sub (codeOf Tryz.prog 26) [1, 1, 1, 1, 1, 1, 1, 0, 1, 0, 0, 1, 1, 0]) (st 81 [(6, vI s9.1), (8, V.ow 0), (69, V.ow 0), (70, vI (s9.2.length : Int)), (71, vI v6)] [Blk.row 3 (List.map E3 s9.2) []] []) (X.ret) (st 81 [(2, V.nl 3), (3, vI 0), (4, vB false)] [] [])]) (by kernel_rfl) (show X.ret ≠ X.go from nofun) (cj ((spec_l04Nos_c11_ok s9 v6 r11 h35).at h36 :) (cj1 ((spec_l04Nos_c12_ok s9 v6 r13 h42).at h44 :))))))) (fun s12 h37 =>
     Pn.some (LpO.out [.wait 2, .mask [6, 8, 69, 70, 71, 72], .ren [0], .join 3 (X.out 4) (st 81 [(6, vI s9.1), (8, V.ow 0)] [Blk.row 3 (List.map E3 s9.2) []] []), .wait 1, .mask [6, 8], .ren [0]] (p := [HT Tryz.prog (sub (codeOf Tryz.prog 26) [1, 1, 1, 1, 1, 1, 1, 0, 1, 0, 0, 1, 0]) (st 81 [(6, vI s9.1), (8, V.ow 0), (69, V.ow 0), (70, vI (s9.2.length : Int)), (71, vI v6), (72, vB (decide (v6 < (s9.2.length : Int))))] [Blk.row 3 (List.map E3 s9.2) []] []) (X.out 4) (st 81 [(6, vI s9.1), (8, V.ow 0)] [Blk.row 3 (List.map E3 s9.2) []] [])]) (by kernel_rfl) (show X.out 4 ≠ X.go from nofun) (cj1 ((spec_l04Nos_c11_ok s9 v6 r11 h35).at h37 :)))))
def spec_l04Nos (o : List Int) : Option ((List Int) × Int × Bool) :=
 (spec_GetBits o 2).bind fun r1 =>
 (spec_l04Nos_c0 o r1).bind fun r2 =>
 Lo.elim r2 (fun s1 =>
 (spec_l04Nos_l0 o r1 FUEL 0 false []).bind fun r5 =>
 (spec_l04Nos_c5 o r1 r5).bind fun r10 =>
 Lo.elim r10 (fun s9 =>
 (spec_l04Nos_l2 s9 FUEL 0).bind fun r14 =>
 Lo.elim r14 (fun s15 =>
 some (s9.2, s9.1, true)) (fun s16 =>
 some ([], 0, false))) (fun s10 =>
 some ([], 0, false))) (fun s2 =>
 some ([], 0, false))
theorem spec_l04Nos_ok (o : List Int) : Pn (fun y => Fn Tryz.prog 26 [(false, E31 o)] (V.tup [E55 y.1, E3 y.2.1, E4 y.2.2]) []) (spec_l04Nos o) := by
  unfold spec_l04Nos
  exact
   Pn.bind (fun r1 h1 =>
   Pn.bind (fun r2 h3 =>
   Pn.lo (fun s1 h4 =>
   Pn.bind (fun r5 h15 =>
   Pn.bind (fun r10 h31 =>
   Pn.lo (fun s9 h32 =>
   Pn.bind (fun r14 h45 =>
   Pn.lo (fun s15 h46 =>
   Pn.some (Fn.of [.call [] (V.tup [E55 r1.1, E3 r1.2.1, E4 r1.2.2]) [], .wait 8, .mask [0, 5, 6, 7], .ren [0], .join 7 (X.go) (st 81 [(0, lF5 o), (5, V.ow 0), (6, vI r1.2.1)] [Blk.row 3 (List.map E3 r1.1) []] []), .wait 5, .nm 29 (vI (r1.1.length : Int)), .wait 2, .mask [0, 6, 8, 9, 28, 29, 30], .ren [1, 0], .loop (X.out 0) (st 81 [(0, lF5 o), (6, vI r1.2.1), (8, V.ow 0), (9, vB r5.1)] [Blk.row 3 (List.map E3 r5.2) []] []), .wait 1, .mask [0, 6, 8, 9], .ren [0], .join 32 (X.go) (st 81 [(6, vI s9.1), (8, V.ow 0)] [Blk.row 3 (List.map E3 s9.2) []] []), .wait 2, .nm 70 (vI (s9.2.length : Int)), .wait 2, .mask [6, 8, 69, 70, 71], .ren [0], .loop (X.out 4) (st 81 [(6, vI s9.1), (8, V.ow 0)] [Blk.row 3 (List.map E3 s9.2) []] [])] (p := [Fn Tryz.prog 52 [(false, E31 o), (false, E3 2)] (V.tup [E55 r1.1, E3 r1.2.1, E4 r1.2.2]) [],(true || ((V.tup [E55 r1.1, E3 r1.2.1, E4 r1.2.2]).nv && nvL [])) = true,HT Tryz.prog (sub (codeOf Tryz.prog 26) [1, 1, 0]) (st 81 [(0, lF5 o), (5, V.ow 0), (6, vI r1.2.1), (7, vB r1.2.2)] [Blk.row 3 (List.map E3 r1.1) []] []) (X.go) (st 81 [(0, lF5 o), (5, V.ow 0), (6, vI r1.2.1)] [Blk.row 3 (List.map E3 r1.1) []] []),vI ((List.map E3 r1.1).length : Int) = vI (r1.1.length : Int),Loop Tryz.prog (sub (codeOf Tryz.prog 26) [1, 1, 1, 1, 1, 0, 1, 0, 0]) (st 81 [(0, lF5 o), (6, vI r1.2.1), (8, V.ow 0), (9, vB false), (28, V.ow 1), (29, vI (r1.1.length : Int)), (30, vI 0)] [Blk.row 3 ([] : List V) [], Blk.row 3 (List.map E3 r1.1) []] []) (X.out 0) (st 81 [(0, lF5 o), (6, vI r1.2.1), (8, V.ow 0), (9, vB r5.1)] [Blk.row 3 (List.map E3 r5.2) []] []),HT Tryz.prog (sub (codeOf Tryz.prog 26) [1, 1, 1, 1, 1, 1, 0]) (st 81 [(0, lF5 o), (6, vI r1.2.1), (8, V.ow 0), (9, vB r5.1)] [Blk.row 3 (List.map E3 r5.2) []] []) (X.go) (st 81 [(6, vI s9.1), (8, V.ow 0)] [Blk.row 3 (List.map E3 s9.2) []] []),vI ((List.map E3 s9.2).length : Int) = vI (s9.2.length : Int),Loop Tryz.prog (sub (codeOf Tryz.prog 26) [1, 1, 1, 1, 1, 1, 1, 0, 1, 0, 0]) (st 81 [(6, vI s9.1), (8, V.ow 0), (69, V.ow 0), (70, vI (s9.2.length : Int)), (71, vI 0)] [Blk.row 3 (List.map E3 s9.2) []] []) (X.out 4) (st 81 [(6, vI s9.1), (8, V.ow 0)] [Blk.row 3 (List.map E3 s9.2) []] [])]) (by kernel_rfl) (cj (spec_GetBits_ok o 2 r1 h1) (cj rfl (cj ((spec_l04Nos_c0_ok o r1 r2 h3).at h4 :) (cj (len_nm _ _) (cj (spec_l04Nos_l0_ok o r1 FUEL 0 false [] r5 h15) (cj ((spec_l04Nos_c5_ok o r1 r5 r10 h31).at h32 :) (cj (len_nm _ _) (cj1 ((spec_l04Nos_l2_ok s9 FUEL 0 r14 h45).at h46 :))))))))))) (fun s16 h47 =>
   Pn.some (Fn.of [.call [] (V.tup [E55 r1.1, E3 r1.2.1, E4 r1.2.2]) [], .wait 8, .mask [0, 5, 6, 7], .ren [0], .join 7 (X.go) (st 81 [(0, lF5 o), (5, V.ow 0), (6, vI r1.2.1)] [Blk.row 3 (List.map E3 r1.1) []] []), .wait 5, .nm 29 (vI (r1.1.length : Int)), .wait 2, .mask [0, 6, 8, 9, 28, 29, 30], .ren [1, 0], .loop (X.out 0) (st 81 [(0, lF5 o), (6, vI r1.2.1), (8, V.ow 0), (9, vB r5.1)] [Blk.row 3 (List.map E3 r5.2) []] []), .wait 1, .mask [0, 6, 8, 9], .ren [0], .join 32 (X.go) (st 81 [(6, vI s9.1), (8, V.ow 0)] [Blk.row 3 (List.map E3 s9.2) []] []), .wait 2, .nm 70 (vI (s9.2.length : Int)), .wait 2, .mask [6, 8, 69, 70, 71], .ren [0], .loop (X.ret) (st 81 [(2, V.nl 3), (3, vI 0), (4, vB false)] [] [])] (p := [Fn Tryz.prog 52 [(false, E31 o), (false, E3 2)] (V.tup [E55 r1.1, E3 r1.2.1, E4 r1.2.2]) [],(true || ((V.tup [E55 r1.1, E3 r1.2.1, E4 r1.2.2]).nv && nvL [])) = true,HT Tryz.prog (sub (codeOf Tryz.prog 26) [1, 1, 0]) (st 81 [(0, lF5 o), (5, V.ow 0), (6, vI r1.2.1), (7, vB r1.2.2)] [Blk.row 3 (List.map E3 r1.1) []] []) (X.go) (st 81 [(0, lF5 o), (5, V.ow 0), (6, vI r1.2.1)] [Blk.row 3 (List.map E3 r1.1) []] []),vI ((List.map E3 r1.1).length : Int) = vI (r1.1.length : Int),Loop Tryz.prog (sub (codeOf Tryz.prog 26) [1, 1, 1, 1, 1, 0, 1, 0, 0]) (st 81 [(0, lF5 o), (6, vI r1.2.1), (8, V.ow 0), (9, vB false), (28, V.ow 1), (29, vI (r1.1.length : Int)), (30, vI 0)] [Blk.row 3 ([] : List V) [], Blk.row 3 (List.map E3 r1.1) []] []) (X.out 0) (st 81 [(0, lF5 o), (6, vI r1.2.1), (8, V.ow 0), (9, vB r5.1)] [Blk.row 3 (List.map E3 r5.2) []] []),HT Tryz.prog (sub (codeOf Tryz.prog 26) [1, 1, 1, 1, 1, 1, 0]) (st 81 [(0, lF5 o), (6, vI r1.2.1), (8, V.ow 0), (9, vB r5.1)] [Blk.row 3 (List.map E3 r5.2) []] []) (X.go) (st 81 [(6, vI s9.1), (8, V.ow 0)] [Blk.row 3 (List.map E3 s9.2) []] []),vI ((List.map E3 s9.2).length : Int) = vI (s9.2.length : Int),Loop Tryz.prog (sub (codeOf Tryz.prog 26) [1, 1, 1, 1, 1, 1, 1, 0, 1, 0, 0]) (st 81 [(6, vI s9.1), (8, V.ow 0), (69, V.ow 0), (70, vI (s9.2.length : Int)), (71, vI 0)] [Blk.row 3 (List.map E3 s9.2) []] []) (X.ret) (st 81 [(2, V.nl 3), (3, vI 0), (4, vB false)] [] [])]) (by kernel_rfl) (cj (spec_GetBits_ok o 2 r1 h1) (cj rfl (cj ((spec_l04Nos_c0_ok o r1 r2 h3).at h4 :) (cj (len_nm _ _) (cj (spec_l04Nos_l0_ok o r1 FUEL 0 false [] r5 h15) (cj ((spec_l04Nos_c5_ok o r1 r5 r10 h31).at h32 :) (cj (len_nm _ _) (cj1 ((spec_l04Nos_l2_ok s9 FUEL 0 r14 h45).at h47 :))))))))))))) (fun s10 h33 =>
   Pn.some (Fn.of [.call [] (V.tup [E55 r1.1, E3 r1.2.1, E4 r1.2.2]) [], .wait 8, .mask [0, 5, 6, 7], .ren [0], .join 7 (X.go) (st 81 [(0, lF5 o), (5, V.ow 0), (6, vI r1.2.1)] [Blk.row 3 (List.map E3 r1.1) []] []), .wait 5, .nm 29 (vI (r1.1.length : Int)), .wait 2, .mask [0, 6, 8, 9, 28, 29, 30], .ren [1, 0], .loop (X.out 0) (st 81 [(0, lF5 o), (6, vI r1.2.1), (8, V.ow 0), (9, vB r5.1)] [Blk.row 3 (List.map E3 r5.2) []] []), .wait 1, .mask [0, 6, 8, 9], .ren [0], .join 32 (X.ret) (st 81 [(2, V.nl 3), (3, vI 0), (4, vB false)] [] [])] (p := [Fn Tryz.prog 52 [(false, E31 o), (false, E3 2)] (V.tup [E55 r1.1, E3 r1.2.1, E4 r1.2.2]) [],(true || ((V.tup [E55 r1.1, E3 r1.2.1, E4 r1.2.2]).nv && nvL [])) = true,HT Tryz.prog (sub (codeOf Tryz.prog 26) [1, 1, 0]) (st 81 [(0, lF5 o), (5, V.ow 0), (6, vI r1.2.1), (7, vB r1.2.2)] [Blk.row 3 (List.map E3 r1.1) []] []) (X.go) (st 81 [(0, lF5 o), (5, V.ow 0), (6, vI r1.2.1)] [Blk.row 3 (List.map E3 r1.1) []] []),vI ((List.map E3 r1.1).length : Int) = vI (r1.1.length : Int),Loop Tryz.prog (sub (codeOf Tryz.prog 26) [1, 1, 1, 1, 1, 0, 1, 0, 0]) (st 81 [(0, lF5 o), (6, vI r1.2.1), (8, V.ow 0), (9, vB false), (28, V.ow 1), (29, vI (r1.1.length : Int)), (30, vI 0)] [Blk.row 3 ([] : List V) [], Blk.row 3 (List.map E3 r1.1) []] []) (X.out 0) (st 81 [(0, lF5 o), (6, vI r1.2.1), (8, V.ow 0), (9, vB r5.1)] [Blk.row 3 (List.map E3 r5.2) []] []),HT Tryz.prog (sub (codeOf Tryz.prog 26) [1, 1, 1, 1, 1, 1, 0]) (st 81 [(0, lF5 o), (6, vI r1.2.1), (8, V.ow 0), (9, vB r5.1)] [Blk.row 3 (List.map E3 r5.2) []] []) (X.ret) (st 81 [(2, V.nl 3), (3, vI 0), (4, vB false)] [] [])]) (by kernel_rfl) (cj (spec_GetBits_ok o 2 r1 h1) (cj rfl (cj ((spec_l04Nos_c0_ok o r1 r2 h3).at h4 :) (cj (len_nm _ _) (cj (spec_l04Nos_l0_ok o r1 FUEL 0 false [] r5 h15) (cj1 ((spec_l04Nos_c5_ok o r1 r5 r10 h31).at h33 :)))))))))))) (fun s2 h5 =>
   Pn.some (Fn.of [.call [] (V.tup [E55 r1.1, E3 r1.2.1, E4 r1.2.2]) [], .wait 8, .mask [0, 5, 6, 7], .ren [0], .join 7 (X.ret) (st 81 [(2, V.nl 3), (3, vI 0), (4, vB false)] [] [])] (p := [Fn Tryz.prog 52 [(false, E31 o), (false, E3 2)] (V.tup [E55 r1.1, E3 r1.2.1, E4 r1.2.2]) [],(true || ((V.tup [E55 r1.1, E3 r1.2.1, E4 r1.2.2]).nv && nvL [])) = true,HT Tryz.prog (sub (codeOf Tryz.prog 26) [1, 1, 0]) (st 81 [(0, lF5 o), (5, V.ow 0), (6, vI r1.2.1), (7, vB r1.2.2)] [Blk.row 3 (List.map E3 r1.1) []] []) (X.ret) (st 81 [(2, V.nl 3), (3, vI 0), (4, vB false)] [] [])]) (by kernel_rfl) (cj (spec_GetBits_ok o 2 r1 h1) (cj rfl (cj1 ((spec_l04Nos_c0_ok o r1 r2 h3).at h5 :))))))))
def spec_FieldSize (no : Int) : Option (Int) :=
 if (no == 2) = true then
 some 19
 else
 if (no == 3) = true then
 some 6
 else
 if (no == 11) = true then
 some 6
 else
 if (no == 38) = true then
 some 6
 else
 if (no == 4) = true then
 some 12
 else
 if (no == 37) = true then
 some 12
 else
 if (no == 95) = true then
 some 12
 else
 if (no == 7) = true then
 some 10
 else
 if (no == 14) = true then
 some 4
 else
 if (no == 39) = true then
 some 2
 else
 if (no == 41) = true then
 some 8
 else
 if (no == 49) = true then
 some 3
 else
 if (no == 102) = true then
 some 20
 else
 if (no == 103) = true then
 some 20
 else
 if (no == 48) = true then
 some 60
 else
 if (no == 54) = true then
 some 60
 else
 some 0
theorem spec_FieldSize_ok (no : Int) : Pn (fun y => Fn Tryz.prog 54 [(false, E3 no)] (E3 y) []) (spec_FieldSize no) := by
  unfold spec_FieldSize
  exact
   Pn.ite (fun h1 =>
   Pn.some (Fn.of [bT] (p := [(no == 2) = true]) (by kernel_rfl) (cj1 h1))) (fun h1 =>
   Pn.ite (fun h2 =>
   Pn.some (Fn.of [bF, bT, bT] (p := [(no == 2) = false,(no == 3) = true,(no == 3) = true]) (by kernel_rfl) (cj h1 (cj h2 (cj1 h2))))) (fun h2 =>
   Pn.ite (fun h3 =>
   Pn.some (Fn.of [bF, bF, bT, bT] (p := [(no == 2) = false,(no == 3) = false,(no == 11) = true,(no == 11) = true]) (by kernel_rfl) (cj h1 (cj h2 (cj h3 (cj1 h3)))))) (fun h3 =>
   Pn.ite (fun h4 =>
   Pn.some (Fn.of [bF, bF, bF, bT] (p := [(no == 2) = false,(no == 3) = false,(no == 11) = false,(no == 38) = true]) (by kernel_rfl) (cj h1 (cj h2 (cj h3 (cj1 h4)))))) (fun h4 =>
   Pn.ite (fun h5 =>
   Pn.some (Fn.of [bF, bF, bF, bF, bT, bT] (p := [(no == 2) = false,(no == 3) = false,(no == 11) = false,(no == 38) = false,(no == 4) = true,(no == 4) = true]) (by kernel_rfl) (cj h1 (cj h2 (cj h3 (cj h4 (cj h5 (cj1 h5)))))))) (fun h5 =>
   Pn.ite (fun h6 =>
   Pn.some (Fn.of [bF, bF, bF, bF, bF, bT, bT] (p := [(no == 2) = false,(no == 3) = false,(no == 11) = false,(no == 38) = false,(no == 4) = false,(no == 37) = true,(no == 37) = true]) (by kernel_rfl) (cj h1 (cj h2 (cj h3 (cj h4 (cj h5 (cj h6 (cj1 h6))))))))) (fun h6 =>
   Pn.ite (fun h7 =>
   Pn.some (Fn.of [bF, bF, bF, bF, bF, bF, bT] (p := [(no == 2) = false,(no == 3) = false,(no == 11) = false,(no == 38) = false,(no == 4) = false,(no == 37) = false,(no == 95) = true]) (by kernel_rfl) (cj h1 (cj h2 (cj h3 (cj h4 (cj h5 (cj h6 (cj1 h7))))))))) (fun h7 =>
   Pn.ite (fun h8 =>
   Pn.some (Fn.of [bF, bF, bF, bF, bF, bF, bF, bT] (p := [(no == 2) = false,(no == 3) = false,(no == 11) = false,(no == 38) = false,(no == 4) = false,(no == 37) = false,(no == 95) = false,(no == 7) = true]) (by kernel_rfl) (cj h1 (cj h2 (cj h3 (cj h4 (cj h5 (cj h6 (cj h7 (cj1 h8)))))))))) (fun h8 =>
   Pn.ite (fun h9 =>
   Pn.some (Fn.of [bF, bF, bF, bF, bF, bF, bF, bF, bT] (p := [(no == 2) = false,(no == 3) = false,(no == 11) = false,(no == 38) = false,(no == 4) = false,(no == 37) = false,(no == 95) = false,(no == 7) = false,(no == 14) = true]) (by kernel_rfl) (cj h1 (cj h2 (cj h3 (cj h4 (cj h5 (cj h6 (cj h7 (cj h8 (cj1 h9))))))))))) (fun h9 =>
   Pn.ite (fun h10 =>
   Pn.some (Fn.of [bF, bF, bF, bF, bF, bF, bF, bF, bF, bT] (p := [(no == 2) = false,(no == 3) = false,(no == 11) = false,(no == 38) = false,(no == 4) = false,(no == 37) = false,(no == 95) = false,(no == 7) = false,(no == 14) = false,(no == 39) = true]) (by kernel_rfl) (cj h1 (cj h2 (cj h3 (cj h4 (cj h5 (cj h6 (cj h7 (cj h8 (cj h9 (cj1 h10)))))))))))) (fun h10 =>
   Pn.ite (fun h11 =>
   Pn.some (Fn.of [bF, bF, bF, bF, bF, bF, bF, bF, bF, bF, bT] (p := [(no == 2) = false,(no == 3) = false,(no == 11) = false,(no == 38) = false,(no == 4) = false,(no == 37) = false,(no == 95) = false,(no == 7) = false,(no == 14) = false,(no == 39) = false,(no == 41) = true]) (by kernel_rfl) (cj h1 (cj h2 (cj h3 (cj h4 (cj h5 (cj h6 (cj h7 (cj h8 (cj h9 (cj h10 (cj1 h11))))))))))))) (fun h11 =>
   Pn.ite (fun h12 =>
   Pn.some (Fn.of [bF, bF, bF, bF, bF, bF, bF, bF, bF, bF, bF, bT] (p := [(no == 2) = false,(no == 3) = false,(no == 11) = false,(no == 38) = false,(no == 4) = false,(no == 37) = false,(no == 95) = false,(no == 7) = false,(no == 14) = false,(no == 39) = false,(no == 41) = false,(no == 49) = true]) (by kernel_rfl) (cj h1 (cj h2 (cj h3 (cj h4 (cj h5 (cj h6 (cj h7 (cj h8 (cj h9 (cj h10 (cj h11 (cj1 h12)))))))))))))) (fun h12 =>
   Pn.ite (fun h13 =>
   Pn.some (Fn.of [bF, bF, bF, bF, bF, bF, bF, bF, bF, bF, bF, bF, bT, bT] (p := [(no == 2) = false,(no == 3) = false,(no == 11) = false,(no == 38) = false,(no == 4) = false,(no == 37) = false,(no == 95) = false,(no == 7) = false,(no == 14) = false,(no == 39) = false,(no == 41) = false,(no == 49) = false,(no == 102) = true,(no == 102) = true]) (by kernel_rfl) (cj h1 (cj h2 (cj h3 (cj h4 (cj h5 (cj h6 (cj h7 (cj h8 (cj h9 (cj h10 (cj h11 (cj h12 (cj h13 (cj1 h13)))))))))))))))) (fun h13 =>
   Pn.ite (fun h14 =>
   Pn.some (Fn.of [bF, bF, bF, bF, bF, bF, bF, bF, bF, bF, bF, bF, bF, bT] (p := [(no == 2) = false,(no == 3) = false,(no == 11) = false,(no == 38) = false,(no == 4) = false,(no == 37) = false,(no == 95) = false,(no == 7) = false,(no == 14) = false,(no == 39) = false,(no == 41) = false,(no == 49) = false,(no == 102) = false,(no == 103) = true]) (by kernel_rfl) (cj h1 (cj h2 (cj h3 (cj h4 (cj h5 (cj h6 (cj h7 (cj h8 (cj h9 (cj h10 (cj h11 (cj h12 (cj h13 (cj1 h14)))))))))))))))) (fun h14 =>
   Pn.ite (fun h15 =>
   Pn.some (Fn.of [bF, bF, bF, bF, bF, bF, bF, bF, bF, bF, bF, bF, bF, bF, bT, bT] (p := [(no == 2) = false,(no == 3) = false,(no == 11) = false,(no == 38) = false,(no == 4) = false,(no == 37) = false,(no == 95) = false,(no == 7) = false,(no == 14) = false,(no == 39) = false,(no == 41) = false,(no == 49) = false,(no == 102) = false,(no == 103) = false,(no == 48) = true,(no == 48) = true]) (by kernel_rfl) (cj h1 (cj h2 (cj h3 (cj h4 (cj h5 (cj h6 (cj h7 (cj h8 (cj h9 (cj h10 (cj h11 (cj h12 (cj h13 (cj h14 (cj h15 (cj1 h15)))))))))))))))))) (fun h15 =>
   Pn.ite (fun h16 =>
   Pn.some (Fn.of [bF, bF, bF, bF, bF, bF, bF, bF, bF, bF, bF, bF, bF, bF, bF, bT] (p := [(no == 2) = false,(no == 3) = false,(no == 11) = false,(no == 38) = false,(no == 4) = false,(no == 37) = false,(no == 95) = false,(no == 7) = false,(no == 14) = false,(no == 39) = false,(no == 41) = false,(no == 49) = false,(no == 102) = false,(no == 103) = false,(no == 48) = false,(no == 54) = true]) (by kernel_rfl) (cj h1 (cj h2 (cj h3 (cj h4 (cj h5 (cj h6 (cj h7 (cj h8 (cj h9 (cj h10 (cj h11 (cj h12 (cj h13 (cj h14 (cj h15 (cj1 h16)))))))))))))))))) (fun h16 =>
   Pn.some (Fn.of [bF, bF, bF, bF, bF, bF, bF, bF, bF, bF, bF, bF, bF, bF, bF, bF] (p := [(no == 2) = false,(no == 3) = false,(no == 11) = false,(no == 38) = false,(no == 4) = false,(no == 37) = false,(no == 95) = false,(no == 7) = false,(no == 14) = false,(no == 39) = false,(no == 41) = false,(no == 49) = false,(no == 102) = false,(no == 103) = false,(no == 48) = false,(no == 54) = false]) (by kernel_rfl) (cj h1 (cj h2 (cj h3 (cj h4 (cj h5 (cj h6 (cj h7 (cj h8 (cj h9 (cj h10 (cj h11 (cj h12 (cj h13 (cj h14 (cj h15 (cj1 h16)))))))))))))))))))))))))))))))))
def spec_l03Width (kind : Int) : Option (Int) :=
 if (kind == 3) = true then
 some 2
 else
 if (kind == 4) = true then
 some 2
 else
 if (kind == 5) = true then
 some 3
 else
 some 0
theorem spec_l03Width_ok (kind : Int) : Pn (fun y => Fn Tryz.prog 55 [(false, E3 kind)] (E3 y) []) (spec_l03Width kind) := by
  unfold spec_l03Width
  exact
   Pn.ite (fun h1 =>
   Pn.some (Fn.of [bT, bT] (p := [(kind == 3) = true,(kind == 3) = true]) (by kernel_rfl) (cj h1 (cj1 h1)))) (fun h1 =>
   Pn.ite (fun h2 =>
   Pn.some (Fn.of [bF, bT] (p := [(kind == 3) = false,(kind == 4) = true]) (by kernel_rfl) (cj h1 (cj1 h2)))) (fun h2 =>
   Pn.ite (fun h3 =>
   Pn.some (Fn.of [bF, bF, bT] (p := [(kind == 3) = false,(kind == 4) = false,(kind == 5) = true]) (by kernel_rfl) (cj h1 (cj h2 (cj1 h3))))) (fun h3 =>
   Pn.some (Fn.of [bF, bF, bF] (p := [(kind == 3) = false,(kind == 4) = false,(kind == 5) = false]) (by kernel_rfl) (cj h1 (cj h2 (cj1 h3)))))))
def spec_Narrow_l0 (s_ : ByteArray) : Nat → Int → Int → Option (Int)
  | 0, _, _ => none
  | fuel + 1, v1, v2 =>
   if (decide (v2 < (s_.size : Int))) = true then
   if (decide (0 ≤ v2)) = true then
   if (decide ((v2 : Int) < (s_.size : Int))) = true then
   spec_Narrow_l0 s_ fuel (i64 ((i64 ((i64 (v1 * 10)) + (i64 (sAt s_ v2)))) - 48)) (i64 (v2 + 1))
   else none
   else none
   else
   some v1
theorem spec_Narrow_l0_ok (s_ : ByteArray) : ∀ (fuel : Nat) (v1 : Int) (v2 : Int), Pn (LpO Tryz.prog (sub (codeOf Tryz.prog 35) [1, 1, 1, 0, 1, 0, 0]) (st 29 [(0, vS s_), (4, vI v1), (5, vI v2)] [] []) (fun (y : Int) => (X.out 0, st 29 [(4, vI y)] [] []))) (spec_Narrow_l0 s_ fuel v1 v2)
  | 0, _, _ => Pn.none
  | fuel + 1, v1, v2 => by
    unfold spec_Narrow_l0
    exact
     Pn.ite (fun h4 =>
     Pn.ite (fun h5 =>
     Pn.ite (fun h6 =>
     LpO.go [bT, .wait 12, .mask [0, 4, 5], .ren []] (p := [(decide (v2 < (s_.size : Int))) = true,(0 : Int) ≤ v2,(v2 : Int) < s_.size]) (by kernel_rfl) (cj h4 (cj (od h5) (cj1 (od h6)))) (spec_Narrow_l0_ok s_ fuel (i64 ((i64 ((i64 (v1 * 10)) + (i64 (sAt s_ v2)))) - 48)) (i64 (v2 + 1)))) (fun h6 =>
     Pn.none)) (fun h5 =>
     Pn.none)) (fun h4 =>
     Pn.some (LpO.out [bF, .mask [4], .ren []] (p := [(decide (v2 < (s_.size : Int))) = false]) (by kernel_rfl) (show X.out 0 ≠ X.go from nofun) (cj1 h4)))
def spec_Narrow (s_ : ByteArray) : Option (Int × Bool) :=
 (spec_Digits s_).bind fun r1 =>
 if r1 = true then
 if (decide (18 < (s_.size : Int))) = true then
 some (0, false)
 else
 (spec_Narrow_l0 s_ FUEL 0 0).bind fun r2 =>
 some (r2, true)
 else
 some (0, false)
theorem spec_Narrow_ok (s_ : ByteArray) : Pn (fun y => Fn Tryz.prog 35 [(false, E9 s_)] (V.tup [E3 y.1, E4 y.2]) []) (spec_Narrow s_) := by
  unfold spec_Narrow
  exact
   Pn.bind (fun r1 h1 =>
   Pn.ite (fun h2 =>
   Pn.ite (fun h3 =>
   Pn.some (Fn.of [.call [] (E4 r1) [], bF, bF, bF, bF, bT] (p := [Fn Tryz.prog 51 [(false, E9 s_)] (E4 r1) [],(true || ((E4 r1).nv && nvL [])) = true,(!r1) = false,(!r1) = false,(!r1) = false,(!r1) = false,(decide (18 < (s_.size : Int))) = true]) (by kernel_rfl) (cj (spec_Digits_ok s_ r1 h1) (cj rfl (cj (nf h2) (cj (nf h2) (cj (nf h2) (cj (nf h2) (cj1 h3))))))))) (fun h3 =>
   Pn.bind (fun r2 h7 =>
   Pn.some (Fn.of [.call [] (E4 r1) [], bF, bF, bF, bF, bF, .wait 2, .mask [0, 4, 5], .ren [], .loop (X.out 0) (st 29 [(4, vI r2)] [] [])] (p := [Fn Tryz.prog 51 [(false, E9 s_)] (E4 r1) [],(true || ((E4 r1).nv && nvL [])) = true,(!r1) = false,(!r1) = false,(!r1) = false,(!r1) = false,(decide (18 < (s_.size : Int))) = false,Loop Tryz.prog (sub (codeOf Tryz.prog 35) [1, 1, 1, 0, 1, 0, 0]) (st 29 [(0, vS s_), (4, vI 0), (5, vI 0)] [] []) (X.out 0) (st 29 [(4, vI r2)] [] [])]) (by kernel_rfl) (cj (spec_Digits_ok s_ r1 h1) (cj rfl (cj (nf h2) (cj (nf h2) (cj (nf h2) (cj (nf h2) (cj h3 (cj1 (spec_Narrow_l0_ok s_ FUEL 0 0 r2 h7))))))))))))) (fun h2 =>
   Pn.some (Fn.of [.call [] (E4 r1) [], bT, bT, bT, bT, bT] (p := [Fn Tryz.prog 51 [(false, E9 s_)] (E4 r1) [],(true || ((E4 r1).nv && nvL [])) = true,(!r1) = true,(!r1) = true,(!r1) = true,(!r1) = true,true = true]) (by kernel_rfl) (cj (spec_Digits_ok s_ r1 h1) (cj rfl (cj (nt h2) (cj (nt h2) (cj (nt h2) (cj (nt h2) (cj1 rfl))))))))))
def spec_GetLen_c0 (b : List Int) (at_ : Int) (digits : Int) : Option (Lo Unit Unit) :=
 if (digits != 2) = true then
 if (digits != 3) = true then
 some (.ret ())
 else
 some (.out ())
 else
 some (.out ())
theorem spec_GetLen_c0_ok (b : List Int) (at_ : Int) (digits : Int) : Pn (JnO Tryz.prog (sub (codeOf Tryz.prog 56) [1, 0]) (st 36 [(0, lF5 b), (1, vI at_), (2, vI digits)] [] []) (fun (y : Lo Unit Unit) => Lo.elim y (fun s => (X.go, st 36 [(0, lF5 b), (1, vI at_), (2, vI digits)] [] [])) (fun s => (X.ret, st 36 [(6, vI 0), (7, vI 0), (8, vB false)] [] [])))) (spec_GetLen_c0 b at_ digits) := by
  unfold spec_GetLen_c0
  exact
   Pn.ite (fun h1 =>
   Pn.ite (fun h2 =>
   Pn.some (JnO.of [bT, bT, bT, bT, .wait 3, .mask [6, 7, 8], .ren []] (p := [(digits != 2) = true,(digits != 2) = true,(digits != 2) = true,(digits != 3) = true]) (by kernel_rfl) (cj h1 (cj h1 (cj h1 (cj1 h2)))))) (fun h2 =>
   Pn.some (JnO.of [bT, bT, bT, bF, .mask [0, 1, 2], .ren []] (p := [(digits != 2) = true,(digits != 2) = true,(digits != 2) = true,(digits != 3) = false]) (by kernel_rfl) (cj h1 (cj h1 (cj h1 (cj1 h2))))))) (fun h1 =>
   Pn.some (JnO.of [bF, bF, bF, bF, .mask [0, 1, 2], .ren []] (p := [(digits != 2) = false,(digits != 2) = false,(digits != 2) = false,false = false]) (by kernel_rfl) (cj h1 (cj h1 (cj h1 (cj1 rfl))))))
def spec_GetLen (b : List Int) (at_ : Int) (digits : Int) : Option (Int × Int × Bool) :=
 (spec_GetLen_c0 b at_ digits).bind fun r1 =>
 Lo.elim r1 (fun s1 =>
 (spec_GetBcd b at_ digits).bind fun r2 =>
 (spec_Narrow r2.1).bind fun r3 =>
 some (r3.1, r2.2.1, r2.2.2)) (fun s2 =>
 some (0, 0, false))
theorem spec_GetLen_ok (b : List Int) (at_ : Int) (digits : Int) : Pn (fun y => Fn Tryz.prog 56 [(false, E31 b), (false, E3 at_), (false, E3 digits)] (V.tup [E3 y.1, E3 y.2.1, E4 y.2.2]) []) (spec_GetLen b at_ digits) := by
  unfold spec_GetLen
  exact
   Pn.bind (fun r1 h3 =>
   Pn.lo (fun s1 h4 =>
   Pn.bind (fun r2 h6 =>
   Pn.bind (fun r3 h7 =>
   Pn.some (Fn.of [.wait 4, .mask [0, 1, 2], .ren [], .join 7 (X.go) (st 36 [(0, lF5 b), (1, vI at_), (2, vI digits)] [] []), .call [] (V.tup [E9 r2.1, E3 r2.2.1, E4 r2.2.2]) [], .call [] (V.tup [E3 r3.1, E4 r3.2]) []] (p := [HT Tryz.prog (sub (codeOf Tryz.prog 56) [1, 0]) (st 36 [(0, lF5 b), (1, vI at_), (2, vI digits)] [] []) (X.go) (st 36 [(0, lF5 b), (1, vI at_), (2, vI digits)] [] []),Fn Tryz.prog 25 [(false, E31 b), (false, E3 at_), (false, E3 digits)] (V.tup [E9 r2.1, E3 r2.2.1, E4 r2.2.2]) [],(true || ((V.tup [E9 r2.1, E3 r2.2.1, E4 r2.2.2]).nv && nvL [])) = true,Fn Tryz.prog 35 [(false, E9 r2.1)] (V.tup [E3 r3.1, E4 r3.2]) [],(true || ((V.tup [E3 r3.1, E4 r3.2]).nv && nvL [])) = true]) (by kernel_rfl) (cj ((spec_GetLen_c0_ok b at_ digits r1 h3).at h4 :) (cj (spec_GetBcd_ok b at_ digits r2 h6) (cj rfl (cj (spec_Narrow_ok r2.1 r3 h7) (cj1 rfl))))))))) (fun s2 h5 =>
   Pn.some (Fn.of [.wait 4, .mask [0, 1, 2], .ren [], .join 7 (X.ret) (st 36 [(6, vI 0), (7, vI 0), (8, vB false)] [] [])] (p := [HT Tryz.prog (sub (codeOf Tryz.prog 56) [1, 0]) (st 36 [(0, lF5 b), (1, vI at_), (2, vI digits)] [] []) (X.ret) (st 36 [(6, vI 0), (7, vI 0), (8, vB false)] [] [])]) (by kernel_rfl) (cj1 ((spec_GetLen_c0_ok b at_ digits r1 h3).at h5 :)))))
def spec_l01In (n : Int) (lo : Int) (hi : Int) : Option (Bool) :=
 if (decide (lo ≤ n)) = true then
 some (decide (n ≤ hi))
 else
 some false
theorem spec_l01In_ok (n : Int) (lo : Int) (hi : Int) : Pn (fun y => Fn Tryz.prog 57 [(false, E3 n), (false, E3 lo), (false, E3 hi)] (E4 y) []) (spec_l01In n lo hi) := by
  unfold spec_l01In
  exact
   Pn.ite (fun h1 =>
   Pn.some (Fn.of [bT, bT, bT, bT] (p := [(decide (lo ≤ n)) = true,(decide (lo ≤ n)) = true,(decide (lo ≤ n)) = true,(decide (lo ≤ n)) = true]) (by kernel_rfl) (cj h1 (cj h1 (cj h1 (cj1 h1)))))) (fun h1 =>
   Pn.some (Fn.of [bF, bF, bF, bF] (p := [(decide (lo ≤ n)) = false,(decide (lo ≤ n)) = false,(decide (lo ≤ n)) = false,(decide (lo ≤ n)) = false]) (by kernel_rfl) (cj h1 (cj h1 (cj h1 (cj1 h1))))))
def spec_Printable_l0 (s_ : ByteArray) : Nat → Int → Option (Lo Unit Unit)
  | 0, _ => none
  | fuel + 1, v1 =>
   if (decide (v1 < (s_.size : Int))) = true then
   if (decide (0 ≤ v1)) = true then
   if (decide ((v1 : Int) < (s_.size : Int))) = true then
   if (decide ((sAt s_ v1) < 32)) = true then
   some (.ret ())
   else
   if (decide (126 < (sAt s_ v1))) = true then
   some (.ret ())
   else
   spec_Printable_l0 s_ fuel (i64 (v1 + 1))
   else none
   else none
   else
   some (.out ())
theorem spec_Printable_l0_ok (s_ : ByteArray) : ∀ (fuel : Nat) (v1 : Int), Pn (LpO Tryz.prog (sub (codeOf Tryz.prog 58) [1, 0, 1, 0, 0]) (st 20 [(0, vS s_), (3, vI v1)] [] []) (fun (y : Lo Unit Unit) => Lo.elim y (fun s => (X.out 0, st 20 [] [] [])) (fun s => (X.ret, st 20 [(2, vB false)] [] [])))) (spec_Printable_l0 s_ fuel v1)
  | 0, _ => Pn.none
  | fuel + 1, v1 => by
    unfold spec_Printable_l0
    exact
     Pn.ite (fun h1 =>
     Pn.ite (fun h2 =>
     Pn.ite (fun h3 =>
     Pn.ite (fun h4 =>
     Pn.some (LpO.out [bT, bT, bT, bT, bT, bT, bT, .wait 1, .mask [2], .ren []] (p := [(decide (v1 < (s_.size : Int))) = true,(0 : Int) ≤ v1,(v1 : Int) < s_.size,(decide ((sAt s_ v1) < 32)) = true,(decide ((sAt s_ v1) < 32)) = true,(decide ((sAt s_ v1) < 32)) = true,(decide ((sAt s_ v1) < 32)) = true,(decide ((sAt s_ v1) < 32)) = true,true = true]) (by kernel_rfl) (show X.ret ≠ X.go from nofun) (cj h1 (cj (od h2) (cj (od h3) (cj h4 (cj h4 (cj h4 (cj h4 (cj h4 (cj1 rfl))))))))))) (fun h4 =>
     Pn.ite (fun h5 =>
     Pn.some (LpO.out [bT, bF, bF, bF, bF, bF, bT, .wait 1, .mask [2], .ren []] (p := [(decide (v1 < (s_.size : Int))) = true,(0 : Int) ≤ v1,(v1 : Int) < s_.size,(decide ((sAt s_ v1) < 32)) = false,(decide ((sAt s_ v1) < 32)) = false,(decide ((sAt s_ v1) < 32)) = false,(0 : Int) ≤ v1,(v1 : Int) < s_.size,(decide ((sAt s_ v1) < 32)) = false,(decide ((sAt s_ v1) < 32)) = false,(decide (126 < (sAt s_ v1))) = true]) (by kernel_rfl) (show X.ret ≠ X.go from nofun) (cj h1 (cj (od h2) (cj (od h3) (cj h4 (cj h4 (cj h4 (cj (od h2) (cj (od h3) (cj h4 (cj h4 (cj1 h5))))))))))))) (fun h5 =>
     LpO.go [bT, bF, bF, bF, bF, bF, bF, .wait 3, .mask [0, 3], .ren []] (p := [(decide (v1 < (s_.size : Int))) = true,(0 : Int) ≤ v1,(v1 : Int) < s_.size,(decide ((sAt s_ v1) < 32)) = false,(decide ((sAt s_ v1) < 32)) = false,(decide ((sAt s_ v1) < 32)) = false,(0 : Int) ≤ v1,(v1 : Int) < s_.size,(decide ((sAt s_ v1) < 32)) = false,(decide ((sAt s_ v1) < 32)) = false,(decide (126 < (sAt s_ v1))) = false]) (by kernel_rfl) (cj h1 (cj (od h2) (cj (od h3) (cj h4 (cj h4 (cj h4 (cj (od h2) (cj (od h3) (cj h4 (cj h4 (cj1 h5))))))))))) (spec_Printable_l0_ok s_ fuel (i64 (v1 + 1)))))) (fun h3 =>
     Pn.none)) (fun h2 =>
     Pn.none)) (fun h1 =>
     Pn.some (LpO.out [bF, .mask [], .ren []] (p := [(decide (v1 < (s_.size : Int))) = false]) (by kernel_rfl) (show X.out 0 ≠ X.go from nofun) (cj1 h1)))
def spec_Printable (s_ : ByteArray) : Option (Bool) :=
 (spec_Printable_l0 s_ FUEL 0).bind fun r1 =>
 Lo.elim r1 (fun s1 =>
 some true) (fun s2 =>
 some false)
theorem spec_Printable_ok (s_ : ByteArray) : Pn (fun y => Fn Tryz.prog 58 [(false, E9 s_)] (E4 y) []) (spec_Printable s_) := by
  unfold spec_Printable
  exact
   Pn.bind (fun r1 h6 =>
   Pn.lo (fun s1 h7 =>
   Pn.some (Fn.of [.wait 3, .mask [0, 3], .ren [], .loop (X.out 0) (st 20 [] [] [])] (p := [Loop Tryz.prog (sub (codeOf Tryz.prog 58) [1, 0, 1, 0, 0]) (st 20 [(0, vS s_), (3, vI 0)] [] []) (X.out 0) (st 20 [] [] [])]) (by kernel_rfl) (cj1 ((spec_Printable_l0_ok s_ FUEL 0 r1 h6).at h7 :)))) (fun s2 h8 =>
   Pn.some (Fn.of [.wait 3, .mask [0, 3], .ren [], .loop (X.ret) (st 20 [(2, vB false)] [] [])] (p := [Loop Tryz.prog (sub (codeOf Tryz.prog 58) [1, 0, 1, 0, 0]) (st 20 [(0, vS s_), (3, vI 0)] [] []) (X.ret) (st 20 [(2, vB false)] [] [])]) (by kernel_rfl) (cj1 ((spec_Printable_l0_ok s_ FUEL 0 r1 h6).at h8 :)))))
def spec_GetField_c0 (o : List Int) (o_ : Int) (r1 : Int) (r2 : Int) : Option (Lo Unit Unit) :=
 if (r1 == 0) = true then
 some (.ret ())
 else
 if (decide (o_ < 0)) = true then
 some (.ret ())
 else
 some (.out ())
theorem spec_GetField_c0_ok (o : List Int) (o_ : Int) (r1 : Int) (r2 : Int) : Pn (JnO Tryz.prog (sub (codeOf Tryz.prog 27) [1, 1, 1, 0]) (st 92 [(0, lF5 o), (1, vI o_), (9, vI r1), (10, vI r2)] [] []) (fun (y : Lo Unit Unit) => Lo.elim y (fun s => (X.go, st 92 [(0, lF5 o), (1, vI o_), (9, vI r1), (10, vI r2)] [] [])) (fun s => (X.ret, st 92 [(6, vS (bs [])), (7, vI 0), (8, vB false)] [] [])))) (spec_GetField_c0 o o_ r1 r2) := by
  unfold spec_GetField_c0
  exact
   Pn.ite (fun h3 =>
   Pn.some (JnO.of [bT, bT, bT, bT, .wait 3, .mask [6, 7, 8], .ren []] (p := [(r1 == 0) = true,(r1 == 0) = true,(r1 == 0) = true,true = true]) (by kernel_rfl) (cj h3 (cj h3 (cj h3 (cj1 rfl)))))) (fun h3 =>
   Pn.ite (fun h4 =>
   Pn.some (JnO.of [bF, bF, bF, bT, .wait 3, .mask [6, 7, 8], .ren []] (p := [(r1 == 0) = false,(r1 == 0) = false,(r1 == 0) = false,(decide (o_ < 0)) = true]) (by kernel_rfl) (cj h3 (cj h3 (cj h3 (cj1 h4)))))) (fun h4 =>
   Pn.some (JnO.of [bF, bF, bF, bF, .mask [0, 1, 9, 10], .ren []] (p := [(r1 == 0) = false,(r1 == 0) = false,(r1 == 0) = false,(decide (o_ < 0)) = false]) (by kernel_rfl) (cj h3 (cj h3 (cj h3 (cj1 h4)))))))
def spec_GetField_c2 (o : List Int) (r1 : Int) (r2 : Int) (r6 : Int × Int × Bool) : Option (Lo Unit Unit) :=
 if r6.2.2 = true then
 (spec_l01In r6.1 1 r2).bind fun r7 =>
 if r7 = true then
 some (.out ())
 else
 some (.ret ())
 else
 some (.ret ())
theorem spec_GetField_c2_ok (o : List Int) (r1 : Int) (r2 : Int) (r6 : Int × Int × Bool) : Pn (JnO Tryz.prog (sub (codeOf Tryz.prog 27) [1, 1, 1, 1, 0, 1, 0, 1, 0]) (st 92 [(0, lF5 o), (9, vI r1), (10, vI r2), (11, vI r6.1), (12, vI r6.2.1), (13, vB r6.2.2)] [] []) (fun (y : Lo Unit Unit) => Lo.elim y (fun s => (X.go, st 92 [(0, lF5 o), (9, vI r1), (11, vI r6.1), (12, vI r6.2.1)] [] [])) (fun s => (X.ret, st 92 [(6, vS (bs [])), (7, vI 0), (8, vB false)] [] [])))) (spec_GetField_c2 o r1 r2 r6) := by
  unfold spec_GetField_c2
  exact
   Pn.ite (fun h12 =>
   Pn.bind (fun r7 h13 =>
   Pn.ite (fun h14 =>
   Pn.some (JnO.of [bF, bF, bF, .call [] (E4 r7) [], bF, bF, bF, .mask [0, 9, 11, 12], .ren []] (p := [(!r6.2.2) = false,(!r6.2.2) = false,(!r6.2.2) = false,Fn Tryz.prog 57 [(false, E3 r6.1), (false, E3 1), (false, E3 r2)] (E4 r7) [],(true || ((E4 r7).nv && nvL [])) = true,(!r6.2.2) = false,(!r6.2.2) = false,(!r7) = false]) (by kernel_rfl) (cj (nf h12) (cj (nf h12) (cj (nf h12) (cj (spec_l01In_ok r6.1 1 r2 r7 h13) (cj rfl (cj (nf h12) (cj (nf h12) (cj1 (nf h14))))))))))) (fun h14 =>
   Pn.some (JnO.of [bF, bF, bF, .call [] (E4 r7) [], bF, bF, bT, .wait 3, .mask [6, 7, 8], .ren []] (p := [(!r6.2.2) = false,(!r6.2.2) = false,(!r6.2.2) = false,Fn Tryz.prog 57 [(false, E3 r6.1), (false, E3 1), (false, E3 r2)] (E4 r7) [],(true || ((E4 r7).nv && nvL [])) = true,(!r6.2.2) = false,(!r6.2.2) = false,(!r7) = true]) (by kernel_rfl) (cj (nf h12) (cj (nf h12) (cj (nf h12) (cj (spec_l01In_ok r6.1 1 r2 r7 h13) (cj rfl (cj (nf h12) (cj (nf h12) (cj1 (nt h14))))))))))))) (fun h12 =>
   Pn.some (JnO.of [bT, bT, bT, bT, bT, bT, .wait 3, .mask [6, 7, 8], .ren []] (p := [(!r6.2.2) = true,(!r6.2.2) = true,(!r6.2.2) = true,(!r6.2.2) = true,(!r6.2.2) = true,true = true]) (by kernel_rfl) (cj (nt h12) (cj (nt h12) (cj (nt h12) (cj (nt h12) (cj (nt h12) (cj1 rfl))))))))
def spec_GetField_c1 (o : List Int) (o_ : Int) (r1 : Int) (r2 : Int) : Option (Lo (Int × Int) Unit) :=
 (spec_l03Width r1).bind fun r4 =>
 if (decide (0 < r4)) = true then
 (spec_l03Width r1).bind fun r5 =>
 (spec_GetLen o o_ r5).bind fun r6 =>
 (spec_GetField_c2 o r1 r2 r6).bind fun r8 =>
 Lo.elim r8 (fun s3 =>
 some (.out (r6.2.1, r6.1))) (fun s4 =>
 some (.ret ()))
 else
 some (.out (o_, r2))
theorem spec_GetField_c1_ok (o : List Int) (o_ : Int) (r1 : Int) (r2 : Int) : Pn (JnO Tryz.prog (sub (codeOf Tryz.prog 27) [1, 1, 1, 1, 0]) (st 92 [(0, lF5 o), (1, vI o_), (9, vI r1), (10, vI r2)] [] []) (fun (y : Lo (Int × Int) Unit) => Lo.elim y (fun s => (X.go, st 92 [(0, lF5 o), (1, vI s.1), (9, vI r1), (10, vI s.2)] [] [])) (fun s => (X.ret, st 92 [(6, vS (bs [])), (7, vI 0), (8, vB false)] [] [])))) (spec_GetField_c1 o o_ r1 r2) := by
  unfold spec_GetField_c1
  exact
   Pn.bind (fun r4 h8 =>
   Pn.ite (fun h9 =>
   Pn.bind (fun r5 h10 =>
   Pn.bind (fun r6 h11 =>
   Pn.bind (fun r8 h15 =>
   Pn.lo (fun s3 h16 =>
   Pn.some (JnO.of [.call [] (E3 r4) [], bT, .call [] (E3 r5) [], .call [] (V.tup [E3 r6.1, E3 r6.2.1, E4 r6.2.2]) [], .wait 8, .mask [0, 9, 10, 11, 12, 13], .ren [], .join 7 (X.go) (st 92 [(0, lF5 o), (9, vI r1), (11, vI r6.1), (12, vI r6.2.1)] [] []), .wait 5, .mask [0, 1, 9, 10], .ren []] (p := [Fn Tryz.prog 55 [(false, E3 r1)] (E3 r4) [],(true || ((E3 r4).nv && nvL [])) = true,(decide (0 < r4)) = true,Fn Tryz.prog 55 [(false, E3 r1)] (E3 r5) [],(true || ((E3 r5).nv && nvL [])) = true,Fn Tryz.prog 56 [(false, E31 o), (false, E3 o_), (false, E3 r5)] (V.tup [E3 r6.1, E3 r6.2.1, E4 r6.2.2]) [],(true || ((V.tup [E3 r6.1, E3 r6.2.1, E4 r6.2.2]).nv && nvL [])) = true,HT Tryz.prog (sub (codeOf Tryz.prog 27) [1, 1, 1, 1, 0, 1, 0, 1, 0]) (st 92 [(0, lF5 o), (9, vI r1), (10, vI r2), (11, vI r6.1), (12, vI r6.2.1), (13, vB r6.2.2)] [] []) (X.go) (st 92 [(0, lF5 o), (9, vI r1), (11, vI r6.1), (12, vI r6.2.1)] [] [])]) (by kernel_rfl) (cj (spec_l03Width_ok r1 r4 h8) (cj rfl (cj h9 (cj (spec_l03Width_ok r1 r5 h10) (cj rfl (cj (spec_GetLen_ok o o_ r5 r6 h11) (cj rfl (cj1 ((spec_GetField_c2_ok o r1 r2 r6 r8 h15).at h16 :))))))))))) (fun s4 h17 =>
   Pn.some (JnO.of [.call [] (E3 r4) [], bT, .call [] (E3 r5) [], .call [] (V.tup [E3 r6.1, E3 r6.2.1, E4 r6.2.2]) [], .wait 8, .mask [0, 9, 10, 11, 12, 13], .ren [], .join 7 (X.ret) (st 92 [(6, vS (bs [])), (7, vI 0), (8, vB false)] [] []), .wait 1, .mask [6, 7, 8], .ren []] (p := [Fn Tryz.prog 55 [(false, E3 r1)] (E3 r4) [],(true || ((E3 r4).nv && nvL [])) = true,(decide (0 < r4)) = true,Fn Tryz.prog 55 [(false, E3 r1)] (E3 r5) [],(true || ((E3 r5).nv && nvL [])) = true,Fn Tryz.prog 56 [(false, E31 o), (false, E3 o_), (false, E3 r5)] (V.tup [E3 r6.1, E3 r6.2.1, E4 r6.2.2]) [],(true || ((V.tup [E3 r6.1, E3 r6.2.1, E4 r6.2.2]).nv && nvL [])) = true,HT Tryz.prog (sub (codeOf Tryz.prog 27) [1, 1, 1, 1, 0, 1, 0, 1, 0]) (st 92 [(0, lF5 o), (9, vI r1), (10, vI r2), (11, vI r6.1), (12, vI r6.2.1), (13, vB r6.2.2)] [] []) (X.ret) (st 92 [(6, vS (bs [])), (7, vI 0), (8, vB false)] [] [])]) (by kernel_rfl) (cj (spec_l03Width_ok r1 r4 h8) (cj rfl (cj h9 (cj (spec_l03Width_ok r1 r5 h10) (cj rfl (cj (spec_GetLen_ok o o_ r5 r6 h11) (cj rfl (cj1 ((spec_GetField_c2_ok o r1 r2 r6 r8 h15).at h17 :))))))))))))))) (fun h9 =>
   Pn.some (JnO.of [.call [] (E3 r4) [], bF, .mask [0, 1, 9, 10], .ren []] (p := [Fn Tryz.prog 55 [(false, E3 r1)] (E3 r4) [],(true || ((E3 r4).nv && nvL [])) = true,(decide (0 < r4)) = false]) (by kernel_rfl) (cj (spec_l03Width_ok r1 r4 h8) (cj rfl (cj1 h9))))))
def spec_GetField_c3 (o : List Int) (r1 : Int) (s5 : Int × Int) : Option (Lo Unit (ByteArray × Int × Bool)) :=
 if (r1 == 1) = true then
 (spec_GetBcd o s5.1 s5.2).bind fun r10 =>
 some (.ret (r10.1, r10.2.1, r10.2.2))
 else
 if (r1 == 3) = true then
 (spec_GetBcd o s5.1 s5.2).bind fun r11 =>
 some (.ret (r11.1, r11.2.1, r11.2.2))
 else
 some (.out ())
theorem spec_GetField_c3_ok (o : List Int) (r1 : Int) (s5 : Int × Int) : Pn (JnO Tryz.prog (sub (codeOf Tryz.prog 27) [1, 1, 1, 1, 1, 0]) (st 92 [(0, lF5 o), (1, vI s5.1), (9, vI r1), (10, vI s5.2)] [] []) (fun (y : Lo Unit (ByteArray × Int × Bool)) => Lo.elim y (fun s => (X.go, st 92 [(0, lF5 o), (1, vI s5.1), (10, vI s5.2)] [] [])) (fun s => (X.ret, st 92 [(6, vS s.1), (7, vI s.2.1), (8, vB s.2.2)] [] [])))) (spec_GetField_c3 o r1 s5) := by
  unfold spec_GetField_c3
  exact
   Pn.ite (fun h21 =>
   Pn.bind (fun r10 h22 =>
   Pn.some (JnO.of [bT, bT, bT, bT, .call [] (V.tup [E9 r10.1, E3 r10.2.1, E4 r10.2.2]) [], .wait 7, .mask [6, 7, 8], .ren []] (p := [(r1 == 1) = true,(r1 == 1) = true,(r1 == 1) = true,true = true,Fn Tryz.prog 25 [(false, E31 o), (false, E3 s5.1), (false, E3 s5.2)] (V.tup [E9 r10.1, E3 r10.2.1, E4 r10.2.2]) [],(true || ((V.tup [E9 r10.1, E3 r10.2.1, E4 r10.2.2]).nv && nvL [])) = true]) (by kernel_rfl) (cj h21 (cj h21 (cj h21 (cj rfl (cj (spec_GetBcd_ok o s5.1 s5.2 r10 h22) (cj1 rfl))))))))) (fun h21 =>
   Pn.ite (fun h23 =>
   Pn.bind (fun r11 h24 =>
   Pn.some (JnO.of [bF, bF, bF, bT, .call [] (V.tup [E9 r11.1, E3 r11.2.1, E4 r11.2.2]) [], .wait 7, .mask [6, 7, 8], .ren []] (p := [(r1 == 1) = false,(r1 == 1) = false,(r1 == 1) = false,(r1 == 3) = true,Fn Tryz.prog 25 [(false, E31 o), (false, E3 s5.1), (false, E3 s5.2)] (V.tup [E9 r11.1, E3 r11.2.1, E4 r11.2.2]) [],(true || ((V.tup [E9 r11.1, E3 r11.2.1, E4 r11.2.2]).nv && nvL [])) = true]) (by kernel_rfl) (cj h21 (cj h21 (cj h21 (cj h23 (cj (spec_GetBcd_ok o s5.1 s5.2 r11 h24) (cj1 rfl))))))))) (fun h23 =>
   Pn.some (JnO.of [bF, bF, bF, bF, .mask [0, 1, 10], .ren []] (p := [(r1 == 1) = false,(r1 == 1) = false,(r1 == 1) = false,(r1 == 3) = false]) (by kernel_rfl) (cj h21 (cj h21 (cj h21 (cj1 h23)))))))
def spec_GetField_c4 (o : List Int) (s5 : Int × Int) : Option (Lo Unit Unit) :=
 if (decide ((o.length : Int) < s5.1)) = true then
 some (.ret ())
 else
 if (decide ((i64 ((o.length : Int) - s5.1)) < s5.2)) = true then
 some (.ret ())
 else
 if (decide (0 ≤ s5.1)) = true then
 if (decide (s5.1 ≤ (i64 (s5.1 + s5.2)))) = true then
 if (decide ((i64 (s5.1 + s5.2)) ≤ (o.length : Int))) = true then
 (spec_Printable (bstr ((o.take ((i64 (s5.1 + s5.2)).toNat)).drop s5.1.toNat))).bind fun r13 =>
 if r13 = true then
 some (.out ())
 else
 some (.ret ())
 else none
 else none
 else none
theorem spec_GetField_c4_ok (o : List Int) (s5 : Int × Int) : Pn (JnO Tryz.prog (sub (codeOf Tryz.prog 27) [1, 1, 1, 1, 1, 1, 0]) (st 92 [(0, lF5 o), (1, vI s5.1), (10, vI s5.2)] [] []) (fun (y : Lo Unit Unit) => Lo.elim y (fun s => (X.go, st 92 [(0, lF5 o), (1, vI s5.1), (10, vI s5.2)] [] [])) (fun s => (X.ret, st 92 [(6, vS (bs [])), (7, vI 0), (8, vB false)] [] [])))) (spec_GetField_c4 o s5) := by
  unfold spec_GetField_c4
  exact
   Pn.ite (fun h28 =>
   Pn.some (JnO.of [.wait 3, .nm 61 (vI (o.length : Int)), bT, bT, bT, bT, bT, bT, bT, bT, bT, bT, bT, bT, bT, bT, bT, bT, bT, bT, .wait 3, .mask [6, 7, 8], .ren []] (p := [vI ((List.map E5 o).length : Int) = vI (o.length : Int),(decide ((o.length : Int) < s5.1)) = true,(decide ((o.length : Int) < s5.1)) = true,(decide ((o.length : Int) < s5.1)) = true,(decide ((o.length : Int) < s5.1)) = true,(decide ((o.length : Int) < s5.1)) = true,(decide ((o.length : Int) < s5.1)) = true,(decide ((o.length : Int) < s5.1)) = true,true = true,true = true,true = true,true = true,true = true,true = true,true = true,true = true,true = true,true = true,true = true]) (by kernel_rfl) (cj (len_nm _ _) (cj h28 (cj h28 (cj h28 (cj h28 (cj h28 (cj h28 (cj h28 (cj rfl (cj rfl (cj rfl (cj rfl (cj rfl (cj rfl (cj rfl (cj rfl (cj rfl (cj rfl (cj1 rfl))))))))))))))))))))) (fun h28 =>
   Pn.ite (fun h29 =>
   Pn.some (JnO.of [.wait 3, .nm 61 (vI (o.length : Int)), bF, bF, bF, .nm 66 (vI (o.length : Int)), bF, bF, bF, bF, bT, bT, bT, bT, bT, bT, bT, bT, bT, bT, bT, .wait 3, .mask [6, 7, 8], .ren []] (p := [vI ((List.map E5 o).length : Int) = vI (o.length : Int),(decide ((o.length : Int) < s5.1)) = false,(decide ((o.length : Int) < s5.1)) = false,(decide ((o.length : Int) < s5.1)) = false,vI ((List.map E5 o).length : Int) = vI (o.length : Int),(decide ((o.length : Int) < s5.1)) = false,(decide ((o.length : Int) < s5.1)) = false,(decide ((o.length : Int) < s5.1)) = false,(decide ((o.length : Int) < s5.1)) = false,(decide ((i64 ((o.length : Int) - s5.1)) < s5.2)) = true,(decide ((i64 ((o.length : Int) - s5.1)) < s5.2)) = true,(decide ((i64 ((o.length : Int) - s5.1)) < s5.2)) = true,(decide ((i64 ((o.length : Int) - s5.1)) < s5.2)) = true,(decide ((i64 ((o.length : Int) - s5.1)) < s5.2)) = true,(decide ((i64 ((o.length : Int) - s5.1)) < s5.2)) = true,(decide ((i64 ((o.length : Int) - s5.1)) < s5.2)) = true,(decide ((i64 ((o.length : Int) - s5.1)) < s5.2)) = true,(decide ((i64 ((o.length : Int) - s5.1)) < s5.2)) = true,(decide ((i64 ((o.length : Int) - s5.1)) < s5.2)) = true,true = true]) (by kernel_rfl) (cj (len_nm _ _) (cj h28 (cj h28 (cj h28 (cj (len_nm _ _) (cj h28 (cj h28 (cj h28 (cj h28 (cj h29 (cj h29 (cj h29 (cj h29 (cj h29 (cj h29 (cj h29 (cj h29 (cj h29 (cj h29 (cj1 rfl)))))))))))))))))))))) (fun h29 =>
   Pn.ite (fun h30 =>
   Pn.ite (fun h31 =>
   Pn.ite (fun h32 =>
   Pn.bind (fun r13 h33 =>
   Pn.ite (fun h34 =>
   Pn.some (JnO.of [.wait 3, .nm 61 (vI (o.length : Int)), bF, bF, bF, .nm 66 (vI (o.length : Int)), bF, bF, bF, bF, bF, bF, bF, bF, bF, bF, .nm 77 (lF5 ((o.take ((i64 (s5.1 + s5.2)).toNat)).drop s5.1.toNat)), bF, .ints ((o.take ((i64 (s5.1 + s5.2)).toNat)).drop s5.1.toNat), bF, .call [] (E4 r13) [], bF, bF, bF, .mask [0, 1, 10], .ren []] (p := [vI ((List.map E5 o).length : Int) = vI (o.length : Int),(decide ((o.length : Int) < s5.1)) = false,(decide ((o.length : Int) < s5.1)) = false,(decide ((o.length : Int) < s5.1)) = false,vI ((List.map E5 o).length : Int) = vI (o.length : Int),(decide ((o.length : Int) < s5.1)) = false,(decide ((o.length : Int) < s5.1)) = false,(decide ((o.length : Int) < s5.1)) = false,(decide ((o.length : Int) < s5.1)) = false,(decide ((i64 ((o.length : Int) - s5.1)) < s5.2)) = false,(decide ((i64 ((o.length : Int) - s5.1)) < s5.2)) = false,(decide ((i64 ((o.length : Int) - s5.1)) < s5.2)) = false,(decide ((i64 ((o.length : Int) - s5.1)) < s5.2)) = false,(decide ((i64 ((o.length : Int) - s5.1)) < s5.2)) = false,(decide ((i64 ((o.length : Int) - s5.1)) < s5.2)) = false,(0 : Int) ≤ s5.1,(s5.1 : Int) ≤ (i64 (s5.1 + s5.2)),((i64 (s5.1 + s5.2)) : Int) ≤ ((List.map E5 o).length : Int),V.sl false 5 (((List.map E5 o).take ((i64 (s5.1 + s5.2)).toNat)).drop s5.1.toNat) = lF5 ((o.take ((i64 (s5.1 + s5.2)).toNat)).drop s5.1.toNat),(decide ((i64 ((o.length : Int) - s5.1)) < s5.2)) = false,(List.map E5 ((o.take ((i64 (s5.1 + s5.2)).toNat)).drop s5.1.toNat)) = ((o.take ((i64 (s5.1 + s5.2)).toNat)).drop s5.1.toNat).map fun n => V.sc (.int .u8 n),(decide ((i64 ((o.length : Int) - s5.1)) < s5.2)) = false,Fn Tryz.prog 58 [(false, E9 (bstr ((o.take ((i64 (s5.1 + s5.2)).toNat)).drop s5.1.toNat)))] (E4 r13) [],(true || ((E4 r13).nv && nvL [])) = true,(decide ((i64 ((o.length : Int) - s5.1)) < s5.2)) = false,(decide ((i64 ((o.length : Int) - s5.1)) < s5.2)) = false,(!r13) = false]) (by kernel_rfl) (cj (len_nm _ _) (cj h28 (cj h28 (cj h28 (cj (len_nm _ _) (cj h28 (cj h28 (cj h28 (cj h28 (cj h29 (cj h29 (cj h29 (cj h29 (cj h29 (cj h29 (cj (od h30) (cj (od h31) (cj (by rw [List.length_map]; exact (od h32)) (cj (nm_cut _ _ _ _ _) (cj h29 (cj rfl (cj h29 (cj (spec_Printable_ok (bstr ((o.take ((i64 (s5.1 + s5.2)).toNat)).drop s5.1.toNat)) r13 h33) (cj rfl (cj h29 (cj h29 (cj1 (nf h34)))))))))))))))))))))))))))))) (fun h34 =>
   Pn.some (JnO.of [.wait 3, .nm 61 (vI (o.length : Int)), bF, bF, bF, .nm 66 (vI (o.length : Int)), bF, bF, bF, bF, bF, bF, bF, bF, bF, bF, .nm 77 (lF5 ((o.take ((i64 (s5.1 + s5.2)).toNat)).drop s5.1.toNat)), bF, .ints ((o.take ((i64 (s5.1 + s5.2)).toNat)).drop s5.1.toNat), bF, .call [] (E4 r13) [], bF, bF, bT, .wait 3, .mask [6, 7, 8], .ren []] (p := [vI ((List.map E5 o).length : Int) = vI (o.length : Int),(decide ((o.length : Int) < s5.1)) = false,(decide ((o.length : Int) < s5.1)) = false,(decide ((o.length : Int) < s5.1)) = false,vI ((List.map E5 o).length : Int) = vI (o.length : Int),(decide ((o.length : Int) < s5.1)) = false,(decide ((o.length : Int) < s5.1)) = false,(decide ((o.length : Int) < s5.1)) = false,(decide ((o.length : Int) < s5.1)) = false,(decide ((i64 ((o.length : Int) - s5.1)) < s5.2)) = false,(decide ((i64 ((o.length : Int) - s5.1)) < s5.2)) = false,(decide ((i64 ((o.length : Int) - s5.1)) < s5.2)) = false,(decide ((i64 ((o.length : Int) - s5.1)) < s5.2)) = false,(decide ((i64 ((o.length : Int) - s5.1)) < s5.2)) = false,(decide ((i64 ((o.length : Int) - s5.1)) < s5.2)) = false,(0 : Int) ≤ s5.1,(s5.1 : Int) ≤ (i64 (s5.1 + s5.2)),((i64 (s5.1 + s5.2)) : Int) ≤ ((List.map E5 o).length : Int),V.sl false 5 (((List.map E5 o).take ((i64 (s5.1 + s5.2)).toNat)).drop s5.1.toNat) = lF5 ((o.take ((i64 (s5.1 + s5.2)).toNat)).drop s5.1.toNat),(decide ((i64 ((o.length : Int) - s5.1)) < s5.2)) = false,(List.map E5 ((o.take ((i64 (s5.1 + s5.2)).toNat)).drop s5.1.toNat)) = ((o.take ((i64 (s5.1 + s5.2)).toNat)).drop s5.1.toNat).map fun n => V.sc (.int .u8 n),(decide ((i64 ((o.length : Int) - s5.1)) < s5.2)) = false,Fn Tryz.prog 58 [(false, E9 (bstr ((o.take ((i64 (s5.1 + s5.2)).toNat)).drop s5.1.toNat)))] (E4 r13) [],(true || ((E4 r13).nv && nvL [])) = true,(decide ((i64 ((o.length : Int) - s5.1)) < s5.2)) = false,(decide ((i64 ((o.length : Int) - s5.1)) < s5.2)) = false,(!r13) = true]) (by kernel_rfl) (cj (len_nm _ _) (cj h28 (cj h28 (cj h28 (cj (len_nm _ _) (cj h28 (cj h28 (cj h28 (cj h28 (cj h29 (cj h29 (cj h29 (cj h29 (cj h29 (cj h29 (cj (od h30) (cj (od h31) (cj (by rw [List.length_map]; exact (od h32)) (cj (nm_cut _ _ _ _ _) (cj h29 (cj rfl (cj h29 (cj (spec_Printable_ok (bstr ((o.take ((i64 (s5.1 + s5.2)).toNat)).drop s5.1.toNat)) r13 h33) (cj rfl (cj h29 (cj h29 (cj1 (nt h34)))))))))))))))))))))))))))))))) (fun h32 =>
   Pn.none)) (fun h31 =>
   Pn.none)) (fun h30 =>
   Pn.none)))
def spec_GetField (o : List Int) (o_ : Int) (a2 : Int) : Option (ByteArray × Int × Bool) :=
 (spec_FieldKind a2).bind fun r1 =>
 (spec_FieldSize a2).bind fun r2 =>
 (spec_GetField_c0 o o_ r1 r2).bind fun r3 =>
 Lo.elim r3 (fun s1 =>
 (spec_GetField_c1 o o_ r1 r2).bind fun r9 =>
 Lo.elim r9 (fun s5 =>
 (spec_GetField_c3 o r1 s5).bind fun r12 =>
 Lo.elim r12 (fun s7 =>
 (spec_GetField_c4 o s5).bind fun r14 =>
 Lo.elim r14 (fun s9 =>
 if (decide (0 ≤ s5.1)) = true then
 if (decide (s5.1 ≤ (i64 (s5.1 + s5.2)))) = true then
 if (decide ((i64 (s5.1 + s5.2)) ≤ (o.length : Int))) = true then
 some (bstr ((o.take ((i64 (s5.1 + s5.2)).toNat)).drop s5.1.toNat), i64 (s5.1 + s5.2), true)
 else none
 else none
 else none) (fun s10 =>
 some (bs [], 0, false))) (fun s8 =>
 some (s8.1, s8.2.1, s8.2.2))) (fun s6 =>
 some (bs [], 0, false))) (fun s2 =>
 some (bs [], 0, false))
theorem spec_GetField_ok (o : List Int) (o_ : Int) (a2 : Int) : Pn (fun y => Fn Tryz.prog 27 [(false, E31 o), (false, E3 o_), (false, E3 a2)] (V.tup [E9 y.1, E3 y.2.1, E4 y.2.2]) []) (spec_GetField o o_ a2) := by
  unfold spec_GetField
  exact
   Pn.bind (fun r1 h1 =>
   Pn.bind (fun r2 h2 =>
   Pn.bind (fun r3 h5 =>
   Pn.lo (fun s1 h6 =>
   Pn.bind (fun r9 h18 =>
   Pn.lo (fun s5 h19 =>
   Pn.bind (fun r12 h25 =>
   Pn.lo (fun s7 h26 =>
   Pn.bind (fun r14 h35 =>
   Pn.lo (fun s9 h36 =>
   Pn.ite (fun h38 =>
   Pn.ite (fun h39 =>
   Pn.ite (fun h40 =>
   Pn.some (Fn.of [.call [] (E3 r1) [], .call [] (E3 r2) [], .wait 2, .mask [0, 1, 9, 10], .ren [], .join 7 (X.go) (st 92 [(0, lF5 o), (1, vI o_), (9, vI r1), (10, vI r2)] [] []), .wait 1, .mask [0, 1, 9, 10], .ren [], .join 17 (X.go) (st 92 [(0, lF5 o), (1, vI s5.1), (9, vI r1), (10, vI s5.2)] [] []), .wait 1, .mask [0, 1, 9, 10], .ren [], .join 7 (X.go) (st 92 [(0, lF5 o), (1, vI s5.1), (10, vI s5.2)] [] []), .wait 1, .mask [0, 1, 10], .ren [], .join 7 (X.go) (st 92 [(0, lF5 o), (1, vI s5.1), (10, vI s5.2)] [] []), .wait 6, .nm 87 (lF5 ((o.take ((i64 (s5.1 + s5.2)).toNat)).drop s5.1.toNat)), .ints ((o.take ((i64 (s5.1 + s5.2)).toNat)).drop s5.1.toNat)] (p := [Fn Tryz.prog 53 [(false, E3 a2)] (E3 r1) [],(true || ((E3 r1).nv && nvL [])) = true,Fn Tryz.prog 54 [(false, E3 a2)] (E3 r2) [],(true || ((E3 r2).nv && nvL [])) = true,HT Tryz.prog (sub (codeOf Tryz.prog 27) [1, 1, 1, 0]) (st 92 [(0, lF5 o), (1, vI o_), (9, vI r1), (10, vI r2)] [] []) (X.go) (st 92 [(0, lF5 o), (1, vI o_), (9, vI r1), (10, vI r2)] [] []),HT Tryz.prog (sub (codeOf Tryz.prog 27) [1, 1, 1, 1, 0]) (st 92 [(0, lF5 o), (1, vI o_), (9, vI r1), (10, vI r2)] [] []) (X.go) (st 92 [(0, lF5 o), (1, vI s5.1), (9, vI r1), (10, vI s5.2)] [] []),HT Tryz.prog (sub (codeOf Tryz.prog 27) [1, 1, 1, 1, 1, 0]) (st 92 [(0, lF5 o), (1, vI s5.1), (9, vI r1), (10, vI s5.2)] [] []) (X.go) (st 92 [(0, lF5 o), (1, vI s5.1), (10, vI s5.2)] [] []),HT Tryz.prog (sub (codeOf Tryz.prog 27) [1, 1, 1, 1, 1, 1, 0]) (st 92 [(0, lF5 o), (1, vI s5.1), (10, vI s5.2)] [] []) (X.go) (st 92 [(0, lF5 o), (1, vI s5.1), (10, vI s5.2)] [] []),(0 : Int) ≤ s5.1,(s5.1 : Int) ≤ (i64 (s5.1 + s5.2)),((i64 (s5.1 + s5.2)) : Int) ≤ ((List.map E5 o).length : Int),V.sl false 5 (((List.map E5 o).take ((i64 (s5.1 + s5.2)).toNat)).drop s5.1.toNat) = lF5 ((o.take ((i64 (s5.1 + s5.2)).toNat)).drop s5.1.toNat),(List.map E5 ((o.take ((i64 (s5.1 + s5.2)).toNat)).drop s5.1.toNat)) = ((o.take ((i64 (s5.1 + s5.2)).toNat)).drop s5.1.toNat).map fun n => V.sc (.int .u8 n)]) (by kernel_rfl) (cj (spec_FieldKind_ok a2 r1 h1) (cj rfl (cj (spec_FieldSize_ok a2 r2 h2) (cj rfl (cj ((spec_GetField_c0_ok o o_ r1 r2 r3 h5).at h6 :) (cj ((spec_GetField_c1_ok o o_ r1 r2 r9 h18).at h19 :) (cj ((spec_GetField_c3_ok o r1 s5 r12 h25).at h26 :) (cj ((spec_GetField_c4_ok o s5 r14 h35).at h36 :) (cj (od h38) (cj (od h39) (cj (by rw [List.length_map]; exact (od h40)) (cj (nm_cut _ _ _ _ _) (cj1 rfl))))))))))))))) (fun h40 =>
   Pn.none)) (fun h39 =>
   Pn.none)) (fun h38 =>
   Pn.none)) (fun s10 h37 =>
   Pn.some (Fn.of [.call [] (E3 r1) [], .call [] (E3 r2) [], .wait 2, .mask [0, 1, 9, 10], .ren [], .join 7 (X.go) (st 92 [(0, lF5 o), (1, vI o_), (9, vI r1), (10, vI r2)] [] []), .wait 1, .mask [0, 1, 9, 10], .ren [], .join 17 (X.go) (st 92 [(0, lF5 o), (1, vI s5.1), (9, vI r1), (10, vI s5.2)] [] []), .wait 1, .mask [0, 1, 9, 10], .ren [], .join 7 (X.go) (st 92 [(0, lF5 o), (1, vI s5.1), (10, vI s5.2)] [] []), .wait 1, .mask [0, 1, 10], .ren [], .join 7 (X.ret) (st 92 [(6, vS (bs [])), (7, vI 0), (8, vB false)] [] [])] (p := [Fn Tryz.prog 53 [(false, E3 a2)] (E3 r1) [],(true || ((E3 r1).nv && nvL [])) = true,Fn Tryz.prog 54 [(false, E3 a2)] (E3 r2) [],(true || ((E3 r2).nv && nvL [])) = true,HT Tryz.prog (sub (codeOf Tryz.prog 27) [1, 1, 1, 0]) (st 92 [(0, lF5 o), (1, vI o_), (9, vI r1), (10, vI r2)] [] []) (X.go) (st 92 [(0, lF5 o), (1, vI o_), (9, vI r1), (10, vI r2)] [] []),HT Tryz.prog (sub (codeOf Tryz.prog 27) [1, 1, 1, 1, 0]) (st 92 [(0, lF5 o), (1, vI o_), (9, vI r1), (10, vI r2)] [] []) (X.go) (st 92 [(0, lF5 o), (1, vI s5.1), (9, vI r1), (10, vI s5.2)] [] []),HT Tryz.prog (sub (codeOf Tryz.prog 27) [1, 1, 1, 1, 1, 0]) (st 92 [(0, lF5 o), (1, vI s5.1), (9, vI r1), (10, vI s5.2)] [] []) (X.go) (st 92 [(0, lF5 o), (1, vI s5.1), (10, vI s5.2)] [] []),HT Tryz.prog (sub (codeOf Tryz.prog 27) [1, 1, 1, 1, 1, 1, 0]) (st 92 [(0, lF5 o), (1, vI s5.1), (10, vI s5.2)] [] []) (X.ret) (st 92 [(6, vS (bs [])), (7, vI 0), (8, vB false)] [] [])]) (by kernel_rfl) (cj (spec_FieldKind_ok a2 r1 h1) (cj rfl (cj (spec_FieldSize_ok a2 r2 h2) (cj rfl (cj ((spec_GetField_c0_ok o o_ r1 r2 r3 h5).at h6 :) (cj ((spec_GetField_c1_ok o o_ r1 r2 r9 h18).at h19 :) (cj ((spec_GetField_c3_ok o r1 s5 r12 h25).at h26 :) (cj1 ((spec_GetField_c4_ok o s5 r14 h35).at h37 :))))))))))))) (fun s8 h27 =>
   Pn.some (Fn.of [.call [] (E3 r1) [], .call [] (E3 r2) [], .wait 2, .mask [0, 1, 9, 10], .ren [], .join 7 (X.go) (st 92 [(0, lF5 o), (1, vI o_), (9, vI r1), (10, vI r2)] [] []), .wait 1, .mask [0, 1, 9, 10], .ren [], .join 17 (X.go) (st 92 [(0, lF5 o), (1, vI s5.1), (9, vI r1), (10, vI s5.2)] [] []), .wait 1, .mask [0, 1, 9, 10], .ren [], .join 7 (X.ret) (st 92 [(6, vS s8.1), (7, vI s8.2.1), (8, vB s8.2.2)] [] [])] (p := [Fn Tryz.prog 53 [(false, E3 a2)] (E3 r1) [],(true || ((E3 r1).nv && nvL [])) = true,Fn Tryz.prog 54 [(false, E3 a2)] (E3 r2) [],(true || ((E3 r2).nv && nvL [])) = true,HT Tryz.prog (sub (codeOf Tryz.prog 27) [1, 1, 1, 0]) (st 92 [(0, lF5 o), (1, vI o_), (9, vI r1), (10, vI r2)] [] []) (X.go) (st 92 [(0, lF5 o), (1, vI o_), (9, vI r1), (10, vI r2)] [] []),HT Tryz.prog (sub (codeOf Tryz.prog 27) [1, 1, 1, 1, 0]) (st 92 [(0, lF5 o), (1, vI o_), (9, vI r1), (10, vI r2)] [] []) (X.go) (st 92 [(0, lF5 o), (1, vI s5.1), (9, vI r1), (10, vI s5.2)] [] []),HT Tryz.prog (sub (codeOf Tryz.prog 27) [1, 1, 1, 1, 1, 0]) (st 92 [(0, lF5 o), (1, vI s5.1), (9, vI r1), (10, vI s5.2)] [] []) (X.ret) (st 92 [(6, vS s8.1), (7, vI s8.2.1), (8, vB s8.2.2)] [] [])]) (by kernel_rfl) (cj (spec_FieldKind_ok a2 r1 h1) (cj rfl (cj (spec_FieldSize_ok a2 r2 h2) (cj rfl (cj ((spec_GetField_c0_ok o o_ r1 r2 r3 h5).at h6 :) (cj ((spec_GetField_c1_ok o o_ r1 r2 r9 h18).at h19 :) (cj1 ((spec_GetField_c3_ok o r1 s5 r12 h25).at h27 :)))))))))))) (fun s6 h20 =>
   Pn.some (Fn.of [.call [] (E3 r1) [], .call [] (E3 r2) [], .wait 2, .mask [0, 1, 9, 10], .ren [], .join 7 (X.go) (st 92 [(0, lF5 o), (1, vI o_), (9, vI r1), (10, vI r2)] [] []), .wait 1, .mask [0, 1, 9, 10], .ren [], .join 17 (X.ret) (st 92 [(6, vS (bs [])), (7, vI 0), (8, vB false)] [] [])] (p := [Fn Tryz.prog 53 [(false, E3 a2)] (E3 r1) [],(true || ((E3 r1).nv && nvL [])) = true,Fn Tryz.prog 54 [(false, E3 a2)] (E3 r2) [],(true || ((E3 r2).nv && nvL [])) = true,HT Tryz.prog (sub (codeOf Tryz.prog 27) [1, 1, 1, 0]) (st 92 [(0, lF5 o), (1, vI o_), (9, vI r1), (10, vI r2)] [] []) (X.go) (st 92 [(0, lF5 o), (1, vI o_), (9, vI r1), (10, vI r2)] [] []),HT Tryz.prog (sub (codeOf Tryz.prog 27) [1, 1, 1, 1, 0]) (st 92 [(0, lF5 o), (1, vI o_), (9, vI r1), (10, vI r2)] [] []) (X.ret) (st 92 [(6, vS (bs [])), (7, vI 0), (8, vB false)] [] [])]) (by kernel_rfl) (cj (spec_FieldKind_ok a2 r1 h1) (cj rfl (cj (spec_FieldSize_ok a2 r2 h2) (cj rfl (cj ((spec_GetField_c0_ok o o_ r1 r2 r3 h5).at h6 :) (cj1 ((spec_GetField_c1_ok o o_ r1 r2 r9 h18).at h20 :))))))))))) (fun s2 h7 =>
   Pn.some (Fn.of [.call [] (E3 r1) [], .call [] (E3 r2) [], .wait 2, .mask [0, 1, 9, 10], .ren [], .join 7 (X.ret) (st 92 [(6, vS (bs [])), (7, vI 0), (8, vB false)] [] [])] (p := [Fn Tryz.prog 53 [(false, E3 a2)] (E3 r1) [],(true || ((E3 r1).nv && nvL [])) = true,Fn Tryz.prog 54 [(false, E3 a2)] (E3 r2) [],(true || ((E3 r2).nv && nvL [])) = true,HT Tryz.prog (sub (codeOf Tryz.prog 27) [1, 1, 1, 0]) (st 92 [(0, lF5 o), (1, vI o_), (9, vI r1), (10, vI r2)] [] []) (X.ret) (st 92 [(6, vS (bs [])), (7, vI 0), (8, vB false)] [] [])]) (by kernel_rfl) (cj (spec_FieldKind_ok a2 r1 h1) (cj rfl (cj (spec_FieldSize_ok a2 r2 h2) (cj rfl (cj1 ((spec_GetField_c0_ok o o_ r1 r2 r3 h5).at h7 :)))))))))))
def spec_Parse_c0 (o : List Int) (r1 : ByteArray × Int × Bool) : Option (Lo Unit Unit) :=
 if r1.2.2 = true then
 some (.out ())
 else
 some (.ret ())
theorem spec_Parse_c0_ok (o : List Int) (r1 : ByteArray × Int × Bool) : Pn (JnO Tryz.prog (sub (codeOf Tryz.prog 19) [1, 1, 0]) (st 68 [(0, lF5 o), (2, V.ptr 0 0), (4, vS r1.1), (6, vB r1.2.2)] [Blk.box 46 [vE, V.nl 59]] []) (fun (y : Lo Unit Unit) => Lo.elim y (fun s => (X.go, st 68 [(0, lF5 o), (2, V.ptr 0 0), (4, vS r1.1)] [Blk.box 46 [vE, V.nl 59]] [])) (fun s => (X.ret, st 68 [(2, V.ptr 0 0), (3, vI 1)] [Blk.box 46 [vE, V.nl 59]] [])))) (spec_Parse_c0 o r1) := by
  unfold spec_Parse_c0
  exact
   Pn.ite (fun h2 =>
   Pn.some (JnO.of [bF, .mask [0, 2, 4], .ren [0]] (p := [(!r1.2.2) = false]) (by kernel_rfl) (cj1 (nf h2)))) (fun h2 =>
   Pn.some (JnO.of [bT, .wait 3, .mask [2, 3], .ren [0]] (p := [(!r1.2.2) = true]) (by kernel_rfl) (cj1 (nt h2))))
def spec_Parse_c1 (o : List Int) (r1 : ByteArray × Int × Bool) (r3 : (List Int) × Int × Bool) : Option (Lo Unit Unit) :=
 if r3.2.2 = true then
 some (.out ())
 else
 some (.ret ())
theorem spec_Parse_c1_ok (o : List Int) (r1 : ByteArray × Int × Bool) (r3 : (List Int) × Int × Bool) : Pn (JnO Tryz.prog (sub (codeOf Tryz.prog 19) [1, 1, 1, 1, 0]) (st 68 [(0, lF5 o), (2, V.ptr 0 0), (4, vS r1.1), (6, vB r3.2.2), (7, V.ow 1), (8, vI r3.2.1)] [Blk.box 46 [vE, V.nl 59], Blk.row 3 (List.map E3 r3.1) []] []) (fun (y : Lo Unit Unit) => Lo.elim y (fun s => (X.go, st 68 [(0, lF5 o), (2, V.ptr 0 0), (4, vS r1.1), (7, V.ow 1), (8, vI r3.2.1)] [Blk.box 46 [vE, V.nl 59], Blk.row 3 (List.map E3 r3.1) []] [])) (fun s => (X.ret, st 68 [(2, V.ptr 0 0), (3, vI 2)] [Blk.box 46 [vE, V.nl 59]] [])))) (spec_Parse_c1 o r1 r3) := by
  unfold spec_Parse_c1
  exact
   Pn.ite (fun h7 =>
   Pn.some (JnO.of [bF, .mask [0, 2, 4, 7, 8], .ren [0, 1]] (p := [(!r3.2.2) = false]) (by kernel_rfl) (cj1 (nf h7)))) (fun h7 =>
   Pn.some (JnO.of [bT, .wait 3, .mask [2, 3], .ren [0]] (p := [(!r3.2.2) = true]) (by kernel_rfl) (cj1 (nt h7))))
def spec_Parse_c8 (o : List Int) (r1 : ByteArray × Int × Bool) (r3 : (List Int) × Int × Bool) (v1 : Int) (v2 : Int) (v3 : List Field) : Option (Lo Unit Unit) :=
 if (decide (v1 < (r3.1.length : Int))) = true then
 some (.out ())
 else
 some (.ret ())
theorem spec_Parse_c8_ok (o : List Int) (r1 : ByteArray × Int × Bool) (r3 : (List Int) × Int × Bool) (v1 : Int) (v2 : Int) (v3 : List Field) : Pn (JnO Tryz.prog (sub (codeOf Tryz.prog 19) [1, 1, 1, 1, 1, 1, 0, 1, 0, 0, 1, 0]) (st 68 [(0, lF5 o), (2, V.ptr 0 0), (8, vI v2), (9, V.ptr 1 0), (35, V.ow 3), (36, vI (r3.1.length : Int)), (37, vI v1), (38, vB (decide (v1 < (r3.1.length : Int))))] [Blk.box 46 [vE, V.nl 59], Blk.box 46 [vS r1.1, V.ow 2], Blk.row 59 (List.map E59 v3) [], Blk.row 3 (List.map E3 r3.1) []] []) (fun (y : Lo Unit Unit) => Lo.elim y (fun s => (X.go, st 68 [(0, lF5 o), (2, V.ptr 0 0), (8, vI v2), (9, V.ptr 1 0), (35, V.ow 3), (36, vI (r3.1.length : Int)), (37, vI v1)] [Blk.box 46 [vE, V.nl 59], Blk.box 46 [vS r1.1, V.ow 2], Blk.row 59 (List.map E59 v3) [], Blk.row 3 (List.map E3 r3.1) []] [])) (fun s => (X.out 0, st 68 [(0, lF5 o), (2, V.ptr 0 0), (8, vI v2), (9, V.ptr 1 0)] [Blk.box 46 [vE, V.nl 59], Blk.box 46 [vS r1.1, V.ow 2], Blk.row 59 (List.map E59 v3) []] [])))) (spec_Parse_c8 o r1 r3 v1 v2 v3) := by
  unfold spec_Parse_c8
  exact
   Pn.ite (fun h11 =>
   Pn.some (JnO.of [bT, .mask [0, 2, 8, 9, 35, 36, 37], .ren [0, 1, 2, 3]] (p := [(decide (v1 < (r3.1.length : Int))) = true]) (by kernel_rfl) (cj1 h11))) (fun h11 =>
   Pn.some (JnO.of [bF, .mask [0, 2, 8, 9], .ren [0, 1, 2]] (p := [(decide (v1 < (r3.1.length : Int))) = false]) (by kernel_rfl) (cj1 h11)))
def spec_Parse_c10 (o : List Int) (r1 : ByteArray × Int × Bool) (r3 : (List Int) × Int × Bool) (v1 : Int) (v3 : List Field) (x1 : Int) (r6 : ByteArray × Int × Bool) : Option (Lo Unit Unit) :=
 if r6.2.2 = true then
 some (.out ())
 else
 some (.ret ())
theorem spec_Parse_c10_ok (o : List Int) (r1 : ByteArray × Int × Bool) (r3 : (List Int) × Int × Bool) (v1 : Int) (v3 : List Field) (x1 : Int) (r6 : ByteArray × Int × Bool) : Pn (JnO Tryz.prog (sub (codeOf Tryz.prog 19) [1, 1, 1, 1, 1, 1, 0, 1, 0, 0, 1, 1, 0, 0, 1, 1, 0]) (st 68 [(0, lF5 o), (2, V.ptr 0 0), (9, V.ptr 1 0), (11, vI x1), (12, vS r6.1), (13, vI r6.2.1), (14, vB r6.2.2), (35, V.ow 3), (36, vI (r3.1.length : Int)), (37, vI v1)] [Blk.box 46 [vE, V.nl 59], Blk.box 46 [vS r1.1, V.ow 2], Blk.row 59 (List.map E59 v3) [], Blk.row 3 (List.map E3 r3.1) []] []) (fun (y : Lo Unit Unit) => Lo.elim y (fun s => (X.go, st 68 [(0, lF5 o), (2, V.ptr 0 0), (9, V.ptr 1 0), (11, vI x1), (12, vS r6.1), (13, vI r6.2.1), (35, V.ow 3), (36, vI (r3.1.length : Int)), (37, vI v1)] [Blk.box 46 [vE, V.nl 59], Blk.box 46 [vS r1.1, V.ow 2], Blk.row 59 (List.map E59 v3) [], Blk.row 3 (List.map E3 r3.1) []] [])) (fun s => (X.ret, st 68 [(2, V.ptr 0 0), (3, vI 3)] [Blk.box 46 [vE, V.nl 59]] [])))) (spec_Parse_c10 o r1 r3 v1 v3 x1 r6) := by
  unfold spec_Parse_c10
  exact
   Pn.ite (fun h18 =>
   Pn.some (JnO.of [bF, .mask [0, 2, 9, 11, 12, 13, 35, 36, 37], .ren [0, 1, 2, 3]] (p := [(!r6.2.2) = false]) (by kernel_rfl) (cj1 (nf h18)))) (fun h18 =>
   Pn.some (JnO.of [bT, .wait 3, .mask [2, 3], .ren [0]] (p := [(!r6.2.2) = true]) (by kernel_rfl) (cj1 (nt h18))))
def spec_Parse_c9 (o : List Int) (r1 : ByteArray × Int × Bool) (r3 : (List Int) × Int × Bool) (v1 : Int) (v2 : Int) (v3 : List Field) : Option (Lo (Int × (List Field)) Unit) :=
 if (decide (0 ≤ v1)) = true then
 (r3.1[v1.toNat]?).bind fun x1 =>
 (spec_GetField o v2 x1).bind fun r6 =>
 (spec_Parse_c10 o r1 r3 v1 v3 x1 r6).bind fun r7 =>
 Lo.elim r7 (fun s7 =>
 if (capOk (v3.length + 1)) = true then
 some (.out (r6.2.1, (v3 ++ [(Field.mk x1 r6.1)])))
 else none) (fun s8 =>
 some (.ret ()))
 else none
theorem spec_Parse_c9_ok (o : List Int) (r1 : ByteArray × Int × Bool) (r3 : (List Int) × Int × Bool) (v1 : Int) (v2 : Int) (v3 : List Field) : Pn (JnO Tryz.prog (sub (codeOf Tryz.prog 19) [1, 1, 1, 1, 1, 1, 0, 1, 0, 0, 1, 1, 0]) (st 68 [(0, lF5 o), (2, V.ptr 0 0), (8, vI v2), (9, V.ptr 1 0), (35, V.ow 3), (36, vI (r3.1.length : Int)), (37, vI v1)] [Blk.box 46 [vE, V.nl 59], Blk.box 46 [vS r1.1, V.ow 2], Blk.row 59 (List.map E59 v3) [], Blk.row 3 (List.map E3 r3.1) []] []) (fun (y : Lo (Int × (List Field)) Unit) => Lo.elim y (fun s => (X.go, st 68 [(0, lF5 o), (2, V.ptr 0 0), (8, vI s.1), (9, V.ptr 1 0), (35, V.ow 3), (36, vI (r3.1.length : Int)), (37, vI v1)] [Blk.box 46 [vE, V.nl 59], Blk.box 46 [vS r1.1, V.ow 2], Blk.row 59 (List.map E59 s.2) [], Blk.row 3 (List.map E3 r3.1) []] [])) (fun s => (X.ret, st 68 [(2, V.ptr 0 0), (3, vI 3)] [Blk.box 46 [vE, V.nl 59]] [])))) (spec_Parse_c9 o r1 r3 v1 v2 v3) := by
  unfold spec_Parse_c9
  exact
   Pn.ite (fun h15 =>
   Pn.bind (fun x1 h16 =>
   Pn.bind (fun r6 h17 =>
   Pn.bind (fun r7 h19 =>
   Pn.lo (fun s7 h20 =>
   Pn.ite (fun h22 =>
   Pn.some (JnO.of [.el (E3 x1), .call [] (V.tup [E9 r6.1, E3 r6.2.1, E4 r6.2.2]) [], .wait 8, .mask [0, 2, 9, 11, 12, 13, 14, 35, 36, 37], .ren [0, 1, 2, 3], .join 7 (X.go) (st 68 [(0, lF5 o), (2, V.ptr 0 0), (9, V.ptr 1 0), (11, vI x1), (12, vS r6.1), (13, vI r6.2.1), (35, V.ow 3), (36, vI (r3.1.length : Int)), (37, vI v1)] [Blk.box 46 [vE, V.nl 59], Blk.box 46 [vS r1.1, V.ow 2], Blk.row 59 (List.map E59 v3) [], Blk.row 3 (List.map E3 r3.1) []] []), .cp [V.agg [vI x1, vS r6.1]], .nb 5 (.row 59 (List.map E59 (v3 ++ [(Field.mk x1 r6.1)])) []), .wait 5, .mask [0, 2, 8, 9, 35, 36, 37], .ren [0, 1, 5, 3]] (p := [(0 : Int) ≤ v1,(v1 : Int) < ((List.map E3 r3.1).length : Int),look [] v1.toNat = none,(List.map E3 r3.1)[v1.toNat]? = some (E3 x1),Fn Tryz.prog 27 [(false, E31 o), (false, E3 v2), (false, E3 x1)] (V.tup [E9 r6.1, E3 r6.2.1, E4 r6.2.2]) [],(true || ((V.tup [E9 r6.1, E3 r6.2.1, E4 r6.2.2]).nv && nvL [])) = true,HT Tryz.prog (sub (codeOf Tryz.prog 19) [1, 1, 1, 1, 1, 1, 0, 1, 0, 0, 1, 1, 0, 0, 1, 1, 0]) (st 68 [(0, lF5 o), (2, V.ptr 0 0), (9, V.ptr 1 0), (11, vI x1), (12, vS r6.1), (13, vI r6.2.1), (14, vB r6.2.2), (35, V.ow 3), (36, vI (r3.1.length : Int)), (37, vI v1)] [Blk.box 46 [vE, V.nl 59], Blk.box 46 [vS r1.1, V.ow 2], Blk.row 59 (List.map E59 v3) [], Blk.row 3 (List.map E3 r3.1) []] []) (X.go) (st 68 [(0, lF5 o), (2, V.ptr 0 0), (9, V.ptr 1 0), (11, vI x1), (12, vS r6.1), (13, vI r6.2.1), (35, V.ow 3), (36, vI (r3.1.length : Int)), (37, vI v1)] [Blk.box 46 [vE, V.nl 59], Blk.box 46 [vS r1.1, V.ow 2], Blk.row 59 (List.map E59 v3) [], Blk.row 3 (List.map E3 r3.1) []] []),[V.agg [vI x1, vS r6.1]] = [V.agg [vI x1, vS r6.1]],[V.agg [vI x1, vS r6.1]].all V.flatE = true,(List.map E59 v3).length + [V.agg [vI x1, vS r6.1]].length ≤ 9223372036854775807,((List.map E59 v3).length + [V.agg [vI x1, vS r6.1]].length) * 24 ≤ 140737488355328,Blk.row 59 ((List.map E59 v3) ++ [V.agg [vI x1, vS r6.1]]) [] = Blk.row 59 (List.map E59 (v3 ++ [(Field.mk x1 r6.1)])) []]) (by kernel_rfl) (cj (od h15) (cj (map_ltN (od h15) h16) (cj rfl (cj (map_get h16) (cj (spec_GetField_ok o v2 x1 r6 h17) (cj rfl (cj ((spec_Parse_c10_ok o r1 r3 v1 v3 x1 r6 r7 h19).at h20 :) (cj rfl (cj rfl (cj (cap1 (capN (by simp) h22)) (cj (cap2 (capN (by simp) h22) (by decide)) (cj1 (nb_app E59 v3 [(Field.mk x1 r6.1)]))))))))))))))) (fun h22 =>
   Pn.none)) (fun s8 h21 =>
   Pn.some (JnO.of [.el (E3 x1), .call [] (V.tup [E9 r6.1, E3 r6.2.1, E4 r6.2.2]) [], .wait 8, .mask [0, 2, 9, 11, 12, 13, 14, 35, 36, 37], .ren [0, 1, 2, 3], .join 7 (X.ret) (st 68 [(2, V.ptr 0 0), (3, vI 3)] [Blk.box 46 [vE, V.nl 59]] []), .wait 1, .mask [2, 3], .ren [0]] (p := [(0 : Int) ≤ v1,(v1 : Int) < ((List.map E3 r3.1).length : Int),look [] v1.toNat = none,(List.map E3 r3.1)[v1.toNat]? = some (E3 x1),Fn Tryz.prog 27 [(false, E31 o), (false, E3 v2), (false, E3 x1)] (V.tup [E9 r6.1, E3 r6.2.1, E4 r6.2.2]) [],(true || ((V.tup [E9 r6.1, E3 r6.2.1, E4 r6.2.2]).nv && nvL [])) = true,HT Tryz.prog (sub (codeOf Tryz.prog 19) [1, 1, 1, 1, 1, 1, 0, 1, 0, 0, 1, 1, 0, 0, 1, 1, 0]) (st 68 [(0, lF5 o), (2, V.ptr 0 0), (9, V.ptr 1 0), (11, vI x1), (12, vS r6.1), (13, vI r6.2.1), (14, vB r6.2.2), (35, V.ow 3), (36, vI (r3.1.length : Int)), (37, vI v1)] [Blk.box 46 [vE, V.nl 59], Blk.box 46 [vS r1.1, V.ow 2], Blk.row 59 (List.map E59 v3) [], Blk.row 3 (List.map E3 r3.1) []] []) (X.ret) (st 68 [(2, V.ptr 0 0), (3, vI 3)] [Blk.box 46 [vE, V.nl 59]] [])]) (by kernel_rfl) (cj (od h15) (cj (map_ltN (od h15) h16) (cj rfl (cj (map_get h16) (cj (spec_GetField_ok o v2 x1 r6 h17) (cj rfl (cj1 ((spec_Parse_c10_ok o r1 r3 v1 v3 x1 r6 r7 h19).at h21 :)))))))))))))) (fun h15 =>
   Pn.none)
def spec_Parse_l0 (o : List Int) (r1 : ByteArray × Int × Bool) (r3 : (List Int) × Int × Bool) : Nat → Int → Int → (List Field) → Option (Lo (Int × (List Field)) Unit)
  | 0, _, _, _ => none
  | fuel + 1, v1, v2, v3 =>
   (spec_Parse_c8 o r1 r3 v1 v2 v3).bind fun r5 =>
   Lo.elim r5 (fun s5 =>
   (spec_Parse_c9 o r1 r3 v1 v2 v3).bind fun r8 =>
   Lo.elim r8 (fun s9 =>
   spec_Parse_l0 o r1 r3 fuel (i64 (v1 + 1)) s9.1 s9.2) (fun s10 =>
   some (.ret ()))) (fun s6 =>
   some (.out (v2, v3)))
theorem spec_Parse_l0_ok (o : List Int) (r1 : ByteArray × Int × Bool) (r3 : (List Int) × Int × Bool) : ∀ (fuel : Nat) (v1 : Int) (v2 : Int) (v3 : List Field), Pn (LpO Tryz.prog (sub (codeOf Tryz.prog 19) [1, 1, 1, 1, 1, 1, 0, 1, 0, 0]) (st 68 [(0, lF5 o), (2, V.ptr 0 0), (8, vI v2), (9, V.ptr 1 0), (35, V.ow 3), (36, vI (r3.1.length : Int)), (37, vI v1)] [Blk.box 46 [vE, V.nl 59], Blk.box 46 [vS r1.1, V.ow 2], Blk.row 59 (List.map E59 v3) [], Blk.row 3 (List.map E3 r3.1) []] []) (fun (y : Lo (Int × (List Field)) Unit) => Lo.elim y (fun s => (X.out 0, st 68 [(0, lF5 o), (2, V.ptr 0 0), (8, vI s.1), (9, V.ptr 1 0)] [Blk.box 46 [vE, V.nl 59], Blk.box 46 [vS r1.1, V.ow 2], Blk.row 59 (List.map E59 s.2) []] [])) (fun s => (X.ret, st 68 [(2, V.ptr 0 0), (3, vI 3)] [Blk.box 46 [vE, V.nl 59]] [])))) (spec_Parse_l0 o r1 r3 fuel v1 v2 v3)
  | 0, _, _, _ => Pn.none
  | fuel + 1, v1, v2, v3 => by
    unfold spec_Parse_l0
    exact
     Pn.bind (fun r5 h12 =>
     Pn.lo (fun s5 h13 =>
     Pn.bind (fun r8 h23 =>
     Pn.lo (fun s9 h24 =>
     LpO.go [.wait 2, .mask [0, 2, 8, 9, 35, 36, 37, 38], .ren [0, 1, 2, 3], .join 3 (X.go) (st 68 [(0, lF5 o), (2, V.ptr 0 0), (8, vI v2), (9, V.ptr 1 0), (35, V.ow 3), (36, vI (r3.1.length : Int)), (37, vI v1)] [Blk.box 46 [vE, V.nl 59], Blk.box 46 [vS r1.1, V.ow 2], Blk.row 59 (List.map E59 v3) [], Blk.row 3 (List.map E3 r3.1) []] []), .wait 1, .mask [0, 2, 8, 9, 35, 36, 37], .ren [0, 1, 2, 3], .join 16 (X.go) (st 68 [(0, lF5 o), (2, V.ptr 0 0), (8, vI s9.1), (9, V.ptr 1 0), (35, V.ow 3), (36, vI (r3.1.length : Int)), (37, vI v1)] [Blk.box 46 [vE, V.nl 59], Blk.box 46 [vS r1.1, V.ow 2], Blk.row 59 (List.map E59 s9.2) [], Blk.row 3 (List.map E3 r3.1) []] []), .wait 3, .mask [0, 2, 8, 9, 35, 36, 37], .ren [0, 1, 2, 3]] (p := [HT Tryz.prog (sub (codeOf Tryz.prog 19) [1, 1, 1, 1, 1, 1, 0, 1, 0, 0, 1, 0]) (st 68 [(0, lF5 o), (2, V.ptr 0 0), (8, vI v2), (9, V.ptr 1 0), (35, V.ow 3), (36, vI (r3.1.length : Int)), (37, vI v1), (38, vB (decide (v1 < (r3.1.length : Int))))] [Blk.box 46 [vE, V.nl 59], Blk.box 46 [vS r1.1, V.ow 2], Blk.row 59 (List.map E59 v3) [], Blk.row 3 (List.map E3 r3.1) []] []) (X.go) (st 68 [(0, lF5 o), (2, V.ptr 0 0), (8, vI v2), (9, V.ptr 1 0), (35, V.ow 3), (36, vI (r3.1.length : Int)), (37, vI v1)] [Blk.box 46 [vE, V.nl 59], Blk.box 46 [vS r1.1, V.ow 2], Blk.row 59 (List.map E59 v3) [], Blk.row 3 (List.map E3 r3.1) []] []),HT Tryz.prog (sub (codeOf Tryz.prog 19) [1, 1, 1, 1, 1, 1, 0, 1, 0, 0, 1, 1, 0]) (st 68 [(0, lF5 o), (2, V.ptr 0 0), (8, vI v2), (9, V.ptr 1 0), (35, V.ow 3), (36, vI (r3.1.length : Int)), (37, vI v1)] [Blk.box 46 [vE, V.nl 59], Blk.box 46 [vS r1.1, V.ow 2], Blk.row 59 (List.map E59 v3) [], Blk.row 3 (List.map E3 r3.1) []] []) (X.go) (st 68 [(0, lF5 o), (2, V.ptr 0 0), (8, vI s9.1), (9, V.ptr 1 0), (35, V.ow 3), (36, vI (r3.1.length : Int)), (37, vI v1)] [Blk.box 46 [vE, V.nl 59], Blk.box 46 [vS r1.1, V.ow 2], Blk.row 59 (List.map E59 s9.2) [], Blk.row 3 (List.map E3 r3.1) []] [])]) (by kernel_rfl) (cj ((spec_Parse_c8_ok o r1 r3 v1 v2 v3 r5 h12).at h13 :) (cj1 ((spec_Parse_c9_ok o r1 r3 v1 v2 v3 r8 h23).at h24 :))) (spec_Parse_l0_ok o r1 r3 fuel (i64 (v1 + 1)) s9.1 s9.2)) (fun s10 h25 =>
     Pn.some (LpO.out [.wait 2, .mask [0, 2, 8, 9, 35, 36, 37, 38], .ren [0, 1, 2, 3], .join 3 (X.go) (st 68 [(0, lF5 o), (2, V.ptr 0 0), (8, vI v2), (9, V.ptr 1 0), (35, V.ow 3), (36, vI (r3.1.length : Int)), (37, vI v1)] [Blk.box 46 [vE, V.nl 59], Blk.box 46 [vS r1.1, V.ow 2], Blk.row 59 (List.map E59 v3) [], Blk.row 3 (List.map E3 r3.1) []] []), .wait 1, .mask [0, 2, 8, 9, 35, 36, 37], .ren [0, 1, 2, 3], .join 16 (X.ret) (st 68 [(2, V.ptr 0 0), (3, vI 3)] [Blk.box 46 [vE, V.nl 59]] []), .wait 1, .mask [2, 3], .ren [0]] (p := [HT Tryz.prog (sub (codeOf Tryz.prog 19) [1, 1, 1, 1, 1, 1, 0, 1, 0, 0, 1, 0]) (st 68 [(0, lF5 o), (2, V.ptr 0 0), (8, vI v2), (9, V.ptr 1 0), (35, V.ow 3), (36, vI (r3.1.length : Int)), (37, vI v1), (38, vB (decide (v1 < (r3.1.length : Int))))] [Blk.box 46 [vE, V.nl 59], Blk.box 46 [vS r1.1, V.ow 2], Blk.row 59 (List.map E59 v3) [], Blk.row 3 (List.map E3 r3.1) []] []) (X.go) (st 68 [(0, lF5 o), (2, V.ptr 0 0), (8, vI v2), (9, V.ptr 1 0), (35, V.ow 3), (36, vI (r3.1.length : Int)), (37, vI v1)] [Blk.box 46 [vE, V.nl 59], Blk.box 46 [vS r1.1, V.ow 2], Blk.row 59 (List.map E59 v3) [], Blk.row 3 (List.map E3 r3.1) []] []),HT Tryz.prog (sub (codeOf Tryz.prog 19) [1, 1, 1, 1, 1, 1, 0, 1, 0, 0, 1, 1, 0]) (st 68 [(0, lF5 o), (2, V.ptr 0 0), (8, vI v2), (9, V.ptr 1 0), (35, V.ow 3), (36, vI (r3.1.length : Int)), (37, vI v1)] [Blk.box 46 [vE, V.nl 59], Blk.box 46 [vS r1.1, V.ow 2], Blk.row 59 (List.map E59 v3) [], Blk.row 3 (List.map E3 r3.1) []] []) (X.ret) (st 68 [(2, V.ptr 0 0), (3, vI 3)] [Blk.box 46 [vE, V.nl 59]] [])]) (by kernel_rfl) (show X.ret ≠ X.go from nofun) (cj ((spec_Parse_c8_ok o r1 r3 v1 v2 v3 r5 h12).at h13 :) (cj1 ((spec_Parse_c9_ok o r1 r3 v1 v2 v3 r8 h23).at h25 :))))))) (fun s6 h14 =>
     Pn.some (LpO.out [.wait 2, .mask [0, 2, 8, 9, 35, 36, 37, 38], .ren [0, 1, 2, 3], .join 3 (X.out 0) (st 68 [(0, lF5 o), (2, V.ptr 0 0), (8, vI v2), (9, V.ptr 1 0)] [Blk.box 46 [vE, V.nl 59], Blk.box 46 [vS r1.1, V.ow 2], Blk.row 59 (List.map E59 v3) []] []), .wait 1, .mask [0, 2, 8, 9], .ren [0, 1, 2]] (p := [HT Tryz.prog (sub (codeOf Tryz.prog 19) [1, 1, 1, 1, 1, 1, 0, 1, 0, 0, 1, 0]) (st 68 [(0, lF5 o), (2, V.ptr 0 0), (8, vI v2), (9, V.ptr 1 0), (35, V.ow 3), (36, vI (r3.1.length : Int)), (37, vI v1), (38, vB (decide (v1 < (r3.1.length : Int))))] [Blk.box 46 [vE, V.nl 59], Blk.box 46 [vS r1.1, V.ow 2], Blk.row 59 (List.map E59 v3) [], Blk.row 3 (List.map E3 r3.1) []] []) (X.out 0) (st 68 [(0, lF5 o), (2, V.ptr 0 0), (8, vI v2), (9, V.ptr 1 0)] [Blk.box 46 [vE, V.nl 59], Blk.box 46 [vS r1.1, V.ow 2], Blk.row 59 (List.map E59 v3) []] [])]) (by kernel_rfl) (show X.out 0 ≠ X.go from nofun) (cj1 ((spec_Parse_c8_ok o r1 r3 v1 v2 v3 r5 h12).at h14 :)))))
def spec_Parse_c11 (o : List Int) (r1 : ByteArray × Int × Bool) (s11 : Int × (List Field)) : Option (Lo Unit Unit) :=
 if (s11.1 != (o.length : Int)) = true then
 some (.ret ())
 else
 some (.out ())
theorem spec_Parse_c11_ok (o : List Int) (r1 : ByteArray × Int × Bool) (s11 : Int × (List Field)) : Pn (JnO Tryz.prog (sub (codeOf Tryz.prog 19) [1, 1, 1, 1, 1, 1, 1, 0]) (st 68 [(0, lF5 o), (2, V.ptr 0 0), (8, vI s11.1), (9, V.ptr 1 0)] [Blk.box 46 [vE, V.nl 59], Blk.box 46 [vS r1.1, V.ow 2], Blk.row 59 (List.map E59 s11.2) []] []) (fun (y : Lo Unit Unit) => Lo.elim y (fun s => (X.go, st 68 [(2, V.ptr 0 0), (9, V.ptr 1 0)] [Blk.box 46 [vE, V.nl 59], Blk.box 46 [vS r1.1, V.ow 2], Blk.row 59 (List.map E59 s11.2) []] [])) (fun s => (X.ret, st 68 [(2, V.ptr 0 0), (3, vI 4)] [Blk.box 46 [vE, V.nl 59]] [])))) (spec_Parse_c11 o r1 s11) := by
  unfold spec_Parse_c11
  exact
   Pn.ite (fun h29 =>
   Pn.some (JnO.of [.wait 3, .nm 64 (vI (o.length : Int)), bT, .wait 3, .mask [2, 3], .ren [0]] (p := [vI ((List.map E5 o).length : Int) = vI (o.length : Int),(s11.1 != (o.length : Int)) = true]) (by kernel_rfl) (cj (len_nm _ _) (cj1 h29)))) (fun h29 =>
   Pn.some (JnO.of [.wait 3, .nm 64 (vI (o.length : Int)), bF, .mask [2, 9], .ren [0, 1, 2]] (p := [vI ((List.map E5 o).length : Int) = vI (o.length : Int),(s11.1 != (o.length : Int)) = false]) (by kernel_rfl) (cj (len_nm _ _) (cj1 h29))))
def spec_Parse (o : List Int) : Option (Msg × Int) :=
 (spec_GetBcd o 0 4).bind fun r1 =>
 (spec_Parse_c0 o r1).bind fun r2 =>
 Lo.elim r2 (fun s1 =>
 (spec_l04Nos o).bind fun r3 =>
 (spec_Parse_c1 o r1 r3).bind fun r4 =>
 Lo.elim r4 (fun s3 =>
 (spec_Parse_l0 o r1 r3 FUEL 0 r3.2.1 []).bind fun r9 =>
 Lo.elim r9 (fun s11 =>
 (spec_Parse_c11 o r1 s11).bind fun r10 =>
 Lo.elim r10 (fun s13 =>
 some ((Msg.mk r1.1 s11.2), 0)) (fun s14 =>
 some ((Msg.mk ByteArray.empty []), 4))) (fun s12 =>
 some ((Msg.mk ByteArray.empty []), 3))) (fun s4 =>
 some ((Msg.mk ByteArray.empty []), 2))) (fun s2 =>
 some ((Msg.mk ByteArray.empty []), 1))
theorem spec_Parse_ok (o : List Int) : Pn (fun y => Fn Tryz.prog 19 [(false, E31 o)] (V.tup [E46 y.1, E3 y.2]) []) (spec_Parse o) := by
  unfold spec_Parse
  exact
   Pn.bind (fun r1 h1 =>
   Pn.bind (fun r2 h3 =>
   Pn.lo (fun s1 h4 =>
   Pn.bind (fun r3 h6 =>
   Pn.bind (fun r4 h8 =>
   Pn.lo (fun s3 h9 =>
   Pn.bind (fun r9 h26 =>
   Pn.lo (fun s11 h27 =>
   Pn.bind (fun r10 h30 =>
   Pn.lo (fun s13 h31 =>
   Pn.some (Fn.of [.call [] (V.tup [E9 r1.1, E3 r1.2.1, E4 r1.2.2]) [], .wait 8, .mask [0, 2, 4, 6], .ren [0], .join 7 (X.go) (st 68 [(0, lF5 o), (2, V.ptr 0 0), (4, vS r1.1)] [Blk.box 46 [vE, V.nl 59]] []), .call [] (V.tup [E55 r3.1, E3 r3.2.1, E4 r3.2.2]) [], .wait 8, .mask [0, 2, 4, 6, 7, 8], .ren [0, 1], .join 7 (X.go) (st 68 [(0, lF5 o), (2, V.ptr 0 0), (4, vS r1.1), (7, V.ow 1), (8, vI r3.2.1)] [Blk.box 46 [vE, V.nl 59], Blk.row 3 (List.map E3 r3.1) []] []), .wait 6, .nm 36 (vI (r3.1.length : Int)), .wait 2, .mask [0, 2, 8, 9, 35, 36, 37], .ren [0, 2, 1], .ownb 1 1, .mask [0, 2, 8, 9, 35, 36, 37], .ren [0, 1, 3, 2], .loop (X.out 0) (st 68 [(0, lF5 o), (2, V.ptr 0 0), (8, vI s11.1), (9, V.ptr 1 0)] [Blk.box 46 [vE, V.nl 59], Blk.box 46 [vS r1.1, V.ow 2], Blk.row 59 (List.map E59 s11.2) []] []), .wait 1, .mask [0, 2, 8, 9], .ren [0, 1, 2], .join 7 (X.go) (st 68 [(2, V.ptr 0 0), (9, V.ptr 1 0)] [Blk.box 46 [vE, V.nl 59], Blk.box 46 [vS r1.1, V.ow 2], Blk.row 59 (List.map E59 s11.2) []] [])] (p := [Fn Tryz.prog 25 [(false, E31 o), (false, E3 0), (false, E3 4)] (V.tup [E9 r1.1, E3 r1.2.1, E4 r1.2.2]) [],(true || ((V.tup [E9 r1.1, E3 r1.2.1, E4 r1.2.2]).nv && nvL [])) = true,HT Tryz.prog (sub (codeOf Tryz.prog 19) [1, 1, 0]) (st 68 [(0, lF5 o), (2, V.ptr 0 0), (4, vS r1.1), (6, vB r1.2.2)] [Blk.box 46 [vE, V.nl 59]] []) (X.go) (st 68 [(0, lF5 o), (2, V.ptr 0 0), (4, vS r1.1)] [Blk.box 46 [vE, V.nl 59]] []),Fn Tryz.prog 26 [(false, E31 o)] (V.tup [E55 r3.1, E3 r3.2.1, E4 r3.2.2]) [],(true || ((V.tup [E55 r3.1, E3 r3.2.1, E4 r3.2.2]).nv && nvL [])) = true,HT Tryz.prog (sub (codeOf Tryz.prog 19) [1, 1, 1, 1, 0]) (st 68 [(0, lF5 o), (2, V.ptr 0 0), (4, vS r1.1), (6, vB r3.2.2), (7, V.ow 1), (8, vI r3.2.1)] [Blk.box 46 [vE, V.nl 59], Blk.row 3 (List.map E3 r3.1) []] []) (X.go) (st 68 [(0, lF5 o), (2, V.ptr 0 0), (4, vS r1.1), (7, V.ow 1), (8, vI r3.2.1)] [Blk.box 46 [vE, V.nl 59], Blk.row 3 (List.map E3 r3.1) []] []),vI ((List.map E3 r3.1).length : Int) = vI (r3.1.length : Int),Loop Tryz.prog (sub (codeOf Tryz.prog 19) [1, 1, 1, 1, 1, 1, 0, 1, 0, 0]) (st 68 [(0, lF5 o), (2, V.ptr 0 0), (8, vI r3.2.1), (9, V.ptr 1 0), (35, V.ow 3), (36, vI (r3.1.length : Int)), (37, vI 0)] [Blk.box 46 [vE, V.nl 59], Blk.box 46 [vS r1.1, V.ow 2], Blk.row 59 ([] : List V) [], Blk.row 3 (List.map E3 r3.1) []] []) (X.out 0) (st 68 [(0, lF5 o), (2, V.ptr 0 0), (8, vI s11.1), (9, V.ptr 1 0)] [Blk.box 46 [vE, V.nl 59], Blk.box 46 [vS r1.1, V.ow 2], Blk.row 59 (List.map E59 s11.2) []] []),HT Tryz.prog (sub (codeOf Tryz.prog 19) [1, 1, 1, 1, 1, 1, 1, 0]) (st 68 [(0, lF5 o), (2, V.ptr 0 0), (8, vI s11.1), (9, V.ptr 1 0)] [Blk.box 46 [vE, V.nl 59], Blk.box 46 [vS r1.1, V.ow 2], Blk.row 59 (List.map E59 s11.2) []] []) (X.go) (st 68 [(2, V.ptr 0 0), (9, V.ptr 1 0)] [Blk.box 46 [vE, V.nl 59], Blk.box 46 [vS r1.1, V.ow 2], Blk.row 59 (List.map E59 s11.2) []] [])]) (by kernel_rfl) (cj (spec_GetBcd_ok o 0 4 r1 h1) (cj rfl (cj ((spec_Parse_c0_ok o r1 r2 h3).at h4 :) (cj (spec_l04Nos_ok o r3 h6) (cj rfl (cj ((spec_Parse_c1_ok o r1 r3 r4 h8).at h9 :) (cj (len_nm _ _) (cj ((spec_Parse_l0_ok o r1 r3 FUEL 0 r3.2.1 [] r9 h26).at h27 :) (cj1 ((spec_Parse_c11_ok o r1 s11 r10 h30).at h31 :)))))))))))) (fun s14 h32 =>
   Pn.some (Fn.of [.call [] (V.tup [E9 r1.1, E3 r1.2.1, E4 r1.2.2]) [], .wait 8, .mask [0, 2, 4, 6], .ren [0], .join 7 (X.go) (st 68 [(0, lF5 o), (2, V.ptr 0 0), (4, vS r1.1)] [Blk.box 46 [vE, V.nl 59]] []), .call [] (V.tup [E55 r3.1, E3 r3.2.1, E4 r3.2.2]) [], .wait 8, .mask [0, 2, 4, 6, 7, 8], .ren [0, 1], .join 7 (X.go) (st 68 [(0, lF5 o), (2, V.ptr 0 0), (4, vS r1.1), (7, V.ow 1), (8, vI r3.2.1)] [Blk.box 46 [vE, V.nl 59], Blk.row 3 (List.map E3 r3.1) []] []), .wait 6, .nm 36 (vI (r3.1.length : Int)), .wait 2, .mask [0, 2, 8, 9, 35, 36, 37], .ren [0, 2, 1], .ownb 1 1, .mask [0, 2, 8, 9, 35, 36, 37], .ren [0, 1, 3, 2], .loop (X.out 0) (st 68 [(0, lF5 o), (2, V.ptr 0 0), (8, vI s11.1), (9, V.ptr 1 0)] [Blk.box 46 [vE, V.nl 59], Blk.box 46 [vS r1.1, V.ow 2], Blk.row 59 (List.map E59 s11.2) []] []), .wait 1, .mask [0, 2, 8, 9], .ren [0, 1, 2], .join 7 (X.ret) (st 68 [(2, V.ptr 0 0), (3, vI 4)] [Blk.box 46 [vE, V.nl 59]] [])] (p := [Fn Tryz.prog 25 [(false, E31 o), (false, E3 0), (false, E3 4)] (V.tup [E9 r1.1, E3 r1.2.1, E4 r1.2.2]) [],(true || ((V.tup [E9 r1.1, E3 r1.2.1, E4 r1.2.2]).nv && nvL [])) = true,HT Tryz.prog (sub (codeOf Tryz.prog 19) [1, 1, 0]) (st 68 [(0, lF5 o), (2, V.ptr 0 0), (4, vS r1.1), (6, vB r1.2.2)] [Blk.box 46 [vE, V.nl 59]] []) (X.go) (st 68 [(0, lF5 o), (2, V.ptr 0 0), (4, vS r1.1)] [Blk.box 46 [vE, V.nl 59]] []),Fn Tryz.prog 26 [(false, E31 o)] (V.tup [E55 r3.1, E3 r3.2.1, E4 r3.2.2]) [],(true || ((V.tup [E55 r3.1, E3 r3.2.1, E4 r3.2.2]).nv && nvL [])) = true,HT Tryz.prog (sub (codeOf Tryz.prog 19) [1, 1, 1, 1, 0]) (st 68 [(0, lF5 o), (2, V.ptr 0 0), (4, vS r1.1), (6, vB r3.2.2), (7, V.ow 1), (8, vI r3.2.1)] [Blk.box 46 [vE, V.nl 59], Blk.row 3 (List.map E3 r3.1) []] []) (X.go) (st 68 [(0, lF5 o), (2, V.ptr 0 0), (4, vS r1.1), (7, V.ow 1), (8, vI r3.2.1)] [Blk.box 46 [vE, V.nl 59], Blk.row 3 (List.map E3 r3.1) []] []),vI ((List.map E3 r3.1).length : Int) = vI (r3.1.length : Int),Loop Tryz.prog (sub (codeOf Tryz.prog 19) [1, 1, 1, 1, 1, 1, 0, 1, 0, 0]) (st 68 [(0, lF5 o), (2, V.ptr 0 0), (8, vI r3.2.1), (9, V.ptr 1 0), (35, V.ow 3), (36, vI (r3.1.length : Int)), (37, vI 0)] [Blk.box 46 [vE, V.nl 59], Blk.box 46 [vS r1.1, V.ow 2], Blk.row 59 ([] : List V) [], Blk.row 3 (List.map E3 r3.1) []] []) (X.out 0) (st 68 [(0, lF5 o), (2, V.ptr 0 0), (8, vI s11.1), (9, V.ptr 1 0)] [Blk.box 46 [vE, V.nl 59], Blk.box 46 [vS r1.1, V.ow 2], Blk.row 59 (List.map E59 s11.2) []] []),HT Tryz.prog (sub (codeOf Tryz.prog 19) [1, 1, 1, 1, 1, 1, 1, 0]) (st 68 [(0, lF5 o), (2, V.ptr 0 0), (8, vI s11.1), (9, V.ptr 1 0)] [Blk.box 46 [vE, V.nl 59], Blk.box 46 [vS r1.1, V.ow 2], Blk.row 59 (List.map E59 s11.2) []] []) (X.ret) (st 68 [(2, V.ptr 0 0), (3, vI 4)] [Blk.box 46 [vE, V.nl 59]] [])]) (by kernel_rfl) (cj (spec_GetBcd_ok o 0 4 r1 h1) (cj rfl (cj ((spec_Parse_c0_ok o r1 r2 h3).at h4 :) (cj (spec_l04Nos_ok o r3 h6) (cj rfl (cj ((spec_Parse_c1_ok o r1 r3 r4 h8).at h9 :) (cj (len_nm _ _) (cj ((spec_Parse_l0_ok o r1 r3 FUEL 0 r3.2.1 [] r9 h26).at h27 :) (cj1 ((spec_Parse_c11_ok o r1 s11 r10 h30).at h32 :)))))))))))))) (fun s12 h28 =>
   Pn.some (Fn.of [.call [] (V.tup [E9 r1.1, E3 r1.2.1, E4 r1.2.2]) [], .wait 8, .mask [0, 2, 4, 6], .ren [0], .join 7 (X.go) (st 68 [(0, lF5 o), (2, V.ptr 0 0), (4, vS r1.1)] [Blk.box 46 [vE, V.nl 59]] []), .call [] (V.tup [E55 r3.1, E3 r3.2.1, E4 r3.2.2]) [], .wait 8, .mask [0, 2, 4, 6, 7, 8], .ren [0, 1], .join 7 (X.go) (st 68 [(0, lF5 o), (2, V.ptr 0 0), (4, vS r1.1), (7, V.ow 1), (8, vI r3.2.1)] [Blk.box 46 [vE, V.nl 59], Blk.row 3 (List.map E3 r3.1) []] []), .wait 6, .nm 36 (vI (r3.1.length : Int)), .wait 2, .mask [0, 2, 8, 9, 35, 36, 37], .ren [0, 2, 1], .ownb 1 1, .mask [0, 2, 8, 9, 35, 36, 37], .ren [0, 1, 3, 2], .loop (X.ret) (st 68 [(2, V.ptr 0 0), (3, vI 3)] [Blk.box 46 [vE, V.nl 59]] [])] (p := [Fn Tryz.prog 25 [(false, E31 o), (false, E3 0), (false, E3 4)] (V.tup [E9 r1.1, E3 r1.2.1, E4 r1.2.2]) [],(true || ((V.tup [E9 r1.1, E3 r1.2.1, E4 r1.2.2]).nv && nvL [])) = true,HT Tryz.prog (sub (codeOf Tryz.prog 19) [1, 1, 0]) (st 68 [(0, lF5 o), (2, V.ptr 0 0), (4, vS r1.1), (6, vB r1.2.2)] [Blk.box 46 [vE, V.nl 59]] []) (X.go) (st 68 [(0, lF5 o), (2, V.ptr 0 0), (4, vS r1.1)] [Blk.box 46 [vE, V.nl 59]] []),Fn Tryz.prog 26 [(false, E31 o)] (V.tup [E55 r3.1, E3 r3.2.1, E4 r3.2.2]) [],(true || ((V.tup [E55 r3.1, E3 r3.2.1, E4 r3.2.2]).nv && nvL [])) = true,HT Tryz.prog (sub (codeOf Tryz.prog 19) [1, 1, 1, 1, 0]) (st 68 [(0, lF5 o), (2, V.ptr 0 0), (4, vS r1.1), (6, vB r3.2.2), (7, V.ow 1), (8, vI r3.2.1)] [Blk.box 46 [vE, V.nl 59], Blk.row 3 (List.map E3 r3.1) []] []) (X.go) (st 68 [(0, lF5 o), (2, V.ptr 0 0), (4, vS r1.1), (7, V.ow 1), (8, vI r3.2.1)] [Blk.box 46 [vE, V.nl 59], Blk.row 3 (List.map E3 r3.1) []] []),vI ((List.map E3 r3.1).length : Int) = vI (r3.1.length : Int),Loop Tryz.prog (sub (codeOf Tryz.prog 19) [1, 1, 1, 1, 1, 1, 0, 1, 0, 0]) (st 68 [(0, lF5 o), (2, V.ptr 0 0), (8, vI r3.2.1), (9, V.ptr 1 0), (35, V.ow 3), (36, vI (r3.1.length : Int)), (37, vI 0)] [Blk.box 46 [vE, V.nl 59], Blk.box 46 [vS r1.1, V.ow 2], Blk.row 59 ([] : List V) [], Blk.row 3 (List.map E3 r3.1) []] []) (X.ret) (st 68 [(2, V.ptr 0 0), (3, vI 3)] [Blk.box 46 [vE, V.nl 59]] [])]) (by kernel_rfl) (cj (spec_GetBcd_ok o 0 4 r1 h1) (cj rfl (cj ((spec_Parse_c0_ok o r1 r2 h3).at h4 :) (cj (spec_l04Nos_ok o r3 h6) (cj rfl (cj ((spec_Parse_c1_ok o r1 r3 r4 h8).at h9 :) (cj (len_nm _ _) (cj1 ((spec_Parse_l0_ok o r1 r3 FUEL 0 r3.2.1 [] r9 h26).at h28 :))))))))))))) (fun s4 h10 =>
   Pn.some (Fn.of [.call [] (V.tup [E9 r1.1, E3 r1.2.1, E4 r1.2.2]) [], .wait 8, .mask [0, 2, 4, 6], .ren [0], .join 7 (X.go) (st 68 [(0, lF5 o), (2, V.ptr 0 0), (4, vS r1.1)] [Blk.box 46 [vE, V.nl 59]] []), .call [] (V.tup [E55 r3.1, E3 r3.2.1, E4 r3.2.2]) [], .wait 8, .mask [0, 2, 4, 6, 7, 8], .ren [0, 1], .join 7 (X.ret) (st 68 [(2, V.ptr 0 0), (3, vI 2)] [Blk.box 46 [vE, V.nl 59]] [])] (p := [Fn Tryz.prog 25 [(false, E31 o), (false, E3 0), (false, E3 4)] (V.tup [E9 r1.1, E3 r1.2.1, E4 r1.2.2]) [],(true || ((V.tup [E9 r1.1, E3 r1.2.1, E4 r1.2.2]).nv && nvL [])) = true,HT Tryz.prog (sub (codeOf Tryz.prog 19) [1, 1, 0]) (st 68 [(0, lF5 o), (2, V.ptr 0 0), (4, vS r1.1), (6, vB r1.2.2)] [Blk.box 46 [vE, V.nl 59]] []) (X.go) (st 68 [(0, lF5 o), (2, V.ptr 0 0), (4, vS r1.1)] [Blk.box 46 [vE, V.nl 59]] []),Fn Tryz.prog 26 [(false, E31 o)] (V.tup [E55 r3.1, E3 r3.2.1, E4 r3.2.2]) [],(true || ((V.tup [E55 r3.1, E3 r3.2.1, E4 r3.2.2]).nv && nvL [])) = true,HT Tryz.prog (sub (codeOf Tryz.prog 19) [1, 1, 1, 1, 0]) (st 68 [(0, lF5 o), (2, V.ptr 0 0), (4, vS r1.1), (6, vB r3.2.2), (7, V.ow 1), (8, vI r3.2.1)] [Blk.box 46 [vE, V.nl 59], Blk.row 3 (List.map E3 r3.1) []] []) (X.ret) (st 68 [(2, V.ptr 0 0), (3, vI 2)] [Blk.box 46 [vE, V.nl 59]] [])]) (by kernel_rfl) (cj (spec_GetBcd_ok o 0 4 r1 h1) (cj rfl (cj ((spec_Parse_c0_ok o r1 r2 h3).at h4 :) (cj (spec_l04Nos_ok o r3 h6) (cj rfl (cj1 ((spec_Parse_c1_ok o r1 r3 r4 h8).at h10 :)))))))))))) (fun s2 h5 =>
   Pn.some (Fn.of [.call [] (V.tup [E9 r1.1, E3 r1.2.1, E4 r1.2.2]) [], .wait 8, .mask [0, 2, 4, 6], .ren [0], .join 7 (X.ret) (st 68 [(2, V.ptr 0 0), (3, vI 1)] [Blk.box 46 [vE, V.nl 59]] [])] (p := [Fn Tryz.prog 25 [(false, E31 o), (false, E3 0), (false, E3 4)] (V.tup [E9 r1.1, E3 r1.2.1, E4 r1.2.2]) [],(true || ((V.tup [E9 r1.1, E3 r1.2.1, E4 r1.2.2]).nv && nvL [])) = true,HT Tryz.prog (sub (codeOf Tryz.prog 19) [1, 1, 0]) (st 68 [(0, lF5 o), (2, V.ptr 0 0), (4, vS r1.1), (6, vB r1.2.2)] [Blk.box 46 [vE, V.nl 59]] []) (X.ret) (st 68 [(2, V.ptr 0 0), (3, vI 1)] [Blk.box 46 [vE, V.nl 59]] [])]) (by kernel_rfl) (cj (spec_GetBcd_ok o 0 4 r1 h1) (cj rfl (cj1 ((spec_Parse_c0_ok o r1 r2 h3).at h5 :))))))))
def spec_FieldOk_c1 (s_ : ByteArray) (r1 : Int) (r2 : Int) : Option (Bool) :=
 if (r2 == 4) = true then
 some (r2 == 4)
 else
 some (r2 == 5)
theorem spec_FieldOk_c1_ok (s_ : ByteArray) (r1 : Int) (r2 : Int) : Pn (JnO Tryz.prog (sub (codeOf Tryz.prog 59) [1, 1, 0, 1, 0, 1, 1, 1, 1, 1, 1, 0]) (st 51 [(1, vS s_), (5, vI r1), (9, vI r2)] [] []) (fun (y : Bool) => (X.go, st 51 [(1, vS s_), (5, vI r1), (40, vB y)] [] []))) (spec_FieldOk_c1 s_ r1 r2) := by
  unfold spec_FieldOk_c1
  exact
   Pn.ite (fun h12 =>
   Pn.some (JnO.of [bT, .mask [1, 5, 40], .ren []] (p := [(r2 == 4) = true]) (by kernel_rfl) (cj1 h12))) (fun h12 =>
   Pn.some (JnO.of [bF, .wait 2, .mask [1, 5, 40], .ren []] (p := [(r2 == 4) = false]) (by kernel_rfl) (cj1 h12)))
def spec_FieldOk_c0 (no : Int) (s_ : ByteArray) (r1 : Int) : Option (Lo Unit Bool) :=
 (spec_FieldKind no).bind fun r2 =>
 if (r2 == 1) = true then
 (spec_Digits s_).bind fun r3 =>
 if r3 = true then
 some (.ret ((s_.size : Int) == r1))
 else
 some (.ret false)
 else
 if (r2 == 2) = true then
 (spec_Printable s_).bind fun r4 =>
 if r4 = true then
 some (.ret ((s_.size : Int) == r1))
 else
 some (.ret false)
 else
 if (r2 == 3) = true then
 (spec_Digits s_).bind fun r5 =>
 if r5 = true then
 some (.ret (decide ((s_.size : Int) ≤ r1)))
 else
 some (.ret false)
 else
 (spec_FieldOk_c1 s_ r1 r2).bind fun r6 =>
 if r6 = true then
 (spec_Printable s_).bind fun r7 =>
 if r7 = true then
 (spec_l01In (s_.size : Int) 1 r1).bind fun r8 =>
 some (.ret r8)
 else
 some (.ret false)
 else
 some (.out ())
theorem spec_FieldOk_c0_ok (no : Int) (s_ : ByteArray) (r1 : Int) : Pn (JnO Tryz.prog (sub (codeOf Tryz.prog 59) [1, 1, 0]) (st 51 [(0, vI no), (1, vS s_), (5, vI r1)] [] []) (fun (y : Lo Unit Bool) => Lo.elim y (fun s => (X.go, st 51 [] [] [])) (fun s => (X.ret, st 51 [(4, vB s)] [] [])))) (spec_FieldOk_c0 no s_ r1) := by
  unfold spec_FieldOk_c0
  exact
   Pn.bind (fun r2 h2 =>
   Pn.ite (fun h3 =>
   Pn.bind (fun r3 h4 =>
   Pn.ite (fun h5 =>
   Pn.some (JnO.of [.call [] (E3 r2) [], bT, .call [] (E4 r3) [], bT, bT, bT, bT, bT, .wait 2, .mask [4], .ren []] (p := [Fn Tryz.prog 53 [(false, E3 no)] (E3 r2) [],(true || ((E3 r2).nv && nvL [])) = true,(r2 == 1) = true,Fn Tryz.prog 51 [(false, E9 s_)] (E4 r3) [],(true || ((E4 r3).nv && nvL [])) = true,r3 = true,r3 = true,r3 = true,r3 = true,r3 = true]) (by kernel_rfl) (cj (spec_FieldKind_ok no r2 h2) (cj rfl (cj h3 (cj (spec_Digits_ok s_ r3 h4) (cj rfl (cj h5 (cj h5 (cj h5 (cj h5 (cj1 h5)))))))))))) (fun h5 =>
   Pn.some (JnO.of [.call [] (E3 r2) [], bT, .call [] (E4 r3) [], bF, bF, bF, bF, bF, .wait 2, .mask [4], .ren []] (p := [Fn Tryz.prog 53 [(false, E3 no)] (E3 r2) [],(true || ((E3 r2).nv && nvL [])) = true,(r2 == 1) = true,Fn Tryz.prog 51 [(false, E9 s_)] (E4 r3) [],(true || ((E4 r3).nv && nvL [])) = true,r3 = false,r3 = false,r3 = false,r3 = false,r3 = false]) (by kernel_rfl) (cj (spec_FieldKind_ok no r2 h2) (cj rfl (cj h3 (cj (spec_Digits_ok s_ r3 h4) (cj rfl (cj h5 (cj h5 (cj h5 (cj h5 (cj1 h5)))))))))))))) (fun h3 =>
   Pn.ite (fun h6 =>
   Pn.bind (fun r4 h7 =>
   Pn.ite (fun h8 =>
   Pn.some (JnO.of [.call [] (E3 r2) [], bF, bT, .call [] (E4 r4) [], bT, bT, bT, bT, bT, .wait 2, .mask [4], .ren []] (p := [Fn Tryz.prog 53 [(false, E3 no)] (E3 r2) [],(true || ((E3 r2).nv && nvL [])) = true,(r2 == 1) = false,(r2 == 2) = true,Fn Tryz.prog 58 [(false, E9 s_)] (E4 r4) [],(true || ((E4 r4).nv && nvL [])) = true,r4 = true,r4 = true,r4 = true,r4 = true,r4 = true]) (by kernel_rfl) (cj (spec_FieldKind_ok no r2 h2) (cj rfl (cj h3 (cj h6 (cj (spec_Printable_ok s_ r4 h7) (cj rfl (cj h8 (cj h8 (cj h8 (cj h8 (cj1 h8))))))))))))) (fun h8 =>
   Pn.some (JnO.of [.call [] (E3 r2) [], bF, bT, .call [] (E4 r4) [], bF, bF, bF, bF, bF, .wait 2, .mask [4], .ren []] (p := [Fn Tryz.prog 53 [(false, E3 no)] (E3 r2) [],(true || ((E3 r2).nv && nvL [])) = true,(r2 == 1) = false,(r2 == 2) = true,Fn Tryz.prog 58 [(false, E9 s_)] (E4 r4) [],(true || ((E4 r4).nv && nvL [])) = true,r4 = false,r4 = false,r4 = false,r4 = false,r4 = false]) (by kernel_rfl) (cj (spec_FieldKind_ok no r2 h2) (cj rfl (cj h3 (cj h6 (cj (spec_Printable_ok s_ r4 h7) (cj rfl (cj h8 (cj h8 (cj h8 (cj h8 (cj1 h8))))))))))))))) (fun h6 =>
   Pn.ite (fun h9 =>
   Pn.bind (fun r5 h10 =>
   Pn.ite (fun h11 =>
   Pn.some (JnO.of [.call [] (E3 r2) [], bF, bF, bT, .call [] (E4 r5) [], bT, bT, bT, bT, bT, .wait 2, .mask [4], .ren []] (p := [Fn Tryz.prog 53 [(false, E3 no)] (E3 r2) [],(true || ((E3 r2).nv && nvL [])) = true,(r2 == 1) = false,(r2 == 2) = false,(r2 == 3) = true,Fn Tryz.prog 51 [(false, E9 s_)] (E4 r5) [],(true || ((E4 r5).nv && nvL [])) = true,r5 = true,r5 = true,r5 = true,r5 = true,r5 = true]) (by kernel_rfl) (cj (spec_FieldKind_ok no r2 h2) (cj rfl (cj h3 (cj h6 (cj h9 (cj (spec_Digits_ok s_ r5 h10) (cj rfl (cj h11 (cj h11 (cj h11 (cj h11 (cj1 h11)))))))))))))) (fun h11 =>
   Pn.some (JnO.of [.call [] (E3 r2) [], bF, bF, bT, .call [] (E4 r5) [], bF, bF, bF, bF, bF, .wait 2, .mask [4], .ren []] (p := [Fn Tryz.prog 53 [(false, E3 no)] (E3 r2) [],(true || ((E3 r2).nv && nvL [])) = true,(r2 == 1) = false,(r2 == 2) = false,(r2 == 3) = true,Fn Tryz.prog 51 [(false, E9 s_)] (E4 r5) [],(true || ((E4 r5).nv && nvL [])) = true,r5 = false,r5 = false,r5 = false,r5 = false,r5 = false]) (by kernel_rfl) (cj (spec_FieldKind_ok no r2 h2) (cj rfl (cj h3 (cj h6 (cj h9 (cj (spec_Digits_ok s_ r5 h10) (cj rfl (cj h11 (cj h11 (cj h11 (cj h11 (cj1 h11)))))))))))))))) (fun h9 =>
   Pn.bind (fun r6 h13 =>
   Pn.ite (fun h14 =>
   Pn.bind (fun r7 h15 =>
   Pn.ite (fun h16 =>
   Pn.bind (fun r8 h17 =>
   Pn.some (JnO.of [.call [] (E3 r2) [], bF, bF, bF, .mask [1, 5, 9], .ren [], .join 5 (X.go) (st 51 [(1, vS s_), (5, vI r1), (40, vB r6)] [] []), bT, .call [] (E4 r7) [], bT, bT, bT, bT, .call [] (E4 r8) [], bT, .wait 2, .mask [4], .ren []] (p := [Fn Tryz.prog 53 [(false, E3 no)] (E3 r2) [],(true || ((E3 r2).nv && nvL [])) = true,(r2 == 1) = false,(r2 == 2) = false,(r2 == 3) = false,HT Tryz.prog (sub (codeOf Tryz.prog 59) [1, 1, 0, 1, 0, 1, 1, 1, 1, 1, 1, 0]) (st 51 [(1, vS s_), (5, vI r1), (9, vI r2)] [] []) (X.go) (st 51 [(1, vS s_), (5, vI r1), (40, vB r6)] [] []),r6 = true,Fn Tryz.prog 58 [(false, E9 s_)] (E4 r7) [],(true || ((E4 r7).nv && nvL [])) = true,r7 = true,r7 = true,r7 = true,r7 = true,Fn Tryz.prog 57 [(false, E3 (s_.size : Int)), (false, E3 1), (false, E3 r1)] (E4 r8) [],(true || ((E4 r8).nv && nvL [])) = true,r7 = true]) (by kernel_rfl) (cj (spec_FieldKind_ok no r2 h2) (cj rfl (cj h3 (cj h6 (cj h9 (cj (spec_FieldOk_c1_ok s_ r1 r2 r6 h13) (cj h14 (cj (spec_Printable_ok s_ r7 h15) (cj rfl (cj h16 (cj h16 (cj h16 (cj h16 (cj (spec_l01In_ok (s_.size : Int) 1 r1 r8 h17) (cj rfl (cj1 h16))))))))))))))))))) (fun h16 =>
   Pn.some (JnO.of [.call [] (E3 r2) [], bF, bF, bF, .mask [1, 5, 9], .ren [], .join 5 (X.go) (st 51 [(1, vS s_), (5, vI r1), (40, vB r6)] [] []), bT, .call [] (E4 r7) [], bF, bF, bF, bF, bF, .wait 2, .mask [4], .ren []] (p := [Fn Tryz.prog 53 [(false, E3 no)] (E3 r2) [],(true || ((E3 r2).nv && nvL [])) = true,(r2 == 1) = false,(r2 == 2) = false,(r2 == 3) = false,HT Tryz.prog (sub (codeOf Tryz.prog 59) [1, 1, 0, 1, 0, 1, 1, 1, 1, 1, 1, 0]) (st 51 [(1, vS s_), (5, vI r1), (9, vI r2)] [] []) (X.go) (st 51 [(1, vS s_), (5, vI r1), (40, vB r6)] [] []),r6 = true,Fn Tryz.prog 58 [(false, E9 s_)] (E4 r7) [],(true || ((E4 r7).nv && nvL [])) = true,r7 = false,r7 = false,r7 = false,r7 = false,r7 = false]) (by kernel_rfl) (cj (spec_FieldKind_ok no r2 h2) (cj rfl (cj h3 (cj h6 (cj h9 (cj (spec_FieldOk_c1_ok s_ r1 r2 r6 h13) (cj h14 (cj (spec_Printable_ok s_ r7 h15) (cj rfl (cj h16 (cj h16 (cj h16 (cj h16 (cj1 h16)))))))))))))))))) (fun h14 =>
   Pn.some (JnO.of [.call [] (E3 r2) [], bF, bF, bF, .mask [1, 5, 9], .ren [], .join 5 (X.go) (st 51 [(1, vS s_), (5, vI r1), (40, vB r6)] [] []), bF, .mask [], .ren []] (p := [Fn Tryz.prog 53 [(false, E3 no)] (E3 r2) [],(true || ((E3 r2).nv && nvL [])) = true,(r2 == 1) = false,(r2 == 2) = false,(r2 == 3) = false,HT Tryz.prog (sub (codeOf Tryz.prog 59) [1, 1, 0, 1, 0, 1, 1, 1, 1, 1, 1, 0]) (st 51 [(1, vS s_), (5, vI r1), (9, vI r2)] [] []) (X.go) (st 51 [(1, vS s_), (5, vI r1), (40, vB r6)] [] []),r6 = false]) (by kernel_rfl) (cj (spec_FieldKind_ok no r2 h2) (cj rfl (cj h3 (cj h6 (cj h9 (cj (spec_FieldOk_c1_ok s_ r1 r2 r6 h13) (cj1 h14))))))))))))))
def spec_FieldOk (no : Int) (s_ : ByteArray) : Option (Bool) :=
 (spec_FieldSize no).bind fun r1 =>
 (spec_FieldOk_c0 no s_ r1).bind fun r9 =>
 Lo.elim r9 (fun s1 =>
 some false) (fun s2 =>
 some s2)
theorem spec_FieldOk_ok (no : Int) (s_ : ByteArray) : Pn (fun y => Fn Tryz.prog 59 [(false, E3 no), (false, E9 s_)] (E4 y) []) (spec_FieldOk no s_) := by
  unfold spec_FieldOk
  exact
   Pn.bind (fun r1 h1 =>
   Pn.bind (fun r9 h18 =>
   Pn.lo (fun s1 h19 =>
   Pn.some (Fn.of [.call [] (E3 r1) [], .wait 2, .mask [0, 1, 5], .ren [], .join 32 (X.go) (st 51 [] [] [])] (p := [Fn Tryz.prog 54 [(false, E3 no)] (E3 r1) [],(true || ((E3 r1).nv && nvL [])) = true,HT Tryz.prog (sub (codeOf Tryz.prog 59) [1, 1, 0]) (st 51 [(0, vI no), (1, vS s_), (5, vI r1)] [] []) (X.go) (st 51 [] [] [])]) (by kernel_rfl) (cj (spec_FieldSize_ok no r1 h1) (cj rfl (cj1 ((spec_FieldOk_c0_ok no s_ r1 r9 h18).at h19 :)))))) (fun s2 h20 =>
   Pn.some (Fn.of [.call [] (E3 r1) [], .wait 2, .mask [0, 1, 5], .ren [], .join 32 (X.ret) (st 51 [(4, vB s2)] [] [])] (p := [Fn Tryz.prog 54 [(false, E3 no)] (E3 r1) [],(true || ((E3 r1).nv && nvL [])) = true,HT Tryz.prog (sub (codeOf Tryz.prog 59) [1, 1, 0]) (st 51 [(0, vI no), (1, vS s_), (5, vI r1)] [] []) (X.ret) (st 51 [(4, vB s2)] [] [])]) (by kernel_rfl) (cj (spec_FieldSize_ok no r1 h1) (cj rfl (cj1 ((spec_FieldOk_c0_ok no s_ r1 r9 h18).at h20 :))))))))
def spec_MsgOk_c0 (m : Msg) : Option (Lo Unit Unit) :=
 (spec_Digits m.Mti).bind fun r1 =>
 if r1 = true then
 if ((m.Mti.size : Int) != 4) = true then
 some (.ret ())
 else
 some (.out ())
 else
 some (.ret ())
theorem spec_MsgOk_c0_ok (m : Msg) : Pn (JnO Tryz.prog (sub (codeOf Tryz.prog 28) [1, 0]) (st 46 [(1, V.ptr 0 0)] [Blk.box 46 [vS m.Mti, lF59 m.List]] []) (fun (y : Lo Unit Unit) => Lo.elim y (fun s => (X.go, st 46 [(1, V.ptr 0 0)] [Blk.box 46 [vS m.Mti, lF59 m.List]] [])) (fun s => (X.ret, st 46 [(2, vB false)] [] [])))) (spec_MsgOk_c0 m) := by
  unfold spec_MsgOk_c0
  exact
   Pn.bind (fun r1 h1 =>
   Pn.ite (fun h2 =>
   Pn.ite (fun h3 =>
   Pn.some (JnO.of [.call [] (E4 r1) [], bF, bF, bF, bF, bF, bT, .wait 1, .mask [2], .ren []] (p := [Fn Tryz.prog 51 [(false, E9 m.Mti)] (E4 r1) [],(true || ((E4 r1).nv && nvL [])) = true,(!r1) = false,(!r1) = false,(!r1) = false,(!r1) = false,(!r1) = false,((m.Mti.size : Int) != 4) = true]) (by kernel_rfl) (cj (spec_Digits_ok m.Mti r1 h1) (cj rfl (cj (nf h2) (cj (nf h2) (cj (nf h2) (cj (nf h2) (cj (nf h2) (cj1 h3)))))))))) (fun h3 =>
   Pn.some (JnO.of [.call [] (E4 r1) [], bF, bF, bF, bF, bF, bF, .mask [1], .ren [0]] (p := [Fn Tryz.prog 51 [(false, E9 m.Mti)] (E4 r1) [],(true || ((E4 r1).nv && nvL [])) = true,(!r1) = false,(!r1) = false,(!r1) = false,(!r1) = false,(!r1) = false,((m.Mti.size : Int) != 4) = false]) (by kernel_rfl) (cj (spec_Digits_ok m.Mti r1 h1) (cj rfl (cj (nf h2) (cj (nf h2) (cj (nf h2) (cj (nf h2) (cj (nf h2) (cj1 h3))))))))))) (fun h2 =>
   Pn.some (JnO.of [.call [] (E4 r1) [], bT, bT, bT, bT, bT, bT, .wait 1, .mask [2], .ren []] (p := [Fn Tryz.prog 51 [(false, E9 m.Mti)] (E4 r1) [],(true || ((E4 r1).nv && nvL [])) = true,(!r1) = true,(!r1) = true,(!r1) = true,(!r1) = true,(!r1) = true,true = true]) (by kernel_rfl) (cj (spec_Digits_ok m.Mti r1 h1) (cj rfl (cj (nt h2) (cj (nt h2) (cj (nt h2) (cj (nt h2) (cj (nt h2) (cj1 rfl)))))))))))
def spec_MsgOk_c3 (m : Msg) (v1 : Int) : Option (Lo Unit Unit) :=
 if (decide (v1 < (m.List.length : Int))) = true then
 some (.out ())
 else
 some (.ret ())
theorem spec_MsgOk_c3_ok (m : Msg) (v1 : Int) : Pn (JnO Tryz.prog (sub (codeOf Tryz.prog 28) [1, 1, 0, 1, 0, 0, 1, 0]) (st 46 [(1, V.ptr 0 0), (16, lF59 m.List), (17, vI (m.List.length : Int)), (18, vI v1), (19, vB (decide (v1 < (m.List.length : Int))))] [Blk.box 46 [vS m.Mti, lF59 m.List]] []) (fun (y : Lo Unit Unit) => Lo.elim y (fun s => (X.go, st 46 [(1, V.ptr 0 0), (16, lF59 m.List), (17, vI (m.List.length : Int)), (18, vI v1)] [Blk.box 46 [vS m.Mti, lF59 m.List]] [])) (fun s => (X.out 0, st 46 [] [] [])))) (spec_MsgOk_c3 m v1) := by
  unfold spec_MsgOk_c3
  exact
   Pn.ite (fun h7 =>
   Pn.some (JnO.of [bT, .mask [1, 16, 17, 18], .ren [0]] (p := [(decide (v1 < (m.List.length : Int))) = true]) (by kernel_rfl) (cj1 h7))) (fun h7 =>
   Pn.some (JnO.of [bF, .mask [], .ren []] (p := [(decide (v1 < (m.List.length : Int))) = false]) (by kernel_rfl) (cj1 h7)))
def spec_MsgOk_c4 (m : Msg) (v1 : Int) : Option (Lo Unit Unit) :=
 if (decide (0 ≤ v1)) = true then
 (m.List[v1.toNat]?).bind fun x1 =>
 (spec_FieldOk x1.No x1.Text).bind fun r4 =>
 if r4 = true then
 if (decide (0 < v1)) = true then
 if (decide (0 ≤ (i64 (v1 - 1)))) = true then
 (m.List[(i64 (v1 - 1)).toNat]?).bind fun x2 =>
 if (decide (x1.No ≤ x2.No)) = true then
 some (.ret ())
 else
 some (.out ())
 else none
 else
 some (.out ())
 else
 some (.ret ())
 else none
theorem spec_MsgOk_c4_ok (m : Msg) (v1 : Int) : Pn (JnO Tryz.prog (sub (codeOf Tryz.prog 28) [1, 1, 0, 1, 0, 0, 1, 1, 0]) (st 46 [(1, V.ptr 0 0), (16, lF59 m.List), (17, vI (m.List.length : Int)), (18, vI v1)] [Blk.box 46 [vS m.Mti, lF59 m.List]] []) (fun (y : Lo Unit Unit) => Lo.elim y (fun s => (X.go, st 46 [(1, V.ptr 0 0), (16, lF59 m.List), (17, vI (m.List.length : Int)), (18, vI v1)] [Blk.box 46 [vS m.Mti, lF59 m.List]] [])) (fun s => (X.ret, st 46 [(2, vB false)] [] [])))) (spec_MsgOk_c4 m v1) := by
  unfold spec_MsgOk_c4
  exact
   Pn.ite (fun h11 =>
   Pn.bind (fun x1 h12 =>
   Pn.bind (fun r4 h13 =>
   Pn.ite (fun h14 =>
   Pn.ite (fun h15 =>
   Pn.ite (fun h16 =>
   Pn.bind (fun x2 h17 =>
   Pn.ite (fun h18 =>
   Pn.some (JnO.of [.el (E59 x1), .draw [], .call [] (E4 r4) [], bF, bF, bF, bT, bT, bT, bT, bT, .el (E59 x2), bT, bT, bT, bT, bT, bF, bT, bF, bT, .wait 1, .mask [2], .ren []] (p := [(0 : Int) ≤ v1,(List.map E59 m.List)[v1.toNat]? = some (E59 x1),Fn Tryz.prog 59 [(false, E3 x1.No), (false, E9 x1.Text)] (E4 r4) [],(true || ((E4 r4).nv && nvL [])) = true,(!r4) = false,(!r4) = false,(!r4) = false,(decide (0 < v1)) = true,(decide (0 < v1)) = true,(decide (0 < v1)) = true,(decide (0 < v1)) = true,(decide (0 < v1)) = true,(0 : Int) ≤ (i64 (v1 - 1)),(List.map E59 m.List)[(i64 (v1 - 1)).toNat]? = some (E59 x2),(decide (0 < v1)) = true,(decide (0 < v1)) = true,(decide (0 < v1)) = true,(decide (0 < v1)) = true,(decide (0 < v1)) = true,(!r4) = false,(decide (0 < v1)) = true,(!r4) = false,(decide (x1.No ≤ x2.No)) = true]) (by kernel_rfl) (cj (od h11) (cj (map_get h12) (cj (spec_FieldOk_ok x1.No x1.Text r4 h13) (cj rfl (cj (nf h14) (cj (nf h14) (cj (nf h14) (cj h15 (cj h15 (cj h15 (cj h15 (cj h15 (cj (od h16) (cj (map_get h17) (cj h15 (cj h15 (cj h15 (cj h15 (cj h15 (cj (nf h14) (cj h15 (cj (nf h14) (cj1 h18))))))))))))))))))))))))) (fun h18 =>
   Pn.some (JnO.of [.el (E59 x1), .draw [], .call [] (E4 r4) [], bF, bF, bF, bT, bT, bT, bT, bT, .el (E59 x2), bT, bT, bT, bT, bT, bF, bT, bF, bF, .mask [1, 16, 17, 18], .ren [0]] (p := [(0 : Int) ≤ v1,(List.map E59 m.List)[v1.toNat]? = some (E59 x1),Fn Tryz.prog 59 [(false, E3 x1.No), (false, E9 x1.Text)] (E4 r4) [],(true || ((E4 r4).nv && nvL [])) = true,(!r4) = false,(!r4) = false,(!r4) = false,(decide (0 < v1)) = true,(decide (0 < v1)) = true,(decide (0 < v1)) = true,(decide (0 < v1)) = true,(decide (0 < v1)) = true,(0 : Int) ≤ (i64 (v1 - 1)),(List.map E59 m.List)[(i64 (v1 - 1)).toNat]? = some (E59 x2),(decide (0 < v1)) = true,(decide (0 < v1)) = true,(decide (0 < v1)) = true,(decide (0 < v1)) = true,(decide (0 < v1)) = true,(!r4) = false,(decide (0 < v1)) = true,(!r4) = false,(decide (x1.No ≤ x2.No)) = false]) (by kernel_rfl) (cj (od h11) (cj (map_get h12) (cj (spec_FieldOk_ok x1.No x1.Text r4 h13) (cj rfl (cj (nf h14) (cj (nf h14) (cj (nf h14) (cj h15 (cj h15 (cj h15 (cj h15 (cj h15 (cj (od h16) (cj (map_get h17) (cj h15 (cj h15 (cj h15 (cj h15 (cj h15 (cj (nf h14) (cj h15 (cj (nf h14) (cj1 h18))))))))))))))))))))))))))) (fun h16 =>
   Pn.none)) (fun h15 =>
   Pn.some (JnO.of [.el (E59 x1), .draw [], .call [] (E4 r4) [], bF, bF, bF, bF, bF, bF, bF, bF, bF, bF, bF, bF, bF, bF, bF, bF, bF, .mask [1, 16, 17, 18], .ren [0]] (p := [(0 : Int) ≤ v1,(List.map E59 m.List)[v1.toNat]? = some (E59 x1),Fn Tryz.prog 59 [(false, E3 x1.No), (false, E9 x1.Text)] (E4 r4) [],(true || ((E4 r4).nv && nvL [])) = true,(!r4) = false,(!r4) = false,(!r4) = false,(decide (0 < v1)) = false,(decide (0 < v1)) = false,(decide (0 < v1)) = false,(decide (0 < v1)) = false,(decide (0 < v1)) = false,(decide (0 < v1)) = false,(decide (0 < v1)) = false,(decide (0 < v1)) = false,(decide (0 < v1)) = false,(decide (0 < v1)) = false,(!r4) = false,(decide (0 < v1)) = false,(!r4) = false,false = false]) (by kernel_rfl) (cj (od h11) (cj (map_get h12) (cj (spec_FieldOk_ok x1.No x1.Text r4 h13) (cj rfl (cj (nf h14) (cj (nf h14) (cj (nf h14) (cj h15 (cj h15 (cj h15 (cj h15 (cj h15 (cj h15 (cj h15 (cj h15 (cj h15 (cj h15 (cj (nf h14) (cj h15 (cj (nf h14) (cj1 rfl)))))))))))))))))))))))) (fun h14 =>
   Pn.some (JnO.of [.el (E59 x1), .draw [], .call [] (E4 r4) [], bT, bT, bT, bT, bT, bT, .wait 1, .mask [2], .ren []] (p := [(0 : Int) ≤ v1,(List.map E59 m.List)[v1.toNat]? = some (E59 x1),Fn Tryz.prog 59 [(false, E3 x1.No), (false, E9 x1.Text)] (E4 r4) [],(true || ((E4 r4).nv && nvL [])) = true,(!r4) = true,(!r4) = true,(!r4) = true,(!r4) = true,(!r4) = true,true = true]) (by kernel_rfl) (cj (od h11) (cj (map_get h12) (cj (spec_FieldOk_ok x1.No x1.Text r4 h13) (cj rfl (cj (nt h14) (cj (nt h14) (cj (nt h14) (cj (nt h14) (cj (nt h14) (cj1 rfl))))))))))))))) (fun h11 =>
   Pn.none)
def spec_MsgOk_l0 (m : Msg) : Nat → Int → Option (Lo Unit Unit)
  | 0, _ => none
  | fuel + 1, v1 =>
   (spec_MsgOk_c3 m v1).bind fun r3 =>
   Lo.elim r3 (fun s3 =>
   (spec_MsgOk_c4 m v1).bind fun r5 =>
   Lo.elim r5 (fun s5 =>
   spec_MsgOk_l0 m fuel (i64 (v1 + 1))) (fun s6 =>
   some (.ret ()))) (fun s4 =>
   some (.out ()))
theorem spec_MsgOk_l0_ok (m : Msg) : ∀ (fuel : Nat) (v1 : Int), Pn (LpO Tryz.prog (sub (codeOf Tryz.prog 28) [1, 1, 0, 1, 0, 0]) (st 46 [(1, V.ptr 0 0), (16, lF59 m.List), (17, vI (m.List.length : Int)), (18, vI v1)] [Blk.box 46 [vS m.Mti, lF59 m.List]] []) (fun (y : Lo Unit Unit) => Lo.elim y (fun s => (X.out 0, st 46 [] [] [])) (fun s => (X.ret, st 46 [(2, vB false)] [] [])))) (spec_MsgOk_l0 m fuel v1)
  | 0, _ => Pn.none
  | fuel + 1, v1 => by
    unfold spec_MsgOk_l0
    exact
     Pn.bind (fun r3 h8 =>
     Pn.lo (fun s3 h9 =>
     Pn.bind (fun r5 h19 =>
     Pn.lo (fun s5 h20 =>
     LpO.go [.wait 2, .mask [1, 16, 17, 18, 19], .ren [0], .join 3 (X.go) (st 46 [(1, V.ptr 0 0), (16, lF59 m.List), (17, vI (m.List.length : Int)), (18, vI v1)] [Blk.box 46 [vS m.Mti, lF59 m.List]] []), .wait 1, .mask [1, 16, 17, 18], .ren [0], .join 10 (X.go) (st 46 [(1, V.ptr 0 0), (16, lF59 m.List), (17, vI (m.List.length : Int)), (18, vI v1)] [Blk.box 46 [vS m.Mti, lF59 m.List]] []), .wait 3, .mask [1, 16, 17, 18], .ren [0]] (p := [HT Tryz.prog (sub (codeOf Tryz.prog 28) [1, 1, 0, 1, 0, 0, 1, 0]) (st 46 [(1, V.ptr 0 0), (16, lF59 m.List), (17, vI (m.List.length : Int)), (18, vI v1), (19, vB (decide (v1 < (m.List.length : Int))))] [Blk.box 46 [vS m.Mti, lF59 m.List]] []) (X.go) (st 46 [(1, V.ptr 0 0), (16, lF59 m.List), (17, vI (m.List.length : Int)), (18, vI v1)] [Blk.box 46 [vS m.Mti, lF59 m.List]] []),HT Tryz.prog (sub (codeOf Tryz.prog 28) [1, 1, 0, 1, 0, 0, 1, 1, 0]) (st 46 [(1, V.ptr 0 0), (16, lF59 m.List), (17, vI (m.List.length : Int)), (18, vI v1)] [Blk.box 46 [vS m.Mti, lF59 m.List]] []) (X.go) (st 46 [(1, V.ptr 0 0), (16, lF59 m.List), (17, vI (m.List.length : Int)), (18, vI v1)] [Blk.box 46 [vS m.Mti, lF59 m.List]] [])]) (by kernel_rfl) (cj ((spec_MsgOk_c3_ok m v1 r3 h8).at h9 :) (cj1 ((spec_MsgOk_c4_ok m v1 r5 h19).at h20 :))) (spec_MsgOk_l0_ok m fuel (i64 (v1 + 1)))) (fun s6 h21 =>
     Pn.some (LpO.out [.wait 2, .mask [1, 16, 17, 18, 19], .ren [0], .join 3 (X.go) (st 46 [(1, V.ptr 0 0), (16, lF59 m.List), (17, vI (m.List.length : Int)), (18, vI v1)] [Blk.box 46 [vS m.Mti, lF59 m.List]] []), .wait 1, .mask [1, 16, 17, 18], .ren [0], .join 10 (X.ret) (st 46 [(2, vB false)] [] []), .wait 1, .mask [2], .ren []] (p := [HT Tryz.prog (sub (codeOf Tryz.prog 28) [1, 1, 0, 1, 0, 0, 1, 0]) (st 46 [(1, V.ptr 0 0), (16, lF59 m.List), (17, vI (m.List.length : Int)), (18, vI v1), (19, vB (decide (v1 < (m.List.length : Int))))] [Blk.box 46 [vS m.Mti, lF59 m.List]] []) (X.go) (st 46 [(1, V.ptr 0 0), (16, lF59 m.List), (17, vI (m.List.length : Int)), (18, vI v1)] [Blk.box 46 [vS m.Mti, lF59 m.List]] []),HT Tryz.prog (sub (codeOf Tryz.prog 28) [1, 1, 0, 1, 0, 0, 1, 1, 0]) (st 46 [(1, V.ptr 0 0), (16, lF59 m.List), (17, vI (m.List.length : Int)), (18, vI v1)] [Blk.box 46 [vS m.Mti, lF59 m.List]] []) (X.ret) (st 46 [(2, vB false)] [] [])]) (by kernel_rfl) (show X.ret ≠ X.go from nofun) (cj ((spec_MsgOk_c3_ok m v1 r3 h8).at h9 :) (cj1 ((spec_MsgOk_c4_ok m v1 r5 h19).at h21 :))))))) (fun s4 h10 =>
     Pn.some (LpO.out [.wait 2, .mask [1, 16, 17, 18, 19], .ren [0], .join 3 (X.out 0) (st 46 [] [] []), .wait 1, .mask [], .ren []] (p := [HT Tryz.prog (sub (codeOf Tryz.prog 28) [1, 1, 0, 1, 0, 0, 1, 0]) (st 46 [(1, V.ptr 0 0), (16, lF59 m.List), (17, vI (m.List.length : Int)), (18, vI v1), (19, vB (decide (v1 < (m.List.length : Int))))] [Blk.box 46 [vS m.Mti, lF59 m.List]] []) (X.out 0) (st 46 [] [] [])]) (by kernel_rfl) (show X.out 0 ≠ X.go from nofun) (cj1 ((spec_MsgOk_c3_ok m v1 r3 h8).at h10 :)))))
def spec_MsgOk (m : Msg) : Option (Bool) :=
 (spec_MsgOk_c0 m).bind fun r2 =>
 Lo.elim r2 (fun s1 =>
 (spec_MsgOk_l0 m FUEL 0).bind fun r6 =>
 Lo.elim r6 (fun s7 =>
 some true) (fun s8 =>
 some false)) (fun s2 =>
 some false)
theorem spec_MsgOk_ok (m : Msg) : Pn (fun y => Fn Tryz.prog 28 [(false, E46 m)] (E4 y) []) (spec_MsgOk m) := by
  unfold spec_MsgOk
  exact
   Pn.bind (fun r2 h4 =>
   Pn.lo (fun s1 h5 =>
   Pn.bind (fun r6 h22 =>
   Pn.lo (fun s7 h23 =>
   Pn.some (Fn.of [.wait 3, .mask [1], .ren [0], .join 7 (X.go) (st 46 [(1, V.ptr 0 0)] [Blk.box 46 [vS m.Mti, lF59 m.List]] []), .wait 3, .nm 17 (vI (m.List.length : Int)), .wait 2, .mask [1, 16, 17, 18], .ren [0], .loop (X.out 0) (st 46 [] [] [])] (p := [HT Tryz.prog (sub (codeOf Tryz.prog 28) [1, 0]) (st 46 [(1, V.ptr 0 0)] [Blk.box 46 [vS m.Mti, lF59 m.List]] []) (X.go) (st 46 [(1, V.ptr 0 0)] [Blk.box 46 [vS m.Mti, lF59 m.List]] []),vI ((List.map E59 m.List).length : Int) = vI (m.List.length : Int),Loop Tryz.prog (sub (codeOf Tryz.prog 28) [1, 1, 0, 1, 0, 0]) (st 46 [(1, V.ptr 0 0), (16, lF59 m.List), (17, vI (m.List.length : Int)), (18, vI 0)] [Blk.box 46 [vS m.Mti, lF59 m.List]] []) (X.out 0) (st 46 [] [] [])]) (by kernel_rfl) (cj ((spec_MsgOk_c0_ok m r2 h4).at h5 :) (cj (len_nm _ _) (cj1 ((spec_MsgOk_l0_ok m FUEL 0 r6 h22).at h23 :)))))) (fun s8 h24 =>
   Pn.some (Fn.of [.wait 3, .mask [1], .ren [0], .join 7 (X.go) (st 46 [(1, V.ptr 0 0)] [Blk.box 46 [vS m.Mti, lF59 m.List]] []), .wait 3, .nm 17 (vI (m.List.length : Int)), .wait 2, .mask [1, 16, 17, 18], .ren [0], .loop (X.ret) (st 46 [(2, vB false)] [] [])] (p := [HT Tryz.prog (sub (codeOf Tryz.prog 28) [1, 0]) (st 46 [(1, V.ptr 0 0)] [Blk.box 46 [vS m.Mti, lF59 m.List]] []) (X.go) (st 46 [(1, V.ptr 0 0)] [Blk.box 46 [vS m.Mti, lF59 m.List]] []),vI ((List.map E59 m.List).length : Int) = vI (m.List.length : Int),Loop Tryz.prog (sub (codeOf Tryz.prog 28) [1, 1, 0, 1, 0, 0]) (st 46 [(1, V.ptr 0 0), (16, lF59 m.List), (17, vI (m.List.length : Int)), (18, vI 0)] [Blk.box 46 [vS m.Mti, lF59 m.List]] []) (X.ret) (st 46 [(2, vB false)] [] [])]) (by kernel_rfl) (cj ((spec_MsgOk_c0_ok m r2 h4).at h5 :) (cj (len_nm _ _) (cj1 ((spec_MsgOk_l0_ok m FUEL 0 r6 h22).at h24 :)))))))) (fun s2 h6 =>
   Pn.some (Fn.of [.wait 3, .mask [1], .ren [0], .join 7 (X.ret) (st 46 [(2, vB false)] [] [])] (p := [HT Tryz.prog (sub (codeOf Tryz.prog 28) [1, 0]) (st 46 [(1, V.ptr 0 0)] [Blk.box 46 [vS m.Mti, lF59 m.List]] []) (X.ret) (st 46 [(2, vB false)] [] [])]) (by kernel_rfl) (cj1 ((spec_MsgOk_c0_ok m r2 h4).at h6 :)))))
def spec_MtiKnown (mti : ByteArray) : Option (Bool) :=
 if (mti == (bs [48, 49, 48, 48])) = true then
 some true
 else
 if (mti == (bs [48, 50, 48, 48])) = true then
 some true
 else
 some (mti == (bs [48, 50, 50, 48]))
theorem spec_MtiKnown_ok (mti : ByteArray) : Pn (fun y => Fn Tryz.prog 29 [(false, E9 mti)] (E4 y) []) (spec_MtiKnown mti) := by
  unfold spec_MtiKnown
  exact
   Pn.ite (fun h1 =>
   Pn.some (Fn.of [bT, bT, bT, bT, bT, bT] (p := [(mti == (bs [48, 49, 48, 48])) = true,(mti == (bs [48, 49, 48, 48])) = true,(mti == (bs [48, 49, 48, 48])) = true,true = true,true = true,true = true]) (by kernel_rfl) (cj h1 (cj h1 (cj h1 (cj rfl (cj rfl (cj1 rfl)))))))) (fun h1 =>
   Pn.ite (fun h2 =>
   Pn.some (Fn.of [bF, bF, bF, bT, bT, bT] (p := [(mti == (bs [48, 49, 48, 48])) = false,(mti == (bs [48, 49, 48, 48])) = false,(mti == (bs [48, 49, 48, 48])) = false,(mti == (bs [48, 50, 48, 48])) = true,(mti == (bs [48, 50, 48, 48])) = true,(mti == (bs [48, 50, 48, 48])) = true]) (by kernel_rfl) (cj h1 (cj h1 (cj h1 (cj h2 (cj h2 (cj1 h2)))))))) (fun h2 =>
   Pn.some (Fn.of [bF, bF, bF, bF, bF, bF] (p := [(mti == (bs [48, 49, 48, 48])) = false,(mti == (bs [48, 49, 48, 48])) = false,(mti == (bs [48, 49, 48, 48])) = false,(mti == (bs [48, 50, 48, 48])) = false,(mti == (bs [48, 50, 48, 48])) = false,(mti == (bs [48, 50, 48, 48])) = false]) (by kernel_rfl) (cj h1 (cj h1 (cj h1 (cj h2 (cj h2 (cj1 h2)))))))))
def spec_FieldOf_l0 (m : Msg) (no : Int) : List Field → Option (Lo Unit ByteArray)
  | [] =>
   some (.out ())
  | x1 :: t1 =>
   if (x1.No == no) = true then
   some (.ret x1.Text)
   else
   spec_FieldOf_l0 m no t1
theorem spec_FieldOf_l0_ok (m : Msg) (no : Int) (h2 : capOk m.List.length = true) : ∀ (t1 p1 : List Field) (_ : m.List = p1 ++ t1) , Pn (LpO Tryz.prog (sub (codeOf Tryz.prog 30) [1, 0, 1, 0, 0]) (st 22 [(1, vI no), (9, lF59 m.List), (10, vI (m.List.length : Int)), (11, vI (p1.length : Int))] [] []) (fun (y : Lo Unit ByteArray) => Lo.elim y (fun s => (X.out 0, st 22 [] [] [])) (fun s => (X.ret, st 22 [(4, vS s), (5, vB true)] [] [])))) (spec_FieldOf_l0 m no t1)
  | [], p1, h1 => by
    unfold spec_FieldOf_l0
    exact
     Pn.some (LpO.out [bF, .mask [], .ren []] (p := [(decide ((p1.length : Int) < (m.List.length : Int))) = false]) (by kernel_rfl) (show X.out 0 ≠ X.go from nofun) (cj1 (rng_end h1)))
  | x1 :: t1, p1, h1 => by
    unfold spec_FieldOf_l0
    exact
     Pn.ite (fun h3 =>
     Pn.some (LpO.out [bT, .el (E59 x1), bT, .wait 4, .mask [4, 5], .ren []] (p := [(decide ((p1.length : Int) < (m.List.length : Int))) = true,(0 : Int) ≤ (p1.length : Int),(List.map E59 m.List)[(p1.length : Int).toNat]? = some (E59 x1),(x1.No == no) = true]) (by kernel_rfl) (show X.ret ≠ X.go from nofun) (cj (rng_lt h1) (cj (by omega) (cj (rng_get _ h1) (cj1 h3)))))) (fun h3 =>
     LpO.go [bT, .el (E59 x1), bF, .wait 2, .mask [1, 9, 10, 11], .ren [], .nm 11 (vI ((p1 ++ [x1]).length : Int))] (p := [(decide ((p1.length : Int) < (m.List.length : Int))) = true,(0 : Int) ≤ (p1.length : Int),(List.map E59 m.List)[(p1.length : Int).toNat]? = some (E59 x1),(x1.No == no) = false,vI (i64 ((p1.length : Int) + 1)) = vI ((p1 ++ [x1]).length : Int)]) (by kernel_rfl) (cj (rng_lt h1) (cj (by omega) (cj (rng_get _ h1) (cj h3 (cj1 (rng_next h1 h2)))))) (spec_FieldOf_l0_ok m no h2 t1 (p1 ++ [x1]) (rng_step h1)))
def spec_FieldOf (m : Msg) (no : Int) : Option (ByteArray × Bool) :=
 if (capOk m.List.length) = true then
 (spec_FieldOf_l0 m no m.List).bind fun r1 =>
 Lo.elim r1 (fun s1 =>
 some (bs [], false)) (fun s2 =>
 some (s2, true))
 else none
theorem spec_FieldOf_ok (m : Msg) (no : Int) : Pn (fun y => Fn Tryz.prog 30 [(false, E46 m), (false, E3 no)] (V.tup [E9 y.1, E4 y.2]) []) (spec_FieldOf m no) := by
  unfold spec_FieldOf
  exact
   Pn.ite (fun h4 =>
   Pn.bind (fun r1 h5 =>
   Pn.lo (fun s1 h6 =>
   Pn.some (Fn.of [.wait 6, .nm 10 (vI (m.List.length : Int)), .wait 2, .mask [1, 9, 10, 11], .ren [], .loop (X.out 0) (st 22 [] [] [])] (p := [vI ((List.map E59 m.List).length : Int) = vI (m.List.length : Int),Loop Tryz.prog (sub (codeOf Tryz.prog 30) [1, 0, 1, 0, 0]) (st 22 [(1, vI no), (9, lF59 m.List), (10, vI (m.List.length : Int)), (11, vI 0)] [] []) (X.out 0) (st 22 [] [] [])]) (by kernel_rfl) (cj (len_nm _ _) (cj1 ((spec_FieldOf_l0_ok m no h4 m.List [] rfl r1 h5).at h6 :))))) (fun s2 h7 =>
   Pn.some (Fn.of [.wait 6, .nm 10 (vI (m.List.length : Int)), .wait 2, .mask [1, 9, 10, 11], .ren [], .loop (X.ret) (st 22 [(4, vS s2), (5, vB true)] [] [])] (p := [vI ((List.map E59 m.List).length : Int) = vI (m.List.length : Int),Loop Tryz.prog (sub (codeOf Tryz.prog 30) [1, 0, 1, 0, 0]) (st 22 [(1, vI no), (9, lF59 m.List), (10, vI (m.List.length : Int)), (11, vI 0)] [] []) (X.ret) (st 22 [(4, vS s2), (5, vB true)] [] [])]) (by kernel_rfl) (cj (len_nm _ _) (cj1 ((spec_FieldOf_l0_ok m no h4 m.List [] rfl r1 h5).at h7 :))))))) (fun h4 =>
   Pn.none)
def spec_l11Op (op : Int) : Option (Bool) :=
 (spec_l01In op 1 8).bind fun r1 =>
 some r1
theorem spec_l11Op_ok (op : Int) : Pn (fun y => Fn Tryz.prog 62 [(false, E3 op)] (E4 y) []) (spec_l11Op op) := by
  unfold spec_l11Op
  exact
   Pn.bind (fun r1 h1 =>
   Pn.some (Fn.of [.call [] (E4 r1) []] (p := [Fn Tryz.prog 57 [(false, E3 op), (false, E3 1), (false, E3 8)] (E4 r1) [],(true || ((E4 r1).nv && nvL [])) = true]) (by kernel_rfl) (cj (spec_l01In_ok op 1 8 r1 h1) (cj1 rfl))))
def spec_l11Mtis  : Option ((List ByteArray)) :=
 some [bs [], bs [48, 49, 48, 48], bs [48, 49, 48, 48], bs [48, 50, 50, 48], bs [48, 50, 50, 48], bs [48, 50, 50, 48], bs [48, 50, 48, 48], bs [48, 49, 48, 48], bs [48, 50, 48, 48]]
theorem spec_l11Mtis_ok  : Pn (fun y => Fn Tryz.prog 79 [] (E97 y) []) (spec_l11Mtis) := by
  unfold spec_l11Mtis
  exact
   Pn.some (Fn.of [] (p := []) (by kernel_rfl) trivial)
def spec_OpMti (op : Int) : Option (ByteArray) :=
 (spec_l11Op op).bind fun r1 =>
 if r1 = true then
 (spec_l11Mtis).bind fun r2 =>
 if (decide (0 ≤ op)) = true then
 (r2[op.toNat]?).bind fun x1 =>
 some x1
 else none
 else
 some (bs [])
theorem spec_OpMti_ok (op : Int) : Pn (fun y => Fn Tryz.prog 60 [(false, E3 op)] (E9 y) []) (spec_OpMti op) := by
  unfold spec_OpMti
  exact
   Pn.bind (fun r1 h1 =>
   Pn.ite (fun h2 =>
   Pn.bind (fun r2 h3 =>
   Pn.ite (fun h4 =>
   Pn.bind (fun x1 h5 =>
   Pn.some (Fn.of [.call [] (E4 r1) [], bF, .call [] (E97 r2) [], .el (E9 x1)] (p := [Fn Tryz.prog 62 [(false, E3 op)] (E4 r1) [],(true || ((E4 r1).nv && nvL [])) = true,(!r1) = false,Fn Tryz.prog 79 [] (E97 r2) [],(true || ((E97 r2).nv && nvL [])) = true,(0 : Int) ≤ op,(op : Int) < ((List.map E9 r2).length : Int),look [] op.toNat = none,(List.map E9 r2)[op.toNat]? = some (E9 x1)]) (by kernel_rfl) (cj (spec_l11Op_ok op r1 h1) (cj rfl (cj (nf h2) (cj (spec_l11Mtis_ok  r2 h3) (cj rfl (cj (od h4) (cj (map_ltN (od h4) h5) (cj rfl (cj1 (map_get h5))))))))))))) (fun h4 =>
   Pn.none))) (fun h2 =>
   Pn.some (Fn.of [.call [] (E4 r1) [], bT] (p := [Fn Tryz.prog 62 [(false, E3 op)] (E4 r1) [],(true || ((E4 r1).nv && nvL [])) = true,(!r1) = true]) (by kernel_rfl) (cj (spec_l11Op_ok op r1 h1) (cj rfl (cj1 (nt h2)))))))
def spec_l11Codes  : Option ((List ByteArray)) :=
 some [bs [], bs [48, 48], bs [48, 50], bs [48, 49], bs [48, 48], bs [50, 48], bs [52, 48], bs [51, 49], bs [57, 48]]
theorem spec_l11Codes_ok  : Pn (fun y => Fn Tryz.prog 80 [] (E97 y) []) (spec_l11Codes) := by
  unfold spec_l11Codes
  exact
   Pn.some (Fn.of [] (p := []) (by kernel_rfl) trivial)
def spec_OpCode (op : Int) : Option (ByteArray) :=
 (spec_l11Op op).bind fun r1 =>
 if r1 = true then
 (spec_l11Codes).bind fun r2 =>
 if (decide (0 ≤ op)) = true then
 (r2[op.toNat]?).bind fun x1 =>
 some x1
 else none
 else
 some (bs [])
theorem spec_OpCode_ok (op : Int) : Pn (fun y => Fn Tryz.prog 61 [(false, E3 op)] (E9 y) []) (spec_OpCode op) := by
  unfold spec_OpCode
  exact
   Pn.bind (fun r1 h1 =>
   Pn.ite (fun h2 =>
   Pn.bind (fun r2 h3 =>
   Pn.ite (fun h4 =>
   Pn.bind (fun x1 h5 =>
   Pn.some (Fn.of [.call [] (E4 r1) [], bF, .call [] (E97 r2) [], .el (E9 x1)] (p := [Fn Tryz.prog 62 [(false, E3 op)] (E4 r1) [],(true || ((E4 r1).nv && nvL [])) = true,(!r1) = false,Fn Tryz.prog 80 [] (E97 r2) [],(true || ((E97 r2).nv && nvL [])) = true,(0 : Int) ≤ op,(op : Int) < ((List.map E9 r2).length : Int),look [] op.toNat = none,(List.map E9 r2)[op.toNat]? = some (E9 x1)]) (by kernel_rfl) (cj (spec_l11Op_ok op r1 h1) (cj rfl (cj (nf h2) (cj (spec_l11Codes_ok  r2 h3) (cj rfl (cj (od h4) (cj (map_ltN (od h4) h5) (cj rfl (cj1 (map_get h5))))))))))))) (fun h4 =>
   Pn.none))) (fun h2 =>
   Pn.some (Fn.of [.call [] (E4 r1) [], bT] (p := [Fn Tryz.prog 62 [(false, E3 op)] (E4 r1) [],(true || ((E4 r1).nv && nvL [])) = true,(!r1) = true]) (by kernel_rfl) (cj (spec_l11Op_ok op r1 h1) (cj rfl (cj1 (nt h2)))))))
def spec_l11Which_l0 (mti : ByteArray) (three : ByteArray) : Nat → Int → Option (Lo Unit Int)
  | 0, _ => none
  | fuel + 1, v1 =>
   if (decide (v1 ≤ 8)) = true then
   (spec_OpMti v1).bind fun r1 =>
   if (r1 == mti) = true then
   if (decide (0 ≤ 2)) = true then
   if (decide (2 ≤ (three.size : Int))) = true then
   (spec_OpCode v1).bind fun r2 =>
   if (r2 == (three.extract 0 2)) = true then
   some (.ret v1)
   else
   spec_l11Which_l0 mti three fuel (i64 (v1 + 1))
   else none
   else none
   else
   spec_l11Which_l0 mti three fuel (i64 (v1 + 1))
   else
   some (.out ())
theorem spec_l11Which_l0_ok (mti : ByteArray) (three : ByteArray) : ∀ (fuel : Nat) (v1 : Int), Pn (LpO Tryz.prog (sub (codeOf Tryz.prog 31) [1, 0, 1, 0, 0]) (st 22 [(0, vS mti), (1, vS three), (5, vI v1)] [] []) (fun (y : Lo Unit Int) => Lo.elim y (fun s => (X.out 0, st 22 [] [] [])) (fun s => (X.ret, st 22 [(4, vI s)] [] [])))) (spec_l11Which_l0 mti three fuel v1)
  | 0, _ => Pn.none
  | fuel + 1, v1 => by
    unfold spec_l11Which_l0
    exact
     Pn.ite (fun h1 =>
     Pn.bind (fun r1 h2 =>
     Pn.ite (fun h3 =>
     Pn.ite (fun h4 =>
     Pn.ite (fun h5 =>
     Pn.bind (fun r2 h6 =>
     Pn.ite (fun h7 =>
     Pn.some (LpO.out [bT, .draw [], .call [] (E9 r1) [], bT, bT, bT, bT, .call [] (E9 r2) [], bT, bT, bT, .wait 2, .mask [4], .ren []] (p := [(decide (v1 ≤ 8)) = true,Fn Tryz.prog 60 [(false, E3 v1)] (E9 r1) [],(true || ((E9 r1).nv && nvL [])) = true,(r1 == mti) = true,(r1 == mti) = true,(r1 == mti) = true,(0 : Int) ≤ 0,(0 : Int) ≤ 2,(2 : Int) ≤ (three.size : Int),(r1 == mti) = true,Fn Tryz.prog 61 [(false, E3 v1)] (E9 r2) [],(true || ((E9 r2).nv && nvL [])) = true,(r1 == mti) = true,(r1 == mti) = true,(r2 == (three.extract 0 2)) = true]) (by kernel_rfl) (show X.ret ≠ X.go from nofun) (cj h1 (cj (spec_OpMti_ok v1 r1 h2) (cj rfl (cj h3 (cj h3 (cj h3 (cj (by decide) (cj (od h4) (cj (od h5) (cj h3 (cj (spec_OpCode_ok v1 r2 h6) (cj rfl (cj h3 (cj h3 (cj1 h7))))))))))))))))) (fun h7 =>
     LpO.go [bT, .draw [], .call [] (E9 r1) [], bT, bT, bT, bT, .call [] (E9 r2) [], bT, bT, bF, .wait 3, .mask [0, 1, 5], .ren []] (p := [(decide (v1 ≤ 8)) = true,Fn Tryz.prog 60 [(false, E3 v1)] (E9 r1) [],(true || ((E9 r1).nv && nvL [])) = true,(r1 == mti) = true,(r1 == mti) = true,(r1 == mti) = true,(0 : Int) ≤ 0,(0 : Int) ≤ 2,(2 : Int) ≤ (three.size : Int),(r1 == mti) = true,Fn Tryz.prog 61 [(false, E3 v1)] (E9 r2) [],(true || ((E9 r2).nv && nvL [])) = true,(r1 == mti) = true,(r1 == mti) = true,(r2 == (three.extract 0 2)) = false]) (by kernel_rfl) (cj h1 (cj (spec_OpMti_ok v1 r1 h2) (cj rfl (cj h3 (cj h3 (cj h3 (cj (by decide) (cj (od h4) (cj (od h5) (cj h3 (cj (spec_OpCode_ok v1 r2 h6) (cj rfl (cj h3 (cj h3 (cj1 h7))))))))))))))) (spec_l11Which_l0_ok mti three fuel (i64 (v1 + 1)))))) (fun h5 =>
     Pn.none)) (fun h4 =>
     Pn.none)) (fun h3 =>
     LpO.go [bT, .draw [], .call [] (E9 r1) [], bF, bF, bF, bF, bF, bF, bF, .wait 3, .mask [0, 1, 5], .ren []] (p := [(decide (v1 ≤ 8)) = true,Fn Tryz.prog 60 [(false, E3 v1)] (E9 r1) [],(true || ((E9 r1).nv && nvL [])) = true,(r1 == mti) = false,(r1 == mti) = false,(r1 == mti) = false,(r1 == mti) = false,(r1 == mti) = false,(r1 == mti) = false,false = false]) (by kernel_rfl) (cj h1 (cj (spec_OpMti_ok v1 r1 h2) (cj rfl (cj h3 (cj h3 (cj h3 (cj h3 (cj h3 (cj h3 (cj1 rfl)))))))))) (spec_l11Which_l0_ok mti three fuel (i64 (v1 + 1)))))) (fun h1 =>
     Pn.some (LpO.out [bF, .mask [], .ren []] (p := [(decide (v1 ≤ 8)) = false]) (by kernel_rfl) (show X.out 0 ≠ X.go from nofun) (cj1 h1)))
def spec_l11Which (mti : ByteArray) (three : ByteArray) : Option (Int) :=
 (spec_l11Which_l0 mti three FUEL 1).bind fun r3 =>
 Lo.elim r3 (fun s1 =>
 some 0) (fun s2 =>
 some s2)
theorem spec_l11Which_ok (mti : ByteArray) (three : ByteArray) : Pn (fun y => Fn Tryz.prog 31 [(false, E9 mti), (false, E9 three)] (E3 y) []) (spec_l11Which mti three) := by
  unfold spec_l11Which
  exact
   Pn.bind (fun r3 h8 =>
   Pn.lo (fun s1 h9 =>
   Pn.some (Fn.of [.wait 3, .mask [0, 1, 5], .ren [], .loop (X.out 0) (st 22 [] [] [])] (p := [Loop Tryz.prog (sub (codeOf Tryz.prog 31) [1, 0, 1, 0, 0]) (st 22 [(0, vS mti), (1, vS three), (5, vI 1)] [] []) (X.out 0) (st 22 [] [] [])]) (by kernel_rfl) (cj1 ((spec_l11Which_l0_ok mti three FUEL 1 r3 h8).at h9 :)))) (fun s2 h10 =>
   Pn.some (Fn.of [.wait 3, .mask [0, 1, 5], .ren [], .loop (X.ret) (st 22 [(4, vI s2)] [] [])] (p := [Loop Tryz.prog (sub (codeOf Tryz.prog 31) [1, 0, 1, 0, 0]) (st 22 [(0, vS mti), (1, vS three), (5, vI 1)] [] []) (X.ret) (st 22 [(4, vI s2)] [] [])]) (by kernel_rfl) (cj1 ((spec_l11Which_l0_ok mti three FUEL 1 r3 h8).at h10 :)))))
def spec_l11Hold (op : Int) : Option (Bool) :=
 (spec_l11Op op).bind fun r1 =>
 if r1 = true then
 some (decide (op < 7))
 else
 some false
theorem spec_l11Hold_ok (op : Int) : Pn (fun y => Fn Tryz.prog 32 [(false, E3 op)] (E4 y) []) (spec_l11Hold op) := by
  unfold spec_l11Hold
  exact
   Pn.bind (fun r1 h1 =>
   Pn.ite (fun h2 =>
   Pn.some (Fn.of [.call [] (E4 r1) [], bT, bT, bT] (p := [Fn Tryz.prog 62 [(false, E3 op)] (E4 r1) [],(true || ((E4 r1).nv && nvL [])) = true,r1 = true,r1 = true,r1 = true]) (by kernel_rfl) (cj (spec_l11Op_ok op r1 h1) (cj rfl (cj h2 (cj h2 (cj1 h2))))))) (fun h2 =>
   Pn.some (Fn.of [.call [] (E4 r1) [], bF, bF, bF] (p := [Fn Tryz.prog 62 [(false, E3 op)] (E4 r1) [],(true || ((E4 r1).nv && nvL [])) = true,r1 = false,r1 = false,r1 = false]) (by kernel_rfl) (cj (spec_l11Op_ok op r1 h1) (cj rfl (cj h2 (cj h2 (cj1 h2))))))))
def spec_FieldBare_l0 (s_ : ByteArray) : Nat → Int → Option (Int)
  | 0, _ => none
  | fuel + 1, v1 =>
   if (decide (0 < v1)) = true then
   if (decide (0 ≤ i64 (v1 - 1))) = true then
   if (decide ((i64 (v1 - 1) : Int) < (s_.size : Int))) = true then
   if ((sAt s_ (i64 (v1 - 1))) == 32) = true then
   spec_FieldBare_l0 s_ fuel (i64 (v1 - 1))
   else
   some v1
   else none
   else none
   else
   some v1
theorem spec_FieldBare_l0_ok (s_ : ByteArray) : ∀ (fuel : Nat) (v1 : Int), Pn (LpO Tryz.prog (sub (codeOf Tryz.prog 33) [1, 1, 0, 0, 0]) (st 20 [(0, vS s_), (3, vI v1)] [] []) (fun (y : Int) => (X.out 0, st 20 [(0, vS s_), (3, vI y)] [] []))) (spec_FieldBare_l0 s_ fuel v1)
  | 0, _ => Pn.none
  | fuel + 1, v1 => by
    unfold spec_FieldBare_l0
    exact
     Pn.ite (fun h1 =>
     Pn.ite (fun h2 =>
     Pn.ite (fun h3 =>
     Pn.ite (fun h4 =>
     LpO.go [bT, bT, bT, bT, bT, bT, bT, .wait 3, .mask [0, 3], .ren []] (p := [(decide (0 < v1)) = true,(decide (0 < v1)) = true,(decide (0 < v1)) = true,(decide (0 < v1)) = true,(0 : Int) ≤ i64 (v1 - 1),(i64 (v1 - 1) : Int) < s_.size,(decide (0 < v1)) = true,(decide (0 < v1)) = true,((sAt s_ (i64 (v1 - 1))) == 32) = true]) (by kernel_rfl) (cj h1 (cj h1 (cj h1 (cj h1 (cj (od h2) (cj (od h3) (cj h1 (cj h1 (cj1 h4))))))))) (spec_FieldBare_l0_ok s_ fuel (i64 (v1 - 1)))) (fun h4 =>
     Pn.some (LpO.out [bT, bT, bT, bT, bT, bT, bF, .mask [0, 3], .ren []] (p := [(decide (0 < v1)) = true,(decide (0 < v1)) = true,(decide (0 < v1)) = true,(decide (0 < v1)) = true,(0 : Int) ≤ i64 (v1 - 1),(i64 (v1 - 1) : Int) < s_.size,(decide (0 < v1)) = true,(decide (0 < v1)) = true,((sAt s_ (i64 (v1 - 1))) == 32) = false]) (by kernel_rfl) (show X.out 0 ≠ X.go from nofun) (cj h1 (cj h1 (cj h1 (cj h1 (cj (od h2) (cj (od h3) (cj h1 (cj h1 (cj1 h4)))))))))))) (fun h3 =>
     Pn.none)) (fun h2 =>
     Pn.none)) (fun h1 =>
     Pn.some (LpO.out [bF, bF, bF, bF, bF, bF, bF, .mask [0, 3], .ren []] (p := [(decide (0 < v1)) = false,(decide (0 < v1)) = false,(decide (0 < v1)) = false,(decide (0 < v1)) = false,(decide (0 < v1)) = false,(decide (0 < v1)) = false,false = false]) (by kernel_rfl) (show X.out 0 ≠ X.go from nofun) (cj h1 (cj h1 (cj h1 (cj h1 (cj h1 (cj h1 (cj1 rfl)))))))))
def spec_FieldBare (s_ : ByteArray) : Option (ByteArray) :=
 (spec_FieldBare_l0 s_ FUEL (s_.size : Int)).bind fun r1 =>
 if (decide (0 ≤ r1)) = true then
 if (decide (r1 ≤ (s_.size : Int))) = true then
 some (s_.extract 0 r1.toNat)
 else none
 else none
theorem spec_FieldBare_ok (s_ : ByteArray) : Pn (fun y => Fn Tryz.prog 33 [(false, E9 s_)] (E9 y) []) (spec_FieldBare s_) := by
  unfold spec_FieldBare
  exact
   Pn.bind (fun r1 h5 =>
   Pn.ite (fun h6 =>
   Pn.ite (fun h7 =>
   Pn.some (Fn.of [.wait 5, .mask [0, 3], .ren [], .loop (X.out 0) (st 20 [(0, vS s_), (3, vI r1)] [] [])] (p := [Loop Tryz.prog (sub (codeOf Tryz.prog 33) [1, 1, 0, 0, 0]) (st 20 [(0, vS s_), (3, vI (s_.size : Int))] [] []) (X.out 0) (st 20 [(0, vS s_), (3, vI r1)] [] []),(0 : Int) ≤ 0,(0 : Int) ≤ r1,(r1 : Int) ≤ (s_.size : Int)]) (by kernel_rfl) (cj (spec_FieldBare_l0_ok s_ FUEL (s_.size : Int) r1 h5) (cj (by decide) (cj (od h6) (cj1 (od h7))))))) (fun h7 =>
   Pn.none)) (fun h6 =>
   Pn.none))
def spec_l11Amount (op : Int) : Option (Bool) :=
 (spec_l01In op 1 4).bind fun r1 =>
 some r1
theorem spec_l11Amount_ok (op : Int) : Pn (fun y => Fn Tryz.prog 34 [(false, E3 op)] (E4 y) []) (spec_l11Amount op) := by
  unfold spec_l11Amount
  exact
   Pn.bind (fun r1 h1 =>
   Pn.some (Fn.of [.call [] (E4 r1) []] (p := [Fn Tryz.prog 57 [(false, E3 op), (false, E3 1), (false, E3 4)] (E4 r1) [],(true || ((E4 r1).nv && nvL [])) = true]) (by kernel_rfl) (cj (spec_l01In_ok op 1 4 r1 h1) (cj1 rfl))))
def spec_Luhn_l0 (s_ : ByteArray) : Nat → Int → Bool → Int → Option (Int)
  | 0, _, _, _ => none
  | fuel + 1, v1, v2, v3 =>
   if (decide (0 ≤ v3)) = true then
   if (decide ((v3 : Int) < (s_.size : Int))) = true then
   if v2 = true then
   if (decide (9 < (i64 (2 * (i64 ((i64 (sAt s_ v3)) - 48)))))) = true then
   spec_Luhn_l0 s_ fuel (Int.tmod (i64 (v1 + (i64 ((i64 (2 * (i64 ((i64 (sAt s_ v3)) - 48)))) - 9)))) 10) (!v2) (i64 (v3 - 1))
   else
   spec_Luhn_l0 s_ fuel (Int.tmod (i64 (v1 + (i64 (2 * (i64 ((i64 (sAt s_ v3)) - 48)))))) 10) (!v2) (i64 (v3 - 1))
   else
   spec_Luhn_l0 s_ fuel (Int.tmod (i64 (v1 + (i64 ((i64 (sAt s_ v3)) - 48)))) 10) (!v2) (i64 (v3 - 1))
   else none
   else
   some v1
theorem spec_Luhn_l0_ok (s_ : ByteArray) : ∀ (fuel : Nat) (v1 : Int) (v2 : Bool) (v3 : Int), Pn (LpO Tryz.prog (sub (codeOf Tryz.prog 92) [1, 1, 1, 1, 0, 1, 0, 0]) (st 38 [(0, vS s_), (3, vI v1), (4, vB v2), (5, vI v3)] [] []) (fun (y : Int) => (X.out 0, st 38 [(3, vI y)] [] []))) (spec_Luhn_l0 s_ fuel v1 v2 v3)
  | 0, _, _, _ => Pn.none
  | fuel + 1, v1, v2, v3 => by
    unfold spec_Luhn_l0
    exact
     Pn.ite (fun h3 =>
     Pn.ite (fun h4 =>
     Pn.ite (fun h5 =>
     Pn.ite (fun h6 =>
     LpO.go [bT, bT, bT, .wait 14, .mask [0, 3, 4, 5], .ren []] (p := [(decide (0 ≤ v3)) = true,(0 : Int) ≤ v3,(v3 : Int) < s_.size,v2 = true,(decide (9 < (i64 (2 * (i64 ((i64 (sAt s_ v3)) - 48)))))) = true,(10 : Int) ≠ 0]) (by kernel_rfl) (cj h3 (cj (od h3) (cj (od h4) (cj h5 (cj h6 (cj1 (by decide))))))) (spec_Luhn_l0_ok s_ fuel (Int.tmod (i64 (v1 + (i64 ((i64 (2 * (i64 ((i64 (sAt s_ v3)) - 48)))) - 9)))) 10) (!v2) (i64 (v3 - 1)))) (fun h6 =>
     LpO.go [bT, bT, bF, .wait 11, .mask [0, 3, 4, 5], .ren []] (p := [(decide (0 ≤ v3)) = true,(0 : Int) ≤ v3,(v3 : Int) < s_.size,v2 = true,(decide (9 < (i64 (2 * (i64 ((i64 (sAt s_ v3)) - 48)))))) = false,(10 : Int) ≠ 0]) (by kernel_rfl) (cj h3 (cj (od h3) (cj (od h4) (cj h5 (cj h6 (cj1 (by decide))))))) (spec_Luhn_l0_ok s_ fuel (Int.tmod (i64 (v1 + (i64 (2 * (i64 ((i64 (sAt s_ v3)) - 48)))))) 10) (!v2) (i64 (v3 - 1))))) (fun h5 =>
     LpO.go [bT, bF, .wait 11, .mask [0, 3, 4, 5], .ren []] (p := [(decide (0 ≤ v3)) = true,(0 : Int) ≤ v3,(v3 : Int) < s_.size,v2 = false,(10 : Int) ≠ 0]) (by kernel_rfl) (cj h3 (cj (od h3) (cj (od h4) (cj h5 (cj1 (by decide)))))) (spec_Luhn_l0_ok s_ fuel (Int.tmod (i64 (v1 + (i64 ((i64 (sAt s_ v3)) - 48)))) 10) (!v2) (i64 (v3 - 1))))) (fun h4 =>
     Pn.none)) (fun h3 =>
     Pn.some (LpO.out [bF, .mask [3], .ren []] (p := [(decide (0 ≤ v3)) = false]) (by kernel_rfl) (show X.out 0 ≠ X.go from nofun) (cj1 h3)))
def spec_Luhn (s_ : ByteArray) : Option (Int) :=
 (spec_Digits s_).bind fun r1 =>
 if r1 = true then
 (spec_Luhn_l0 s_ FUEL 0 true (i64 ((s_.size : Int) - 1))).bind fun r2 =>
 some (Int.tmod (i64 (10 - r2)) 10)
 else
 some (-1)
theorem spec_Luhn_ok (s_ : ByteArray) : Pn (fun y => Fn Tryz.prog 92 [(false, E9 s_)] (E3 y) []) (spec_Luhn s_) := by
  unfold spec_Luhn
  exact
   Pn.bind (fun r1 h1 =>
   Pn.ite (fun h2 =>
   Pn.bind (fun r2 h7 =>
   Pn.some (Fn.of [.call [] (E4 r1) [], bF, .wait 6, .mask [0, 3, 4, 5], .ren [], .loop (X.out 0) (st 38 [(3, vI r2)] [] [])] (p := [Fn Tryz.prog 51 [(false, E9 s_)] (E4 r1) [],(true || ((E4 r1).nv && nvL [])) = true,(!r1) = false,Loop Tryz.prog (sub (codeOf Tryz.prog 92) [1, 1, 1, 1, 0, 1, 0, 0]) (st 38 [(0, vS s_), (3, vI 0), (4, vB true), (5, vI (i64 ((s_.size : Int) - 1)))] [] []) (X.out 0) (st 38 [(3, vI r2)] [] []),(10 : Int) ≠ 0]) (by kernel_rfl) (cj (spec_Digits_ok s_ r1 h1) (cj rfl (cj (nf h2) (cj (spec_Luhn_l0_ok s_ FUEL 0 true (i64 ((s_.size : Int) - 1)) r2 h7) (cj1 (by decide))))))))) (fun h2 =>
   Pn.some (Fn.of [.call [] (E4 r1) [], bT] (p := [Fn Tryz.prog 51 [(false, E9 s_)] (E4 r1) [],(true || ((E4 r1).nv && nvL [])) = true,(!r1) = true]) (by kernel_rfl) (cj (spec_Digits_ok s_ r1 h1) (cj rfl (cj1 (nt h2)))))))
def spec_LuhnOk (s_ : ByteArray) : Option (Bool) :=
 (spec_Digits s_).bind fun r1 =>
 if r1 = true then
 if (decide ((s_.size : Int) < 2)) = true then
 some false
 else
 if (decide (0 ≤ (i64 ((s_.size : Int) - 1)))) = true then
 if (decide ((i64 ((s_.size : Int) - 1)) ≤ (s_.size : Int))) = true then
 if (decide (0 ≤ i64 ((s_.size : Int) - 1))) = true then
 if (decide ((i64 ((s_.size : Int) - 1) : Int) < (s_.size : Int))) = true then
 (spec_Luhn (s_.extract 0 (i64 ((s_.size : Int) - 1)).toNat)).bind fun r2 =>
 some (r2 == (i64 ((i64 (sAt s_ (i64 ((s_.size : Int) - 1)))) - 48)))
 else none
 else none
 else none
 else none
 else
 some false
theorem spec_LuhnOk_ok (s_ : ByteArray) : Pn (fun y => Fn Tryz.prog 81 [(false, E9 s_)] (E4 y) []) (spec_LuhnOk s_) := by
  unfold spec_LuhnOk
  exact
   Pn.bind (fun r1 h1 =>
   Pn.ite (fun h2 =>
   Pn.ite (fun h3 =>
   Pn.some (Fn.of [.call [] (E4 r1) [], bF, bF, bF, bF, bT] (p := [Fn Tryz.prog 51 [(false, E9 s_)] (E4 r1) [],(true || ((E4 r1).nv && nvL [])) = true,(!r1) = false,(!r1) = false,(!r1) = false,(!r1) = false,(decide ((s_.size : Int) < 2)) = true]) (by kernel_rfl) (cj (spec_Digits_ok s_ r1 h1) (cj rfl (cj (nf h2) (cj (nf h2) (cj (nf h2) (cj (nf h2) (cj1 h3))))))))) (fun h3 =>
   Pn.ite (fun h4 =>
   Pn.ite (fun h5 =>
   Pn.ite (fun h6 =>
   Pn.ite (fun h7 =>
   Pn.bind (fun r2 h8 =>
   Pn.some (Fn.of [.call [] (E4 r1) [], bF, bF, bF, bF, bF, .draw [], .call [] (E3 r2) []] (p := [Fn Tryz.prog 51 [(false, E9 s_)] (E4 r1) [],(true || ((E4 r1).nv && nvL [])) = true,(!r1) = false,(!r1) = false,(!r1) = false,(!r1) = false,(decide ((s_.size : Int) < 2)) = false,(0 : Int) ≤ 0,(0 : Int) ≤ (i64 ((s_.size : Int) - 1)),((i64 ((s_.size : Int) - 1)) : Int) ≤ (s_.size : Int),(0 : Int) ≤ i64 ((s_.size : Int) - 1),(i64 ((s_.size : Int) - 1) : Int) < s_.size,Fn Tryz.prog 92 [(false, E9 (s_.extract 0 (i64 ((s_.size : Int) - 1)).toNat))] (E3 r2) [],(true || ((E3 r2).nv && nvL [])) = true]) (by kernel_rfl) (cj (spec_Digits_ok s_ r1 h1) (cj rfl (cj (nf h2) (cj (nf h2) (cj (nf h2) (cj (nf h2) (cj h3 (cj (by decide) (cj (od h4) (cj (od h5) (cj (od h6) (cj (od h7) (cj (spec_Luhn_ok (s_.extract 0 (i64 ((s_.size : Int) - 1)).toNat) r2 h8) (cj1 rfl))))))))))))))))) (fun h7 =>
   Pn.none)) (fun h6 =>
   Pn.none)) (fun h5 =>
   Pn.none)) (fun h4 =>
   Pn.none))) (fun h2 =>
   Pn.some (Fn.of [.call [] (E4 r1) [], bT, bT, bT, bT, bT] (p := [Fn Tryz.prog 51 [(false, E9 s_)] (E4 r1) [],(true || ((E4 r1).nv && nvL [])) = true,(!r1) = true,(!r1) = true,(!r1) = true,(!r1) = true,true = true]) (by kernel_rfl) (cj (spec_Digits_ok s_ r1 h1) (cj rfl (cj (nt h2) (cj (nt h2) (cj (nt h2) (cj (nt h2) (cj1 rfl))))))))))
def spec_AcctIdOk (s_ : ByteArray) : Option (Bool) :=
 if (decide ((s_.size : Int) ≤ 19)) = true then
 (spec_LuhnOk s_).bind fun r1 =>
 some r1
 else
 some false
theorem spec_AcctIdOk_ok (s_ : ByteArray) : Pn (fun y => Fn Tryz.prog 63 [(false, E9 s_)] (E4 y) []) (spec_AcctIdOk s_) := by
  unfold spec_AcctIdOk
  exact
   Pn.ite (fun h1 =>
   Pn.bind (fun r1 h2 =>
   Pn.some (Fn.of [bT, bT, .call [] (E4 r1) [], bT] (p := [(decide ((s_.size : Int) ≤ 19)) = true,(decide ((s_.size : Int) ≤ 19)) = true,Fn Tryz.prog 81 [(false, E9 s_)] (E4 r1) [],(true || ((E4 r1).nv && nvL [])) = true,(decide ((s_.size : Int) ≤ 19)) = true]) (by kernel_rfl) (cj h1 (cj h1 (cj (spec_LuhnOk_ok s_ r1 h2) (cj rfl (cj1 h1)))))))) (fun h1 =>
   Pn.some (Fn.of [bF, bF, bF] (p := [(decide ((s_.size : Int) ≤ 19)) = false,(decide ((s_.size : Int) ≤ 19)) = false,(decide ((s_.size : Int) ≤ 19)) = false]) (by kernel_rfl) (cj h1 (cj h1 (cj1 h1)))))
def spec_HoldIdOk_l0 (s_ : ByteArray) : Nat → Int → Option (Lo Unit Unit)
  | 0, _ => none
  | fuel + 1, v1 =>
   if (decide (v1 < (s_.size : Int))) = true then
   if (decide (0 ≤ v1)) = true then
   if (decide ((v1 : Int) < (s_.size : Int))) = true then
   if (decide ((sAt s_ v1) < 48)) = true then
   if (decide ((sAt s_ v1) < 97)) = true then
   some (.ret ())
   else
   if (decide (122 < (sAt s_ v1))) = true then
   some (.ret ())
   else
   spec_HoldIdOk_l0 s_ fuel (i64 (v1 + 1))
   else
   if (decide (57 < (sAt s_ v1))) = true then
   if (decide ((sAt s_ v1) < 97)) = true then
   some (.ret ())
   else
   if (decide (122 < (sAt s_ v1))) = true then
   some (.ret ())
   else
   spec_HoldIdOk_l0 s_ fuel (i64 (v1 + 1))
   else
   spec_HoldIdOk_l0 s_ fuel (i64 (v1 + 1))
   else none
   else none
   else
   some (.out ())
theorem spec_HoldIdOk_l0_ok (s_ : ByteArray) : ∀ (fuel : Nat) (v1 : Int), Pn (LpO Tryz.prog (sub (codeOf Tryz.prog 64) [1, 0, 1, 0, 0]) (st 35 [(0, vS s_), (3, vI v1)] [] []) (fun (y : Lo Unit Unit) => Lo.elim y (fun s => (X.out 0, st 35 [(0, vS s_)] [] [])) (fun s => (X.ret, st 35 [(2, vB false)] [] [])))) (spec_HoldIdOk_l0 s_ fuel v1)
  | 0, _ => Pn.none
  | fuel + 1, v1 => by
    unfold spec_HoldIdOk_l0
    exact
     Pn.ite (fun h1 =>
     Pn.ite (fun h2 =>
     Pn.ite (fun h3 =>
     Pn.ite (fun h4 =>
     Pn.ite (fun h5 =>
     Pn.some (LpO.out [bT, bT, bT, bT, bT, bT, bT, bT, bT, bT, bT, bT, bT, bT, bT, bT, bT, bT, bT, .wait 1, .mask [2], .ren []] (p := [(decide (v1 < (s_.size : Int))) = true,(0 : Int) ≤ v1,(v1 : Int) < s_.size,(decide ((sAt s_ v1) < 48)) = true,(decide ((sAt s_ v1) < 48)) = true,(decide ((sAt s_ v1) < 48)) = true,(decide ((sAt s_ v1) < 48)) = true,(decide ((sAt s_ v1) < 48)) = true,true = true,true = true,true = true,(0 : Int) ≤ v1,(v1 : Int) < s_.size,true = true,true = true,(decide ((sAt s_ v1) < 97)) = true,(decide ((sAt s_ v1) < 97)) = true,(decide ((sAt s_ v1) < 97)) = true,(decide ((sAt s_ v1) < 97)) = true,true = true,(decide ((sAt s_ v1) < 97)) = true,true = true,true = true]) (by kernel_rfl) (show X.ret ≠ X.go from nofun) (cj h1 (cj (od h2) (cj (od h3) (cj h4 (cj h4 (cj h4 (cj h4 (cj h4 (cj rfl (cj rfl (cj rfl (cj (od h2) (cj (od h3) (cj rfl (cj rfl (cj h5 (cj h5 (cj h5 (cj h5 (cj rfl (cj h5 (cj rfl (cj1 rfl))))))))))))))))))))))))) (fun h5 =>
     Pn.ite (fun h6 =>
     Pn.some (LpO.out [bT, bT, bT, bT, bT, bT, bT, bT, bT, bT, bT, bF, bF, bF, bF, bT, bF, bT, bT, .wait 1, .mask [2], .ren []] (p := [(decide (v1 < (s_.size : Int))) = true,(0 : Int) ≤ v1,(v1 : Int) < s_.size,(decide ((sAt s_ v1) < 48)) = true,(decide ((sAt s_ v1) < 48)) = true,(decide ((sAt s_ v1) < 48)) = true,(decide ((sAt s_ v1) < 48)) = true,(decide ((sAt s_ v1) < 48)) = true,true = true,true = true,true = true,(0 : Int) ≤ v1,(v1 : Int) < s_.size,true = true,true = true,(decide ((sAt s_ v1) < 97)) = false,(decide ((sAt s_ v1) < 97)) = false,(decide ((sAt s_ v1) < 97)) = false,(0 : Int) ≤ v1,(v1 : Int) < s_.size,(decide ((sAt s_ v1) < 97)) = false,true = true,(decide ((sAt s_ v1) < 97)) = false,true = true,(decide (122 < (sAt s_ v1))) = true]) (by kernel_rfl) (show X.ret ≠ X.go from nofun) (cj h1 (cj (od h2) (cj (od h3) (cj h4 (cj h4 (cj h4 (cj h4 (cj h4 (cj rfl (cj rfl (cj rfl (cj (od h2) (cj (od h3) (cj rfl (cj rfl (cj h5 (cj h5 (cj h5 (cj (od h2) (cj (od h3) (cj h5 (cj rfl (cj h5 (cj rfl (cj1 h6))))))))))))))))))))))))))) (fun h6 =>
     LpO.go [bT, bT, bT, bT, bT, bT, bT, bT, bT, bT, bT, bF, bF, bF, bF, bT, bF, bT, bF, .wait 3, .mask [0, 3], .ren []] (p := [(decide (v1 < (s_.size : Int))) = true,(0 : Int) ≤ v1,(v1 : Int) < s_.size,(decide ((sAt s_ v1) < 48)) = true,(decide ((sAt s_ v1) < 48)) = true,(decide ((sAt s_ v1) < 48)) = true,(decide ((sAt s_ v1) < 48)) = true,(decide ((sAt s_ v1) < 48)) = true,true = true,true = true,true = true,(0 : Int) ≤ v1,(v1 : Int) < s_.size,true = true,true = true,(decide ((sAt s_ v1) < 97)) = false,(decide ((sAt s_ v1) < 97)) = false,(decide ((sAt s_ v1) < 97)) = false,(0 : Int) ≤ v1,(v1 : Int) < s_.size,(decide ((sAt s_ v1) < 97)) = false,true = true,(decide ((sAt s_ v1) < 97)) = false,true = true,(decide (122 < (sAt s_ v1))) = false]) (by kernel_rfl) (cj h1 (cj (od h2) (cj (od h3) (cj h4 (cj h4 (cj h4 (cj h4 (cj h4 (cj rfl (cj rfl (cj rfl (cj (od h2) (cj (od h3) (cj rfl (cj rfl (cj h5 (cj h5 (cj h5 (cj (od h2) (cj (od h3) (cj h5 (cj rfl (cj h5 (cj rfl (cj1 h6))))))))))))))))))))))))) (spec_HoldIdOk_l0_ok s_ fuel (i64 (v1 + 1)))))) (fun h4 =>
     Pn.ite (fun h7 =>
     Pn.ite (fun h8 =>
     Pn.some (LpO.out [bT, bF, bF, bF, bF, bF, bT, bT, bT, bT, bT, bT, bT, bT, bT, bT, bT, bT, bT, .wait 1, .mask [2], .ren []] (p := [(decide (v1 < (s_.size : Int))) = true,(0 : Int) ≤ v1,(v1 : Int) < s_.size,(decide ((sAt s_ v1) < 48)) = false,(decide ((sAt s_ v1) < 48)) = false,(decide ((sAt s_ v1) < 48)) = false,(0 : Int) ≤ v1,(v1 : Int) < s_.size,(decide ((sAt s_ v1) < 48)) = false,(decide ((sAt s_ v1) < 48)) = false,(decide (57 < (sAt s_ v1))) = true,(decide (57 < (sAt s_ v1))) = true,(decide (57 < (sAt s_ v1))) = true,(0 : Int) ≤ v1,(v1 : Int) < s_.size,(decide (57 < (sAt s_ v1))) = true,(decide (57 < (sAt s_ v1))) = true,(decide ((sAt s_ v1) < 97)) = true,(decide ((sAt s_ v1) < 97)) = true,(decide ((sAt s_ v1) < 97)) = true,(decide ((sAt s_ v1) < 97)) = true,(decide (57 < (sAt s_ v1))) = true,(decide ((sAt s_ v1) < 97)) = true,(decide (57 < (sAt s_ v1))) = true,true = true]) (by kernel_rfl) (show X.ret ≠ X.go from nofun) (cj h1 (cj (od h2) (cj (od h3) (cj h4 (cj h4 (cj h4 (cj (od h2) (cj (od h3) (cj h4 (cj h4 (cj h7 (cj h7 (cj h7 (cj (od h2) (cj (od h3) (cj h7 (cj h7 (cj h8 (cj h8 (cj h8 (cj h8 (cj h7 (cj h8 (cj h7 (cj1 rfl))))))))))))))))))))))))))) (fun h8 =>
     Pn.ite (fun h9 =>
     Pn.some (LpO.out [bT, bF, bF, bF, bF, bF, bT, bT, bT, bT, bT, bF, bF, bF, bF, bT, bF, bT, bT, .wait 1, .mask [2], .ren []] (p := [(decide (v1 < (s_.size : Int))) = true,(0 : Int) ≤ v1,(v1 : Int) < s_.size,(decide ((sAt s_ v1) < 48)) = false,(decide ((sAt s_ v1) < 48)) = false,(decide ((sAt s_ v1) < 48)) = false,(0 : Int) ≤ v1,(v1 : Int) < s_.size,(decide ((sAt s_ v1) < 48)) = false,(decide ((sAt s_ v1) < 48)) = false,(decide (57 < (sAt s_ v1))) = true,(decide (57 < (sAt s_ v1))) = true,(decide (57 < (sAt s_ v1))) = true,(0 : Int) ≤ v1,(v1 : Int) < s_.size,(decide (57 < (sAt s_ v1))) = true,(decide (57 < (sAt s_ v1))) = true,(decide ((sAt s_ v1) < 97)) = false,(decide ((sAt s_ v1) < 97)) = false,(decide ((sAt s_ v1) < 97)) = false,(0 : Int) ≤ v1,(v1 : Int) < s_.size,(decide ((sAt s_ v1) < 97)) = false,(decide (57 < (sAt s_ v1))) = true,(decide ((sAt s_ v1) < 97)) = false,(decide (57 < (sAt s_ v1))) = true,(decide (122 < (sAt s_ v1))) = true]) (by kernel_rfl) (show X.ret ≠ X.go from nofun) (cj h1 (cj (od h2) (cj (od h3) (cj h4 (cj h4 (cj h4 (cj (od h2) (cj (od h3) (cj h4 (cj h4 (cj h7 (cj h7 (cj h7 (cj (od h2) (cj (od h3) (cj h7 (cj h7 (cj h8 (cj h8 (cj h8 (cj (od h2) (cj (od h3) (cj h8 (cj h7 (cj h8 (cj h7 (cj1 h9))))))))))))))))))))))))))))) (fun h9 =>
     LpO.go [bT, bF, bF, bF, bF, bF, bT, bT, bT, bT, bT, bF, bF, bF, bF, bT, bF, bT, bF, .wait 3, .mask [0, 3], .ren []] (p := [(decide (v1 < (s_.size : Int))) = true,(0 : Int) ≤ v1,(v1 : Int) < s_.size,(decide ((sAt s_ v1) < 48)) = false,(decide ((sAt s_ v1) < 48)) = false,(decide ((sAt s_ v1) < 48)) = false,(0 : Int) ≤ v1,(v1 : Int) < s_.size,(decide ((sAt s_ v1) < 48)) = false,(decide ((sAt s_ v1) < 48)) = false,(decide (57 < (sAt s_ v1))) = true,(decide (57 < (sAt s_ v1))) = true,(decide (57 < (sAt s_ v1))) = true,(0 : Int) ≤ v1,(v1 : Int) < s_.size,(decide (57 < (sAt s_ v1))) = true,(decide (57 < (sAt s_ v1))) = true,(decide ((sAt s_ v1) < 97)) = false,(decide ((sAt s_ v1) < 97)) = false,(decide ((sAt s_ v1) < 97)) = false,(0 : Int) ≤ v1,(v1 : Int) < s_.size,(decide ((sAt s_ v1) < 97)) = false,(decide (57 < (sAt s_ v1))) = true,(decide ((sAt s_ v1) < 97)) = false,(decide (57 < (sAt s_ v1))) = true,(decide (122 < (sAt s_ v1))) = false]) (by kernel_rfl) (cj h1 (cj (od h2) (cj (od h3) (cj h4 (cj h4 (cj h4 (cj (od h2) (cj (od h3) (cj h4 (cj h4 (cj h7 (cj h7 (cj h7 (cj (od h2) (cj (od h3) (cj h7 (cj h7 (cj h8 (cj h8 (cj h8 (cj (od h2) (cj (od h3) (cj h8 (cj h7 (cj h8 (cj h7 (cj1 h9))))))))))))))))))))))))))) (spec_HoldIdOk_l0_ok s_ fuel (i64 (v1 + 1)))))) (fun h7 =>
     LpO.go [bT, bF, bF, bF, bF, bF, bF, bF, bF, bF, bF, bF, bF, bF, .wait 3, .mask [0, 3], .ren []] (p := [(decide (v1 < (s_.size : Int))) = true,(0 : Int) ≤ v1,(v1 : Int) < s_.size,(decide ((sAt s_ v1) < 48)) = false,(decide ((sAt s_ v1) < 48)) = false,(decide ((sAt s_ v1) < 48)) = false,(0 : Int) ≤ v1,(v1 : Int) < s_.size,(decide ((sAt s_ v1) < 48)) = false,(decide ((sAt s_ v1) < 48)) = false,(decide (57 < (sAt s_ v1))) = false,(decide (57 < (sAt s_ v1))) = false,(decide (57 < (sAt s_ v1))) = false,(decide (57 < (sAt s_ v1))) = false,(decide (57 < (sAt s_ v1))) = false,(decide (57 < (sAt s_ v1))) = false,(decide (57 < (sAt s_ v1))) = false,false = false]) (by kernel_rfl) (cj h1 (cj (od h2) (cj (od h3) (cj h4 (cj h4 (cj h4 (cj (od h2) (cj (od h3) (cj h4 (cj h4 (cj h7 (cj h7 (cj h7 (cj h7 (cj h7 (cj h7 (cj h7 (cj1 rfl)))))))))))))))))) (spec_HoldIdOk_l0_ok s_ fuel (i64 (v1 + 1)))))) (fun h3 =>
     Pn.none)) (fun h2 =>
     Pn.none)) (fun h1 =>
     Pn.some (LpO.out [bF, .mask [0], .ren []] (p := [(decide (v1 < (s_.size : Int))) = false]) (by kernel_rfl) (show X.out 0 ≠ X.go from nofun) (cj1 h1)))
def spec_HoldIdOk (s_ : ByteArray) : Option (Bool) :=
 (spec_HoldIdOk_l0 s_ FUEL 0).bind fun r1 =>
 Lo.elim r1 (fun s1 =>
 (spec_l01In (s_.size : Int) 1 6).bind fun r2 =>
 some r2) (fun s2 =>
 some false)
theorem spec_HoldIdOk_ok (s_ : ByteArray) : Pn (fun y => Fn Tryz.prog 64 [(false, E9 s_)] (E4 y) []) (spec_HoldIdOk s_) := by
  unfold spec_HoldIdOk
  exact
   Pn.bind (fun r1 h10 =>
   Pn.lo (fun s1 h11 =>
   Pn.bind (fun r2 h13 =>
   Pn.some (Fn.of [.wait 3, .mask [0, 3], .ren [], .loop (X.out 0) (st 35 [(0, vS s_)] [] []), .call [] (E4 r2) []] (p := [Loop Tryz.prog (sub (codeOf Tryz.prog 64) [1, 0, 1, 0, 0]) (st 35 [(0, vS s_), (3, vI 0)] [] []) (X.out 0) (st 35 [(0, vS s_)] [] []),Fn Tryz.prog 57 [(false, E3 (s_.size : Int)), (false, E3 1), (false, E3 6)] (E4 r2) [],(true || ((E4 r2).nv && nvL [])) = true]) (by kernel_rfl) (cj ((spec_HoldIdOk_l0_ok s_ FUEL 0 r1 h10).at h11 :) (cj (spec_l01In_ok (s_.size : Int) 1 6 r2 h13) (cj1 rfl)))))) (fun s2 h12 =>
   Pn.some (Fn.of [.wait 3, .mask [0, 3], .ren [], .loop (X.ret) (st 35 [(2, vB false)] [] [])] (p := [Loop Tryz.prog (sub (codeOf Tryz.prog 64) [1, 0, 1, 0, 0]) (st 35 [(0, vS s_), (3, vI 0)] [] []) (X.ret) (st 35 [(2, vB false)] [] [])]) (by kernel_rfl) (cj1 ((spec_HoldIdOk_l0_ok s_ FUEL 0 r1 h10).at h12 :)))))
end Go.Proofs.YtniadckjgaldnaaGreatDoorM
