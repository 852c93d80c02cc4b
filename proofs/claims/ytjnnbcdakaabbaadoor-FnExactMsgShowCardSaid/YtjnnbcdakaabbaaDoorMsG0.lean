/- Printed by gen.py: functions on plain data, and that the program computes them. No condition. -/
import Derived.Test.YtjnnbcdakaabbaaDoorX2
import Derived.Test.YtjnnbcdakaabbaaDoorProg
namespace Go.Proofs.YtjnnbcdakaabbaaDoorM
set_option linter.unusedVariables false
set_option linter.unusedSimpArgs false
open Go.RowKit
set_option maxRecDepth 100000

structure Field where
  No : Int
  Text : ByteArray
structure Msg where
  Mti : ByteArray
  List : List Field
structure fieldRow where
  no : Int
  kind : Int
  size : Int
def E9 (x : ByteArray) : V := V.sc (.string x)
def E3 (x : Int) : V := V.sc (.int .i64 x)
def E106 (x : Field) : V := V.agg [V.sc (.int .i64 x.No), V.sc (.string x.Text)]
def E29 (x : List Field) : V := V.sl true 106 (List.map E106 x)
def E31 (x : Msg) : V := V.agg [V.sc (.string x.Mti), V.sl true 106 (List.map E106 x.List)]
def E4 (x : Bool) : V := V.sc (.bool x)
def E71 (x : Field) : V := V.agg [V.sc (.int .i64 x.No), V.sc (.string x.Text)]
def E34 (x : List Field) : V := V.sl true 71 (List.map E71 x)
def E36 (x : Msg) : V := V.agg [V.sc (.string x.Mti), V.sl true 71 (List.map E71 x.List)]
def E5 (x : Int) : V := V.sc (.int .u8 x)
def E127 (x : fieldRow) : V := V.agg [V.sc (.int .i64 x.no), V.sc (.int .i64 x.kind), V.sc (.int .i64 x.size)]
def E146 (x : List fieldRow) : V := V.sl true 127 (List.map E127 x)
theorem nv_E9 (x : ByteArray) : (E9 x).nv = true := by
  simp [E9, V.nv, nvL, nvL_all]
theorem nv_E3 (x : Int) : (E3 x).nv = true := by
  simp [E3, V.nv, nvL, nvL_all]
theorem nv_E106 (x : Field) : (E106 x).nv = true := by
  simp [E106, V.nv, nvL, nvL_all]
theorem nv_E29 (x : List Field) : (E29 x).nv = true := by
  simp [E29, V.nv, nvL, nvL_all, nv_E106]
theorem nv_E31 (x : Msg) : (E31 x).nv = true := by
  simp [E31, V.nv, nvL, nvL_all, nv_E106]
theorem nv_E4 (x : Bool) : (E4 x).nv = true := by
  simp [E4, V.nv, nvL, nvL_all]
theorem nv_E71 (x : Field) : (E71 x).nv = true := by
  simp [E71, V.nv, nvL, nvL_all]
theorem nv_E34 (x : List Field) : (E34 x).nv = true := by
  simp [E34, V.nv, nvL, nvL_all, nv_E71]
theorem nv_E36 (x : Msg) : (E36 x).nv = true := by
  simp [E36, V.nv, nvL, nvL_all, nv_E71]
theorem nv_E5 (x : Int) : (E5 x).nv = true := by
  simp [E5, V.nv, nvL, nvL_all]
theorem nv_E127 (x : fieldRow) : (E127 x).nv = true := by
  simp [E127, V.nv, nvL, nvL_all]
theorem nv_E146 (x : List fieldRow) : (E146 x).nv = true := by
  simp [E146, V.nv, nvL, nvL_all, nv_E127]
def laws_szField (a : Field) (left : Int) : Option (Int) :=
 if (decide ((i64 (left - (a.Text.size : Int))) < 0)) = true then
 some (-1)
 else
 some (i64 (left - (a.Text.size : Int)))
theorem laws_szField_ok (a : Field) (left : Int) : Pn (fun y => Fn Tryd.prog 90 [(false, E106 a), (false, E3 left)] (E3 y) []) (laws_szField a left) := by
  unfold laws_szField
  exact
   Pn.ite (fun h1 =>
   Pn.some (Fn.of [.bit true] (p := [(decide ((i64 (left - (a.Text.size : Int))) < 0)) = true]) (by kernel_rfl) (cj1 h1))) (fun h1 =>
   Pn.some (Fn.of [.bit false] (p := [(decide ((i64 (left - (a.Text.size : Int))) < 0)) = false]) (by kernel_rfl) (cj1 h1)))
def laws_szFieldS_l0 (a : List Field) : List Field → Int → Option (Lo Int Unit)
  | [], v1 =>
   some (.out v1)
  | x1 :: t1, v1 =>
   (laws_szField x1 v1).bind fun r1 =>
   if (decide (r1 < 0)) = true then
   some (.ret ())
   else
   laws_szFieldS_l0 a t1 r1
theorem laws_szFieldS_l0_ok (a : List Field) (h3 : capOk a.length = true) : ∀ (t1 p1 : List Field) (_ : a = p1 ++ t1) (v1 : Int), Pn (LpO Tryd.prog (sub (codeOf Tryd.prog 42) [1, 1, 1, 0, 1, 0, 0]) (st 27 [(0, V.sl false 106 (List.map E106 a)), (1, V.sc (.int .i64 v1)), (5, V.sc (.int .i64 (p1.length : Int)))] [] []) (fun (y : Lo Int Unit) => Lo.elim y (fun s => (X.out 0, st 27 [(1, V.sc (.int .i64 s))] [] [])) (fun s => (X.ret, st 27 [(4, V.sc (.int .i64 (-1)))] [] [])))) (laws_szFieldS_l0 a t1 v1)
  | [], p1, h2, v1 => by
    unfold laws_szFieldS_l0
    exact
     Pn.some (LpO.out [.wait 3, .nm 14 (V.sc (.int .i64 (a.length : Int))), .bit false, .mask [1], .ren []] (p := [V.sc (.int .i64 ((List.map E106 a).length : Int)) = V.sc (.int .i64 (a.length : Int)),
      (decide ((p1.length : Int) < (a.length : Int))) = false]) (by kernel_rfl) (show X.out 0 ≠ X.go from nofun) (cj (len_nm _ _) (cj1 (rng_end h2))))
  | x1 :: t1, p1, h2, v1 => by
    unfold laws_szFieldS_l0
    exact
     Pn.bind (fun r1 h4 =>
     Pn.ite (fun h5 =>
     Pn.some (LpO.out [.wait 3, .nm 14 (V.sc (.int .i64 (a.length : Int))), .bit true, .el (E106 x1), .call [] (E3 r1) [], .bit true, .wait 1, .mask [4], .ren []] (p := [V.sc (.int .i64 ((List.map E106 a).length : Int)) = V.sc (.int .i64 (a.length : Int)),
      (decide ((p1.length : Int) < (a.length : Int))) = true,
      (0 : Int) ≤ (p1.length : Int),
      (List.map E106 a)[(p1.length : Int).toNat]? = some (E106 x1),
      Fn Tryd.prog 90 [(false, E106 x1), (false, E3 v1)] (E3 r1) [],
      (true || ((E3 r1).nv && nvL [])) = true,
      (decide (r1 < 0)) = true]) (by kernel_rfl) (show X.ret ≠ X.go from nofun) (cj (len_nm _ _) (cj (rng_lt h2) (cj (by omega) (cj (rng_get _ h2) (cj (laws_szField_ok x1 v1 r1 h4) (cj rfl (cj1 h5))))))))) (fun h5 =>
     LpO.go [.wait 3, .nm 14 (V.sc (.int .i64 (a.length : Int))), .bit true, .el (E106 x1), .call [] (E3 r1) [], .bit false, .wait 3, .mask [0, 1, 5], .ren [], .nm 5 (V.sc (.int .i64 ((p1 ++ [x1]).length : Int)))] (p := [V.sc (.int .i64 ((List.map E106 a).length : Int)) = V.sc (.int .i64 (a.length : Int)),
      (decide ((p1.length : Int) < (a.length : Int))) = true,
      (0 : Int) ≤ (p1.length : Int),
      (List.map E106 a)[(p1.length : Int).toNat]? = some (E106 x1),
      Fn Tryd.prog 90 [(false, E106 x1), (false, E3 v1)] (E3 r1) [],
      (true || ((E3 r1).nv && nvL [])) = true,
      (decide (r1 < 0)) = false,
      V.sc (.int .i64 (i64 ((p1.length : Int) + 1))) = V.sc (.int .i64 ((p1 ++ [x1]).length : Int))]) (by kernel_rfl) (cj (len_nm _ _) (cj (rng_lt h2) (cj (by omega) (cj (rng_get _ h2) (cj (laws_szField_ok x1 v1 r1 h4) (cj rfl (cj h5 (cj1 (rng_next h2 h3))))))))) (laws_szFieldS_l0_ok a h3 t1 (p1 ++ [x1]) (rng_step h2) r1)))
def laws_szFieldS (a : List Field) (left : Int) : Option (Int) :=
 if (decide ((i64 (left - (a.length : Int))) < 0)) = true then
 some (-1)
 else
 if (capOk a.length) = true then
 (laws_szFieldS_l0 a a (i64 (left - (a.length : Int)))).bind fun r2 =>
 Lo.elim r2 (fun s1 =>
 some s1) (fun s2 =>
 some (-1))
 else none
theorem laws_szFieldS_ok (a : List Field) (left : Int) : Pn (fun y => Fn Tryd.prog 42 [(false, E29 a), (false, E3 left)] (E3 y) []) (laws_szFieldS a left) := by
  unfold laws_szFieldS
  exact
   Pn.ite (fun h1 =>
   Pn.some (Fn.of [.wait 4, .nm 8 (V.sc (.int .i64 (a.length : Int))), .bit true] (p := [V.sc (.int .i64 ((List.map E106 a).length : Int)) = V.sc (.int .i64 (a.length : Int)),
    (decide ((i64 (left - (a.length : Int))) < 0)) = true]) (by kernel_rfl) (cj (len_nm _ _) (cj1 h1)))) (fun h1 =>
   Pn.ite (fun h6 =>
   Pn.bind (fun r2 h7 =>
   Pn.lo (fun s1 h8 =>
   Pn.some (Fn.of [.wait 4, .nm 8 (V.sc (.int .i64 (a.length : Int))), .bit false, .wait 1, .mask [0, 1, 5], .ren [], .loop (X.out 0) (st 27 [(1, V.sc (.int .i64 s1))] [] [])] (p := [V.sc (.int .i64 ((List.map E106 a).length : Int)) = V.sc (.int .i64 (a.length : Int)),
    (decide ((i64 (left - (a.length : Int))) < 0)) = false,
    Loop Tryd.prog (sub (codeOf Tryd.prog 42) [1, 1, 1, 0, 1, 0, 0]) (st 27 [(0, V.sl false 106 (List.map E106 a)), (1, V.sc (.int .i64 (i64 (left - (a.length : Int))))), (5, V.sc (.int .i64 0))] [] []) (X.out 0) (st 27 [(1, V.sc (.int .i64 s1))] [] [])]) (by kernel_rfl) (cj (len_nm _ _) (cj h1 (cj1 ((laws_szFieldS_l0_ok a h6 a [] rfl (i64 (left - (a.length : Int))) r2 h7).at h8)))))) (fun s2 h9 =>
   Pn.some (Fn.of [.wait 4, .nm 8 (V.sc (.int .i64 (a.length : Int))), .bit false, .wait 1, .mask [0, 1, 5], .ren [], .loop (X.ret) (st 27 [(4, V.sc (.int .i64 (-1)))] [] [])] (p := [V.sc (.int .i64 ((List.map E106 a).length : Int)) = V.sc (.int .i64 (a.length : Int)),
    (decide ((i64 (left - (a.length : Int))) < 0)) = false,
    Loop Tryd.prog (sub (codeOf Tryd.prog 42) [1, 1, 1, 0, 1, 0, 0]) (st 27 [(0, V.sl false 106 (List.map E106 a)), (1, V.sc (.int .i64 (i64 (left - (a.length : Int))))), (5, V.sc (.int .i64 0))] [] []) (X.ret) (st 27 [(4, V.sc (.int .i64 (-1)))] [] [])]) (by kernel_rfl) (cj (len_nm _ _) (cj h1 (cj1 ((laws_szFieldS_l0_ok a h6 a [] rfl (i64 (left - (a.length : Int))) r2 h7).at h9)))))))) (fun h6 =>
   Pn.none))
def laws_szMsg (a : Msg) (left : Int) : Option (Int) :=
 if (decide ((i64 (left - (a.Mti.size : Int))) < 0)) = true then
 some (-1)
 else
 (laws_szFieldS a.List (i64 (left - (a.Mti.size : Int)))).bind fun r1 =>
 if (decide (r1 < 0)) = true then
 some (-1)
 else
 some r1
theorem laws_szMsg_ok (a : Msg) (left : Int) : Pn (fun y => Fn Tryd.prog 12 [(false, E31 a), (false, E3 left)] (E3 y) []) (laws_szMsg a left) := by
  unfold laws_szMsg
  exact
   Pn.ite (fun h1 =>
   Pn.some (Fn.of [.bit true] (p := [(decide ((i64 (left - (a.Mti.size : Int))) < 0)) = true]) (by kernel_rfl) (cj1 h1))) (fun h1 =>
   Pn.bind (fun r1 h2 =>
   Pn.ite (fun h3 =>
   Pn.some (Fn.of [.bit false, .call [] (E3 r1) [], .bit true] (p := [(decide ((i64 (left - (a.Mti.size : Int))) < 0)) = false,
    Fn Tryd.prog 42 [(false, E29 a.List), (false, E3 (i64 (left - (a.Mti.size : Int))))] (E3 r1) [],
    (true || ((E3 r1).nv && nvL [])) = true,
    (decide (r1 < 0)) = true]) (by kernel_rfl) (cj h1 (cj (laws_szFieldS_ok a.List (i64 (left - (a.Mti.size : Int))) r1 h2) (cj rfl (cj1 h3)))))) (fun h3 =>
   Pn.some (Fn.of [.bit false, .call [] (E3 r1) [], .bit false] (p := [(decide ((i64 (left - (a.Mti.size : Int))) < 0)) = false,
    Fn Tryd.prog 42 [(false, E29 a.List), (false, E3 (i64 (left - (a.Mti.size : Int))))] (E3 r1) [],
    (true || ((E3 r1).nv && nvL [])) = true,
    (decide (r1 < 0)) = false]) (by kernel_rfl) (cj h1 (cj (laws_szFieldS_ok a.List (i64 (left - (a.Mti.size : Int))) r1 h2) (cj rfl (cj1 h3))))))))
def laws_toField (a : Field) : Option (Field) :=
 some a
theorem laws_toField_ok (a : Field) : Pn (fun y => Fn Tryd.prog 92 [(false, E106 a)] (E71 y) []) (laws_toField a) := by
  unfold laws_toField
  exact
   Pn.some (Fn.of [] (p := []) (by kernel_rfl) trivial)
def laws_toFieldS_l0 (a : List Field) : List Field → List Field → (List Field) → Option ((List Field))
  | [], p1, v1 =>
   some v1
  | x1 :: t1, p1, v1 =>
   (laws_toField x1).bind fun r1 =>
   (v1[(p1.length : Int).toNat]?).bind fun x2 =>
   laws_toFieldS_l0 a t1 (p1 ++ [x1]) (v1.set ((p1.length : Int).toNat) r1)
theorem laws_toFieldS_l0_ok (a : List Field) (h4 : capOk a.length = true) : ∀ (t1 p1 : List Field) (_ : a = p1 ++ t1) (v1 : List Field), Pn (LpO Tryd.prog (sub (codeOf Tryd.prog 44) [1, 1, 0, 1, 0, 0]) (st 23 [(0, V.sl false 106 (List.map E106 a)), (3, V.ow 0), (4, V.sc (.int .i64 (p1.length : Int)))] [Blk.row 71 (List.map E71 v1) []] []) (fun (y : (List Field)) => (X.out 0, st 23 [(3, V.ow 0)] [Blk.row 71 (List.map E71 y) []] []))) (laws_toFieldS_l0 a t1 p1 v1)
  | [], p1, h3, v1 => by
    unfold laws_toFieldS_l0
    exact
     Pn.some (LpO.out [.wait 3, .nm 10 (V.sc (.int .i64 (a.length : Int))), .bit false, .mask [3], .ren [0]] (p := [V.sc (.int .i64 ((List.map E106 a).length : Int)) = V.sc (.int .i64 (a.length : Int)),
      (decide ((p1.length : Int) < (a.length : Int))) = false]) (by kernel_rfl) (show X.out 0 ≠ X.go from nofun) (cj (len_nm _ _) (cj1 (rng_end h3))))
  | x1 :: t1, p1, h3, v1 => by
    unfold laws_toFieldS_l0
    exact
     Pn.bind (fun r1 h5 =>
     Pn.bind (fun x2 h6 =>
     LpO.go [.wait 3, .nm 10 (V.sc (.int .i64 (a.length : Int))), .bit true, .el (E106 x1), .call [] (E71 r1) [], .el (E71 x2), .nb 0 (.row 71 (List.map E71 (v1.set ((p1.length : Int).toNat) r1)) []), .wait 4, .mask [0, 3, 4], .ren [0], .nm 4 (V.sc (.int .i64 ((p1 ++ [x1]).length : Int)))] (p := [V.sc (.int .i64 ((List.map E106 a).length : Int)) = V.sc (.int .i64 (a.length : Int)),
      (decide ((p1.length : Int) < (a.length : Int))) = true,
      (0 : Int) ≤ (p1.length : Int),
      (List.map E106 a)[(p1.length : Int).toNat]? = some (E106 x1),
      Fn Tryd.prog 92 [(false, E106 x1)] (E71 r1) [],
      (true || ((E71 r1).nv && nvL [])) = true,
      (0 : Int) ≤ (p1.length : Int),
      ((p1.length : Int) : Int) < ((List.map E71 v1).length : Int),
      look [] ((p1.length : Int).toNat) = none,
      (List.map E71 v1)[(p1.length : Int).toNat]? = some (E71 x2),
      Blk.row 71 ((List.map E71 v1).set ((p1.length : Int).toNat) (V.agg [V.sc (.int .i64 r1.No), V.sc (.string r1.Text)])) [] = Blk.row 71 (List.map E71 (v1.set ((p1.length : Int).toNat) r1)) [],
      V.sc (.int .i64 (i64 ((p1.length : Int) + 1))) = V.sc (.int .i64 ((p1 ++ [x1]).length : Int))]) (by kernel_rfl) (cj (len_nm _ _) (cj (rng_lt h3) (cj (by omega) (cj (rng_get _ h3) (cj (laws_toField_ok x1 r1 h5) (cj rfl (cj (by omega) (cj (map_ltN (by omega) h6) (cj rfl (cj (map_get h6) (cj (nb_set E71 _ _ r1) (cj1 (rng_next h3 h4))))))))))))) (laws_toFieldS_l0_ok a h4 t1 (p1 ++ [x1]) (rng_step h3) (v1.set ((p1.length : Int).toNat) r1))))
def laws_toFieldS (a : List Field) : Option ((List Field)) :=
 if (decide (0 ≤ (a.length : Int))) = true then
 if (capOk (a.length : Int).toNat) = true then
 if (capOk a.length) = true then
 (laws_toFieldS_l0 a a [] (List.replicate ((a.length : Int).toNat) (Field.mk 0 ByteArray.empty))).bind fun r2 =>
 some r2
 else none
 else none
 else none
theorem laws_toFieldS_ok (a : List Field) : Pn (fun y => Fn Tryd.prog 44 [(false, E29 a)] (E34 y) []) (laws_toFieldS a) := by
  unfold laws_toFieldS
  exact
   Pn.ite (fun h1 =>
   Pn.ite (fun h2 =>
   Pn.ite (fun h7 =>
   Pn.bind (fun r2 h8 =>
   Pn.some (Fn.of [.wait 3, .nm 6 (V.sc (.int .i64 (a.length : Int))), .wait 1, .nb 0 (.row 71 (List.map E71 (List.replicate ((a.length : Int).toNat) (Field.mk 0 ByteArray.empty))) []), .wait 3, .mask [0, 3, 4], .ren [0], .loop (X.out 0) (st 23 [(3, V.ow 0)] [Blk.row 71 (List.map E71 r2) []] [])] (p := [V.sc (.int .i64 ((List.map E106 a).length : Int)) = V.sc (.int .i64 (a.length : Int)),
    ((a.length : Int) : Int) = (a.length : Int),
    (0 : Int) ≤ (a.length : Int),
    ((a.length : Int) : Int) ≤ 9223372036854775807,
    24 * (a.length : Int).toNat ≤ 281474976710656,
    Blk.row 71 (List.replicate ((a.length : Int).toNat) (V.agg [V.sc (.int .i64 0), V.sc (.string ByteArray.empty)])) [] = Blk.row 71 (List.map E71 (List.replicate ((a.length : Int).toNat) (Field.mk 0 ByteArray.empty))) [],
    Loop Tryd.prog (sub (codeOf Tryd.prog 44) [1, 1, 0, 1, 0, 0]) (st 23 [(0, V.sl false 106 (List.map E106 a)), (3, V.ow 0), (4, V.sc (.int .i64 0))] [Blk.row 71 (List.map E71 (List.replicate ((a.length : Int).toNat) (Field.mk 0 ByteArray.empty))) []] []) (X.out 0) (st 23 [(3, V.ow 0)] [Blk.row 71 (List.map E71 r2) []] [])]) (by kernel_rfl) (cj (len_nm _ _) (cj rfl (cj (od h1) (cj (cap3 h1 h2) (cj (cap4 h2 (by decide)) (cj (nb_rep E71 _ (Field.mk 0 ByteArray.empty)) (cj1 (laws_toFieldS_l0_ok a h7 a [] rfl (List.replicate ((a.length : Int).toNat) (Field.mk 0 ByteArray.empty)) r2 h8))))))))))) (fun h7 =>
   Pn.none)) (fun h2 =>
   Pn.none)) (fun h1 =>
   Pn.none)
def laws_toMsg (a : Msg) : Option (Msg) :=
 (laws_toFieldS a.List).bind fun r1 =>
 some (Msg.mk a.Mti r1)
theorem laws_toMsg_ok (a : Msg) : Pn (fun y => Fn Tryd.prog 14 [(false, E31 a)] (E36 y) []) (laws_toMsg a) := by
  unfold laws_toMsg
  exact
   Pn.bind (fun r1 h1 =>
   Pn.some (Fn.of [.call [] (E34 r1) []] (p := [Fn Tryd.prog 44 [(false, E29 a.List)] (E34 r1) [],
    (true || ((E34 r1).nv && nvL [])) = true]) (by kernel_rfl) (cj (laws_toFieldS_ok a.List r1 h1) (cj1 rfl))))
def spec_Digits_l0 (s_ : ByteArray) : Nat → Int → Option (Lo Unit Unit)
  | 0, _ => none
  | fuel + 1, v1 =>
   if (decide (v1 < (s_.size : Int))) = true then
   if (decide (0 ≤ v1)) = true then
   if (decide ((v1 : Int) < (s_.size : Int))) = true then
   if (decide ((sAt s_ v1) < 48)) = true then
   some (.ret ())
   else
   if (decide (57 < (sAt s_ v1))) = true then
   some (.ret ())
   else
   spec_Digits_l0 s_ fuel (i64 (v1 + 1))
   else none
   else none
   else
   some (.out ())
theorem spec_Digits_l0_ok (s_ : ByteArray) : ∀ (fuel : Nat) (v1 : Int), Pn (LpO Tryd.prog (sub (codeOf Tryd.prog 75) [1, 0, 1, 0, 0]) (st 23 [(0, V.sc (.string s_)), (3, V.sc (.int .i64 v1))] [] []) (fun (y : Lo Unit Unit) => Lo.elim y (fun s => (X.out 0, st 23 [(0, V.sc (.string s_))] [] [])) (fun s => (X.ret, st 23 [(2, V.sc (.bool false))] [] [])))) (spec_Digits_l0 s_ fuel v1)
  | 0, _ => Pn.none
  | fuel + 1, v1 => by
    unfold spec_Digits_l0
    exact
     Pn.ite (fun h1 =>
     Pn.ite (fun h2 =>
     Pn.ite (fun h3 =>
     Pn.ite (fun h4 =>
     Pn.some (LpO.out [.bit true, .bit true, .bit true, .bit true, .bit true, .bit true, .bit true, .wait 1, .mask [2], .ren []] (p := [(decide (v1 < (s_.size : Int))) = true,
      (0 : Int) ≤ v1,
      (v1 : Int) < s_.size,
      (decide ((sAt s_ v1) < 48)) = true,
      (decide ((sAt s_ v1) < 48)) = true,
      (decide ((sAt s_ v1) < 48)) = true,
      (decide ((sAt s_ v1) < 48)) = true,
      (decide ((sAt s_ v1) < 48)) = true,
      true = true]) (by kernel_rfl) (show X.ret ≠ X.go from nofun) (cj h1 (cj (od h2) (cj (od h3) (cj h4 (cj h4 (cj h4 (cj h4 (cj h4 (cj1 rfl))))))))))) (fun h4 =>
     Pn.ite (fun h5 =>
     Pn.some (LpO.out [.bit true, .bit false, .bit false, .bit false, .bit false, .bit false, .bit true, .wait 1, .mask [2], .ren []] (p := [(decide (v1 < (s_.size : Int))) = true,
      (0 : Int) ≤ v1,
      (v1 : Int) < s_.size,
      (decide ((sAt s_ v1) < 48)) = false,
      (decide ((sAt s_ v1) < 48)) = false,
      (decide ((sAt s_ v1) < 48)) = false,
      (0 : Int) ≤ v1,
      (v1 : Int) < s_.size,
      (decide ((sAt s_ v1) < 48)) = false,
      (decide ((sAt s_ v1) < 48)) = false,
      (decide (57 < (sAt s_ v1))) = true]) (by kernel_rfl) (show X.ret ≠ X.go from nofun) (cj h1 (cj (od h2) (cj (od h3) (cj h4 (cj h4 (cj h4 (cj (od h2) (cj (od h3) (cj h4 (cj h4 (cj1 h5))))))))))))) (fun h5 =>
     LpO.go [.bit true, .bit false, .bit false, .bit false, .bit false, .bit false, .bit false, .wait 3, .mask [0, 3], .ren []] (p := [(decide (v1 < (s_.size : Int))) = true,
      (0 : Int) ≤ v1,
      (v1 : Int) < s_.size,
      (decide ((sAt s_ v1) < 48)) = false,
      (decide ((sAt s_ v1) < 48)) = false,
      (decide ((sAt s_ v1) < 48)) = false,
      (0 : Int) ≤ v1,
      (v1 : Int) < s_.size,
      (decide ((sAt s_ v1) < 48)) = false,
      (decide ((sAt s_ v1) < 48)) = false,
      (decide (57 < (sAt s_ v1))) = false]) (by kernel_rfl) (cj h1 (cj (od h2) (cj (od h3) (cj h4 (cj h4 (cj h4 (cj (od h2) (cj (od h3) (cj h4 (cj h4 (cj1 h5))))))))))) (spec_Digits_l0_ok s_ fuel (i64 (v1 + 1)))))) (fun h3 =>
     Pn.none)) (fun h2 =>
     Pn.none)) (fun h1 =>
     Pn.some (LpO.out [.bit false, .mask [0], .ren []] (p := [(decide (v1 < (s_.size : Int))) = false]) (by kernel_rfl) (show X.out 0 ≠ X.go from nofun) (cj1 h1)))
def spec_Digits (s_ : ByteArray) : Option (Bool) :=
 (spec_Digits_l0 s_ FUEL 0).bind fun r1 =>
 Lo.elim r1 (fun s1 =>
 some (decide (0 < (s_.size : Int)))) (fun s2 =>
 some false)
theorem spec_Digits_ok (s_ : ByteArray) : Pn (fun y => Fn Tryd.prog 75 [(false, E9 s_)] (E4 y) []) (spec_Digits s_) := by
  unfold spec_Digits
  exact
   Pn.bind (fun r1 h6 =>
   Pn.lo (fun s1 h7 =>
   Pn.some (Fn.of [.wait 3, .mask [0, 3], .ren [], .loop (X.out 0) (st 23 [(0, V.sc (.string s_))] [] [])] (p := [Loop Tryd.prog (sub (codeOf Tryd.prog 75) [1, 0, 1, 0, 0]) (st 23 [(0, V.sc (.string s_)), (3, V.sc (.int .i64 0))] [] []) (X.out 0) (st 23 [(0, V.sc (.string s_))] [] [])]) (by kernel_rfl) (cj1 ((spec_Digits_l0_ok s_ FUEL 0 r1 h6).at h7)))) (fun s2 h8 =>
   Pn.some (Fn.of [.wait 3, .mask [0, 3], .ren [], .loop (X.ret) (st 23 [(2, V.sc (.bool false))] [] [])] (p := [Loop Tryd.prog (sub (codeOf Tryd.prog 75) [1, 0, 1, 0, 0]) (st 23 [(0, V.sc (.string s_)), (3, V.sc (.int .i64 0))] [] []) (X.ret) (st 23 [(2, V.sc (.bool false))] [] [])]) (by kernel_rfl) (cj1 ((spec_Digits_l0_ok s_ FUEL 0 r1 h6).at h8)))))
def spec_FieldSize (no : Int) : Option (Int) :=
 if (no == 2) = true then
 some 19
 else
 if (no == 3) = true then
 some 6
 else
 if (no == 11) = true then
 some 6
 else
 if (no == 38) = true then
 some 6
 else
 if (no == 4) = true then
 some 12
 else
 if (no == 37) = true then
 some 12
 else
 if (no == 95) = true then
 some 12
 else
 if (no == 7) = true then
 some 10
 else
 if (no == 14) = true then
 some 4
 else
 if (no == 39) = true then
 some 2
 else
 if (no == 41) = true then
 some 8
 else
 if (no == 49) = true then
 some 3
 else
 if (no == 102) = true then
 some 20
 else
 if (no == 103) = true then
 some 20
 else
 if (no == 48) = true then
 some 60
 else
 if (no == 54) = true then
 some 60
 else
 some 0
theorem spec_FieldSize_ok (no : Int) : Pn (fun y => Fn Tryd.prog 123 [(false, E3 no)] (E3 y) []) (spec_FieldSize no) := by
  unfold spec_FieldSize
  exact
   Pn.ite (fun h1 =>
   Pn.some (Fn.of [.bit true] (p := [(no == 2) = true]) (by kernel_rfl) (cj1 h1))) (fun h1 =>
   Pn.ite (fun h2 =>
   Pn.some (Fn.of [.bit false, .bit true, .bit true] (p := [(no == 2) = false,
    (no == 3) = true,
    (no == 3) = true]) (by kernel_rfl) (cj h1 (cj h2 (cj1 h2))))) (fun h2 =>
   Pn.ite (fun h3 =>
   Pn.some (Fn.of [.bit false, .bit false, .bit true, .bit true] (p := [(no == 2) = false,
    (no == 3) = false,
    (no == 11) = true,
    (no == 11) = true]) (by kernel_rfl) (cj h1 (cj h2 (cj h3 (cj1 h3)))))) (fun h3 =>
   Pn.ite (fun h4 =>
   Pn.some (Fn.of [.bit false, .bit false, .bit false, .bit true] (p := [(no == 2) = false,
    (no == 3) = false,
    (no == 11) = false,
    (no == 38) = true]) (by kernel_rfl) (cj h1 (cj h2 (cj h3 (cj1 h4)))))) (fun h4 =>
   Pn.ite (fun h5 =>
   Pn.some (Fn.of [.bit false, .bit false, .bit false, .bit false, .bit true, .bit true] (p := [(no == 2) = false,
    (no == 3) = false,
    (no == 11) = false,
    (no == 38) = false,
    (no == 4) = true,
    (no == 4) = true]) (by kernel_rfl) (cj h1 (cj h2 (cj h3 (cj h4 (cj h5 (cj1 h5)))))))) (fun h5 =>
   Pn.ite (fun h6 =>
   Pn.some (Fn.of [.bit false, .bit false, .bit false, .bit false, .bit false, .bit true, .bit true] (p := [(no == 2) = false,
    (no == 3) = false,
    (no == 11) = false,
    (no == 38) = false,
    (no == 4) = false,
    (no == 37) = true,
    (no == 37) = true]) (by kernel_rfl) (cj h1 (cj h2 (cj h3 (cj h4 (cj h5 (cj h6 (cj1 h6))))))))) (fun h6 =>
   Pn.ite (fun h7 =>
   Pn.some (Fn.of [.bit false, .bit false, .bit false, .bit false, .bit false, .bit false, .bit true] (p := [(no == 2) = false,
    (no == 3) = false,
    (no == 11) = false,
    (no == 38) = false,
    (no == 4) = false,
    (no == 37) = false,
    (no == 95) = true]) (by kernel_rfl) (cj h1 (cj h2 (cj h3 (cj h4 (cj h5 (cj h6 (cj1 h7))))))))) (fun h7 =>
   Pn.ite (fun h8 =>
   Pn.some (Fn.of [.bit false, .bit false, .bit false, .bit false, .bit false, .bit false, .bit false, .bit true] (p := [(no == 2) = false,
    (no == 3) = false,
    (no == 11) = false,
    (no == 38) = false,
    (no == 4) = false,
    (no == 37) = false,
    (no == 95) = false,
    (no == 7) = true]) (by kernel_rfl) (cj h1 (cj h2 (cj h3 (cj h4 (cj h5 (cj h6 (cj h7 (cj1 h8)))))))))) (fun h8 =>
   Pn.ite (fun h9 =>
   Pn.some (Fn.of [.bit false, .bit false, .bit false, .bit false, .bit false, .bit false, .bit false, .bit false, .bit true] (p := [(no == 2) = false,
    (no == 3) = false,
    (no == 11) = false,
    (no == 38) = false,
    (no == 4) = false,
    (no == 37) = false,
    (no == 95) = false,
    (no == 7) = false,
    (no == 14) = true]) (by kernel_rfl) (cj h1 (cj h2 (cj h3 (cj h4 (cj h5 (cj h6 (cj h7 (cj h8 (cj1 h9))))))))))) (fun h9 =>
   Pn.ite (fun h10 =>
   Pn.some (Fn.of [.bit false, .bit false, .bit false, .bit false, .bit false, .bit false, .bit false, .bit false, .bit false, .bit true] (p := [(no == 2) = false,
    (no == 3) = false,
    (no == 11) = false,
    (no == 38) = false,
    (no == 4) = false,
    (no == 37) = false,
    (no == 95) = false,
    (no == 7) = false,
    (no == 14) = false,
    (no == 39) = true]) (by kernel_rfl) (cj h1 (cj h2 (cj h3 (cj h4 (cj h5 (cj h6 (cj h7 (cj h8 (cj h9 (cj1 h10)))))))))))) (fun h10 =>
   Pn.ite (fun h11 =>
   Pn.some (Fn.of [.bit false, .bit false, .bit false, .bit false, .bit false, .bit false, .bit false, .bit false, .bit false, .bit false, .bit true] (p := [(no == 2) = false,
    (no == 3) = false,
    (no == 11) = false,
    (no == 38) = false,
    (no == 4) = false,
    (no == 37) = false,
    (no == 95) = false,
    (no == 7) = false,
    (no == 14) = false,
    (no == 39) = false,
    (no == 41) = true]) (by kernel_rfl) (cj h1 (cj h2 (cj h3 (cj h4 (cj h5 (cj h6 (cj h7 (cj h8 (cj h9 (cj h10 (cj1 h11))))))))))))) (fun h11 =>
   Pn.ite (fun h12 =>
   Pn.some (Fn.of [.bit false, .bit false, .bit false, .bit false, .bit false, .bit false, .bit false, .bit false, .bit false, .bit false, .bit false, .bit true] (p := [(no == 2) = false,
    (no == 3) = false,
    (no == 11) = false,
    (no == 38) = false,
    (no == 4) = false,
    (no == 37) = false,
    (no == 95) = false,
    (no == 7) = false,
    (no == 14) = false,
    (no == 39) = false,
    (no == 41) = false,
    (no == 49) = true]) (by kernel_rfl) (cj h1 (cj h2 (cj h3 (cj h4 (cj h5 (cj h6 (cj h7 (cj h8 (cj h9 (cj h10 (cj h11 (cj1 h12)))))))))))))) (fun h12 =>
   Pn.ite (fun h13 =>
   Pn.some (Fn.of [.bit false, .bit false, .bit false, .bit false, .bit false, .bit false, .bit false, .bit false, .bit false, .bit false, .bit false, .bit false, .bit true, .bit true] (p := [(no == 2) = false,
    (no == 3) = false,
    (no == 11) = false,
    (no == 38) = false,
    (no == 4) = false,
    (no == 37) = false,
    (no == 95) = false,
    (no == 7) = false,
    (no == 14) = false,
    (no == 39) = false,
    (no == 41) = false,
    (no == 49) = false,
    (no == 102) = true,
    (no == 102) = true]) (by kernel_rfl) (cj h1 (cj h2 (cj h3 (cj h4 (cj h5 (cj h6 (cj h7 (cj h8 (cj h9 (cj h10 (cj h11 (cj h12 (cj h13 (cj1 h13)))))))))))))))) (fun h13 =>
   Pn.ite (fun h14 =>
   Pn.some (Fn.of [.bit false, .bit false, .bit false, .bit false, .bit false, .bit false, .bit false, .bit false, .bit false, .bit false, .bit false, .bit false, .bit false, .bit true] (p := [(no == 2) = false,
    (no == 3) = false,
    (no == 11) = false,
    (no == 38) = false,
    (no == 4) = false,
    (no == 37) = false,
    (no == 95) = false,
    (no == 7) = false,
    (no == 14) = false,
    (no == 39) = false,
    (no == 41) = false,
    (no == 49) = false,
    (no == 102) = false,
    (no == 103) = true]) (by kernel_rfl) (cj h1 (cj h2 (cj h3 (cj h4 (cj h5 (cj h6 (cj h7 (cj h8 (cj h9 (cj h10 (cj h11 (cj h12 (cj h13 (cj1 h14)))))))))))))))) (fun h14 =>
   Pn.ite (fun h15 =>
   Pn.some (Fn.of [.bit false, .bit false, .bit false, .bit false, .bit false, .bit false, .bit false, .bit false, .bit false, .bit false, .bit false, .bit false, .bit false, .bit false, .bit true, .bit true] (p := [(no == 2) = false,
    (no == 3) = false,
    (no == 11) = false,
    (no == 38) = false,
    (no == 4) = false,
    (no == 37) = false,
    (no == 95) = false,
    (no == 7) = false,
    (no == 14) = false,
    (no == 39) = false,
    (no == 41) = false,
    (no == 49) = false,
    (no == 102) = false,
    (no == 103) = false,
    (no == 48) = true,
    (no == 48) = true]) (by kernel_rfl) (cj h1 (cj h2 (cj h3 (cj h4 (cj h5 (cj h6 (cj h7 (cj h8 (cj h9 (cj h10 (cj h11 (cj h12 (cj h13 (cj h14 (cj h15 (cj1 h15)))))))))))))))))) (fun h15 =>
   Pn.ite (fun h16 =>
   Pn.some (Fn.of [.bit false, .bit false, .bit false, .bit false, .bit false, .bit false, .bit false, .bit false, .bit false, .bit false, .bit false, .bit false, .bit false, .bit false, .bit false, .bit true] (p := [(no == 2) = false,
    (no == 3) = false,
    (no == 11) = false,
    (no == 38) = false,
    (no == 4) = false,
    (no == 37) = false,
    (no == 95) = false,
    (no == 7) = false,
    (no == 14) = false,
    (no == 39) = false,
    (no == 41) = false,
    (no == 49) = false,
    (no == 102) = false,
    (no == 103) = false,
    (no == 48) = false,
    (no == 54) = true]) (by kernel_rfl) (cj h1 (cj h2 (cj h3 (cj h4 (cj h5 (cj h6 (cj h7 (cj h8 (cj h9 (cj h10 (cj h11 (cj h12 (cj h13 (cj h14 (cj h15 (cj1 h16)))))))))))))))))) (fun h16 =>
   Pn.some (Fn.of [.bit false, .bit false, .bit false, .bit false, .bit false, .bit false, .bit false, .bit false, .bit false, .bit false, .bit false, .bit false, .bit false, .bit false, .bit false, .bit false] (p := [(no == 2) = false,
    (no == 3) = false,
    (no == 11) = false,
    (no == 38) = false,
    (no == 4) = false,
    (no == 37) = false,
    (no == 95) = false,
    (no == 7) = false,
    (no == 14) = false,
    (no == 39) = false,
    (no == 41) = false,
    (no == 49) = false,
    (no == 102) = false,
    (no == 103) = false,
    (no == 48) = false,
    (no == 54) = false]) (by kernel_rfl) (cj h1 (cj h2 (cj h3 (cj h4 (cj h5 (cj h6 (cj h7 (cj h8 (cj h9 (cj h10 (cj h11 (cj h12 (cj h13 (cj h14 (cj h15 (cj1 h16)))))))))))))))))))))))))))))))))
def spec_FieldKind (no : Int) : Option (Int) :=
 if (no == 3) = true then
 some 1
 else
 if (no == 4) = true then
 some 1
 else
 if (no == 7) = true then
 some 1
 else
 if (no == 11) = true then
 some 1
 else
 if (no == 14) = true then
 some 1
 else
 if (no == 49) = true then
 some 1
 else
 if (no == 37) = true then
 some 2
 else
 if (no == 38) = true then
 some 2
 else
 if (no == 39) = true then
 some 2
 else
 if (no == 41) = true then
 some 2
 else
 if (no == 95) = true then
 some 2
 else
 if (no == 2) = true then
 some 3
 else
 if (no == 102) = true then
 some 4
 else
 if (no == 103) = true then
 some 4
 else
 if (no == 48) = true then
 some 5
 else
 if (no == 54) = true then
 some 5
 else
 some 0
theorem spec_FieldKind_ok (no : Int) : Pn (fun y => Fn Tryd.prog 124 [(false, E3 no)] (E3 y) []) (spec_FieldKind no) := by
  unfold spec_FieldKind
  exact
   Pn.ite (fun h1 =>
   Pn.some (Fn.of [.bit true, .bit true] (p := [(no == 3) = true,
    (no == 3) = true]) (by kernel_rfl) (cj h1 (cj1 h1)))) (fun h1 =>
   Pn.ite (fun h2 =>
   Pn.some (Fn.of [.bit false, .bit true, .bit true] (p := [(no == 3) = false,
    (no == 4) = true,
    (no == 4) = true]) (by kernel_rfl) (cj h1 (cj h2 (cj1 h2))))) (fun h2 =>
   Pn.ite (fun h3 =>
   Pn.some (Fn.of [.bit false, .bit false, .bit true, .bit true] (p := [(no == 3) = false,
    (no == 4) = false,
    (no == 7) = true,
    (no == 7) = true]) (by kernel_rfl) (cj h1 (cj h2 (cj h3 (cj1 h3)))))) (fun h3 =>
   Pn.ite (fun h4 =>
   Pn.some (Fn.of [.bit false, .bit false, .bit false, .bit true, .bit true] (p := [(no == 3) = false,
    (no == 4) = false,
    (no == 7) = false,
    (no == 11) = true,
    (no == 11) = true]) (by kernel_rfl) (cj h1 (cj h2 (cj h3 (cj h4 (cj1 h4))))))) (fun h4 =>
   Pn.ite (fun h5 =>
   Pn.some (Fn.of [.bit false, .bit false, .bit false, .bit false, .bit true, .bit true] (p := [(no == 3) = false,
    (no == 4) = false,
    (no == 7) = false,
    (no == 11) = false,
    (no == 14) = true,
    (no == 14) = true]) (by kernel_rfl) (cj h1 (cj h2 (cj h3 (cj h4 (cj h5 (cj1 h5)))))))) (fun h5 =>
   Pn.ite (fun h6 =>
   Pn.some (Fn.of [.bit false, .bit false, .bit false, .bit false, .bit false, .bit true] (p := [(no == 3) = false,
    (no == 4) = false,
    (no == 7) = false,
    (no == 11) = false,
    (no == 14) = false,
    (no == 49) = true]) (by kernel_rfl) (cj h1 (cj h2 (cj h3 (cj h4 (cj h5 (cj1 h6)))))))) (fun h6 =>
   Pn.ite (fun h7 =>
   Pn.some (Fn.of [.bit false, .bit false, .bit false, .bit false, .bit false, .bit false, .bit true, .bit true] (p := [(no == 3) = false,
    (no == 4) = false,
    (no == 7) = false,
    (no == 11) = false,
    (no == 14) = false,
    (no == 49) = false,
    (no == 37) = true,
    (no == 37) = true]) (by kernel_rfl) (cj h1 (cj h2 (cj h3 (cj h4 (cj h5 (cj h6 (cj h7 (cj1 h7)))))))))) (fun h7 =>
   Pn.ite (fun h8 =>
   Pn.some (Fn.of [.bit false, .bit false, .bit false, .bit false, .bit false, .bit false, .bit false, .bit true, .bit true] (p := [(no == 3) = false,
    (no == 4) = false,
    (no == 7) = false,
    (no == 11) = false,
    (no == 14) = false,
    (no == 49) = false,
    (no == 37) = false,
    (no == 38) = true,
    (no == 38) = true]) (by kernel_rfl) (cj h1 (cj h2 (cj h3 (cj h4 (cj h5 (cj h6 (cj h7 (cj h8 (cj1 h8))))))))))) (fun h8 =>
   Pn.ite (fun h9 =>
   Pn.some (Fn.of [.bit false, .bit false, .bit false, .bit false, .bit false, .bit false, .bit false, .bit false, .bit true, .bit true] (p := [(no == 3) = false,
    (no == 4) = false,
    (no == 7) = false,
    (no == 11) = false,
    (no == 14) = false,
    (no == 49) = false,
    (no == 37) = false,
    (no == 38) = false,
    (no == 39) = true,
    (no == 39) = true]) (by kernel_rfl) (cj h1 (cj h2 (cj h3 (cj h4 (cj h5 (cj h6 (cj h7 (cj h8 (cj h9 (cj1 h9)))))))))))) (fun h9 =>
   Pn.ite (fun h10 =>
   Pn.some (Fn.of [.bit false, .bit false, .bit false, .bit false, .bit false, .bit false, .bit false, .bit false, .bit false, .bit true, .bit true] (p := [(no == 3) = false,
    (no == 4) = false,
    (no == 7) = false,
    (no == 11) = false,
    (no == 14) = false,
    (no == 49) = false,
    (no == 37) = false,
    (no == 38) = false,
    (no == 39) = false,
    (no == 41) = true,
    (no == 41) = true]) (by kernel_rfl) (cj h1 (cj h2 (cj h3 (cj h4 (cj h5 (cj h6 (cj h7 (cj h8 (cj h9 (cj h10 (cj1 h10))))))))))))) (fun h10 =>
   Pn.ite (fun h11 =>
   Pn.some (Fn.of [.bit false, .bit false, .bit false, .bit false, .bit false, .bit false, .bit false, .bit false, .bit false, .bit false, .bit true] (p := [(no == 3) = false,
    (no == 4) = false,
    (no == 7) = false,
    (no == 11) = false,
    (no == 14) = false,
    (no == 49) = false,
    (no == 37) = false,
    (no == 38) = false,
    (no == 39) = false,
    (no == 41) = false,
    (no == 95) = true]) (by kernel_rfl) (cj h1 (cj h2 (cj h3 (cj h4 (cj h5 (cj h6 (cj h7 (cj h8 (cj h9 (cj h10 (cj1 h11))))))))))))) (fun h11 =>
   Pn.ite (fun h12 =>
   Pn.some (Fn.of [.bit false, .bit false, .bit false, .bit false, .bit false, .bit false, .bit false, .bit false, .bit false, .bit false, .bit false, .bit true] (p := [(no == 3) = false,
    (no == 4) = false,
    (no == 7) = false,
    (no == 11) = false,
    (no == 14) = false,
    (no == 49) = false,
    (no == 37) = false,
    (no == 38) = false,
    (no == 39) = false,
    (no == 41) = false,
    (no == 95) = false,
    (no == 2) = true]) (by kernel_rfl) (cj h1 (cj h2 (cj h3 (cj h4 (cj h5 (cj h6 (cj h7 (cj h8 (cj h9 (cj h10 (cj h11 (cj1 h12)))))))))))))) (fun h12 =>
   Pn.ite (fun h13 =>
   Pn.some (Fn.of [.bit false, .bit false, .bit false, .bit false, .bit false, .bit false, .bit false, .bit false, .bit false, .bit false, .bit false, .bit false, .bit true, .bit true] (p := [(no == 3) = false,
    (no == 4) = false,
    (no == 7) = false,
    (no == 11) = false,
    (no == 14) = false,
    (no == 49) = false,
    (no == 37) = false,
    (no == 38) = false,
    (no == 39) = false,
    (no == 41) = false,
    (no == 95) = false,
    (no == 2) = false,
    (no == 102) = true,
    (no == 102) = true]) (by kernel_rfl) (cj h1 (cj h2 (cj h3 (cj h4 (cj h5 (cj h6 (cj h7 (cj h8 (cj h9 (cj h10 (cj h11 (cj h12 (cj h13 (cj1 h13)))))))))))))))) (fun h13 =>
   Pn.ite (fun h14 =>
   Pn.some (Fn.of [.bit false, .bit false, .bit false, .bit false, .bit false, .bit false, .bit false, .bit false, .bit false, .bit false, .bit false, .bit false, .bit false, .bit true] (p := [(no == 3) = false,
    (no == 4) = false,
    (no == 7) = false,
    (no == 11) = false,
    (no == 14) = false,
    (no == 49) = false,
    (no == 37) = false,
    (no == 38) = false,
    (no == 39) = false,
    (no == 41) = false,
    (no == 95) = false,
    (no == 2) = false,
    (no == 102) = false,
    (no == 103) = true]) (by kernel_rfl) (cj h1 (cj h2 (cj h3 (cj h4 (cj h5 (cj h6 (cj h7 (cj h8 (cj h9 (cj h10 (cj h11 (cj h12 (cj h13 (cj1 h14)))))))))))))))) (fun h14 =>
   Pn.ite (fun h15 =>
   Pn.some (Fn.of [.bit false, .bit false, .bit false, .bit false, .bit false, .bit false, .bit false, .bit false, .bit false, .bit false, .bit false, .bit false, .bit false, .bit false, .bit true, .bit true] (p := [(no == 3) = false,
    (no == 4) = false,
    (no == 7) = false,
    (no == 11) = false,
    (no == 14) = false,
    (no == 49) = false,
    (no == 37) = false,
    (no == 38) = false,
    (no == 39) = false,
    (no == 41) = false,
    (no == 95) = false,
    (no == 2) = false,
    (no == 102) = false,
    (no == 103) = false,
    (no == 48) = true,
    (no == 48) = true]) (by kernel_rfl) (cj h1 (cj h2 (cj h3 (cj h4 (cj h5 (cj h6 (cj h7 (cj h8 (cj h9 (cj h10 (cj h11 (cj h12 (cj h13 (cj h14 (cj h15 (cj1 h15)))))))))))))))))) (fun h15 =>
   Pn.ite (fun h16 =>
   Pn.some (Fn.of [.bit false, .bit false, .bit false, .bit false, .bit false, .bit false, .bit false, .bit false, .bit false, .bit false, .bit false, .bit false, .bit false, .bit false, .bit false, .bit true] (p := [(no == 3) = false,
    (no == 4) = false,
    (no == 7) = false,
    (no == 11) = false,
    (no == 14) = false,
    (no == 49) = false,
    (no == 37) = false,
    (no == 38) = false,
    (no == 39) = false,
    (no == 41) = false,
    (no == 95) = false,
    (no == 2) = false,
    (no == 102) = false,
    (no == 103) = false,
    (no == 48) = false,
    (no == 54) = true]) (by kernel_rfl) (cj h1 (cj h2 (cj h3 (cj h4 (cj h5 (cj h6 (cj h7 (cj h8 (cj h9 (cj h10 (cj h11 (cj h12 (cj h13 (cj h14 (cj h15 (cj1 h16)))))))))))))))))) (fun h16 =>
   Pn.some (Fn.of [.bit false, .bit false, .bit false, .bit false, .bit false, .bit false, .bit false, .bit false, .bit false, .bit false, .bit false, .bit false, .bit false, .bit false, .bit false, .bit false] (p := [(no == 3) = false,
    (no == 4) = false,
    (no == 7) = false,
    (no == 11) = false,
    (no == 14) = false,
    (no == 49) = false,
    (no == 37) = false,
    (no == 38) = false,
    (no == 39) = false,
    (no == 41) = false,
    (no == 95) = false,
    (no == 2) = false,
    (no == 102) = false,
    (no == 103) = false,
    (no == 48) = false,
    (no == 54) = false]) (by kernel_rfl) (cj h1 (cj h2 (cj h3 (cj h4 (cj h5 (cj h6 (cj h7 (cj h8 (cj h9 (cj h10 (cj h11 (cj h12 (cj h13 (cj h14 (cj h15 (cj1 h16)))))))))))))))))))))))))))))))))
def spec_Printable_l0 (s_ : ByteArray) : Nat → Int → Option (Lo Unit Unit)
  | 0, _ => none
  | fuel + 1, v1 =>
   if (decide (v1 < (s_.size : Int))) = true then
   if (decide (0 ≤ v1)) = true then
   if (decide ((v1 : Int) < (s_.size : Int))) = true then
   if (decide ((sAt s_ v1) < 32)) = true then
   some (.ret ())
   else
   if (decide (126 < (sAt s_ v1))) = true then
   some (.ret ())
   else
   spec_Printable_l0 s_ fuel (i64 (v1 + 1))
   else none
   else none
   else
   some (.out ())
theorem spec_Printable_l0_ok (s_ : ByteArray) : ∀ (fuel : Nat) (v1 : Int), Pn (LpO Tryd.prog (sub (codeOf Tryd.prog 125) [1, 0, 1, 0, 0]) (st 20 [(0, V.sc (.string s_)), (3, V.sc (.int .i64 v1))] [] []) (fun (y : Lo Unit Unit) => Lo.elim y (fun s => (X.out 0, st 20 [] [] [])) (fun s => (X.ret, st 20 [(2, V.sc (.bool false))] [] [])))) (spec_Printable_l0 s_ fuel v1)
  | 0, _ => Pn.none
  | fuel + 1, v1 => by
    unfold spec_Printable_l0
    exact
     Pn.ite (fun h1 =>
     Pn.ite (fun h2 =>
     Pn.ite (fun h3 =>
     Pn.ite (fun h4 =>
     Pn.some (LpO.out [.bit true, .bit true, .bit true, .bit true, .bit true, .bit true, .bit true, .wait 1, .mask [2], .ren []] (p := [(decide (v1 < (s_.size : Int))) = true,
      (0 : Int) ≤ v1,
      (v1 : Int) < s_.size,
      (decide ((sAt s_ v1) < 32)) = true,
      (decide ((sAt s_ v1) < 32)) = true,
      (decide ((sAt s_ v1) < 32)) = true,
      (decide ((sAt s_ v1) < 32)) = true,
      (decide ((sAt s_ v1) < 32)) = true,
      true = true]) (by kernel_rfl) (show X.ret ≠ X.go from nofun) (cj h1 (cj (od h2) (cj (od h3) (cj h4 (cj h4 (cj h4 (cj h4 (cj h4 (cj1 rfl))))))))))) (fun h4 =>
     Pn.ite (fun h5 =>
     Pn.some (LpO.out [.bit true, .bit false, .bit false, .bit false, .bit false, .bit false, .bit true, .wait 1, .mask [2], .ren []] (p := [(decide (v1 < (s_.size : Int))) = true,
      (0 : Int) ≤ v1,
      (v1 : Int) < s_.size,
      (decide ((sAt s_ v1) < 32)) = false,
      (decide ((sAt s_ v1) < 32)) = false,
      (decide ((sAt s_ v1) < 32)) = false,
      (0 : Int) ≤ v1,
      (v1 : Int) < s_.size,
      (decide ((sAt s_ v1) < 32)) = false,
      (decide ((sAt s_ v1) < 32)) = false,
      (decide (126 < (sAt s_ v1))) = true]) (by kernel_rfl) (show X.ret ≠ X.go from nofun) (cj h1 (cj (od h2) (cj (od h3) (cj h4 (cj h4 (cj h4 (cj (od h2) (cj (od h3) (cj h4 (cj h4 (cj1 h5))))))))))))) (fun h5 =>
     LpO.go [.bit true, .bit false, .bit false, .bit false, .bit false, .bit false, .bit false, .wait 3, .mask [0, 3], .ren []] (p := [(decide (v1 < (s_.size : Int))) = true,
      (0 : Int) ≤ v1,
      (v1 : Int) < s_.size,
      (decide ((sAt s_ v1) < 32)) = false,
      (decide ((sAt s_ v1) < 32)) = false,
      (decide ((sAt s_ v1) < 32)) = false,
      (0 : Int) ≤ v1,
      (v1 : Int) < s_.size,
      (decide ((sAt s_ v1) < 32)) = false,
      (decide ((sAt s_ v1) < 32)) = false,
      (decide (126 < (sAt s_ v1))) = false]) (by kernel_rfl) (cj h1 (cj (od h2) (cj (od h3) (cj h4 (cj h4 (cj h4 (cj (od h2) (cj (od h3) (cj h4 (cj h4 (cj1 h5))))))))))) (spec_Printable_l0_ok s_ fuel (i64 (v1 + 1)))))) (fun h3 =>
     Pn.none)) (fun h2 =>
     Pn.none)) (fun h1 =>
     Pn.some (LpO.out [.bit false, .mask [], .ren []] (p := [(decide (v1 < (s_.size : Int))) = false]) (by kernel_rfl) (show X.out 0 ≠ X.go from nofun) (cj1 h1)))
def spec_Printable (s_ : ByteArray) : Option (Bool) :=
 (spec_Printable_l0 s_ FUEL 0).bind fun r1 =>
 Lo.elim r1 (fun s1 =>
 some true) (fun s2 =>
 some false)
theorem spec_Printable_ok (s_ : ByteArray) : Pn (fun y => Fn Tryd.prog 125 [(false, E9 s_)] (E4 y) []) (spec_Printable s_) := by
  unfold spec_Printable
  exact
   Pn.bind (fun r1 h6 =>
   Pn.lo (fun s1 h7 =>
   Pn.some (Fn.of [.wait 3, .mask [0, 3], .ren [], .loop (X.out 0) (st 20 [] [] [])] (p := [Loop Tryd.prog (sub (codeOf Tryd.prog 125) [1, 0, 1, 0, 0]) (st 20 [(0, V.sc (.string s_)), (3, V.sc (.int .i64 0))] [] []) (X.out 0) (st 20 [] [] [])]) (by kernel_rfl) (cj1 ((spec_Printable_l0_ok s_ FUEL 0 r1 h6).at h7)))) (fun s2 h8 =>
   Pn.some (Fn.of [.wait 3, .mask [0, 3], .ren [], .loop (X.ret) (st 20 [(2, V.sc (.bool false))] [] [])] (p := [Loop Tryd.prog (sub (codeOf Tryd.prog 125) [1, 0, 1, 0, 0]) (st 20 [(0, V.sc (.string s_)), (3, V.sc (.int .i64 0))] [] []) (X.ret) (st 20 [(2, V.sc (.bool false))] [] [])]) (by kernel_rfl) (cj1 ((spec_Printable_l0_ok s_ FUEL 0 r1 h6).at h8)))))
def spec_l01In (n : Int) (lo : Int) (hi : Int) : Option (Bool) :=
 if (decide (lo ≤ n)) = true then
 some (decide (n ≤ hi))
 else
 some false
theorem spec_l01In_ok (n : Int) (lo : Int) (hi : Int) : Pn (fun y => Fn Tryd.prog 77 [(false, E3 n), (false, E3 lo), (false, E3 hi)] (E4 y) []) (spec_l01In n lo hi) := by
  unfold spec_l01In
  exact
   Pn.ite (fun h1 =>
   Pn.some (Fn.of [.bit true, .bit true, .bit true, .bit true] (p := [(decide (lo ≤ n)) = true,
    (decide (lo ≤ n)) = true,
    (decide (lo ≤ n)) = true,
    (decide (lo ≤ n)) = true]) (by kernel_rfl) (cj h1 (cj h1 (cj h1 (cj1 h1)))))) (fun h1 =>
   Pn.some (Fn.of [.bit false, .bit false, .bit false, .bit false] (p := [(decide (lo ≤ n)) = false,
    (decide (lo ≤ n)) = false,
    (decide (lo ≤ n)) = false,
    (decide (lo ≤ n)) = false]) (by kernel_rfl) (cj h1 (cj h1 (cj h1 (cj1 h1))))))
def spec_FieldOk_c1 (s_ : ByteArray) (r1 : Int) (r2 : Int) : Option (Bool) :=
 if (r2 == 4) = true then
 some (r2 == 4)
 else
 some (r2 == 5)
theorem spec_FieldOk_c1_ok (s_ : ByteArray) (r1 : Int) (r2 : Int) : Pn (JnO Tryd.prog (sub (codeOf Tryd.prog 91) [1, 1, 0, 1, 0, 1, 1, 1, 1, 1, 1, 0]) (st 51 [(1, V.sc (.string s_)), (5, V.sc (.int .i64 r1)), (9, V.sc (.int .i64 r2))] [] []) (fun (y : Bool) => (X.go, st 51 [(1, V.sc (.string s_)), (5, V.sc (.int .i64 r1)), (40, V.sc (.bool y))] [] []))) (spec_FieldOk_c1 s_ r1 r2) := by
  unfold spec_FieldOk_c1
  exact
   Pn.ite (fun h12 =>
   Pn.some (JnO.of [.bit true, .mask [1, 5, 40], .ren []] (p := [(r2 == 4) = true]) (by kernel_rfl) (cj1 h12))) (fun h12 =>
   Pn.some (JnO.of [.bit false, .wait 2, .mask [1, 5, 40], .ren []] (p := [(r2 == 4) = false]) (by kernel_rfl) (cj1 h12)))
def spec_FieldOk_c0 (no : Int) (s_ : ByteArray) (r1 : Int) : Option (Lo Unit Bool) :=
 (spec_FieldKind no).bind fun r2 =>
 if (r2 == 1) = true then
 (spec_Digits s_).bind fun r3 =>
 if r3 = true then
 some (.ret ((s_.size : Int) == r1))
 else
 some (.ret false)
 else
 if (r2 == 2) = true then
 (spec_Printable s_).bind fun r4 =>
 if r4 = true then
 some (.ret ((s_.size : Int) == r1))
 else
 some (.ret false)
 else
 if (r2 == 3) = true then
 (spec_Digits s_).bind fun r5 =>
 if r5 = true then
 some (.ret (decide ((s_.size : Int) ≤ r1)))
 else
 some (.ret false)
 else
 (spec_FieldOk_c1 s_ r1 r2).bind fun r6 =>
 if r6 = true then
 (spec_Printable s_).bind fun r7 =>
 if r7 = true then
 (spec_l01In (s_.size : Int) 1 r1).bind fun r8 =>
 some (.ret r8)
 else
 some (.ret false)
 else
 some (.out ())
theorem spec_FieldOk_c0_ok (no : Int) (s_ : ByteArray) (r1 : Int) : Pn (JnO Tryd.prog (sub (codeOf Tryd.prog 91) [1, 1, 0]) (st 51 [(0, V.sc (.int .i64 no)), (1, V.sc (.string s_)), (5, V.sc (.int .i64 r1))] [] []) (fun (y : Lo Unit Bool) => Lo.elim y (fun s => (X.go, st 51 [] [] [])) (fun s => (X.ret, st 51 [(4, V.sc (.bool s))] [] [])))) (spec_FieldOk_c0 no s_ r1) := by
  unfold spec_FieldOk_c0
  exact
   Pn.bind (fun r2 h2 =>
   Pn.ite (fun h3 =>
   Pn.bind (fun r3 h4 =>
   Pn.ite (fun h5 =>
   Pn.some (JnO.of [.call [] (E3 r2) [], .bit true, .call [] (E4 r3) [], .bit true, .bit true, .bit true, .bit true, .bit true, .wait 2, .mask [4], .ren []] (p := [Fn Tryd.prog 124 [(false, E3 no)] (E3 r2) [],
    (true || ((E3 r2).nv && nvL [])) = true,
    (r2 == 1) = true,
    Fn Tryd.prog 75 [(false, E9 s_)] (E4 r3) [],
    (true || ((E4 r3).nv && nvL [])) = true,
    r3 = true,
    r3 = true,
    r3 = true,
    r3 = true,
    r3 = true]) (by kernel_rfl) (cj (spec_FieldKind_ok no r2 h2) (cj rfl (cj h3 (cj (spec_Digits_ok s_ r3 h4) (cj rfl (cj h5 (cj h5 (cj h5 (cj h5 (cj1 h5)))))))))))) (fun h5 =>
   Pn.some (JnO.of [.call [] (E3 r2) [], .bit true, .call [] (E4 r3) [], .bit false, .bit false, .bit false, .bit false, .bit false, .wait 2, .mask [4], .ren []] (p := [Fn Tryd.prog 124 [(false, E3 no)] (E3 r2) [],
    (true || ((E3 r2).nv && nvL [])) = true,
    (r2 == 1) = true,
    Fn Tryd.prog 75 [(false, E9 s_)] (E4 r3) [],
    (true || ((E4 r3).nv && nvL [])) = true,
    r3 = false,
    r3 = false,
    r3 = false,
    r3 = false,
    r3 = false]) (by kernel_rfl) (cj (spec_FieldKind_ok no r2 h2) (cj rfl (cj h3 (cj (spec_Digits_ok s_ r3 h4) (cj rfl (cj h5 (cj h5 (cj h5 (cj h5 (cj1 h5)))))))))))))) (fun h3 =>
   Pn.ite (fun h6 =>
   Pn.bind (fun r4 h7 =>
   Pn.ite (fun h8 =>
   Pn.some (JnO.of [.call [] (E3 r2) [], .bit false, .bit true, .call [] (E4 r4) [], .bit true, .bit true, .bit true, .bit true, .bit true, .wait 2, .mask [4], .ren []] (p := [Fn Tryd.prog 124 [(false, E3 no)] (E3 r2) [],
    (true || ((E3 r2).nv && nvL [])) = true,
    (r2 == 1) = false,
    (r2 == 2) = true,
    Fn Tryd.prog 125 [(false, E9 s_)] (E4 r4) [],
    (true || ((E4 r4).nv && nvL [])) = true,
    r4 = true,
    r4 = true,
    r4 = true,
    r4 = true,
    r4 = true]) (by kernel_rfl) (cj (spec_FieldKind_ok no r2 h2) (cj rfl (cj h3 (cj h6 (cj (spec_Printable_ok s_ r4 h7) (cj rfl (cj h8 (cj h8 (cj h8 (cj h8 (cj1 h8))))))))))))) (fun h8 =>
   Pn.some (JnO.of [.call [] (E3 r2) [], .bit false, .bit true, .call [] (E4 r4) [], .bit false, .bit false, .bit false, .bit false, .bit false, .wait 2, .mask [4], .ren []] (p := [Fn Tryd.prog 124 [(false, E3 no)] (E3 r2) [],
    (true || ((E3 r2).nv && nvL [])) = true,
    (r2 == 1) = false,
    (r2 == 2) = true,
    Fn Tryd.prog 125 [(false, E9 s_)] (E4 r4) [],
    (true || ((E4 r4).nv && nvL [])) = true,
    r4 = false,
    r4 = false,
    r4 = false,
    r4 = false,
    r4 = false]) (by kernel_rfl) (cj (spec_FieldKind_ok no r2 h2) (cj rfl (cj h3 (cj h6 (cj (spec_Printable_ok s_ r4 h7) (cj rfl (cj h8 (cj h8 (cj h8 (cj h8 (cj1 h8))))))))))))))) (fun h6 =>
   Pn.ite (fun h9 =>
   Pn.bind (fun r5 h10 =>
   Pn.ite (fun h11 =>
   Pn.some (JnO.of [.call [] (E3 r2) [], .bit false, .bit false, .bit true, .call [] (E4 r5) [], .bit true, .bit true, .bit true, .bit true, .bit true, .wait 2, .mask [4], .ren []] (p := [Fn Tryd.prog 124 [(false, E3 no)] (E3 r2) [],
    (true || ((E3 r2).nv && nvL [])) = true,
    (r2 == 1) = false,
    (r2 == 2) = false,
    (r2 == 3) = true,
    Fn Tryd.prog 75 [(false, E9 s_)] (E4 r5) [],
    (true || ((E4 r5).nv && nvL [])) = true,
    r5 = true,
    r5 = true,
    r5 = true,
    r5 = true,
    r5 = true]) (by kernel_rfl) (cj (spec_FieldKind_ok no r2 h2) (cj rfl (cj h3 (cj h6 (cj h9 (cj (spec_Digits_ok s_ r5 h10) (cj rfl (cj h11 (cj h11 (cj h11 (cj h11 (cj1 h11)))))))))))))) (fun h11 =>
   Pn.some (JnO.of [.call [] (E3 r2) [], .bit false, .bit false, .bit true, .call [] (E4 r5) [], .bit false, .bit false, .bit false, .bit false, .bit false, .wait 2, .mask [4], .ren []] (p := [Fn Tryd.prog 124 [(false, E3 no)] (E3 r2) [],
    (true || ((E3 r2).nv && nvL [])) = true,
    (r2 == 1) = false,
    (r2 == 2) = false,
    (r2 == 3) = true,
    Fn Tryd.prog 75 [(false, E9 s_)] (E4 r5) [],
    (true || ((E4 r5).nv && nvL [])) = true,
    r5 = false,
    r5 = false,
    r5 = false,
    r5 = false,
    r5 = false]) (by kernel_rfl) (cj (spec_FieldKind_ok no r2 h2) (cj rfl (cj h3 (cj h6 (cj h9 (cj (spec_Digits_ok s_ r5 h10) (cj rfl (cj h11 (cj h11 (cj h11 (cj h11 (cj1 h11)))))))))))))))) (fun h9 =>
   Pn.bind (fun r6 h13 =>
   Pn.ite (fun h14 =>
   Pn.bind (fun r7 h15 =>
   Pn.ite (fun h16 =>
   Pn.bind (fun r8 h17 =>
   Pn.some (JnO.of [.call [] (E3 r2) [], .bit false, .bit false, .bit false, .mask [1, 5, 9], .ren [], .join 5 (X.go) (st 51 [(1, V.sc (.string s_)), (5, V.sc (.int .i64 r1)), (40, V.sc (.bool r6))] [] []), .bit true, .call [] (E4 r7) [], .bit true, .bit true, .bit true, .bit true, .call [] (E4 r8) [], .bit true, .wait 2, .mask [4], .ren []] (p := [Fn Tryd.prog 124 [(false, E3 no)] (E3 r2) [],
    (true || ((E3 r2).nv && nvL [])) = true,
    (r2 == 1) = false,
    (r2 == 2) = false,
    (r2 == 3) = false,
    HT Tryd.prog (sub (codeOf Tryd.prog 91) [1, 1, 0, 1, 0, 1, 1, 1, 1, 1, 1, 0]) (st 51 [(1, V.sc (.string s_)), (5, V.sc (.int .i64 r1)), (9, V.sc (.int .i64 r2))] [] []) (X.go) (st 51 [(1, V.sc (.string s_)), (5, V.sc (.int .i64 r1)), (40, V.sc (.bool r6))] [] []),
    r6 = true,
    Fn Tryd.prog 125 [(false, E9 s_)] (E4 r7) [],
    (true || ((E4 r7).nv && nvL [])) = true,
    r7 = true,
    r7 = true,
    r7 = true,
    r7 = true,
    Fn Tryd.prog 77 [(false, E3 (s_.size : Int)), (false, E3 1), (false, E3 r1)] (E4 r8) [],
    (true || ((E4 r8).nv && nvL [])) = true,
    r7 = true]) (by kernel_rfl) (cj (spec_FieldKind_ok no r2 h2) (cj rfl (cj h3 (cj h6 (cj h9 (cj (spec_FieldOk_c1_ok s_ r1 r2 r6 h13) (cj h14 (cj (spec_Printable_ok s_ r7 h15) (cj rfl (cj h16 (cj h16 (cj h16 (cj h16 (cj (spec_l01In_ok (s_.size : Int) 1 r1 r8 h17) (cj rfl (cj1 h16))))))))))))))))))) (fun h16 =>
   Pn.some (JnO.of [.call [] (E3 r2) [], .bit false, .bit false, .bit false, .mask [1, 5, 9], .ren [], .join 5 (X.go) (st 51 [(1, V.sc (.string s_)), (5, V.sc (.int .i64 r1)), (40, V.sc (.bool r6))] [] []), .bit true, .call [] (E4 r7) [], .bit false, .bit false, .bit false, .bit false, .bit false, .wait 2, .mask [4], .ren []] (p := [Fn Tryd.prog 124 [(false, E3 no)] (E3 r2) [],
    (true || ((E3 r2).nv && nvL [])) = true,
    (r2 == 1) = false,
    (r2 == 2) = false,
    (r2 == 3) = false,
    HT Tryd.prog (sub (codeOf Tryd.prog 91) [1, 1, 0, 1, 0, 1, 1, 1, 1, 1, 1, 0]) (st 51 [(1, V.sc (.string s_)), (5, V.sc (.int .i64 r1)), (9, V.sc (.int .i64 r2))] [] []) (X.go) (st 51 [(1, V.sc (.string s_)), (5, V.sc (.int .i64 r1)), (40, V.sc (.bool r6))] [] []),
    r6 = true,
    Fn Tryd.prog 125 [(false, E9 s_)] (E4 r7) [],
    (true || ((E4 r7).nv && nvL [])) = true,
    r7 = false,
    r7 = false,
    r7 = false,
    r7 = false,
    r7 = false]) (by kernel_rfl) (cj (spec_FieldKind_ok no r2 h2) (cj rfl (cj h3 (cj h6 (cj h9 (cj (spec_FieldOk_c1_ok s_ r1 r2 r6 h13) (cj h14 (cj (spec_Printable_ok s_ r7 h15) (cj rfl (cj h16 (cj h16 (cj h16 (cj h16 (cj1 h16)))))))))))))))))) (fun h14 =>
   Pn.some (JnO.of [.call [] (E3 r2) [], .bit false, .bit false, .bit false, .mask [1, 5, 9], .ren [], .join 5 (X.go) (st 51 [(1, V.sc (.string s_)), (5, V.sc (.int .i64 r1)), (40, V.sc (.bool r6))] [] []), .bit false, .mask [], .ren []] (p := [Fn Tryd.prog 124 [(false, E3 no)] (E3 r2) [],
    (true || ((E3 r2).nv && nvL [])) = true,
    (r2 == 1) = false,
    (r2 == 2) = false,
    (r2 == 3) = false,
    HT Tryd.prog (sub (codeOf Tryd.prog 91) [1, 1, 0, 1, 0, 1, 1, 1, 1, 1, 1, 0]) (st 51 [(1, V.sc (.string s_)), (5, V.sc (.int .i64 r1)), (9, V.sc (.int .i64 r2))] [] []) (X.go) (st 51 [(1, V.sc (.string s_)), (5, V.sc (.int .i64 r1)), (40, V.sc (.bool r6))] [] []),
    r6 = false]) (by kernel_rfl) (cj (spec_FieldKind_ok no r2 h2) (cj rfl (cj h3 (cj h6 (cj h9 (cj (spec_FieldOk_c1_ok s_ r1 r2 r6 h13) (cj1 h14))))))))))))))
def spec_FieldOk (no : Int) (s_ : ByteArray) : Option (Bool) :=
 (spec_FieldSize no).bind fun r1 =>
 (spec_FieldOk_c0 no s_ r1).bind fun r9 =>
 Lo.elim r9 (fun s1 =>
 some false) (fun s2 =>
 some s2)
theorem spec_FieldOk_ok (no : Int) (s_ : ByteArray) : Pn (fun y => Fn Tryd.prog 91 [(false, E3 no), (false, E9 s_)] (E4 y) []) (spec_FieldOk no s_) := by
  unfold spec_FieldOk
  exact
   Pn.bind (fun r1 h1 =>
   Pn.bind (fun r9 h18 =>
   Pn.lo (fun s1 h19 =>
   Pn.some (Fn.of [.call [] (E3 r1) [], .wait 2, .mask [0, 1, 5], .ren [], .join 32 (X.go) (st 51 [] [] [])] (p := [Fn Tryd.prog 123 [(false, E3 no)] (E3 r1) [],
    (true || ((E3 r1).nv && nvL [])) = true,
    HT Tryd.prog (sub (codeOf Tryd.prog 91) [1, 1, 0]) (st 51 [(0, V.sc (.int .i64 no)), (1, V.sc (.string s_)), (5, V.sc (.int .i64 r1))] [] []) (X.go) (st 51 [] [] [])]) (by kernel_rfl) (cj (spec_FieldSize_ok no r1 h1) (cj rfl (cj1 ((spec_FieldOk_c0_ok no s_ r1 r9 h18).at h19)))))) (fun s2 h20 =>
   Pn.some (Fn.of [.call [] (E3 r1) [], .wait 2, .mask [0, 1, 5], .ren [], .join 32 (X.ret) (st 51 [(4, V.sc (.bool s2))] [] [])] (p := [Fn Tryd.prog 123 [(false, E3 no)] (E3 r1) [],
    (true || ((E3 r1).nv && nvL [])) = true,
    HT Tryd.prog (sub (codeOf Tryd.prog 91) [1, 1, 0]) (st 51 [(0, V.sc (.int .i64 no)), (1, V.sc (.string s_)), (5, V.sc (.int .i64 r1))] [] []) (X.ret) (st 51 [(4, V.sc (.bool s2))] [] [])]) (by kernel_rfl) (cj (spec_FieldSize_ok no r1 h1) (cj rfl (cj1 ((spec_FieldOk_c0_ok no s_ r1 r9 h18).at h20))))))))
def spec_MsgOk_c0 (m : Msg) : Option (Lo Unit Unit) :=
 (spec_Digits m.Mti).bind fun r1 =>
 if r1 = true then
 if ((m.Mti.size : Int) != 4) = true then
 some (.ret ())
 else
 some (.out ())
 else
 some (.ret ())
theorem spec_MsgOk_c0_ok (m : Msg) : Pn (JnO Tryd.prog (sub (codeOf Tryd.prog 43) [1, 0]) (st 46 [(1, V.ptr 0 0)] [Blk.box 36 [V.sc (.string m.Mti), V.sl false 71 (List.map E71 m.List)]] []) (fun (y : Lo Unit Unit) => Lo.elim y (fun s => (X.go, st 46 [(1, V.ptr 0 0)] [Blk.box 36 [V.sc (.string m.Mti), V.sl false 71 (List.map E71 m.List)]] [])) (fun s => (X.ret, st 46 [(2, V.sc (.bool false))] [] [])))) (spec_MsgOk_c0 m) := by
  unfold spec_MsgOk_c0
  exact
   Pn.bind (fun r1 h1 =>
   Pn.ite (fun h2 =>
   Pn.ite (fun h3 =>
   Pn.some (JnO.of [.call [] (E4 r1) [], .bit false, .bit false, .bit false, .bit false, .bit false, .bit true, .wait 1, .mask [2], .ren []] (p := [Fn Tryd.prog 75 [(false, E9 m.Mti)] (E4 r1) [],
    (true || ((E4 r1).nv && nvL [])) = true,
    (!r1) = false,
    (!r1) = false,
    (!r1) = false,
    (!r1) = false,
    (!r1) = false,
    ((m.Mti.size : Int) != 4) = true]) (by kernel_rfl) (cj (spec_Digits_ok m.Mti r1 h1) (cj rfl (cj (nf h2) (cj (nf h2) (cj (nf h2) (cj (nf h2) (cj (nf h2) (cj1 h3)))))))))) (fun h3 =>
   Pn.some (JnO.of [.call [] (E4 r1) [], .bit false, .bit false, .bit false, .bit false, .bit false, .bit false, .mask [1], .ren [0]] (p := [Fn Tryd.prog 75 [(false, E9 m.Mti)] (E4 r1) [],
    (true || ((E4 r1).nv && nvL [])) = true,
    (!r1) = false,
    (!r1) = false,
    (!r1) = false,
    (!r1) = false,
    (!r1) = false,
    ((m.Mti.size : Int) != 4) = false]) (by kernel_rfl) (cj (spec_Digits_ok m.Mti r1 h1) (cj rfl (cj (nf h2) (cj (nf h2) (cj (nf h2) (cj (nf h2) (cj (nf h2) (cj1 h3))))))))))) (fun h2 =>
   Pn.some (JnO.of [.call [] (E4 r1) [], .bit true, .bit true, .bit true, .bit true, .bit true, .bit true, .wait 1, .mask [2], .ren []] (p := [Fn Tryd.prog 75 [(false, E9 m.Mti)] (E4 r1) [],
    (true || ((E4 r1).nv && nvL [])) = true,
    (!r1) = true,
    (!r1) = true,
    (!r1) = true,
    (!r1) = true,
    (!r1) = true,
    true = true]) (by kernel_rfl) (cj (spec_Digits_ok m.Mti r1 h1) (cj rfl (cj (nt h2) (cj (nt h2) (cj (nt h2) (cj (nt h2) (cj (nt h2) (cj1 rfl)))))))))))
def spec_MsgOk_c3 (m : Msg) (v1 : Int) : Option (Lo Unit Unit) :=
 if (decide (v1 < (m.List.length : Int))) = true then
 some (.out ())
 else
 some (.ret ())
theorem spec_MsgOk_c3_ok (m : Msg) (v1 : Int) : Pn (JnO Tryd.prog (sub (codeOf Tryd.prog 43) [1, 1, 0, 1, 0, 0, 1, 0]) (st 46 [(1, V.ptr 0 0), (16, V.sl false 71 (List.map E71 m.List)), (17, V.sc (.int .i64 (m.List.length : Int))), (18, V.sc (.int .i64 v1)), (19, V.sc (.bool (decide (v1 < (m.List.length : Int)))))] [Blk.box 36 [V.sc (.string m.Mti), V.sl false 71 (List.map E71 m.List)]] []) (fun (y : Lo Unit Unit) => Lo.elim y (fun s => (X.go, st 46 [(1, V.ptr 0 0), (16, V.sl false 71 (List.map E71 m.List)), (17, V.sc (.int .i64 (m.List.length : Int))), (18, V.sc (.int .i64 v1))] [Blk.box 36 [V.sc (.string m.Mti), V.sl false 71 (List.map E71 m.List)]] [])) (fun s => (X.out 0, st 46 [] [] [])))) (spec_MsgOk_c3 m v1) := by
  unfold spec_MsgOk_c3
  exact
   Pn.ite (fun h7 =>
   Pn.some (JnO.of [.bit true, .mask [1, 16, 17, 18], .ren [0]] (p := [(decide (v1 < (m.List.length : Int))) = true]) (by kernel_rfl) (cj1 h7))) (fun h7 =>
   Pn.some (JnO.of [.bit false, .mask [], .ren []] (p := [(decide (v1 < (m.List.length : Int))) = false]) (by kernel_rfl) (cj1 h7)))
def spec_MsgOk_c4 (m : Msg) (v1 : Int) : Option (Lo Unit Unit) :=
 if (decide (0 ≤ v1)) = true then
 (m.List[v1.toNat]?).bind fun x1 =>
 (spec_FieldOk x1.No x1.Text).bind fun r4 =>
 if r4 = true then
 if (decide (0 < v1)) = true then
 if (decide (0 ≤ (i64 (v1 - 1)))) = true then
 (m.List[(i64 (v1 - 1)).toNat]?).bind fun x2 =>
 if (decide (x1.No ≤ x2.No)) = true then
 some (.ret ())
 else
 some (.out ())
 else none
 else
 some (.out ())
 else
 some (.ret ())
 else none
theorem spec_MsgOk_c4_ok (m : Msg) (v1 : Int) : Pn (JnO Tryd.prog (sub (codeOf Tryd.prog 43) [1, 1, 0, 1, 0, 0, 1, 1, 0]) (st 46 [(1, V.ptr 0 0), (16, V.sl false 71 (List.map E71 m.List)), (17, V.sc (.int .i64 (m.List.length : Int))), (18, V.sc (.int .i64 v1))] [Blk.box 36 [V.sc (.string m.Mti), V.sl false 71 (List.map E71 m.List)]] []) (fun (y : Lo Unit Unit) => Lo.elim y (fun s => (X.go, st 46 [(1, V.ptr 0 0), (16, V.sl false 71 (List.map E71 m.List)), (17, V.sc (.int .i64 (m.List.length : Int))), (18, V.sc (.int .i64 v1))] [Blk.box 36 [V.sc (.string m.Mti), V.sl false 71 (List.map E71 m.List)]] [])) (fun s => (X.ret, st 46 [(2, V.sc (.bool false))] [] [])))) (spec_MsgOk_c4 m v1) := by
  unfold spec_MsgOk_c4
  exact
   Pn.ite (fun h11 =>
   Pn.bind (fun x1 h12 =>
   Pn.bind (fun r4 h13 =>
   Pn.ite (fun h14 =>
   Pn.ite (fun h15 =>
   Pn.ite (fun h16 =>
   Pn.bind (fun x2 h17 =>
   Pn.ite (fun h18 =>
   Pn.some (JnO.of [.el (E71 x1), .draw [], .call [] (E4 r4) [], .bit false, .bit false, .bit false, .bit true, .bit true, .bit true, .bit true, .bit true, .el (E71 x2), .bit true, .bit true, .bit true, .bit true, .bit true, .bit false, .bit true, .bit false, .bit true, .wait 1, .mask [2], .ren []] (p := [(0 : Int) ≤ v1,
    (List.map E71 m.List)[v1.toNat]? = some (E71 x1),
    Fn Tryd.prog 91 [(false, E3 x1.No), (false, E9 x1.Text)] (E4 r4) [],
    (true || ((E4 r4).nv && nvL [])) = true,
    (!r4) = false,
    (!r4) = false,
    (!r4) = false,
    (decide (0 < v1)) = true,
    (decide (0 < v1)) = true,
    (decide (0 < v1)) = true,
    (decide (0 < v1)) = true,
    (decide (0 < v1)) = true,
    (0 : Int) ≤ (i64 (v1 - 1)),
    (List.map E71 m.List)[(i64 (v1 - 1)).toNat]? = some (E71 x2),
    (decide (0 < v1)) = true,
    (decide (0 < v1)) = true,
    (decide (0 < v1)) = true,
    (decide (0 < v1)) = true,
    (decide (0 < v1)) = true,
    (!r4) = false,
    (decide (0 < v1)) = true,
    (!r4) = false,
    (decide (x1.No ≤ x2.No)) = true]) (by kernel_rfl) (cj (od h11) (cj (map_get h12) (cj (spec_FieldOk_ok x1.No x1.Text r4 h13) (cj rfl (cj (nf h14) (cj (nf h14) (cj (nf h14) (cj h15 (cj h15 (cj h15 (cj h15 (cj h15 (cj (od h16) (cj (map_get h17) (cj h15 (cj h15 (cj h15 (cj h15 (cj h15 (cj (nf h14) (cj h15 (cj (nf h14) (cj1 h18))))))))))))))))))))))))) (fun h18 =>
   Pn.some (JnO.of [.el (E71 x1), .draw [], .call [] (E4 r4) [], .bit false, .bit false, .bit false, .bit true, .bit true, .bit true, .bit true, .bit true, .el (E71 x2), .bit true, .bit true, .bit true, .bit true, .bit true, .bit false, .bit true, .bit false, .bit false, .mask [1, 16, 17, 18], .ren [0]] (p := [(0 : Int) ≤ v1,
    (List.map E71 m.List)[v1.toNat]? = some (E71 x1),
    Fn Tryd.prog 91 [(false, E3 x1.No), (false, E9 x1.Text)] (E4 r4) [],
    (true || ((E4 r4).nv && nvL [])) = true,
    (!r4) = false,
    (!r4) = false,
    (!r4) = false,
    (decide (0 < v1)) = true,
    (decide (0 < v1)) = true,
    (decide (0 < v1)) = true,
    (decide (0 < v1)) = true,
    (decide (0 < v1)) = true,
    (0 : Int) ≤ (i64 (v1 - 1)),
    (List.map E71 m.List)[(i64 (v1 - 1)).toNat]? = some (E71 x2),
    (decide (0 < v1)) = true,
    (decide (0 < v1)) = true,
    (decide (0 < v1)) = true,
    (decide (0 < v1)) = true,
    (decide (0 < v1)) = true,
    (!r4) = false,
    (decide (0 < v1)) = true,
    (!r4) = false,
    (decide (x1.No ≤ x2.No)) = false]) (by kernel_rfl) (cj (od h11) (cj (map_get h12) (cj (spec_FieldOk_ok x1.No x1.Text r4 h13) (cj rfl (cj (nf h14) (cj (nf h14) (cj (nf h14) (cj h15 (cj h15 (cj h15 (cj h15 (cj h15 (cj (od h16) (cj (map_get h17) (cj h15 (cj h15 (cj h15 (cj h15 (cj h15 (cj (nf h14) (cj h15 (cj (nf h14) (cj1 h18))))))))))))))))))))))))))) (fun h16 =>
   Pn.none)) (fun h15 =>
   Pn.some (JnO.of [.el (E71 x1), .draw [], .call [] (E4 r4) [], .bit false, .bit false, .bit false, .bit false, .bit false, .bit false, .bit false, .bit false, .bit false, .bit false, .bit false, .bit false, .bit false, .bit false, .bit false, .bit false, .bit false, .mask [1, 16, 17, 18], .ren [0]] (p := [(0 : Int) ≤ v1,
    (List.map E71 m.List)[v1.toNat]? = some (E71 x1),
    Fn Tryd.prog 91 [(false, E3 x1.No), (false, E9 x1.Text)] (E4 r4) [],
    (true || ((E4 r4).nv && nvL [])) = true,
    (!r4) = false,
    (!r4) = false,
    (!r4) = false,
    (decide (0 < v1)) = false,
    (decide (0 < v1)) = false,
    (decide (0 < v1)) = false,
    (decide (0 < v1)) = false,
    (decide (0 < v1)) = false,
    (decide (0 < v1)) = false,
    (decide (0 < v1)) = false,
    (decide (0 < v1)) = false,
    (decide (0 < v1)) = false,
    (decide (0 < v1)) = false,
    (!r4) = false,
    (decide (0 < v1)) = false,
    (!r4) = false,
    false = false]) (by kernel_rfl) (cj (od h11) (cj (map_get h12) (cj (spec_FieldOk_ok x1.No x1.Text r4 h13) (cj rfl (cj (nf h14) (cj (nf h14) (cj (nf h14) (cj h15 (cj h15 (cj h15 (cj h15 (cj h15 (cj h15 (cj h15 (cj h15 (cj h15 (cj h15 (cj (nf h14) (cj h15 (cj (nf h14) (cj1 rfl)))))))))))))))))))))))) (fun h14 =>
   Pn.some (JnO.of [.el (E71 x1), .draw [], .call [] (E4 r4) [], .bit true, .bit true, .bit true, .bit true, .bit true, .bit true, .wait 1, .mask [2], .ren []] (p := [(0 : Int) ≤ v1,
    (List.map E71 m.List)[v1.toNat]? = some (E71 x1),
    Fn Tryd.prog 91 [(false, E3 x1.No), (false, E9 x1.Text)] (E4 r4) [],
    (true || ((E4 r4).nv && nvL [])) = true,
    (!r4) = true,
    (!r4) = true,
    (!r4) = true,
    (!r4) = true,
    (!r4) = true,
    true = true]) (by kernel_rfl) (cj (od h11) (cj (map_get h12) (cj (spec_FieldOk_ok x1.No x1.Text r4 h13) (cj rfl (cj (nt h14) (cj (nt h14) (cj (nt h14) (cj (nt h14) (cj (nt h14) (cj1 rfl))))))))))))))) (fun h11 =>
   Pn.none)
def spec_MsgOk_l0 (m : Msg) : Nat → Int → Option (Lo Unit Unit)
  | 0, _ => none
  | fuel + 1, v1 =>
   (spec_MsgOk_c3 m v1).bind fun r3 =>
   Lo.elim r3 (fun s3 =>
   (spec_MsgOk_c4 m v1).bind fun r5 =>
   Lo.elim r5 (fun s5 =>
   spec_MsgOk_l0 m fuel (i64 (v1 + 1))) (fun s6 =>
   some (.ret ()))) (fun s4 =>
   some (.out ()))
theorem spec_MsgOk_l0_ok (m : Msg) : ∀ (fuel : Nat) (v1 : Int), Pn (LpO Tryd.prog (sub (codeOf Tryd.prog 43) [1, 1, 0, 1, 0, 0]) (st 46 [(1, V.ptr 0 0), (16, V.sl false 71 (List.map E71 m.List)), (17, V.sc (.int .i64 (m.List.length : Int))), (18, V.sc (.int .i64 v1))] [Blk.box 36 [V.sc (.string m.Mti), V.sl false 71 (List.map E71 m.List)]] []) (fun (y : Lo Unit Unit) => Lo.elim y (fun s => (X.out 0, st 46 [] [] [])) (fun s => (X.ret, st 46 [(2, V.sc (.bool false))] [] [])))) (spec_MsgOk_l0 m fuel v1)
  | 0, _ => Pn.none
  | fuel + 1, v1 => by
    unfold spec_MsgOk_l0
    exact
     Pn.bind (fun r3 h8 =>
     Pn.lo (fun s3 h9 =>
     Pn.bind (fun r5 h19 =>
     Pn.lo (fun s5 h20 =>
     LpO.go [.wait 2, .mask [1, 16, 17, 18, 19], .ren [0], .join 3 (X.go) (st 46 [(1, V.ptr 0 0), (16, V.sl false 71 (List.map E71 m.List)), (17, V.sc (.int .i64 (m.List.length : Int))), (18, V.sc (.int .i64 v1))] [Blk.box 36 [V.sc (.string m.Mti), V.sl false 71 (List.map E71 m.List)]] []), .wait 1, .mask [1, 16, 17, 18], .ren [0], .join 10 (X.go) (st 46 [(1, V.ptr 0 0), (16, V.sl false 71 (List.map E71 m.List)), (17, V.sc (.int .i64 (m.List.length : Int))), (18, V.sc (.int .i64 v1))] [Blk.box 36 [V.sc (.string m.Mti), V.sl false 71 (List.map E71 m.List)]] []), .wait 3, .mask [1, 16, 17, 18], .ren [0]] (p := [HT Tryd.prog (sub (codeOf Tryd.prog 43) [1, 1, 0, 1, 0, 0, 1, 0]) (st 46 [(1, V.ptr 0 0), (16, V.sl false 71 (List.map E71 m.List)), (17, V.sc (.int .i64 (m.List.length : Int))), (18, V.sc (.int .i64 v1)), (19, V.sc (.bool (decide (v1 < (m.List.length : Int)))))] [Blk.box 36 [V.sc (.string m.Mti), V.sl false 71 (List.map E71 m.List)]] []) (X.go) (st 46 [(1, V.ptr 0 0), (16, V.sl false 71 (List.map E71 m.List)), (17, V.sc (.int .i64 (m.List.length : Int))), (18, V.sc (.int .i64 v1))] [Blk.box 36 [V.sc (.string m.Mti), V.sl false 71 (List.map E71 m.List)]] []),
      HT Tryd.prog (sub (codeOf Tryd.prog 43) [1, 1, 0, 1, 0, 0, 1, 1, 0]) (st 46 [(1, V.ptr 0 0), (16, V.sl false 71 (List.map E71 m.List)), (17, V.sc (.int .i64 (m.List.length : Int))), (18, V.sc (.int .i64 v1))] [Blk.box 36 [V.sc (.string m.Mti), V.sl false 71 (List.map E71 m.List)]] []) (X.go) (st 46 [(1, V.ptr 0 0), (16, V.sl false 71 (List.map E71 m.List)), (17, V.sc (.int .i64 (m.List.length : Int))), (18, V.sc (.int .i64 v1))] [Blk.box 36 [V.sc (.string m.Mti), V.sl false 71 (List.map E71 m.List)]] [])]) (by kernel_rfl) (cj ((spec_MsgOk_c3_ok m v1 r3 h8).at h9) (cj1 ((spec_MsgOk_c4_ok m v1 r5 h19).at h20))) (spec_MsgOk_l0_ok m fuel (i64 (v1 + 1)))) (fun s6 h21 =>
     Pn.some (LpO.out [.wait 2, .mask [1, 16, 17, 18, 19], .ren [0], .join 3 (X.go) (st 46 [(1, V.ptr 0 0), (16, V.sl false 71 (List.map E71 m.List)), (17, V.sc (.int .i64 (m.List.length : Int))), (18, V.sc (.int .i64 v1))] [Blk.box 36 [V.sc (.string m.Mti), V.sl false 71 (List.map E71 m.List)]] []), .wait 1, .mask [1, 16, 17, 18], .ren [0], .join 10 (X.ret) (st 46 [(2, V.sc (.bool false))] [] []), .wait 1, .mask [2], .ren []] (p := [HT Tryd.prog (sub (codeOf Tryd.prog 43) [1, 1, 0, 1, 0, 0, 1, 0]) (st 46 [(1, V.ptr 0 0), (16, V.sl false 71 (List.map E71 m.List)), (17, V.sc (.int .i64 (m.List.length : Int))), (18, V.sc (.int .i64 v1)), (19, V.sc (.bool (decide (v1 < (m.List.length : Int)))))] [Blk.box 36 [V.sc (.string m.Mti), V.sl false 71 (List.map E71 m.List)]] []) (X.go) (st 46 [(1, V.ptr 0 0), (16, V.sl false 71 (List.map E71 m.List)), (17, V.sc (.int .i64 (m.List.length : Int))), (18, V.sc (.int .i64 v1))] [Blk.box 36 [V.sc (.string m.Mti), V.sl false 71 (List.map E71 m.List)]] []),
      HT Tryd.prog (sub (codeOf Tryd.prog 43) [1, 1, 0, 1, 0, 0, 1, 1, 0]) (st 46 [(1, V.ptr 0 0), (16, V.sl false 71 (List.map E71 m.List)), (17, V.sc (.int .i64 (m.List.length : Int))), (18, V.sc (.int .i64 v1))] [Blk.box 36 [V.sc (.string m.Mti), V.sl false 71 (List.map E71 m.List)]] []) (X.ret) (st 46 [(2, V.sc (.bool false))] [] [])]) (by kernel_rfl) (show X.ret ≠ X.go from nofun) (cj ((spec_MsgOk_c3_ok m v1 r3 h8).at h9) (cj1 ((spec_MsgOk_c4_ok m v1 r5 h19).at h21))))))) (fun s4 h10 =>
     Pn.some (LpO.out [.wait 2, .mask [1, 16, 17, 18, 19], .ren [0], .join 3 (X.out 0) (st 46 [] [] []), .wait 1, .mask [], .ren []] (p := [HT Tryd.prog (sub (codeOf Tryd.prog 43) [1, 1, 0, 1, 0, 0, 1, 0]) (st 46 [(1, V.ptr 0 0), (16, V.sl false 71 (List.map E71 m.List)), (17, V.sc (.int .i64 (m.List.length : Int))), (18, V.sc (.int .i64 v1)), (19, V.sc (.bool (decide (v1 < (m.List.length : Int)))))] [Blk.box 36 [V.sc (.string m.Mti), V.sl false 71 (List.map E71 m.List)]] []) (X.out 0) (st 46 [] [] [])]) (by kernel_rfl) (show X.out 0 ≠ X.go from nofun) (cj1 ((spec_MsgOk_c3_ok m v1 r3 h8).at h10)))))
def spec_MsgOk (m : Msg) : Option (Bool) :=
 (spec_MsgOk_c0 m).bind fun r2 =>
 Lo.elim r2 (fun s1 =>
 (spec_MsgOk_l0 m FUEL 0).bind fun r6 =>
 Lo.elim r6 (fun s7 =>
 some true) (fun s8 =>
 some false)) (fun s2 =>
 some false)
theorem spec_MsgOk_ok (m : Msg) : Pn (fun y => Fn Tryd.prog 43 [(false, E36 m)] (E4 y) []) (spec_MsgOk m) := by
  unfold spec_MsgOk
  exact
   Pn.bind (fun r2 h4 =>
   Pn.lo (fun s1 h5 =>
   Pn.bind (fun r6 h22 =>
   Pn.lo (fun s7 h23 =>
   Pn.some (Fn.of [.wait 3, .mask [1], .ren [0], .join 7 (X.go) (st 46 [(1, V.ptr 0 0)] [Blk.box 36 [V.sc (.string m.Mti), V.sl false 71 (List.map E71 m.List)]] []), .wait 3, .nm 17 (V.sc (.int .i64 (m.List.length : Int))), .wait 2, .mask [1, 16, 17, 18], .ren [0], .loop (X.out 0) (st 46 [] [] [])] (p := [HT Tryd.prog (sub (codeOf Tryd.prog 43) [1, 0]) (st 46 [(1, V.ptr 0 0)] [Blk.box 36 [V.sc (.string m.Mti), V.sl false 71 (List.map E71 m.List)]] []) (X.go) (st 46 [(1, V.ptr 0 0)] [Blk.box 36 [V.sc (.string m.Mti), V.sl false 71 (List.map E71 m.List)]] []),
    V.sc (.int .i64 ((List.map E71 m.List).length : Int)) = V.sc (.int .i64 (m.List.length : Int)),
    Loop Tryd.prog (sub (codeOf Tryd.prog 43) [1, 1, 0, 1, 0, 0]) (st 46 [(1, V.ptr 0 0), (16, V.sl false 71 (List.map E71 m.List)), (17, V.sc (.int .i64 (m.List.length : Int))), (18, V.sc (.int .i64 0))] [Blk.box 36 [V.sc (.string m.Mti), V.sl false 71 (List.map E71 m.List)]] []) (X.out 0) (st 46 [] [] [])]) (by kernel_rfl) (cj ((spec_MsgOk_c0_ok m r2 h4).at h5) (cj (len_nm _ _) (cj1 ((spec_MsgOk_l0_ok m FUEL 0 r6 h22).at h23)))))) (fun s8 h24 =>
   Pn.some (Fn.of [.wait 3, .mask [1], .ren [0], .join 7 (X.go) (st 46 [(1, V.ptr 0 0)] [Blk.box 36 [V.sc (.string m.Mti), V.sl false 71 (List.map E71 m.List)]] []), .wait 3, .nm 17 (V.sc (.int .i64 (m.List.length : Int))), .wait 2, .mask [1, 16, 17, 18], .ren [0], .loop (X.ret) (st 46 [(2, V.sc (.bool false))] [] [])] (p := [HT Tryd.prog (sub (codeOf Tryd.prog 43) [1, 0]) (st 46 [(1, V.ptr 0 0)] [Blk.box 36 [V.sc (.string m.Mti), V.sl false 71 (List.map E71 m.List)]] []) (X.go) (st 46 [(1, V.ptr 0 0)] [Blk.box 36 [V.sc (.string m.Mti), V.sl false 71 (List.map E71 m.List)]] []),
    V.sc (.int .i64 ((List.map E71 m.List).length : Int)) = V.sc (.int .i64 (m.List.length : Int)),
    Loop Tryd.prog (sub (codeOf Tryd.prog 43) [1, 1, 0, 1, 0, 0]) (st 46 [(1, V.ptr 0 0), (16, V.sl false 71 (List.map E71 m.List)), (17, V.sc (.int .i64 (m.List.length : Int))), (18, V.sc (.int .i64 0))] [Blk.box 36 [V.sc (.string m.Mti), V.sl false 71 (List.map E71 m.List)]] []) (X.ret) (st 46 [(2, V.sc (.bool false))] [] [])]) (by kernel_rfl) (cj ((spec_MsgOk_c0_ok m r2 h4).at h5) (cj (len_nm _ _) (cj1 ((spec_MsgOk_l0_ok m FUEL 0 r6 h22).at h24)))))))) (fun s2 h6 =>
   Pn.some (Fn.of [.wait 3, .mask [1], .ren [0], .join 7 (X.ret) (st 46 [(2, V.sc (.bool false))] [] [])] (p := [HT Tryd.prog (sub (codeOf Tryd.prog 43) [1, 0]) (st 46 [(1, V.ptr 0 0)] [Blk.box 36 [V.sc (.string m.Mti), V.sl false 71 (List.map E71 m.List)]] []) (X.ret) (st 46 [(2, V.sc (.bool false))] [] [])]) (by kernel_rfl) (cj1 ((spec_MsgOk_c0_ok m r2 h4).at h6)))))
def spec_l01Money (n : Int) : Option (Bool) :=
 if (decide (0 ≤ n)) = true then
 some (decide (n ≤ 4611686018427387904))
 else
 some false
theorem spec_l01Money_ok (n : Int) : Pn (fun y => Fn Tryd.prog 78 [(false, E3 n)] (E4 y) []) (spec_l01Money n) := by
  unfold spec_l01Money
  exact
   Pn.ite (fun h1 =>
   Pn.some (Fn.of [.bit true, .bit true, .bit true] (p := [(decide (0 ≤ n)) = true,
    (decide (0 ≤ n)) = true,
    (decide (0 ≤ n)) = true]) (by kernel_rfl) (cj h1 (cj h1 (cj1 h1))))) (fun h1 =>
   Pn.some (Fn.of [.bit false, .bit false, .bit false] (p := [(decide (0 ≤ n)) = false,
    (decide (0 ≤ n)) = false,
    (decide (0 ≤ n)) = false]) (by kernel_rfl) (cj h1 (cj h1 (cj1 h1)))))
def spec_NumText_l0 (n : Int) : Nat → Int → ByteArray → Option (Int × ByteArray)
  | 0, _, _ => none
  | fuel + 1, v1, v2 =>
   if (decide (9 < v1)) = true then
   if (decide ((bstr [u8 (i64 (48 + (Int.tmod v1 10)))]).size + v2.size ≤ 9223372036854775807)) = true then
   spec_NumText_l0 n fuel (i64 (Int.tdiv v1 10)) ((bstr [u8 (i64 (48 + (Int.tmod v1 10)))]) ++ v2)
   else none
   else
   some (v1, v2)
theorem spec_NumText_l0_ok (n : Int) : ∀ (fuel : Nat) (v1 : Int) (v2 : ByteArray), Pn (LpO Tryd.prog (sub (codeOf Tryd.prog 36) [1, 1, 1, 0, 0, 0]) (st 26 [(0, V.sc (.int .i64 v1)), (3, V.sc (.string v2))] [] []) (fun (y : Int × ByteArray) => (X.out 0, st 26 [(0, V.sc (.int .i64 y.1)), (3, V.sc (.string y.2))] [] []))) (spec_NumText_l0 n fuel v1 v2)
  | 0, _, _ => Pn.none
  | fuel + 1, v1, v2 => by
    unfold spec_NumText_l0
    exact
     Pn.ite (fun h3 =>
     Pn.ite (fun h4 =>
     LpO.go [.bit true, .ints [u8 (i64 (48 + (Int.tmod v1 10)))], .wait 7, .mask [0, 3], .ren []] (p := [(decide (9 < v1)) = true,
      (10 : Int) ≠ 0,
      [V.sc (.int .u8 (u8 (i64 (48 + (Int.tmod v1 10)))))] = [u8 (i64 (48 + (Int.tmod v1 10)))].map fun n => V.sc (.int .u8 n),
      (bstr [u8 (i64 (48 + (Int.tmod v1 10)))]).size + v2.size ≤ 9223372036854775807,
      (10 : Int) ≠ 0]) (by kernel_rfl) (cj h3 (cj (by decide) (cj rfl (cj (od h4) (cj1 (by decide)))))) (spec_NumText_l0_ok n fuel (i64 (Int.tdiv v1 10)) ((bstr [u8 (i64 (48 + (Int.tmod v1 10)))]) ++ v2))) (fun h4 =>
     Pn.none)) (fun h3 =>
     Pn.some (LpO.out [.bit false, .mask [0, 3], .ren []] (p := [(decide (9 < v1)) = false]) (by kernel_rfl) (show X.out 0 ≠ X.go from nofun) (cj1 h3)))
def spec_NumText (n : Int) : Option (ByteArray) :=
 (spec_l01Money n).bind fun r1 =>
 if r1 = true then
 (spec_NumText_l0 n FUEL n (bs [])).bind fun r2 =>
 if (decide ((bstr [u8 (i64 (48 + r2.1))]).size + r2.2.size ≤ 9223372036854775807)) = true then
 some ((bstr [u8 (i64 (48 + r2.1))]) ++ r2.2)
 else none
 else
 some (bs [])
theorem spec_NumText_ok (n : Int) : Pn (fun y => Fn Tryd.prog 36 [(false, E3 n)] (E9 y) []) (spec_NumText n) := by
  unfold spec_NumText
  exact
   Pn.bind (fun r1 h1 =>
   Pn.ite (fun h2 =>
   Pn.bind (fun r2 h5 =>
   Pn.ite (fun h6 =>
   Pn.some (Fn.of [.call [] (E4 r1) [], .bit false, .wait 1, .mask [0, 3], .ren [], .loop (X.out 0) (st 26 [(0, V.sc (.int .i64 r2.1)), (3, V.sc (.string r2.2))] [] []), .ints [u8 (i64 (48 + r2.1))]] (p := [Fn Tryd.prog 78 [(false, E3 n)] (E4 r1) [],
    (true || ((E4 r1).nv && nvL [])) = true,
    (!r1) = false,
    Loop Tryd.prog (sub (codeOf Tryd.prog 36) [1, 1, 1, 0, 0, 0]) (st 26 [(0, V.sc (.int .i64 n)), (3, V.sc (.string (bs [])))] [] []) (X.out 0) (st 26 [(0, V.sc (.int .i64 r2.1)), (3, V.sc (.string r2.2))] [] []),
    [V.sc (.int .u8 (u8 (i64 (48 + r2.1))))] = [u8 (i64 (48 + r2.1))].map fun n => V.sc (.int .u8 n),
    (bstr [u8 (i64 (48 + r2.1))]).size + r2.2.size ≤ 9223372036854775807]) (by kernel_rfl) (cj (spec_l01Money_ok n r1 h1) (cj rfl (cj (nf h2) (cj (spec_NumText_l0_ok n FUEL n (bs []) r2 h5) (cj rfl (cj1 (od h6))))))))) (fun h6 =>
   Pn.none))) (fun h2 =>
   Pn.some (Fn.of [.call [] (E4 r1) [], .bit true] (p := [Fn Tryd.prog 78 [(false, E3 n)] (E4 r1) [],
    (true || ((E4 r1).nv && nvL [])) = true,
    (!r1) = true]) (by kernel_rfl) (cj (spec_l01Money_ok n r1 h1) (cj rfl (cj1 (nt h2)))))))
def spec_MsgShow_l1 (m : Msg) (v1 : ByteArray) (p1 : List Field) (x1 : Field) : List Int → List Int → (List Int) → Option ((List Int))
  | [], p2, v2 =>
   some v2
  | x2 :: t2, p2, v2 =>
   (v2[(p2.length : Int).toNat]?).bind fun x3 =>
   if (x3 == 32) = true then
   spec_MsgShow_l1 m v1 p1 x1 t2 (p2 ++ [x2]) (v2.set ((p2.length : Int).toNat) 95)
   else
   spec_MsgShow_l1 m v1 p1 x1 t2 (p2 ++ [x2]) v2
theorem spec_MsgShow_l1_ok (m : Msg) (v1 : ByteArray) (p1 : List Field) (x1 : Field) (h7 : capOk (sbytes x1.Text).length = true) : ∀ (t2 p2 : List Int) (_ : (sbytes x1.Text) = p2 ++ t2) (v2 : List Int), Pn (LpO Tryd.prog (sub (codeOf Tryd.prog 13) [1, 1, 1, 0, 1, 0, 0, 1, 1, 0, 0, 1, 1, 0, 1, 0, 0]) (st 49 [(3, V.sc (.string v1)), (5, V.ptr 0 0), (6, V.ow 1), (15, V.sl false 71 (List.map E71 m.List)), (16, V.sc (.int .i64 (m.List.length : Int))), (17, V.sc (.int .i64 (p1.length : Int))), (24, V.ow 1), (25, V.sc (.int .i64 ((sbytes x1.Text).length : Int))), (26, V.sc (.int .i64 (p2.length : Int)))] [Blk.box 71 [V.sc (.int .i64 x1.No), V.sc (.string x1.Text)], Blk.row 5 (List.map E5 v2) []] []) (fun (y : (List Int)) => (X.out 2, st 49 [(3, V.sc (.string v1)), (5, V.ptr 0 0), (6, V.ow 1), (15, V.sl false 71 (List.map E71 m.List)), (16, V.sc (.int .i64 (m.List.length : Int))), (17, V.sc (.int .i64 (p1.length : Int)))] [Blk.box 71 [V.sc (.int .i64 x1.No), V.sc (.string x1.Text)], Blk.row 5 (List.map E5 y) []] []))) (spec_MsgShow_l1 m v1 p1 x1 t2 p2 v2)
  | [], p2, h6, v2 => by
    unfold spec_MsgShow_l1
    exact
     Pn.some (LpO.out [.bit false, .mask [3, 5, 6, 15, 16, 17], .ren [0, 1]] (p := [(decide ((p2.length : Int) < ((sbytes x1.Text).length : Int))) = false]) (by kernel_rfl) (show X.out 2 ≠ X.go from nofun) (cj1 (rng_end h6)))
  | x2 :: t2, p2, h6, v2 => by
    unfold spec_MsgShow_l1
    exact
     Pn.bind (fun x3 h8 =>
     Pn.ite (fun h9 =>
     LpO.go [.bit true, .el (E5 x3), .bit true, .el (E5 x3), .nb 1 (.row 5 (List.map E5 (v2.set ((p2.length : Int).toNat) 95)) []), .wait 3, .mask [3, 5, 6, 15, 16, 17, 24, 25, 26], .ren [0, 1], .nm 26 (V.sc (.int .i64 ((p2 ++ [x2]).length : Int)))] (p := [(decide ((p2.length : Int) < ((sbytes x1.Text).length : Int))) = true,
      (0 : Int) ≤ (p2.length : Int),
      ((p2.length : Int) : Int) < ((List.map E5 v2).length : Int),
      look [] ((p2.length : Int).toNat) = none,
      (List.map E5 v2)[(p2.length : Int).toNat]? = some (E5 x3),
      (x3 == 32) = true,
      (0 : Int) ≤ (p2.length : Int),
      ((p2.length : Int) : Int) < ((List.map E5 v2).length : Int),
      look [] ((p2.length : Int).toNat) = none,
      (List.map E5 v2)[(p2.length : Int).toNat]? = some (E5 x3),
      Blk.row 5 ((List.map E5 v2).set ((p2.length : Int).toNat) (V.sc (.int .u8 95))) [] = Blk.row 5 (List.map E5 (v2.set ((p2.length : Int).toNat) 95)) [],
      V.sc (.int .i64 (i64 ((p2.length : Int) + 1))) = V.sc (.int .i64 ((p2 ++ [x2]).length : Int))]) (by kernel_rfl) (cj (rng_lt h6) (cj (by omega) (cj (map_ltN (by omega) h8) (cj rfl (cj (map_get h8) (cj h9 (cj (by omega) (cj (map_ltN (by omega) h8) (cj rfl (cj (map_get h8) (cj (nb_set E5 _ _ 95) (cj1 (rng_next h6 h7))))))))))))) (spec_MsgShow_l1_ok m v1 p1 x1 h7 t2 (p2 ++ [x2]) (rng_step h6) (v2.set ((p2.length : Int).toNat) 95))) (fun h9 =>
     LpO.go [.bit true, .el (E5 x3), .bit false, .wait 2, .mask [3, 5, 6, 15, 16, 17, 24, 25, 26], .ren [0, 1], .nm 26 (V.sc (.int .i64 ((p2 ++ [x2]).length : Int)))] (p := [(decide ((p2.length : Int) < ((sbytes x1.Text).length : Int))) = true,
      (0 : Int) ≤ (p2.length : Int),
      ((p2.length : Int) : Int) < ((List.map E5 v2).length : Int),
      look [] ((p2.length : Int).toNat) = none,
      (List.map E5 v2)[(p2.length : Int).toNat]? = some (E5 x3),
      (x3 == 32) = false,
      V.sc (.int .i64 (i64 ((p2.length : Int) + 1))) = V.sc (.int .i64 ((p2 ++ [x2]).length : Int))]) (by kernel_rfl) (cj (rng_lt h6) (cj (by omega) (cj (map_ltN (by omega) h8) (cj rfl (cj (map_get h8) (cj h9 (cj1 (rng_next h6 h7)))))))) (spec_MsgShow_l1_ok m v1 p1 x1 h7 t2 (p2 ++ [x2]) (rng_step h6) v2)))
def spec_MsgShow_l0 (m : Msg) : List Field → List Field → ByteArray → Option (ByteArray)
  | [], p1, v1 =>
   some v1
  | x1 :: t1, p1, v1 =>
   if (decide (x1.Text.size ≤ 9223372036854775807)) = true then
   if (capOk (sbytes x1.Text).length) = true then
   (spec_MsgShow_l1 m v1 p1 x1 (sbytes x1.Text) [] (sbytes x1.Text)).bind fun r2 =>
   if (decide (v1.size + (bs [32]).size ≤ 9223372036854775807)) = true then
   (spec_NumText x1.No).bind fun r3 =>
   if (decide ((v1 ++ (bs [32])).size + r3.size ≤ 9223372036854775807)) = true then
   if (decide (((v1 ++ (bs [32])) ++ r3).size + (bs [61]).size ≤ 9223372036854775807)) = true then
   if (decide ((((v1 ++ (bs [32])) ++ r3) ++ (bs [61])).size + (bstr r2).size ≤ 9223372036854775807)) = true then
   spec_MsgShow_l0 m t1 (p1 ++ [x1]) ((((v1 ++ (bs [32])) ++ r3) ++ (bs [61])) ++ (bstr r2))
   else none
   else none
   else none
   else none
   else none
   else none
theorem spec_MsgShow_l0_ok (m : Msg) (h4 : capOk m.List.length = true) : ∀ (t1 p1 : List Field) (_ : m.List = p1 ++ t1) (v1 : ByteArray), Pn (LpO Tryd.prog (sub (codeOf Tryd.prog 13) [1, 1, 1, 0, 1, 0, 0]) (st 49 [(3, V.sc (.string v1)), (15, V.sl false 71 (List.map E71 m.List)), (16, V.sc (.int .i64 (m.List.length : Int))), (17, V.sc (.int .i64 (p1.length : Int)))] [] []) (fun (y : ByteArray) => (X.out 0, st 49 [(3, V.sc (.string y))] [] []))) (spec_MsgShow_l0 m t1 p1 v1)
  | [], p1, h3, v1 => by
    unfold spec_MsgShow_l0
    exact
     Pn.some (LpO.out [.bit false, .mask [3], .ren []] (p := [(decide ((p1.length : Int) < (m.List.length : Int))) = false]) (by kernel_rfl) (show X.out 0 ≠ X.go from nofun) (cj1 (rng_end h3)))
  | x1 :: t1, p1, h3, v1 => by
    unfold spec_MsgShow_l0
    exact
     Pn.ite (fun h5 =>
     Pn.ite (fun h10 =>
     Pn.bind (fun r2 h11 =>
     Pn.ite (fun h12 =>
     Pn.bind (fun r3 h13 =>
     Pn.ite (fun h14 =>
     Pn.ite (fun h15 =>
     Pn.ite (fun h16 =>
     LpO.go [.bit true, .el (E71 x1), .wait 9, .nm 25 (V.sc (.int .i64 ((sbytes x1.Text).length : Int))), .wait 2, .mask [3, 5, 6, 15, 16, 17, 24, 25, 26], .ren [0, 1], .loop (X.out 2) (st 49 [(3, V.sc (.string v1)), (5, V.ptr 0 0), (6, V.ow 1), (15, V.sl false 71 (List.map E71 m.List)), (16, V.sc (.int .i64 (m.List.length : Int))), (17, V.sc (.int .i64 (p1.length : Int)))] [Blk.box 71 [V.sc (.int .i64 x1.No), V.sc (.string x1.Text)], Blk.row 5 (List.map E5 r2) []] []), .draw [], .ints r2, .call [] (E9 r3) [], .wait 7, .mask [3, 15, 16, 17], .ren [], .nm 17 (V.sc (.int .i64 ((p1 ++ [x1]).length : Int)))] (p := [(decide ((p1.length : Int) < (m.List.length : Int))) = true,
      (0 : Int) ≤ (p1.length : Int),
      (List.map E71 m.List)[(p1.length : Int).toNat]? = some (E71 x1),
      x1.Text.size ≤ 9223372036854775807,
      V.sc (.int .i64 ((List.map E5 (sbytes x1.Text)).length : Int)) = V.sc (.int .i64 ((sbytes x1.Text).length : Int)),
      Loop Tryd.prog (sub (codeOf Tryd.prog 13) [1, 1, 1, 0, 1, 0, 0, 1, 1, 0, 0, 1, 1, 0, 1, 0, 0]) (st 49 [(3, V.sc (.string v1)), (5, V.ptr 0 0), (6, V.ow 1), (15, V.sl false 71 (List.map E71 m.List)), (16, V.sc (.int .i64 (m.List.length : Int))), (17, V.sc (.int .i64 (p1.length : Int))), (24, V.ow 1), (25, V.sc (.int .i64 ((sbytes x1.Text).length : Int))), (26, V.sc (.int .i64 0))] [Blk.box 71 [V.sc (.int .i64 x1.No), V.sc (.string x1.Text)], Blk.row 5 (List.map E5 (sbytes x1.Text)) []] []) (X.out 2) (st 49 [(3, V.sc (.string v1)), (5, V.ptr 0 0), (6, V.ow 1), (15, V.sl false 71 (List.map E71 m.List)), (16, V.sc (.int .i64 (m.List.length : Int))), (17, V.sc (.int .i64 (p1.length : Int)))] [Blk.box 71 [V.sc (.int .i64 x1.No), V.sc (.string x1.Text)], Blk.row 5 (List.map E5 r2) []] []),
      v1.size + (bs [32]).size ≤ 9223372036854775807,
      (List.map E5 r2) = r2.map fun n => V.sc (.int .u8 n),
      Fn Tryd.prog 36 [(false, E3 x1.No)] (E9 r3) [],
      (true || ((E9 r3).nv && nvL [])) = true,
      (v1 ++ (bs [32])).size + r3.size ≤ 9223372036854775807,
      ((v1 ++ (bs [32])) ++ r3).size + (bs [61]).size ≤ 9223372036854775807,
      (((v1 ++ (bs [32])) ++ r3) ++ (bs [61])).size + (bstr r2).size ≤ 9223372036854775807,
      V.sc (.int .i64 (i64 ((p1.length : Int) + 1))) = V.sc (.int .i64 ((p1 ++ [x1]).length : Int))]) (by kernel_rfl) (cj (rng_lt h3) (cj (by omega) (cj (rng_get _ h3) (cj (od h5) (cj (len_nm _ _) (cj (spec_MsgShow_l1_ok m v1 p1 x1 h10 (sbytes x1.Text) [] rfl (sbytes x1.Text) r2 h11) (cj (od h12) (cj rfl (cj (spec_NumText_ok x1.No r3 h13) (cj rfl (cj (od h14) (cj (od h15) (cj (od h16) (cj1 (rng_next h3 h4))))))))))))))) (spec_MsgShow_l0_ok m h4 t1 (p1 ++ [x1]) (rng_step h3) ((((v1 ++ (bs [32])) ++ r3) ++ (bs [61])) ++ (bstr r2)))) (fun h16 =>
     Pn.none)) (fun h15 =>
     Pn.none)) (fun h14 =>
     Pn.none))) (fun h12 =>
     Pn.none))) (fun h10 =>
     Pn.none)) (fun h5 =>
     Pn.none)
def spec_MsgShow (m : Msg) : Option (ByteArray) :=
 (spec_MsgOk m).bind fun r1 =>
 if r1 = true then
 if (capOk m.List.length) = true then
 (spec_MsgShow_l0 m m.List [] m.Mti).bind fun r4 =>
 some r4
 else none
 else
 some (bs [])
theorem spec_MsgShow_ok (m : Msg) : Pn (fun y => Fn Tryd.prog 13 [(false, E36 m)] (E9 y) []) (spec_MsgShow m) := by
  unfold spec_MsgShow
  exact
   Pn.bind (fun r1 h1 =>
   Pn.ite (fun h2 =>
   Pn.ite (fun h17 =>
   Pn.bind (fun r4 h18 =>
   Pn.some (Fn.of [.call [] (E4 r1) [], .bit false, .wait 5, .nm 16 (V.sc (.int .i64 (m.List.length : Int))), .wait 2, .mask [3, 15, 16, 17], .ren [], .loop (X.out 0) (st 49 [(3, V.sc (.string r4))] [] [])] (p := [Fn Tryd.prog 43 [(false, E36 m)] (E4 r1) [],
    (true || ((E4 r1).nv && nvL [])) = true,
    (!r1) = false,
    V.sc (.int .i64 ((List.map E71 m.List).length : Int)) = V.sc (.int .i64 (m.List.length : Int)),
    Loop Tryd.prog (sub (codeOf Tryd.prog 13) [1, 1, 1, 0, 1, 0, 0]) (st 49 [(3, V.sc (.string m.Mti)), (15, V.sl false 71 (List.map E71 m.List)), (16, V.sc (.int .i64 (m.List.length : Int))), (17, V.sc (.int .i64 0))] [] []) (X.out 0) (st 49 [(3, V.sc (.string r4))] [] [])]) (by kernel_rfl) (cj (spec_MsgOk_ok m r1 h1) (cj rfl (cj (nf h2) (cj (len_nm _ _) (cj1 (spec_MsgShow_l0_ok m h17 m.List [] rfl m.Mti r4 h18))))))))) (fun h17 =>
   Pn.none)) (fun h2 =>
   Pn.some (Fn.of [.call [] (E4 r1) [], .bit true] (p := [Fn Tryd.prog 43 [(false, E36 m)] (E4 r1) [],
    (true || ((E4 r1).nv && nvL [])) = true,
    (!r1) = true]) (by kernel_rfl) (cj (spec_MsgOk_ok m r1 h1) (cj rfl (cj1 (nt h2)))))))
def impl_fieldRows  : Option ((List fieldRow)) :=
 some [(fieldRow.mk 2 3 19), (fieldRow.mk 3 1 6), (fieldRow.mk 4 1 12), (fieldRow.mk 7 1 10), (fieldRow.mk 11 1 6), (fieldRow.mk 14 1 4), (fieldRow.mk 37 2 12), (fieldRow.mk 38 2 6), (fieldRow.mk 39 2 2), (fieldRow.mk 41 2 8), (fieldRow.mk 48 5 60), (fieldRow.mk 49 1 3), (fieldRow.mk 54 5 60), (fieldRow.mk 95 2 12), (fieldRow.mk 102 4 20), (fieldRow.mk 103 4 20)]
theorem impl_fieldRows_ok  : Pn (fun y => Fn Tryd.prog 149 [] (E146 y) []) (impl_fieldRows) := by
  unfold impl_fieldRows
  exact
   Pn.some (Fn.of [] (p := []) (by kernel_rfl) trivial)
def impl_rowOf_l0 (no : Int) (r1 : (List fieldRow)) : List fieldRow → Option (Lo Unit (Int × Int × Int))
  | [] =>
   some (.out ())
  | x1 :: t1 =>
   if (x1.no == no) = true then
   some (.ret (x1.no, x1.kind, x1.size))
   else
   impl_rowOf_l0 no r1 t1
theorem impl_rowOf_l0_ok (no : Int) (r1 : (List fieldRow)) (h3 : capOk r1.length = true) : ∀ (t1 p1 : List fieldRow) (_ : r1 = p1 ++ t1) , Pn (LpO Tryd.prog (sub (codeOf Tryd.prog 126) [1, 0, 1, 0, 0]) (st 18 [(0, V.sc (.int .i64 no)), (2, V.ptr 0 0), (5, V.ow 1), (6, V.sc (.int .i64 (r1.length : Int))), (7, V.sc (.int .i64 (p1.length : Int)))] [Blk.box 127 [V.sc (.int .i64 0), V.sc (.int .i64 0), V.sc (.int .i64 0)], Blk.row 127 (List.map E127 r1) []] []) (fun (y : Lo Unit (Int × Int × Int)) => Lo.elim y (fun s => (X.out 0, st 18 [(2, V.ptr 0 0)] [Blk.box 127 [V.sc (.int .i64 0), V.sc (.int .i64 0), V.sc (.int .i64 0)]] [])) (fun s => (X.ret, st 18 [(2, V.ptr 0 0)] [Blk.box 127 [V.sc (.int .i64 s.1), V.sc (.int .i64 s.2.1), V.sc (.int .i64 s.2.2)]] [])))) (impl_rowOf_l0 no r1 t1)
  | [], p1, h2 => by
    unfold impl_rowOf_l0
    exact
     Pn.some (LpO.out [.bit false, .mask [2], .ren [0]] (p := [(decide ((p1.length : Int) < (r1.length : Int))) = false]) (by kernel_rfl) (show X.out 0 ≠ X.go from nofun) (cj1 (rng_end h2)))
  | x1 :: t1, p1, h2 => by
    unfold impl_rowOf_l0
    exact
     Pn.ite (fun h4 =>
     Pn.some (LpO.out [.bit true, .el (E127 x1), .bit true, .wait 2, .mask [2], .ren [0]] (p := [(decide ((p1.length : Int) < (r1.length : Int))) = true,
      (0 : Int) ≤ (p1.length : Int),
      ((p1.length : Int) : Int) < ((List.map E127 r1).length : Int),
      look [] ((p1.length : Int).toNat) = none,
      (List.map E127 r1)[(p1.length : Int).toNat]? = some (E127 x1),
      (x1.no == no) = true]) (by kernel_rfl) (show X.ret ≠ X.go from nofun) (cj (rng_lt h2) (cj (by omega) (cj (rng_ltI _ h2) (cj rfl (cj (rng_get _ h2) (cj1 h4)))))))) (fun h4 =>
     LpO.go [.bit true, .el (E127 x1), .bit false, .wait 2, .mask [0, 2, 5, 6, 7], .ren [0, 1], .nm 7 (V.sc (.int .i64 ((p1 ++ [x1]).length : Int)))] (p := [(decide ((p1.length : Int) < (r1.length : Int))) = true,
      (0 : Int) ≤ (p1.length : Int),
      ((p1.length : Int) : Int) < ((List.map E127 r1).length : Int),
      look [] ((p1.length : Int).toNat) = none,
      (List.map E127 r1)[(p1.length : Int).toNat]? = some (E127 x1),
      (x1.no == no) = false,
      V.sc (.int .i64 (i64 ((p1.length : Int) + 1))) = V.sc (.int .i64 ((p1 ++ [x1]).length : Int))]) (by kernel_rfl) (cj (rng_lt h2) (cj (by omega) (cj (rng_ltI _ h2) (cj rfl (cj (rng_get _ h2) (cj h4 (cj1 (rng_next h2 h3)))))))) (impl_rowOf_l0_ok no r1 h3 t1 (p1 ++ [x1]) (rng_step h2)))
def impl_rowOf (no : Int) : Option (fieldRow) :=
 (impl_fieldRows).bind fun r1 =>
 if (capOk r1.length) = true then
 (impl_rowOf_l0 no r1 r1).bind fun r2 =>
 Lo.elim r2 (fun s1 =>
 some (fieldRow.mk 0 0 0)) (fun s2 =>
 some (fieldRow.mk s2.1 s2.2.1 s2.2.2))
 else none
theorem impl_rowOf_ok (no : Int) : Pn (fun y => Fn Tryd.prog 126 [(false, E3 no)] (E127 y) []) (impl_rowOf no) := by
  unfold impl_rowOf
  exact
   Pn.bind (fun r1 h1 =>
   Pn.ite (fun h5 =>
   Pn.bind (fun r2 h6 =>
   Pn.lo (fun s1 h7 =>
   Pn.some (Fn.of [.call [] (E146 r1) [], .wait 1, .nm 6 (V.sc (.int .i64 (r1.length : Int))), .wait 2, .mask [0, 2, 5, 6, 7], .ren [0, 1], .loop (X.out 0) (st 18 [(2, V.ptr 0 0)] [Blk.box 127 [V.sc (.int .i64 0), V.sc (.int .i64 0), V.sc (.int .i64 0)]] [])] (p := [Fn Tryd.prog 149 [] (E146 r1) [],
    (true || ((E146 r1).nv && nvL [])) = true,
    V.sc (.int .i64 ((List.map E127 r1).length : Int)) = V.sc (.int .i64 (r1.length : Int)),
    Loop Tryd.prog (sub (codeOf Tryd.prog 126) [1, 0, 1, 0, 0]) (st 18 [(0, V.sc (.int .i64 no)), (2, V.ptr 0 0), (5, V.ow 1), (6, V.sc (.int .i64 (r1.length : Int))), (7, V.sc (.int .i64 0))] [Blk.box 127 [V.sc (.int .i64 0), V.sc (.int .i64 0), V.sc (.int .i64 0)], Blk.row 127 (List.map E127 r1) []] []) (X.out 0) (st 18 [(2, V.ptr 0 0)] [Blk.box 127 [V.sc (.int .i64 0), V.sc (.int .i64 0), V.sc (.int .i64 0)]] [])]) (by kernel_rfl) (cj (impl_fieldRows_ok  r1 h1) (cj rfl (cj (len_nm _ _) (cj1 ((impl_rowOf_l0_ok no r1 h5 r1 [] rfl r2 h6).at h7))))))) (fun s2 h8 =>
   Pn.some (Fn.of [.call [] (E146 r1) [], .wait 1, .nm 6 (V.sc (.int .i64 (r1.length : Int))), .wait 2, .mask [0, 2, 5, 6, 7], .ren [0, 1], .loop (X.ret) (st 18 [(2, V.ptr 0 0)] [Blk.box 127 [V.sc (.int .i64 s2.1), V.sc (.int .i64 s2.2.1), V.sc (.int .i64 s2.2.2)]] [])] (p := [Fn Tryd.prog 149 [] (E146 r1) [],
    (true || ((E146 r1).nv && nvL [])) = true,
    V.sc (.int .i64 ((List.map E127 r1).length : Int)) = V.sc (.int .i64 (r1.length : Int)),
    Loop Tryd.prog (sub (codeOf Tryd.prog 126) [1, 0, 1, 0, 0]) (st 18 [(0, V.sc (.int .i64 no)), (2, V.ptr 0 0), (5, V.ow 1), (6, V.sc (.int .i64 (r1.length : Int))), (7, V.sc (.int .i64 0))] [Blk.box 127 [V.sc (.int .i64 0), V.sc (.int .i64 0), V.sc (.int .i64 0)], Blk.row 127 (List.map E127 r1) []] []) (X.ret) (st 18 [(2, V.ptr 0 0)] [Blk.box 127 [V.sc (.int .i64 s2.1), V.sc (.int .i64 s2.2.1), V.sc (.int .i64 s2.2.2)]] [])]) (by kernel_rfl) (cj (impl_fieldRows_ok  r1 h1) (cj rfl (cj (len_nm _ _) (cj1 ((impl_rowOf_l0_ok no r1 h5 r1 [] rfl r2 h6).at h8))))))))) (fun h5 =>
   Pn.none))
def impl_Digits_l0 (s_ : ByteArray) : Nat → Int → Option (Lo Unit Unit)
  | 0, _ => none
  | fuel + 1, v1 =>
   if (decide (v1 < (s_.size : Int))) = true then
   if (decide (0 ≤ v1)) = true then
   if (decide ((v1 : Int) < (s_.size : Int))) = true then
   if (decide ((sAt s_ v1) < 48)) = true then
   some (.ret ())
   else
   if (decide (57 < (sAt s_ v1))) = true then
   some (.ret ())
   else
   impl_Digits_l0 s_ fuel (i64 (v1 + 1))
   else none
   else none
   else
   some (.out ())
theorem impl_Digits_l0_ok (s_ : ByteArray) : ∀ (fuel : Nat) (v1 : Int), Pn (LpO Tryd.prog (sub (codeOf Tryd.prog 118) [1, 0, 1, 0, 0]) (st 22 [(0, V.sc (.string s_)), (5, V.sc (.int .i64 (s_.size : Int))), (6, V.sc (.int .i64 v1))] [] []) (fun (y : Lo Unit Unit) => Lo.elim y (fun s => (X.out 0, st 22 [(0, V.sc (.string s_))] [] [])) (fun s => (X.ret, st 22 [(2, V.sc (.bool false))] [] [])))) (impl_Digits_l0 s_ fuel v1)
  | 0, _ => Pn.none
  | fuel + 1, v1 => by
    unfold impl_Digits_l0
    exact
     Pn.ite (fun h1 =>
     Pn.ite (fun h2 =>
     Pn.ite (fun h3 =>
     Pn.ite (fun h4 =>
     Pn.some (LpO.out [.bit true, .bit true, .bit true, .bit true, .bit true, .bit true, .bit true, .wait 1, .mask [2], .ren []] (p := [(decide (v1 < (s_.size : Int))) = true,
      (0 : Int) ≤ v1,
      (v1 : Int) < s_.size,
      (decide ((sAt s_ v1) < 48)) = true,
      (decide ((sAt s_ v1) < 48)) = true,
      (decide ((sAt s_ v1) < 48)) = true,
      (decide ((sAt s_ v1) < 48)) = true,
      (decide ((sAt s_ v1) < 48)) = true,
      true = true]) (by kernel_rfl) (show X.ret ≠ X.go from nofun) (cj h1 (cj (od h2) (cj (od h3) (cj h4 (cj h4 (cj h4 (cj h4 (cj h4 (cj1 rfl))))))))))) (fun h4 =>
     Pn.ite (fun h5 =>
     Pn.some (LpO.out [.bit true, .bit false, .bit false, .bit false, .bit false, .bit false, .bit true, .wait 1, .mask [2], .ren []] (p := [(decide (v1 < (s_.size : Int))) = true,
      (0 : Int) ≤ v1,
      (v1 : Int) < s_.size,
      (decide ((sAt s_ v1) < 48)) = false,
      (decide ((sAt s_ v1) < 48)) = false,
      (decide ((sAt s_ v1) < 48)) = false,
      (0 : Int) ≤ v1,
      (v1 : Int) < s_.size,
      (decide ((sAt s_ v1) < 48)) = false,
      (decide ((sAt s_ v1) < 48)) = false,
      (decide (57 < (sAt s_ v1))) = true]) (by kernel_rfl) (show X.ret ≠ X.go from nofun) (cj h1 (cj (od h2) (cj (od h3) (cj h4 (cj h4 (cj h4 (cj (od h2) (cj (od h3) (cj h4 (cj h4 (cj1 h5))))))))))))) (fun h5 =>
     LpO.go [.bit true, .bit false, .bit false, .bit false, .bit false, .bit false, .bit false, .wait 2, .mask [0, 5, 6], .ren []] (p := [(decide (v1 < (s_.size : Int))) = true,
      (0 : Int) ≤ v1,
      (v1 : Int) < s_.size,
      (decide ((sAt s_ v1) < 48)) = false,
      (decide ((sAt s_ v1) < 48)) = false,
      (decide ((sAt s_ v1) < 48)) = false,
      (0 : Int) ≤ v1,
      (v1 : Int) < s_.size,
      (decide ((sAt s_ v1) < 48)) = false,
      (decide ((sAt s_ v1) < 48)) = false,
      (decide (57 < (sAt s_ v1))) = false]) (by kernel_rfl) (cj h1 (cj (od h2) (cj (od h3) (cj h4 (cj h4 (cj h4 (cj (od h2) (cj (od h3) (cj h4 (cj h4 (cj1 h5))))))))))) (impl_Digits_l0_ok s_ fuel (i64 (v1 + 1)))))) (fun h3 =>
     Pn.none)) (fun h2 =>
     Pn.none)) (fun h1 =>
     Pn.some (LpO.out [.bit false, .mask [0], .ren []] (p := [(decide (v1 < (s_.size : Int))) = false]) (by kernel_rfl) (show X.out 0 ≠ X.go from nofun) (cj1 h1)))
def impl_Digits (s_ : ByteArray) : Option (Bool) :=
 (impl_Digits_l0 s_ FUEL 0).bind fun r1 =>
 Lo.elim r1 (fun s1 =>
 some (!(s_ == (bs [])))) (fun s2 =>
 some false)
theorem impl_Digits_ok (s_ : ByteArray) : Pn (fun y => Fn Tryd.prog 118 [(false, E9 s_)] (E4 y) []) (impl_Digits s_) := by
  unfold impl_Digits
  exact
   Pn.bind (fun r1 h6 =>
   Pn.lo (fun s1 h7 =>
   Pn.some (Fn.of [.wait 5, .mask [0, 5, 6], .ren [], .loop (X.out 0) (st 22 [(0, V.sc (.string s_))] [] [])] (p := [Loop Tryd.prog (sub (codeOf Tryd.prog 118) [1, 0, 1, 0, 0]) (st 22 [(0, V.sc (.string s_)), (5, V.sc (.int .i64 (s_.size : Int))), (6, V.sc (.int .i64 0))] [] []) (X.out 0) (st 22 [(0, V.sc (.string s_))] [] [])]) (by kernel_rfl) (cj1 ((impl_Digits_l0_ok s_ FUEL 0 r1 h6).at h7)))) (fun s2 h8 =>
   Pn.some (Fn.of [.wait 5, .mask [0, 5, 6], .ren [], .loop (X.ret) (st 22 [(2, V.sc (.bool false))] [] [])] (p := [Loop Tryd.prog (sub (codeOf Tryd.prog 118) [1, 0, 1, 0, 0]) (st 22 [(0, V.sc (.string s_)), (5, V.sc (.int .i64 (s_.size : Int))), (6, V.sc (.int .i64 0))] [] []) (X.ret) (st 22 [(2, V.sc (.bool false))] [] [])]) (by kernel_rfl) (cj1 ((impl_Digits_l0_ok s_ FUEL 0 r1 h6).at h8)))))
def impl_Printable_l0 (s_ : ByteArray) : Nat → Int → Option (Lo Unit Unit)
  | 0, _ => none
  | fuel + 1, v1 =>
   if (decide (v1 < (s_.size : Int))) = true then
   if (decide (0 ≤ v1)) = true then
   if (decide ((v1 : Int) < (s_.size : Int))) = true then
   if (decide ((sAt s_ v1) < 32)) = true then
   some (.ret ())
   else
   if (decide (126 < (sAt s_ v1))) = true then
   some (.ret ())
   else
   impl_Printable_l0 s_ fuel (i64 (v1 + 1))
   else none
   else none
   else
   some (.out ())
theorem impl_Printable_l0_ok (s_ : ByteArray) : ∀ (fuel : Nat) (v1 : Int), Pn (LpO Tryd.prog (sub (codeOf Tryd.prog 127) [1, 0, 1, 0, 0]) (st 20 [(0, V.sc (.string s_)), (5, V.sc (.int .i64 (s_.size : Int))), (6, V.sc (.int .i64 v1))] [] []) (fun (y : Lo Unit Unit) => Lo.elim y (fun s => (X.out 0, st 20 [] [] [])) (fun s => (X.ret, st 20 [(2, V.sc (.bool false))] [] [])))) (impl_Printable_l0 s_ fuel v1)
  | 0, _ => Pn.none
  | fuel + 1, v1 => by
    unfold impl_Printable_l0
    exact
     Pn.ite (fun h1 =>
     Pn.ite (fun h2 =>
     Pn.ite (fun h3 =>
     Pn.ite (fun h4 =>
     Pn.some (LpO.out [.bit true, .bit true, .bit true, .bit true, .bit true, .bit true, .bit true, .wait 1, .mask [2], .ren []] (p := [(decide (v1 < (s_.size : Int))) = true,
      (0 : Int) ≤ v1,
      (v1 : Int) < s_.size,
      (decide ((sAt s_ v1) < 32)) = true,
      (decide ((sAt s_ v1) < 32)) = true,
      (decide ((sAt s_ v1) < 32)) = true,
      (decide ((sAt s_ v1) < 32)) = true,
      (decide ((sAt s_ v1) < 32)) = true,
      true = true]) (by kernel_rfl) (show X.ret ≠ X.go from nofun) (cj h1 (cj (od h2) (cj (od h3) (cj h4 (cj h4 (cj h4 (cj h4 (cj h4 (cj1 rfl))))))))))) (fun h4 =>
     Pn.ite (fun h5 =>
     Pn.some (LpO.out [.bit true, .bit false, .bit false, .bit false, .bit false, .bit false, .bit true, .wait 1, .mask [2], .ren []] (p := [(decide (v1 < (s_.size : Int))) = true,
      (0 : Int) ≤ v1,
      (v1 : Int) < s_.size,
      (decide ((sAt s_ v1) < 32)) = false,
      (decide ((sAt s_ v1) < 32)) = false,
      (decide ((sAt s_ v1) < 32)) = false,
      (0 : Int) ≤ v1,
      (v1 : Int) < s_.size,
      (decide ((sAt s_ v1) < 32)) = false,
      (decide ((sAt s_ v1) < 32)) = false,
      (decide (126 < (sAt s_ v1))) = true]) (by kernel_rfl) (show X.ret ≠ X.go from nofun) (cj h1 (cj (od h2) (cj (od h3) (cj h4 (cj h4 (cj h4 (cj (od h2) (cj (od h3) (cj h4 (cj h4 (cj1 h5))))))))))))) (fun h5 =>
     LpO.go [.bit true, .bit false, .bit false, .bit false, .bit false, .bit false, .bit false, .wait 2, .mask [0, 5, 6], .ren []] (p := [(decide (v1 < (s_.size : Int))) = true,
      (0 : Int) ≤ v1,
      (v1 : Int) < s_.size,
      (decide ((sAt s_ v1) < 32)) = false,
      (decide ((sAt s_ v1) < 32)) = false,
      (decide ((sAt s_ v1) < 32)) = false,
      (0 : Int) ≤ v1,
      (v1 : Int) < s_.size,
      (decide ((sAt s_ v1) < 32)) = false,
      (decide ((sAt s_ v1) < 32)) = false,
      (decide (126 < (sAt s_ v1))) = false]) (by kernel_rfl) (cj h1 (cj (od h2) (cj (od h3) (cj h4 (cj h4 (cj h4 (cj (od h2) (cj (od h3) (cj h4 (cj h4 (cj1 h5))))))))))) (impl_Printable_l0_ok s_ fuel (i64 (v1 + 1)))))) (fun h3 =>
     Pn.none)) (fun h2 =>
     Pn.none)) (fun h1 =>
     Pn.some (LpO.out [.bit false, .mask [], .ren []] (p := [(decide (v1 < (s_.size : Int))) = false]) (by kernel_rfl) (show X.out 0 ≠ X.go from nofun) (cj1 h1)))
def impl_Printable (s_ : ByteArray) : Option (Bool) :=
 (impl_Printable_l0 s_ FUEL 0).bind fun r1 =>
 Lo.elim r1 (fun s1 =>
 some true) (fun s2 =>
 some false)
theorem impl_Printable_ok (s_ : ByteArray) : Pn (fun y => Fn Tryd.prog 127 [(false, E9 s_)] (E4 y) []) (impl_Printable s_) := by
  unfold impl_Printable
  exact
   Pn.bind (fun r1 h6 =>
   Pn.lo (fun s1 h7 =>
   Pn.some (Fn.of [.wait 5, .mask [0, 5, 6], .ren [], .loop (X.out 0) (st 20 [] [] [])] (p := [Loop Tryd.prog (sub (codeOf Tryd.prog 127) [1, 0, 1, 0, 0]) (st 20 [(0, V.sc (.string s_)), (5, V.sc (.int .i64 (s_.size : Int))), (6, V.sc (.int .i64 0))] [] []) (X.out 0) (st 20 [] [] [])]) (by kernel_rfl) (cj1 ((impl_Printable_l0_ok s_ FUEL 0 r1 h6).at h7)))) (fun s2 h8 =>
   Pn.some (Fn.of [.wait 5, .mask [0, 5, 6], .ren [], .loop (X.ret) (st 20 [(2, V.sc (.bool false))] [] [])] (p := [Loop Tryd.prog (sub (codeOf Tryd.prog 127) [1, 0, 1, 0, 0]) (st 20 [(0, V.sc (.string s_)), (5, V.sc (.int .i64 (s_.size : Int))), (6, V.sc (.int .i64 0))] [] []) (X.ret) (st 20 [(2, V.sc (.bool false))] [] [])]) (by kernel_rfl) (cj1 ((impl_Printable_l0_ok s_ FUEL 0 r1 h6).at h8)))))
def impl_within (n : Int) (low : Int) (high : Int) : Option (Bool) :=
 if (decide (low ≤ n)) = true then
 some (decide (n ≤ high))
 else
 some false
theorem impl_within_ok (n : Int) (low : Int) (high : Int) : Pn (fun y => Fn Tryd.prog 83 [(false, E3 n), (false, E3 low), (false, E3 high)] (E4 y) []) (impl_within n low high) := by
  unfold impl_within
  exact
   Pn.ite (fun h1 =>
   Pn.some (Fn.of [.bit true, .bit true, .bit true, .bit true] (p := [(decide (low ≤ n)) = true,
    (decide (low ≤ n)) = true,
    (decide (low ≤ n)) = true,
    (decide (low ≤ n)) = true]) (by kernel_rfl) (cj h1 (cj h1 (cj h1 (cj1 h1)))))) (fun h1 =>
   Pn.some (Fn.of [.bit false, .bit false, .bit false, .bit false] (p := [(decide (low ≤ n)) = false,
    (decide (low ≤ n)) = false,
    (decide (low ≤ n)) = false,
    (decide (low ≤ n)) = false]) (by kernel_rfl) (cj h1 (cj h1 (cj h1 (cj1 h1))))))
def impl_FieldOk_c1 (s_ : ByteArray) (r1 : fieldRow) : Option (Bool) :=
 if (r1.kind == 4) = true then
 some (r1.kind == 4)
 else
 some (r1.kind == 5)
theorem impl_FieldOk_c1_ok (s_ : ByteArray) (r1 : fieldRow) : Pn (JnO Tryd.prog (sub (codeOf Tryd.prog 93) [1, 1, 0, 1, 0, 1, 1, 1, 1, 1, 1, 0]) (st 55 [(1, V.sc (.string s_)), (5, V.ptr 0 0), (9, V.sc (.int .i64 r1.kind))] [Blk.box 127 [V.sc (.int .i64 r1.no), V.sc (.int .i64 r1.kind), V.sc (.int .i64 r1.size)]] []) (fun (y : Bool) => (X.go, st 55 [(1, V.sc (.string s_)), (5, V.ptr 0 0), (43, V.sc (.bool y))] [Blk.box 127 [V.sc (.int .i64 r1.no), V.sc (.int .i64 r1.kind), V.sc (.int .i64 r1.size)]] []))) (impl_FieldOk_c1 s_ r1) := by
  unfold impl_FieldOk_c1
  exact
   Pn.ite (fun h12 =>
   Pn.some (JnO.of [.bit true, .mask [1, 5, 43], .ren [0]] (p := [(r1.kind == 4) = true]) (by kernel_rfl) (cj1 h12))) (fun h12 =>
   Pn.some (JnO.of [.bit false, .wait 2, .mask [1, 5, 43], .ren [0]] (p := [(r1.kind == 4) = false]) (by kernel_rfl) (cj1 h12)))
def impl_FieldOk_c0 (s_ : ByteArray) (r1 : fieldRow) : Option (Lo Unit Bool) :=
 if (r1.kind == 1) = true then
 (impl_Digits s_).bind fun r2 =>
 if r2 = true then
 some (.ret ((s_.size : Int) == r1.size))
 else
 some (.ret false)
 else
 if (r1.kind == 2) = true then
 (impl_Printable s_).bind fun r3 =>
 if r3 = true then
 some (.ret ((s_.size : Int) == r1.size))
 else
 some (.ret false)
 else
 if (r1.kind == 3) = true then
 (impl_Digits s_).bind fun r4 =>
 if r4 = true then
 (impl_within (s_.size : Int) 1 r1.size).bind fun r5 =>
 some (.ret r5)
 else
 some (.ret false)
 else
 (impl_FieldOk_c1 s_ r1).bind fun r6 =>
 if r6 = true then
 (impl_Printable s_).bind fun r7 =>
 if r7 = true then
 (impl_within (s_.size : Int) 1 r1.size).bind fun r8 =>
 some (.ret r8)
 else
 some (.ret false)
 else
 some (.out ())
theorem impl_FieldOk_c0_ok (s_ : ByteArray) (r1 : fieldRow) : Pn (JnO Tryd.prog (sub (codeOf Tryd.prog 93) [1, 1, 0]) (st 55 [(1, V.sc (.string s_)), (5, V.ptr 0 0)] [Blk.box 127 [V.sc (.int .i64 r1.no), V.sc (.int .i64 r1.kind), V.sc (.int .i64 r1.size)]] []) (fun (y : Lo Unit Bool) => Lo.elim y (fun s => (X.go, st 55 [] [] [])) (fun s => (X.ret, st 55 [(4, V.sc (.bool s))] [] [])))) (impl_FieldOk_c0 s_ r1) := by
  unfold impl_FieldOk_c0
  exact
   Pn.ite (fun h2 =>
   Pn.bind (fun r2 h3 =>
   Pn.ite (fun h4 =>
   Pn.some (JnO.of [.bit true, .call [] (E4 r2) [], .bit true, .bit true, .bit true, .bit true, .bit true, .bit true, .wait 2, .mask [4], .ren []] (p := [(r1.kind == 1) = true,
    Fn Tryd.prog 118 [(false, E9 s_)] (E4 r2) [],
    (true || ((E4 r2).nv && nvL [])) = true,
    r2 = true,
    r2 = true,
    r2 = true,
    r2 = true,
    r2 = true,
    r2 = true]) (by kernel_rfl) (cj h2 (cj (impl_Digits_ok s_ r2 h3) (cj rfl (cj h4 (cj h4 (cj h4 (cj h4 (cj h4 (cj1 h4))))))))))) (fun h4 =>
   Pn.some (JnO.of [.bit true, .call [] (E4 r2) [], .bit false, .bit false, .bit false, .bit false, .bit false, .bit false, .wait 2, .mask [4], .ren []] (p := [(r1.kind == 1) = true,
    Fn Tryd.prog 118 [(false, E9 s_)] (E4 r2) [],
    (true || ((E4 r2).nv && nvL [])) = true,
    r2 = false,
    r2 = false,
    r2 = false,
    r2 = false,
    r2 = false,
    r2 = false]) (by kernel_rfl) (cj h2 (cj (impl_Digits_ok s_ r2 h3) (cj rfl (cj h4 (cj h4 (cj h4 (cj h4 (cj h4 (cj1 h4))))))))))))) (fun h2 =>
   Pn.ite (fun h5 =>
   Pn.bind (fun r3 h6 =>
   Pn.ite (fun h7 =>
   Pn.some (JnO.of [.bit false, .bit true, .call [] (E4 r3) [], .bit true, .bit true, .bit true, .bit true, .bit true, .bit true, .wait 2, .mask [4], .ren []] (p := [(r1.kind == 1) = false,
    (r1.kind == 2) = true,
    Fn Tryd.prog 127 [(false, E9 s_)] (E4 r3) [],
    (true || ((E4 r3).nv && nvL [])) = true,
    r3 = true,
    r3 = true,
    r3 = true,
    r3 = true,
    r3 = true,
    r3 = true]) (by kernel_rfl) (cj h2 (cj h5 (cj (impl_Printable_ok s_ r3 h6) (cj rfl (cj h7 (cj h7 (cj h7 (cj h7 (cj h7 (cj1 h7)))))))))))) (fun h7 =>
   Pn.some (JnO.of [.bit false, .bit true, .call [] (E4 r3) [], .bit false, .bit false, .bit false, .bit false, .bit false, .bit false, .wait 2, .mask [4], .ren []] (p := [(r1.kind == 1) = false,
    (r1.kind == 2) = true,
    Fn Tryd.prog 127 [(false, E9 s_)] (E4 r3) [],
    (true || ((E4 r3).nv && nvL [])) = true,
    r3 = false,
    r3 = false,
    r3 = false,
    r3 = false,
    r3 = false,
    r3 = false]) (by kernel_rfl) (cj h2 (cj h5 (cj (impl_Printable_ok s_ r3 h6) (cj rfl (cj h7 (cj h7 (cj h7 (cj h7 (cj h7 (cj1 h7)))))))))))))) (fun h5 =>
   Pn.ite (fun h8 =>
   Pn.bind (fun r4 h9 =>
   Pn.ite (fun h10 =>
   Pn.bind (fun r5 h11 =>
   Pn.some (JnO.of [.bit false, .bit false, .bit true, .call [] (E4 r4) [], .bit true, .bit true, .bit true, .bit true, .bit true, .call [] (E4 r5) [], .bit true, .wait 2, .mask [4], .ren []] (p := [(r1.kind == 1) = false,
    (r1.kind == 2) = false,
    (r1.kind == 3) = true,
    Fn Tryd.prog 118 [(false, E9 s_)] (E4 r4) [],
    (true || ((E4 r4).nv && nvL [])) = true,
    r4 = true,
    r4 = true,
    r4 = true,
    r4 = true,
    r4 = true,
    Fn Tryd.prog 83 [(false, E3 (s_.size : Int)), (false, E3 1), (false, E3 r1.size)] (E4 r5) [],
    (true || ((E4 r5).nv && nvL [])) = true,
    r4 = true]) (by kernel_rfl) (cj h2 (cj h5 (cj h8 (cj (impl_Digits_ok s_ r4 h9) (cj rfl (cj h10 (cj h10 (cj h10 (cj h10 (cj h10 (cj (impl_within_ok (s_.size : Int) 1 r1.size r5 h11) (cj rfl (cj1 h10)))))))))))))))) (fun h10 =>
   Pn.some (JnO.of [.bit false, .bit false, .bit true, .call [] (E4 r4) [], .bit false, .bit false, .bit false, .bit false, .bit false, .bit false, .wait 2, .mask [4], .ren []] (p := [(r1.kind == 1) = false,
    (r1.kind == 2) = false,
    (r1.kind == 3) = true,
    Fn Tryd.prog 118 [(false, E9 s_)] (E4 r4) [],
    (true || ((E4 r4).nv && nvL [])) = true,
    r4 = false,
    r4 = false,
    r4 = false,
    r4 = false,
    r4 = false,
    r4 = false]) (by kernel_rfl) (cj h2 (cj h5 (cj h8 (cj (impl_Digits_ok s_ r4 h9) (cj rfl (cj h10 (cj h10 (cj h10 (cj h10 (cj h10 (cj1 h10))))))))))))))) (fun h8 =>
   Pn.bind (fun r6 h13 =>
   Pn.ite (fun h14 =>
   Pn.bind (fun r7 h15 =>
   Pn.ite (fun h16 =>
   Pn.bind (fun r8 h17 =>
   Pn.some (JnO.of [.bit false, .bit false, .bit false, .mask [1, 5, 9], .ren [0], .join 5 (X.go) (st 55 [(1, V.sc (.string s_)), (5, V.ptr 0 0), (43, V.sc (.bool r6))] [Blk.box 127 [V.sc (.int .i64 r1.no), V.sc (.int .i64 r1.kind), V.sc (.int .i64 r1.size)]] []), .bit true, .call [] (E4 r7) [], .bit true, .bit true, .bit true, .bit true, .bit true, .call [] (E4 r8) [], .bit true, .wait 2, .mask [4], .ren []] (p := [(r1.kind == 1) = false,
    (r1.kind == 2) = false,
    (r1.kind == 3) = false,
    HT Tryd.prog (sub (codeOf Tryd.prog 93) [1, 1, 0, 1, 0, 1, 1, 1, 1, 1, 1, 0]) (st 55 [(1, V.sc (.string s_)), (5, V.ptr 0 0), (9, V.sc (.int .i64 r1.kind))] [Blk.box 127 [V.sc (.int .i64 r1.no), V.sc (.int .i64 r1.kind), V.sc (.int .i64 r1.size)]] []) (X.go) (st 55 [(1, V.sc (.string s_)), (5, V.ptr 0 0), (43, V.sc (.bool r6))] [Blk.box 127 [V.sc (.int .i64 r1.no), V.sc (.int .i64 r1.kind), V.sc (.int .i64 r1.size)]] []),
    r6 = true,
    Fn Tryd.prog 127 [(false, E9 s_)] (E4 r7) [],
    (true || ((E4 r7).nv && nvL [])) = true,
    r7 = true,
    r7 = true,
    r7 = true,
    r7 = true,
    r7 = true,
    Fn Tryd.prog 83 [(false, E3 (s_.size : Int)), (false, E3 1), (false, E3 r1.size)] (E4 r8) [],
    (true || ((E4 r8).nv && nvL [])) = true,
    r7 = true]) (by kernel_rfl) (cj h2 (cj h5 (cj h8 (cj (impl_FieldOk_c1_ok s_ r1 r6 h13) (cj h14 (cj (impl_Printable_ok s_ r7 h15) (cj rfl (cj h16 (cj h16 (cj h16 (cj h16 (cj h16 (cj (impl_within_ok (s_.size : Int) 1 r1.size r8 h17) (cj rfl (cj1 h16)))))))))))))))))) (fun h16 =>
   Pn.some (JnO.of [.bit false, .bit false, .bit false, .mask [1, 5, 9], .ren [0], .join 5 (X.go) (st 55 [(1, V.sc (.string s_)), (5, V.ptr 0 0), (43, V.sc (.bool r6))] [Blk.box 127 [V.sc (.int .i64 r1.no), V.sc (.int .i64 r1.kind), V.sc (.int .i64 r1.size)]] []), .bit true, .call [] (E4 r7) [], .bit false, .bit false, .bit false, .bit false, .bit false, .bit false, .wait 2, .mask [4], .ren []] (p := [(r1.kind == 1) = false,
    (r1.kind == 2) = false,
    (r1.kind == 3) = false,
    HT Tryd.prog (sub (codeOf Tryd.prog 93) [1, 1, 0, 1, 0, 1, 1, 1, 1, 1, 1, 0]) (st 55 [(1, V.sc (.string s_)), (5, V.ptr 0 0), (9, V.sc (.int .i64 r1.kind))] [Blk.box 127 [V.sc (.int .i64 r1.no), V.sc (.int .i64 r1.kind), V.sc (.int .i64 r1.size)]] []) (X.go) (st 55 [(1, V.sc (.string s_)), (5, V.ptr 0 0), (43, V.sc (.bool r6))] [Blk.box 127 [V.sc (.int .i64 r1.no), V.sc (.int .i64 r1.kind), V.sc (.int .i64 r1.size)]] []),
    r6 = true,
    Fn Tryd.prog 127 [(false, E9 s_)] (E4 r7) [],
    (true || ((E4 r7).nv && nvL [])) = true,
    r7 = false,
    r7 = false,
    r7 = false,
    r7 = false,
    r7 = false,
    r7 = false]) (by kernel_rfl) (cj h2 (cj h5 (cj h8 (cj (impl_FieldOk_c1_ok s_ r1 r6 h13) (cj h14 (cj (impl_Printable_ok s_ r7 h15) (cj rfl (cj h16 (cj h16 (cj h16 (cj h16 (cj h16 (cj1 h16))))))))))))))))) (fun h14 =>
   Pn.some (JnO.of [.bit false, .bit false, .bit false, .mask [1, 5, 9], .ren [0], .join 5 (X.go) (st 55 [(1, V.sc (.string s_)), (5, V.ptr 0 0), (43, V.sc (.bool r6))] [Blk.box 127 [V.sc (.int .i64 r1.no), V.sc (.int .i64 r1.kind), V.sc (.int .i64 r1.size)]] []), .bit false, .mask [], .ren []] (p := [(r1.kind == 1) = false,
    (r1.kind == 2) = false,
    (r1.kind == 3) = false,
    HT Tryd.prog (sub (codeOf Tryd.prog 93) [1, 1, 0, 1, 0, 1, 1, 1, 1, 1, 1, 0]) (st 55 [(1, V.sc (.string s_)), (5, V.ptr 0 0), (9, V.sc (.int .i64 r1.kind))] [Blk.box 127 [V.sc (.int .i64 r1.no), V.sc (.int .i64 r1.kind), V.sc (.int .i64 r1.size)]] []) (X.go) (st 55 [(1, V.sc (.string s_)), (5, V.ptr 0 0), (43, V.sc (.bool r6))] [Blk.box 127 [V.sc (.int .i64 r1.no), V.sc (.int .i64 r1.kind), V.sc (.int .i64 r1.size)]] []),
    r6 = false]) (by kernel_rfl) (cj h2 (cj h5 (cj h8 (cj (impl_FieldOk_c1_ok s_ r1 r6 h13) (cj1 h14)))))))))))
def impl_FieldOk (no : Int) (s_ : ByteArray) : Option (Bool) :=
 (impl_rowOf no).bind fun r1 =>
 (impl_FieldOk_c0 s_ r1).bind fun r9 =>
 Lo.elim r9 (fun s1 =>
 some false) (fun s2 =>
 some s2)
theorem impl_FieldOk_ok (no : Int) (s_ : ByteArray) : Pn (fun y => Fn Tryd.prog 93 [(false, E3 no), (false, E9 s_)] (E4 y) []) (impl_FieldOk no s_) := by
  unfold impl_FieldOk
  exact
   Pn.bind (fun r1 h1 =>
   Pn.bind (fun r9 h18 =>
   Pn.lo (fun s1 h19 =>
   Pn.some (Fn.of [.call [] (E127 r1) [], .wait 3, .mask [1, 5], .ren [0], .join 32 (X.go) (st 55 [] [] [])] (p := [Fn Tryd.prog 126 [(false, E3 no)] (E127 r1) [],
    (true || ((E127 r1).nv && nvL [])) = true,
    HT Tryd.prog (sub (codeOf Tryd.prog 93) [1, 1, 0]) (st 55 [(1, V.sc (.string s_)), (5, V.ptr 0 0)] [Blk.box 127 [V.sc (.int .i64 r1.no), V.sc (.int .i64 r1.kind), V.sc (.int .i64 r1.size)]] []) (X.go) (st 55 [] [] [])]) (by kernel_rfl) (cj (impl_rowOf_ok no r1 h1) (cj rfl (cj1 ((impl_FieldOk_c0_ok s_ r1 r9 h18).at h19)))))) (fun s2 h20 =>
   Pn.some (Fn.of [.call [] (E127 r1) [], .wait 3, .mask [1, 5], .ren [0], .join 32 (X.ret) (st 55 [(4, V.sc (.bool s2))] [] [])] (p := [Fn Tryd.prog 126 [(false, E3 no)] (E127 r1) [],
    (true || ((E127 r1).nv && nvL [])) = true,
    HT Tryd.prog (sub (codeOf Tryd.prog 93) [1, 1, 0]) (st 55 [(1, V.sc (.string s_)), (5, V.ptr 0 0)] [Blk.box 127 [V.sc (.int .i64 r1.no), V.sc (.int .i64 r1.kind), V.sc (.int .i64 r1.size)]] []) (X.ret) (st 55 [(4, V.sc (.bool s2))] [] [])]) (by kernel_rfl) (cj (impl_rowOf_ok no r1 h1) (cj rfl (cj1 ((impl_FieldOk_c0_ok s_ r1 r9 h18).at h20))))))))
def impl_isWide (s_ : ByteArray) (n : Int) : Option (Bool) :=
 (impl_Digits s_).bind fun r1 =>
 if r1 = true then
 some ((s_.size : Int) == n)
 else
 some false
theorem impl_isWide_ok (s_ : ByteArray) (n : Int) : Pn (fun y => Fn Tryd.prog 81 [(false, E9 s_), (false, E3 n)] (E4 y) []) (impl_isWide s_ n) := by
  unfold impl_isWide
  exact
   Pn.bind (fun r1 h1 =>
   Pn.ite (fun h2 =>
   Pn.some (Fn.of [.call [] (E4 r1) [], .bit true, .bit true, .bit true, .bit true, .bit true] (p := [Fn Tryd.prog 118 [(false, E9 s_)] (E4 r1) [],
    (true || ((E4 r1).nv && nvL [])) = true,
    r1 = true,
    r1 = true,
    r1 = true,
    r1 = true,
    r1 = true]) (by kernel_rfl) (cj (impl_Digits_ok s_ r1 h1) (cj rfl (cj h2 (cj h2 (cj h2 (cj h2 (cj1 h2))))))))) (fun h2 =>
   Pn.some (Fn.of [.call [] (E4 r1) [], .bit false, .bit false, .bit false, .bit false, .bit false] (p := [Fn Tryd.prog 118 [(false, E9 s_)] (E4 r1) [],
    (true || ((E4 r1).nv && nvL [])) = true,
    r1 = false,
    r1 = false,
    r1 = false,
    r1 = false,
    r1 = false]) (by kernel_rfl) (cj (impl_Digits_ok s_ r1 h1) (cj rfl (cj h2 (cj h2 (cj h2 (cj h2 (cj1 h2))))))))))
def impl_MsgOk_c2 (m : Msg) (v1 : Int) : Option (Lo Unit Unit) :=
 if (decide (v1 < (m.List.length : Int))) = true then
 some (.out ())
 else
 some (.ret ())
theorem impl_MsgOk_c2_ok (m : Msg) (v1 : Int) : Pn (JnO Tryd.prog (sub (codeOf Tryd.prog 45) [1, 0, 1, 0, 0, 1, 0]) (st 39 [(1, V.ptr 0 0), (6, V.sl false 71 (List.map E71 m.List)), (7, V.sc (.int .i64 (m.List.length : Int))), (8, V.sc (.int .i64 v1)), (9, V.sc (.bool (decide (v1 < (m.List.length : Int)))))] [Blk.box 36 [V.sc (.string m.Mti), V.sl false 71 (List.map E71 m.List)]] []) (fun (y : Lo Unit Unit) => Lo.elim y (fun s => (X.go, st 39 [(1, V.ptr 0 0), (6, V.sl false 71 (List.map E71 m.List)), (7, V.sc (.int .i64 (m.List.length : Int))), (8, V.sc (.int .i64 v1))] [Blk.box 36 [V.sc (.string m.Mti), V.sl false 71 (List.map E71 m.List)]] [])) (fun s => (X.out 0, st 39 [(1, V.ptr 0 0)] [Blk.box 36 [V.sc (.string m.Mti), V.sl false 71 (List.map E71 m.List)]] [])))) (impl_MsgOk_c2 m v1) := by
  unfold impl_MsgOk_c2
  exact
   Pn.ite (fun h1 =>
   Pn.some (JnO.of [.bit true, .mask [1, 6, 7, 8], .ren [0]] (p := [(decide (v1 < (m.List.length : Int))) = true]) (by kernel_rfl) (cj1 h1))) (fun h1 =>
   Pn.some (JnO.of [.bit false, .mask [1], .ren [0]] (p := [(decide (v1 < (m.List.length : Int))) = false]) (by kernel_rfl) (cj1 h1)))
def impl_MsgOk_c3 (m : Msg) (v1 : Int) : Option (Lo Unit Unit) :=
 if (decide (0 ≤ v1)) = true then
 (m.List[v1.toNat]?).bind fun x1 =>
 (impl_FieldOk x1.No x1.Text).bind fun r2 =>
 if r2 = true then
 if (decide (0 < v1)) = true then
 if (decide (0 ≤ (i64 (v1 - 1)))) = true then
 (m.List[(i64 (v1 - 1)).toNat]?).bind fun x2 =>
 if (decide (x1.No ≤ x2.No)) = true then
 some (.ret ())
 else
 some (.out ())
 else none
 else
 some (.out ())
 else
 some (.ret ())
 else none
theorem impl_MsgOk_c3_ok (m : Msg) (v1 : Int) : Pn (JnO Tryd.prog (sub (codeOf Tryd.prog 45) [1, 0, 1, 0, 0, 1, 1, 0]) (st 39 [(1, V.ptr 0 0), (6, V.sl false 71 (List.map E71 m.List)), (7, V.sc (.int .i64 (m.List.length : Int))), (8, V.sc (.int .i64 v1))] [Blk.box 36 [V.sc (.string m.Mti), V.sl false 71 (List.map E71 m.List)]] []) (fun (y : Lo Unit Unit) => Lo.elim y (fun s => (X.go, st 39 [(1, V.ptr 0 0), (6, V.sl false 71 (List.map E71 m.List)), (7, V.sc (.int .i64 (m.List.length : Int))), (8, V.sc (.int .i64 v1))] [Blk.box 36 [V.sc (.string m.Mti), V.sl false 71 (List.map E71 m.List)]] [])) (fun s => (X.ret, st 39 [(2, V.sc (.bool false))] [] [])))) (impl_MsgOk_c3 m v1) := by
  unfold impl_MsgOk_c3
  exact
   Pn.ite (fun h5 =>
   Pn.bind (fun x1 h6 =>
   Pn.bind (fun r2 h7 =>
   Pn.ite (fun h8 =>
   Pn.ite (fun h9 =>
   Pn.ite (fun h10 =>
   Pn.bind (fun x2 h11 =>
   Pn.ite (fun h12 =>
   Pn.some (JnO.of [.el (E71 x1), .draw [], .call [] (E4 r2) [], .bit false, .bit false, .bit false, .bit true, .bit true, .bit true, .bit true, .bit true, .bit true, .bit true, .el (E71 x2), .bit true, .bit true, .bit true, .bit false, .bit true, .bit false, .bit true, .wait 1, .mask [2], .ren []] (p := [(0 : Int) ≤ v1,
    (List.map E71 m.List)[v1.toNat]? = some (E71 x1),
    Fn Tryd.prog 93 [(false, E3 x1.No), (false, E9 x1.Text)] (E4 r2) [],
    (true || ((E4 r2).nv && nvL [])) = true,
    (!r2) = false,
    (!r2) = false,
    (!r2) = false,
    (decide (0 < v1)) = true,
    (decide (0 < v1)) = true,
    (decide (0 < v1)) = true,
    (decide (0 < v1)) = true,
    (decide (0 < v1)) = true,
    (decide (0 < v1)) = true,
    (decide (0 < v1)) = true,
    (0 : Int) ≤ (i64 (v1 - 1)),
    (List.map E71 m.List)[(i64 (v1 - 1)).toNat]? = some (E71 x2),
    (decide (0 < v1)) = true,
    (decide (0 < v1)) = true,
    (decide (0 < v1)) = true,
    (!r2) = false,
    (decide (0 < v1)) = true,
    (!r2) = false,
    (decide (x1.No ≤ x2.No)) = true]) (by kernel_rfl) (cj (od h5) (cj (map_get h6) (cj (impl_FieldOk_ok x1.No x1.Text r2 h7) (cj rfl (cj (nf h8) (cj (nf h8) (cj (nf h8) (cj h9 (cj h9 (cj h9 (cj h9 (cj h9 (cj h9 (cj h9 (cj (od h10) (cj (map_get h11) (cj h9 (cj h9 (cj h9 (cj (nf h8) (cj h9 (cj (nf h8) (cj1 h12))))))))))))))))))))))))) (fun h12 =>
   Pn.some (JnO.of [.el (E71 x1), .draw [], .call [] (E4 r2) [], .bit false, .bit false, .bit false, .bit true, .bit true, .bit true, .bit true, .bit true, .bit true, .bit true, .el (E71 x2), .bit true, .bit true, .bit true, .bit false, .bit true, .bit false, .bit false, .mask [1, 6, 7, 8], .ren [0]] (p := [(0 : Int) ≤ v1,
    (List.map E71 m.List)[v1.toNat]? = some (E71 x1),
    Fn Tryd.prog 93 [(false, E3 x1.No), (false, E9 x1.Text)] (E4 r2) [],
    (true || ((E4 r2).nv && nvL [])) = true,
    (!r2) = false,
    (!r2) = false,
    (!r2) = false,
    (decide (0 < v1)) = true,
    (decide (0 < v1)) = true,
    (decide (0 < v1)) = true,
    (decide (0 < v1)) = true,
    (decide (0 < v1)) = true,
    (decide (0 < v1)) = true,
    (decide (0 < v1)) = true,
    (0 : Int) ≤ (i64 (v1 - 1)),
    (List.map E71 m.List)[(i64 (v1 - 1)).toNat]? = some (E71 x2),
    (decide (0 < v1)) = true,
    (decide (0 < v1)) = true,
    (decide (0 < v1)) = true,
    (!r2) = false,
    (decide (0 < v1)) = true,
    (!r2) = false,
    (decide (x1.No ≤ x2.No)) = false]) (by kernel_rfl) (cj (od h5) (cj (map_get h6) (cj (impl_FieldOk_ok x1.No x1.Text r2 h7) (cj rfl (cj (nf h8) (cj (nf h8) (cj (nf h8) (cj h9 (cj h9 (cj h9 (cj h9 (cj h9 (cj h9 (cj h9 (cj (od h10) (cj (map_get h11) (cj h9 (cj h9 (cj h9 (cj (nf h8) (cj h9 (cj (nf h8) (cj1 h12))))))))))))))))))))))))))) (fun h10 =>
   Pn.none)) (fun h9 =>
   Pn.some (JnO.of [.el (E71 x1), .draw [], .call [] (E4 r2) [], .bit false, .bit false, .bit false, .bit false, .bit false, .bit false, .bit false, .bit false, .bit false, .bit false, .bit false, .bit false, .bit false, .bit false, .bit false, .bit false, .bit false, .mask [1, 6, 7, 8], .ren [0]] (p := [(0 : Int) ≤ v1,
    (List.map E71 m.List)[v1.toNat]? = some (E71 x1),
    Fn Tryd.prog 93 [(false, E3 x1.No), (false, E9 x1.Text)] (E4 r2) [],
    (true || ((E4 r2).nv && nvL [])) = true,
    (!r2) = false,
    (!r2) = false,
    (!r2) = false,
    (decide (0 < v1)) = false,
    (decide (0 < v1)) = false,
    (decide (0 < v1)) = false,
    (decide (0 < v1)) = false,
    (decide (0 < v1)) = false,
    (decide (0 < v1)) = false,
    (decide (0 < v1)) = false,
    (decide (0 < v1)) = false,
    (decide (0 < v1)) = false,
    (decide (0 < v1)) = false,
    (!r2) = false,
    (decide (0 < v1)) = false,
    (!r2) = false,
    false = false]) (by kernel_rfl) (cj (od h5) (cj (map_get h6) (cj (impl_FieldOk_ok x1.No x1.Text r2 h7) (cj rfl (cj (nf h8) (cj (nf h8) (cj (nf h8) (cj h9 (cj h9 (cj h9 (cj h9 (cj h9 (cj h9 (cj h9 (cj h9 (cj h9 (cj h9 (cj (nf h8) (cj h9 (cj (nf h8) (cj1 rfl)))))))))))))))))))))))) (fun h8 =>
   Pn.some (JnO.of [.el (E71 x1), .draw [], .call [] (E4 r2) [], .bit true, .bit true, .bit true, .bit true, .bit true, .bit true, .wait 1, .mask [2], .ren []] (p := [(0 : Int) ≤ v1,
    (List.map E71 m.List)[v1.toNat]? = some (E71 x1),
    Fn Tryd.prog 93 [(false, E3 x1.No), (false, E9 x1.Text)] (E4 r2) [],
    (true || ((E4 r2).nv && nvL [])) = true,
    (!r2) = true,
    (!r2) = true,
    (!r2) = true,
    (!r2) = true,
    (!r2) = true,
    true = true]) (by kernel_rfl) (cj (od h5) (cj (map_get h6) (cj (impl_FieldOk_ok x1.No x1.Text r2 h7) (cj rfl (cj (nt h8) (cj (nt h8) (cj (nt h8) (cj (nt h8) (cj (nt h8) (cj1 rfl))))))))))))))) (fun h5 =>
   Pn.none)
def impl_MsgOk_l0 (m : Msg) : Nat → Int → Option (Lo Unit Unit)
  | 0, _ => none
  | fuel + 1, v1 =>
   (impl_MsgOk_c2 m v1).bind fun r1 =>
   Lo.elim r1 (fun s1 =>
   (impl_MsgOk_c3 m v1).bind fun r3 =>
   Lo.elim r3 (fun s3 =>
   impl_MsgOk_l0 m fuel (i64 (v1 + 1))) (fun s4 =>
   some (.ret ()))) (fun s2 =>
   some (.out ()))
theorem impl_MsgOk_l0_ok (m : Msg) : ∀ (fuel : Nat) (v1 : Int), Pn (LpO Tryd.prog (sub (codeOf Tryd.prog 45) [1, 0, 1, 0, 0]) (st 39 [(1, V.ptr 0 0), (6, V.sl false 71 (List.map E71 m.List)), (7, V.sc (.int .i64 (m.List.length : Int))), (8, V.sc (.int .i64 v1))] [Blk.box 36 [V.sc (.string m.Mti), V.sl false 71 (List.map E71 m.List)]] []) (fun (y : Lo Unit Unit) => Lo.elim y (fun s => (X.out 0, st 39 [(1, V.ptr 0 0)] [Blk.box 36 [V.sc (.string m.Mti), V.sl false 71 (List.map E71 m.List)]] [])) (fun s => (X.ret, st 39 [(2, V.sc (.bool false))] [] [])))) (impl_MsgOk_l0 m fuel v1)
  | 0, _ => Pn.none
  | fuel + 1, v1 => by
    unfold impl_MsgOk_l0
    exact
     Pn.bind (fun r1 h2 =>
     Pn.lo (fun s1 h3 =>
     Pn.bind (fun r3 h13 =>
     Pn.lo (fun s3 h14 =>
     LpO.go [.wait 2, .mask [1, 6, 7, 8, 9], .ren [0], .join 3 (X.go) (st 39 [(1, V.ptr 0 0), (6, V.sl false 71 (List.map E71 m.List)), (7, V.sc (.int .i64 (m.List.length : Int))), (8, V.sc (.int .i64 v1))] [Blk.box 36 [V.sc (.string m.Mti), V.sl false 71 (List.map E71 m.List)]] []), .wait 1, .mask [1, 6, 7, 8], .ren [0], .join 10 (X.go) (st 39 [(1, V.ptr 0 0), (6, V.sl false 71 (List.map E71 m.List)), (7, V.sc (.int .i64 (m.List.length : Int))), (8, V.sc (.int .i64 v1))] [Blk.box 36 [V.sc (.string m.Mti), V.sl false 71 (List.map E71 m.List)]] []), .wait 3, .mask [1, 6, 7, 8], .ren [0]] (p := [HT Tryd.prog (sub (codeOf Tryd.prog 45) [1, 0, 1, 0, 0, 1, 0]) (st 39 [(1, V.ptr 0 0), (6, V.sl false 71 (List.map E71 m.List)), (7, V.sc (.int .i64 (m.List.length : Int))), (8, V.sc (.int .i64 v1)), (9, V.sc (.bool (decide (v1 < (m.List.length : Int)))))] [Blk.box 36 [V.sc (.string m.Mti), V.sl false 71 (List.map E71 m.List)]] []) (X.go) (st 39 [(1, V.ptr 0 0), (6, V.sl false 71 (List.map E71 m.List)), (7, V.sc (.int .i64 (m.List.length : Int))), (8, V.sc (.int .i64 v1))] [Blk.box 36 [V.sc (.string m.Mti), V.sl false 71 (List.map E71 m.List)]] []),
      HT Tryd.prog (sub (codeOf Tryd.prog 45) [1, 0, 1, 0, 0, 1, 1, 0]) (st 39 [(1, V.ptr 0 0), (6, V.sl false 71 (List.map E71 m.List)), (7, V.sc (.int .i64 (m.List.length : Int))), (8, V.sc (.int .i64 v1))] [Blk.box 36 [V.sc (.string m.Mti), V.sl false 71 (List.map E71 m.List)]] []) (X.go) (st 39 [(1, V.ptr 0 0), (6, V.sl false 71 (List.map E71 m.List)), (7, V.sc (.int .i64 (m.List.length : Int))), (8, V.sc (.int .i64 v1))] [Blk.box 36 [V.sc (.string m.Mti), V.sl false 71 (List.map E71 m.List)]] [])]) (by kernel_rfl) (cj ((impl_MsgOk_c2_ok m v1 r1 h2).at h3) (cj1 ((impl_MsgOk_c3_ok m v1 r3 h13).at h14))) (impl_MsgOk_l0_ok m fuel (i64 (v1 + 1)))) (fun s4 h15 =>
     Pn.some (LpO.out [.wait 2, .mask [1, 6, 7, 8, 9], .ren [0], .join 3 (X.go) (st 39 [(1, V.ptr 0 0), (6, V.sl false 71 (List.map E71 m.List)), (7, V.sc (.int .i64 (m.List.length : Int))), (8, V.sc (.int .i64 v1))] [Blk.box 36 [V.sc (.string m.Mti), V.sl false 71 (List.map E71 m.List)]] []), .wait 1, .mask [1, 6, 7, 8], .ren [0], .join 10 (X.ret) (st 39 [(2, V.sc (.bool false))] [] []), .wait 1, .mask [2], .ren []] (p := [HT Tryd.prog (sub (codeOf Tryd.prog 45) [1, 0, 1, 0, 0, 1, 0]) (st 39 [(1, V.ptr 0 0), (6, V.sl false 71 (List.map E71 m.List)), (7, V.sc (.int .i64 (m.List.length : Int))), (8, V.sc (.int .i64 v1)), (9, V.sc (.bool (decide (v1 < (m.List.length : Int)))))] [Blk.box 36 [V.sc (.string m.Mti), V.sl false 71 (List.map E71 m.List)]] []) (X.go) (st 39 [(1, V.ptr 0 0), (6, V.sl false 71 (List.map E71 m.List)), (7, V.sc (.int .i64 (m.List.length : Int))), (8, V.sc (.int .i64 v1))] [Blk.box 36 [V.sc (.string m.Mti), V.sl false 71 (List.map E71 m.List)]] []),
      HT Tryd.prog (sub (codeOf Tryd.prog 45) [1, 0, 1, 0, 0, 1, 1, 0]) (st 39 [(1, V.ptr 0 0), (6, V.sl false 71 (List.map E71 m.List)), (7, V.sc (.int .i64 (m.List.length : Int))), (8, V.sc (.int .i64 v1))] [Blk.box 36 [V.sc (.string m.Mti), V.sl false 71 (List.map E71 m.List)]] []) (X.ret) (st 39 [(2, V.sc (.bool false))] [] [])]) (by kernel_rfl) (show X.ret ≠ X.go from nofun) (cj ((impl_MsgOk_c2_ok m v1 r1 h2).at h3) (cj1 ((impl_MsgOk_c3_ok m v1 r3 h13).at h15))))))) (fun s2 h4 =>
     Pn.some (LpO.out [.wait 2, .mask [1, 6, 7, 8, 9], .ren [0], .join 3 (X.out 0) (st 39 [(1, V.ptr 0 0)] [Blk.box 36 [V.sc (.string m.Mti), V.sl false 71 (List.map E71 m.List)]] []), .wait 1, .mask [1], .ren [0]] (p := [HT Tryd.prog (sub (codeOf Tryd.prog 45) [1, 0, 1, 0, 0, 1, 0]) (st 39 [(1, V.ptr 0 0), (6, V.sl false 71 (List.map E71 m.List)), (7, V.sc (.int .i64 (m.List.length : Int))), (8, V.sc (.int .i64 v1)), (9, V.sc (.bool (decide (v1 < (m.List.length : Int)))))] [Blk.box 36 [V.sc (.string m.Mti), V.sl false 71 (List.map E71 m.List)]] []) (X.out 0) (st 39 [(1, V.ptr 0 0)] [Blk.box 36 [V.sc (.string m.Mti), V.sl false 71 (List.map E71 m.List)]] [])]) (by kernel_rfl) (show X.out 0 ≠ X.go from nofun) (cj1 ((impl_MsgOk_c2_ok m v1 r1 h2).at h4)))))
def impl_MsgOk (m : Msg) : Option (Bool) :=
 (impl_MsgOk_l0 m FUEL 0).bind fun r4 =>
 Lo.elim r4 (fun s5 =>
 (impl_isWide m.Mti 4).bind fun r5 =>
 some r5) (fun s6 =>
 some false)
theorem impl_MsgOk_ok (m : Msg) : Pn (fun y => Fn Tryd.prog 45 [(false, E36 m)] (E4 y) []) (impl_MsgOk m) := by
  unfold impl_MsgOk
  exact
   Pn.bind (fun r4 h16 =>
   Pn.lo (fun s5 h17 =>
   Pn.bind (fun r5 h19 =>
   Pn.some (Fn.of [.wait 5, .nm 7 (V.sc (.int .i64 (m.List.length : Int))), .wait 2, .mask [1, 6, 7, 8], .ren [0], .loop (X.out 0) (st 39 [(1, V.ptr 0 0)] [Blk.box 36 [V.sc (.string m.Mti), V.sl false 71 (List.map E71 m.List)]] []), .call [] (E4 r5) []] (p := [V.sc (.int .i64 ((List.map E71 m.List).length : Int)) = V.sc (.int .i64 (m.List.length : Int)),
    Loop Tryd.prog (sub (codeOf Tryd.prog 45) [1, 0, 1, 0, 0]) (st 39 [(1, V.ptr 0 0), (6, V.sl false 71 (List.map E71 m.List)), (7, V.sc (.int .i64 (m.List.length : Int))), (8, V.sc (.int .i64 0))] [Blk.box 36 [V.sc (.string m.Mti), V.sl false 71 (List.map E71 m.List)]] []) (X.out 0) (st 39 [(1, V.ptr 0 0)] [Blk.box 36 [V.sc (.string m.Mti), V.sl false 71 (List.map E71 m.List)]] []),
    Fn Tryd.prog 81 [(false, E9 m.Mti), (false, E3 4)] (E4 r5) [],
    (true || ((E4 r5).nv && nvL [])) = true]) (by kernel_rfl) (cj (len_nm _ _) (cj ((impl_MsgOk_l0_ok m FUEL 0 r4 h16).at h17) (cj (impl_isWide_ok m.Mti 4 r5 h19) (cj1 rfl))))))) (fun s6 h18 =>
   Pn.some (Fn.of [.wait 5, .nm 7 (V.sc (.int .i64 (m.List.length : Int))), .wait 2, .mask [1, 6, 7, 8], .ren [0], .loop (X.ret) (st 39 [(2, V.sc (.bool false))] [] [])] (p := [V.sc (.int .i64 ((List.map E71 m.List).length : Int)) = V.sc (.int .i64 (m.List.length : Int)),
    Loop Tryd.prog (sub (codeOf Tryd.prog 45) [1, 0, 1, 0, 0]) (st 39 [(1, V.ptr 0 0), (6, V.sl false 71 (List.map E71 m.List)), (7, V.sc (.int .i64 (m.List.length : Int))), (8, V.sc (.int .i64 0))] [Blk.box 36 [V.sc (.string m.Mti), V.sl false 71 (List.map E71 m.List)]] []) (X.ret) (st 39 [(2, V.sc (.bool false))] [] [])]) (by kernel_rfl) (cj (len_nm _ _) (cj1 ((impl_MsgOk_l0_ok m FUEL 0 r4 h16).at h18))))))
def impl_isMoney (n : Int) : Option (Bool) :=
 (impl_within n 0 4611686018427387904).bind fun r1 =>
 some r1
theorem impl_isMoney_ok (n : Int) : Pn (fun y => Fn Tryd.prog 85 [(false, E3 n)] (E4 y) []) (impl_isMoney n) := by
  unfold impl_isMoney
  exact
   Pn.bind (fun r1 h1 =>
   Pn.some (Fn.of [.call [] (E4 r1) []] (p := [Fn Tryd.prog 83 [(false, E3 n), (false, E3 0), (false, E3 4611686018427387904)] (E4 r1) [],
    (true || ((E4 r1).nv && nvL [])) = true]) (by kernel_rfl) (cj (impl_within_ok n 0 4611686018427387904 r1 h1) (cj1 rfl))))
def strconv_Itoa (i : Int) : Option ByteArray := if (decide (-9223372036854775808 ≤ i) && decide (i ≤ 9223372036854775807)) = true then some ⟨(Lib.itoa i).toArray⟩ else none
theorem strconv_Itoa_ok (i : Int) : Pn (fun y => Fn Tryd.prog 86 [(false, E3 i)] (E9 y) []) (strconv_Itoa i) := by
  unfold strconv_Itoa
  exact Pn.ite (fun h => Pn.some (Fn.flat [.int .i64 i] (by kernel_rfl) rfl fun w hw => by
    simp only [Bool.and_eq_true, decide_eq_true_eq] at h
    obtain ⟨cs, t, z, e1, e2⟩ := hw _ (List.Mem.head _)
    exact (Go.Proofs.Any.strconv_Itoa Tryd.laysM171 i h.1 h.2 w (tab_of (by kernel_rfl) e1 e2)).mono fun e w2 ⟨h1, k, os, h2⟩ => ⟨h1, h2 ▸ Lib.below_grow _ w (Nat.le_refl _) k os⟩)) (fun _ => Pn.none)
def impl_NumText (n : Int) : Option (ByteArray) :=
 (impl_isMoney n).bind fun r1 =>
 if r1 = true then
 (strconv_Itoa n).bind fun r2 =>
 some r2
 else
 some (bs [])
theorem impl_NumText_ok (n : Int) : Pn (fun y => Fn Tryd.prog 40 [(false, E3 n)] (E9 y) []) (impl_NumText n) := by
  unfold impl_NumText
  exact
   Pn.bind (fun r1 h1 =>
   Pn.ite (fun h2 =>
   Pn.bind (fun r2 h3 =>
   Pn.some (Fn.of [.call [] (E4 r1) [], .bit false, .call [] (E9 r2) []] (p := [Fn Tryd.prog 85 [(false, E3 n)] (E4 r1) [],
    (true || ((E4 r1).nv && nvL [])) = true,
    (!r1) = false,
    Fn Tryd.prog 86 [(false, E3 n)] (E9 r2) [],
    (true || ((E9 r2).nv && nvL [])) = true]) (by kernel_rfl) (cj (impl_isMoney_ok n r1 h1) (cj rfl (cj (nf h2) (cj (strconv_Itoa_ok n r2 h3) (cj1 rfl)))))))) (fun h2 =>
   Pn.some (Fn.of [.call [] (E4 r1) [], .bit true] (p := [Fn Tryd.prog 85 [(false, E3 n)] (E4 r1) [],
    (true || ((E4 r1).nv && nvL [])) = true,
    (!r1) = true]) (by kernel_rfl) (cj (impl_isMoney_ok n r1 h1) (cj rfl (cj1 (nt h2)))))))
def strings_ReplaceAll (s_ : ByteArray) (old : ByteArray) (new : ByteArray) : Option (ByteArray) := if (decide (s_.size < 4294967281) && decide (1 ≤ old.size) && decide (s_.size + Lib.countB s_ old * new.size ≤ 140737488355328)) = true then some (replP s_ old new) else none
theorem strings_ReplaceAll_ok (s_ : ByteArray) (old : ByteArray) (new : ByteArray) : Pn (fun y => Fn Tryd.prog 46 [(false, E9 s_), (false, E9 old), (false, E9 new)] (E9 y) []) (strings_ReplaceAll s_ old new) := by
  unfold strings_ReplaceAll
  exact Pn.ite (fun h => Pn.some (by
    simp only [Bool.and_eq_true, decide_eq_true_eq] at h
    exact Fn.flat [(.string s_), (.string old), (.string new)] (by kernel_rfl) rfl (fun w hw => by
      obtain ⟨mv, hm, mz, rfl⟩ := glob_cell hw (b := 0) (List.Mem.tail _ (List.Mem.head _)) (v := fun u => ∃ z, u = Value.int .i64 z) (fun cs ⟨z, hz⟩ => ⟨_, hz, z, rfl⟩)
      exact Go.Proofs.Any.strings_ReplaceAll Tryd.lays155 Tryd.Builder_Extra_155 s_ old new mz w (by omega) hm h.1.2 h.2))) (fun _ => Pn.none)
def impl_MsgShow_l0 (m : Msg) : List Field → ByteArray → Option (ByteArray)
  | [], v1 =>
   some v1
  | x1 :: t1, v1 =>
   (impl_NumText x1.No).bind fun r2 =>
   if (decide ((bs [32]).size + r2.size ≤ 9223372036854775807)) = true then
   if (decide (((bs [32]) ++ r2).size + (bs [61]).size ≤ 9223372036854775807)) = true then
   (strings_ReplaceAll x1.Text (bs [32]) (bs [95])).bind fun r3 =>
   if (decide ((((bs [32]) ++ r2) ++ (bs [61])).size + r3.size ≤ 9223372036854775807)) = true then
   if (decide (v1.size + ((((bs [32]) ++ r2) ++ (bs [61])) ++ r3).size ≤ 9223372036854775807)) = true then
   impl_MsgShow_l0 m t1 (v1 ++ ((((bs [32]) ++ r2) ++ (bs [61])) ++ r3))
   else none
   else none
   else none
   else none
theorem impl_MsgShow_l0_ok (m : Msg) (h4 : capOk m.List.length = true) : ∀ (t1 p1 : List Field) (_ : m.List = p1 ++ t1) (v1 : ByteArray), Pn (LpO Tryd.prog (sub (codeOf Tryd.prog 15) [1, 1, 1, 0, 1, 0, 0]) (st 31 [(3, V.sc (.string v1)), (12, V.sl false 71 (List.map E71 m.List)), (13, V.sc (.int .i64 (m.List.length : Int))), (14, V.sc (.int .i64 (p1.length : Int)))] [] []) (fun (y : ByteArray) => (X.out 0, st 31 [(3, V.sc (.string y))] [] []))) (impl_MsgShow_l0 m t1 v1)
  | [], p1, h3, v1 => by
    unfold impl_MsgShow_l0
    exact
     Pn.some (LpO.out [.bit false, .mask [3], .ren []] (p := [(decide ((p1.length : Int) < (m.List.length : Int))) = false]) (by kernel_rfl) (show X.out 0 ≠ X.go from nofun) (cj1 (rng_end h3)))
  | x1 :: t1, p1, h3, v1 => by
    unfold impl_MsgShow_l0
    exact
     Pn.bind (fun r2 h5 =>
     Pn.ite (fun h6 =>
     Pn.ite (fun h7 =>
     Pn.bind (fun r3 h8 =>
     Pn.ite (fun h9 =>
     Pn.ite (fun h10 =>
     LpO.go [.bit true, .el (E71 x1), .draw [], .call [] (E9 r2) [], .call [] (E9 r3) [], .wait 6, .mask [3, 12, 13, 14], .ren [], .nm 14 (V.sc (.int .i64 ((p1 ++ [x1]).length : Int)))] (p := [(decide ((p1.length : Int) < (m.List.length : Int))) = true,
      (0 : Int) ≤ (p1.length : Int),
      (List.map E71 m.List)[(p1.length : Int).toNat]? = some (E71 x1),
      Fn Tryd.prog 40 [(false, E3 x1.No)] (E9 r2) [],
      (true || ((E9 r2).nv && nvL [])) = true,
      (bs [32]).size + r2.size ≤ 9223372036854775807,
      ((bs [32]) ++ r2).size + (bs [61]).size ≤ 9223372036854775807,
      Fn Tryd.prog 46 [(false, E9 x1.Text), (false, E9 (bs [32])), (false, E9 (bs [95]))] (E9 r3) [],
      (true || ((E9 r3).nv && nvL [])) = true,
      (((bs [32]) ++ r2) ++ (bs [61])).size + r3.size ≤ 9223372036854775807,
      v1.size + ((((bs [32]) ++ r2) ++ (bs [61])) ++ r3).size ≤ 9223372036854775807,
      V.sc (.int .i64 (i64 ((p1.length : Int) + 1))) = V.sc (.int .i64 ((p1 ++ [x1]).length : Int))]) (by kernel_rfl) (cj (rng_lt h3) (cj (by omega) (cj (rng_get _ h3) (cj (impl_NumText_ok x1.No r2 h5) (cj rfl (cj (od h6) (cj (od h7) (cj (strings_ReplaceAll_ok x1.Text (bs [32]) (bs [95]) r3 h8) (cj rfl (cj (od h9) (cj (od h10) (cj1 (rng_next h3 h4))))))))))))) (impl_MsgShow_l0_ok m h4 t1 (p1 ++ [x1]) (rng_step h3) (v1 ++ ((((bs [32]) ++ r2) ++ (bs [61])) ++ r3)))) (fun h10 =>
     Pn.none)) (fun h9 =>
     Pn.none))) (fun h7 =>
     Pn.none)) (fun h6 =>
     Pn.none))
def impl_MsgShow (m : Msg) : Option (ByteArray) :=
 (impl_MsgOk m).bind fun r1 =>
 if r1 = true then
 if (capOk m.List.length) = true then
 (impl_MsgShow_l0 m m.List m.Mti).bind fun r4 =>
 some r4
 else none
 else
 some (bs [])
theorem impl_MsgShow_ok (m : Msg) : Pn (fun y => Fn Tryd.prog 15 [(false, E36 m)] (E9 y) []) (impl_MsgShow m) := by
  unfold impl_MsgShow
  exact
   Pn.bind (fun r1 h1 =>
   Pn.ite (fun h2 =>
   Pn.ite (fun h11 =>
   Pn.bind (fun r4 h12 =>
   Pn.some (Fn.of [.call [] (E4 r1) [], .bit false, .wait 5, .nm 13 (V.sc (.int .i64 (m.List.length : Int))), .wait 2, .mask [3, 12, 13, 14], .ren [], .loop (X.out 0) (st 31 [(3, V.sc (.string r4))] [] [])] (p := [Fn Tryd.prog 45 [(false, E36 m)] (E4 r1) [],
    (true || ((E4 r1).nv && nvL [])) = true,
    (!r1) = false,
    V.sc (.int .i64 ((List.map E71 m.List).length : Int)) = V.sc (.int .i64 (m.List.length : Int)),
    Loop Tryd.prog (sub (codeOf Tryd.prog 15) [1, 1, 1, 0, 1, 0, 0]) (st 31 [(3, V.sc (.string m.Mti)), (12, V.sl false 71 (List.map E71 m.List)), (13, V.sc (.int .i64 (m.List.length : Int))), (14, V.sc (.int .i64 0))] [] []) (X.out 0) (st 31 [(3, V.sc (.string r4))] [] [])]) (by kernel_rfl) (cj (impl_MsgOk_ok m r1 h1) (cj rfl (cj (nf h2) (cj (len_nm _ _) (cj1 (impl_MsgShow_l0_ok m h11 m.List [] rfl m.Mti r4 h12))))))))) (fun h11 =>
   Pn.none)) (fun h2 =>
   Pn.some (Fn.of [.call [] (E4 r1) [], .bit true] (p := [Fn Tryd.prog 45 [(false, E36 m)] (E4 r1) [],
    (true || ((E4 r1).nv && nvL [])) = true,
    (!r1) = true]) (by kernel_rfl) (cj (impl_MsgOk_ok m r1 h1) (cj rfl (cj1 (nt h2)))))))
def laws_eqField (a : Field) (b : Field) : Option (Bool) :=
 if (a.No != b.No) = true then
 some false
 else
 if (a.Text == b.Text) = true then
 some true
 else
 some false
theorem laws_eqField_ok (a : Field) (b : Field) : Pn (fun y => Fn Tryd.prog 95 [(false, E71 a), (false, E71 b)] (E4 y) []) (laws_eqField a b) := by
  unfold laws_eqField
  exact
   Pn.ite (fun h1 =>
   Pn.some (Fn.of [.bit true] (p := [(a.No != b.No) = true]) (by kernel_rfl) (cj1 h1))) (fun h1 =>
   Pn.ite (fun h2 =>
   Pn.some (Fn.of [.bit false, .bit false] (p := [(a.No != b.No) = false,
    (!(a.Text == b.Text)) = false]) (by kernel_rfl) (cj h1 (cj1 (nf h2))))) (fun h2 =>
   Pn.some (Fn.of [.bit false, .bit true] (p := [(a.No != b.No) = false,
    (!(a.Text == b.Text)) = true]) (by kernel_rfl) (cj h1 (cj1 (nt h2))))))
def laws_eqFieldS_l0 (a : List Field) (b : List Field) : List Field → List Field → Option (Lo Unit Unit)
  | [], p1 =>
   some (.out ())
  | x1 :: t1, p1 =>
   (b[(p1.length : Int).toNat]?).bind fun x2 =>
   (laws_eqField x1 x2).bind fun r1 =>
   if r1 = true then
   laws_eqFieldS_l0 a b t1 (p1 ++ [x1])
   else
   some (.ret ())
theorem laws_eqFieldS_l0_ok (a : List Field) (b : List Field) (h3 : capOk a.length = true) : ∀ (t1 p1 : List Field) (_ : a = p1 ++ t1) , Pn (LpO Tryd.prog (sub (codeOf Tryd.prog 47) [1, 1, 0, 1, 0, 0]) (st 27 [(0, V.sl false 71 (List.map E71 a)), (1, V.sl false 71 (List.map E71 b)), (5, V.sc (.int .i64 (p1.length : Int)))] [] []) (fun (y : Lo Unit Unit) => Lo.elim y (fun s => (X.out 0, st 27 [] [] [])) (fun s => (X.ret, st 27 [(4, V.sc (.bool false))] [] [])))) (laws_eqFieldS_l0 a b t1 p1)
  | [], p1, h2 => by
    unfold laws_eqFieldS_l0
    exact
     Pn.some (LpO.out [.wait 3, .nm 13 (V.sc (.int .i64 (a.length : Int))), .bit false, .mask [], .ren []] (p := [V.sc (.int .i64 ((List.map E71 a).length : Int)) = V.sc (.int .i64 (a.length : Int)),
      (decide ((p1.length : Int) < (a.length : Int))) = false]) (by kernel_rfl) (show X.out 0 ≠ X.go from nofun) (cj (len_nm _ _) (cj1 (rng_end h2))))
  | x1 :: t1, p1, h2 => by
    unfold laws_eqFieldS_l0
    exact
     Pn.bind (fun x2 h4 =>
     Pn.bind (fun r1 h5 =>
     Pn.ite (fun h6 =>
     LpO.go [.wait 3, .nm 13 (V.sc (.int .i64 (a.length : Int))), .bit true, .draw [], .el (E71 x1), .el (E71 x2), .call [] (E4 r1) [], .bit false, .wait 3, .mask [0, 1, 5], .ren [], .nm 5 (V.sc (.int .i64 ((p1 ++ [x1]).length : Int)))] (p := [V.sc (.int .i64 ((List.map E71 a).length : Int)) = V.sc (.int .i64 (a.length : Int)),
      (decide ((p1.length : Int) < (a.length : Int))) = true,
      (0 : Int) ≤ (p1.length : Int),
      (List.map E71 a)[(p1.length : Int).toNat]? = some (E71 x1),
      (0 : Int) ≤ (p1.length : Int),
      (List.map E71 b)[(p1.length : Int).toNat]? = some (E71 x2),
      Fn Tryd.prog 95 [(false, E71 x1), (false, E71 x2)] (E4 r1) [],
      (true || ((E4 r1).nv && nvL [])) = true,
      (!r1) = false,
      V.sc (.int .i64 (i64 ((p1.length : Int) + 1))) = V.sc (.int .i64 ((p1 ++ [x1]).length : Int))]) (by kernel_rfl) (cj (len_nm _ _) (cj (rng_lt h2) (cj (by omega) (cj (rng_get _ h2) (cj (by omega) (cj (map_get h4) (cj (laws_eqField_ok x1 x2 r1 h5) (cj rfl (cj (nf h6) (cj1 (rng_next h2 h3))))))))))) (laws_eqFieldS_l0_ok a b h3 t1 (p1 ++ [x1]) (rng_step h2))) (fun h6 =>
     Pn.some (LpO.out [.wait 3, .nm 13 (V.sc (.int .i64 (a.length : Int))), .bit true, .draw [], .el (E71 x1), .el (E71 x2), .call [] (E4 r1) [], .bit true, .wait 1, .mask [4], .ren []] (p := [V.sc (.int .i64 ((List.map E71 a).length : Int)) = V.sc (.int .i64 (a.length : Int)),
      (decide ((p1.length : Int) < (a.length : Int))) = true,
      (0 : Int) ≤ (p1.length : Int),
      (List.map E71 a)[(p1.length : Int).toNat]? = some (E71 x1),
      (0 : Int) ≤ (p1.length : Int),
      (List.map E71 b)[(p1.length : Int).toNat]? = some (E71 x2),
      Fn Tryd.prog 95 [(false, E71 x1), (false, E71 x2)] (E4 r1) [],
      (true || ((E4 r1).nv && nvL [])) = true,
      (!r1) = true]) (by kernel_rfl) (show X.ret ≠ X.go from nofun) (cj (len_nm _ _) (cj (rng_lt h2) (cj (by omega) (cj (rng_get _ h2) (cj (by omega) (cj (map_get h4) (cj (laws_eqField_ok x1 x2 r1 h5) (cj rfl (cj1 (nt h6))))))))))))))
def laws_eqFieldS (a : List Field) (b : List Field) : Option (Bool) :=
 if ((a.length : Int) != (b.length : Int)) = true then
 some false
 else
 if (capOk a.length) = true then
 (laws_eqFieldS_l0 a b a []).bind fun r2 =>
 Lo.elim r2 (fun s1 =>
 some true) (fun s2 =>
 some false)
 else none
theorem laws_eqFieldS_ok (a : List Field) (b : List Field) : Pn (fun y => Fn Tryd.prog 47 [(false, E34 a), (false, E34 b)] (E4 y) []) (laws_eqFieldS a b) := by
  unfold laws_eqFieldS
  exact
   Pn.ite (fun h1 =>
   Pn.some (Fn.of [.wait 3, .nm 7 (V.sc (.int .i64 (a.length : Int))), .wait 2, .nm 9 (V.sc (.int .i64 (b.length : Int))), .bit true] (p := [V.sc (.int .i64 ((List.map E71 a).length : Int)) = V.sc (.int .i64 (a.length : Int)),
    V.sc (.int .i64 ((List.map E71 b).length : Int)) = V.sc (.int .i64 (b.length : Int)),
    ((a.length : Int) != (b.length : Int)) = true]) (by kernel_rfl) (cj (len_nm _ _) (cj (len_nm _ _) (cj1 h1))))) (fun h1 =>
   Pn.ite (fun h7 =>
   Pn.bind (fun r2 h8 =>
   Pn.lo (fun s1 h9 =>
   Pn.some (Fn.of [.wait 3, .nm 7 (V.sc (.int .i64 (a.length : Int))), .wait 2, .nm 9 (V.sc (.int .i64 (b.length : Int))), .bit false, .wait 1, .mask [0, 1, 5], .ren [], .loop (X.out 0) (st 27 [] [] [])] (p := [V.sc (.int .i64 ((List.map E71 a).length : Int)) = V.sc (.int .i64 (a.length : Int)),
    V.sc (.int .i64 ((List.map E71 b).length : Int)) = V.sc (.int .i64 (b.length : Int)),
    ((a.length : Int) != (b.length : Int)) = false,
    Loop Tryd.prog (sub (codeOf Tryd.prog 47) [1, 1, 0, 1, 0, 0]) (st 27 [(0, V.sl false 71 (List.map E71 a)), (1, V.sl false 71 (List.map E71 b)), (5, V.sc (.int .i64 0))] [] []) (X.out 0) (st 27 [] [] [])]) (by kernel_rfl) (cj (len_nm _ _) (cj (len_nm _ _) (cj h1 (cj1 ((laws_eqFieldS_l0_ok a b h7 a [] rfl r2 h8).at h9))))))) (fun s2 h10 =>
   Pn.some (Fn.of [.wait 3, .nm 7 (V.sc (.int .i64 (a.length : Int))), .wait 2, .nm 9 (V.sc (.int .i64 (b.length : Int))), .bit false, .wait 1, .mask [0, 1, 5], .ren [], .loop (X.ret) (st 27 [(4, V.sc (.bool false))] [] [])] (p := [V.sc (.int .i64 ((List.map E71 a).length : Int)) = V.sc (.int .i64 (a.length : Int)),
    V.sc (.int .i64 ((List.map E71 b).length : Int)) = V.sc (.int .i64 (b.length : Int)),
    ((a.length : Int) != (b.length : Int)) = false,
    Loop Tryd.prog (sub (codeOf Tryd.prog 47) [1, 1, 0, 1, 0, 0]) (st 27 [(0, V.sl false 71 (List.map E71 a)), (1, V.sl false 71 (List.map E71 b)), (5, V.sc (.int .i64 0))] [] []) (X.ret) (st 27 [(4, V.sc (.bool false))] [] [])]) (by kernel_rfl) (cj (len_nm _ _) (cj (len_nm _ _) (cj h1 (cj1 ((laws_eqFieldS_l0_ok a b h7 a [] rfl r2 h8).at h10))))))))) (fun h7 =>
   Pn.none))
def laws_eqMsg (a : Msg) (b : Msg) : Option (Bool) :=
 if (a.Mti == b.Mti) = true then
 (laws_eqFieldS a.List b.List).bind fun r1 =>
 if r1 = true then
 some true
 else
 some false
 else
 some false
theorem laws_eqMsg_ok (a : Msg) (b : Msg) : Pn (fun y => Fn Tryd.prog 16 [(false, E36 a), (false, E36 b)] (E4 y) []) (laws_eqMsg a b) := by
  unfold laws_eqMsg
  exact
   Pn.ite (fun h1 =>
   Pn.bind (fun r1 h2 =>
   Pn.ite (fun h3 =>
   Pn.some (Fn.of [.bit false, .call [] (E4 r1) [], .bit false] (p := [(!(a.Mti == b.Mti)) = false,
    Fn Tryd.prog 47 [(false, E34 a.List), (false, E34 b.List)] (E4 r1) [],
    (true || ((E4 r1).nv && nvL [])) = true,
    (!r1) = false]) (by kernel_rfl) (cj (nf h1) (cj (laws_eqFieldS_ok a.List b.List r1 h2) (cj rfl (cj1 (nf h3))))))) (fun h3 =>
   Pn.some (Fn.of [.bit false, .call [] (E4 r1) [], .bit true] (p := [(!(a.Mti == b.Mti)) = false,
    Fn Tryd.prog 47 [(false, E34 a.List), (false, E34 b.List)] (E4 r1) [],
    (true || ((E4 r1).nv && nvL [])) = true,
    (!r1) = true]) (by kernel_rfl) (cj (nf h1) (cj (laws_eqFieldS_ok a.List b.List r1 h2) (cj rfl (cj1 (nt h3))))))))) (fun h1 =>
   Pn.some (Fn.of [.bit true] (p := [(!(a.Mti == b.Mti)) = true]) (by kernel_rfl) (cj1 (nt h1))))
def laws_FnExactMsgShow (aM : Msg) : Option (Bool) :=
 (laws_szMsg aM 1048576).bind fun r1 =>
 if (decide (r1 < 0)) = true then
 some true
 else
 (laws_toMsg aM).bind fun r2 =>
 (spec_MsgShow r2).bind fun r3 =>
 (laws_toMsg aM).bind fun r4 =>
 (impl_MsgShow r4).bind fun r5 =>
 if (r5 == r3) = true then
 (laws_toMsg aM).bind fun r6 =>
 (laws_eqMsg r4 r6).bind fun r7 =>
 if r7 = true then
 some true
 else
 some false
 else
 some false
theorem laws_FnExactMsgShow_ok (aM : Msg) : Pn (fun y => Fn Tryd.prog 4 [(false, E31 aM)] (E4 y) []) (laws_FnExactMsgShow aM) := by
  unfold laws_FnExactMsgShow
  exact
   Pn.bind (fun r1 h1 =>
   Pn.ite (fun h2 =>
   Pn.some (Fn.of [.call [] (E3 r1) [], .bit true] (p := [Fn Tryd.prog 12 [(false, E31 aM), (false, E3 1048576)] (E3 r1) [],
    (true || ((E3 r1).nv && nvL [])) = true,
    (decide (r1 < 0)) = true]) (by kernel_rfl) (cj (laws_szMsg_ok aM 1048576 r1 h1) (cj rfl (cj1 h2))))) (fun h2 =>
   Pn.bind (fun r2 h3 =>
   Pn.bind (fun r3 h4 =>
   Pn.bind (fun r4 h5 =>
   Pn.bind (fun r5 h6 =>
   Pn.ite (fun h7 =>
   Pn.bind (fun r6 h8 =>
   Pn.bind (fun r7 h9 =>
   Pn.ite (fun h10 =>
   Pn.some (Fn.of [.call [] (E3 r1) [], .bit false, .call [] (E36 r2) [], .call [] (E9 r3) [], .call [] (E36 r4) [], .call [] (E9 r5) [], .bit false, .draw [], .call [] (E36 r6) [], .call [] (E4 r7) [], .bit false] (p := [Fn Tryd.prog 12 [(false, E31 aM), (false, E3 1048576)] (E3 r1) [],
    (true || ((E3 r1).nv && nvL [])) = true,
    (decide (r1 < 0)) = false,
    Fn Tryd.prog 14 [(false, E31 aM)] (E36 r2) [],
    (true || ((E36 r2).nv && nvL [])) = true,
    Fn Tryd.prog 13 [(false, E36 r2)] (E9 r3) [],
    (false || ((E9 r3).nv && nvL [])) = true,
    Fn Tryd.prog 14 [(false, E31 aM)] (E36 r4) [],
    (true || ((E36 r4).nv && nvL [])) = true,
    Fn Tryd.prog 15 [(false, E36 r4)] (E9 r5) [],
    (false || ((E9 r5).nv && nvL [])) = true,
    (!(r5 == r3)) = false,
    Fn Tryd.prog 14 [(false, E31 aM)] (E36 r6) [],
    (true || ((E36 r6).nv && nvL [])) = true,
    Fn Tryd.prog 16 [(false, E36 r4), (false, E36 r6)] (E4 r7) [],
    (false || ((E4 r7).nv && nvL [])) = true,
    (!r7) = false]) (by kernel_rfl) (cj (laws_szMsg_ok aM 1048576 r1 h1) (cj rfl (cj h2 (cj (laws_toMsg_ok aM r2 h3) (cj rfl (cj (spec_MsgShow_ok r2 r3 h4) (cj (by simp [V.nv, nvL, nvL_all, nv_E9]) (cj (laws_toMsg_ok aM r4 h5) (cj rfl (cj (impl_MsgShow_ok r4 r5 h6) (cj (by simp [V.nv, nvL, nvL_all, nv_E9]) (cj (nf h7) (cj (laws_toMsg_ok aM r6 h8) (cj rfl (cj (laws_eqMsg_ok r4 r6 r7 h9) (cj (by simp [V.nv, nvL, nvL_all, nv_E4]) (cj1 (nf h10)))))))))))))))))))) (fun h10 =>
   Pn.some (Fn.of [.call [] (E3 r1) [], .bit false, .call [] (E36 r2) [], .call [] (E9 r3) [], .call [] (E36 r4) [], .call [] (E9 r5) [], .bit false, .draw [], .call [] (E36 r6) [], .call [] (E4 r7) [], .bit true] (p := [Fn Tryd.prog 12 [(false, E31 aM), (false, E3 1048576)] (E3 r1) [],
    (true || ((E3 r1).nv && nvL [])) = true,
    (decide (r1 < 0)) = false,
    Fn Tryd.prog 14 [(false, E31 aM)] (E36 r2) [],
    (true || ((E36 r2).nv && nvL [])) = true,
    Fn Tryd.prog 13 [(false, E36 r2)] (E9 r3) [],
    (false || ((E9 r3).nv && nvL [])) = true,
    Fn Tryd.prog 14 [(false, E31 aM)] (E36 r4) [],
    (true || ((E36 r4).nv && nvL [])) = true,
    Fn Tryd.prog 15 [(false, E36 r4)] (E9 r5) [],
    (false || ((E9 r5).nv && nvL [])) = true,
    (!(r5 == r3)) = false,
    Fn Tryd.prog 14 [(false, E31 aM)] (E36 r6) [],
    (true || ((E36 r6).nv && nvL [])) = true,
    Fn Tryd.prog 16 [(false, E36 r4), (false, E36 r6)] (E4 r7) [],
    (false || ((E4 r7).nv && nvL [])) = true,
    (!r7) = true]) (by kernel_rfl) (cj (laws_szMsg_ok aM 1048576 r1 h1) (cj rfl (cj h2 (cj (laws_toMsg_ok aM r2 h3) (cj rfl (cj (spec_MsgShow_ok r2 r3 h4) (cj (by simp [V.nv, nvL, nvL_all, nv_E9]) (cj (laws_toMsg_ok aM r4 h5) (cj rfl (cj (impl_MsgShow_ok r4 r5 h6) (cj (by simp [V.nv, nvL, nvL_all, nv_E9]) (cj (nf h7) (cj (laws_toMsg_ok aM r6 h8) (cj rfl (cj (laws_eqMsg_ok r4 r6 r7 h9) (cj (by simp [V.nv, nvL, nvL_all, nv_E4]) (cj1 (nt h10))))))))))))))))))))))) (fun h7 =>
   Pn.some (Fn.of [.call [] (E3 r1) [], .bit false, .call [] (E36 r2) [], .call [] (E9 r3) [], .call [] (E36 r4) [], .call [] (E9 r5) [], .bit true] (p := [Fn Tryd.prog 12 [(false, E31 aM), (false, E3 1048576)] (E3 r1) [],
    (true || ((E3 r1).nv && nvL [])) = true,
    (decide (r1 < 0)) = false,
    Fn Tryd.prog 14 [(false, E31 aM)] (E36 r2) [],
    (true || ((E36 r2).nv && nvL [])) = true,
    Fn Tryd.prog 13 [(false, E36 r2)] (E9 r3) [],
    (false || ((E9 r3).nv && nvL [])) = true,
    Fn Tryd.prog 14 [(false, E31 aM)] (E36 r4) [],
    (true || ((E36 r4).nv && nvL [])) = true,
    Fn Tryd.prog 15 [(false, E36 r4)] (E9 r5) [],
    (false || ((E9 r5).nv && nvL [])) = true,
    (!(r5 == r3)) = true]) (by kernel_rfl) (cj (laws_szMsg_ok aM 1048576 r1 h1) (cj rfl (cj h2 (cj (laws_toMsg_ok aM r2 h3) (cj rfl (cj (spec_MsgShow_ok r2 r3 h4) (cj (by simp [V.nv, nvL, nvL_all, nv_E9]) (cj (laws_toMsg_ok aM r4 h5) (cj rfl (cj (impl_MsgShow_ok r4 r5 h6) (cj (by simp [V.nv, nvL, nvL_all, nv_E9]) (cj1 (nt h7)))))))))))))))))))))
end Go.Proofs.YtjnnbcdakaabbaaDoorM
