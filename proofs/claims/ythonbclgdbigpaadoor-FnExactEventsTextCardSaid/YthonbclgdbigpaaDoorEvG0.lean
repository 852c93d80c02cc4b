/- Printed by gen.py: functions on plain data, and that the program computes them. No condition. -/
import Derived.Test.YthonbclgdbigpaaDoorX1
import Derived.Test.YthonbclgdbigpaaDoorProg
namespace Go.Proofs.YthonbclgdbigpaaDoorM
set_option linter.unusedVariables false
set_option linter.unusedSimpArgs false
open Go.RowKit
set_option maxRecDepth 100000

structure Event where
  Kind : Int
  K : Int
  Data : List Int
def E3 (x : Int) : V := V.sc (.int .i64 x)
def E5 (x : Int) : V := V.sc (.int .u8 x)
def E29 (x : List Int) : V := V.sl true 5 (List.map E5 x)
def E31 (x : Event) : V := V.agg [V.sc (.int .i64 x.Kind), V.sc (.int .i64 x.K), V.sl true 5 (List.map E5 x.Data)]
def E38 (x : List Event) : V := V.sl true 31 (List.map E31 x)
def E4 (x : Bool) : V := V.sc (.bool x)
def E34 (x : Event) : V := V.agg [V.sc (.int .i64 x.Kind), V.sc (.int .i64 x.K), V.sl true 5 (List.map E5 x.Data)]
def E41 (x : List Event) : V := V.sl true 34 (List.map E34 x)
def E9 (x : ByteArray) : V := V.sc (.string x)
theorem nv_E3 (x : Int) : (E3 x).nv = true := by
  simp [E3, V.nv, nvL, nvL_all]
theorem nv_E5 (x : Int) : (E5 x).nv = true := by
  simp [E5, V.nv, nvL, nvL_all]
theorem nv_E29 (x : List Int) : (E29 x).nv = true := by
  simp [E29, V.nv, nvL, nvL_all, nv_E5]
theorem nv_E31 (x : Event) : (E31 x).nv = true := by
  simp [E31, V.nv, nvL, nvL_all, nv_E5]
theorem nv_E38 (x : List Event) : (E38 x).nv = true := by
  simp [E38, V.nv, nvL, nvL_all, nv_E31]
theorem nv_E4 (x : Bool) : (E4 x).nv = true := by
  simp [E4, V.nv, nvL, nvL_all]
theorem nv_E34 (x : Event) : (E34 x).nv = true := by
  simp [E34, V.nv, nvL, nvL_all, nv_E5]
theorem nv_E41 (x : List Event) : (E41 x).nv = true := by
  simp [E41, V.nv, nvL, nvL_all, nv_E34]
theorem nv_E9 (x : ByteArray) : (E9 x).nv = true := by
  simp [E9, V.nv, nvL, nvL_all]
def laws_szByteS (a : List Int) (left : Int) : Option (Int) :=
 if (decide ((i64 (left - (a.length : Int))) < 0)) = true then
  some (-1)
 else
  some (i64 (left - (a.length : Int)))
theorem laws_szByteS_ok (a : List Int) (left : Int) : Pn (fun y => Fn Tryd.prog 27 [(false, E29 a), (false, E3 left)] (E3 y) []) (laws_szByteS a left) := by
  unfold laws_szByteS
  exact
   Pn.ite (fun h1 =>
    Pn.some (Fn.of [.wait 4, .nm 7 (V.sc (.int .i64 (a.length : Int))), .bit true] (p := [V.sc (.int .i64 ((List.map E5 a).length : Int)) = V.sc (.int .i64 (a.length : Int)),
     (decide ((i64 (left - (a.length : Int))) < 0)) = true]) (by kernel_rfl) (cj (len_nm _ _) (cj1 h1)))) (fun h1 =>
    Pn.some (Fn.of [.wait 4, .nm 7 (V.sc (.int .i64 (a.length : Int))), .bit false] (p := [V.sc (.int .i64 ((List.map E5 a).length : Int)) = V.sc (.int .i64 (a.length : Int)),
     (decide ((i64 (left - (a.length : Int))) < 0)) = false]) (by kernel_rfl) (cj (len_nm _ _) (cj1 h1))))
def laws_szEvent (a : Event) (left : Int) : Option (Int) :=
 (laws_szByteS a.Data left).bind fun r1 =>
 if (decide (r1 < 0)) = true then
  some (-1)
 else
  some r1
theorem laws_szEvent_ok (a : Event) (left : Int) : Pn (fun y => Fn Tryd.prog 11 [(false, E31 a), (false, E3 left)] (E3 y) []) (laws_szEvent a left) := by
  unfold laws_szEvent
  exact
   Pn.bind (fun r1 h1 =>
    Pn.ite (fun h2 =>
     Pn.some (Fn.of [.call [] (E3 r1) [], .bit true] (p := [Fn Tryd.prog 27 [(false, E29 a.Data), (false, E3 left)] (E3 r1) [],
      (true || ((E3 r1).nv && nvL [])) = true,
      (decide (r1 < 0)) = true]) (by kernel_rfl) (cj (laws_szByteS_ok a.Data left r1 h1) (cj rfl (cj1 h2))))) (fun h2 =>
     Pn.some (Fn.of [.call [] (E3 r1) [], .bit false] (p := [Fn Tryd.prog 27 [(false, E29 a.Data), (false, E3 left)] (E3 r1) [],
      (true || ((E3 r1).nv && nvL [])) = true,
      (decide (r1 < 0)) = false]) (by kernel_rfl) (cj (laws_szByteS_ok a.Data left r1 h1) (cj rfl (cj1 h2))))))
def laws_szEventS_l0 (a : List Event) : List Event → Int → Option (Lo Int Unit)
  | [], v1 =>
   some (.out v1)
  | x1 :: t1, v1 =>
   (laws_szEvent x1 v1).bind fun r1 =>
   if (decide (r1 < 0)) = true then
    some (.ret ())
   else
    laws_szEventS_l0 a t1 r1
theorem laws_szEventS_l0_ok (a : List Event) (h3 : capOk a.length = true) : ∀ (t1 p1 : List Event) (_ : a = p1 ++ t1) (v1 : Int), Pn (LpO Tryd.prog (sub (codeOf Tryd.prog 16) [1, 1, 1, 0, 1, 0, 0]) (st 27 [(0, V.sl false 31 (List.map E31 a)), (1, V.sc (.int .i64 v1)), (5, V.sc (.int .i64 (p1.length : Int)))] [] []) (fun (y : Lo Int Unit) => Lo.elim y (fun s => (X.out 0, st 27 [(1, V.sc (.int .i64 s))] [] [])) (fun s => (X.ret, st 27 [(4, V.sc (.int .i64 (-1)))] [] [])))) (laws_szEventS_l0 a t1 v1)
  | [], p1, h2, v1 => by
    unfold laws_szEventS_l0
    exact
     Pn.some (LpO.out [.wait 3, .nm 14 (V.sc (.int .i64 (a.length : Int))), .bit false, .mask [1], .ren []] (p := [V.sc (.int .i64 ((List.map E31 a).length : Int)) = V.sc (.int .i64 (a.length : Int)),
      (decide ((p1.length : Int) < (a.length : Int))) = false]) (by kernel_rfl) (show X.out 0 ≠ X.go from nofun) (cj (len_nm _ _) (cj1 (rng_end h2))))
  | x1 :: t1, p1, h2, v1 => by
    unfold laws_szEventS_l0
    exact
     Pn.bind (fun r1 h4 =>
      Pn.ite (fun h5 =>
       Pn.some (LpO.out [.wait 3, .nm 14 (V.sc (.int .i64 (a.length : Int))), .bit true, .el (E31 x1), .call [] (E3 r1) [], .bit true, .wait 1, .mask [4], .ren []] (p := [V.sc (.int .i64 ((List.map E31 a).length : Int)) = V.sc (.int .i64 (a.length : Int)),
        (decide ((p1.length : Int) < (a.length : Int))) = true,
        (0 : Int) ≤ (p1.length : Int),
        (List.map E31 a)[(p1.length : Int).toNat]? = some (E31 x1),
        Fn Tryd.prog 11 [(false, E31 x1), (false, E3 v1)] (E3 r1) [],
        (true || ((E3 r1).nv && nvL [])) = true,
        (decide (r1 < 0)) = true]) (by kernel_rfl) (show X.ret ≠ X.go from nofun) (cj (len_nm _ _) (cj (rng_lt h2) (cj (by omega) (cj (rng_get _ h2) (cj (laws_szEvent_ok x1 v1 r1 h4) (cj rfl (cj1 h5))))))))) (fun h5 =>
       LpO.go [.wait 3, .nm 14 (V.sc (.int .i64 (a.length : Int))), .bit true, .el (E31 x1), .call [] (E3 r1) [], .bit false, .wait 3, .mask [0, 1, 5], .ren [], .nm 5 (V.sc (.int .i64 ((p1 ++ [x1]).length : Int)))] (p := [V.sc (.int .i64 ((List.map E31 a).length : Int)) = V.sc (.int .i64 (a.length : Int)),
        (decide ((p1.length : Int) < (a.length : Int))) = true,
        (0 : Int) ≤ (p1.length : Int),
        (List.map E31 a)[(p1.length : Int).toNat]? = some (E31 x1),
        Fn Tryd.prog 11 [(false, E31 x1), (false, E3 v1)] (E3 r1) [],
        (true || ((E3 r1).nv && nvL [])) = true,
        (decide (r1 < 0)) = false,
        V.sc (.int .i64 (i64 ((p1.length : Int) + 1))) = V.sc (.int .i64 ((p1 ++ [x1]).length : Int))]) (by kernel_rfl) (cj (len_nm _ _) (cj (rng_lt h2) (cj (by omega) (cj (rng_get _ h2) (cj (laws_szEvent_ok x1 v1 r1 h4) (cj rfl (cj h5 (cj1 (rng_next h2 h3))))))))) (laws_szEventS_l0_ok a h3 t1 (p1 ++ [x1]) (rng_step h2) r1)))
def laws_szEventS (a : List Event) (left : Int) : Option (Int) :=
 if (decide ((i64 (left - (a.length : Int))) < 0)) = true then
  some (-1)
 else
  if (capOk a.length) = true then
   (laws_szEventS_l0 a a (i64 (left - (a.length : Int)))).bind fun r2 =>
   Lo.elim r2 (fun s1 =>
    some s1) (fun s2 =>
    some (-1))
  else none
theorem laws_szEventS_ok (a : List Event) (left : Int) : Pn (fun y => Fn Tryd.prog 16 [(false, E38 a), (false, E3 left)] (E3 y) []) (laws_szEventS a left) := by
  unfold laws_szEventS
  exact
   Pn.ite (fun h1 =>
    Pn.some (Fn.of [.wait 4, .nm 8 (V.sc (.int .i64 (a.length : Int))), .bit true] (p := [V.sc (.int .i64 ((List.map E31 a).length : Int)) = V.sc (.int .i64 (a.length : Int)),
     (decide ((i64 (left - (a.length : Int))) < 0)) = true]) (by kernel_rfl) (cj (len_nm _ _) (cj1 h1)))) (fun h1 =>
    Pn.ite (fun h6 =>
     Pn.bind (fun r2 h7 =>
      Pn.lo (fun s1 h8 =>
       Pn.some (Fn.of [.wait 4, .nm 8 (V.sc (.int .i64 (a.length : Int))), .bit false, .wait 1, .mask [0, 1, 5], .ren [], .loop (X.out 0) (st 27 [(1, V.sc (.int .i64 s1))] [] [])] (p := [V.sc (.int .i64 ((List.map E31 a).length : Int)) = V.sc (.int .i64 (a.length : Int)),
        (decide ((i64 (left - (a.length : Int))) < 0)) = false,
        Loop Tryd.prog (sub (codeOf Tryd.prog 16) [1, 1, 1, 0, 1, 0, 0]) (st 27 [(0, V.sl false 31 (List.map E31 a)), (1, V.sc (.int .i64 (i64 (left - (a.length : Int))))), (5, V.sc (.int .i64 0))] [] []) (X.out 0) (st 27 [(1, V.sc (.int .i64 s1))] [] [])]) (by kernel_rfl) (cj (len_nm _ _) (cj h1 (cj1 ((laws_szEventS_l0_ok a h6 a [] rfl (i64 (left - (a.length : Int))) r2 h7).at h8)))))) (fun s2 h9 =>
       Pn.some (Fn.of [.wait 4, .nm 8 (V.sc (.int .i64 (a.length : Int))), .bit false, .wait 1, .mask [0, 1, 5], .ren [], .loop (X.ret) (st 27 [(4, V.sc (.int .i64 (-1)))] [] [])] (p := [V.sc (.int .i64 ((List.map E31 a).length : Int)) = V.sc (.int .i64 (a.length : Int)),
        (decide ((i64 (left - (a.length : Int))) < 0)) = false,
        Loop Tryd.prog (sub (codeOf Tryd.prog 16) [1, 1, 1, 0, 1, 0, 0]) (st 27 [(0, V.sl false 31 (List.map E31 a)), (1, V.sc (.int .i64 (i64 (left - (a.length : Int))))), (5, V.sc (.int .i64 0))] [] []) (X.ret) (st 27 [(4, V.sc (.int .i64 (-1)))] [] [])]) (by kernel_rfl) (cj (len_nm _ _) (cj h1 (cj1 ((laws_szEventS_l0_ok a h6 a [] rfl (i64 (left - (a.length : Int))) r2 h7).at h9)))))))) (fun h6 =>
     Pn.none))
def laws_toByteS_l0 (a : List Int) : List Int → List Int → (List Int) → Option ((List Int))
  | [], p1, v1 =>
   some v1
  | x1 :: t1, p1, v1 =>
   (v1[(p1.length : Int).toNat]?).bind fun x2 =>
   laws_toByteS_l0 a t1 (p1 ++ [x1]) (v1.set ((p1.length : Int).toNat) x1)
theorem laws_toByteS_l0_ok (a : List Int) (h4 : capOk a.length = true) : ∀ (t1 p1 : List Int) (_ : a = p1 ++ t1) (v1 : List Int), Pn (LpO Tryd.prog (sub (codeOf Tryd.prog 30) [1, 1, 0, 1, 0, 0]) (st 22 [(0, V.sl false 5 (List.map E5 a)), (3, V.ow 0), (4, V.sc (.int .i64 (p1.length : Int)))] [Blk.row 5 (List.map E5 v1) []] []) (fun (y : (List Int)) => (X.out 0, st 22 [(3, V.ow 0)] [Blk.row 5 (List.map E5 y) []] []))) (laws_toByteS_l0 a t1 p1 v1)
  | [], p1, h3, v1 => by
    unfold laws_toByteS_l0
    exact
     Pn.some (LpO.out [.wait 3, .nm 10 (V.sc (.int .i64 (a.length : Int))), .bit false, .mask [3], .ren [0]] (p := [V.sc (.int .i64 ((List.map E5 a).length : Int)) = V.sc (.int .i64 (a.length : Int)),
      (decide ((p1.length : Int) < (a.length : Int))) = false]) (by kernel_rfl) (show X.out 0 ≠ X.go from nofun) (cj (len_nm _ _) (cj1 (rng_end h3))))
  | x1 :: t1, p1, h3, v1 => by
    unfold laws_toByteS_l0
    exact
     Pn.bind (fun x2 h5 =>
      LpO.go [.wait 3, .nm 10 (V.sc (.int .i64 (a.length : Int))), .bit true, .el (E5 x1), .el (E5 x2), .nb 0 (.row 5 (List.map E5 (v1.set ((p1.length : Int).toNat) x1)) []), .wait 4, .mask [0, 3, 4], .ren [0], .nm 4 (V.sc (.int .i64 ((p1 ++ [x1]).length : Int)))] (p := [V.sc (.int .i64 ((List.map E5 a).length : Int)) = V.sc (.int .i64 (a.length : Int)),
       (decide ((p1.length : Int) < (a.length : Int))) = true,
       (0 : Int) ≤ (p1.length : Int),
       (List.map E5 a)[(p1.length : Int).toNat]? = some (E5 x1),
       (0 : Int) ≤ (p1.length : Int),
       ((p1.length : Int) : Int) < ((List.map E5 v1).length : Int),
       look [] ((p1.length : Int).toNat) = none,
       (List.map E5 v1)[(p1.length : Int).toNat]? = some (E5 x2),
       Blk.row 5 ((List.map E5 v1).set ((p1.length : Int).toNat) (V.sc (.int .u8 x1))) [] = Blk.row 5 (List.map E5 (v1.set ((p1.length : Int).toNat) x1)) [],
       V.sc (.int .i64 (i64 ((p1.length : Int) + 1))) = V.sc (.int .i64 ((p1 ++ [x1]).length : Int))]) (by kernel_rfl) (cj (len_nm _ _) (cj (rng_lt h3) (cj (by omega) (cj (rng_get _ h3) (cj (by omega) (cj (map_ltN (by omega) h5) (cj rfl (cj (map_get h5) (cj (nb_set E5 _ _ x1) (cj1 (rng_next h3 h4))))))))))) (laws_toByteS_l0_ok a h4 t1 (p1 ++ [x1]) (rng_step h3) (v1.set ((p1.length : Int).toNat) x1)))
def laws_toByteS (a : List Int) : Option ((List Int)) :=
 if (decide (0 ≤ (a.length : Int))) = true then
  if (capOk (a.length : Int).toNat) = true then
   if (capOk a.length) = true then
    (laws_toByteS_l0 a a [] (List.replicate ((a.length : Int).toNat) 0)).bind fun r1 =>
    some r1
   else none
  else none
 else none
theorem laws_toByteS_ok (a : List Int) : Pn (fun y => Fn Tryd.prog 30 [(false, E29 a)] (E29 y) []) (laws_toByteS a) := by
  unfold laws_toByteS
  exact
   Pn.ite (fun h1 =>
    Pn.ite (fun h2 =>
     Pn.ite (fun h6 =>
      Pn.bind (fun r1 h7 =>
       Pn.some (Fn.of [.wait 3, .nm 6 (V.sc (.int .i64 (a.length : Int))), .wait 1, .nb 0 (.row 5 (List.map E5 (List.replicate ((a.length : Int).toNat) 0)) []), .wait 3, .mask [0, 3, 4], .ren [0], .loop (X.out 0) (st 22 [(3, V.ow 0)] [Blk.row 5 (List.map E5 r1) []] [])] (p := [V.sc (.int .i64 ((List.map E5 a).length : Int)) = V.sc (.int .i64 (a.length : Int)),
        ((a.length : Int) : Int) = (a.length : Int),
        (0 : Int) ≤ (a.length : Int),
        ((a.length : Int) : Int) ≤ 9223372036854775807,
        1 * (a.length : Int).toNat ≤ 281474976710656,
        Blk.row 5 (List.replicate ((a.length : Int).toNat) (V.sc (.int .u8 0))) [] = Blk.row 5 (List.map E5 (List.replicate ((a.length : Int).toNat) 0)) [],
        Loop Tryd.prog (sub (codeOf Tryd.prog 30) [1, 1, 0, 1, 0, 0]) (st 22 [(0, V.sl false 5 (List.map E5 a)), (3, V.ow 0), (4, V.sc (.int .i64 0))] [Blk.row 5 (List.map E5 (List.replicate ((a.length : Int).toNat) 0)) []] []) (X.out 0) (st 22 [(3, V.ow 0)] [Blk.row 5 (List.map E5 r1) []] [])]) (by kernel_rfl) (cj (len_nm _ _) (cj rfl (cj (od h1) (cj (cap3 h1 h2) (cj (cap4 h2 (by decide)) (cj (nb_rep E5 _ 0) (cj1 (laws_toByteS_l0_ok a h6 a [] rfl (List.replicate ((a.length : Int).toNat) 0) r1 h7))))))))))) (fun h6 =>
      Pn.none)) (fun h2 =>
     Pn.none)) (fun h1 =>
    Pn.none)
def laws_toEvent (a : Event) : Option (Event) :=
 (laws_toByteS a.Data).bind fun r1 =>
 some (Event.mk a.Kind a.K r1)
theorem laws_toEvent_ok (a : Event) : Pn (fun y => Fn Tryd.prog 13 [(false, E31 a)] (E34 y) []) (laws_toEvent a) := by
  unfold laws_toEvent
  exact
   Pn.bind (fun r1 h1 =>
    Pn.some (Fn.of [.call [] (E29 r1) []] (p := [Fn Tryd.prog 30 [(false, E29 a.Data)] (E29 r1) [],
     (true || ((E29 r1).nv && nvL [])) = true]) (by kernel_rfl) (cj (laws_toByteS_ok a.Data r1 h1) (cj1 rfl))))
def laws_toEventS_l0 (a : List Event) : List Event → List Event → (List Event) → Option ((List Event))
  | [], p1, v1 =>
   some v1
  | x1 :: t1, p1, v1 =>
   (laws_toEvent x1).bind fun r1 =>
   (v1[(p1.length : Int).toNat]?).bind fun x2 =>
   laws_toEventS_l0 a t1 (p1 ++ [x1]) (v1.set ((p1.length : Int).toNat) r1)
theorem laws_toEventS_l0_ok (a : List Event) (h4 : capOk a.length = true) : ∀ (t1 p1 : List Event) (_ : a = p1 ++ t1) (v1 : List Event), Pn (LpO Tryd.prog (sub (codeOf Tryd.prog 18) [1, 1, 0, 1, 0, 0]) (st 23 [(0, V.sl false 31 (List.map E31 a)), (3, V.ow 0), (4, V.sc (.int .i64 (p1.length : Int)))] [Blk.row 34 (List.map E34 v1) []] []) (fun (y : (List Event)) => (X.out 0, st 23 [(3, V.ow 0)] [Blk.row 34 (List.map E34 y) []] []))) (laws_toEventS_l0 a t1 p1 v1)
  | [], p1, h3, v1 => by
    unfold laws_toEventS_l0
    exact
     Pn.some (LpO.out [.wait 3, .nm 10 (V.sc (.int .i64 (a.length : Int))), .bit false, .mask [3], .ren [0]] (p := [V.sc (.int .i64 ((List.map E31 a).length : Int)) = V.sc (.int .i64 (a.length : Int)),
      (decide ((p1.length : Int) < (a.length : Int))) = false]) (by kernel_rfl) (show X.out 0 ≠ X.go from nofun) (cj (len_nm _ _) (cj1 (rng_end h3))))
  | x1 :: t1, p1, h3, v1 => by
    unfold laws_toEventS_l0
    exact
     Pn.bind (fun r1 h5 =>
      Pn.bind (fun x2 h6 =>
       LpO.go [.wait 3, .nm 10 (V.sc (.int .i64 (a.length : Int))), .bit true, .el (E31 x1), .call [] (E34 r1) [], .wait 1, .foc 0 ((p1.length : Int).toNat) (E34 x2), .fo 0, .wait 4, .shut 0, .nb 0 (.row 34 (List.map E34 (v1.set ((p1.length : Int).toNat) r1)) []), .mask [0, 3, 4], .ren [0], .nm 4 (V.sc (.int .i64 ((p1 ++ [x1]).length : Int)))] (p := [V.sc (.int .i64 ((List.map E31 a).length : Int)) = V.sc (.int .i64 (a.length : Int)),
        (decide ((p1.length : Int) < (a.length : Int))) = true,
        (0 : Int) ≤ (p1.length : Int),
        (List.map E31 a)[(p1.length : Int).toNat]? = some (E31 x1),
        Fn Tryd.prog 13 [(false, E31 x1)] (E34 r1) [],
        (true || ((E34 r1).nv && nvL [])) = true,
        (0 : Int) ≤ (p1.length : Int),
        ((p1.length : Int) : Int) < ((List.map E34 v1).length : Int),
        look [] ((p1.length : Int).toNat) = none,
        (List.map E34 v1)[(p1.length : Int).toNat]? = some (E34 x2),
        look [((p1.length : Int).toNat, V.agg [V.sc (.int .i64 x2.Kind), V.sc (.int .i64 x2.K), V.ow 2])] ((p1.length : Int).toNat) = some (V.agg [V.sc (.int .i64 x2.Kind), V.sc (.int .i64 x2.K), V.ow 2]),
        ((p1.length : Int).toNat) < (List.map E34 v1).length,
        ((p1.length : Int).toNat) = ((p1.length : Int).toNat),
        Blk.row 34 ((List.map E34 v1).set ((p1.length : Int).toNat) (V.agg [V.sc (.int .i64 r1.Kind), V.sc (.int .i64 r1.K), V.sl true 5 (List.map E5 r1.Data)])) [] = Blk.row 34 (List.map E34 (v1.set ((p1.length : Int).toNat) r1)) [],
        V.sc (.int .i64 (i64 ((p1.length : Int) + 1))) = V.sc (.int .i64 ((p1 ++ [x1]).length : Int))]) (by kernel_rfl) (cj (len_nm _ _) (cj (rng_lt h3) (cj (by omega) (cj (rng_get _ h3) (cj (laws_toEvent_ok x1 r1 h5) (cj rfl (cj (by omega) (cj (map_ltN (by omega) h6) (cj rfl (cj (map_get h6) (cj (look_cons_self _ _ _) (cj (map_lt h6) (cj rfl (cj (nb_set E34 _ _ r1) (cj1 (rng_next h3 h4)))))))))))))))) (laws_toEventS_l0_ok a h4 t1 (p1 ++ [x1]) (rng_step h3) (v1.set ((p1.length : Int).toNat) r1))))
def laws_toEventS (a : List Event) : Option ((List Event)) :=
 if (decide (0 ≤ (a.length : Int))) = true then
  if (capOk (a.length : Int).toNat) = true then
   if (capOk a.length) = true then
    (laws_toEventS_l0 a a [] (List.replicate ((a.length : Int).toNat) (Event.mk 0 0 []))).bind fun r2 =>
    some r2
   else none
  else none
 else none
theorem laws_toEventS_ok (a : List Event) : Pn (fun y => Fn Tryd.prog 18 [(false, E38 a)] (E41 y) []) (laws_toEventS a) := by
  unfold laws_toEventS
  exact
   Pn.ite (fun h1 =>
    Pn.ite (fun h2 =>
     Pn.ite (fun h7 =>
      Pn.bind (fun r2 h8 =>
       Pn.some (Fn.of [.wait 3, .nm 6 (V.sc (.int .i64 (a.length : Int))), .wait 1, .nb 0 (.row 34 (List.map E34 (List.replicate ((a.length : Int).toNat) (Event.mk 0 0 []))) []), .wait 3, .mask [0, 3, 4], .ren [0], .loop (X.out 0) (st 23 [(3, V.ow 0)] [Blk.row 34 (List.map E34 r2) []] [])] (p := [V.sc (.int .i64 ((List.map E31 a).length : Int)) = V.sc (.int .i64 (a.length : Int)),
        ((a.length : Int) : Int) = (a.length : Int),
        (0 : Int) ≤ (a.length : Int),
        ((a.length : Int) : Int) ≤ 9223372036854775807,
        40 * (a.length : Int).toNat ≤ 281474976710656,
        Blk.row 34 (List.replicate ((a.length : Int).toNat) (V.agg [V.sc (.int .i64 0), V.sc (.int .i64 0), V.sl true 5 ([] : List V)])) [] = Blk.row 34 (List.map E34 (List.replicate ((a.length : Int).toNat) (Event.mk 0 0 []))) [],
        Loop Tryd.prog (sub (codeOf Tryd.prog 18) [1, 1, 0, 1, 0, 0]) (st 23 [(0, V.sl false 31 (List.map E31 a)), (3, V.ow 0), (4, V.sc (.int .i64 0))] [Blk.row 34 (List.map E34 (List.replicate ((a.length : Int).toNat) (Event.mk 0 0 []))) []] []) (X.out 0) (st 23 [(3, V.ow 0)] [Blk.row 34 (List.map E34 r2) []] [])]) (by kernel_rfl) (cj (len_nm _ _) (cj rfl (cj (od h1) (cj (cap3 h1 h2) (cj (cap4 h2 (by decide)) (cj (nb_rep E34 _ (Event.mk 0 0 [])) (cj1 (laws_toEventS_l0_ok a h7 a [] rfl (List.replicate ((a.length : Int).toNat) (Event.mk 0 0 [])) r2 h8))))))))))) (fun h7 =>
      Pn.none)) (fun h2 =>
     Pn.none)) (fun h1 =>
    Pn.none)
def spec_l01In (n : Int) (lo : Int) (hi : Int) : Option (Bool) :=
 if (decide (lo ≤ n)) = true then
  some (decide (n ≤ hi))
 else
  some false
theorem spec_l01In_ok (n : Int) (lo : Int) (hi : Int) : Pn (fun y => Fn Tryd.prog 45 [(false, E3 n), (false, E3 lo), (false, E3 hi)] (E4 y) []) (spec_l01In n lo hi) := by
  unfold spec_l01In
  exact
   Pn.ite (fun h1 =>
    Pn.some (Fn.of [.bit true, .bit true, .bit true, .bit true] (p := [(decide (lo ≤ n)) = true,
     (decide (lo ≤ n)) = true,
     (decide (lo ≤ n)) = true,
     (decide (lo ≤ n)) = true]) (by kernel_rfl) (cj h1 (cj h1 (cj h1 (cj1 h1)))))) (fun h1 =>
    Pn.some (Fn.of [.bit false, .bit false, .bit false, .bit false] (p := [(decide (lo ≤ n)) = false,
     (decide (lo ≤ n)) = false,
     (decide (lo ≤ n)) = false,
     (decide (lo ≤ n)) = false]) (by kernel_rfl) (cj h1 (cj h1 (cj h1 (cj1 h1))))))
def spec_EventOk (e : Event) : Option (Bool) :=
 if (e.Kind == 1) = true then
  if (e.K == 0) = true then
   some (decide ((e.Data.length : Int) ≤ 300))
  else
   some false
 else
  if (e.Kind == 2) = true then
   (spec_l01In e.K 0 11).bind fun r1 =>
   if r1 = true then
    some ((e.Data.length : Int) == 0)
   else
    some false
  else
   if (e.Kind == 3) = true then
    (spec_l01In e.K 1 1000).bind fun r2 =>
    if r2 = true then
     some ((e.Data.length : Int) == 0)
    else
     some false
   else
    some false
theorem spec_EventOk_ok (e : Event) : Pn (fun y => Fn Tryd.prog 28 [(false, E34 e)] (E4 y) []) (spec_EventOk e) := by
  unfold spec_EventOk
  exact
   Pn.ite (fun h1 =>
    Pn.ite (fun h2 =>
     Pn.some (Fn.of [.bit true, .bit true, .bit true, .bit true, .nm 13 (V.sc (.int .i64 (e.Data.length : Int))), .bit true, .bit true] (p := [(e.Kind == 1) = true,
      (e.K == 0) = true,
      (e.K == 0) = true,
      (e.K == 0) = true,
      V.sc (.int .i64 ((List.map E5 e.Data).length : Int)) = V.sc (.int .i64 (e.Data.length : Int)),
      (e.K == 0) = true,
      (e.K == 0) = true]) (by kernel_rfl) (cj h1 (cj h2 (cj h2 (cj h2 (cj (len_nm _ _) (cj h2 (cj1 h2))))))))) (fun h2 =>
     Pn.some (Fn.of [.bit true, .bit false, .bit false, .bit false, .bit false, .bit false] (p := [(e.Kind == 1) = true,
      (e.K == 0) = false,
      (e.K == 0) = false,
      (e.K == 0) = false,
      (e.K == 0) = false,
      (e.K == 0) = false]) (by kernel_rfl) (cj h1 (cj h2 (cj h2 (cj h2 (cj h2 (cj1 h2))))))))) (fun h1 =>
    Pn.ite (fun h3 =>
     Pn.bind (fun r1 h4 =>
      Pn.ite (fun h5 =>
       Pn.some (Fn.of [.bit false, .bit true, .call [] (E4 r1) [], .bit true, .bit true, .bit true, .nm 24 (V.sc (.int .i64 (e.Data.length : Int))), .bit true, .bit true] (p := [(e.Kind == 1) = false,
        (e.Kind == 2) = true,
        Fn Tryd.prog 45 [(false, E3 e.K), (false, E3 0), (false, E3 11)] (E4 r1) [],
        (true || ((E4 r1).nv && nvL [])) = true,
        r1 = true,
        r1 = true,
        r1 = true,
        V.sc (.int .i64 ((List.map E5 e.Data).length : Int)) = V.sc (.int .i64 (e.Data.length : Int)),
        r1 = true,
        r1 = true]) (by kernel_rfl) (cj h1 (cj h3 (cj (spec_l01In_ok e.K 0 11 r1 h4) (cj rfl (cj h5 (cj h5 (cj h5 (cj (len_nm _ _) (cj h5 (cj1 h5)))))))))))) (fun h5 =>
       Pn.some (Fn.of [.bit false, .bit true, .call [] (E4 r1) [], .bit false, .bit false, .bit false, .bit false, .bit false] (p := [(e.Kind == 1) = false,
        (e.Kind == 2) = true,
        Fn Tryd.prog 45 [(false, E3 e.K), (false, E3 0), (false, E3 11)] (E4 r1) [],
        (true || ((E4 r1).nv && nvL [])) = true,
        r1 = false,
        r1 = false,
        r1 = false,
        r1 = false,
        r1 = false]) (by kernel_rfl) (cj h1 (cj h3 (cj (spec_l01In_ok e.K 0 11 r1 h4) (cj rfl (cj h5 (cj h5 (cj h5 (cj h5 (cj1 h5))))))))))))) (fun h3 =>
     Pn.ite (fun h6 =>
      Pn.bind (fun r2 h7 =>
       Pn.ite (fun h8 =>
        Pn.some (Fn.of [.bit false, .bit false, .bit true, .bit true, .bit true, .call [] (E4 r2) [], .bit true, .bit true, .bit true, .bit true, .nm 38 (V.sc (.int .i64 (e.Data.length : Int))), .bit true, .bit true] (p := [(e.Kind == 1) = false,
         (e.Kind == 2) = false,
         (e.Kind == 3) = true,
         (e.Kind == 3) = true,
         (e.Kind == 3) = true,
         Fn Tryd.prog 45 [(false, E3 e.K), (false, E3 1), (false, E3 1000)] (E4 r2) [],
         (true || ((E4 r2).nv && nvL [])) = true,
         (e.Kind == 3) = true,
         r2 = true,
         r2 = true,
         r2 = true,
         V.sc (.int .i64 ((List.map E5 e.Data).length : Int)) = V.sc (.int .i64 (e.Data.length : Int)),
         r2 = true,
         r2 = true]) (by kernel_rfl) (cj h1 (cj h3 (cj h6 (cj h6 (cj h6 (cj (spec_l01In_ok e.K 1 1000 r2 h7) (cj rfl (cj h6 (cj h8 (cj h8 (cj h8 (cj (len_nm _ _) (cj h8 (cj1 h8)))))))))))))))) (fun h8 =>
        Pn.some (Fn.of [.bit false, .bit false, .bit true, .bit true, .bit true, .call [] (E4 r2) [], .bit true, .bit false, .bit false, .bit false, .bit false, .bit false] (p := [(e.Kind == 1) = false,
         (e.Kind == 2) = false,
         (e.Kind == 3) = true,
         (e.Kind == 3) = true,
         (e.Kind == 3) = true,
         Fn Tryd.prog 45 [(false, E3 e.K), (false, E3 1), (false, E3 1000)] (E4 r2) [],
         (true || ((E4 r2).nv && nvL [])) = true,
         (e.Kind == 3) = true,
         r2 = false,
         r2 = false,
         r2 = false,
         r2 = false,
         r2 = false]) (by kernel_rfl) (cj h1 (cj h3 (cj h6 (cj h6 (cj h6 (cj (spec_l01In_ok e.K 1 1000 r2 h7) (cj rfl (cj h6 (cj h8 (cj h8 (cj h8 (cj h8 (cj1 h8))))))))))))))))) (fun h6 =>
      Pn.some (Fn.of [.bit false, .bit false, .bit false, .bit false, .bit false, .bit false, .bit false, .bit false, .bit false, .bit false, .bit false] (p := [(e.Kind == 1) = false,
       (e.Kind == 2) = false,
       (e.Kind == 3) = false,
       (e.Kind == 3) = false,
       (e.Kind == 3) = false,
       (e.Kind == 3) = false,
       false = false,
       false = false,
       false = false,
       false = false,
       false = false]) (by kernel_rfl) (cj h1 (cj h3 (cj h6 (cj h6 (cj h6 (cj h6 (cj rfl (cj rfl (cj rfl (cj rfl (cj1 rfl)))))))))))))))
def spec_HexText_l0 (b : List Int) : List Int → ByteArray → Option (ByteArray)
  | [], v1 =>
   some v1
  | x1 :: t1, v1 =>
   if (decide (0 ≤ i64 (Int.tdiv (i64 x1) 16))) = true then
    if (decide ((i64 (Int.tdiv (i64 x1) 16) : Int) < ((bs [48, 49, 50, 51, 52, 53, 54, 55, 56, 57, 97, 98, 99, 100, 101, 102]).size : Int))) = true then
     if (decide (0 ≤ Int.tmod (i64 x1) 16)) = true then
      if (decide ((Int.tmod (i64 x1) 16 : Int) < ((bs [48, 49, 50, 51, 52, 53, 54, 55, 56, 57, 97, 98, 99, 100, 101, 102]).size : Int))) = true then
       if (decide (v1.size + (bstr [sAt (bs [48, 49, 50, 51, 52, 53, 54, 55, 56, 57, 97, 98, 99, 100, 101, 102]) (i64 (Int.tdiv (i64 x1) 16)), sAt (bs [48, 49, 50, 51, 52, 53, 54, 55, 56, 57, 97, 98, 99, 100, 101, 102]) (Int.tmod (i64 x1) 16)]).size ≤ 9223372036854775807)) = true then
        spec_HexText_l0 b t1 (v1 ++ (bstr [sAt (bs [48, 49, 50, 51, 52, 53, 54, 55, 56, 57, 97, 98, 99, 100, 101, 102]) (i64 (Int.tdiv (i64 x1) 16)), sAt (bs [48, 49, 50, 51, 52, 53, 54, 55, 56, 57, 97, 98, 99, 100, 101, 102]) (Int.tmod (i64 x1) 16)]))
       else none
      else none
     else none
    else none
   else none
theorem spec_HexText_l0_ok (b : List Int) (h2 : capOk b.length = true) : ∀ (t1 p1 : List Int) (_ : b = p1 ++ t1) (v1 : ByteArray), Pn (LpO Tryd.prog (sub (codeOf Tryd.prog 29) [1, 1, 0, 1, 0, 0]) (st 26 [(3, V.sc (.string v1)), (6, V.sl false 5 (List.map E5 b)), (7, V.sc (.int .i64 (b.length : Int))), (8, V.sc (.int .i64 (p1.length : Int)))] [] []) (fun (y : ByteArray) => (X.out 0, st 26 [(3, V.sc (.string y))] [] []))) (spec_HexText_l0 b t1 v1)
  | [], p1, h1, v1 => by
    unfold spec_HexText_l0
    exact
     Pn.some (LpO.out [.bit false, .mask [3], .ren []] (p := [(decide ((p1.length : Int) < (b.length : Int))) = false]) (by kernel_rfl) (show X.out 0 ≠ X.go from nofun) (cj1 (rng_end h1)))
  | x1 :: t1, p1, h1, v1 => by
    unfold spec_HexText_l0
    exact
     Pn.ite (fun h3 =>
      Pn.ite (fun h4 =>
       Pn.ite (fun h5 =>
        Pn.ite (fun h6 =>
         Pn.ite (fun h7 =>
          LpO.go [.bit true, .el (E5 x1), .draw [], .ints [sAt (bs [48, 49, 50, 51, 52, 53, 54, 55, 56, 57, 97, 98, 99, 100, 101, 102]) (i64 (Int.tdiv (i64 x1) 16)), sAt (bs [48, 49, 50, 51, 52, 53, 54, 55, 56, 57, 97, 98, 99, 100, 101, 102]) (Int.tmod (i64 x1) 16)], .wait 5, .mask [3, 6, 7, 8], .ren [], .nm 8 (V.sc (.int .i64 ((p1 ++ [x1]).length : Int)))] (p := [(decide ((p1.length : Int) < (b.length : Int))) = true,
           (0 : Int) ≤ (p1.length : Int),
           (List.map E5 b)[(p1.length : Int).toNat]? = some (E5 x1),
           (16 : Int) ≠ 0,
           (0 : Int) ≤ i64 (Int.tdiv (i64 x1) 16),
           (i64 (Int.tdiv (i64 x1) 16) : Int) < (bs [48, 49, 50, 51, 52, 53, 54, 55, 56, 57, 97, 98, 99, 100, 101, 102]).size,
           (16 : Int) ≠ 0,
           (0 : Int) ≤ Int.tmod (i64 x1) 16,
           (Int.tmod (i64 x1) 16 : Int) < (bs [48, 49, 50, 51, 52, 53, 54, 55, 56, 57, 97, 98, 99, 100, 101, 102]).size,
           [V.sc (.int .u8 (sAt (bs [48, 49, 50, 51, 52, 53, 54, 55, 56, 57, 97, 98, 99, 100, 101, 102]) (i64 (Int.tdiv (i64 x1) 16)))), V.sc (.int .u8 (sAt (bs [48, 49, 50, 51, 52, 53, 54, 55, 56, 57, 97, 98, 99, 100, 101, 102]) (Int.tmod (i64 x1) 16)))] = [sAt (bs [48, 49, 50, 51, 52, 53, 54, 55, 56, 57, 97, 98, 99, 100, 101, 102]) (i64 (Int.tdiv (i64 x1) 16)), sAt (bs [48, 49, 50, 51, 52, 53, 54, 55, 56, 57, 97, 98, 99, 100, 101, 102]) (Int.tmod (i64 x1) 16)].map fun n => V.sc (.int .u8 n),
           v1.size + (bstr [sAt (bs [48, 49, 50, 51, 52, 53, 54, 55, 56, 57, 97, 98, 99, 100, 101, 102]) (i64 (Int.tdiv (i64 x1) 16)), sAt (bs [48, 49, 50, 51, 52, 53, 54, 55, 56, 57, 97, 98, 99, 100, 101, 102]) (Int.tmod (i64 x1) 16)]).size ≤ 9223372036854775807,
           V.sc (.int .i64 (i64 ((p1.length : Int) + 1))) = V.sc (.int .i64 ((p1 ++ [x1]).length : Int))]) (by kernel_rfl) (cj (rng_lt h1) (cj (by omega) (cj (rng_get _ h1) (cj (by decide) (cj (od h3) (cj (od h4) (cj (by decide) (cj (od h5) (cj (od h6) (cj rfl (cj (od h7) (cj1 (rng_next h1 h2))))))))))))) (spec_HexText_l0_ok b h2 t1 (p1 ++ [x1]) (rng_step h1) (v1 ++ (bstr [sAt (bs [48, 49, 50, 51, 52, 53, 54, 55, 56, 57, 97, 98, 99, 100, 101, 102]) (i64 (Int.tdiv (i64 x1) 16)), sAt (bs [48, 49, 50, 51, 52, 53, 54, 55, 56, 57, 97, 98, 99, 100, 101, 102]) (Int.tmod (i64 x1) 16)])))) (fun h7 =>
          Pn.none)) (fun h6 =>
         Pn.none)) (fun h5 =>
        Pn.none)) (fun h4 =>
       Pn.none)) (fun h3 =>
      Pn.none)
def spec_HexText (b : List Int) : Option (ByteArray) :=
 if (capOk b.length) = true then
  (spec_HexText_l0 b b (bs [])).bind fun r1 =>
  some r1
 else none
theorem spec_HexText_ok (b : List Int) : Pn (fun y => Fn Tryd.prog 29 [(false, E29 b)] (E9 y) []) (spec_HexText b) := by
  unfold spec_HexText
  exact
   Pn.ite (fun h8 =>
    Pn.bind (fun r1 h9 =>
     Pn.some (Fn.of [.wait 4, .nm 7 (V.sc (.int .i64 (b.length : Int))), .wait 2, .mask [3, 6, 7, 8], .ren [], .loop (X.out 0) (st 26 [(3, V.sc (.string r1))] [] [])] (p := [V.sc (.int .i64 ((List.map E5 b).length : Int)) = V.sc (.int .i64 (b.length : Int)),
      Loop Tryd.prog (sub (codeOf Tryd.prog 29) [1, 1, 0, 1, 0, 0]) (st 26 [(3, V.sc (.string (bs []))), (6, V.sl false 5 (List.map E5 b)), (7, V.sc (.int .i64 (b.length : Int))), (8, V.sc (.int .i64 0))] [] []) (X.out 0) (st 26 [(3, V.sc (.string r1))] [] [])]) (by kernel_rfl) (cj (len_nm _ _) (cj1 (spec_HexText_l0_ok b h8 b [] rfl (bs []) r1 h9)))))) (fun h8 =>
    Pn.none)
def spec_l01Money (n : Int) : Option (Bool) :=
 if (decide (0 ≤ n)) = true then
  some (decide (n ≤ 4611686018427387904))
 else
  some false
theorem spec_l01Money_ok (n : Int) : Pn (fun y => Fn Tryd.prog 42 [(false, E3 n)] (E4 y) []) (spec_l01Money n) := by
  unfold spec_l01Money
  exact
   Pn.ite (fun h1 =>
    Pn.some (Fn.of [.bit true, .bit true, .bit true] (p := [(decide (0 ≤ n)) = true,
     (decide (0 ≤ n)) = true,
     (decide (0 ≤ n)) = true]) (by kernel_rfl) (cj h1 (cj h1 (cj1 h1))))) (fun h1 =>
    Pn.some (Fn.of [.bit false, .bit false, .bit false] (p := [(decide (0 ≤ n)) = false,
     (decide (0 ≤ n)) = false,
     (decide (0 ≤ n)) = false]) (by kernel_rfl) (cj h1 (cj h1 (cj1 h1)))))
def spec_NumText_l0 (n : Int) : Nat → Int → ByteArray → Option (Int × ByteArray)
  | 0, _, _ => none
  | fuel + 1, v1, v2 =>
   if (decide (9 < v1)) = true then
    if (decide ((bstr [u8 (i64 (48 + (Int.tmod v1 10)))]).size + v2.size ≤ 9223372036854775807)) = true then
     spec_NumText_l0 n fuel (i64 (Int.tdiv v1 10)) ((bstr [u8 (i64 (48 + (Int.tmod v1 10)))]) ++ v2)
    else none
   else
    some (v1, v2)
theorem spec_NumText_l0_ok (n : Int) : ∀ (fuel : Nat) (v1 : Int) (v2 : ByteArray), Pn (LpO Tryd.prog (sub (codeOf Tryd.prog 25) [1, 1, 1, 0, 0, 0]) (st 26 [(0, V.sc (.int .i64 v1)), (3, V.sc (.string v2))] [] []) (fun (y : Int × ByteArray) => (X.out 0, st 26 [(0, V.sc (.int .i64 y.1)), (3, V.sc (.string y.2))] [] []))) (spec_NumText_l0 n fuel v1 v2)
  | 0, _, _ => Pn.none
  | fuel + 1, v1, v2 => by
    unfold spec_NumText_l0
    exact
     Pn.ite (fun h3 =>
      Pn.ite (fun h4 =>
       LpO.go [.bit true, .ints [u8 (i64 (48 + (Int.tmod v1 10)))], .wait 7, .mask [0, 3], .ren []] (p := [(decide (9 < v1)) = true,
        (10 : Int) ≠ 0,
        [V.sc (.int .u8 (u8 (i64 (48 + (Int.tmod v1 10)))))] = [u8 (i64 (48 + (Int.tmod v1 10)))].map fun n => V.sc (.int .u8 n),
        (bstr [u8 (i64 (48 + (Int.tmod v1 10)))]).size + v2.size ≤ 9223372036854775807,
        (10 : Int) ≠ 0]) (by kernel_rfl) (cj h3 (cj (by decide) (cj rfl (cj (od h4) (cj1 (by decide)))))) (spec_NumText_l0_ok n fuel (i64 (Int.tdiv v1 10)) ((bstr [u8 (i64 (48 + (Int.tmod v1 10)))]) ++ v2))) (fun h4 =>
       Pn.none)) (fun h3 =>
      Pn.some (LpO.out [.bit false, .mask [0, 3], .ren []] (p := [(decide (9 < v1)) = false]) (by kernel_rfl) (show X.out 0 ≠ X.go from nofun) (cj1 h3)))
def spec_NumText (n : Int) : Option (ByteArray) :=
 (spec_l01Money n).bind fun r1 =>
 if r1 = true then
  (spec_NumText_l0 n FUEL n (bs [])).bind fun r2 =>
  if (decide ((bstr [u8 (i64 (48 + r2.1))]).size + r2.2.size ≤ 9223372036854775807)) = true then
   some ((bstr [u8 (i64 (48 + r2.1))]) ++ r2.2)
  else none
 else
  some (bs [])
theorem spec_NumText_ok (n : Int) : Pn (fun y => Fn Tryd.prog 25 [(false, E3 n)] (E9 y) []) (spec_NumText n) := by
  unfold spec_NumText
  exact
   Pn.bind (fun r1 h1 =>
    Pn.ite (fun h2 =>
     Pn.bind (fun r2 h5 =>
      Pn.ite (fun h6 =>
       Pn.some (Fn.of [.call [] (E4 r1) [], .bit false, .wait 1, .mask [0, 3], .ren [], .loop (X.out 0) (st 26 [(0, V.sc (.int .i64 r2.1)), (3, V.sc (.string r2.2))] [] []), .ints [u8 (i64 (48 + r2.1))]] (p := [Fn Tryd.prog 42 [(false, E3 n)] (E4 r1) [],
        (true || ((E4 r1).nv && nvL [])) = true,
        (!r1) = false,
        Loop Tryd.prog (sub (codeOf Tryd.prog 25) [1, 1, 1, 0, 0, 0]) (st 26 [(0, V.sc (.int .i64 n)), (3, V.sc (.string (bs [])))] [] []) (X.out 0) (st 26 [(0, V.sc (.int .i64 r2.1)), (3, V.sc (.string r2.2))] [] []),
        [V.sc (.int .u8 (u8 (i64 (48 + r2.1))))] = [u8 (i64 (48 + r2.1))].map fun n => V.sc (.int .u8 n),
        (bstr [u8 (i64 (48 + r2.1))]).size + r2.2.size ≤ 9223372036854775807]) (by kernel_rfl) (cj (spec_l01Money_ok n r1 h1) (cj rfl (cj (nf h2) (cj (spec_NumText_l0_ok n FUEL n (bs []) r2 h5) (cj rfl (cj1 (od h6))))))))) (fun h6 =>
       Pn.none))) (fun h2 =>
     Pn.some (Fn.of [.call [] (E4 r1) [], .bit true] (p := [Fn Tryd.prog 42 [(false, E3 n)] (E4 r1) [],
      (true || ((E4 r1).nv && nvL [])) = true,
      (!r1) = true]) (by kernel_rfl) (cj (spec_l01Money_ok n r1 h1) (cj rfl (cj1 (nt h2)))))))
def spec_EventText (e : Event) : Option (ByteArray) :=
 (spec_EventOk e).bind fun r1 =>
 if r1 = true then
  if (e.Kind == 1) = true then
   (spec_HexText e.Data).bind fun r2 =>
   if (decide ((bs [97, 114, 114, 105, 118, 101, 32]).size + r2.size ≤ 9223372036854775807)) = true then
    some ((bs [97, 114, 114, 105, 118, 101, 32]) ++ r2)
   else none
  else
   if (e.Kind == 2) = true then
    (spec_NumText e.K).bind fun r3 =>
    if (decide ((bs [112, 105, 99, 107, 32]).size + r3.size ≤ 9223372036854775807)) = true then
     some ((bs [112, 105, 99, 107, 32]) ++ r3)
    else none
   else
    (spec_NumText e.K).bind fun r4 =>
    if (decide ((bs [112, 97, 115, 115, 32]).size + r4.size ≤ 9223372036854775807)) = true then
     some ((bs [112, 97, 115, 115, 32]) ++ r4)
    else none
 else
  some (bs [])
theorem spec_EventText_ok (e : Event) : Pn (fun y => Fn Tryd.prog 12 [(false, E34 e)] (E9 y) []) (spec_EventText e) := by
  unfold spec_EventText
  exact
   Pn.bind (fun r1 h1 =>
    Pn.ite (fun h2 =>
     Pn.ite (fun h3 =>
      Pn.bind (fun r2 h4 =>
       Pn.ite (fun h5 =>
        Pn.some (Fn.of [.call [] (E4 r1) [], .bit false, .bit true, .call [] (E9 r2) []] (p := [Fn Tryd.prog 28 [(false, E34 e)] (E4 r1) [],
         (true || ((E4 r1).nv && nvL [])) = true,
         (!r1) = false,
         (e.Kind == 1) = true,
         Fn Tryd.prog 29 [(false, E29 e.Data)] (E9 r2) [],
         (true || ((E9 r2).nv && nvL [])) = true,
         (bs [97, 114, 114, 105, 118, 101, 32]).size + r2.size ≤ 9223372036854775807]) (by kernel_rfl) (cj (spec_EventOk_ok e r1 h1) (cj rfl (cj (nf h2) (cj h3 (cj (spec_HexText_ok e.Data r2 h4) (cj rfl (cj1 (od h5)))))))))) (fun h5 =>
        Pn.none))) (fun h3 =>
      Pn.ite (fun h6 =>
       Pn.bind (fun r3 h7 =>
        Pn.ite (fun h8 =>
         Pn.some (Fn.of [.call [] (E4 r1) [], .bit false, .bit false, .bit true, .call [] (E9 r3) []] (p := [Fn Tryd.prog 28 [(false, E34 e)] (E4 r1) [],
          (true || ((E4 r1).nv && nvL [])) = true,
          (!r1) = false,
          (e.Kind == 1) = false,
          (e.Kind == 2) = true,
          Fn Tryd.prog 25 [(false, E3 e.K)] (E9 r3) [],
          (true || ((E9 r3).nv && nvL [])) = true,
          (bs [112, 105, 99, 107, 32]).size + r3.size ≤ 9223372036854775807]) (by kernel_rfl) (cj (spec_EventOk_ok e r1 h1) (cj rfl (cj (nf h2) (cj h3 (cj h6 (cj (spec_NumText_ok e.K r3 h7) (cj rfl (cj1 (od h8))))))))))) (fun h8 =>
         Pn.none))) (fun h6 =>
       Pn.bind (fun r4 h9 =>
        Pn.ite (fun h10 =>
         Pn.some (Fn.of [.call [] (E4 r1) [], .bit false, .bit false, .bit false, .call [] (E9 r4) []] (p := [Fn Tryd.prog 28 [(false, E34 e)] (E4 r1) [],
          (true || ((E4 r1).nv && nvL [])) = true,
          (!r1) = false,
          (e.Kind == 1) = false,
          (e.Kind == 2) = false,
          Fn Tryd.prog 25 [(false, E3 e.K)] (E9 r4) [],
          (true || ((E9 r4).nv && nvL [])) = true,
          (bs [112, 97, 115, 115, 32]).size + r4.size ≤ 9223372036854775807]) (by kernel_rfl) (cj (spec_EventOk_ok e r1 h1) (cj rfl (cj (nf h2) (cj h3 (cj h6 (cj (spec_NumText_ok e.K r4 h9) (cj rfl (cj1 (od h10))))))))))) (fun h10 =>
         Pn.none))))) (fun h2 =>
     Pn.some (Fn.of [.call [] (E4 r1) [], .bit true] (p := [Fn Tryd.prog 28 [(false, E34 e)] (E4 r1) [],
      (true || ((E4 r1).nv && nvL [])) = true,
      (!r1) = true]) (by kernel_rfl) (cj (spec_EventOk_ok e r1 h1) (cj rfl (cj1 (nt h2)))))))
def spec_EventsText_l0 (l : List Event) : List Event → ByteArray → Option (Lo ByteArray Unit)
  | [], v1 =>
   some (.out v1)
  | x1 :: t1, v1 =>
   (spec_EventText x1).bind fun r1 =>
   if (r1 == (bs [])) = true then
    some (.ret ())
   else
    if (decide (v1.size + r1.size ≤ 9223372036854775807)) = true then
     if (decide ((v1 ++ r1).size + (bs [10]).size ≤ 9223372036854775807)) = true then
      spec_EventsText_l0 l t1 ((v1 ++ r1) ++ (bs [10]))
     else none
    else none
theorem spec_EventsText_l0_ok (l : List Event) (h2 : capOk l.length = true) : ∀ (t1 p1 : List Event) (_ : l = p1 ++ t1) (v1 : ByteArray), Pn (LpO Tryd.prog (sub (codeOf Tryd.prog 17) [1, 1, 0, 1, 0, 0]) (st 23 [(3, V.sc (.string v1)), (7, V.sl false 34 (List.map E34 l)), (8, V.sc (.int .i64 (l.length : Int))), (9, V.sc (.int .i64 (p1.length : Int)))] [] []) (fun (y : Lo ByteArray Unit) => Lo.elim y (fun s => (X.out 0, st 23 [(3, V.sc (.string s))] [] [])) (fun s => (X.ret, st 23 [(2, V.sc (.string (bs [])))] [] [])))) (spec_EventsText_l0 l t1 v1)
  | [], p1, h1, v1 => by
    unfold spec_EventsText_l0
    exact
     Pn.some (LpO.out [.bit false, .mask [3], .ren []] (p := [(decide ((p1.length : Int) < (l.length : Int))) = false]) (by kernel_rfl) (show X.out 0 ≠ X.go from nofun) (cj1 (rng_end h1)))
  | x1 :: t1, p1, h1, v1 => by
    unfold spec_EventsText_l0
    exact
     Pn.bind (fun r1 h3 =>
      Pn.ite (fun h4 =>
       Pn.some (LpO.out [.bit true, .el (E34 x1), .call [] (E9 r1) [], .bit true, .wait 1, .mask [2], .ren []] (p := [(decide ((p1.length : Int) < (l.length : Int))) = true,
        (0 : Int) ≤ (p1.length : Int),
        (List.map E34 l)[(p1.length : Int).toNat]? = some (E34 x1),
        Fn Tryd.prog 12 [(false, E34 x1)] (E9 r1) [],
        (true || ((E9 r1).nv && nvL [])) = true,
        (r1 == (bs [])) = true]) (by kernel_rfl) (show X.ret ≠ X.go from nofun) (cj (rng_lt h1) (cj (by omega) (cj (rng_get _ h1) (cj (spec_EventText_ok x1 r1 h3) (cj rfl (cj1 h4)))))))) (fun h4 =>
       Pn.ite (fun h5 =>
        Pn.ite (fun h6 =>
         LpO.go [.bit true, .el (E34 x1), .call [] (E9 r1) [], .bit false, .wait 7, .mask [3, 7, 8, 9], .ren [], .nm 9 (V.sc (.int .i64 ((p1 ++ [x1]).length : Int)))] (p := [(decide ((p1.length : Int) < (l.length : Int))) = true,
          (0 : Int) ≤ (p1.length : Int),
          (List.map E34 l)[(p1.length : Int).toNat]? = some (E34 x1),
          Fn Tryd.prog 12 [(false, E34 x1)] (E9 r1) [],
          (true || ((E9 r1).nv && nvL [])) = true,
          (r1 == (bs [])) = false,
          v1.size + r1.size ≤ 9223372036854775807,
          (v1 ++ r1).size + (bs [10]).size ≤ 9223372036854775807,
          V.sc (.int .i64 (i64 ((p1.length : Int) + 1))) = V.sc (.int .i64 ((p1 ++ [x1]).length : Int))]) (by kernel_rfl) (cj (rng_lt h1) (cj (by omega) (cj (rng_get _ h1) (cj (spec_EventText_ok x1 r1 h3) (cj rfl (cj h4 (cj (od h5) (cj (od h6) (cj1 (rng_next h1 h2)))))))))) (spec_EventsText_l0_ok l h2 t1 (p1 ++ [x1]) (rng_step h1) ((v1 ++ r1) ++ (bs [10])))) (fun h6 =>
         Pn.none)) (fun h5 =>
        Pn.none)))
def spec_EventsText (l : List Event) : Option (ByteArray) :=
 if (capOk l.length) = true then
  (spec_EventsText_l0 l l (bs [])).bind fun r2 =>
  Lo.elim r2 (fun s1 =>
   some s1) (fun s2 =>
   some (bs []))
 else none
theorem spec_EventsText_ok (l : List Event) : Pn (fun y => Fn Tryd.prog 17 [(false, E41 l)] (E9 y) []) (spec_EventsText l) := by
  unfold spec_EventsText
  exact
   Pn.ite (fun h7 =>
    Pn.bind (fun r2 h8 =>
     Pn.lo (fun s1 h9 =>
      Pn.some (Fn.of [.wait 4, .nm 8 (V.sc (.int .i64 (l.length : Int))), .wait 2, .mask [3, 7, 8, 9], .ren [], .loop (X.out 0) (st 23 [(3, V.sc (.string s1))] [] [])] (p := [V.sc (.int .i64 ((List.map E34 l).length : Int)) = V.sc (.int .i64 (l.length : Int)),
       Loop Tryd.prog (sub (codeOf Tryd.prog 17) [1, 1, 0, 1, 0, 0]) (st 23 [(3, V.sc (.string (bs []))), (7, V.sl false 34 (List.map E34 l)), (8, V.sc (.int .i64 (l.length : Int))), (9, V.sc (.int .i64 0))] [] []) (X.out 0) (st 23 [(3, V.sc (.string s1))] [] [])]) (by kernel_rfl) (cj (len_nm _ _) (cj1 ((spec_EventsText_l0_ok l h7 l [] rfl (bs []) r2 h8).at h9))))) (fun s2 h10 =>
      Pn.some (Fn.of [.wait 4, .nm 8 (V.sc (.int .i64 (l.length : Int))), .wait 2, .mask [3, 7, 8, 9], .ren [], .loop (X.ret) (st 23 [(2, V.sc (.string (bs [])))] [] [])] (p := [V.sc (.int .i64 ((List.map E34 l).length : Int)) = V.sc (.int .i64 (l.length : Int)),
       Loop Tryd.prog (sub (codeOf Tryd.prog 17) [1, 1, 0, 1, 0, 0]) (st 23 [(3, V.sc (.string (bs []))), (7, V.sl false 34 (List.map E34 l)), (8, V.sc (.int .i64 (l.length : Int))), (9, V.sc (.int .i64 0))] [] []) (X.ret) (st 23 [(2, V.sc (.string (bs [])))] [] [])]) (by kernel_rfl) (cj (len_nm _ _) (cj1 ((spec_EventsText_l0_ok l h7 l [] rfl (bs []) r2 h8).at h10))))))) (fun h7 =>
    Pn.none)
def impl_within (n : Int) (low : Int) (high : Int) : Option (Bool) :=
 if (decide (low ≤ n)) = true then
  some (decide (n ≤ high))
 else
  some false
theorem impl_within_ok (n : Int) (low : Int) (high : Int) : Pn (fun y => Fn Tryd.prog 46 [(false, E3 n), (false, E3 low), (false, E3 high)] (E4 y) []) (impl_within n low high) := by
  unfold impl_within
  exact
   Pn.ite (fun h1 =>
    Pn.some (Fn.of [.bit true, .bit true, .bit true, .bit true] (p := [(decide (low ≤ n)) = true,
     (decide (low ≤ n)) = true,
     (decide (low ≤ n)) = true,
     (decide (low ≤ n)) = true]) (by kernel_rfl) (cj h1 (cj h1 (cj h1 (cj1 h1)))))) (fun h1 =>
    Pn.some (Fn.of [.bit false, .bit false, .bit false, .bit false] (p := [(decide (low ≤ n)) = false,
     (decide (low ≤ n)) = false,
     (decide (low ≤ n)) = false,
     (decide (low ≤ n)) = false]) (by kernel_rfl) (cj h1 (cj h1 (cj h1 (cj1 h1))))))
def impl_EventOk (e : Event) : Option (Bool) :=
 if (e.Kind == 1) = true then
  if (e.K == 0) = true then
   some (decide ((e.Data.length : Int) ≤ 300))
  else
   some false
 else
  if (e.Kind == 2) = true then
   (impl_within e.K 0 11).bind fun r1 =>
   if r1 = true then
    some ((e.Data.length : Int) == 0)
   else
    some false
  else
   if (e.Kind == 3) = true then
    (impl_within e.K 1 1000).bind fun r2 =>
    if r2 = true then
     some ((e.Data.length : Int) == 0)
    else
     some false
   else
    some false
theorem impl_EventOk_ok (e : Event) : Pn (fun y => Fn Tryd.prog 31 [(false, E34 e)] (E4 y) []) (impl_EventOk e) := by
  unfold impl_EventOk
  exact
   Pn.ite (fun h1 =>
    Pn.ite (fun h2 =>
     Pn.some (Fn.of [.bit true, .bit true, .bit true, .bit true, .nm 13 (V.sc (.int .i64 (e.Data.length : Int))), .bit true, .bit true] (p := [(e.Kind == 1) = true,
      (e.K == 0) = true,
      (e.K == 0) = true,
      (e.K == 0) = true,
      V.sc (.int .i64 ((List.map E5 e.Data).length : Int)) = V.sc (.int .i64 (e.Data.length : Int)),
      (e.K == 0) = true,
      (e.K == 0) = true]) (by kernel_rfl) (cj h1 (cj h2 (cj h2 (cj h2 (cj (len_nm _ _) (cj h2 (cj1 h2))))))))) (fun h2 =>
     Pn.some (Fn.of [.bit true, .bit false, .bit false, .bit false, .bit false, .bit false] (p := [(e.Kind == 1) = true,
      (e.K == 0) = false,
      (e.K == 0) = false,
      (e.K == 0) = false,
      (e.K == 0) = false,
      (e.K == 0) = false]) (by kernel_rfl) (cj h1 (cj h2 (cj h2 (cj h2 (cj h2 (cj1 h2))))))))) (fun h1 =>
    Pn.ite (fun h3 =>
     Pn.bind (fun r1 h4 =>
      Pn.ite (fun h5 =>
       Pn.some (Fn.of [.bit false, .bit true, .call [] (E4 r1) [], .bit true, .bit true, .bit true, .nm 24 (V.sc (.int .i64 (e.Data.length : Int))), .bit true, .bit true] (p := [(e.Kind == 1) = false,
        (e.Kind == 2) = true,
        Fn Tryd.prog 46 [(false, E3 e.K), (false, E3 0), (false, E3 11)] (E4 r1) [],
        (true || ((E4 r1).nv && nvL [])) = true,
        r1 = true,
        r1 = true,
        r1 = true,
        V.sc (.int .i64 ((List.map E5 e.Data).length : Int)) = V.sc (.int .i64 (e.Data.length : Int)),
        r1 = true,
        r1 = true]) (by kernel_rfl) (cj h1 (cj h3 (cj (impl_within_ok e.K 0 11 r1 h4) (cj rfl (cj h5 (cj h5 (cj h5 (cj (len_nm _ _) (cj h5 (cj1 h5)))))))))))) (fun h5 =>
       Pn.some (Fn.of [.bit false, .bit true, .call [] (E4 r1) [], .bit false, .bit false, .bit false, .bit false, .bit false] (p := [(e.Kind == 1) = false,
        (e.Kind == 2) = true,
        Fn Tryd.prog 46 [(false, E3 e.K), (false, E3 0), (false, E3 11)] (E4 r1) [],
        (true || ((E4 r1).nv && nvL [])) = true,
        r1 = false,
        r1 = false,
        r1 = false,
        r1 = false,
        r1 = false]) (by kernel_rfl) (cj h1 (cj h3 (cj (impl_within_ok e.K 0 11 r1 h4) (cj rfl (cj h5 (cj h5 (cj h5 (cj h5 (cj1 h5))))))))))))) (fun h3 =>
     Pn.ite (fun h6 =>
      Pn.bind (fun r2 h7 =>
       Pn.ite (fun h8 =>
        Pn.some (Fn.of [.bit false, .bit false, .bit true, .call [] (E4 r2) [], .bit true, .bit true, .bit true, .nm 35 (V.sc (.int .i64 (e.Data.length : Int))), .bit true, .bit true] (p := [(e.Kind == 1) = false,
         (e.Kind == 2) = false,
         (e.Kind == 3) = true,
         Fn Tryd.prog 46 [(false, E3 e.K), (false, E3 1), (false, E3 1000)] (E4 r2) [],
         (true || ((E4 r2).nv && nvL [])) = true,
         r2 = true,
         r2 = true,
         r2 = true,
         V.sc (.int .i64 ((List.map E5 e.Data).length : Int)) = V.sc (.int .i64 (e.Data.length : Int)),
         r2 = true,
         r2 = true]) (by kernel_rfl) (cj h1 (cj h3 (cj h6 (cj (impl_within_ok e.K 1 1000 r2 h7) (cj rfl (cj h8 (cj h8 (cj h8 (cj (len_nm _ _) (cj h8 (cj1 h8))))))))))))) (fun h8 =>
        Pn.some (Fn.of [.bit false, .bit false, .bit true, .call [] (E4 r2) [], .bit false, .bit false, .bit false, .bit false, .bit false] (p := [(e.Kind == 1) = false,
         (e.Kind == 2) = false,
         (e.Kind == 3) = true,
         Fn Tryd.prog 46 [(false, E3 e.K), (false, E3 1), (false, E3 1000)] (E4 r2) [],
         (true || ((E4 r2).nv && nvL [])) = true,
         r2 = false,
         r2 = false,
         r2 = false,
         r2 = false,
         r2 = false]) (by kernel_rfl) (cj h1 (cj h3 (cj h6 (cj (impl_within_ok e.K 1 1000 r2 h7) (cj rfl (cj h8 (cj h8 (cj h8 (cj h8 (cj1 h8)))))))))))))) (fun h6 =>
      Pn.some (Fn.of [.bit false, .bit false, .bit false] (p := [(e.Kind == 1) = false,
       (e.Kind == 2) = false,
       (e.Kind == 3) = false]) (by kernel_rfl) (cj h1 (cj h3 (cj1 h6)))))))
def impl_HexText_l0 (b : List Int) : List Int → (List Int) → Option ((List Int))
  | [], v1 =>
   some v1
  | x1 :: t1, v1 =>
   if (decide (0 ≤ bshr .u8 x1 4)) = true then
    if (decide ((bshr .u8 x1 4 : Int) < ((bs [48, 49, 50, 51, 52, 53, 54, 55, 56, 57, 97, 98, 99, 100, 101, 102]).size : Int))) = true then
     if (decide (0 ≤ band .u8 x1 15)) = true then
      if (decide ((band .u8 x1 15 : Int) < ((bs [48, 49, 50, 51, 52, 53, 54, 55, 56, 57, 97, 98, 99, 100, 101, 102]).size : Int))) = true then
       if (capOk (v1.length + 2)) = true then
        impl_HexText_l0 b t1 (v1 ++ [sAt (bs [48, 49, 50, 51, 52, 53, 54, 55, 56, 57, 97, 98, 99, 100, 101, 102]) (bshr .u8 x1 4), sAt (bs [48, 49, 50, 51, 52, 53, 54, 55, 56, 57, 97, 98, 99, 100, 101, 102]) (band .u8 x1 15)])
       else none
      else none
     else none
    else none
   else none
theorem impl_HexText_l0_ok (b : List Int) (h2 : capOk b.length = true) : ∀ (t1 p1 : List Int) (_ : b = p1 ++ t1) (v1 : List Int), Pn (LpO Tryd.prog (sub (codeOf Tryd.prog 32) [1, 1, 0, 1, 0, 0]) (st 25 [(3, V.ow 0), (7, V.sl false 5 (List.map E5 b)), (8, V.sc (.int .i64 (b.length : Int))), (9, V.sc (.int .i64 (p1.length : Int)))] [Blk.row 5 (List.map E5 v1) []] []) (fun (y : (List Int)) => (X.out 0, st 25 [(3, V.ow 0)] [Blk.row 5 (List.map E5 y) []] []))) (impl_HexText_l0 b t1 v1)
  | [], p1, h1, v1 => by
    unfold impl_HexText_l0
    exact
     Pn.some (LpO.out [.bit false, .mask [3], .ren [0]] (p := [(decide ((p1.length : Int) < (b.length : Int))) = false]) (by kernel_rfl) (show X.out 0 ≠ X.go from nofun) (cj1 (rng_end h1)))
  | x1 :: t1, p1, h1, v1 => by
    unfold impl_HexText_l0
    exact
     Pn.ite (fun h3 =>
      Pn.ite (fun h4 =>
       Pn.ite (fun h5 =>
        Pn.ite (fun h6 =>
         Pn.ite (fun h7 =>
          LpO.go [.bit true, .el (E5 x1), .draw [8], .cp [V.sc (.int .u8 (sAt (bs [48, 49, 50, 51, 52, 53, 54, 55, 56, 57, 97, 98, 99, 100, 101, 102]) (bshr .u8 x1 4))), V.sc (.int .u8 (sAt (bs [48, 49, 50, 51, 52, 53, 54, 55, 56, 57, 97, 98, 99, 100, 101, 102]) (band .u8 x1 15)))], .nb 2 (.row 5 (List.map E5 (v1 ++ [sAt (bs [48, 49, 50, 51, 52, 53, 54, 55, 56, 57, 97, 98, 99, 100, 101, 102]) (bshr .u8 x1 4), sAt (bs [48, 49, 50, 51, 52, 53, 54, 55, 56, 57, 97, 98, 99, 100, 101, 102]) (band .u8 x1 15)])) []), .wait 4, .mask [3, 7, 8, 9], .ren [2], .nm 9 (V.sc (.int .i64 ((p1 ++ [x1]).length : Int)))] (p := [(decide ((p1.length : Int) < (b.length : Int))) = true,
           (0 : Int) ≤ (p1.length : Int),
           (List.map E5 b)[(p1.length : Int).toNat]? = some (E5 x1),
           ¬ (4 : Int) < 0,
           (0 : Int) ≤ bshr .u8 x1 4,
           (bshr .u8 x1 4 : Int) < (bs [48, 49, 50, 51, 52, 53, 54, 55, 56, 57, 97, 98, 99, 100, 101, 102]).size,
           (0 : Int) ≤ band .u8 x1 15,
           (band .u8 x1 15 : Int) < (bs [48, 49, 50, 51, 52, 53, 54, 55, 56, 57, 97, 98, 99, 100, 101, 102]).size,
           [V.sc (.int .u8 (sAt (bs [48, 49, 50, 51, 52, 53, 54, 55, 56, 57, 97, 98, 99, 100, 101, 102]) (bshr .u8 x1 4))), V.sc (.int .u8 (sAt (bs [48, 49, 50, 51, 52, 53, 54, 55, 56, 57, 97, 98, 99, 100, 101, 102]) (band .u8 x1 15)))] = [V.sc (.int .u8 (sAt (bs [48, 49, 50, 51, 52, 53, 54, 55, 56, 57, 97, 98, 99, 100, 101, 102]) (bshr .u8 x1 4))), V.sc (.int .u8 (sAt (bs [48, 49, 50, 51, 52, 53, 54, 55, 56, 57, 97, 98, 99, 100, 101, 102]) (band .u8 x1 15)))],
           [V.sc (.int .u8 (sAt (bs [48, 49, 50, 51, 52, 53, 54, 55, 56, 57, 97, 98, 99, 100, 101, 102]) (bshr .u8 x1 4))), V.sc (.int .u8 (sAt (bs [48, 49, 50, 51, 52, 53, 54, 55, 56, 57, 97, 98, 99, 100, 101, 102]) (band .u8 x1 15)))].all V.flatE = true,
           (List.map E5 v1).length + [V.sc (.int .u8 (sAt (bs [48, 49, 50, 51, 52, 53, 54, 55, 56, 57, 97, 98, 99, 100, 101, 102]) (bshr .u8 x1 4))), V.sc (.int .u8 (sAt (bs [48, 49, 50, 51, 52, 53, 54, 55, 56, 57, 97, 98, 99, 100, 101, 102]) (band .u8 x1 15)))].length ≤ 9223372036854775807,
           ((List.map E5 v1).length + [V.sc (.int .u8 (sAt (bs [48, 49, 50, 51, 52, 53, 54, 55, 56, 57, 97, 98, 99, 100, 101, 102]) (bshr .u8 x1 4))), V.sc (.int .u8 (sAt (bs [48, 49, 50, 51, 52, 53, 54, 55, 56, 57, 97, 98, 99, 100, 101, 102]) (band .u8 x1 15)))].length) * 1 ≤ 140737488355328,
           Blk.row 5 ((List.map E5 v1) ++ [V.sc (.int .u8 (sAt (bs [48, 49, 50, 51, 52, 53, 54, 55, 56, 57, 97, 98, 99, 100, 101, 102]) (bshr .u8 x1 4))), V.sc (.int .u8 (sAt (bs [48, 49, 50, 51, 52, 53, 54, 55, 56, 57, 97, 98, 99, 100, 101, 102]) (band .u8 x1 15)))]) [] = Blk.row 5 (List.map E5 (v1 ++ [sAt (bs [48, 49, 50, 51, 52, 53, 54, 55, 56, 57, 97, 98, 99, 100, 101, 102]) (bshr .u8 x1 4), sAt (bs [48, 49, 50, 51, 52, 53, 54, 55, 56, 57, 97, 98, 99, 100, 101, 102]) (band .u8 x1 15)])) [],
           V.sc (.int .i64 (i64 ((p1.length : Int) + 1))) = V.sc (.int .i64 ((p1 ++ [x1]).length : Int))]) (by kernel_rfl) (cj (rng_lt h1) (cj (by omega) (cj (rng_get _ h1) (cj (by decide) (cj (od h3) (cj (od h4) (cj (od h5) (cj (od h6) (cj rfl (cj rfl (cj (cap1 (capN (by simp) h7)) (cj (cap2 (capN (by simp) h7) (by decide)) (cj (nb_app E5 v1 [sAt (bs [48, 49, 50, 51, 52, 53, 54, 55, 56, 57, 97, 98, 99, 100, 101, 102]) (bshr .u8 x1 4), sAt (bs [48, 49, 50, 51, 52, 53, 54, 55, 56, 57, 97, 98, 99, 100, 101, 102]) (band .u8 x1 15)]) (cj1 (rng_next h1 h2))))))))))))))) (impl_HexText_l0_ok b h2 t1 (p1 ++ [x1]) (rng_step h1) (v1 ++ [sAt (bs [48, 49, 50, 51, 52, 53, 54, 55, 56, 57, 97, 98, 99, 100, 101, 102]) (bshr .u8 x1 4), sAt (bs [48, 49, 50, 51, 52, 53, 54, 55, 56, 57, 97, 98, 99, 100, 101, 102]) (band .u8 x1 15)]))) (fun h7 =>
          Pn.none)) (fun h6 =>
         Pn.none)) (fun h5 =>
        Pn.none)) (fun h4 =>
       Pn.none)) (fun h3 =>
      Pn.none)
def impl_HexText (b : List Int) : Option (ByteArray) :=
 if (capOk b.length) = true then
  (impl_HexText_l0 b b []).bind fun r1 =>
  some (bstr r1)
 else none
theorem impl_HexText_ok (b : List Int) : Pn (fun y => Fn Tryd.prog 32 [(false, E29 b)] (E9 y) []) (impl_HexText b) := by
  unfold impl_HexText
  exact
   Pn.ite (fun h8 =>
    Pn.bind (fun r1 h9 =>
     Pn.some (Fn.of [.wait 5, .nm 8 (V.sc (.int .i64 (b.length : Int))), .wait 2, .mask [3, 7, 8, 9], .ren [0], .loop (X.out 0) (st 25 [(3, V.ow 0)] [Blk.row 5 (List.map E5 r1) []] []), .ints r1] (p := [V.sc (.int .i64 ((List.map E5 b).length : Int)) = V.sc (.int .i64 (b.length : Int)),
      Loop Tryd.prog (sub (codeOf Tryd.prog 32) [1, 1, 0, 1, 0, 0]) (st 25 [(3, V.ow 0), (7, V.sl false 5 (List.map E5 b)), (8, V.sc (.int .i64 (b.length : Int))), (9, V.sc (.int .i64 0))] [Blk.row 5 ([] : List V) []] []) (X.out 0) (st 25 [(3, V.ow 0)] [Blk.row 5 (List.map E5 r1) []] []),
      (List.map E5 r1) = r1.map fun n => V.sc (.int .u8 n)]) (by kernel_rfl) (cj (len_nm _ _) (cj (impl_HexText_l0_ok b h8 b [] rfl [] r1 h9) (cj1 rfl)))))) (fun h8 =>
    Pn.none)
def impl_isMoney (n : Int) : Option (Bool) :=
 (impl_within n 0 4611686018427387904).bind fun r1 =>
 some r1
theorem impl_isMoney_ok (n : Int) : Pn (fun y => Fn Tryd.prog 43 [(false, E3 n)] (E4 y) []) (impl_isMoney n) := by
  unfold impl_isMoney
  exact
   Pn.bind (fun r1 h1 =>
    Pn.some (Fn.of [.call [] (E4 r1) []] (p := [Fn Tryd.prog 46 [(false, E3 n), (false, E3 0), (false, E3 4611686018427387904)] (E4 r1) [],
     (true || ((E4 r1).nv && nvL [])) = true]) (by kernel_rfl) (cj (impl_within_ok n 0 4611686018427387904 r1 h1) (cj1 rfl))))
def strconv_Itoa (i : Int) : Option ByteArray := if (decide (-9223372036854775808 ≤ i) && decide (i ≤ 9223372036854775807)) = true then some ⟨(Lib.itoa i).toArray⟩ else none
theorem strconv_Itoa_ok (i : Int) : Pn (fun y => Fn Tryd.prog 44 [(false, E3 i)] (E9 y) []) (strconv_Itoa i) := by
  unfold strconv_Itoa
  exact Pn.ite (fun h => Pn.some (Fn.flat [.int .i64 i] (by kernel_rfl) rfl fun w hw => by
    simp only [Bool.and_eq_true, decide_eq_true_eq] at h
    obtain ⟨cs, t, z, e1, e2⟩ := hw _ (List.Mem.head _)
    exact (Go.Proofs.Any.strconv_Itoa Tryd.laysM171 i h.1 h.2 w (tab_of (by kernel_rfl) e1 e2)).mono fun e w2 ⟨h1, k, os, h2⟩ => ⟨h1, h2 ▸ Lib.below_grow _ w (Nat.le_refl _) k os⟩)) (fun _ => Pn.none)
def impl_NumText (n : Int) : Option (ByteArray) :=
 (impl_isMoney n).bind fun r1 =>
 if r1 = true then
  (strconv_Itoa n).bind fun r2 =>
  some r2
 else
  some (bs [])
theorem impl_NumText_ok (n : Int) : Pn (fun y => Fn Tryd.prog 26 [(false, E3 n)] (E9 y) []) (impl_NumText n) := by
  unfold impl_NumText
  exact
   Pn.bind (fun r1 h1 =>
    Pn.ite (fun h2 =>
     Pn.bind (fun r2 h3 =>
      Pn.some (Fn.of [.call [] (E4 r1) [], .bit false, .call [] (E9 r2) []] (p := [Fn Tryd.prog 43 [(false, E3 n)] (E4 r1) [],
       (true || ((E4 r1).nv && nvL [])) = true,
       (!r1) = false,
       Fn Tryd.prog 44 [(false, E3 n)] (E9 r2) [],
       (true || ((E9 r2).nv && nvL [])) = true]) (by kernel_rfl) (cj (impl_isMoney_ok n r1 h1) (cj rfl (cj (nf h2) (cj (strconv_Itoa_ok n r2 h3) (cj1 rfl)))))))) (fun h2 =>
     Pn.some (Fn.of [.call [] (E4 r1) [], .bit true] (p := [Fn Tryd.prog 43 [(false, E3 n)] (E4 r1) [],
      (true || ((E4 r1).nv && nvL [])) = true,
      (!r1) = true]) (by kernel_rfl) (cj (impl_isMoney_ok n r1 h1) (cj rfl (cj1 (nt h2)))))))
def impl_EventText (e : Event) : Option (ByteArray) :=
 (impl_EventOk e).bind fun r1 =>
 if r1 = true then
  if (e.Kind == 1) = true then
   (impl_HexText e.Data).bind fun r2 =>
   if (decide ((bs [97, 114, 114, 105, 118, 101, 32]).size + r2.size ≤ 9223372036854775807)) = true then
    some ((bs [97, 114, 114, 105, 118, 101, 32]) ++ r2)
   else none
  else
   if (e.Kind == 2) = true then
    (impl_NumText e.K).bind fun r3 =>
    if (decide ((bs [112, 105, 99, 107, 32]).size + r3.size ≤ 9223372036854775807)) = true then
     some ((bs [112, 105, 99, 107, 32]) ++ r3)
    else none
   else
    (impl_NumText e.K).bind fun r4 =>
    if (decide ((bs [112, 97, 115, 115, 32]).size + r4.size ≤ 9223372036854775807)) = true then
     some ((bs [112, 97, 115, 115, 32]) ++ r4)
    else none
 else
  some (bs [])
theorem impl_EventText_ok (e : Event) : Pn (fun y => Fn Tryd.prog 14 [(false, E34 e)] (E9 y) []) (impl_EventText e) := by
  unfold impl_EventText
  exact
   Pn.bind (fun r1 h1 =>
    Pn.ite (fun h2 =>
     Pn.ite (fun h3 =>
      Pn.bind (fun r2 h4 =>
       Pn.ite (fun h5 =>
        Pn.some (Fn.of [.call [] (E4 r1) [], .bit false, .bit true, .call [] (E9 r2) []] (p := [Fn Tryd.prog 31 [(false, E34 e)] (E4 r1) [],
         (true || ((E4 r1).nv && nvL [])) = true,
         (!r1) = false,
         (e.Kind == 1) = true,
         Fn Tryd.prog 32 [(false, E29 e.Data)] (E9 r2) [],
         (true || ((E9 r2).nv && nvL [])) = true,
         (bs [97, 114, 114, 105, 118, 101, 32]).size + r2.size ≤ 9223372036854775807]) (by kernel_rfl) (cj (impl_EventOk_ok e r1 h1) (cj rfl (cj (nf h2) (cj h3 (cj (impl_HexText_ok e.Data r2 h4) (cj rfl (cj1 (od h5)))))))))) (fun h5 =>
        Pn.none))) (fun h3 =>
      Pn.ite (fun h6 =>
       Pn.bind (fun r3 h7 =>
        Pn.ite (fun h8 =>
         Pn.some (Fn.of [.call [] (E4 r1) [], .bit false, .bit false, .bit true, .call [] (E9 r3) []] (p := [Fn Tryd.prog 31 [(false, E34 e)] (E4 r1) [],
          (true || ((E4 r1).nv && nvL [])) = true,
          (!r1) = false,
          (e.Kind == 1) = false,
          (e.Kind == 2) = true,
          Fn Tryd.prog 26 [(false, E3 e.K)] (E9 r3) [],
          (true || ((E9 r3).nv && nvL [])) = true,
          (bs [112, 105, 99, 107, 32]).size + r3.size ≤ 9223372036854775807]) (by kernel_rfl) (cj (impl_EventOk_ok e r1 h1) (cj rfl (cj (nf h2) (cj h3 (cj h6 (cj (impl_NumText_ok e.K r3 h7) (cj rfl (cj1 (od h8))))))))))) (fun h8 =>
         Pn.none))) (fun h6 =>
       Pn.bind (fun r4 h9 =>
        Pn.ite (fun h10 =>
         Pn.some (Fn.of [.call [] (E4 r1) [], .bit false, .bit false, .bit false, .call [] (E9 r4) []] (p := [Fn Tryd.prog 31 [(false, E34 e)] (E4 r1) [],
          (true || ((E4 r1).nv && nvL [])) = true,
          (!r1) = false,
          (e.Kind == 1) = false,
          (e.Kind == 2) = false,
          Fn Tryd.prog 26 [(false, E3 e.K)] (E9 r4) [],
          (true || ((E9 r4).nv && nvL [])) = true,
          (bs [112, 97, 115, 115, 32]).size + r4.size ≤ 9223372036854775807]) (by kernel_rfl) (cj (impl_EventOk_ok e r1 h1) (cj rfl (cj (nf h2) (cj h3 (cj h6 (cj (impl_NumText_ok e.K r4 h9) (cj rfl (cj1 (od h10))))))))))) (fun h10 =>
         Pn.none))))) (fun h2 =>
     Pn.some (Fn.of [.call [] (E4 r1) [], .bit true] (p := [Fn Tryd.prog 31 [(false, E34 e)] (E4 r1) [],
      (true || ((E4 r1).nv && nvL [])) = true,
      (!r1) = true]) (by kernel_rfl) (cj (impl_EventOk_ok e r1 h1) (cj rfl (cj1 (nt h2)))))))
def impl_EventsText_l0 (l : List Event) : List Event → ByteArray → Option (Lo ByteArray Unit)
  | [], v1 =>
   some (.out v1)
  | x1 :: t1, v1 =>
   (impl_EventText x1).bind fun r1 =>
   if (r1 == (bs [])) = true then
    some (.ret ())
   else
    if (decide (r1.size + (bs [10]).size ≤ 9223372036854775807)) = true then
     if (decide (v1.size + (r1 ++ (bs [10])).size ≤ 9223372036854775807)) = true then
      impl_EventsText_l0 l t1 (v1 ++ (r1 ++ (bs [10])))
     else none
    else none
theorem impl_EventsText_l0_ok (l : List Event) (h2 : capOk l.length = true) : ∀ (t1 p1 : List Event) (_ : l = p1 ++ t1) (v1 : ByteArray), Pn (LpO Tryd.prog (sub (codeOf Tryd.prog 19) [1, 1, 0, 1, 0, 0]) (st 23 [(3, V.sc (.string v1)), (7, V.sl false 34 (List.map E34 l)), (8, V.sc (.int .i64 (l.length : Int))), (9, V.sc (.int .i64 (p1.length : Int)))] [] []) (fun (y : Lo ByteArray Unit) => Lo.elim y (fun s => (X.out 0, st 23 [(3, V.sc (.string s))] [] [])) (fun s => (X.ret, st 23 [(2, V.sc (.string (bs [])))] [] [])))) (impl_EventsText_l0 l t1 v1)
  | [], p1, h1, v1 => by
    unfold impl_EventsText_l0
    exact
     Pn.some (LpO.out [.bit false, .mask [3], .ren []] (p := [(decide ((p1.length : Int) < (l.length : Int))) = false]) (by kernel_rfl) (show X.out 0 ≠ X.go from nofun) (cj1 (rng_end h1)))
  | x1 :: t1, p1, h1, v1 => by
    unfold impl_EventsText_l0
    exact
     Pn.bind (fun r1 h3 =>
      Pn.ite (fun h4 =>
       Pn.some (LpO.out [.bit true, .el (E34 x1), .call [] (E9 r1) [], .bit true, .wait 1, .mask [2], .ren []] (p := [(decide ((p1.length : Int) < (l.length : Int))) = true,
        (0 : Int) ≤ (p1.length : Int),
        (List.map E34 l)[(p1.length : Int).toNat]? = some (E34 x1),
        Fn Tryd.prog 14 [(false, E34 x1)] (E9 r1) [],
        (true || ((E9 r1).nv && nvL [])) = true,
        (r1 == (bs [])) = true]) (by kernel_rfl) (show X.ret ≠ X.go from nofun) (cj (rng_lt h1) (cj (by omega) (cj (rng_get _ h1) (cj (impl_EventText_ok x1 r1 h3) (cj rfl (cj1 h4)))))))) (fun h4 =>
       Pn.ite (fun h5 =>
        Pn.ite (fun h6 =>
         LpO.go [.bit true, .el (E34 x1), .call [] (E9 r1) [], .bit false, .wait 7, .mask [3, 7, 8, 9], .ren [], .nm 9 (V.sc (.int .i64 ((p1 ++ [x1]).length : Int)))] (p := [(decide ((p1.length : Int) < (l.length : Int))) = true,
          (0 : Int) ≤ (p1.length : Int),
          (List.map E34 l)[(p1.length : Int).toNat]? = some (E34 x1),
          Fn Tryd.prog 14 [(false, E34 x1)] (E9 r1) [],
          (true || ((E9 r1).nv && nvL [])) = true,
          (r1 == (bs [])) = false,
          r1.size + (bs [10]).size ≤ 9223372036854775807,
          v1.size + (r1 ++ (bs [10])).size ≤ 9223372036854775807,
          V.sc (.int .i64 (i64 ((p1.length : Int) + 1))) = V.sc (.int .i64 ((p1 ++ [x1]).length : Int))]) (by kernel_rfl) (cj (rng_lt h1) (cj (by omega) (cj (rng_get _ h1) (cj (impl_EventText_ok x1 r1 h3) (cj rfl (cj h4 (cj (od h5) (cj (od h6) (cj1 (rng_next h1 h2)))))))))) (impl_EventsText_l0_ok l h2 t1 (p1 ++ [x1]) (rng_step h1) (v1 ++ (r1 ++ (bs [10]))))) (fun h6 =>
         Pn.none)) (fun h5 =>
        Pn.none)))
def impl_EventsText (l : List Event) : Option (ByteArray) :=
 if (capOk l.length) = true then
  (impl_EventsText_l0 l l (bs [])).bind fun r2 =>
  Lo.elim r2 (fun s1 =>
   some s1) (fun s2 =>
   some (bs []))
 else none
theorem impl_EventsText_ok (l : List Event) : Pn (fun y => Fn Tryd.prog 19 [(false, E41 l)] (E9 y) []) (impl_EventsText l) := by
  unfold impl_EventsText
  exact
   Pn.ite (fun h7 =>
    Pn.bind (fun r2 h8 =>
     Pn.lo (fun s1 h9 =>
      Pn.some (Fn.of [.wait 4, .nm 8 (V.sc (.int .i64 (l.length : Int))), .wait 2, .mask [3, 7, 8, 9], .ren [], .loop (X.out 0) (st 23 [(3, V.sc (.string s1))] [] [])] (p := [V.sc (.int .i64 ((List.map E34 l).length : Int)) = V.sc (.int .i64 (l.length : Int)),
       Loop Tryd.prog (sub (codeOf Tryd.prog 19) [1, 1, 0, 1, 0, 0]) (st 23 [(3, V.sc (.string (bs []))), (7, V.sl false 34 (List.map E34 l)), (8, V.sc (.int .i64 (l.length : Int))), (9, V.sc (.int .i64 0))] [] []) (X.out 0) (st 23 [(3, V.sc (.string s1))] [] [])]) (by kernel_rfl) (cj (len_nm _ _) (cj1 ((impl_EventsText_l0_ok l h7 l [] rfl (bs []) r2 h8).at h9))))) (fun s2 h10 =>
      Pn.some (Fn.of [.wait 4, .nm 8 (V.sc (.int .i64 (l.length : Int))), .wait 2, .mask [3, 7, 8, 9], .ren [], .loop (X.ret) (st 23 [(2, V.sc (.string (bs [])))] [] [])] (p := [V.sc (.int .i64 ((List.map E34 l).length : Int)) = V.sc (.int .i64 (l.length : Int)),
       Loop Tryd.prog (sub (codeOf Tryd.prog 19) [1, 1, 0, 1, 0, 0]) (st 23 [(3, V.sc (.string (bs []))), (7, V.sl false 34 (List.map E34 l)), (8, V.sc (.int .i64 (l.length : Int))), (9, V.sc (.int .i64 0))] [] []) (X.ret) (st 23 [(2, V.sc (.string (bs [])))] [] [])]) (by kernel_rfl) (cj (len_nm _ _) (cj1 ((impl_EventsText_l0_ok l h7 l [] rfl (bs []) r2 h8).at h10))))))) (fun h7 =>
    Pn.none)
def laws_eqByteS_l0 (a : List Int) (b : List Int) : List Int → List Int → Option (Lo Unit Unit)
  | [], p1 =>
   some (.out ())
  | x1 :: t1, p1 =>
   (b[(p1.length : Int).toNat]?).bind fun x2 =>
   if (x1 != x2) = true then
    some (.ret ())
   else
    laws_eqByteS_l0 a b t1 (p1 ++ [x1])
theorem laws_eqByteS_l0_ok (a : List Int) (b : List Int) (h3 : capOk a.length = true) : ∀ (t1 p1 : List Int) (_ : a = p1 ++ t1) , Pn (LpO Tryd.prog (sub (codeOf Tryd.prog 33) [1, 1, 0, 1, 0, 0]) (st 26 [(0, V.sl false 5 (List.map E5 a)), (1, V.sl false 5 (List.map E5 b)), (5, V.sc (.int .i64 (p1.length : Int)))] [] []) (fun (y : Lo Unit Unit) => Lo.elim y (fun s => (X.out 0, st 26 [] [] [])) (fun s => (X.ret, st 26 [(4, V.sc (.bool false))] [] [])))) (laws_eqByteS_l0 a b t1 p1)
  | [], p1, h2 => by
    unfold laws_eqByteS_l0
    exact
     Pn.some (LpO.out [.wait 3, .nm 13 (V.sc (.int .i64 (a.length : Int))), .bit false, .mask [], .ren []] (p := [V.sc (.int .i64 ((List.map E5 a).length : Int)) = V.sc (.int .i64 (a.length : Int)),
      (decide ((p1.length : Int) < (a.length : Int))) = false]) (by kernel_rfl) (show X.out 0 ≠ X.go from nofun) (cj (len_nm _ _) (cj1 (rng_end h2))))
  | x1 :: t1, p1, h2 => by
    unfold laws_eqByteS_l0
    exact
     Pn.bind (fun x2 h4 =>
      Pn.ite (fun h5 =>
       Pn.some (LpO.out [.wait 3, .nm 13 (V.sc (.int .i64 (a.length : Int))), .bit true, .draw [], .el (E5 x1), .el (E5 x2), .bit true, .wait 1, .mask [4], .ren []] (p := [V.sc (.int .i64 ((List.map E5 a).length : Int)) = V.sc (.int .i64 (a.length : Int)),
        (decide ((p1.length : Int) < (a.length : Int))) = true,
        (0 : Int) ≤ (p1.length : Int),
        (List.map E5 a)[(p1.length : Int).toNat]? = some (E5 x1),
        (0 : Int) ≤ (p1.length : Int),
        (List.map E5 b)[(p1.length : Int).toNat]? = some (E5 x2),
        (x1 != x2) = true]) (by kernel_rfl) (show X.ret ≠ X.go from nofun) (cj (len_nm _ _) (cj (rng_lt h2) (cj (by omega) (cj (rng_get _ h2) (cj (by omega) (cj (map_get h4) (cj1 h5))))))))) (fun h5 =>
       LpO.go [.wait 3, .nm 13 (V.sc (.int .i64 (a.length : Int))), .bit true, .draw [], .el (E5 x1), .el (E5 x2), .bit false, .wait 3, .mask [0, 1, 5], .ren [], .nm 5 (V.sc (.int .i64 ((p1 ++ [x1]).length : Int)))] (p := [V.sc (.int .i64 ((List.map E5 a).length : Int)) = V.sc (.int .i64 (a.length : Int)),
        (decide ((p1.length : Int) < (a.length : Int))) = true,
        (0 : Int) ≤ (p1.length : Int),
        (List.map E5 a)[(p1.length : Int).toNat]? = some (E5 x1),
        (0 : Int) ≤ (p1.length : Int),
        (List.map E5 b)[(p1.length : Int).toNat]? = some (E5 x2),
        (x1 != x2) = false,
        V.sc (.int .i64 (i64 ((p1.length : Int) + 1))) = V.sc (.int .i64 ((p1 ++ [x1]).length : Int))]) (by kernel_rfl) (cj (len_nm _ _) (cj (rng_lt h2) (cj (by omega) (cj (rng_get _ h2) (cj (by omega) (cj (map_get h4) (cj h5 (cj1 (rng_next h2 h3))))))))) (laws_eqByteS_l0_ok a b h3 t1 (p1 ++ [x1]) (rng_step h2))))
def laws_eqByteS (a : List Int) (b : List Int) : Option (Bool) :=
 if ((a.length : Int) != (b.length : Int)) = true then
  some false
 else
  if (capOk a.length) = true then
   (laws_eqByteS_l0 a b a []).bind fun r1 =>
   Lo.elim r1 (fun s1 =>
    some true) (fun s2 =>
    some false)
  else none
theorem laws_eqByteS_ok (a : List Int) (b : List Int) : Pn (fun y => Fn Tryd.prog 33 [(false, E29 a), (false, E29 b)] (E4 y) []) (laws_eqByteS a b) := by
  unfold laws_eqByteS
  exact
   Pn.ite (fun h1 =>
    Pn.some (Fn.of [.wait 3, .nm 7 (V.sc (.int .i64 (a.length : Int))), .wait 2, .nm 9 (V.sc (.int .i64 (b.length : Int))), .bit true] (p := [V.sc (.int .i64 ((List.map E5 a).length : Int)) = V.sc (.int .i64 (a.length : Int)),
     V.sc (.int .i64 ((List.map E5 b).length : Int)) = V.sc (.int .i64 (b.length : Int)),
     ((a.length : Int) != (b.length : Int)) = true]) (by kernel_rfl) (cj (len_nm _ _) (cj (len_nm _ _) (cj1 h1))))) (fun h1 =>
    Pn.ite (fun h6 =>
     Pn.bind (fun r1 h7 =>
      Pn.lo (fun s1 h8 =>
       Pn.some (Fn.of [.wait 3, .nm 7 (V.sc (.int .i64 (a.length : Int))), .wait 2, .nm 9 (V.sc (.int .i64 (b.length : Int))), .bit false, .wait 1, .mask [0, 1, 5], .ren [], .loop (X.out 0) (st 26 [] [] [])] (p := [V.sc (.int .i64 ((List.map E5 a).length : Int)) = V.sc (.int .i64 (a.length : Int)),
        V.sc (.int .i64 ((List.map E5 b).length : Int)) = V.sc (.int .i64 (b.length : Int)),
        ((a.length : Int) != (b.length : Int)) = false,
        Loop Tryd.prog (sub (codeOf Tryd.prog 33) [1, 1, 0, 1, 0, 0]) (st 26 [(0, V.sl false 5 (List.map E5 a)), (1, V.sl false 5 (List.map E5 b)), (5, V.sc (.int .i64 0))] [] []) (X.out 0) (st 26 [] [] [])]) (by kernel_rfl) (cj (len_nm _ _) (cj (len_nm _ _) (cj h1 (cj1 ((laws_eqByteS_l0_ok a b h6 a [] rfl r1 h7).at h8))))))) (fun s2 h9 =>
       Pn.some (Fn.of [.wait 3, .nm 7 (V.sc (.int .i64 (a.length : Int))), .wait 2, .nm 9 (V.sc (.int .i64 (b.length : Int))), .bit false, .wait 1, .mask [0, 1, 5], .ren [], .loop (X.ret) (st 26 [(4, V.sc (.bool false))] [] [])] (p := [V.sc (.int .i64 ((List.map E5 a).length : Int)) = V.sc (.int .i64 (a.length : Int)),
        V.sc (.int .i64 ((List.map E5 b).length : Int)) = V.sc (.int .i64 (b.length : Int)),
        ((a.length : Int) != (b.length : Int)) = false,
        Loop Tryd.prog (sub (codeOf Tryd.prog 33) [1, 1, 0, 1, 0, 0]) (st 26 [(0, V.sl false 5 (List.map E5 a)), (1, V.sl false 5 (List.map E5 b)), (5, V.sc (.int .i64 0))] [] []) (X.ret) (st 26 [(4, V.sc (.bool false))] [] [])]) (by kernel_rfl) (cj (len_nm _ _) (cj (len_nm _ _) (cj h1 (cj1 ((laws_eqByteS_l0_ok a b h6 a [] rfl r1 h7).at h9))))))))) (fun h6 =>
     Pn.none))
def laws_eqEvent (a : Event) (b : Event) : Option (Bool) :=
 if (a.Kind != b.Kind) = true then
  some false
 else
  if (a.K != b.K) = true then
   some false
  else
   (laws_eqByteS a.Data b.Data).bind fun r1 =>
   if r1 = true then
    some true
   else
    some false
theorem laws_eqEvent_ok (a : Event) (b : Event) : Pn (fun y => Fn Tryd.prog 15 [(false, E34 a), (false, E34 b)] (E4 y) []) (laws_eqEvent a b) := by
  unfold laws_eqEvent
  exact
   Pn.ite (fun h1 =>
    Pn.some (Fn.of [.bit true] (p := [(a.Kind != b.Kind) = true]) (by kernel_rfl) (cj1 h1))) (fun h1 =>
    Pn.ite (fun h2 =>
     Pn.some (Fn.of [.bit false, .bit true] (p := [(a.Kind != b.Kind) = false,
      (a.K != b.K) = true]) (by kernel_rfl) (cj h1 (cj1 h2)))) (fun h2 =>
     Pn.bind (fun r1 h3 =>
      Pn.ite (fun h4 =>
       Pn.some (Fn.of [.bit false, .bit false, .call [] (E4 r1) [], .bit false] (p := [(a.Kind != b.Kind) = false,
        (a.K != b.K) = false,
        Fn Tryd.prog 33 [(false, E29 a.Data), (false, E29 b.Data)] (E4 r1) [],
        (true || ((E4 r1).nv && nvL [])) = true,
        (!r1) = false]) (by kernel_rfl) (cj h1 (cj h2 (cj (laws_eqByteS_ok a.Data b.Data r1 h3) (cj rfl (cj1 (nf h4)))))))) (fun h4 =>
       Pn.some (Fn.of [.bit false, .bit false, .call [] (E4 r1) [], .bit true] (p := [(a.Kind != b.Kind) = false,
        (a.K != b.K) = false,
        Fn Tryd.prog 33 [(false, E29 a.Data), (false, E29 b.Data)] (E4 r1) [],
        (true || ((E4 r1).nv && nvL [])) = true,
        (!r1) = true]) (by kernel_rfl) (cj h1 (cj h2 (cj (laws_eqByteS_ok a.Data b.Data r1 h3) (cj rfl (cj1 (nt h4)))))))))))
def laws_eqEventS_l0 (a : List Event) (b : List Event) : List Event → List Event → Option (Lo Unit Unit)
  | [], p1 =>
   some (.out ())
  | x1 :: t1, p1 =>
   (b[(p1.length : Int).toNat]?).bind fun x2 =>
   (laws_eqEvent x1 x2).bind fun r1 =>
   if r1 = true then
    laws_eqEventS_l0 a b t1 (p1 ++ [x1])
   else
    some (.ret ())
theorem laws_eqEventS_l0_ok (a : List Event) (b : List Event) (h3 : capOk a.length = true) : ∀ (t1 p1 : List Event) (_ : a = p1 ++ t1) , Pn (LpO Tryd.prog (sub (codeOf Tryd.prog 20) [1, 1, 0, 1, 0, 0]) (st 27 [(0, V.sl false 34 (List.map E34 a)), (1, V.sl false 34 (List.map E34 b)), (5, V.sc (.int .i64 (p1.length : Int)))] [] []) (fun (y : Lo Unit Unit) => Lo.elim y (fun s => (X.out 0, st 27 [] [] [])) (fun s => (X.ret, st 27 [(4, V.sc (.bool false))] [] [])))) (laws_eqEventS_l0 a b t1 p1)
  | [], p1, h2 => by
    unfold laws_eqEventS_l0
    exact
     Pn.some (LpO.out [.wait 3, .nm 13 (V.sc (.int .i64 (a.length : Int))), .bit false, .mask [], .ren []] (p := [V.sc (.int .i64 ((List.map E34 a).length : Int)) = V.sc (.int .i64 (a.length : Int)),
      (decide ((p1.length : Int) < (a.length : Int))) = false]) (by kernel_rfl) (show X.out 0 ≠ X.go from nofun) (cj (len_nm _ _) (cj1 (rng_end h2))))
  | x1 :: t1, p1, h2 => by
    unfold laws_eqEventS_l0
    exact
     Pn.bind (fun x2 h4 =>
      Pn.bind (fun r1 h5 =>
       Pn.ite (fun h6 =>
        LpO.go [.wait 3, .nm 13 (V.sc (.int .i64 (a.length : Int))), .bit true, .draw [], .el (E34 x1), .el (E34 x2), .call [] (E4 r1) [], .bit false, .wait 3, .mask [0, 1, 5], .ren [], .nm 5 (V.sc (.int .i64 ((p1 ++ [x1]).length : Int)))] (p := [V.sc (.int .i64 ((List.map E34 a).length : Int)) = V.sc (.int .i64 (a.length : Int)),
         (decide ((p1.length : Int) < (a.length : Int))) = true,
         (0 : Int) ≤ (p1.length : Int),
         (List.map E34 a)[(p1.length : Int).toNat]? = some (E34 x1),
         (0 : Int) ≤ (p1.length : Int),
         (List.map E34 b)[(p1.length : Int).toNat]? = some (E34 x2),
         Fn Tryd.prog 15 [(false, E34 x1), (false, E34 x2)] (E4 r1) [],
         (true || ((E4 r1).nv && nvL [])) = true,
         (!r1) = false,
         V.sc (.int .i64 (i64 ((p1.length : Int) + 1))) = V.sc (.int .i64 ((p1 ++ [x1]).length : Int))]) (by kernel_rfl) (cj (len_nm _ _) (cj (rng_lt h2) (cj (by omega) (cj (rng_get _ h2) (cj (by omega) (cj (map_get h4) (cj (laws_eqEvent_ok x1 x2 r1 h5) (cj rfl (cj (nf h6) (cj1 (rng_next h2 h3))))))))))) (laws_eqEventS_l0_ok a b h3 t1 (p1 ++ [x1]) (rng_step h2))) (fun h6 =>
        Pn.some (LpO.out [.wait 3, .nm 13 (V.sc (.int .i64 (a.length : Int))), .bit true, .draw [], .el (E34 x1), .el (E34 x2), .call [] (E4 r1) [], .bit true, .wait 1, .mask [4], .ren []] (p := [V.sc (.int .i64 ((List.map E34 a).length : Int)) = V.sc (.int .i64 (a.length : Int)),
         (decide ((p1.length : Int) < (a.length : Int))) = true,
         (0 : Int) ≤ (p1.length : Int),
         (List.map E34 a)[(p1.length : Int).toNat]? = some (E34 x1),
         (0 : Int) ≤ (p1.length : Int),
         (List.map E34 b)[(p1.length : Int).toNat]? = some (E34 x2),
         Fn Tryd.prog 15 [(false, E34 x1), (false, E34 x2)] (E4 r1) [],
         (true || ((E4 r1).nv && nvL [])) = true,
         (!r1) = true]) (by kernel_rfl) (show X.ret ≠ X.go from nofun) (cj (len_nm _ _) (cj (rng_lt h2) (cj (by omega) (cj (rng_get _ h2) (cj (by omega) (cj (map_get h4) (cj (laws_eqEvent_ok x1 x2 r1 h5) (cj rfl (cj1 (nt h6))))))))))))))
def laws_eqEventS (a : List Event) (b : List Event) : Option (Bool) :=
 if ((a.length : Int) != (b.length : Int)) = true then
  some false
 else
  if (capOk a.length) = true then
   (laws_eqEventS_l0 a b a []).bind fun r2 =>
   Lo.elim r2 (fun s1 =>
    some true) (fun s2 =>
    some false)
  else none
theorem laws_eqEventS_ok (a : List Event) (b : List Event) : Pn (fun y => Fn Tryd.prog 20 [(false, E41 a), (false, E41 b)] (E4 y) []) (laws_eqEventS a b) := by
  unfold laws_eqEventS
  exact
   Pn.ite (fun h1 =>
    Pn.some (Fn.of [.wait 3, .nm 7 (V.sc (.int .i64 (a.length : Int))), .wait 2, .nm 9 (V.sc (.int .i64 (b.length : Int))), .bit true] (p := [V.sc (.int .i64 ((List.map E34 a).length : Int)) = V.sc (.int .i64 (a.length : Int)),
     V.sc (.int .i64 ((List.map E34 b).length : Int)) = V.sc (.int .i64 (b.length : Int)),
     ((a.length : Int) != (b.length : Int)) = true]) (by kernel_rfl) (cj (len_nm _ _) (cj (len_nm _ _) (cj1 h1))))) (fun h1 =>
    Pn.ite (fun h7 =>
     Pn.bind (fun r2 h8 =>
      Pn.lo (fun s1 h9 =>
       Pn.some (Fn.of [.wait 3, .nm 7 (V.sc (.int .i64 (a.length : Int))), .wait 2, .nm 9 (V.sc (.int .i64 (b.length : Int))), .bit false, .wait 1, .mask [0, 1, 5], .ren [], .loop (X.out 0) (st 27 [] [] [])] (p := [V.sc (.int .i64 ((List.map E34 a).length : Int)) = V.sc (.int .i64 (a.length : Int)),
        V.sc (.int .i64 ((List.map E34 b).length : Int)) = V.sc (.int .i64 (b.length : Int)),
        ((a.length : Int) != (b.length : Int)) = false,
        Loop Tryd.prog (sub (codeOf Tryd.prog 20) [1, 1, 0, 1, 0, 0]) (st 27 [(0, V.sl false 34 (List.map E34 a)), (1, V.sl false 34 (List.map E34 b)), (5, V.sc (.int .i64 0))] [] []) (X.out 0) (st 27 [] [] [])]) (by kernel_rfl) (cj (len_nm _ _) (cj (len_nm _ _) (cj h1 (cj1 ((laws_eqEventS_l0_ok a b h7 a [] rfl r2 h8).at h9))))))) (fun s2 h10 =>
       Pn.some (Fn.of [.wait 3, .nm 7 (V.sc (.int .i64 (a.length : Int))), .wait 2, .nm 9 (V.sc (.int .i64 (b.length : Int))), .bit false, .wait 1, .mask [0, 1, 5], .ren [], .loop (X.ret) (st 27 [(4, V.sc (.bool false))] [] [])] (p := [V.sc (.int .i64 ((List.map E34 a).length : Int)) = V.sc (.int .i64 (a.length : Int)),
        V.sc (.int .i64 ((List.map E34 b).length : Int)) = V.sc (.int .i64 (b.length : Int)),
        ((a.length : Int) != (b.length : Int)) = false,
        Loop Tryd.prog (sub (codeOf Tryd.prog 20) [1, 1, 0, 1, 0, 0]) (st 27 [(0, V.sl false 34 (List.map E34 a)), (1, V.sl false 34 (List.map E34 b)), (5, V.sc (.int .i64 0))] [] []) (X.ret) (st 27 [(4, V.sc (.bool false))] [] [])]) (by kernel_rfl) (cj (len_nm _ _) (cj (len_nm _ _) (cj h1 (cj1 ((laws_eqEventS_l0_ok a b h7 a [] rfl r2 h8).at h10))))))))) (fun h7 =>
     Pn.none))
def laws_FnExactEventsText (aL : List Event) : Option (Bool) :=
 (laws_szEventS aL 1048576).bind fun r1 =>
 if (decide (r1 < 0)) = true then
  some true
 else
  (laws_toEventS aL).bind fun r2 =>
  (spec_EventsText r2).bind fun r3 =>
  (laws_toEventS aL).bind fun r4 =>
  (impl_EventsText r4).bind fun r5 =>
  if (r5 == r3) = true then
   (laws_toEventS aL).bind fun r6 =>
   (laws_eqEventS r4 r6).bind fun r7 =>
   if r7 = true then
    some true
   else
    some false
  else
   some false
theorem laws_FnExactEventsText_ok (aL : List Event) : Pn (fun y => Fn Tryd.prog 5 [(false, E38 aL)] (E4 y) []) (laws_FnExactEventsText aL) := by
  unfold laws_FnExactEventsText
  exact
   Pn.bind (fun r1 h1 =>
    Pn.ite (fun h2 =>
     Pn.some (Fn.of [.call [] (E3 r1) [], .bit true] (p := [Fn Tryd.prog 16 [(false, E38 aL), (false, E3 1048576)] (E3 r1) [],
      (true || ((E3 r1).nv && nvL [])) = true,
      (decide (r1 < 0)) = true]) (by kernel_rfl) (cj (laws_szEventS_ok aL 1048576 r1 h1) (cj rfl (cj1 h2))))) (fun h2 =>
     Pn.bind (fun r2 h3 =>
      Pn.bind (fun r3 h4 =>
       Pn.bind (fun r4 h5 =>
        Pn.bind (fun r5 h6 =>
         Pn.ite (fun h7 =>
          Pn.bind (fun r6 h8 =>
           Pn.bind (fun r7 h9 =>
            Pn.ite (fun h10 =>
             Pn.some (Fn.of [.call [] (E3 r1) [], .bit false, .call [] (E41 r2) [], .call [] (E9 r3) [], .call [] (E41 r4) [], .call [] (E9 r5) [], .bit false, .call [] (E41 r6) [], .call [] (E4 r7) [], .bit false] (p := [Fn Tryd.prog 16 [(false, E38 aL), (false, E3 1048576)] (E3 r1) [],
              (true || ((E3 r1).nv && nvL [])) = true,
              (decide (r1 < 0)) = false,
              Fn Tryd.prog 18 [(false, E38 aL)] (E41 r2) [],
              (true || ((E41 r2).nv && nvL [])) = true,
              Fn Tryd.prog 17 [(false, E41 r2)] (E9 r3) [],
              (false || ((E9 r3).nv && nvL [])) = true,
              Fn Tryd.prog 18 [(false, E38 aL)] (E41 r4) [],
              (true || ((E41 r4).nv && nvL [])) = true,
              Fn Tryd.prog 19 [(false, E41 r4)] (E9 r5) [],
              (false || ((E9 r5).nv && nvL [])) = true,
              (!(r5 == r3)) = false,
              Fn Tryd.prog 18 [(false, E38 aL)] (E41 r6) [],
              (true || ((E41 r6).nv && nvL [])) = true,
              Fn Tryd.prog 20 [(false, E41 r4), (false, E41 r6)] (E4 r7) [],
              (false || ((E4 r7).nv && nvL [])) = true,
              (!r7) = false]) (by kernel_rfl) (cj (laws_szEventS_ok aL 1048576 r1 h1) (cj rfl (cj h2 (cj (laws_toEventS_ok aL r2 h3) (cj rfl (cj (spec_EventsText_ok r2 r3 h4) (cj (by simp [V.nv, nvL, nvL_all, nv_E9]) (cj (laws_toEventS_ok aL r4 h5) (cj rfl (cj (impl_EventsText_ok r4 r5 h6) (cj (by simp [V.nv, nvL, nvL_all, nv_E9]) (cj (nf h7) (cj (laws_toEventS_ok aL r6 h8) (cj rfl (cj (laws_eqEventS_ok r4 r6 r7 h9) (cj (by simp [V.nv, nvL, nvL_all, nv_E4]) (cj1 (nf h10)))))))))))))))))))) (fun h10 =>
             Pn.some (Fn.of [.call [] (E3 r1) [], .bit false, .call [] (E41 r2) [], .call [] (E9 r3) [], .call [] (E41 r4) [], .call [] (E9 r5) [], .bit false, .call [] (E41 r6) [], .call [] (E4 r7) [], .bit true] (p := [Fn Tryd.prog 16 [(false, E38 aL), (false, E3 1048576)] (E3 r1) [],
              (true || ((E3 r1).nv && nvL [])) = true,
              (decide (r1 < 0)) = false,
              Fn Tryd.prog 18 [(false, E38 aL)] (E41 r2) [],
              (true || ((E41 r2).nv && nvL [])) = true,
              Fn Tryd.prog 17 [(false, E41 r2)] (E9 r3) [],
              (false || ((E9 r3).nv && nvL [])) = true,
              Fn Tryd.prog 18 [(false, E38 aL)] (E41 r4) [],
              (true || ((E41 r4).nv && nvL [])) = true,
              Fn Tryd.prog 19 [(false, E41 r4)] (E9 r5) [],
              (false || ((E9 r5).nv && nvL [])) = true,
              (!(r5 == r3)) = false,
              Fn Tryd.prog 18 [(false, E38 aL)] (E41 r6) [],
              (true || ((E41 r6).nv && nvL [])) = true,
              Fn Tryd.prog 20 [(false, E41 r4), (false, E41 r6)] (E4 r7) [],
              (false || ((E4 r7).nv && nvL [])) = true,
              (!r7) = true]) (by kernel_rfl) (cj (laws_szEventS_ok aL 1048576 r1 h1) (cj rfl (cj h2 (cj (laws_toEventS_ok aL r2 h3) (cj rfl (cj (spec_EventsText_ok r2 r3 h4) (cj (by simp [V.nv, nvL, nvL_all, nv_E9]) (cj (laws_toEventS_ok aL r4 h5) (cj rfl (cj (impl_EventsText_ok r4 r5 h6) (cj (by simp [V.nv, nvL, nvL_all, nv_E9]) (cj (nf h7) (cj (laws_toEventS_ok aL r6 h8) (cj rfl (cj (laws_eqEventS_ok r4 r6 r7 h9) (cj (by simp [V.nv, nvL, nvL_all, nv_E4]) (cj1 (nt h10))))))))))))))))))))))) (fun h7 =>
          Pn.some (Fn.of [.call [] (E3 r1) [], .bit false, .call [] (E41 r2) [], .call [] (E9 r3) [], .call [] (E41 r4) [], .call [] (E9 r5) [], .bit true] (p := [Fn Tryd.prog 16 [(false, E38 aL), (false, E3 1048576)] (E3 r1) [],
           (true || ((E3 r1).nv && nvL [])) = true,
           (decide (r1 < 0)) = false,
           Fn Tryd.prog 18 [(false, E38 aL)] (E41 r2) [],
           (true || ((E41 r2).nv && nvL [])) = true,
           Fn Tryd.prog 17 [(false, E41 r2)] (E9 r3) [],
           (false || ((E9 r3).nv && nvL [])) = true,
           Fn Tryd.prog 18 [(false, E38 aL)] (E41 r4) [],
           (true || ((E41 r4).nv && nvL [])) = true,
           Fn Tryd.prog 19 [(false, E41 r4)] (E9 r5) [],
           (false || ((E9 r5).nv && nvL [])) = true,
           (!(r5 == r3)) = true]) (by kernel_rfl) (cj (laws_szEventS_ok aL 1048576 r1 h1) (cj rfl (cj h2 (cj (laws_toEventS_ok aL r2 h3) (cj rfl (cj (spec_EventsText_ok r2 r3 h4) (cj (by simp [V.nv, nvL, nvL_all, nv_E9]) (cj (laws_toEventS_ok aL r4 h5) (cj rfl (cj (impl_EventsText_ok r4 r5 h6) (cj (by simp [V.nv, nvL, nvL_all, nv_E9]) (cj1 (nt h7)))))))))))))))))))))
end Go.Proofs.YthonbclgdbigpaaDoorM
