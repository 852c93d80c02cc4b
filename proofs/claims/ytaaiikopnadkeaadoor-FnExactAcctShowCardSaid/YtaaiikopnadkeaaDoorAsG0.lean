/- Printed by gen.py: functions on plain data, and that the program computes them. No condition. -/
import Derived.Test.YtaaiikopnadkeaaDoorX1
import Derived.Test.YtaaiikopnadkeaaDoorProg
namespace Go.Proofs.YtaaiikopnadkeaaDoorM
set_option linter.unusedVariables false
set_option linter.unusedSimpArgs false
open Go.RowKit
set_option maxRecDepth 100000

structure Hold where
  Id : ByteArray
  Amount : Int
  Due : Int
structure Ring where
  Span : Int
  Head : Int
  Counts : List Int
  Sums : List Int
structure Slot where
  Trace : ByteArray
  Mti : ByteArray
  Reply : List Int
structure Acct where
  Id : ByteArray
  Limit : Int
  Posted : Int
  Most : Int
  MostSum : Int
  Holds : List Hold
  Ring : Ring
  Slots : List Slot
def E9 (x : ByteArray) : V := V.sc (.string x)
def E3 (x : Int) : V := V.sc (.int .i64 x)
def E120 (x : Hold) : V := V.agg [V.sc (.string x.Id), V.sc (.int .i64 x.Amount), V.sc (.int .i64 x.Due)]
def E35 (x : List Hold) : V := V.sl true 120 (List.map E120 x)
def E36 (x : List Int) : V := V.sl true 3 (List.map E3 x)
def E38 (x : Ring) : V := V.agg [V.sc (.int .i64 x.Span), V.sc (.int .i64 x.Head), V.sl true 3 (List.map E3 x.Counts), V.sl true 3 (List.map E3 x.Sums)]
def E5 (x : Int) : V := V.sc (.int .u8 x)
def E52 (x : List Int) : V := V.sl true 5 (List.map E5 x)
def E124 (x : Slot) : V := V.agg [V.sc (.string x.Trace), V.sc (.string x.Mti), V.sl true 5 (List.map E5 x.Reply)]
def E39 (x : List Slot) : V := V.sl true 124 (List.map E124 x)
def E41 (x : Acct) : V := V.agg [V.sc (.string x.Id), V.sc (.int .i64 x.Limit), V.sc (.int .i64 x.Posted), V.sc (.int .i64 x.Most), V.sc (.int .i64 x.MostSum), V.sl true 120 (List.map E120 x.Holds), V.sc (.int .i64 x.Ring.Span), V.sc (.int .i64 x.Ring.Head), V.sl true 3 (List.map E3 x.Ring.Counts), V.sl true 3 (List.map E3 x.Ring.Sums), V.sl true 124 (List.map E124 x.Slots)]
def E4 (x : Bool) : V := V.sc (.bool x)
def E80 (x : Hold) : V := V.agg [V.sc (.string x.Id), V.sc (.int .i64 x.Amount), V.sc (.int .i64 x.Due)]
def E44 (x : List Hold) : V := V.sl true 80 (List.map E80 x)
def E45 (x : Ring) : V := V.agg [V.sc (.int .i64 x.Span), V.sc (.int .i64 x.Head), V.sl true 3 (List.map E3 x.Counts), V.sl true 3 (List.map E3 x.Sums)]
def E135 (x : Slot) : V := V.agg [V.sc (.string x.Trace), V.sc (.string x.Mti), V.sl true 5 (List.map E5 x.Reply)]
def E46 (x : List Slot) : V := V.sl true 135 (List.map E135 x)
def E48 (x : Acct) : V := V.agg [V.sc (.string x.Id), V.sc (.int .i64 x.Limit), V.sc (.int .i64 x.Posted), V.sc (.int .i64 x.Most), V.sc (.int .i64 x.MostSum), V.sl true 80 (List.map E80 x.Holds), V.sc (.int .i64 x.Ring.Span), V.sc (.int .i64 x.Ring.Head), V.sl true 3 (List.map E3 x.Ring.Counts), V.sl true 3 (List.map E3 x.Ring.Sums), V.sl true 135 (List.map E135 x.Slots)]
def E167 (x : List (List Int)) : V := V.sl true 36 (List.map E36 x)
theorem nv_E9 (x : ByteArray) : (E9 x).nv = true := by
  simp [E9, V.nv, nvL, nvL_all]
theorem nv_E3 (x : Int) : (E3 x).nv = true := by
  simp [E3, V.nv, nvL, nvL_all]
theorem nv_E120 (x : Hold) : (E120 x).nv = true := by
  simp [E120, V.nv, nvL, nvL_all]
theorem nv_E35 (x : List Hold) : (E35 x).nv = true := by
  simp [E35, V.nv, nvL, nvL_all, nv_E120]
theorem nv_E36 (x : List Int) : (E36 x).nv = true := by
  simp [E36, V.nv, nvL, nvL_all, nv_E3]
theorem nv_E38 (x : Ring) : (E38 x).nv = true := by
  simp [E38, V.nv, nvL, nvL_all, nv_E3, nv_E3]
theorem nv_E5 (x : Int) : (E5 x).nv = true := by
  simp [E5, V.nv, nvL, nvL_all]
theorem nv_E52 (x : List Int) : (E52 x).nv = true := by
  simp [E52, V.nv, nvL, nvL_all, nv_E5]
theorem nv_E124 (x : Slot) : (E124 x).nv = true := by
  simp [E124, V.nv, nvL, nvL_all, nv_E5]
theorem nv_E39 (x : List Slot) : (E39 x).nv = true := by
  simp [E39, V.nv, nvL, nvL_all, nv_E124]
theorem nv_E41 (x : Acct) : (E41 x).nv = true := by
  simp [E41, V.nv, nvL, nvL_all, nv_E120, nv_E3, nv_E3, nv_E124]
theorem nv_E4 (x : Bool) : (E4 x).nv = true := by
  simp [E4, V.nv, nvL, nvL_all]
theorem nv_E80 (x : Hold) : (E80 x).nv = true := by
  simp [E80, V.nv, nvL, nvL_all]
theorem nv_E44 (x : List Hold) : (E44 x).nv = true := by
  simp [E44, V.nv, nvL, nvL_all, nv_E80]
theorem nv_E45 (x : Ring) : (E45 x).nv = true := by
  simp [E45, V.nv, nvL, nvL_all, nv_E3, nv_E3]
theorem nv_E135 (x : Slot) : (E135 x).nv = true := by
  simp [E135, V.nv, nvL, nvL_all, nv_E5]
theorem nv_E46 (x : List Slot) : (E46 x).nv = true := by
  simp [E46, V.nv, nvL, nvL_all, nv_E135]
theorem nv_E48 (x : Acct) : (E48 x).nv = true := by
  simp [E48, V.nv, nvL, nvL_all, nv_E80, nv_E3, nv_E3, nv_E135]
theorem nv_E167 (x : List (List Int)) : (E167 x).nv = true := by
  simp [E167, V.nv, nvL, nvL_all, nv_E36]
def laws_szHold (a : Hold) (left : Int) : Option (Int) :=
 if (decide ((i64 (left - (a.Id.size : Int))) < 0)) = true then
  some (-1)
 else
  some (i64 (left - (a.Id.size : Int)))
theorem laws_szHold_ok (a : Hold) (left : Int) : Pn (fun y => Fn Tryd.prog 72 [(false, E120 a), (false, E3 left)] (E3 y) []) (laws_szHold a left) := by
  unfold laws_szHold
  exact
   Pn.ite (fun h1 =>
    Pn.some (Fn.of [.bit true] (p := [(decide ((i64 (left - (a.Id.size : Int))) < 0)) = true]) (by kernel_rfl) (cj1 h1))) (fun h1 =>
    Pn.some (Fn.of [.bit false] (p := [(decide ((i64 (left - (a.Id.size : Int))) < 0)) = false]) (by kernel_rfl) (cj1 h1)))
def laws_szHoldS_l0 (a : List Hold) : List Hold → Int → Option (Lo Int Unit)
  | [], v1 =>
   some (.out v1)
  | x1 :: t1, v1 =>
   (laws_szHold x1 v1).bind fun r1 =>
   if (decide (r1 < 0)) = true then
    some (.ret ())
   else
    laws_szHoldS_l0 a t1 r1
theorem laws_szHoldS_l0_ok (a : List Hold) (h3 : capOk a.length = true) : ∀ (t1 p1 : List Hold) (_ : a = p1 ++ t1) (v1 : Int), Pn (LpO Tryd.prog (sub (codeOf Tryd.prog 30) [1, 1, 1, 0, 1, 0, 0]) (st 27 [(0, V.sl false 120 (List.map E120 a)), (1, V.sc (.int .i64 v1)), (5, V.sc (.int .i64 (p1.length : Int)))] [] []) (fun (y : Lo Int Unit) => Lo.elim y (fun s => (X.out 0, st 27 [(1, V.sc (.int .i64 s))] [] [])) (fun s => (X.ret, st 27 [(4, V.sc (.int .i64 (-1)))] [] [])))) (laws_szHoldS_l0 a t1 v1)
  | [], p1, h2, v1 => by
    unfold laws_szHoldS_l0
    exact
     Pn.some (LpO.out [.wait 3, .nm 14 (V.sc (.int .i64 (a.length : Int))), .bit false, .mask [1], .ren []] (p := [V.sc (.int .i64 ((List.map E120 a).length : Int)) = V.sc (.int .i64 (a.length : Int)),
      (decide ((p1.length : Int) < (a.length : Int))) = false]) (by kernel_rfl) (show X.out 0 ≠ X.go from nofun) (cj (len_nm _ _) (cj1 (rng_end h2))))
  | x1 :: t1, p1, h2, v1 => by
    unfold laws_szHoldS_l0
    exact
     Pn.bind (fun r1 h4 =>
      Pn.ite (fun h5 =>
       Pn.some (LpO.out [.wait 3, .nm 14 (V.sc (.int .i64 (a.length : Int))), .bit true, .el (E120 x1), .call [] (E3 r1) [], .bit true, .wait 1, .mask [4], .ren []] (p := [V.sc (.int .i64 ((List.map E120 a).length : Int)) = V.sc (.int .i64 (a.length : Int)),
        (decide ((p1.length : Int) < (a.length : Int))) = true,
        (0 : Int) ≤ (p1.length : Int),
        (List.map E120 a)[(p1.length : Int).toNat]? = some (E120 x1),
        Fn Tryd.prog 72 [(false, E120 x1), (false, E3 v1)] (E3 r1) [],
        (true || ((E3 r1).nv && nvL [])) = true,
        (decide (r1 < 0)) = true]) (by kernel_rfl) (show X.ret ≠ X.go from nofun) (cj (len_nm _ _) (cj (rng_lt h2) (cj (by omega) (cj (rng_get _ h2) (cj (laws_szHold_ok x1 v1 r1 h4) (cj rfl (cj1 h5))))))))) (fun h5 =>
       LpO.go [.wait 3, .nm 14 (V.sc (.int .i64 (a.length : Int))), .bit true, .el (E120 x1), .call [] (E3 r1) [], .bit false, .wait 3, .mask [0, 1, 5], .ren [], .nm 5 (V.sc (.int .i64 ((p1 ++ [x1]).length : Int)))] (p := [V.sc (.int .i64 ((List.map E120 a).length : Int)) = V.sc (.int .i64 (a.length : Int)),
        (decide ((p1.length : Int) < (a.length : Int))) = true,
        (0 : Int) ≤ (p1.length : Int),
        (List.map E120 a)[(p1.length : Int).toNat]? = some (E120 x1),
        Fn Tryd.prog 72 [(false, E120 x1), (false, E3 v1)] (E3 r1) [],
        (true || ((E3 r1).nv && nvL [])) = true,
        (decide (r1 < 0)) = false,
        V.sc (.int .i64 (i64 ((p1.length : Int) + 1))) = V.sc (.int .i64 ((p1 ++ [x1]).length : Int))]) (by kernel_rfl) (cj (len_nm _ _) (cj (rng_lt h2) (cj (by omega) (cj (rng_get _ h2) (cj (laws_szHold_ok x1 v1 r1 h4) (cj rfl (cj h5 (cj1 (rng_next h2 h3))))))))) (laws_szHoldS_l0_ok a h3 t1 (p1 ++ [x1]) (rng_step h2) r1)))
def laws_szHoldS (a : List Hold) (left : Int) : Option (Int) :=
 if (decide ((i64 (left - (a.length : Int))) < 0)) = true then
  some (-1)
 else
  if (capOk a.length) = true then
   (laws_szHoldS_l0 a a (i64 (left - (a.length : Int)))).bind fun r2 =>
   Lo.elim r2 (fun s1 =>
    some s1) (fun s2 =>
    some (-1))
  else none
theorem laws_szHoldS_ok (a : List Hold) (left : Int) : Pn (fun y => Fn Tryd.prog 30 [(false, E35 a), (false, E3 left)] (E3 y) []) (laws_szHoldS a left) := by
  unfold laws_szHoldS
  exact
   Pn.ite (fun h1 =>
    Pn.some (Fn.of [.wait 4, .nm 8 (V.sc (.int .i64 (a.length : Int))), .bit true] (p := [V.sc (.int .i64 ((List.map E120 a).length : Int)) = V.sc (.int .i64 (a.length : Int)),
     (decide ((i64 (left - (a.length : Int))) < 0)) = true]) (by kernel_rfl) (cj (len_nm _ _) (cj1 h1)))) (fun h1 =>
    Pn.ite (fun h6 =>
     Pn.bind (fun r2 h7 =>
      Pn.lo (fun s1 h8 =>
       Pn.some (Fn.of [.wait 4, .nm 8 (V.sc (.int .i64 (a.length : Int))), .bit false, .wait 1, .mask [0, 1, 5], .ren [], .loop (X.out 0) (st 27 [(1, V.sc (.int .i64 s1))] [] [])] (p := [V.sc (.int .i64 ((List.map E120 a).length : Int)) = V.sc (.int .i64 (a.length : Int)),
        (decide ((i64 (left - (a.length : Int))) < 0)) = false,
        Loop Tryd.prog (sub (codeOf Tryd.prog 30) [1, 1, 1, 0, 1, 0, 0]) (st 27 [(0, V.sl false 120 (List.map E120 a)), (1, V.sc (.int .i64 (i64 (left - (a.length : Int))))), (5, V.sc (.int .i64 0))] [] []) (X.out 0) (st 27 [(1, V.sc (.int .i64 s1))] [] [])]) (by kernel_rfl) (cj (len_nm _ _) (cj h1 (cj1 ((laws_szHoldS_l0_ok a h6 a [] rfl (i64 (left - (a.length : Int))) r2 h7).at h8)))))) (fun s2 h9 =>
       Pn.some (Fn.of [.wait 4, .nm 8 (V.sc (.int .i64 (a.length : Int))), .bit false, .wait 1, .mask [0, 1, 5], .ren [], .loop (X.ret) (st 27 [(4, V.sc (.int .i64 (-1)))] [] [])] (p := [V.sc (.int .i64 ((List.map E120 a).length : Int)) = V.sc (.int .i64 (a.length : Int)),
        (decide ((i64 (left - (a.length : Int))) < 0)) = false,
        Loop Tryd.prog (sub (codeOf Tryd.prog 30) [1, 1, 1, 0, 1, 0, 0]) (st 27 [(0, V.sl false 120 (List.map E120 a)), (1, V.sc (.int .i64 (i64 (left - (a.length : Int))))), (5, V.sc (.int .i64 0))] [] []) (X.ret) (st 27 [(4, V.sc (.int .i64 (-1)))] [] [])]) (by kernel_rfl) (cj (len_nm _ _) (cj h1 (cj1 ((laws_szHoldS_l0_ok a h6 a [] rfl (i64 (left - (a.length : Int))) r2 h7).at h9)))))))) (fun h6 =>
     Pn.none))
def laws_szIntS (a : List Int) (left : Int) : Option (Int) :=
 if (decide ((i64 (left - (a.length : Int))) < 0)) = true then
  some (-1)
 else
  some (i64 (left - (a.length : Int)))
theorem laws_szIntS_ok (a : List Int) (left : Int) : Pn (fun y => Fn Tryd.prog 73 [(false, E36 a), (false, E3 left)] (E3 y) []) (laws_szIntS a left) := by
  unfold laws_szIntS
  exact
   Pn.ite (fun h1 =>
    Pn.some (Fn.of [.wait 4, .nm 7 (V.sc (.int .i64 (a.length : Int))), .bit true] (p := [V.sc (.int .i64 ((List.map E3 a).length : Int)) = V.sc (.int .i64 (a.length : Int)),
     (decide ((i64 (left - (a.length : Int))) < 0)) = true]) (by kernel_rfl) (cj (len_nm _ _) (cj1 h1)))) (fun h1 =>
    Pn.some (Fn.of [.wait 4, .nm 7 (V.sc (.int .i64 (a.length : Int))), .bit false] (p := [V.sc (.int .i64 ((List.map E3 a).length : Int)) = V.sc (.int .i64 (a.length : Int)),
     (decide ((i64 (left - (a.length : Int))) < 0)) = false]) (by kernel_rfl) (cj (len_nm _ _) (cj1 h1))))
def laws_szRing (a : Ring) (left : Int) : Option (Int) :=
 (laws_szIntS a.Counts left).bind fun r1 =>
 if (decide (r1 < 0)) = true then
  some (-1)
 else
  (laws_szIntS a.Sums r1).bind fun r2 =>
  if (decide (r2 < 0)) = true then
   some (-1)
  else
   some r2
theorem laws_szRing_ok (a : Ring) (left : Int) : Pn (fun y => Fn Tryd.prog 31 [(false, E38 a), (false, E3 left)] (E3 y) []) (laws_szRing a left) := by
  unfold laws_szRing
  exact
   Pn.bind (fun r1 h1 =>
    Pn.ite (fun h2 =>
     Pn.some (Fn.of [.call [] (E3 r1) [], .bit true] (p := [Fn Tryd.prog 73 [(false, E36 a.Counts), (false, E3 left)] (E3 r1) [],
      (true || ((E3 r1).nv && nvL [])) = true,
      (decide (r1 < 0)) = true]) (by kernel_rfl) (cj (laws_szIntS_ok a.Counts left r1 h1) (cj rfl (cj1 h2))))) (fun h2 =>
     Pn.bind (fun r2 h3 =>
      Pn.ite (fun h4 =>
       Pn.some (Fn.of [.call [] (E3 r1) [], .bit false, .call [] (E3 r2) [], .bit true] (p := [Fn Tryd.prog 73 [(false, E36 a.Counts), (false, E3 left)] (E3 r1) [],
        (true || ((E3 r1).nv && nvL [])) = true,
        (decide (r1 < 0)) = false,
        Fn Tryd.prog 73 [(false, E36 a.Sums), (false, E3 r1)] (E3 r2) [],
        (true || ((E3 r2).nv && nvL [])) = true,
        (decide (r2 < 0)) = true]) (by kernel_rfl) (cj (laws_szIntS_ok a.Counts left r1 h1) (cj rfl (cj h2 (cj (laws_szIntS_ok a.Sums r1 r2 h3) (cj rfl (cj1 h4)))))))) (fun h4 =>
       Pn.some (Fn.of [.call [] (E3 r1) [], .bit false, .call [] (E3 r2) [], .bit false] (p := [Fn Tryd.prog 73 [(false, E36 a.Counts), (false, E3 left)] (E3 r1) [],
        (true || ((E3 r1).nv && nvL [])) = true,
        (decide (r1 < 0)) = false,
        Fn Tryd.prog 73 [(false, E36 a.Sums), (false, E3 r1)] (E3 r2) [],
        (true || ((E3 r2).nv && nvL [])) = true,
        (decide (r2 < 0)) = false]) (by kernel_rfl) (cj (laws_szIntS_ok a.Counts left r1 h1) (cj rfl (cj h2 (cj (laws_szIntS_ok a.Sums r1 r2 h3) (cj rfl (cj1 h4)))))))))))
def laws_szByteS (a : List Int) (left : Int) : Option (Int) :=
 if (decide ((i64 (left - (a.length : Int))) < 0)) = true then
  some (-1)
 else
  some (i64 (left - (a.length : Int)))
theorem laws_szByteS_ok (a : List Int) (left : Int) : Pn (fun y => Fn Tryd.prog 113 [(false, E52 a), (false, E3 left)] (E3 y) []) (laws_szByteS a left) := by
  unfold laws_szByteS
  exact
   Pn.ite (fun h1 =>
    Pn.some (Fn.of [.wait 4, .nm 7 (V.sc (.int .i64 (a.length : Int))), .bit true] (p := [V.sc (.int .i64 ((List.map E5 a).length : Int)) = V.sc (.int .i64 (a.length : Int)),
     (decide ((i64 (left - (a.length : Int))) < 0)) = true]) (by kernel_rfl) (cj (len_nm _ _) (cj1 h1)))) (fun h1 =>
    Pn.some (Fn.of [.wait 4, .nm 7 (V.sc (.int .i64 (a.length : Int))), .bit false] (p := [V.sc (.int .i64 ((List.map E5 a).length : Int)) = V.sc (.int .i64 (a.length : Int)),
     (decide ((i64 (left - (a.length : Int))) < 0)) = false]) (by kernel_rfl) (cj (len_nm _ _) (cj1 h1))))
def laws_szSlot (a : Slot) (left : Int) : Option (Int) :=
 if (decide ((i64 (left - (a.Trace.size : Int))) < 0)) = true then
  some (-1)
 else
  if (decide ((i64 ((i64 (left - (a.Trace.size : Int))) - (a.Mti.size : Int))) < 0)) = true then
   some (-1)
  else
   (laws_szByteS a.Reply (i64 ((i64 (left - (a.Trace.size : Int))) - (a.Mti.size : Int)))).bind fun r1 =>
   if (decide (r1 < 0)) = true then
    some (-1)
   else
    some r1
theorem laws_szSlot_ok (a : Slot) (left : Int) : Pn (fun y => Fn Tryd.prog 74 [(false, E124 a), (false, E3 left)] (E3 y) []) (laws_szSlot a left) := by
  unfold laws_szSlot
  exact
   Pn.ite (fun h1 =>
    Pn.some (Fn.of [.bit true] (p := [(decide ((i64 (left - (a.Trace.size : Int))) < 0)) = true]) (by kernel_rfl) (cj1 h1))) (fun h1 =>
    Pn.ite (fun h2 =>
     Pn.some (Fn.of [.bit false, .bit true] (p := [(decide ((i64 (left - (a.Trace.size : Int))) < 0)) = false,
      (decide ((i64 ((i64 (left - (a.Trace.size : Int))) - (a.Mti.size : Int))) < 0)) = true]) (by kernel_rfl) (cj h1 (cj1 h2)))) (fun h2 =>
     Pn.bind (fun r1 h3 =>
      Pn.ite (fun h4 =>
       Pn.some (Fn.of [.bit false, .bit false, .call [] (E3 r1) [], .bit true] (p := [(decide ((i64 (left - (a.Trace.size : Int))) < 0)) = false,
        (decide ((i64 ((i64 (left - (a.Trace.size : Int))) - (a.Mti.size : Int))) < 0)) = false,
        Fn Tryd.prog 113 [(false, E52 a.Reply), (false, E3 (i64 ((i64 (left - (a.Trace.size : Int))) - (a.Mti.size : Int))))] (E3 r1) [],
        (true || ((E3 r1).nv && nvL [])) = true,
        (decide (r1 < 0)) = true]) (by kernel_rfl) (cj h1 (cj h2 (cj (laws_szByteS_ok a.Reply (i64 ((i64 (left - (a.Trace.size : Int))) - (a.Mti.size : Int))) r1 h3) (cj rfl (cj1 h4))))))) (fun h4 =>
       Pn.some (Fn.of [.bit false, .bit false, .call [] (E3 r1) [], .bit false] (p := [(decide ((i64 (left - (a.Trace.size : Int))) < 0)) = false,
        (decide ((i64 ((i64 (left - (a.Trace.size : Int))) - (a.Mti.size : Int))) < 0)) = false,
        Fn Tryd.prog 113 [(false, E52 a.Reply), (false, E3 (i64 ((i64 (left - (a.Trace.size : Int))) - (a.Mti.size : Int))))] (E3 r1) [],
        (true || ((E3 r1).nv && nvL [])) = true,
        (decide (r1 < 0)) = false]) (by kernel_rfl) (cj h1 (cj h2 (cj (laws_szByteS_ok a.Reply (i64 ((i64 (left - (a.Trace.size : Int))) - (a.Mti.size : Int))) r1 h3) (cj rfl (cj1 h4))))))))))
def laws_szSlotS_l0 (a : List Slot) : List Slot → Int → Option (Lo Int Unit)
  | [], v1 =>
   some (.out v1)
  | x1 :: t1, v1 =>
   (laws_szSlot x1 v1).bind fun r1 =>
   if (decide (r1 < 0)) = true then
    some (.ret ())
   else
    laws_szSlotS_l0 a t1 r1
theorem laws_szSlotS_l0_ok (a : List Slot) (h3 : capOk a.length = true) : ∀ (t1 p1 : List Slot) (_ : a = p1 ++ t1) (v1 : Int), Pn (LpO Tryd.prog (sub (codeOf Tryd.prog 32) [1, 1, 1, 0, 1, 0, 0]) (st 27 [(0, V.sl false 124 (List.map E124 a)), (1, V.sc (.int .i64 v1)), (5, V.sc (.int .i64 (p1.length : Int)))] [] []) (fun (y : Lo Int Unit) => Lo.elim y (fun s => (X.out 0, st 27 [(1, V.sc (.int .i64 s))] [] [])) (fun s => (X.ret, st 27 [(4, V.sc (.int .i64 (-1)))] [] [])))) (laws_szSlotS_l0 a t1 v1)
  | [], p1, h2, v1 => by
    unfold laws_szSlotS_l0
    exact
     Pn.some (LpO.out [.wait 3, .nm 14 (V.sc (.int .i64 (a.length : Int))), .bit false, .mask [1], .ren []] (p := [V.sc (.int .i64 ((List.map E124 a).length : Int)) = V.sc (.int .i64 (a.length : Int)),
      (decide ((p1.length : Int) < (a.length : Int))) = false]) (by kernel_rfl) (show X.out 0 ≠ X.go from nofun) (cj (len_nm _ _) (cj1 (rng_end h2))))
  | x1 :: t1, p1, h2, v1 => by
    unfold laws_szSlotS_l0
    exact
     Pn.bind (fun r1 h4 =>
      Pn.ite (fun h5 =>
       Pn.some (LpO.out [.wait 3, .nm 14 (V.sc (.int .i64 (a.length : Int))), .bit true, .el (E124 x1), .call [] (E3 r1) [], .bit true, .wait 1, .mask [4], .ren []] (p := [V.sc (.int .i64 ((List.map E124 a).length : Int)) = V.sc (.int .i64 (a.length : Int)),
        (decide ((p1.length : Int) < (a.length : Int))) = true,
        (0 : Int) ≤ (p1.length : Int),
        (List.map E124 a)[(p1.length : Int).toNat]? = some (E124 x1),
        Fn Tryd.prog 74 [(false, E124 x1), (false, E3 v1)] (E3 r1) [],
        (true || ((E3 r1).nv && nvL [])) = true,
        (decide (r1 < 0)) = true]) (by kernel_rfl) (show X.ret ≠ X.go from nofun) (cj (len_nm _ _) (cj (rng_lt h2) (cj (by omega) (cj (rng_get _ h2) (cj (laws_szSlot_ok x1 v1 r1 h4) (cj rfl (cj1 h5))))))))) (fun h5 =>
       LpO.go [.wait 3, .nm 14 (V.sc (.int .i64 (a.length : Int))), .bit true, .el (E124 x1), .call [] (E3 r1) [], .bit false, .wait 3, .mask [0, 1, 5], .ren [], .nm 5 (V.sc (.int .i64 ((p1 ++ [x1]).length : Int)))] (p := [V.sc (.int .i64 ((List.map E124 a).length : Int)) = V.sc (.int .i64 (a.length : Int)),
        (decide ((p1.length : Int) < (a.length : Int))) = true,
        (0 : Int) ≤ (p1.length : Int),
        (List.map E124 a)[(p1.length : Int).toNat]? = some (E124 x1),
        Fn Tryd.prog 74 [(false, E124 x1), (false, E3 v1)] (E3 r1) [],
        (true || ((E3 r1).nv && nvL [])) = true,
        (decide (r1 < 0)) = false,
        V.sc (.int .i64 (i64 ((p1.length : Int) + 1))) = V.sc (.int .i64 ((p1 ++ [x1]).length : Int))]) (by kernel_rfl) (cj (len_nm _ _) (cj (rng_lt h2) (cj (by omega) (cj (rng_get _ h2) (cj (laws_szSlot_ok x1 v1 r1 h4) (cj rfl (cj h5 (cj1 (rng_next h2 h3))))))))) (laws_szSlotS_l0_ok a h3 t1 (p1 ++ [x1]) (rng_step h2) r1)))
def laws_szSlotS (a : List Slot) (left : Int) : Option (Int) :=
 if (decide ((i64 (left - (a.length : Int))) < 0)) = true then
  some (-1)
 else
  if (capOk a.length) = true then
   (laws_szSlotS_l0 a a (i64 (left - (a.length : Int)))).bind fun r2 =>
   Lo.elim r2 (fun s1 =>
    some s1) (fun s2 =>
    some (-1))
  else none
theorem laws_szSlotS_ok (a : List Slot) (left : Int) : Pn (fun y => Fn Tryd.prog 32 [(false, E39 a), (false, E3 left)] (E3 y) []) (laws_szSlotS a left) := by
  unfold laws_szSlotS
  exact
   Pn.ite (fun h1 =>
    Pn.some (Fn.of [.wait 4, .nm 8 (V.sc (.int .i64 (a.length : Int))), .bit true] (p := [V.sc (.int .i64 ((List.map E124 a).length : Int)) = V.sc (.int .i64 (a.length : Int)),
     (decide ((i64 (left - (a.length : Int))) < 0)) = true]) (by kernel_rfl) (cj (len_nm _ _) (cj1 h1)))) (fun h1 =>
    Pn.ite (fun h6 =>
     Pn.bind (fun r2 h7 =>
      Pn.lo (fun s1 h8 =>
       Pn.some (Fn.of [.wait 4, .nm 8 (V.sc (.int .i64 (a.length : Int))), .bit false, .wait 1, .mask [0, 1, 5], .ren [], .loop (X.out 0) (st 27 [(1, V.sc (.int .i64 s1))] [] [])] (p := [V.sc (.int .i64 ((List.map E124 a).length : Int)) = V.sc (.int .i64 (a.length : Int)),
        (decide ((i64 (left - (a.length : Int))) < 0)) = false,
        Loop Tryd.prog (sub (codeOf Tryd.prog 32) [1, 1, 1, 0, 1, 0, 0]) (st 27 [(0, V.sl false 124 (List.map E124 a)), (1, V.sc (.int .i64 (i64 (left - (a.length : Int))))), (5, V.sc (.int .i64 0))] [] []) (X.out 0) (st 27 [(1, V.sc (.int .i64 s1))] [] [])]) (by kernel_rfl) (cj (len_nm _ _) (cj h1 (cj1 ((laws_szSlotS_l0_ok a h6 a [] rfl (i64 (left - (a.length : Int))) r2 h7).at h8)))))) (fun s2 h9 =>
       Pn.some (Fn.of [.wait 4, .nm 8 (V.sc (.int .i64 (a.length : Int))), .bit false, .wait 1, .mask [0, 1, 5], .ren [], .loop (X.ret) (st 27 [(4, V.sc (.int .i64 (-1)))] [] [])] (p := [V.sc (.int .i64 ((List.map E124 a).length : Int)) = V.sc (.int .i64 (a.length : Int)),
        (decide ((i64 (left - (a.length : Int))) < 0)) = false,
        Loop Tryd.prog (sub (codeOf Tryd.prog 32) [1, 1, 1, 0, 1, 0, 0]) (st 27 [(0, V.sl false 124 (List.map E124 a)), (1, V.sc (.int .i64 (i64 (left - (a.length : Int))))), (5, V.sc (.int .i64 0))] [] []) (X.ret) (st 27 [(4, V.sc (.int .i64 (-1)))] [] [])]) (by kernel_rfl) (cj (len_nm _ _) (cj h1 (cj1 ((laws_szSlotS_l0_ok a h6 a [] rfl (i64 (left - (a.length : Int))) r2 h7).at h9)))))))) (fun h6 =>
     Pn.none))
def laws_szAcct (a : Acct) (left : Int) : Option (Int) :=
 if (decide ((i64 (left - (a.Id.size : Int))) < 0)) = true then
  some (-1)
 else
  (laws_szHoldS a.Holds (i64 (left - (a.Id.size : Int)))).bind fun r1 =>
  if (decide (r1 < 0)) = true then
   some (-1)
  else
   (laws_szRing a.Ring r1).bind fun r2 =>
   if (decide (r2 < 0)) = true then
    some (-1)
   else
    (laws_szSlotS a.Slots r2).bind fun r3 =>
    if (decide (r3 < 0)) = true then
     some (-1)
    else
     some r3
theorem laws_szAcct_ok (a : Acct) (left : Int) : Pn (fun y => Fn Tryd.prog 11 [(false, E41 a), (false, E3 left)] (E3 y) []) (laws_szAcct a left) := by
  unfold laws_szAcct
  exact
   Pn.ite (fun h1 =>
    Pn.some (Fn.of [.bit true] (p := [(decide ((i64 (left - (a.Id.size : Int))) < 0)) = true]) (by kernel_rfl) (cj1 h1))) (fun h1 =>
    Pn.bind (fun r1 h2 =>
     Pn.ite (fun h3 =>
      Pn.some (Fn.of [.bit false, .call [] (E3 r1) [], .bit true] (p := [(decide ((i64 (left - (a.Id.size : Int))) < 0)) = false,
       Fn Tryd.prog 30 [(false, E35 a.Holds), (false, E3 (i64 (left - (a.Id.size : Int))))] (E3 r1) [],
       (true || ((E3 r1).nv && nvL [])) = true,
       (decide (r1 < 0)) = true]) (by kernel_rfl) (cj h1 (cj (laws_szHoldS_ok a.Holds (i64 (left - (a.Id.size : Int))) r1 h2) (cj rfl (cj1 h3)))))) (fun h3 =>
      Pn.bind (fun r2 h4 =>
       Pn.ite (fun h5 =>
        Pn.some (Fn.of [.bit false, .call [] (E3 r1) [], .bit false, .call [] (E3 r2) [], .bit true] (p := [(decide ((i64 (left - (a.Id.size : Int))) < 0)) = false,
         Fn Tryd.prog 30 [(false, E35 a.Holds), (false, E3 (i64 (left - (a.Id.size : Int))))] (E3 r1) [],
         (true || ((E3 r1).nv && nvL [])) = true,
         (decide (r1 < 0)) = false,
         Fn Tryd.prog 31 [(false, E38 a.Ring), (false, E3 r1)] (E3 r2) [],
         (true || ((E3 r2).nv && nvL [])) = true,
         (decide (r2 < 0)) = true]) (by kernel_rfl) (cj h1 (cj (laws_szHoldS_ok a.Holds (i64 (left - (a.Id.size : Int))) r1 h2) (cj rfl (cj h3 (cj (laws_szRing_ok a.Ring r1 r2 h4) (cj rfl (cj1 h5))))))))) (fun h5 =>
        Pn.bind (fun r3 h6 =>
         Pn.ite (fun h7 =>
          Pn.some (Fn.of [.bit false, .call [] (E3 r1) [], .bit false, .call [] (E3 r2) [], .bit false, .call [] (E3 r3) [], .bit true] (p := [(decide ((i64 (left - (a.Id.size : Int))) < 0)) = false,
           Fn Tryd.prog 30 [(false, E35 a.Holds), (false, E3 (i64 (left - (a.Id.size : Int))))] (E3 r1) [],
           (true || ((E3 r1).nv && nvL [])) = true,
           (decide (r1 < 0)) = false,
           Fn Tryd.prog 31 [(false, E38 a.Ring), (false, E3 r1)] (E3 r2) [],
           (true || ((E3 r2).nv && nvL [])) = true,
           (decide (r2 < 0)) = false,
           Fn Tryd.prog 32 [(false, E39 a.Slots), (false, E3 r2)] (E3 r3) [],
           (true || ((E3 r3).nv && nvL [])) = true,
           (decide (r3 < 0)) = true]) (by kernel_rfl) (cj h1 (cj (laws_szHoldS_ok a.Holds (i64 (left - (a.Id.size : Int))) r1 h2) (cj rfl (cj h3 (cj (laws_szRing_ok a.Ring r1 r2 h4) (cj rfl (cj h5 (cj (laws_szSlotS_ok a.Slots r2 r3 h6) (cj rfl (cj1 h7)))))))))))) (fun h7 =>
          Pn.some (Fn.of [.bit false, .call [] (E3 r1) [], .bit false, .call [] (E3 r2) [], .bit false, .call [] (E3 r3) [], .bit false] (p := [(decide ((i64 (left - (a.Id.size : Int))) < 0)) = false,
           Fn Tryd.prog 30 [(false, E35 a.Holds), (false, E3 (i64 (left - (a.Id.size : Int))))] (E3 r1) [],
           (true || ((E3 r1).nv && nvL [])) = true,
           (decide (r1 < 0)) = false,
           Fn Tryd.prog 31 [(false, E38 a.Ring), (false, E3 r1)] (E3 r2) [],
           (true || ((E3 r2).nv && nvL [])) = true,
           (decide (r2 < 0)) = false,
           Fn Tryd.prog 32 [(false, E39 a.Slots), (false, E3 r2)] (E3 r3) [],
           (true || ((E3 r3).nv && nvL [])) = true,
           (decide (r3 < 0)) = false]) (by kernel_rfl) (cj h1 (cj (laws_szHoldS_ok a.Holds (i64 (left - (a.Id.size : Int))) r1 h2) (cj rfl (cj h3 (cj (laws_szRing_ok a.Ring r1 r2 h4) (cj rfl (cj h5 (cj (laws_szSlotS_ok a.Slots r2 r3 h6) (cj rfl (cj1 h7))))))))))))))))))
def laws_toHold (a : Hold) : Option (Hold) :=
 some a
theorem laws_toHold_ok (a : Hold) : Pn (fun y => Fn Tryd.prog 84 [(false, E120 a)] (E80 y) []) (laws_toHold a) := by
  unfold laws_toHold
  exact
   Pn.some (Fn.of [] (p := []) (by kernel_rfl) trivial)
def laws_toHoldS_l0 (a : List Hold) : List Hold → List Hold → (List Hold) → Option ((List Hold))
  | [], p1, v1 =>
   some v1
  | x1 :: t1, p1, v1 =>
   (laws_toHold x1).bind fun r1 =>
   (v1[(p1.length : Int).toNat]?).bind fun x2 =>
   laws_toHoldS_l0 a t1 (p1 ++ [x1]) (v1.set ((p1.length : Int).toNat) r1)
theorem laws_toHoldS_l0_ok (a : List Hold) (h4 : capOk a.length = true) : ∀ (t1 p1 : List Hold) (_ : a = p1 ++ t1) (v1 : List Hold), Pn (LpO Tryd.prog (sub (codeOf Tryd.prog 38) [1, 1, 0, 1, 0, 0]) (st 23 [(0, V.sl false 120 (List.map E120 a)), (3, V.ow 0), (4, V.sc (.int .i64 (p1.length : Int)))] [Blk.row 80 (List.map E80 v1) []] []) (fun (y : (List Hold)) => (X.out 0, st 23 [(3, V.ow 0)] [Blk.row 80 (List.map E80 y) []] []))) (laws_toHoldS_l0 a t1 p1 v1)
  | [], p1, h3, v1 => by
    unfold laws_toHoldS_l0
    exact
     Pn.some (LpO.out [.wait 3, .nm 10 (V.sc (.int .i64 (a.length : Int))), .bit false, .mask [3], .ren [0]] (p := [V.sc (.int .i64 ((List.map E120 a).length : Int)) = V.sc (.int .i64 (a.length : Int)),
      (decide ((p1.length : Int) < (a.length : Int))) = false]) (by kernel_rfl) (show X.out 0 ≠ X.go from nofun) (cj (len_nm _ _) (cj1 (rng_end h3))))
  | x1 :: t1, p1, h3, v1 => by
    unfold laws_toHoldS_l0
    exact
     Pn.bind (fun r1 h5 =>
      Pn.bind (fun x2 h6 =>
       LpO.go [.wait 3, .nm 10 (V.sc (.int .i64 (a.length : Int))), .bit true, .el (E120 x1), .call [] (E80 r1) [], .el (E80 x2), .nb 0 (.row 80 (List.map E80 (v1.set ((p1.length : Int).toNat) r1)) []), .wait 4, .mask [0, 3, 4], .ren [0], .nm 4 (V.sc (.int .i64 ((p1 ++ [x1]).length : Int)))] (p := [V.sc (.int .i64 ((List.map E120 a).length : Int)) = V.sc (.int .i64 (a.length : Int)),
        (decide ((p1.length : Int) < (a.length : Int))) = true,
        (0 : Int) ≤ (p1.length : Int),
        (List.map E120 a)[(p1.length : Int).toNat]? = some (E120 x1),
        Fn Tryd.prog 84 [(false, E120 x1)] (E80 r1) [],
        (true || ((E80 r1).nv && nvL [])) = true,
        (0 : Int) ≤ (p1.length : Int),
        ((p1.length : Int) : Int) < ((List.map E80 v1).length : Int),
        look [] ((p1.length : Int).toNat) = none,
        (List.map E80 v1)[(p1.length : Int).toNat]? = some (E80 x2),
        Blk.row 80 ((List.map E80 v1).set ((p1.length : Int).toNat) (V.agg [V.sc (.string r1.Id), V.sc (.int .i64 r1.Amount), V.sc (.int .i64 r1.Due)])) [] = Blk.row 80 (List.map E80 (v1.set ((p1.length : Int).toNat) r1)) [],
        V.sc (.int .i64 (i64 ((p1.length : Int) + 1))) = V.sc (.int .i64 ((p1 ++ [x1]).length : Int))]) (by kernel_rfl) (cj (len_nm _ _) (cj (rng_lt h3) (cj (by omega) (cj (rng_get _ h3) (cj (laws_toHold_ok x1 r1 h5) (cj rfl (cj (by omega) (cj (map_ltN (by omega) h6) (cj rfl (cj (map_get h6) (cj (nb_set E80 _ _ r1) (cj1 (rng_next h3 h4))))))))))))) (laws_toHoldS_l0_ok a h4 t1 (p1 ++ [x1]) (rng_step h3) (v1.set ((p1.length : Int).toNat) r1))))
def laws_toHoldS (a : List Hold) : Option ((List Hold)) :=
 if (decide (0 ≤ (a.length : Int))) = true then
  if (capOk (a.length : Int).toNat) = true then
   if (capOk a.length) = true then
    (laws_toHoldS_l0 a a [] (List.replicate ((a.length : Int).toNat) (Hold.mk ByteArray.empty 0 0))).bind fun r2 =>
    some r2
   else none
  else none
 else none
theorem laws_toHoldS_ok (a : List Hold) : Pn (fun y => Fn Tryd.prog 38 [(false, E35 a)] (E44 y) []) (laws_toHoldS a) := by
  unfold laws_toHoldS
  exact
   Pn.ite (fun h1 =>
    Pn.ite (fun h2 =>
     Pn.ite (fun h7 =>
      Pn.bind (fun r2 h8 =>
       Pn.some (Fn.of [.wait 3, .nm 6 (V.sc (.int .i64 (a.length : Int))), .wait 1, .nb 0 (.row 80 (List.map E80 (List.replicate ((a.length : Int).toNat) (Hold.mk ByteArray.empty 0 0))) []), .wait 3, .mask [0, 3, 4], .ren [0], .loop (X.out 0) (st 23 [(3, V.ow 0)] [Blk.row 80 (List.map E80 r2) []] [])] (p := [V.sc (.int .i64 ((List.map E120 a).length : Int)) = V.sc (.int .i64 (a.length : Int)),
        ((a.length : Int) : Int) = (a.length : Int),
        (0 : Int) ≤ (a.length : Int),
        ((a.length : Int) : Int) ≤ 9223372036854775807,
        32 * (a.length : Int).toNat ≤ 281474976710656,
        Blk.row 80 (List.replicate ((a.length : Int).toNat) (V.agg [V.sc (.string ByteArray.empty), V.sc (.int .i64 0), V.sc (.int .i64 0)])) [] = Blk.row 80 (List.map E80 (List.replicate ((a.length : Int).toNat) (Hold.mk ByteArray.empty 0 0))) [],
        Loop Tryd.prog (sub (codeOf Tryd.prog 38) [1, 1, 0, 1, 0, 0]) (st 23 [(0, V.sl false 120 (List.map E120 a)), (3, V.ow 0), (4, V.sc (.int .i64 0))] [Blk.row 80 (List.map E80 (List.replicate ((a.length : Int).toNat) (Hold.mk ByteArray.empty 0 0))) []] []) (X.out 0) (st 23 [(3, V.ow 0)] [Blk.row 80 (List.map E80 r2) []] [])]) (by kernel_rfl) (cj (len_nm _ _) (cj rfl (cj (od h1) (cj (cap3 h1 h2) (cj (cap4 h2 (by decide)) (cj (nb_rep E80 _ (Hold.mk ByteArray.empty 0 0)) (cj1 (laws_toHoldS_l0_ok a h7 a [] rfl (List.replicate ((a.length : Int).toNat) (Hold.mk ByteArray.empty 0 0)) r2 h8))))))))))) (fun h7 =>
      Pn.none)) (fun h2 =>
     Pn.none)) (fun h1 =>
    Pn.none)
def laws_toIntS_l0 (a : List Int) : List Int → List Int → (List Int) → Option ((List Int))
  | [], p1, v1 =>
   some v1
  | x1 :: t1, p1, v1 =>
   (v1[(p1.length : Int).toNat]?).bind fun x2 =>
   laws_toIntS_l0 a t1 (p1 ++ [x1]) (v1.set ((p1.length : Int).toNat) x1)
theorem laws_toIntS_l0_ok (a : List Int) (h4 : capOk a.length = true) : ∀ (t1 p1 : List Int) (_ : a = p1 ++ t1) (v1 : List Int), Pn (LpO Tryd.prog (sub (codeOf Tryd.prog 85) [1, 1, 0, 1, 0, 0]) (st 22 [(0, V.sl false 3 (List.map E3 a)), (3, V.ow 0), (4, V.sc (.int .i64 (p1.length : Int)))] [Blk.row 3 (List.map E3 v1) []] []) (fun (y : (List Int)) => (X.out 0, st 22 [(3, V.ow 0)] [Blk.row 3 (List.map E3 y) []] []))) (laws_toIntS_l0 a t1 p1 v1)
  | [], p1, h3, v1 => by
    unfold laws_toIntS_l0
    exact
     Pn.some (LpO.out [.wait 3, .nm 10 (V.sc (.int .i64 (a.length : Int))), .bit false, .mask [3], .ren [0]] (p := [V.sc (.int .i64 ((List.map E3 a).length : Int)) = V.sc (.int .i64 (a.length : Int)),
      (decide ((p1.length : Int) < (a.length : Int))) = false]) (by kernel_rfl) (show X.out 0 ≠ X.go from nofun) (cj (len_nm _ _) (cj1 (rng_end h3))))
  | x1 :: t1, p1, h3, v1 => by
    unfold laws_toIntS_l0
    exact
     Pn.bind (fun x2 h5 =>
      LpO.go [.wait 3, .nm 10 (V.sc (.int .i64 (a.length : Int))), .bit true, .el (E3 x1), .el (E3 x2), .nb 0 (.row 3 (List.map E3 (v1.set ((p1.length : Int).toNat) x1)) []), .wait 4, .mask [0, 3, 4], .ren [0], .nm 4 (V.sc (.int .i64 ((p1 ++ [x1]).length : Int)))] (p := [V.sc (.int .i64 ((List.map E3 a).length : Int)) = V.sc (.int .i64 (a.length : Int)),
       (decide ((p1.length : Int) < (a.length : Int))) = true,
       (0 : Int) ≤ (p1.length : Int),
       (List.map E3 a)[(p1.length : Int).toNat]? = some (E3 x1),
       (0 : Int) ≤ (p1.length : Int),
       ((p1.length : Int) : Int) < ((List.map E3 v1).length : Int),
       look [] ((p1.length : Int).toNat) = none,
       (List.map E3 v1)[(p1.length : Int).toNat]? = some (E3 x2),
       Blk.row 3 ((List.map E3 v1).set ((p1.length : Int).toNat) (V.sc (.int .i64 x1))) [] = Blk.row 3 (List.map E3 (v1.set ((p1.length : Int).toNat) x1)) [],
       V.sc (.int .i64 (i64 ((p1.length : Int) + 1))) = V.sc (.int .i64 ((p1 ++ [x1]).length : Int))]) (by kernel_rfl) (cj (len_nm _ _) (cj (rng_lt h3) (cj (by omega) (cj (rng_get _ h3) (cj (by omega) (cj (map_ltN (by omega) h5) (cj rfl (cj (map_get h5) (cj (nb_set E3 _ _ x1) (cj1 (rng_next h3 h4))))))))))) (laws_toIntS_l0_ok a h4 t1 (p1 ++ [x1]) (rng_step h3) (v1.set ((p1.length : Int).toNat) x1)))
def laws_toIntS (a : List Int) : Option ((List Int)) :=
 if (decide (0 ≤ (a.length : Int))) = true then
  if (capOk (a.length : Int).toNat) = true then
   if (capOk a.length) = true then
    (laws_toIntS_l0 a a [] (List.replicate ((a.length : Int).toNat) 0)).bind fun r1 =>
    some r1
   else none
  else none
 else none
theorem laws_toIntS_ok (a : List Int) : Pn (fun y => Fn Tryd.prog 85 [(false, E36 a)] (E36 y) []) (laws_toIntS a) := by
  unfold laws_toIntS
  exact
   Pn.ite (fun h1 =>
    Pn.ite (fun h2 =>
     Pn.ite (fun h6 =>
      Pn.bind (fun r1 h7 =>
       Pn.some (Fn.of [.wait 3, .nm 6 (V.sc (.int .i64 (a.length : Int))), .wait 1, .nb 0 (.row 3 (List.map E3 (List.replicate ((a.length : Int).toNat) 0)) []), .wait 3, .mask [0, 3, 4], .ren [0], .loop (X.out 0) (st 22 [(3, V.ow 0)] [Blk.row 3 (List.map E3 r1) []] [])] (p := [V.sc (.int .i64 ((List.map E3 a).length : Int)) = V.sc (.int .i64 (a.length : Int)),
        ((a.length : Int) : Int) = (a.length : Int),
        (0 : Int) ≤ (a.length : Int),
        ((a.length : Int) : Int) ≤ 9223372036854775807,
        8 * (a.length : Int).toNat ≤ 281474976710656,
        Blk.row 3 (List.replicate ((a.length : Int).toNat) (V.sc (.int .i64 0))) [] = Blk.row 3 (List.map E3 (List.replicate ((a.length : Int).toNat) 0)) [],
        Loop Tryd.prog (sub (codeOf Tryd.prog 85) [1, 1, 0, 1, 0, 0]) (st 22 [(0, V.sl false 3 (List.map E3 a)), (3, V.ow 0), (4, V.sc (.int .i64 0))] [Blk.row 3 (List.map E3 (List.replicate ((a.length : Int).toNat) 0)) []] []) (X.out 0) (st 22 [(3, V.ow 0)] [Blk.row 3 (List.map E3 r1) []] [])]) (by kernel_rfl) (cj (len_nm _ _) (cj rfl (cj (od h1) (cj (cap3 h1 h2) (cj (cap4 h2 (by decide)) (cj (nb_rep E3 _ 0) (cj1 (laws_toIntS_l0_ok a h6 a [] rfl (List.replicate ((a.length : Int).toNat) 0) r1 h7))))))))))) (fun h6 =>
      Pn.none)) (fun h2 =>
     Pn.none)) (fun h1 =>
    Pn.none)
def laws_toRing (a : Ring) : Option (Ring) :=
 (laws_toIntS a.Counts).bind fun r1 =>
 (laws_toIntS a.Sums).bind fun r2 =>
 some (Ring.mk a.Span a.Head r1 r2)
theorem laws_toRing_ok (a : Ring) : Pn (fun y => Fn Tryd.prog 39 [(false, E38 a)] (E45 y) []) (laws_toRing a) := by
  unfold laws_toRing
  exact
   Pn.bind (fun r1 h1 =>
    Pn.bind (fun r2 h2 =>
     Pn.some (Fn.of [.call [] (E36 r1) [], .call [] (E36 r2) []] (p := [Fn Tryd.prog 85 [(false, E36 a.Counts)] (E36 r1) [],
      (true || ((E36 r1).nv && nvL [])) = true,
      Fn Tryd.prog 85 [(false, E36 a.Sums)] (E36 r2) [],
      (true || ((E36 r2).nv && nvL [])) = true]) (by kernel_rfl) (cj (laws_toIntS_ok a.Counts r1 h1) (cj rfl (cj (laws_toIntS_ok a.Sums r2 h2) (cj1 rfl)))))))
def laws_toByteS_l0 (a : List Int) : List Int → List Int → (List Int) → Option ((List Int))
  | [], p1, v1 =>
   some v1
  | x1 :: t1, p1, v1 =>
   (v1[(p1.length : Int).toNat]?).bind fun x2 =>
   laws_toByteS_l0 a t1 (p1 ++ [x1]) (v1.set ((p1.length : Int).toNat) x1)
theorem laws_toByteS_l0_ok (a : List Int) (h4 : capOk a.length = true) : ∀ (t1 p1 : List Int) (_ : a = p1 ++ t1) (v1 : List Int), Pn (LpO Tryd.prog (sub (codeOf Tryd.prog 115) [1, 1, 0, 1, 0, 0]) (st 22 [(0, V.sl false 5 (List.map E5 a)), (3, V.ow 0), (4, V.sc (.int .i64 (p1.length : Int)))] [Blk.row 5 (List.map E5 v1) []] []) (fun (y : (List Int)) => (X.out 0, st 22 [(3, V.ow 0)] [Blk.row 5 (List.map E5 y) []] []))) (laws_toByteS_l0 a t1 p1 v1)
  | [], p1, h3, v1 => by
    unfold laws_toByteS_l0
    exact
     Pn.some (LpO.out [.wait 3, .nm 10 (V.sc (.int .i64 (a.length : Int))), .bit false, .mask [3], .ren [0]] (p := [V.sc (.int .i64 ((List.map E5 a).length : Int)) = V.sc (.int .i64 (a.length : Int)),
      (decide ((p1.length : Int) < (a.length : Int))) = false]) (by kernel_rfl) (show X.out 0 ≠ X.go from nofun) (cj (len_nm _ _) (cj1 (rng_end h3))))
  | x1 :: t1, p1, h3, v1 => by
    unfold laws_toByteS_l0
    exact
     Pn.bind (fun x2 h5 =>
      LpO.go [.wait 3, .nm 10 (V.sc (.int .i64 (a.length : Int))), .bit true, .el (E5 x1), .el (E5 x2), .nb 0 (.row 5 (List.map E5 (v1.set ((p1.length : Int).toNat) x1)) []), .wait 4, .mask [0, 3, 4], .ren [0], .nm 4 (V.sc (.int .i64 ((p1 ++ [x1]).length : Int)))] (p := [V.sc (.int .i64 ((List.map E5 a).length : Int)) = V.sc (.int .i64 (a.length : Int)),
       (decide ((p1.length : Int) < (a.length : Int))) = true,
       (0 : Int) ≤ (p1.length : Int),
       (List.map E5 a)[(p1.length : Int).toNat]? = some (E5 x1),
       (0 : Int) ≤ (p1.length : Int),
       ((p1.length : Int) : Int) < ((List.map E5 v1).length : Int),
       look [] ((p1.length : Int).toNat) = none,
       (List.map E5 v1)[(p1.length : Int).toNat]? = some (E5 x2),
       Blk.row 5 ((List.map E5 v1).set ((p1.length : Int).toNat) (V.sc (.int .u8 x1))) [] = Blk.row 5 (List.map E5 (v1.set ((p1.length : Int).toNat) x1)) [],
       V.sc (.int .i64 (i64 ((p1.length : Int) + 1))) = V.sc (.int .i64 ((p1 ++ [x1]).length : Int))]) (by kernel_rfl) (cj (len_nm _ _) (cj (rng_lt h3) (cj (by omega) (cj (rng_get _ h3) (cj (by omega) (cj (map_ltN (by omega) h5) (cj rfl (cj (map_get h5) (cj (nb_set E5 _ _ x1) (cj1 (rng_next h3 h4))))))))))) (laws_toByteS_l0_ok a h4 t1 (p1 ++ [x1]) (rng_step h3) (v1.set ((p1.length : Int).toNat) x1)))
def laws_toByteS (a : List Int) : Option ((List Int)) :=
 if (decide (0 ≤ (a.length : Int))) = true then
  if (capOk (a.length : Int).toNat) = true then
   if (capOk a.length) = true then
    (laws_toByteS_l0 a a [] (List.replicate ((a.length : Int).toNat) 0)).bind fun r1 =>
    some r1
   else none
  else none
 else none
theorem laws_toByteS_ok (a : List Int) : Pn (fun y => Fn Tryd.prog 115 [(false, E52 a)] (E52 y) []) (laws_toByteS a) := by
  unfold laws_toByteS
  exact
   Pn.ite (fun h1 =>
    Pn.ite (fun h2 =>
     Pn.ite (fun h6 =>
      Pn.bind (fun r1 h7 =>
       Pn.some (Fn.of [.wait 3, .nm 6 (V.sc (.int .i64 (a.length : Int))), .wait 1, .nb 0 (.row 5 (List.map E5 (List.replicate ((a.length : Int).toNat) 0)) []), .wait 3, .mask [0, 3, 4], .ren [0], .loop (X.out 0) (st 22 [(3, V.ow 0)] [Blk.row 5 (List.map E5 r1) []] [])] (p := [V.sc (.int .i64 ((List.map E5 a).length : Int)) = V.sc (.int .i64 (a.length : Int)),
        ((a.length : Int) : Int) = (a.length : Int),
        (0 : Int) ≤ (a.length : Int),
        ((a.length : Int) : Int) ≤ 9223372036854775807,
        1 * (a.length : Int).toNat ≤ 281474976710656,
        Blk.row 5 (List.replicate ((a.length : Int).toNat) (V.sc (.int .u8 0))) [] = Blk.row 5 (List.map E5 (List.replicate ((a.length : Int).toNat) 0)) [],
        Loop Tryd.prog (sub (codeOf Tryd.prog 115) [1, 1, 0, 1, 0, 0]) (st 22 [(0, V.sl false 5 (List.map E5 a)), (3, V.ow 0), (4, V.sc (.int .i64 0))] [Blk.row 5 (List.map E5 (List.replicate ((a.length : Int).toNat) 0)) []] []) (X.out 0) (st 22 [(3, V.ow 0)] [Blk.row 5 (List.map E5 r1) []] [])]) (by kernel_rfl) (cj (len_nm _ _) (cj rfl (cj (od h1) (cj (cap3 h1 h2) (cj (cap4 h2 (by decide)) (cj (nb_rep E5 _ 0) (cj1 (laws_toByteS_l0_ok a h6 a [] rfl (List.replicate ((a.length : Int).toNat) 0) r1 h7))))))))))) (fun h6 =>
      Pn.none)) (fun h2 =>
     Pn.none)) (fun h1 =>
    Pn.none)
def laws_toSlot (a : Slot) : Option (Slot) :=
 (laws_toByteS a.Reply).bind fun r1 =>
 some (Slot.mk a.Trace a.Mti r1)
theorem laws_toSlot_ok (a : Slot) : Pn (fun y => Fn Tryd.prog 86 [(false, E124 a)] (E135 y) []) (laws_toSlot a) := by
  unfold laws_toSlot
  exact
   Pn.bind (fun r1 h1 =>
    Pn.some (Fn.of [.call [] (E52 r1) []] (p := [Fn Tryd.prog 115 [(false, E52 a.Reply)] (E52 r1) [],
     (true || ((E52 r1).nv && nvL [])) = true]) (by kernel_rfl) (cj (laws_toByteS_ok a.Reply r1 h1) (cj1 rfl))))
def laws_toSlotS_l0 (a : List Slot) : List Slot → List Slot → (List Slot) → Option ((List Slot))
  | [], p1, v1 =>
   some v1
  | x1 :: t1, p1, v1 =>
   (laws_toSlot x1).bind fun r1 =>
   (v1[(p1.length : Int).toNat]?).bind fun x2 =>
   laws_toSlotS_l0 a t1 (p1 ++ [x1]) (v1.set ((p1.length : Int).toNat) r1)
theorem laws_toSlotS_l0_ok (a : List Slot) (h4 : capOk a.length = true) : ∀ (t1 p1 : List Slot) (_ : a = p1 ++ t1) (v1 : List Slot), Pn (LpO Tryd.prog (sub (codeOf Tryd.prog 40) [1, 1, 0, 1, 0, 0]) (st 23 [(0, V.sl false 124 (List.map E124 a)), (3, V.ow 0), (4, V.sc (.int .i64 (p1.length : Int)))] [Blk.row 135 (List.map E135 v1) []] []) (fun (y : (List Slot)) => (X.out 0, st 23 [(3, V.ow 0)] [Blk.row 135 (List.map E135 y) []] []))) (laws_toSlotS_l0 a t1 p1 v1)
  | [], p1, h3, v1 => by
    unfold laws_toSlotS_l0
    exact
     Pn.some (LpO.out [.wait 3, .nm 10 (V.sc (.int .i64 (a.length : Int))), .bit false, .mask [3], .ren [0]] (p := [V.sc (.int .i64 ((List.map E124 a).length : Int)) = V.sc (.int .i64 (a.length : Int)),
      (decide ((p1.length : Int) < (a.length : Int))) = false]) (by kernel_rfl) (show X.out 0 ≠ X.go from nofun) (cj (len_nm _ _) (cj1 (rng_end h3))))
  | x1 :: t1, p1, h3, v1 => by
    unfold laws_toSlotS_l0
    exact
     Pn.bind (fun r1 h5 =>
      Pn.bind (fun x2 h6 =>
       LpO.go [.wait 3, .nm 10 (V.sc (.int .i64 (a.length : Int))), .bit true, .el (E124 x1), .call [] (E135 r1) [], .wait 1, .foc 0 ((p1.length : Int).toNat) (E135 x2), .fo 0, .wait 4, .shut 0, .nb 0 (.row 135 (List.map E135 (v1.set ((p1.length : Int).toNat) r1)) []), .mask [0, 3, 4], .ren [0], .nm 4 (V.sc (.int .i64 ((p1 ++ [x1]).length : Int)))] (p := [V.sc (.int .i64 ((List.map E124 a).length : Int)) = V.sc (.int .i64 (a.length : Int)),
        (decide ((p1.length : Int) < (a.length : Int))) = true,
        (0 : Int) ≤ (p1.length : Int),
        (List.map E124 a)[(p1.length : Int).toNat]? = some (E124 x1),
        Fn Tryd.prog 86 [(false, E124 x1)] (E135 r1) [],
        (true || ((E135 r1).nv && nvL [])) = true,
        (0 : Int) ≤ (p1.length : Int),
        ((p1.length : Int) : Int) < ((List.map E135 v1).length : Int),
        look [] ((p1.length : Int).toNat) = none,
        (List.map E135 v1)[(p1.length : Int).toNat]? = some (E135 x2),
        look [((p1.length : Int).toNat, V.agg [V.sc (.string x2.Trace), V.sc (.string x2.Mti), V.ow 2])] ((p1.length : Int).toNat) = some (V.agg [V.sc (.string x2.Trace), V.sc (.string x2.Mti), V.ow 2]),
        ((p1.length : Int).toNat) < (List.map E135 v1).length,
        ((p1.length : Int).toNat) = ((p1.length : Int).toNat),
        Blk.row 135 ((List.map E135 v1).set ((p1.length : Int).toNat) (V.agg [V.sc (.string r1.Trace), V.sc (.string r1.Mti), V.sl true 5 (List.map E5 r1.Reply)])) [] = Blk.row 135 (List.map E135 (v1.set ((p1.length : Int).toNat) r1)) [],
        V.sc (.int .i64 (i64 ((p1.length : Int) + 1))) = V.sc (.int .i64 ((p1 ++ [x1]).length : Int))]) (by kernel_rfl) (cj (len_nm _ _) (cj (rng_lt h3) (cj (by omega) (cj (rng_get _ h3) (cj (laws_toSlot_ok x1 r1 h5) (cj rfl (cj (by omega) (cj (map_ltN (by omega) h6) (cj rfl (cj (map_get h6) (cj (look_cons_self _ _ _) (cj (map_lt h6) (cj rfl (cj (nb_set E135 _ _ r1) (cj1 (rng_next h3 h4)))))))))))))))) (laws_toSlotS_l0_ok a h4 t1 (p1 ++ [x1]) (rng_step h3) (v1.set ((p1.length : Int).toNat) r1))))
def laws_toSlotS (a : List Slot) : Option ((List Slot)) :=
 if (decide (0 ≤ (a.length : Int))) = true then
  if (capOk (a.length : Int).toNat) = true then
   if (capOk a.length) = true then
    (laws_toSlotS_l0 a a [] (List.replicate ((a.length : Int).toNat) (Slot.mk ByteArray.empty ByteArray.empty []))).bind fun r2 =>
    some r2
   else none
  else none
 else none
theorem laws_toSlotS_ok (a : List Slot) : Pn (fun y => Fn Tryd.prog 40 [(false, E39 a)] (E46 y) []) (laws_toSlotS a) := by
  unfold laws_toSlotS
  exact
   Pn.ite (fun h1 =>
    Pn.ite (fun h2 =>
     Pn.ite (fun h7 =>
      Pn.bind (fun r2 h8 =>
       Pn.some (Fn.of [.wait 3, .nm 6 (V.sc (.int .i64 (a.length : Int))), .wait 1, .nb 0 (.row 135 (List.map E135 (List.replicate ((a.length : Int).toNat) (Slot.mk ByteArray.empty ByteArray.empty []))) []), .wait 3, .mask [0, 3, 4], .ren [0], .loop (X.out 0) (st 23 [(3, V.ow 0)] [Blk.row 135 (List.map E135 r2) []] [])] (p := [V.sc (.int .i64 ((List.map E124 a).length : Int)) = V.sc (.int .i64 (a.length : Int)),
        ((a.length : Int) : Int) = (a.length : Int),
        (0 : Int) ≤ (a.length : Int),
        ((a.length : Int) : Int) ≤ 9223372036854775807,
        56 * (a.length : Int).toNat ≤ 281474976710656,
        Blk.row 135 (List.replicate ((a.length : Int).toNat) (V.agg [V.sc (.string ByteArray.empty), V.sc (.string ByteArray.empty), V.sl true 5 ([] : List V)])) [] = Blk.row 135 (List.map E135 (List.replicate ((a.length : Int).toNat) (Slot.mk ByteArray.empty ByteArray.empty []))) [],
        Loop Tryd.prog (sub (codeOf Tryd.prog 40) [1, 1, 0, 1, 0, 0]) (st 23 [(0, V.sl false 124 (List.map E124 a)), (3, V.ow 0), (4, V.sc (.int .i64 0))] [Blk.row 135 (List.map E135 (List.replicate ((a.length : Int).toNat) (Slot.mk ByteArray.empty ByteArray.empty []))) []] []) (X.out 0) (st 23 [(3, V.ow 0)] [Blk.row 135 (List.map E135 r2) []] [])]) (by kernel_rfl) (cj (len_nm _ _) (cj rfl (cj (od h1) (cj (cap3 h1 h2) (cj (cap4 h2 (by decide)) (cj (nb_rep E135 _ (Slot.mk ByteArray.empty ByteArray.empty [])) (cj1 (laws_toSlotS_l0_ok a h7 a [] rfl (List.replicate ((a.length : Int).toNat) (Slot.mk ByteArray.empty ByteArray.empty [])) r2 h8))))))))))) (fun h7 =>
      Pn.none)) (fun h2 =>
     Pn.none)) (fun h1 =>
    Pn.none)
def laws_toAcct (a : Acct) : Option (Acct) :=
 (laws_toHoldS a.Holds).bind fun r1 =>
 (laws_toRing a.Ring).bind fun r2 =>
 (laws_toSlotS a.Slots).bind fun r3 =>
 some (Acct.mk a.Id a.Limit a.Posted a.Most a.MostSum r1 r2 r3)
theorem laws_toAcct_ok (a : Acct) : Pn (fun y => Fn Tryd.prog 13 [(false, E41 a)] (E48 y) []) (laws_toAcct a) := by
  unfold laws_toAcct
  exact
   Pn.bind (fun r1 h1 =>
    Pn.bind (fun r2 h2 =>
     Pn.bind (fun r3 h3 =>
      Pn.some (Fn.of [.call [] (E44 r1) [], .call [] (E45 r2) [], .call [] (E46 r3) []] (p := [Fn Tryd.prog 38 [(false, E35 a.Holds)] (E44 r1) [],
       (true || ((E44 r1).nv && nvL [])) = true,
       Fn Tryd.prog 39 [(false, E38 a.Ring)] (E45 r2) [],
       (true || ((E45 r2).nv && nvL [])) = true,
       Fn Tryd.prog 40 [(false, E39 a.Slots)] (E46 r3) [],
       (true || ((E46 r3).nv && nvL [])) = true]) (by kernel_rfl) (cj (laws_toHoldS_ok a.Holds r1 h1) (cj rfl (cj (laws_toRing_ok a.Ring r2 h2) (cj rfl (cj (laws_toSlotS_ok a.Slots r3 h3) (cj1 rfl))))))))))
def spec_Digits_l0 (s_ : ByteArray) : Nat → Int → Option (Lo Unit Unit)
  | 0, _ => none
  | fuel + 1, v1 =>
   if (decide (v1 < (s_.size : Int))) = true then
    if (decide (0 ≤ v1)) = true then
     if (decide ((v1 : Int) < (s_.size : Int))) = true then
      if (decide ((sAt s_ v1) < 48)) = true then
       some (.ret ())
      else
       if (decide (57 < (sAt s_ v1))) = true then
        some (.ret ())
       else
        spec_Digits_l0 s_ fuel (i64 (v1 + 1))
     else none
    else none
   else
    some (.out ())
theorem spec_Digits_l0_ok (s_ : ByteArray) : ∀ (fuel : Nat) (v1 : Int), Pn (LpO Tryd.prog (sub (codeOf Tryd.prog 104) [1, 0, 1, 0, 0]) (st 23 [(0, V.sc (.string s_)), (3, V.sc (.int .i64 v1))] [] []) (fun (y : Lo Unit Unit) => Lo.elim y (fun s => (X.out 0, st 23 [(0, V.sc (.string s_))] [] [])) (fun s => (X.ret, st 23 [(2, V.sc (.bool false))] [] [])))) (spec_Digits_l0 s_ fuel v1)
  | 0, _ => Pn.none
  | fuel + 1, v1 => by
    unfold spec_Digits_l0
    exact
     Pn.ite (fun h1 =>
      Pn.ite (fun h2 =>
       Pn.ite (fun h3 =>
        Pn.ite (fun h4 =>
         Pn.some (LpO.out [.bit true, .bit true, .bit true, .bit true, .bit true, .bit true, .bit true, .wait 1, .mask [2], .ren []] (p := [(decide (v1 < (s_.size : Int))) = true,
          (0 : Int) ≤ v1,
          (v1 : Int) < s_.size,
          (decide ((sAt s_ v1) < 48)) = true,
          (decide ((sAt s_ v1) < 48)) = true,
          (decide ((sAt s_ v1) < 48)) = true,
          (decide ((sAt s_ v1) < 48)) = true,
          (decide ((sAt s_ v1) < 48)) = true,
          true = true]) (by kernel_rfl) (show X.ret ≠ X.go from nofun) (cj h1 (cj (od h2) (cj (od h3) (cj h4 (cj h4 (cj h4 (cj h4 (cj h4 (cj1 rfl))))))))))) (fun h4 =>
         Pn.ite (fun h5 =>
          Pn.some (LpO.out [.bit true, .bit false, .bit false, .bit false, .bit false, .bit false, .bit true, .wait 1, .mask [2], .ren []] (p := [(decide (v1 < (s_.size : Int))) = true,
           (0 : Int) ≤ v1,
           (v1 : Int) < s_.size,
           (decide ((sAt s_ v1) < 48)) = false,
           (decide ((sAt s_ v1) < 48)) = false,
           (decide ((sAt s_ v1) < 48)) = false,
           (0 : Int) ≤ v1,
           (v1 : Int) < s_.size,
           (decide ((sAt s_ v1) < 48)) = false,
           (decide ((sAt s_ v1) < 48)) = false,
           (decide (57 < (sAt s_ v1))) = true]) (by kernel_rfl) (show X.ret ≠ X.go from nofun) (cj h1 (cj (od h2) (cj (od h3) (cj h4 (cj h4 (cj h4 (cj (od h2) (cj (od h3) (cj h4 (cj h4 (cj1 h5))))))))))))) (fun h5 =>
          LpO.go [.bit true, .bit false, .bit false, .bit false, .bit false, .bit false, .bit false, .wait 3, .mask [0, 3], .ren []] (p := [(decide (v1 < (s_.size : Int))) = true,
           (0 : Int) ≤ v1,
           (v1 : Int) < s_.size,
           (decide ((sAt s_ v1) < 48)) = false,
           (decide ((sAt s_ v1) < 48)) = false,
           (decide ((sAt s_ v1) < 48)) = false,
           (0 : Int) ≤ v1,
           (v1 : Int) < s_.size,
           (decide ((sAt s_ v1) < 48)) = false,
           (decide ((sAt s_ v1) < 48)) = false,
           (decide (57 < (sAt s_ v1))) = false]) (by kernel_rfl) (cj h1 (cj (od h2) (cj (od h3) (cj h4 (cj h4 (cj h4 (cj (od h2) (cj (od h3) (cj h4 (cj h4 (cj1 h5))))))))))) (spec_Digits_l0_ok s_ fuel (i64 (v1 + 1)))))) (fun h3 =>
        Pn.none)) (fun h2 =>
       Pn.none)) (fun h1 =>
      Pn.some (LpO.out [.bit false, .mask [0], .ren []] (p := [(decide (v1 < (s_.size : Int))) = false]) (by kernel_rfl) (show X.out 0 ≠ X.go from nofun) (cj1 h1)))
def spec_Digits (s_ : ByteArray) : Option (Bool) :=
 (spec_Digits_l0 s_ FUEL 0).bind fun r1 =>
 Lo.elim r1 (fun s1 =>
  some (decide (0 < (s_.size : Int)))) (fun s2 =>
  some false)
theorem spec_Digits_ok (s_ : ByteArray) : Pn (fun y => Fn Tryd.prog 104 [(false, E9 s_)] (E4 y) []) (spec_Digits s_) := by
  unfold spec_Digits
  exact
   Pn.bind (fun r1 h6 =>
    Pn.lo (fun s1 h7 =>
     Pn.some (Fn.of [.wait 3, .mask [0, 3], .ren [], .loop (X.out 0) (st 23 [(0, V.sc (.string s_))] [] [])] (p := [Loop Tryd.prog (sub (codeOf Tryd.prog 104) [1, 0, 1, 0, 0]) (st 23 [(0, V.sc (.string s_)), (3, V.sc (.int .i64 0))] [] []) (X.out 0) (st 23 [(0, V.sc (.string s_))] [] [])]) (by kernel_rfl) (cj1 ((spec_Digits_l0_ok s_ FUEL 0 r1 h6).at h7)))) (fun s2 h8 =>
     Pn.some (Fn.of [.wait 3, .mask [0, 3], .ren [], .loop (X.ret) (st 23 [(2, V.sc (.bool false))] [] [])] (p := [Loop Tryd.prog (sub (codeOf Tryd.prog 104) [1, 0, 1, 0, 0]) (st 23 [(0, V.sc (.string s_)), (3, V.sc (.int .i64 0))] [] []) (X.ret) (st 23 [(2, V.sc (.bool false))] [] [])]) (by kernel_rfl) (cj1 ((spec_Digits_l0_ok s_ FUEL 0 r1 h6).at h8)))))
def spec_Luhn_l0 (s_ : ByteArray) : Nat → Int → Bool → Int → Option (Int)
  | 0, _, _, _ => none
  | fuel + 1, v1, v2, v3 =>
   if (decide (0 ≤ v3)) = true then
    if (decide ((v3 : Int) < (s_.size : Int))) = true then
     if v2 = true then
      if (decide (9 < (i64 (2 * (i64 ((i64 (sAt s_ v3)) - 48)))))) = true then
       spec_Luhn_l0 s_ fuel (Int.tmod (i64 (v1 + (i64 ((i64 (2 * (i64 ((i64 (sAt s_ v3)) - 48)))) - 9)))) 10) (!v2) (i64 (v3 - 1))
      else
       spec_Luhn_l0 s_ fuel (Int.tmod (i64 (v1 + (i64 (2 * (i64 ((i64 (sAt s_ v3)) - 48)))))) 10) (!v2) (i64 (v3 - 1))
     else
      spec_Luhn_l0 s_ fuel (Int.tmod (i64 (v1 + (i64 ((i64 (sAt s_ v3)) - 48)))) 10) (!v2) (i64 (v3 - 1))
    else none
   else
    some v1
theorem spec_Luhn_l0_ok (s_ : ByteArray) : ∀ (fuel : Nat) (v1 : Int) (v2 : Bool) (v3 : Int), Pn (LpO Tryd.prog (sub (codeOf Tryd.prog 138) [1, 1, 1, 1, 0, 1, 0, 0]) (st 38 [(0, V.sc (.string s_)), (3, V.sc (.int .i64 v1)), (4, V.sc (.bool v2)), (5, V.sc (.int .i64 v3))] [] []) (fun (y : Int) => (X.out 0, st 38 [(3, V.sc (.int .i64 y))] [] []))) (spec_Luhn_l0 s_ fuel v1 v2 v3)
  | 0, _, _, _ => Pn.none
  | fuel + 1, v1, v2, v3 => by
    unfold spec_Luhn_l0
    exact
     Pn.ite (fun h3 =>
      Pn.ite (fun h4 =>
       Pn.ite (fun h5 =>
        Pn.ite (fun h6 =>
         LpO.go [.bit true, .bit true, .bit true, .wait 14, .mask [0, 3, 4, 5], .ren []] (p := [(decide (0 ≤ v3)) = true,
          (0 : Int) ≤ v3,
          (v3 : Int) < s_.size,
          v2 = true,
          (decide (9 < (i64 (2 * (i64 ((i64 (sAt s_ v3)) - 48)))))) = true,
          (10 : Int) ≠ 0]) (by kernel_rfl) (cj h3 (cj (od h3) (cj (od h4) (cj h5 (cj h6 (cj1 (by decide))))))) (spec_Luhn_l0_ok s_ fuel (Int.tmod (i64 (v1 + (i64 ((i64 (2 * (i64 ((i64 (sAt s_ v3)) - 48)))) - 9)))) 10) (!v2) (i64 (v3 - 1)))) (fun h6 =>
         LpO.go [.bit true, .bit true, .bit false, .wait 11, .mask [0, 3, 4, 5], .ren []] (p := [(decide (0 ≤ v3)) = true,
          (0 : Int) ≤ v3,
          (v3 : Int) < s_.size,
          v2 = true,
          (decide (9 < (i64 (2 * (i64 ((i64 (sAt s_ v3)) - 48)))))) = false,
          (10 : Int) ≠ 0]) (by kernel_rfl) (cj h3 (cj (od h3) (cj (od h4) (cj h5 (cj h6 (cj1 (by decide))))))) (spec_Luhn_l0_ok s_ fuel (Int.tmod (i64 (v1 + (i64 (2 * (i64 ((i64 (sAt s_ v3)) - 48)))))) 10) (!v2) (i64 (v3 - 1))))) (fun h5 =>
        LpO.go [.bit true, .bit false, .wait 11, .mask [0, 3, 4, 5], .ren []] (p := [(decide (0 ≤ v3)) = true,
         (0 : Int) ≤ v3,
         (v3 : Int) < s_.size,
         v2 = false,
         (10 : Int) ≠ 0]) (by kernel_rfl) (cj h3 (cj (od h3) (cj (od h4) (cj h5 (cj1 (by decide)))))) (spec_Luhn_l0_ok s_ fuel (Int.tmod (i64 (v1 + (i64 ((i64 (sAt s_ v3)) - 48)))) 10) (!v2) (i64 (v3 - 1))))) (fun h4 =>
       Pn.none)) (fun h3 =>
      Pn.some (LpO.out [.bit false, .mask [3], .ren []] (p := [(decide (0 ≤ v3)) = false]) (by kernel_rfl) (show X.out 0 ≠ X.go from nofun) (cj1 h3)))
def spec_Luhn (s_ : ByteArray) : Option (Int) :=
 (spec_Digits s_).bind fun r1 =>
 if r1 = true then
  (spec_Luhn_l0 s_ FUEL 0 true (i64 ((s_.size : Int) - 1))).bind fun r2 =>
  some (Int.tmod (i64 (10 - r2)) 10)
 else
  some (-1)
theorem spec_Luhn_ok (s_ : ByteArray) : Pn (fun y => Fn Tryd.prog 138 [(false, E9 s_)] (E3 y) []) (spec_Luhn s_) := by
  unfold spec_Luhn
  exact
   Pn.bind (fun r1 h1 =>
    Pn.ite (fun h2 =>
     Pn.bind (fun r2 h7 =>
      Pn.some (Fn.of [.call [] (E4 r1) [], .bit false, .wait 6, .mask [0, 3, 4, 5], .ren [], .loop (X.out 0) (st 38 [(3, V.sc (.int .i64 r2))] [] [])] (p := [Fn Tryd.prog 104 [(false, E9 s_)] (E4 r1) [],
       (true || ((E4 r1).nv && nvL [])) = true,
       (!r1) = false,
       Loop Tryd.prog (sub (codeOf Tryd.prog 138) [1, 1, 1, 1, 0, 1, 0, 0]) (st 38 [(0, V.sc (.string s_)), (3, V.sc (.int .i64 0)), (4, V.sc (.bool true)), (5, V.sc (.int .i64 (i64 ((s_.size : Int) - 1))))] [] []) (X.out 0) (st 38 [(3, V.sc (.int .i64 r2))] [] []),
       (10 : Int) ≠ 0]) (by kernel_rfl) (cj (spec_Digits_ok s_ r1 h1) (cj rfl (cj (nf h2) (cj (spec_Luhn_l0_ok s_ FUEL 0 true (i64 ((s_.size : Int) - 1)) r2 h7) (cj1 (by decide))))))))) (fun h2 =>
     Pn.some (Fn.of [.call [] (E4 r1) [], .bit true] (p := [Fn Tryd.prog 104 [(false, E9 s_)] (E4 r1) [],
      (true || ((E4 r1).nv && nvL [])) = true,
      (!r1) = true]) (by kernel_rfl) (cj (spec_Digits_ok s_ r1 h1) (cj rfl (cj1 (nt h2)))))))
def spec_LuhnOk (s_ : ByteArray) : Option (Bool) :=
 (spec_Digits s_).bind fun r1 =>
 if r1 = true then
  if (decide ((s_.size : Int) < 2)) = true then
   some false
  else
   if (decide (0 ≤ (i64 ((s_.size : Int) - 1)))) = true then
    if (decide ((i64 ((s_.size : Int) - 1)) ≤ (s_.size : Int))) = true then
     if (decide (0 ≤ i64 ((s_.size : Int) - 1))) = true then
      if (decide ((i64 ((s_.size : Int) - 1) : Int) < (s_.size : Int))) = true then
       (spec_Luhn (s_.extract 0 (i64 ((s_.size : Int) - 1)).toNat)).bind fun r2 =>
       some (r2 == (i64 ((i64 (sAt s_ (i64 ((s_.size : Int) - 1)))) - 48)))
      else none
     else none
    else none
   else none
 else
  some false
theorem spec_LuhnOk_ok (s_ : ByteArray) : Pn (fun y => Fn Tryd.prog 120 [(false, E9 s_)] (E4 y) []) (spec_LuhnOk s_) := by
  unfold spec_LuhnOk
  exact
   Pn.bind (fun r1 h1 =>
    Pn.ite (fun h2 =>
     Pn.ite (fun h3 =>
      Pn.some (Fn.of [.call [] (E4 r1) [], .bit false, .bit false, .bit false, .bit false, .bit true] (p := [Fn Tryd.prog 104 [(false, E9 s_)] (E4 r1) [],
       (true || ((E4 r1).nv && nvL [])) = true,
       (!r1) = false,
       (!r1) = false,
       (!r1) = false,
       (!r1) = false,
       (decide ((s_.size : Int) < 2)) = true]) (by kernel_rfl) (cj (spec_Digits_ok s_ r1 h1) (cj rfl (cj (nf h2) (cj (nf h2) (cj (nf h2) (cj (nf h2) (cj1 h3))))))))) (fun h3 =>
      Pn.ite (fun h4 =>
       Pn.ite (fun h5 =>
        Pn.ite (fun h6 =>
         Pn.ite (fun h7 =>
          Pn.bind (fun r2 h8 =>
           Pn.some (Fn.of [.call [] (E4 r1) [], .bit false, .bit false, .bit false, .bit false, .bit false, .draw [], .call [] (E3 r2) []] (p := [Fn Tryd.prog 104 [(false, E9 s_)] (E4 r1) [],
            (true || ((E4 r1).nv && nvL [])) = true,
            (!r1) = false,
            (!r1) = false,
            (!r1) = false,
            (!r1) = false,
            (decide ((s_.size : Int) < 2)) = false,
            (0 : Int) ≤ 0,
            (0 : Int) ≤ (i64 ((s_.size : Int) - 1)),
            ((i64 ((s_.size : Int) - 1)) : Int) ≤ (s_.size : Int),
            (0 : Int) ≤ i64 ((s_.size : Int) - 1),
            (i64 ((s_.size : Int) - 1) : Int) < s_.size,
            Fn Tryd.prog 138 [(false, E9 (s_.extract 0 (i64 ((s_.size : Int) - 1)).toNat))] (E3 r2) [],
            (true || ((E3 r2).nv && nvL [])) = true]) (by kernel_rfl) (cj (spec_Digits_ok s_ r1 h1) (cj rfl (cj (nf h2) (cj (nf h2) (cj (nf h2) (cj (nf h2) (cj h3 (cj (by decide) (cj (od h4) (cj (od h5) (cj (od h6) (cj (od h7) (cj (spec_Luhn_ok (s_.extract 0 (i64 ((s_.size : Int) - 1)).toNat) r2 h8) (cj1 rfl))))))))))))))))) (fun h7 =>
          Pn.none)) (fun h6 =>
         Pn.none)) (fun h5 =>
        Pn.none)) (fun h4 =>
       Pn.none))) (fun h2 =>
     Pn.some (Fn.of [.call [] (E4 r1) [], .bit true, .bit true, .bit true, .bit true, .bit true] (p := [Fn Tryd.prog 104 [(false, E9 s_)] (E4 r1) [],
      (true || ((E4 r1).nv && nvL [])) = true,
      (!r1) = true,
      (!r1) = true,
      (!r1) = true,
      (!r1) = true,
      true = true]) (by kernel_rfl) (cj (spec_Digits_ok s_ r1 h1) (cj rfl (cj (nt h2) (cj (nt h2) (cj (nt h2) (cj (nt h2) (cj1 rfl))))))))))
def spec_AcctIdOk (s_ : ByteArray) : Option (Bool) :=
 if (decide ((s_.size : Int) ≤ 19)) = true then
  (spec_LuhnOk s_).bind fun r1 =>
  some r1
 else
  some false
theorem spec_AcctIdOk_ok (s_ : ByteArray) : Pn (fun y => Fn Tryd.prog 75 [(false, E9 s_)] (E4 y) []) (spec_AcctIdOk s_) := by
  unfold spec_AcctIdOk
  exact
   Pn.ite (fun h1 =>
    Pn.bind (fun r1 h2 =>
     Pn.some (Fn.of [.bit true, .bit true, .call [] (E4 r1) [], .bit true] (p := [(decide ((s_.size : Int) ≤ 19)) = true,
      (decide ((s_.size : Int) ≤ 19)) = true,
      Fn Tryd.prog 120 [(false, E9 s_)] (E4 r1) [],
      (true || ((E4 r1).nv && nvL [])) = true,
      (decide ((s_.size : Int) ≤ 19)) = true]) (by kernel_rfl) (cj h1 (cj h1 (cj (spec_LuhnOk_ok s_ r1 h2) (cj rfl (cj1 h1)))))))) (fun h1 =>
    Pn.some (Fn.of [.bit false, .bit false, .bit false] (p := [(decide ((s_.size : Int) ≤ 19)) = false,
     (decide ((s_.size : Int) ≤ 19)) = false,
     (decide ((s_.size : Int) ≤ 19)) = false]) (by kernel_rfl) (cj h1 (cj h1 (cj1 h1)))))
def spec_l01In (n : Int) (lo : Int) (hi : Int) : Option (Bool) :=
 if (decide (lo ≤ n)) = true then
  some (decide (n ≤ hi))
 else
  some false
theorem spec_l01In_ok (n : Int) (lo : Int) (hi : Int) : Pn (fun y => Fn Tryd.prog 76 [(false, E3 n), (false, E3 lo), (false, E3 hi)] (E4 y) []) (spec_l01In n lo hi) := by
  unfold spec_l01In
  exact
   Pn.ite (fun h1 =>
    Pn.some (Fn.of [.bit true, .bit true, .bit true, .bit true] (p := [(decide (lo ≤ n)) = true,
     (decide (lo ≤ n)) = true,
     (decide (lo ≤ n)) = true,
     (decide (lo ≤ n)) = true]) (by kernel_rfl) (cj h1 (cj h1 (cj h1 (cj1 h1)))))) (fun h1 =>
    Pn.some (Fn.of [.bit false, .bit false, .bit false, .bit false] (p := [(decide (lo ≤ n)) = false,
     (decide (lo ≤ n)) = false,
     (decide (lo ≤ n)) = false,
     (decide (lo ≤ n)) = false]) (by kernel_rfl) (cj h1 (cj h1 (cj h1 (cj1 h1))))))
def spec_l01Money (n : Int) : Option (Bool) :=
 if (decide (0 ≤ n)) = true then
  some (decide (n ≤ 4611686018427387904))
 else
  some false
theorem spec_l01Money_ok (n : Int) : Pn (fun y => Fn Tryd.prog 62 [(false, E3 n)] (E4 y) []) (spec_l01Money n) := by
  unfold spec_l01Money
  exact
   Pn.ite (fun h1 =>
    Pn.some (Fn.of [.bit true, .bit true, .bit true] (p := [(decide (0 ≤ n)) = true,
     (decide (0 ≤ n)) = true,
     (decide (0 ≤ n)) = true]) (by kernel_rfl) (cj h1 (cj h1 (cj1 h1))))) (fun h1 =>
    Pn.some (Fn.of [.bit false, .bit false, .bit false] (p := [(decide (0 ≤ n)) = false,
     (decide (0 ≤ n)) = false,
     (decide (0 ≤ n)) = false]) (by kernel_rfl) (cj h1 (cj h1 (cj1 h1)))))
def spec_HoldIdOk_l0 (s_ : ByteArray) : Nat → Int → Option (Lo Unit Unit)
  | 0, _ => none
  | fuel + 1, v1 =>
   if (decide (v1 < (s_.size : Int))) = true then
    if (decide (0 ≤ v1)) = true then
     if (decide ((v1 : Int) < (s_.size : Int))) = true then
      if (decide ((sAt s_ v1) < 48)) = true then
       if (decide ((sAt s_ v1) < 97)) = true then
        some (.ret ())
       else
        if (decide (122 < (sAt s_ v1))) = true then
         some (.ret ())
        else
         spec_HoldIdOk_l0 s_ fuel (i64 (v1 + 1))
      else
       if (decide (57 < (sAt s_ v1))) = true then
        if (decide ((sAt s_ v1) < 97)) = true then
         some (.ret ())
        else
         if (decide (122 < (sAt s_ v1))) = true then
          some (.ret ())
         else
          spec_HoldIdOk_l0 s_ fuel (i64 (v1 + 1))
       else
        spec_HoldIdOk_l0 s_ fuel (i64 (v1 + 1))
     else none
    else none
   else
    some (.out ())
theorem spec_HoldIdOk_l0_ok (s_ : ByteArray) : ∀ (fuel : Nat) (v1 : Int), Pn (LpO Tryd.prog (sub (codeOf Tryd.prog 139) [1, 0, 1, 0, 0]) (st 35 [(0, V.sc (.string s_)), (3, V.sc (.int .i64 v1))] [] []) (fun (y : Lo Unit Unit) => Lo.elim y (fun s => (X.out 0, st 35 [(0, V.sc (.string s_))] [] [])) (fun s => (X.ret, st 35 [(2, V.sc (.bool false))] [] [])))) (spec_HoldIdOk_l0 s_ fuel v1)
  | 0, _ => Pn.none
  | fuel + 1, v1 => by
    unfold spec_HoldIdOk_l0
    exact
     Pn.ite (fun h1 =>
      Pn.ite (fun h2 =>
       Pn.ite (fun h3 =>
        Pn.ite (fun h4 =>
         Pn.ite (fun h5 =>
          Pn.some (LpO.out [.bit true, .bit true, .bit true, .bit true, .bit true, .bit true, .bit true, .bit true, .bit true, .bit true, .bit true, .bit true, .bit true, .bit true, .bit true, .bit true, .bit true, .bit true, .bit true, .wait 1, .mask [2], .ren []] (p := [(decide (v1 < (s_.size : Int))) = true,
           (0 : Int) ≤ v1,
           (v1 : Int) < s_.size,
           (decide ((sAt s_ v1) < 48)) = true,
           (decide ((sAt s_ v1) < 48)) = true,
           (decide ((sAt s_ v1) < 48)) = true,
           (decide ((sAt s_ v1) < 48)) = true,
           (decide ((sAt s_ v1) < 48)) = true,
           true = true,
           true = true,
           true = true,
           (0 : Int) ≤ v1,
           (v1 : Int) < s_.size,
           true = true,
           true = true,
           (decide ((sAt s_ v1) < 97)) = true,
           (decide ((sAt s_ v1) < 97)) = true,
           (decide ((sAt s_ v1) < 97)) = true,
           (decide ((sAt s_ v1) < 97)) = true,
           true = true,
           (decide ((sAt s_ v1) < 97)) = true,
           true = true,
           true = true]) (by kernel_rfl) (show X.ret ≠ X.go from nofun) (cj h1 (cj (od h2) (cj (od h3) (cj h4 (cj h4 (cj h4 (cj h4 (cj h4 (cj rfl (cj rfl (cj rfl (cj (od h2) (cj (od h3) (cj rfl (cj rfl (cj h5 (cj h5 (cj h5 (cj h5 (cj rfl (cj h5 (cj rfl (cj1 rfl))))))))))))))))))))))))) (fun h5 =>
          Pn.ite (fun h6 =>
           Pn.some (LpO.out [.bit true, .bit true, .bit true, .bit true, .bit true, .bit true, .bit true, .bit true, .bit true, .bit true, .bit true, .bit false, .bit false, .bit false, .bit false, .bit true, .bit false, .bit true, .bit true, .wait 1, .mask [2], .ren []] (p := [(decide (v1 < (s_.size : Int))) = true,
            (0 : Int) ≤ v1,
            (v1 : Int) < s_.size,
            (decide ((sAt s_ v1) < 48)) = true,
            (decide ((sAt s_ v1) < 48)) = true,
            (decide ((sAt s_ v1) < 48)) = true,
            (decide ((sAt s_ v1) < 48)) = true,
            (decide ((sAt s_ v1) < 48)) = true,
            true = true,
            true = true,
            true = true,
            (0 : Int) ≤ v1,
            (v1 : Int) < s_.size,
            true = true,
            true = true,
            (decide ((sAt s_ v1) < 97)) = false,
            (decide ((sAt s_ v1) < 97)) = false,
            (decide ((sAt s_ v1) < 97)) = false,
            (0 : Int) ≤ v1,
            (v1 : Int) < s_.size,
            (decide ((sAt s_ v1) < 97)) = false,
            true = true,
            (decide ((sAt s_ v1) < 97)) = false,
            true = true,
            (decide (122 < (sAt s_ v1))) = true]) (by kernel_rfl) (show X.ret ≠ X.go from nofun) (cj h1 (cj (od h2) (cj (od h3) (cj h4 (cj h4 (cj h4 (cj h4 (cj h4 (cj rfl (cj rfl (cj rfl (cj (od h2) (cj (od h3) (cj rfl (cj rfl (cj h5 (cj h5 (cj h5 (cj (od h2) (cj (od h3) (cj h5 (cj rfl (cj h5 (cj rfl (cj1 h6))))))))))))))))))))))))))) (fun h6 =>
           LpO.go [.bit true, .bit true, .bit true, .bit true, .bit true, .bit true, .bit true, .bit true, .bit true, .bit true, .bit true, .bit false, .bit false, .bit false, .bit false, .bit true, .bit false, .bit true, .bit false, .wait 3, .mask [0, 3], .ren []] (p := [(decide (v1 < (s_.size : Int))) = true,
            (0 : Int) ≤ v1,
            (v1 : Int) < s_.size,
            (decide ((sAt s_ v1) < 48)) = true,
            (decide ((sAt s_ v1) < 48)) = true,
            (decide ((sAt s_ v1) < 48)) = true,
            (decide ((sAt s_ v1) < 48)) = true,
            (decide ((sAt s_ v1) < 48)) = true,
            true = true,
            true = true,
            true = true,
            (0 : Int) ≤ v1,
            (v1 : Int) < s_.size,
            true = true,
            true = true,
            (decide ((sAt s_ v1) < 97)) = false,
            (decide ((sAt s_ v1) < 97)) = false,
            (decide ((sAt s_ v1) < 97)) = false,
            (0 : Int) ≤ v1,
            (v1 : Int) < s_.size,
            (decide ((sAt s_ v1) < 97)) = false,
            true = true,
            (decide ((sAt s_ v1) < 97)) = false,
            true = true,
            (decide (122 < (sAt s_ v1))) = false]) (by kernel_rfl) (cj h1 (cj (od h2) (cj (od h3) (cj h4 (cj h4 (cj h4 (cj h4 (cj h4 (cj rfl (cj rfl (cj rfl (cj (od h2) (cj (od h3) (cj rfl (cj rfl (cj h5 (cj h5 (cj h5 (cj (od h2) (cj (od h3) (cj h5 (cj rfl (cj h5 (cj rfl (cj1 h6))))))))))))))))))))))))) (spec_HoldIdOk_l0_ok s_ fuel (i64 (v1 + 1)))))) (fun h4 =>
         Pn.ite (fun h7 =>
          Pn.ite (fun h8 =>
           Pn.some (LpO.out [.bit true, .bit false, .bit false, .bit false, .bit false, .bit false, .bit true, .bit true, .bit true, .bit true, .bit true, .bit true, .bit true, .bit true, .bit true, .bit true, .bit true, .bit true, .bit true, .wait 1, .mask [2], .ren []] (p := [(decide (v1 < (s_.size : Int))) = true,
            (0 : Int) ≤ v1,
            (v1 : Int) < s_.size,
            (decide ((sAt s_ v1) < 48)) = false,
            (decide ((sAt s_ v1) < 48)) = false,
            (decide ((sAt s_ v1) < 48)) = false,
            (0 : Int) ≤ v1,
            (v1 : Int) < s_.size,
            (decide ((sAt s_ v1) < 48)) = false,
            (decide ((sAt s_ v1) < 48)) = false,
            (decide (57 < (sAt s_ v1))) = true,
            (decide (57 < (sAt s_ v1))) = true,
            (decide (57 < (sAt s_ v1))) = true,
            (0 : Int) ≤ v1,
            (v1 : Int) < s_.size,
            (decide (57 < (sAt s_ v1))) = true,
            (decide (57 < (sAt s_ v1))) = true,
            (decide ((sAt s_ v1) < 97)) = true,
            (decide ((sAt s_ v1) < 97)) = true,
            (decide ((sAt s_ v1) < 97)) = true,
            (decide ((sAt s_ v1) < 97)) = true,
            (decide (57 < (sAt s_ v1))) = true,
            (decide ((sAt s_ v1) < 97)) = true,
            (decide (57 < (sAt s_ v1))) = true,
            true = true]) (by kernel_rfl) (show X.ret ≠ X.go from nofun) (cj h1 (cj (od h2) (cj (od h3) (cj h4 (cj h4 (cj h4 (cj (od h2) (cj (od h3) (cj h4 (cj h4 (cj h7 (cj h7 (cj h7 (cj (od h2) (cj (od h3) (cj h7 (cj h7 (cj h8 (cj h8 (cj h8 (cj h8 (cj h7 (cj h8 (cj h7 (cj1 rfl))))))))))))))))))))))))))) (fun h8 =>
           Pn.ite (fun h9 =>
            Pn.some (LpO.out [.bit true, .bit false, .bit false, .bit false, .bit false, .bit false, .bit true, .bit true, .bit true, .bit true, .bit true, .bit false, .bit false, .bit false, .bit false, .bit true, .bit false, .bit true, .bit true, .wait 1, .mask [2], .ren []] (p := [(decide (v1 < (s_.size : Int))) = true,
             (0 : Int) ≤ v1,
             (v1 : Int) < s_.size,
             (decide ((sAt s_ v1) < 48)) = false,
             (decide ((sAt s_ v1) < 48)) = false,
             (decide ((sAt s_ v1) < 48)) = false,
             (0 : Int) ≤ v1,
             (v1 : Int) < s_.size,
             (decide ((sAt s_ v1) < 48)) = false,
             (decide ((sAt s_ v1) < 48)) = false,
             (decide (57 < (sAt s_ v1))) = true,
             (decide (57 < (sAt s_ v1))) = true,
             (decide (57 < (sAt s_ v1))) = true,
             (0 : Int) ≤ v1,
             (v1 : Int) < s_.size,
             (decide (57 < (sAt s_ v1))) = true,
             (decide (57 < (sAt s_ v1))) = true,
             (decide ((sAt s_ v1) < 97)) = false,
             (decide ((sAt s_ v1) < 97)) = false,
             (decide ((sAt s_ v1) < 97)) = false,
             (0 : Int) ≤ v1,
             (v1 : Int) < s_.size,
             (decide ((sAt s_ v1) < 97)) = false,
             (decide (57 < (sAt s_ v1))) = true,
             (decide ((sAt s_ v1) < 97)) = false,
             (decide (57 < (sAt s_ v1))) = true,
             (decide (122 < (sAt s_ v1))) = true]) (by kernel_rfl) (show X.ret ≠ X.go from nofun) (cj h1 (cj (od h2) (cj (od h3) (cj h4 (cj h4 (cj h4 (cj (od h2) (cj (od h3) (cj h4 (cj h4 (cj h7 (cj h7 (cj h7 (cj (od h2) (cj (od h3) (cj h7 (cj h7 (cj h8 (cj h8 (cj h8 (cj (od h2) (cj (od h3) (cj h8 (cj h7 (cj h8 (cj h7 (cj1 h9))))))))))))))))))))))))))))) (fun h9 =>
            LpO.go [.bit true, .bit false, .bit false, .bit false, .bit false, .bit false, .bit true, .bit true, .bit true, .bit true, .bit true, .bit false, .bit false, .bit false, .bit false, .bit true, .bit false, .bit true, .bit false, .wait 3, .mask [0, 3], .ren []] (p := [(decide (v1 < (s_.size : Int))) = true,
             (0 : Int) ≤ v1,
             (v1 : Int) < s_.size,
             (decide ((sAt s_ v1) < 48)) = false,
             (decide ((sAt s_ v1) < 48)) = false,
             (decide ((sAt s_ v1) < 48)) = false,
             (0 : Int) ≤ v1,
             (v1 : Int) < s_.size,
             (decide ((sAt s_ v1) < 48)) = false,
             (decide ((sAt s_ v1) < 48)) = false,
             (decide (57 < (sAt s_ v1))) = true,
             (decide (57 < (sAt s_ v1))) = true,
             (decide (57 < (sAt s_ v1))) = true,
             (0 : Int) ≤ v1,
             (v1 : Int) < s_.size,
             (decide (57 < (sAt s_ v1))) = true,
             (decide (57 < (sAt s_ v1))) = true,
             (decide ((sAt s_ v1) < 97)) = false,
             (decide ((sAt s_ v1) < 97)) = false,
             (decide ((sAt s_ v1) < 97)) = false,
             (0 : Int) ≤ v1,
             (v1 : Int) < s_.size,
             (decide ((sAt s_ v1) < 97)) = false,
             (decide (57 < (sAt s_ v1))) = true,
             (decide ((sAt s_ v1) < 97)) = false,
             (decide (57 < (sAt s_ v1))) = true,
             (decide (122 < (sAt s_ v1))) = false]) (by kernel_rfl) (cj h1 (cj (od h2) (cj (od h3) (cj h4 (cj h4 (cj h4 (cj (od h2) (cj (od h3) (cj h4 (cj h4 (cj h7 (cj h7 (cj h7 (cj (od h2) (cj (od h3) (cj h7 (cj h7 (cj h8 (cj h8 (cj h8 (cj (od h2) (cj (od h3) (cj h8 (cj h7 (cj h8 (cj h7 (cj1 h9))))))))))))))))))))))))))) (spec_HoldIdOk_l0_ok s_ fuel (i64 (v1 + 1)))))) (fun h7 =>
          LpO.go [.bit true, .bit false, .bit false, .bit false, .bit false, .bit false, .bit false, .bit false, .bit false, .bit false, .bit false, .bit false, .bit false, .bit false, .wait 3, .mask [0, 3], .ren []] (p := [(decide (v1 < (s_.size : Int))) = true,
           (0 : Int) ≤ v1,
           (v1 : Int) < s_.size,
           (decide ((sAt s_ v1) < 48)) = false,
           (decide ((sAt s_ v1) < 48)) = false,
           (decide ((sAt s_ v1) < 48)) = false,
           (0 : Int) ≤ v1,
           (v1 : Int) < s_.size,
           (decide ((sAt s_ v1) < 48)) = false,
           (decide ((sAt s_ v1) < 48)) = false,
           (decide (57 < (sAt s_ v1))) = false,
           (decide (57 < (sAt s_ v1))) = false,
           (decide (57 < (sAt s_ v1))) = false,
           (decide (57 < (sAt s_ v1))) = false,
           (decide (57 < (sAt s_ v1))) = false,
           (decide (57 < (sAt s_ v1))) = false,
           (decide (57 < (sAt s_ v1))) = false,
           false = false]) (by kernel_rfl) (cj h1 (cj (od h2) (cj (od h3) (cj h4 (cj h4 (cj h4 (cj (od h2) (cj (od h3) (cj h4 (cj h4 (cj h7 (cj h7 (cj h7 (cj h7 (cj h7 (cj h7 (cj h7 (cj1 rfl)))))))))))))))))) (spec_HoldIdOk_l0_ok s_ fuel (i64 (v1 + 1)))))) (fun h3 =>
        Pn.none)) (fun h2 =>
       Pn.none)) (fun h1 =>
      Pn.some (LpO.out [.bit false, .mask [0], .ren []] (p := [(decide (v1 < (s_.size : Int))) = false]) (by kernel_rfl) (show X.out 0 ≠ X.go from nofun) (cj1 h1)))
def spec_HoldIdOk (s_ : ByteArray) : Option (Bool) :=
 (spec_HoldIdOk_l0 s_ FUEL 0).bind fun r1 =>
 Lo.elim r1 (fun s1 =>
  (spec_l01In (s_.size : Int) 1 6).bind fun r2 =>
  some r2) (fun s2 =>
  some false)
theorem spec_HoldIdOk_ok (s_ : ByteArray) : Pn (fun y => Fn Tryd.prog 139 [(false, E9 s_)] (E4 y) []) (spec_HoldIdOk s_) := by
  unfold spec_HoldIdOk
  exact
   Pn.bind (fun r1 h10 =>
    Pn.lo (fun s1 h11 =>
     Pn.bind (fun r2 h13 =>
      Pn.some (Fn.of [.wait 3, .mask [0, 3], .ren [], .loop (X.out 0) (st 35 [(0, V.sc (.string s_))] [] []), .call [] (E4 r2) []] (p := [Loop Tryd.prog (sub (codeOf Tryd.prog 139) [1, 0, 1, 0, 0]) (st 35 [(0, V.sc (.string s_)), (3, V.sc (.int .i64 0))] [] []) (X.out 0) (st 35 [(0, V.sc (.string s_))] [] []),
       Fn Tryd.prog 76 [(false, E3 (s_.size : Int)), (false, E3 1), (false, E3 6)] (E4 r2) [],
       (true || ((E4 r2).nv && nvL [])) = true]) (by kernel_rfl) (cj ((spec_HoldIdOk_l0_ok s_ FUEL 0 r1 h10).at h11) (cj (spec_l01In_ok (s_.size : Int) 1 6 r2 h13) (cj1 rfl)))))) (fun s2 h12 =>
     Pn.some (Fn.of [.wait 3, .mask [0, 3], .ren [], .loop (X.ret) (st 35 [(2, V.sc (.bool false))] [] [])] (p := [Loop Tryd.prog (sub (codeOf Tryd.prog 139) [1, 0, 1, 0, 0]) (st 35 [(0, V.sc (.string s_)), (3, V.sc (.int .i64 0))] [] []) (X.ret) (st 35 [(2, V.sc (.bool false))] [] [])]) (by kernel_rfl) (cj1 ((spec_HoldIdOk_l0_ok s_ FUEL 0 r1 h10).at h12)))))
def spec_l06Time (n : Int) : Option (Bool) :=
 (spec_l01In n 0 1000000000).bind fun r1 =>
 some r1
theorem spec_l06Time_ok (n : Int) : Pn (fun y => Fn Tryd.prog 34 [(false, E3 n)] (E4 y) []) (spec_l06Time n) := by
  unfold spec_l06Time
  exact
   Pn.bind (fun r1 h1 =>
    Pn.some (Fn.of [.call [] (E4 r1) []] (p := [Fn Tryd.prog 76 [(false, E3 n), (false, E3 0), (false, E3 1000000000)] (E4 r1) [],
     (true || ((E4 r1).nv && nvL [])) = true]) (by kernel_rfl) (cj (spec_l01In_ok n 0 1000000000 r1 h1) (cj1 rfl))))
def spec_HoldOk (h_ : Hold) : Option (Bool) :=
 (spec_HoldIdOk h_.Id).bind fun r1 =>
 if r1 = true then
  (spec_l01In h_.Amount 1 9007199254740992).bind fun r2 =>
  if r2 = true then
   (spec_l06Time h_.Due).bind fun r3 =>
   some r3
  else
   some false
 else
  some false
theorem spec_HoldOk_ok (h_ : Hold) : Pn (fun y => Fn Tryd.prog 121 [(false, E80 h_)] (E4 y) []) (spec_HoldOk h_) := by
  unfold spec_HoldOk
  exact
   Pn.bind (fun r1 h1 =>
    Pn.ite (fun h2 =>
     Pn.bind (fun r2 h3 =>
      Pn.ite (fun h4 =>
       Pn.bind (fun r3 h5 =>
        Pn.some (Fn.of [.call [] (E4 r1) [], .bit true, .bit true, .bit true, .call [] (E4 r2) [], .bit true, .bit true, .bit true, .bit true, .call [] (E4 r3) [], .bit true] (p := [Fn Tryd.prog 139 [(false, E9 h_.Id)] (E4 r1) [],
         (true || ((E4 r1).nv && nvL [])) = true,
         r1 = true,
         r1 = true,
         r1 = true,
         Fn Tryd.prog 76 [(false, E3 h_.Amount), (false, E3 1), (false, E3 9007199254740992)] (E4 r2) [],
         (true || ((E4 r2).nv && nvL [])) = true,
         r1 = true,
         r2 = true,
         r2 = true,
         r2 = true,
         Fn Tryd.prog 34 [(false, E3 h_.Due)] (E4 r3) [],
         (true || ((E4 r3).nv && nvL [])) = true,
         r2 = true]) (by kernel_rfl) (cj (spec_HoldIdOk_ok h_.Id r1 h1) (cj rfl (cj h2 (cj h2 (cj h2 (cj (spec_l01In_ok h_.Amount 1 9007199254740992 r2 h3) (cj rfl (cj h2 (cj h4 (cj h4 (cj h4 (cj (spec_l06Time_ok h_.Due r3 h5) (cj rfl (cj1 h4))))))))))))))))) (fun h4 =>
       Pn.some (Fn.of [.call [] (E4 r1) [], .bit true, .bit true, .bit true, .call [] (E4 r2) [], .bit true, .bit false, .bit false, .bit false, .bit false] (p := [Fn Tryd.prog 139 [(false, E9 h_.Id)] (E4 r1) [],
        (true || ((E4 r1).nv && nvL [])) = true,
        r1 = true,
        r1 = true,
        r1 = true,
        Fn Tryd.prog 76 [(false, E3 h_.Amount), (false, E3 1), (false, E3 9007199254740992)] (E4 r2) [],
        (true || ((E4 r2).nv && nvL [])) = true,
        r1 = true,
        r2 = false,
        r2 = false,
        r2 = false,
        r2 = false]) (by kernel_rfl) (cj (spec_HoldIdOk_ok h_.Id r1 h1) (cj rfl (cj h2 (cj h2 (cj h2 (cj (spec_l01In_ok h_.Amount 1 9007199254740992 r2 h3) (cj rfl (cj h2 (cj h4 (cj h4 (cj h4 (cj1 h4)))))))))))))))) (fun h2 =>
     Pn.some (Fn.of [.call [] (E4 r1) [], .bit false, .bit false, .bit false, .bit false, .bit false, .bit false, .bit false, .bit false] (p := [Fn Tryd.prog 139 [(false, E9 h_.Id)] (E4 r1) [],
      (true || ((E4 r1).nv && nvL [])) = true,
      r1 = false,
      r1 = false,
      r1 = false,
      r1 = false,
      false = false,
      false = false,
      false = false,
      false = false]) (by kernel_rfl) (cj (spec_HoldIdOk_ok h_.Id r1 h1) (cj rfl (cj h2 (cj h2 (cj h2 (cj h2 (cj rfl (cj rfl (cj rfl (cj1 rfl)))))))))))))
def spec_HoldsOk_l0 (l : List Hold) : List Hold → List Hold → Option (Lo Unit Unit)
  | [], p1 =>
   some (.out ())
  | x1 :: t1, p1 =>
   (spec_HoldOk x1).bind fun r1 =>
   if r1 = true then
    if (decide (0 < (p1.length : Int))) = true then
     if (decide (0 ≤ (i64 ((p1.length : Int) - 1)))) = true then
      (l[(i64 ((p1.length : Int) - 1)).toNat]?).bind fun x2 =>
      if (Op.bytesLess x2.Id.toList x1.Id.toList) = true then
       spec_HoldsOk_l0 l t1 (p1 ++ [x1])
      else
       some (.ret ())
     else none
    else
     spec_HoldsOk_l0 l t1 (p1 ++ [x1])
   else
    some (.ret ())
theorem spec_HoldsOk_l0_ok (l : List Hold) (h2 : capOk l.length = true) : ∀ (t1 p1 : List Hold) (_ : l = p1 ++ t1) , Pn (LpO Tryd.prog (sub (codeOf Tryd.prog 77) [1, 0, 1, 0, 0]) (st 34 [(0, V.sl false 80 (List.map E80 l)), (5, V.sl false 80 (List.map E80 l)), (6, V.sc (.int .i64 (l.length : Int))), (7, V.sc (.int .i64 (p1.length : Int)))] [] []) (fun (y : Lo Unit Unit) => Lo.elim y (fun s => (X.out 0, st 34 [(0, V.sl false 80 (List.map E80 l))] [] [])) (fun s => (X.ret, st 34 [(2, V.sc (.bool false))] [] [])))) (spec_HoldsOk_l0 l t1 p1)
  | [], p1, h1 => by
    unfold spec_HoldsOk_l0
    exact
     Pn.some (LpO.out [.bit false, .mask [0], .ren []] (p := [(decide ((p1.length : Int) < (l.length : Int))) = false]) (by kernel_rfl) (show X.out 0 ≠ X.go from nofun) (cj1 (rng_end h1)))
  | x1 :: t1, p1, h1 => by
    unfold spec_HoldsOk_l0
    exact
     Pn.bind (fun r1 h3 =>
      Pn.ite (fun h4 =>
       Pn.ite (fun h5 =>
        Pn.ite (fun h6 =>
         Pn.bind (fun x2 h7 =>
          Pn.ite (fun h8 =>
           LpO.go [.bit true, .el (E80 x1), .draw [], .call [] (E4 r1) [], .bit false, .bit false, .bit false, .bit true, .bit true, .bit true, .bit true, .el (E80 x2), .bit true, .bit true, .bit true, .bit true, .bit true, .bit false, .bit true, .bit false, .bit false, .wait 2, .mask [0, 5, 6, 7], .ren [], .nm 7 (V.sc (.int .i64 ((p1 ++ [x1]).length : Int)))] (p := [(decide ((p1.length : Int) < (l.length : Int))) = true,
            (0 : Int) ≤ (p1.length : Int),
            (List.map E80 l)[(p1.length : Int).toNat]? = some (E80 x1),
            Fn Tryd.prog 121 [(false, E80 x1)] (E4 r1) [],
            (true || ((E4 r1).nv && nvL [])) = true,
            (!r1) = false,
            (!r1) = false,
            (!r1) = false,
            (decide (0 < (p1.length : Int))) = true,
            (decide (0 < (p1.length : Int))) = true,
            (decide (0 < (p1.length : Int))) = true,
            (decide (0 < (p1.length : Int))) = true,
            (0 : Int) ≤ (i64 ((p1.length : Int) - 1)),
            (List.map E80 l)[(i64 ((p1.length : Int) - 1)).toNat]? = some (E80 x2),
            (decide (0 < (p1.length : Int))) = true,
            (decide (0 < (p1.length : Int))) = true,
            (decide (0 < (p1.length : Int))) = true,
            (decide (0 < (p1.length : Int))) = true,
            (decide (0 < (p1.length : Int))) = true,
            (!r1) = false,
            (decide (0 < (p1.length : Int))) = true,
            (!r1) = false,
            (!(Op.bytesLess x2.Id.toList x1.Id.toList)) = false,
            V.sc (.int .i64 (i64 ((p1.length : Int) + 1))) = V.sc (.int .i64 ((p1 ++ [x1]).length : Int))]) (by kernel_rfl) (cj (rng_lt h1) (cj (by omega) (cj (rng_get _ h1) (cj (spec_HoldOk_ok x1 r1 h3) (cj rfl (cj (nf h4) (cj (nf h4) (cj (nf h4) (cj h5 (cj h5 (cj h5 (cj h5 (cj (od h6) (cj (map_get h7) (cj h5 (cj h5 (cj h5 (cj h5 (cj h5 (cj (nf h4) (cj h5 (cj (nf h4) (cj (nf h8) (cj1 (rng_next h1 h2))))))))))))))))))))))))) (spec_HoldsOk_l0_ok l h2 t1 (p1 ++ [x1]) (rng_step h1))) (fun h8 =>
           Pn.some (LpO.out [.bit true, .el (E80 x1), .draw [], .call [] (E4 r1) [], .bit false, .bit false, .bit false, .bit true, .bit true, .bit true, .bit true, .el (E80 x2), .bit true, .bit true, .bit true, .bit true, .bit true, .bit false, .bit true, .bit false, .bit true, .wait 1, .mask [2], .ren []] (p := [(decide ((p1.length : Int) < (l.length : Int))) = true,
            (0 : Int) ≤ (p1.length : Int),
            (List.map E80 l)[(p1.length : Int).toNat]? = some (E80 x1),
            Fn Tryd.prog 121 [(false, E80 x1)] (E4 r1) [],
            (true || ((E4 r1).nv && nvL [])) = true,
            (!r1) = false,
            (!r1) = false,
            (!r1) = false,
            (decide (0 < (p1.length : Int))) = true,
            (decide (0 < (p1.length : Int))) = true,
            (decide (0 < (p1.length : Int))) = true,
            (decide (0 < (p1.length : Int))) = true,
            (0 : Int) ≤ (i64 ((p1.length : Int) - 1)),
            (List.map E80 l)[(i64 ((p1.length : Int) - 1)).toNat]? = some (E80 x2),
            (decide (0 < (p1.length : Int))) = true,
            (decide (0 < (p1.length : Int))) = true,
            (decide (0 < (p1.length : Int))) = true,
            (decide (0 < (p1.length : Int))) = true,
            (decide (0 < (p1.length : Int))) = true,
            (!r1) = false,
            (decide (0 < (p1.length : Int))) = true,
            (!r1) = false,
            (!(Op.bytesLess x2.Id.toList x1.Id.toList)) = true]) (by kernel_rfl) (show X.ret ≠ X.go from nofun) (cj (rng_lt h1) (cj (by omega) (cj (rng_get _ h1) (cj (spec_HoldOk_ok x1 r1 h3) (cj rfl (cj (nf h4) (cj (nf h4) (cj (nf h4) (cj h5 (cj h5 (cj h5 (cj h5 (cj (od h6) (cj (map_get h7) (cj h5 (cj h5 (cj h5 (cj h5 (cj h5 (cj (nf h4) (cj h5 (cj (nf h4) (cj1 (nt h8)))))))))))))))))))))))))))) (fun h6 =>
         Pn.none)) (fun h5 =>
        LpO.go [.bit true, .el (E80 x1), .draw [], .call [] (E4 r1) [], .bit false, .bit false, .bit false, .bit false, .bit false, .bit false, .bit false, .bit false, .bit false, .bit false, .bit false, .bit false, .bit false, .bit false, .bit false, .bit false, .wait 2, .mask [0, 5, 6, 7], .ren [], .nm 7 (V.sc (.int .i64 ((p1 ++ [x1]).length : Int)))] (p := [(decide ((p1.length : Int) < (l.length : Int))) = true,
         (0 : Int) ≤ (p1.length : Int),
         (List.map E80 l)[(p1.length : Int).toNat]? = some (E80 x1),
         Fn Tryd.prog 121 [(false, E80 x1)] (E4 r1) [],
         (true || ((E4 r1).nv && nvL [])) = true,
         (!r1) = false,
         (!r1) = false,
         (!r1) = false,
         (decide (0 < (p1.length : Int))) = false,
         (decide (0 < (p1.length : Int))) = false,
         (decide (0 < (p1.length : Int))) = false,
         (decide (0 < (p1.length : Int))) = false,
         (decide (0 < (p1.length : Int))) = false,
         (decide (0 < (p1.length : Int))) = false,
         (decide (0 < (p1.length : Int))) = false,
         (decide (0 < (p1.length : Int))) = false,
         (decide (0 < (p1.length : Int))) = false,
         (!r1) = false,
         (decide (0 < (p1.length : Int))) = false,
         (!r1) = false,
         false = false,
         V.sc (.int .i64 (i64 ((p1.length : Int) + 1))) = V.sc (.int .i64 ((p1 ++ [x1]).length : Int))]) (by kernel_rfl) (cj (rng_lt h1) (cj (by omega) (cj (rng_get _ h1) (cj (spec_HoldOk_ok x1 r1 h3) (cj rfl (cj (nf h4) (cj (nf h4) (cj (nf h4) (cj h5 (cj h5 (cj h5 (cj h5 (cj h5 (cj h5 (cj h5 (cj h5 (cj h5 (cj (nf h4) (cj h5 (cj (nf h4) (cj rfl (cj1 (rng_next h1 h2))))))))))))))))))))))) (spec_HoldsOk_l0_ok l h2 t1 (p1 ++ [x1]) (rng_step h1)))) (fun h4 =>
       Pn.some (LpO.out [.bit true, .el (E80 x1), .draw [], .call [] (E4 r1) [], .bit true, .bit true, .bit true, .bit true, .bit true, .bit true, .wait 1, .mask [2], .ren []] (p := [(decide ((p1.length : Int) < (l.length : Int))) = true,
        (0 : Int) ≤ (p1.length : Int),
        (List.map E80 l)[(p1.length : Int).toNat]? = some (E80 x1),
        Fn Tryd.prog 121 [(false, E80 x1)] (E4 r1) [],
        (true || ((E4 r1).nv && nvL [])) = true,
        (!r1) = true,
        (!r1) = true,
        (!r1) = true,
        (!r1) = true,
        (!r1) = true,
        true = true]) (by kernel_rfl) (show X.ret ≠ X.go from nofun) (cj (rng_lt h1) (cj (by omega) (cj (rng_get _ h1) (cj (spec_HoldOk_ok x1 r1 h3) (cj rfl (cj (nt h4) (cj (nt h4) (cj (nt h4) (cj (nt h4) (cj (nt h4) (cj1 rfl))))))))))))))
def spec_HoldsOk (l : List Hold) : Option (Bool) :=
 if (capOk l.length) = true then
  (spec_HoldsOk_l0 l l []).bind fun r2 =>
  Lo.elim r2 (fun s1 =>
   some (decide ((l.length : Int) ≤ 4))) (fun s2 =>
   some false)
 else none
theorem spec_HoldsOk_ok (l : List Hold) : Pn (fun y => Fn Tryd.prog 77 [(false, E44 l)] (E4 y) []) (spec_HoldsOk l) := by
  unfold spec_HoldsOk
  exact
   Pn.ite (fun h9 =>
    Pn.bind (fun r2 h10 =>
     Pn.lo (fun s1 h11 =>
      Pn.some (Fn.of [.wait 3, .nm 6 (V.sc (.int .i64 (l.length : Int))), .wait 2, .mask [0, 5, 6, 7], .ren [], .loop (X.out 0) (st 34 [(0, V.sl false 80 (List.map E80 l))] [] []), .wait 2, .nm 32 (V.sc (.int .i64 (l.length : Int)))] (p := [V.sc (.int .i64 ((List.map E80 l).length : Int)) = V.sc (.int .i64 (l.length : Int)),
       Loop Tryd.prog (sub (codeOf Tryd.prog 77) [1, 0, 1, 0, 0]) (st 34 [(0, V.sl false 80 (List.map E80 l)), (5, V.sl false 80 (List.map E80 l)), (6, V.sc (.int .i64 (l.length : Int))), (7, V.sc (.int .i64 0))] [] []) (X.out 0) (st 34 [(0, V.sl false 80 (List.map E80 l))] [] []),
       V.sc (.int .i64 ((List.map E80 l).length : Int)) = V.sc (.int .i64 (l.length : Int))]) (by kernel_rfl) (cj (len_nm _ _) (cj ((spec_HoldsOk_l0_ok l h9 l [] rfl r2 h10).at h11) (cj1 (len_nm _ _)))))) (fun s2 h12 =>
      Pn.some (Fn.of [.wait 3, .nm 6 (V.sc (.int .i64 (l.length : Int))), .wait 2, .mask [0, 5, 6, 7], .ren [], .loop (X.ret) (st 34 [(2, V.sc (.bool false))] [] [])] (p := [V.sc (.int .i64 ((List.map E80 l).length : Int)) = V.sc (.int .i64 (l.length : Int)),
       Loop Tryd.prog (sub (codeOf Tryd.prog 77) [1, 0, 1, 0, 0]) (st 34 [(0, V.sl false 80 (List.map E80 l)), (5, V.sl false 80 (List.map E80 l)), (6, V.sc (.int .i64 (l.length : Int))), (7, V.sc (.int .i64 0))] [] []) (X.ret) (st 34 [(2, V.sc (.bool false))] [] [])]) (by kernel_rfl) (cj (len_nm _ _) (cj1 ((spec_HoldsOk_l0_ok l h9 l [] rfl r2 h10).at h12))))))) (fun h9 =>
    Pn.none)
def spec_RingOk_l0 (r_ : Ring) : List Int → List Int → Option (Lo Unit Unit)
  | [], p1 =>
   some (.out ())
  | x1 :: t1, p1 =>
   (spec_l01Money x1).bind fun r4 =>
   if r4 = true then
    (r_.Sums[(p1.length : Int).toNat]?).bind fun x2 =>
    (spec_l01Money x2).bind fun r5 =>
    if r5 = true then
     spec_RingOk_l0 r_ t1 (p1 ++ [x1])
    else
     some (.ret ())
   else
    some (.ret ())
theorem spec_RingOk_l0_ok (r_ : Ring) (h9 : capOk r_.Counts.length = true) : ∀ (t1 p1 : List Int) (_ : r_.Counts = p1 ++ t1) , Pn (LpO Tryd.prog (sub (codeOf Tryd.prog 78) [1, 1, 0, 1, 0, 0]) (st 53 [(1, V.ptr 0 0), (32, V.sc (.int .i64 (r_.Counts.length : Int))), (33, V.sc (.int .i64 (p1.length : Int)))] [Blk.box 45 [V.sc (.int .i64 r_.Span), V.sc (.int .i64 r_.Head), V.sl false 3 (List.map E3 r_.Counts), V.sl false 3 (List.map E3 r_.Sums)]] []) (fun (y : Lo Unit Unit) => Lo.elim y (fun s => (X.out 0, st 53 [] [] [])) (fun s => (X.ret, st 53 [(2, V.sc (.bool false))] [] [])))) (spec_RingOk_l0 r_ t1 p1)
  | [], p1, h8 => by
    unfold spec_RingOk_l0
    exact
     Pn.some (LpO.out [.bit false, .mask [], .ren []] (p := [(decide ((p1.length : Int) < (r_.Counts.length : Int))) = false]) (by kernel_rfl) (show X.out 0 ≠ X.go from nofun) (cj1 (rng_end h8)))
  | x1 :: t1, p1, h8 => by
    unfold spec_RingOk_l0
    exact
     Pn.bind (fun r4 h10 =>
      Pn.ite (fun h11 =>
       Pn.bind (fun x2 h12 =>
        Pn.bind (fun r5 h13 =>
         Pn.ite (fun h14 =>
          LpO.go [.bit true, .el (E3 x1), .call [] (E4 r4) [], .bit false, .bit false, .bit false, .bit false, .el (E3 x2), .bit false, .bit false, .call [] (E4 r5) [], .bit false, .bit false, .bit false, .wait 2, .mask [1, 32, 33], .ren [0], .nm 33 (V.sc (.int .i64 ((p1 ++ [x1]).length : Int)))] (p := [(decide ((p1.length : Int) < (r_.Counts.length : Int))) = true,
           (0 : Int) ≤ (p1.length : Int),
           (List.map E3 r_.Counts)[(p1.length : Int).toNat]? = some (E3 x1),
           Fn Tryd.prog 62 [(false, E3 x1)] (E4 r4) [],
           (true || ((E4 r4).nv && nvL [])) = true,
           (!r4) = false,
           (!r4) = false,
           (!r4) = false,
           (!r4) = false,
           (0 : Int) ≤ (p1.length : Int),
           (List.map E3 r_.Sums)[(p1.length : Int).toNat]? = some (E3 x2),
           (!r4) = false,
           (!r4) = false,
           Fn Tryd.prog 62 [(false, E3 x2)] (E4 r5) [],
           (true || ((E4 r5).nv && nvL [])) = true,
           (!r4) = false,
           (!r4) = false,
           (!r5) = false,
           V.sc (.int .i64 (i64 ((p1.length : Int) + 1))) = V.sc (.int .i64 ((p1 ++ [x1]).length : Int))]) (by kernel_rfl) (cj (rng_lt h8) (cj (by omega) (cj (rng_get _ h8) (cj (spec_l01Money_ok x1 r4 h10) (cj rfl (cj (nf h11) (cj (nf h11) (cj (nf h11) (cj (nf h11) (cj (by omega) (cj (map_get h12) (cj (nf h11) (cj (nf h11) (cj (spec_l01Money_ok x2 r5 h13) (cj rfl (cj (nf h11) (cj (nf h11) (cj (nf h14) (cj1 (rng_next h8 h9)))))))))))))))))))) (spec_RingOk_l0_ok r_ h9 t1 (p1 ++ [x1]) (rng_step h8))) (fun h14 =>
          Pn.some (LpO.out [.bit true, .el (E3 x1), .call [] (E4 r4) [], .bit false, .bit false, .bit false, .bit false, .el (E3 x2), .bit false, .bit false, .call [] (E4 r5) [], .bit false, .bit false, .bit true, .wait 1, .mask [2], .ren []] (p := [(decide ((p1.length : Int) < (r_.Counts.length : Int))) = true,
           (0 : Int) ≤ (p1.length : Int),
           (List.map E3 r_.Counts)[(p1.length : Int).toNat]? = some (E3 x1),
           Fn Tryd.prog 62 [(false, E3 x1)] (E4 r4) [],
           (true || ((E4 r4).nv && nvL [])) = true,
           (!r4) = false,
           (!r4) = false,
           (!r4) = false,
           (!r4) = false,
           (0 : Int) ≤ (p1.length : Int),
           (List.map E3 r_.Sums)[(p1.length : Int).toNat]? = some (E3 x2),
           (!r4) = false,
           (!r4) = false,
           Fn Tryd.prog 62 [(false, E3 x2)] (E4 r5) [],
           (true || ((E4 r5).nv && nvL [])) = true,
           (!r4) = false,
           (!r4) = false,
           (!r5) = true]) (by kernel_rfl) (show X.ret ≠ X.go from nofun) (cj (rng_lt h8) (cj (by omega) (cj (rng_get _ h8) (cj (spec_l01Money_ok x1 r4 h10) (cj rfl (cj (nf h11) (cj (nf h11) (cj (nf h11) (cj (nf h11) (cj (by omega) (cj (map_get h12) (cj (nf h11) (cj (nf h11) (cj (spec_l01Money_ok x2 r5 h13) (cj rfl (cj (nf h11) (cj (nf h11) (cj1 (nt h14)))))))))))))))))))))))) (fun h11 =>
       Pn.some (LpO.out [.bit true, .el (E3 x1), .call [] (E4 r4) [], .bit true, .bit true, .bit true, .bit true, .bit true, .bit true, .bit true, .bit true, .bit true, .wait 1, .mask [2], .ren []] (p := [(decide ((p1.length : Int) < (r_.Counts.length : Int))) = true,
        (0 : Int) ≤ (p1.length : Int),
        (List.map E3 r_.Counts)[(p1.length : Int).toNat]? = some (E3 x1),
        Fn Tryd.prog 62 [(false, E3 x1)] (E4 r4) [],
        (true || ((E4 r4).nv && nvL [])) = true,
        (!r4) = true,
        (!r4) = true,
        (!r4) = true,
        (!r4) = true,
        (!r4) = true,
        (!r4) = true,
        (!r4) = true,
        (!r4) = true,
        true = true]) (by kernel_rfl) (show X.ret ≠ X.go from nofun) (cj (rng_lt h8) (cj (by omega) (cj (rng_get _ h8) (cj (spec_l01Money_ok x1 r4 h10) (cj rfl (cj (nt h11) (cj (nt h11) (cj (nt h11) (cj (nt h11) (cj (nt h11) (cj (nt h11) (cj (nt h11) (cj (nt h11) (cj1 rfl)))))))))))))))))
def spec_RingOk (r_ : Ring) : Option (Bool) :=
 (spec_l01In r_.Span 1 1000).bind fun r1 =>
 if r1 = true then
  (spec_l01In (r_.Counts.length : Int) 1 8).bind fun r2 =>
  if r2 = true then
   if ((r_.Sums.length : Int) != (r_.Counts.length : Int)) = true then
    some false
   else
    (spec_l06Time r_.Head).bind fun r3 =>
    if r3 = true then
     if (capOk r_.Counts.length) = true then
      (spec_RingOk_l0 r_ r_.Counts []).bind fun r6 =>
      Lo.elim r6 (fun s1 =>
       some true) (fun s2 =>
       some false)
     else none
    else
     some false
  else
   some false
 else
  some false
theorem spec_RingOk_ok (r_ : Ring) : Pn (fun y => Fn Tryd.prog 78 [(false, E45 r_)] (E4 y) []) (spec_RingOk r_) := by
  unfold spec_RingOk
  exact
   Pn.bind (fun r1 h1 =>
    Pn.ite (fun h2 =>
     Pn.bind (fun r2 h3 =>
      Pn.ite (fun h4 =>
       Pn.ite (fun h5 =>
        Pn.some (Fn.of [.call [] (E4 r1) [], .bit false, .bit false, .bit false, .nm 11 (V.sc (.int .i64 (r_.Counts.length : Int))), .bit false, .call [] (E4 r2) [], .bit false, .bit false, .bit false, .bit false, .bit false, .nm 18 (V.sc (.int .i64 (r_.Sums.length : Int))), .bit false, .bit false, .bit false, .nm 21 (V.sc (.int .i64 (r_.Counts.length : Int))), .bit false, .bit false, .bit true, .bit true, .bit true, .bit true, .bit true, .bit true] (p := [Fn Tryd.prog 76 [(false, E3 r_.Span), (false, E3 1), (false, E3 1000)] (E4 r1) [],
         (true || ((E4 r1).nv && nvL [])) = true,
         (!r1) = false,
         (!r1) = false,
         (!r1) = false,
         V.sc (.int .i64 ((List.map E3 r_.Counts).length : Int)) = V.sc (.int .i64 (r_.Counts.length : Int)),
         (!r1) = false,
         Fn Tryd.prog 76 [(false, E3 (r_.Counts.length : Int)), (false, E3 1), (false, E3 8)] (E4 r2) [],
         (true || ((E4 r2).nv && nvL [])) = true,
         (!r1) = false,
         (!r1) = false,
         (!r2) = false,
         (!r2) = false,
         (!r2) = false,
         V.sc (.int .i64 ((List.map E3 r_.Sums).length : Int)) = V.sc (.int .i64 (r_.Sums.length : Int)),
         (!r2) = false,
         (!r2) = false,
         (!r2) = false,
         V.sc (.int .i64 ((List.map E3 r_.Counts).length : Int)) = V.sc (.int .i64 (r_.Counts.length : Int)),
         (!r2) = false,
         (!r2) = false,
         ((r_.Sums.length : Int) != (r_.Counts.length : Int)) = true,
         ((r_.Sums.length : Int) != (r_.Counts.length : Int)) = true,
         ((r_.Sums.length : Int) != (r_.Counts.length : Int)) = true,
         ((r_.Sums.length : Int) != (r_.Counts.length : Int)) = true,
         ((r_.Sums.length : Int) != (r_.Counts.length : Int)) = true,
         true = true]) (by kernel_rfl) (cj (spec_l01In_ok r_.Span 1 1000 r1 h1) (cj rfl (cj (nf h2) (cj (nf h2) (cj (nf h2) (cj (len_nm _ _) (cj (nf h2) (cj (spec_l01In_ok (r_.Counts.length : Int) 1 8 r2 h3) (cj rfl (cj (nf h2) (cj (nf h2) (cj (nf h4) (cj (nf h4) (cj (nf h4) (cj (len_nm _ _) (cj (nf h4) (cj (nf h4) (cj (nf h4) (cj (len_nm _ _) (cj (nf h4) (cj (nf h4) (cj h5 (cj h5 (cj h5 (cj h5 (cj h5 (cj1 rfl))))))))))))))))))))))))))))) (fun h5 =>
        Pn.bind (fun r3 h6 =>
         Pn.ite (fun h7 =>
          Pn.ite (fun h15 =>
           Pn.bind (fun r6 h16 =>
            Pn.lo (fun s1 h17 =>
             Pn.some (Fn.of [.call [] (E4 r1) [], .bit false, .bit false, .bit false, .nm 11 (V.sc (.int .i64 (r_.Counts.length : Int))), .bit false, .call [] (E4 r2) [], .bit false, .bit false, .bit false, .bit false, .bit false, .nm 18 (V.sc (.int .i64 (r_.Sums.length : Int))), .bit false, .bit false, .bit false, .nm 21 (V.sc (.int .i64 (r_.Counts.length : Int))), .bit false, .bit false, .bit false, .bit false, .bit false, .call [] (E4 r3) [], .bit false, .bit false, .bit false, .wait 2, .nm 32 (V.sc (.int .i64 (r_.Counts.length : Int))), .wait 2, .mask [1, 32, 33], .ren [0], .loop (X.out 0) (st 53 [] [] [])] (p := [Fn Tryd.prog 76 [(false, E3 r_.Span), (false, E3 1), (false, E3 1000)] (E4 r1) [],
              (true || ((E4 r1).nv && nvL [])) = true,
              (!r1) = false,
              (!r1) = false,
              (!r1) = false,
              V.sc (.int .i64 ((List.map E3 r_.Counts).length : Int)) = V.sc (.int .i64 (r_.Counts.length : Int)),
              (!r1) = false,
              Fn Tryd.prog 76 [(false, E3 (r_.Counts.length : Int)), (false, E3 1), (false, E3 8)] (E4 r2) [],
              (true || ((E4 r2).nv && nvL [])) = true,
              (!r1) = false,
              (!r1) = false,
              (!r2) = false,
              (!r2) = false,
              (!r2) = false,
              V.sc (.int .i64 ((List.map E3 r_.Sums).length : Int)) = V.sc (.int .i64 (r_.Sums.length : Int)),
              (!r2) = false,
              (!r2) = false,
              (!r2) = false,
              V.sc (.int .i64 ((List.map E3 r_.Counts).length : Int)) = V.sc (.int .i64 (r_.Counts.length : Int)),
              (!r2) = false,
              (!r2) = false,
              ((r_.Sums.length : Int) != (r_.Counts.length : Int)) = false,
              ((r_.Sums.length : Int) != (r_.Counts.length : Int)) = false,
              ((r_.Sums.length : Int) != (r_.Counts.length : Int)) = false,
              Fn Tryd.prog 34 [(false, E3 r_.Head)] (E4 r3) [],
              (true || ((E4 r3).nv && nvL [])) = true,
              ((r_.Sums.length : Int) != (r_.Counts.length : Int)) = false,
              ((r_.Sums.length : Int) != (r_.Counts.length : Int)) = false,
              (!r3) = false,
              V.sc (.int .i64 ((List.map E3 r_.Counts).length : Int)) = V.sc (.int .i64 (r_.Counts.length : Int)),
              Loop Tryd.prog (sub (codeOf Tryd.prog 78) [1, 1, 0, 1, 0, 0]) (st 53 [(1, V.ptr 0 0), (32, V.sc (.int .i64 (r_.Counts.length : Int))), (33, V.sc (.int .i64 0))] [Blk.box 45 [V.sc (.int .i64 r_.Span), V.sc (.int .i64 r_.Head), V.sl false 3 (List.map E3 r_.Counts), V.sl false 3 (List.map E3 r_.Sums)]] []) (X.out 0) (st 53 [] [] [])]) (by kernel_rfl) (cj (spec_l01In_ok r_.Span 1 1000 r1 h1) (cj rfl (cj (nf h2) (cj (nf h2) (cj (nf h2) (cj (len_nm _ _) (cj (nf h2) (cj (spec_l01In_ok (r_.Counts.length : Int) 1 8 r2 h3) (cj rfl (cj (nf h2) (cj (nf h2) (cj (nf h4) (cj (nf h4) (cj (nf h4) (cj (len_nm _ _) (cj (nf h4) (cj (nf h4) (cj (nf h4) (cj (len_nm _ _) (cj (nf h4) (cj (nf h4) (cj h5 (cj h5 (cj h5 (cj (spec_l06Time_ok r_.Head r3 h6) (cj rfl (cj h5 (cj h5 (cj (nf h7) (cj (len_nm _ _) (cj1 ((spec_RingOk_l0_ok r_ h15 r_.Counts [] rfl r6 h16).at h17)))))))))))))))))))))))))))))))))) (fun s2 h18 =>
             Pn.some (Fn.of [.call [] (E4 r1) [], .bit false, .bit false, .bit false, .nm 11 (V.sc (.int .i64 (r_.Counts.length : Int))), .bit false, .call [] (E4 r2) [], .bit false, .bit false, .bit false, .bit false, .bit false, .nm 18 (V.sc (.int .i64 (r_.Sums.length : Int))), .bit false, .bit false, .bit false, .nm 21 (V.sc (.int .i64 (r_.Counts.length : Int))), .bit false, .bit false, .bit false, .bit false, .bit false, .call [] (E4 r3) [], .bit false, .bit false, .bit false, .wait 2, .nm 32 (V.sc (.int .i64 (r_.Counts.length : Int))), .wait 2, .mask [1, 32, 33], .ren [0], .loop (X.ret) (st 53 [(2, V.sc (.bool false))] [] [])] (p := [Fn Tryd.prog 76 [(false, E3 r_.Span), (false, E3 1), (false, E3 1000)] (E4 r1) [],
              (true || ((E4 r1).nv && nvL [])) = true,
              (!r1) = false,
              (!r1) = false,
              (!r1) = false,
              V.sc (.int .i64 ((List.map E3 r_.Counts).length : Int)) = V.sc (.int .i64 (r_.Counts.length : Int)),
              (!r1) = false,
              Fn Tryd.prog 76 [(false, E3 (r_.Counts.length : Int)), (false, E3 1), (false, E3 8)] (E4 r2) [],
              (true || ((E4 r2).nv && nvL [])) = true,
              (!r1) = false,
              (!r1) = false,
              (!r2) = false,
              (!r2) = false,
              (!r2) = false,
              V.sc (.int .i64 ((List.map E3 r_.Sums).length : Int)) = V.sc (.int .i64 (r_.Sums.length : Int)),
              (!r2) = false,
              (!r2) = false,
              (!r2) = false,
              V.sc (.int .i64 ((List.map E3 r_.Counts).length : Int)) = V.sc (.int .i64 (r_.Counts.length : Int)),
              (!r2) = false,
              (!r2) = false,
              ((r_.Sums.length : Int) != (r_.Counts.length : Int)) = false,
              ((r_.Sums.length : Int) != (r_.Counts.length : Int)) = false,
              ((r_.Sums.length : Int) != (r_.Counts.length : Int)) = false,
              Fn Tryd.prog 34 [(false, E3 r_.Head)] (E4 r3) [],
              (true || ((E4 r3).nv && nvL [])) = true,
              ((r_.Sums.length : Int) != (r_.Counts.length : Int)) = false,
              ((r_.Sums.length : Int) != (r_.Counts.length : Int)) = false,
              (!r3) = false,
              V.sc (.int .i64 ((List.map E3 r_.Counts).length : Int)) = V.sc (.int .i64 (r_.Counts.length : Int)),
              Loop Tryd.prog (sub (codeOf Tryd.prog 78) [1, 1, 0, 1, 0, 0]) (st 53 [(1, V.ptr 0 0), (32, V.sc (.int .i64 (r_.Counts.length : Int))), (33, V.sc (.int .i64 0))] [Blk.box 45 [V.sc (.int .i64 r_.Span), V.sc (.int .i64 r_.Head), V.sl false 3 (List.map E3 r_.Counts), V.sl false 3 (List.map E3 r_.Sums)]] []) (X.ret) (st 53 [(2, V.sc (.bool false))] [] [])]) (by kernel_rfl) (cj (spec_l01In_ok r_.Span 1 1000 r1 h1) (cj rfl (cj (nf h2) (cj (nf h2) (cj (nf h2) (cj (len_nm _ _) (cj (nf h2) (cj (spec_l01In_ok (r_.Counts.length : Int) 1 8 r2 h3) (cj rfl (cj (nf h2) (cj (nf h2) (cj (nf h4) (cj (nf h4) (cj (nf h4) (cj (len_nm _ _) (cj (nf h4) (cj (nf h4) (cj (nf h4) (cj (len_nm _ _) (cj (nf h4) (cj (nf h4) (cj h5 (cj h5 (cj h5 (cj (spec_l06Time_ok r_.Head r3 h6) (cj rfl (cj h5 (cj h5 (cj (nf h7) (cj (len_nm _ _) (cj1 ((spec_RingOk_l0_ok r_ h15 r_.Counts [] rfl r6 h16).at h18)))))))))))))))))))))))))))))))))))) (fun h15 =>
           Pn.none)) (fun h7 =>
          Pn.some (Fn.of [.call [] (E4 r1) [], .bit false, .bit false, .bit false, .nm 11 (V.sc (.int .i64 (r_.Counts.length : Int))), .bit false, .call [] (E4 r2) [], .bit false, .bit false, .bit false, .bit false, .bit false, .nm 18 (V.sc (.int .i64 (r_.Sums.length : Int))), .bit false, .bit false, .bit false, .nm 21 (V.sc (.int .i64 (r_.Counts.length : Int))), .bit false, .bit false, .bit false, .bit false, .bit false, .call [] (E4 r3) [], .bit false, .bit false, .bit true] (p := [Fn Tryd.prog 76 [(false, E3 r_.Span), (false, E3 1), (false, E3 1000)] (E4 r1) [],
           (true || ((E4 r1).nv && nvL [])) = true,
           (!r1) = false,
           (!r1) = false,
           (!r1) = false,
           V.sc (.int .i64 ((List.map E3 r_.Counts).length : Int)) = V.sc (.int .i64 (r_.Counts.length : Int)),
           (!r1) = false,
           Fn Tryd.prog 76 [(false, E3 (r_.Counts.length : Int)), (false, E3 1), (false, E3 8)] (E4 r2) [],
           (true || ((E4 r2).nv && nvL [])) = true,
           (!r1) = false,
           (!r1) = false,
           (!r2) = false,
           (!r2) = false,
           (!r2) = false,
           V.sc (.int .i64 ((List.map E3 r_.Sums).length : Int)) = V.sc (.int .i64 (r_.Sums.length : Int)),
           (!r2) = false,
           (!r2) = false,
           (!r2) = false,
           V.sc (.int .i64 ((List.map E3 r_.Counts).length : Int)) = V.sc (.int .i64 (r_.Counts.length : Int)),
           (!r2) = false,
           (!r2) = false,
           ((r_.Sums.length : Int) != (r_.Counts.length : Int)) = false,
           ((r_.Sums.length : Int) != (r_.Counts.length : Int)) = false,
           ((r_.Sums.length : Int) != (r_.Counts.length : Int)) = false,
           Fn Tryd.prog 34 [(false, E3 r_.Head)] (E4 r3) [],
           (true || ((E4 r3).nv && nvL [])) = true,
           ((r_.Sums.length : Int) != (r_.Counts.length : Int)) = false,
           ((r_.Sums.length : Int) != (r_.Counts.length : Int)) = false,
           (!r3) = true]) (by kernel_rfl) (cj (spec_l01In_ok r_.Span 1 1000 r1 h1) (cj rfl (cj (nf h2) (cj (nf h2) (cj (nf h2) (cj (len_nm _ _) (cj (nf h2) (cj (spec_l01In_ok (r_.Counts.length : Int) 1 8 r2 h3) (cj rfl (cj (nf h2) (cj (nf h2) (cj (nf h4) (cj (nf h4) (cj (nf h4) (cj (len_nm _ _) (cj (nf h4) (cj (nf h4) (cj (nf h4) (cj (len_nm _ _) (cj (nf h4) (cj (nf h4) (cj h5 (cj h5 (cj h5 (cj (spec_l06Time_ok r_.Head r3 h6) (cj rfl (cj h5 (cj h5 (cj1 (nt h7))))))))))))))))))))))))))))))))))) (fun h4 =>
       Pn.some (Fn.of [.call [] (E4 r1) [], .bit false, .bit false, .bit false, .nm 11 (V.sc (.int .i64 (r_.Counts.length : Int))), .bit false, .call [] (E4 r2) [], .bit false, .bit false, .bit true, .bit true, .bit true, .bit true, .bit true, .bit true, .bit true, .bit true, .bit true, .bit true, .bit true, .bit true, .bit true, .bit true] (p := [Fn Tryd.prog 76 [(false, E3 r_.Span), (false, E3 1), (false, E3 1000)] (E4 r1) [],
        (true || ((E4 r1).nv && nvL [])) = true,
        (!r1) = false,
        (!r1) = false,
        (!r1) = false,
        V.sc (.int .i64 ((List.map E3 r_.Counts).length : Int)) = V.sc (.int .i64 (r_.Counts.length : Int)),
        (!r1) = false,
        Fn Tryd.prog 76 [(false, E3 (r_.Counts.length : Int)), (false, E3 1), (false, E3 8)] (E4 r2) [],
        (true || ((E4 r2).nv && nvL [])) = true,
        (!r1) = false,
        (!r1) = false,
        (!r2) = true,
        (!r2) = true,
        (!r2) = true,
        (!r2) = true,
        (!r2) = true,
        (!r2) = true,
        (!r2) = true,
        (!r2) = true,
        true = true,
        true = true,
        true = true,
        true = true,
        true = true,
        true = true]) (by kernel_rfl) (cj (spec_l01In_ok r_.Span 1 1000 r1 h1) (cj rfl (cj (nf h2) (cj (nf h2) (cj (nf h2) (cj (len_nm _ _) (cj (nf h2) (cj (spec_l01In_ok (r_.Counts.length : Int) 1 8 r2 h3) (cj rfl (cj (nf h2) (cj (nf h2) (cj (nt h4) (cj (nt h4) (cj (nt h4) (cj (nt h4) (cj (nt h4) (cj (nt h4) (cj (nt h4) (cj (nt h4) (cj rfl (cj rfl (cj rfl (cj rfl (cj rfl (cj1 rfl))))))))))))))))))))))))))))) (fun h2 =>
     Pn.some (Fn.of [.call [] (E4 r1) [], .bit true, .bit true, .bit true, .bit true, .bit true, .bit true, .bit true, .bit true, .bit true, .bit true, .bit true, .bit true, .bit true, .bit true, .bit true, .bit true, .bit true, .bit true, .bit true, .bit true] (p := [Fn Tryd.prog 76 [(false, E3 r_.Span), (false, E3 1), (false, E3 1000)] (E4 r1) [],
      (true || ((E4 r1).nv && nvL [])) = true,
      (!r1) = true,
      (!r1) = true,
      (!r1) = true,
      (!r1) = true,
      (!r1) = true,
      (!r1) = true,
      true = true,
      true = true,
      true = true,
      true = true,
      true = true,
      true = true,
      true = true,
      true = true,
      true = true,
      true = true,
      true = true,
      true = true,
      true = true,
      true = true]) (by kernel_rfl) (cj (spec_l01In_ok r_.Span 1 1000 r1 h1) (cj rfl (cj (nt h2) (cj (nt h2) (cj (nt h2) (cj (nt h2) (cj (nt h2) (cj (nt h2) (cj rfl (cj rfl (cj rfl (cj rfl (cj rfl (cj rfl (cj rfl (cj rfl (cj rfl (cj rfl (cj rfl (cj rfl (cj rfl (cj1 rfl)))))))))))))))))))))))))
def spec_SlotOk (s_ : Slot) : Option (Bool) :=
 (spec_Digits s_.Trace).bind fun r1 =>
 if r1 = true then
  if ((s_.Trace.size : Int) == 6) = true then
   (spec_Digits s_.Mti).bind fun r2 =>
   if r2 = true then
    if ((s_.Mti.size : Int) == 4) = true then
     (spec_l01In (s_.Reply.length : Int) 1 200).bind fun r3 =>
     some r3
    else
     some false
   else
    some false
  else
   some false
 else
  some false
theorem spec_SlotOk_ok (s_ : Slot) : Pn (fun y => Fn Tryd.prog 122 [(false, E135 s_)] (E4 y) []) (spec_SlotOk s_) := by
  unfold spec_SlotOk
  exact
   Pn.bind (fun r1 h1 =>
    Pn.ite (fun h2 =>
     Pn.ite (fun h3 =>
      Pn.bind (fun r2 h4 =>
       Pn.ite (fun h5 =>
        Pn.ite (fun h6 =>
         Pn.bind (fun r3 h7 =>
          Pn.some (Fn.of [.call [] (E4 r1) [], .bit true, .bit true, .bit true, .bit true, .bit true, .bit true, .bit true, .bit true, .call [] (E4 r2) [], .bit true, .bit true, .bit true, .bit true, .bit true, .bit true, .bit true, .bit true, .bit true, .nm 26 (V.sc (.int .i64 (s_.Reply.length : Int))), .bit true, .call [] (E4 r3) [], .bit true] (p := [Fn Tryd.prog 104 [(false, E9 s_.Trace)] (E4 r1) [],
           (true || ((E4 r1).nv && nvL [])) = true,
           r1 = true,
           r1 = true,
           r1 = true,
           r1 = true,
           r1 = true,
           ((s_.Trace.size : Int) == 6) = true,
           ((s_.Trace.size : Int) == 6) = true,
           ((s_.Trace.size : Int) == 6) = true,
           Fn Tryd.prog 104 [(false, E9 s_.Mti)] (E4 r2) [],
           (true || ((E4 r2).nv && nvL [])) = true,
           ((s_.Trace.size : Int) == 6) = true,
           r2 = true,
           r2 = true,
           r2 = true,
           r2 = true,
           r2 = true,
           ((s_.Mti.size : Int) == 4) = true,
           ((s_.Mti.size : Int) == 4) = true,
           ((s_.Mti.size : Int) == 4) = true,
           V.sc (.int .i64 ((List.map E5 s_.Reply).length : Int)) = V.sc (.int .i64 (s_.Reply.length : Int)),
           ((s_.Mti.size : Int) == 4) = true,
           Fn Tryd.prog 76 [(false, E3 (s_.Reply.length : Int)), (false, E3 1), (false, E3 200)] (E4 r3) [],
           (true || ((E4 r3).nv && nvL [])) = true,
           ((s_.Mti.size : Int) == 4) = true]) (by kernel_rfl) (cj (spec_Digits_ok s_.Trace r1 h1) (cj rfl (cj h2 (cj h2 (cj h2 (cj h2 (cj h2 (cj h3 (cj h3 (cj h3 (cj (spec_Digits_ok s_.Mti r2 h4) (cj rfl (cj h3 (cj h5 (cj h5 (cj h5 (cj h5 (cj h5 (cj h6 (cj h6 (cj h6 (cj (len_nm _ _) (cj h6 (cj (spec_l01In_ok (s_.Reply.length : Int) 1 200 r3 h7) (cj rfl (cj1 h6))))))))))))))))))))))))))))) (fun h6 =>
         Pn.some (Fn.of [.call [] (E4 r1) [], .bit true, .bit true, .bit true, .bit true, .bit true, .bit true, .bit true, .bit true, .call [] (E4 r2) [], .bit true, .bit true, .bit true, .bit true, .bit true, .bit true, .bit false, .bit false, .bit false, .bit false, .bit false] (p := [Fn Tryd.prog 104 [(false, E9 s_.Trace)] (E4 r1) [],
          (true || ((E4 r1).nv && nvL [])) = true,
          r1 = true,
          r1 = true,
          r1 = true,
          r1 = true,
          r1 = true,
          ((s_.Trace.size : Int) == 6) = true,
          ((s_.Trace.size : Int) == 6) = true,
          ((s_.Trace.size : Int) == 6) = true,
          Fn Tryd.prog 104 [(false, E9 s_.Mti)] (E4 r2) [],
          (true || ((E4 r2).nv && nvL [])) = true,
          ((s_.Trace.size : Int) == 6) = true,
          r2 = true,
          r2 = true,
          r2 = true,
          r2 = true,
          r2 = true,
          ((s_.Mti.size : Int) == 4) = false,
          ((s_.Mti.size : Int) == 4) = false,
          ((s_.Mti.size : Int) == 4) = false,
          ((s_.Mti.size : Int) == 4) = false,
          ((s_.Mti.size : Int) == 4) = false]) (by kernel_rfl) (cj (spec_Digits_ok s_.Trace r1 h1) (cj rfl (cj h2 (cj h2 (cj h2 (cj h2 (cj h2 (cj h3 (cj h3 (cj h3 (cj (spec_Digits_ok s_.Mti r2 h4) (cj rfl (cj h3 (cj h5 (cj h5 (cj h5 (cj h5 (cj h5 (cj h6 (cj h6 (cj h6 (cj h6 (cj1 h6)))))))))))))))))))))))))) (fun h5 =>
        Pn.some (Fn.of [.call [] (E4 r1) [], .bit true, .bit true, .bit true, .bit true, .bit true, .bit true, .bit true, .bit true, .call [] (E4 r2) [], .bit true, .bit false, .bit false, .bit false, .bit false, .bit false, .bit false, .bit false, .bit false, .bit false, .bit false] (p := [Fn Tryd.prog 104 [(false, E9 s_.Trace)] (E4 r1) [],
         (true || ((E4 r1).nv && nvL [])) = true,
         r1 = true,
         r1 = true,
         r1 = true,
         r1 = true,
         r1 = true,
         ((s_.Trace.size : Int) == 6) = true,
         ((s_.Trace.size : Int) == 6) = true,
         ((s_.Trace.size : Int) == 6) = true,
         Fn Tryd.prog 104 [(false, E9 s_.Mti)] (E4 r2) [],
         (true || ((E4 r2).nv && nvL [])) = true,
         ((s_.Trace.size : Int) == 6) = true,
         r2 = false,
         r2 = false,
         r2 = false,
         r2 = false,
         r2 = false,
         false = false,
         false = false,
         false = false,
         false = false,
         false = false]) (by kernel_rfl) (cj (spec_Digits_ok s_.Trace r1 h1) (cj rfl (cj h2 (cj h2 (cj h2 (cj h2 (cj h2 (cj h3 (cj h3 (cj h3 (cj (spec_Digits_ok s_.Mti r2 h4) (cj rfl (cj h3 (cj h5 (cj h5 (cj h5 (cj h5 (cj h5 (cj rfl (cj rfl (cj rfl (cj rfl (cj1 rfl))))))))))))))))))))))))))) (fun h3 =>
      Pn.some (Fn.of [.call [] (E4 r1) [], .bit true, .bit true, .bit true, .bit true, .bit true, .bit false, .bit false, .bit false, .bit false, .bit false, .bit false, .bit false, .bit false, .bit false, .bit false, .bit false, .bit false, .bit false, .bit false] (p := [Fn Tryd.prog 104 [(false, E9 s_.Trace)] (E4 r1) [],
       (true || ((E4 r1).nv && nvL [])) = true,
       r1 = true,
       r1 = true,
       r1 = true,
       r1 = true,
       r1 = true,
       ((s_.Trace.size : Int) == 6) = false,
       ((s_.Trace.size : Int) == 6) = false,
       ((s_.Trace.size : Int) == 6) = false,
       ((s_.Trace.size : Int) == 6) = false,
       false = false,
       false = false,
       false = false,
       false = false,
       false = false,
       false = false,
       false = false,
       false = false,
       false = false,
       false = false]) (by kernel_rfl) (cj (spec_Digits_ok s_.Trace r1 h1) (cj rfl (cj h2 (cj h2 (cj h2 (cj h2 (cj h2 (cj h3 (cj h3 (cj h3 (cj h3 (cj rfl (cj rfl (cj rfl (cj rfl (cj rfl (cj rfl (cj rfl (cj rfl (cj rfl (cj1 rfl)))))))))))))))))))))))) (fun h2 =>
     Pn.some (Fn.of [.call [] (E4 r1) [], .bit false, .bit false, .bit false, .bit false, .bit false, .bit false, .bit false, .bit false, .bit false, .bit false, .bit false, .bit false, .bit false, .bit false, .bit false, .bit false, .bit false, .bit false, .bit false] (p := [Fn Tryd.prog 104 [(false, E9 s_.Trace)] (E4 r1) [],
      (true || ((E4 r1).nv && nvL [])) = true,
      r1 = false,
      r1 = false,
      r1 = false,
      r1 = false,
      r1 = false,
      false = false,
      false = false,
      false = false,
      false = false,
      false = false,
      false = false,
      false = false,
      false = false,
      false = false,
      false = false,
      false = false,
      false = false,
      false = false,
      false = false]) (by kernel_rfl) (cj (spec_Digits_ok s_.Trace r1 h1) (cj rfl (cj h2 (cj h2 (cj h2 (cj h2 (cj h2 (cj rfl (cj rfl (cj rfl (cj rfl (cj rfl (cj rfl (cj rfl (cj rfl (cj rfl (cj rfl (cj rfl (cj rfl (cj rfl (cj1 rfl))))))))))))))))))))))))
def spec_SlotsOk_l1 (l : List Slot) (p1 : List Slot) (x1 : Slot) : List Slot → Option (Lo Unit Unit)
  | [] =>
   some (.out ())
  | x2 :: t2 =>
   if (x2.Trace == x1.Trace) = true then
    if (x2.Mti == x1.Mti) = true then
     some (.ret ())
    else
     spec_SlotsOk_l1 l p1 x1 t2
   else
    spec_SlotsOk_l1 l p1 x1 t2
theorem spec_SlotsOk_l1_ok (l : List Slot) (p1 : List Slot) (x1 : Slot) (h8 : capOk ((l.take ((p1.length : Int).toNat)).drop 0).length = true) : ∀ (t2 p2 : List Slot) (_ : ((l.take ((p1.length : Int).toNat)).drop 0) = p2 ++ t2) , Pn (LpO Tryd.prog (sub (codeOf Tryd.prog 79) [1, 0, 1, 0, 0, 1, 1, 0, 0, 1, 1, 1, 0, 0]) (st 42 [(0, V.sl false 135 (List.map E135 l)), (4, V.ptr 0 0), (7, V.sl false 135 (List.map E135 l)), (8, V.sc (.int .i64 (l.length : Int))), (9, V.sc (.int .i64 (p1.length : Int))), (19, V.sl false 135 (List.map E135 ((l.take ((p1.length : Int).toNat)).drop 0))), (20, V.sc (.int .i64 (((l.take ((p1.length : Int).toNat)).drop 0).length : Int))), (21, V.sc (.int .i64 (p2.length : Int)))] [Blk.box 135 [V.sc (.string x1.Trace), V.sc (.string x1.Mti), V.sl false 5 (List.map E5 x1.Reply)]] []) (fun (y : Lo Unit Unit) => Lo.elim y (fun s => (X.out 2, st 42 [(0, V.sl false 135 (List.map E135 l)), (7, V.sl false 135 (List.map E135 l)), (8, V.sc (.int .i64 (l.length : Int))), (9, V.sc (.int .i64 (p1.length : Int)))] [] [])) (fun s => (X.ret, st 42 [(2, V.sc (.bool false))] [] [])))) (spec_SlotsOk_l1 l p1 x1 t2)
  | [], p2, h7 => by
    unfold spec_SlotsOk_l1
    exact
     Pn.some (LpO.out [.bit false, .mask [0, 7, 8, 9], .ren []] (p := [(decide ((p2.length : Int) < (((l.take ((p1.length : Int).toNat)).drop 0).length : Int))) = false]) (by kernel_rfl) (show X.out 2 ≠ X.go from nofun) (cj1 (rng_end h7)))
  | x2 :: t2, p2, h7 => by
    unfold spec_SlotsOk_l1
    exact
     Pn.ite (fun h9 =>
      Pn.ite (fun h10 =>
       Pn.some (LpO.out [.bit true, .el (E135 x2), .bit true, .bit true, .bit true, .bit true, .bit true, .bit true, .bit true, .wait 1, .mask [2], .ren []] (p := [(decide ((p2.length : Int) < (((l.take ((p1.length : Int).toNat)).drop 0).length : Int))) = true,
        (0 : Int) ≤ (p2.length : Int),
        (List.map E135 ((l.take ((p1.length : Int).toNat)).drop 0))[(p2.length : Int).toNat]? = some (E135 x2),
        (x2.Trace == x1.Trace) = true,
        (x2.Trace == x1.Trace) = true,
        (x2.Trace == x1.Trace) = true,
        (x2.Trace == x1.Trace) = true,
        (x2.Trace == x1.Trace) = true,
        (x2.Trace == x1.Trace) = true,
        (x2.Mti == x1.Mti) = true]) (by kernel_rfl) (show X.ret ≠ X.go from nofun) (cj (rng_lt h7) (cj (by omega) (cj (rng_get _ h7) (cj h9 (cj h9 (cj h9 (cj h9 (cj h9 (cj h9 (cj1 h10)))))))))))) (fun h10 =>
       LpO.go [.bit true, .el (E135 x2), .bit true, .bit true, .bit true, .bit true, .bit true, .bit true, .bit false, .wait 2, .mask [0, 4, 7, 8, 9, 19, 20, 21], .ren [0], .nm 21 (V.sc (.int .i64 ((p2 ++ [x2]).length : Int)))] (p := [(decide ((p2.length : Int) < (((l.take ((p1.length : Int).toNat)).drop 0).length : Int))) = true,
        (0 : Int) ≤ (p2.length : Int),
        (List.map E135 ((l.take ((p1.length : Int).toNat)).drop 0))[(p2.length : Int).toNat]? = some (E135 x2),
        (x2.Trace == x1.Trace) = true,
        (x2.Trace == x1.Trace) = true,
        (x2.Trace == x1.Trace) = true,
        (x2.Trace == x1.Trace) = true,
        (x2.Trace == x1.Trace) = true,
        (x2.Trace == x1.Trace) = true,
        (x2.Mti == x1.Mti) = false,
        V.sc (.int .i64 (i64 ((p2.length : Int) + 1))) = V.sc (.int .i64 ((p2 ++ [x2]).length : Int))]) (by kernel_rfl) (cj (rng_lt h7) (cj (by omega) (cj (rng_get _ h7) (cj h9 (cj h9 (cj h9 (cj h9 (cj h9 (cj h9 (cj h10 (cj1 (rng_next h7 h8)))))))))))) (spec_SlotsOk_l1_ok l p1 x1 h8 t2 (p2 ++ [x2]) (rng_step h7)))) (fun h9 =>
      LpO.go [.bit true, .el (E135 x2), .bit false, .bit false, .bit false, .bit false, .bit false, .bit false, .bit false, .wait 2, .mask [0, 4, 7, 8, 9, 19, 20, 21], .ren [0], .nm 21 (V.sc (.int .i64 ((p2 ++ [x2]).length : Int)))] (p := [(decide ((p2.length : Int) < (((l.take ((p1.length : Int).toNat)).drop 0).length : Int))) = true,
       (0 : Int) ≤ (p2.length : Int),
       (List.map E135 ((l.take ((p1.length : Int).toNat)).drop 0))[(p2.length : Int).toNat]? = some (E135 x2),
       (x2.Trace == x1.Trace) = false,
       (x2.Trace == x1.Trace) = false,
       (x2.Trace == x1.Trace) = false,
       (x2.Trace == x1.Trace) = false,
       (x2.Trace == x1.Trace) = false,
       (x2.Trace == x1.Trace) = false,
       false = false,
       V.sc (.int .i64 (i64 ((p2.length : Int) + 1))) = V.sc (.int .i64 ((p2 ++ [x2]).length : Int))]) (by kernel_rfl) (cj (rng_lt h7) (cj (by omega) (cj (rng_get _ h7) (cj h9 (cj h9 (cj h9 (cj h9 (cj h9 (cj h9 (cj rfl (cj1 (rng_next h7 h8)))))))))))) (spec_SlotsOk_l1_ok l p1 x1 h8 t2 (p2 ++ [x2]) (rng_step h7)))
def spec_SlotsOk_l0 (l : List Slot) : List Slot → List Slot → Option (Lo Unit Unit)
  | [], p1 =>
   some (.out ())
  | x1 :: t1, p1 =>
   (spec_SlotOk x1).bind fun r1 =>
   if r1 = true then
    if (decide (0 ≤ (p1.length : Int))) = true then
     if (decide ((p1.length : Int) ≤ (l.length : Int))) = true then
      if (capOk ((l.take ((p1.length : Int).toNat)).drop 0).length) = true then
       (spec_SlotsOk_l1 l p1 x1 ((l.take ((p1.length : Int).toNat)).drop 0)).bind fun r2 =>
       Lo.elim r2 (fun s1 =>
        spec_SlotsOk_l0 l t1 (p1 ++ [x1])) (fun s2 =>
        some (.ret ()))
      else none
     else none
    else none
   else
    some (.ret ())
theorem spec_SlotsOk_l0_ok (l : List Slot) (h2 : capOk l.length = true) : ∀ (t1 p1 : List Slot) (_ : l = p1 ++ t1) , Pn (LpO Tryd.prog (sub (codeOf Tryd.prog 79) [1, 0, 1, 0, 0]) (st 42 [(0, V.sl false 135 (List.map E135 l)), (7, V.sl false 135 (List.map E135 l)), (8, V.sc (.int .i64 (l.length : Int))), (9, V.sc (.int .i64 (p1.length : Int)))] [] []) (fun (y : Lo Unit Unit) => Lo.elim y (fun s => (X.out 0, st 42 [(0, V.sl false 135 (List.map E135 l))] [] [])) (fun s => (X.ret, st 42 [(2, V.sc (.bool false))] [] [])))) (spec_SlotsOk_l0 l t1 p1)
  | [], p1, h1 => by
    unfold spec_SlotsOk_l0
    exact
     Pn.some (LpO.out [.bit false, .mask [0], .ren []] (p := [(decide ((p1.length : Int) < (l.length : Int))) = false]) (by kernel_rfl) (show X.out 0 ≠ X.go from nofun) (cj1 (rng_end h1)))
  | x1 :: t1, p1, h1 => by
    unfold spec_SlotsOk_l0
    exact
     Pn.bind (fun r1 h3 =>
      Pn.ite (fun h4 =>
       Pn.ite (fun h5 =>
        Pn.ite (fun h6 =>
         Pn.ite (fun h11 =>
          Pn.bind (fun r2 h12 =>
           Pn.lo (fun s1 h13 =>
            LpO.go [.bit true, .el (E135 x1), .call [] (E4 r1) [], .bit false, .wait 2, .nm 19 (V.sl false 135 (List.map E135 ((l.take ((p1.length : Int).toNat)).drop 0))), .wait 1, .nm 20 (V.sc (.int .i64 (((l.take ((p1.length : Int).toNat)).drop 0).length : Int))), .wait 2, .mask [0, 4, 7, 8, 9, 19, 20, 21], .ren [0], .loop (X.out 2) (st 42 [(0, V.sl false 135 (List.map E135 l)), (7, V.sl false 135 (List.map E135 l)), (8, V.sc (.int .i64 (l.length : Int))), (9, V.sc (.int .i64 (p1.length : Int)))] [] []), .wait 3, .mask [0, 7, 8, 9], .ren [], .nm 9 (V.sc (.int .i64 ((p1 ++ [x1]).length : Int)))] (p := [(decide ((p1.length : Int) < (l.length : Int))) = true,
             (0 : Int) ≤ (p1.length : Int),
             (List.map E135 l)[(p1.length : Int).toNat]? = some (E135 x1),
             Fn Tryd.prog 122 [(false, E135 x1)] (E4 r1) [],
             (true || ((E4 r1).nv && nvL [])) = true,
             (!r1) = false,
             (0 : Int) ≤ 0,
             (0 : Int) ≤ (p1.length : Int),
             ((p1.length : Int) : Int) ≤ ((List.map E135 l).length : Int),
             V.sl false 135 (((List.map E135 l).take ((p1.length : Int).toNat)).drop 0) = V.sl false 135 (List.map E135 ((l.take ((p1.length : Int).toNat)).drop 0)),
             V.sc (.int .i64 ((List.map E135 ((l.take ((p1.length : Int).toNat)).drop 0)).length : Int)) = V.sc (.int .i64 (((l.take ((p1.length : Int).toNat)).drop 0).length : Int)),
             Loop Tryd.prog (sub (codeOf Tryd.prog 79) [1, 0, 1, 0, 0, 1, 1, 0, 0, 1, 1, 1, 0, 0]) (st 42 [(0, V.sl false 135 (List.map E135 l)), (4, V.ptr 0 0), (7, V.sl false 135 (List.map E135 l)), (8, V.sc (.int .i64 (l.length : Int))), (9, V.sc (.int .i64 (p1.length : Int))), (19, V.sl false 135 (List.map E135 ((l.take ((p1.length : Int).toNat)).drop 0))), (20, V.sc (.int .i64 (((l.take ((p1.length : Int).toNat)).drop 0).length : Int))), (21, V.sc (.int .i64 0))] [Blk.box 135 [V.sc (.string x1.Trace), V.sc (.string x1.Mti), V.sl false 5 (List.map E5 x1.Reply)]] []) (X.out 2) (st 42 [(0, V.sl false 135 (List.map E135 l)), (7, V.sl false 135 (List.map E135 l)), (8, V.sc (.int .i64 (l.length : Int))), (9, V.sc (.int .i64 (p1.length : Int)))] [] []),
             V.sc (.int .i64 (i64 ((p1.length : Int) + 1))) = V.sc (.int .i64 ((p1 ++ [x1]).length : Int))]) (by kernel_rfl) (cj (rng_lt h1) (cj (by omega) (cj (rng_get _ h1) (cj (spec_SlotOk_ok x1 r1 h3) (cj rfl (cj (nf h4) (cj (by decide) (cj (od h5) (cj (by rw [List.length_map]; exact (od h6)) (cj (nm_cut _ _ _ _ _) (cj (len_nm _ _) (cj ((spec_SlotsOk_l1_ok l p1 x1 h11 ((l.take ((p1.length : Int).toNat)).drop 0) [] rfl r2 h12).at h13) (cj1 (rng_next h1 h2)))))))))))))) (spec_SlotsOk_l0_ok l h2 t1 (p1 ++ [x1]) (rng_step h1))) (fun s2 h14 =>
            Pn.some (LpO.out [.bit true, .el (E135 x1), .call [] (E4 r1) [], .bit false, .wait 2, .nm 19 (V.sl false 135 (List.map E135 ((l.take ((p1.length : Int).toNat)).drop 0))), .wait 1, .nm 20 (V.sc (.int .i64 (((l.take ((p1.length : Int).toNat)).drop 0).length : Int))), .wait 2, .mask [0, 4, 7, 8, 9, 19, 20, 21], .ren [0], .loop (X.ret) (st 42 [(2, V.sc (.bool false))] [] []), .wait 1, .mask [2], .ren []] (p := [(decide ((p1.length : Int) < (l.length : Int))) = true,
             (0 : Int) ≤ (p1.length : Int),
             (List.map E135 l)[(p1.length : Int).toNat]? = some (E135 x1),
             Fn Tryd.prog 122 [(false, E135 x1)] (E4 r1) [],
             (true || ((E4 r1).nv && nvL [])) = true,
             (!r1) = false,
             (0 : Int) ≤ 0,
             (0 : Int) ≤ (p1.length : Int),
             ((p1.length : Int) : Int) ≤ ((List.map E135 l).length : Int),
             V.sl false 135 (((List.map E135 l).take ((p1.length : Int).toNat)).drop 0) = V.sl false 135 (List.map E135 ((l.take ((p1.length : Int).toNat)).drop 0)),
             V.sc (.int .i64 ((List.map E135 ((l.take ((p1.length : Int).toNat)).drop 0)).length : Int)) = V.sc (.int .i64 (((l.take ((p1.length : Int).toNat)).drop 0).length : Int)),
             Loop Tryd.prog (sub (codeOf Tryd.prog 79) [1, 0, 1, 0, 0, 1, 1, 0, 0, 1, 1, 1, 0, 0]) (st 42 [(0, V.sl false 135 (List.map E135 l)), (4, V.ptr 0 0), (7, V.sl false 135 (List.map E135 l)), (8, V.sc (.int .i64 (l.length : Int))), (9, V.sc (.int .i64 (p1.length : Int))), (19, V.sl false 135 (List.map E135 ((l.take ((p1.length : Int).toNat)).drop 0))), (20, V.sc (.int .i64 (((l.take ((p1.length : Int).toNat)).drop 0).length : Int))), (21, V.sc (.int .i64 0))] [Blk.box 135 [V.sc (.string x1.Trace), V.sc (.string x1.Mti), V.sl false 5 (List.map E5 x1.Reply)]] []) (X.ret) (st 42 [(2, V.sc (.bool false))] [] [])]) (by kernel_rfl) (show X.ret ≠ X.go from nofun) (cj (rng_lt h1) (cj (by omega) (cj (rng_get _ h1) (cj (spec_SlotOk_ok x1 r1 h3) (cj rfl (cj (nf h4) (cj (by decide) (cj (od h5) (cj (by rw [List.length_map]; exact (od h6)) (cj (nm_cut _ _ _ _ _) (cj (len_nm _ _) (cj1 ((spec_SlotsOk_l1_ok l p1 x1 h11 ((l.take ((p1.length : Int).toNat)).drop 0) [] rfl r2 h12).at h14))))))))))))))))) (fun h11 =>
          Pn.none)) (fun h6 =>
         Pn.none)) (fun h5 =>
        Pn.none)) (fun h4 =>
       Pn.some (LpO.out [.bit true, .el (E135 x1), .call [] (E4 r1) [], .bit true, .wait 1, .mask [2], .ren []] (p := [(decide ((p1.length : Int) < (l.length : Int))) = true,
        (0 : Int) ≤ (p1.length : Int),
        (List.map E135 l)[(p1.length : Int).toNat]? = some (E135 x1),
        Fn Tryd.prog 122 [(false, E135 x1)] (E4 r1) [],
        (true || ((E4 r1).nv && nvL [])) = true,
        (!r1) = true]) (by kernel_rfl) (show X.ret ≠ X.go from nofun) (cj (rng_lt h1) (cj (by omega) (cj (rng_get _ h1) (cj (spec_SlotOk_ok x1 r1 h3) (cj rfl (cj1 (nt h4))))))))))
def spec_SlotsOk (l : List Slot) : Option (Bool) :=
 if (capOk l.length) = true then
  (spec_SlotsOk_l0 l l []).bind fun r3 =>
  Lo.elim r3 (fun s3 =>
   some (decide ((l.length : Int) ≤ 6))) (fun s4 =>
   some false)
 else none
theorem spec_SlotsOk_ok (l : List Slot) : Pn (fun y => Fn Tryd.prog 79 [(false, E46 l)] (E4 y) []) (spec_SlotsOk l) := by
  unfold spec_SlotsOk
  exact
   Pn.ite (fun h15 =>
    Pn.bind (fun r3 h16 =>
     Pn.lo (fun s3 h17 =>
      Pn.some (Fn.of [.wait 3, .nm 8 (V.sc (.int .i64 (l.length : Int))), .wait 2, .mask [0, 7, 8, 9], .ren [], .loop (X.out 0) (st 42 [(0, V.sl false 135 (List.map E135 l))] [] []), .wait 2, .nm 40 (V.sc (.int .i64 (l.length : Int)))] (p := [V.sc (.int .i64 ((List.map E135 l).length : Int)) = V.sc (.int .i64 (l.length : Int)),
       Loop Tryd.prog (sub (codeOf Tryd.prog 79) [1, 0, 1, 0, 0]) (st 42 [(0, V.sl false 135 (List.map E135 l)), (7, V.sl false 135 (List.map E135 l)), (8, V.sc (.int .i64 (l.length : Int))), (9, V.sc (.int .i64 0))] [] []) (X.out 0) (st 42 [(0, V.sl false 135 (List.map E135 l))] [] []),
       V.sc (.int .i64 ((List.map E135 l).length : Int)) = V.sc (.int .i64 (l.length : Int))]) (by kernel_rfl) (cj (len_nm _ _) (cj ((spec_SlotsOk_l0_ok l h15 l [] rfl r3 h16).at h17) (cj1 (len_nm _ _)))))) (fun s4 h18 =>
      Pn.some (Fn.of [.wait 3, .nm 8 (V.sc (.int .i64 (l.length : Int))), .wait 2, .mask [0, 7, 8, 9], .ren [], .loop (X.ret) (st 42 [(2, V.sc (.bool false))] [] [])] (p := [V.sc (.int .i64 ((List.map E135 l).length : Int)) = V.sc (.int .i64 (l.length : Int)),
       Loop Tryd.prog (sub (codeOf Tryd.prog 79) [1, 0, 1, 0, 0]) (st 42 [(0, V.sl false 135 (List.map E135 l)), (7, V.sl false 135 (List.map E135 l)), (8, V.sc (.int .i64 (l.length : Int))), (9, V.sc (.int .i64 0))] [] []) (X.ret) (st 42 [(2, V.sc (.bool false))] [] [])]) (by kernel_rfl) (cj (len_nm _ _) (cj1 ((spec_SlotsOk_l0_ok l h15 l [] rfl r3 h16).at h18))))))) (fun h15 =>
    Pn.none)
def spec_l01Clamp (n : Int) (lo : Int) (hi : Int) : Option (Int) :=
 if (decide (n < lo)) = true then
  some lo
 else
  if (decide (hi < n)) = true then
   some hi
  else
   some n
theorem spec_l01Clamp_ok (n : Int) (lo : Int) (hi : Int) : Pn (fun y => Fn Tryd.prog 124 [(false, E3 n), (false, E3 lo), (false, E3 hi)] (E3 y) []) (spec_l01Clamp n lo hi) := by
  unfold spec_l01Clamp
  exact
   Pn.ite (fun h1 =>
    Pn.some (Fn.of [.bit true] (p := [(decide (n < lo)) = true]) (by kernel_rfl) (cj1 h1))) (fun h1 =>
    Pn.ite (fun h2 =>
     Pn.some (Fn.of [.bit false, .bit true] (p := [(decide (n < lo)) = false,
      (decide (hi < n)) = true]) (by kernel_rfl) (cj h1 (cj1 h2)))) (fun h2 =>
     Pn.some (Fn.of [.bit false, .bit false] (p := [(decide (n < lo)) = false,
      (decide (hi < n)) = false]) (by kernel_rfl) (cj h1 (cj1 h2)))))
def spec_AddMoney (a : Int) (b : Int) : Option (Int × Bool) :=
 (spec_l01Money a).bind fun r1 =>
 if r1 = true then
  (spec_l01Money b).bind fun r2 =>
  if r2 = true then
   if (decide ((i64 (4611686018427387904 - b)) < a)) = true then
    some (0, false)
   else
    some (i64 (a + b), true)
  else
   some (0, false)
 else
  some (0, false)
theorem spec_AddMoney_ok (a : Int) (b : Int) : Pn (fun y => Fn Tryd.prog 123 [(false, E3 a), (false, E3 b)] (V.tup [E3 y.1, E4 y.2]) []) (spec_AddMoney a b) := by
  unfold spec_AddMoney
  exact
   Pn.bind (fun r1 h1 =>
    Pn.ite (fun h2 =>
     Pn.bind (fun r2 h3 =>
      Pn.ite (fun h4 =>
       Pn.ite (fun h5 =>
        Pn.some (Fn.of [.call [] (E4 r1) [], .bit false, .bit false, .call [] (E4 r2) [], .bit false, .bit false, .bit false, .bit false, .bit false, .bit false, .bit false, .bit true] (p := [Fn Tryd.prog 62 [(false, E3 a)] (E4 r1) [],
         (true || ((E4 r1).nv && nvL [])) = true,
         (!r1) = false,
         (!r1) = false,
         Fn Tryd.prog 62 [(false, E3 b)] (E4 r2) [],
         (true || ((E4 r2).nv && nvL [])) = true,
         (!r1) = false,
         (!r1) = false,
         (!r2) = false,
         (!r2) = false,
         (!r2) = false,
         (!r2) = false,
         (!r2) = false,
         (decide ((i64 (4611686018427387904 - b)) < a)) = true]) (by kernel_rfl) (cj (spec_l01Money_ok a r1 h1) (cj rfl (cj (nf h2) (cj (nf h2) (cj (spec_l01Money_ok b r2 h3) (cj rfl (cj (nf h2) (cj (nf h2) (cj (nf h4) (cj (nf h4) (cj (nf h4) (cj (nf h4) (cj (nf h4) (cj1 h5)))))))))))))))) (fun h5 =>
        Pn.some (Fn.of [.call [] (E4 r1) [], .bit false, .bit false, .call [] (E4 r2) [], .bit false, .bit false, .bit false, .bit false, .bit false, .bit false, .bit false, .bit false] (p := [Fn Tryd.prog 62 [(false, E3 a)] (E4 r1) [],
         (true || ((E4 r1).nv && nvL [])) = true,
         (!r1) = false,
         (!r1) = false,
         Fn Tryd.prog 62 [(false, E3 b)] (E4 r2) [],
         (true || ((E4 r2).nv && nvL [])) = true,
         (!r1) = false,
         (!r1) = false,
         (!r2) = false,
         (!r2) = false,
         (!r2) = false,
         (!r2) = false,
         (!r2) = false,
         (decide ((i64 (4611686018427387904 - b)) < a)) = false]) (by kernel_rfl) (cj (spec_l01Money_ok a r1 h1) (cj rfl (cj (nf h2) (cj (nf h2) (cj (spec_l01Money_ok b r2 h3) (cj rfl (cj (nf h2) (cj (nf h2) (cj (nf h4) (cj (nf h4) (cj (nf h4) (cj (nf h4) (cj (nf h4) (cj1 h5))))))))))))))))) (fun h4 =>
       Pn.some (Fn.of [.call [] (E4 r1) [], .bit false, .bit false, .call [] (E4 r2) [], .bit false, .bit false, .bit true, .bit true, .bit true, .bit true, .bit true, .bit true] (p := [Fn Tryd.prog 62 [(false, E3 a)] (E4 r1) [],
        (true || ((E4 r1).nv && nvL [])) = true,
        (!r1) = false,
        (!r1) = false,
        Fn Tryd.prog 62 [(false, E3 b)] (E4 r2) [],
        (true || ((E4 r2).nv && nvL [])) = true,
        (!r1) = false,
        (!r1) = false,
        (!r2) = true,
        (!r2) = true,
        (!r2) = true,
        (!r2) = true,
        (!r2) = true,
        true = true]) (by kernel_rfl) (cj (spec_l01Money_ok a r1 h1) (cj rfl (cj (nf h2) (cj (nf h2) (cj (spec_l01Money_ok b r2 h3) (cj rfl (cj (nf h2) (cj (nf h2) (cj (nt h4) (cj (nt h4) (cj (nt h4) (cj (nt h4) (cj (nt h4) (cj1 rfl)))))))))))))))))) (fun h2 =>
     Pn.some (Fn.of [.call [] (E4 r1) [], .bit true, .bit true, .bit true, .bit true, .bit true, .bit true, .bit true, .bit true, .bit true, .bit true] (p := [Fn Tryd.prog 62 [(false, E3 a)] (E4 r1) [],
      (true || ((E4 r1).nv && nvL [])) = true,
      (!r1) = true,
      (!r1) = true,
      (!r1) = true,
      (!r1) = true,
      true = true,
      true = true,
      true = true,
      true = true,
      true = true,
      true = true]) (by kernel_rfl) (cj (spec_l01Money_ok a r1 h1) (cj rfl (cj (nt h2) (cj (nt h2) (cj (nt h2) (cj (nt h2) (cj rfl (cj rfl (cj rfl (cj rfl (cj rfl (cj1 rfl)))))))))))))))
def spec_AddSat (a : Int) (b : Int) : Option (Int) :=
 (spec_l01Clamp a 0 4611686018427387904).bind fun r1 =>
 (spec_l01Clamp b 0 4611686018427387904).bind fun r2 =>
 (spec_AddMoney r1 r2).bind fun r3 =>
 if r3.2 = true then
  some r3.1
 else
  some 4611686018427387904
theorem spec_AddSat_ok (a : Int) (b : Int) : Pn (fun y => Fn Tryd.prog 80 [(false, E3 a), (false, E3 b)] (E3 y) []) (spec_AddSat a b) := by
  unfold spec_AddSat
  exact
   Pn.bind (fun r1 h1 =>
    Pn.bind (fun r2 h2 =>
     Pn.bind (fun r3 h3 =>
      Pn.ite (fun h4 =>
       Pn.some (Fn.of [.call [] (E3 r1) [], .call [] (E3 r2) [], .call [] (V.tup [E3 r3.1, E4 r3.2]) [], .bit false] (p := [Fn Tryd.prog 124 [(false, E3 a), (false, E3 0), (false, E3 4611686018427387904)] (E3 r1) [],
        (true || ((E3 r1).nv && nvL [])) = true,
        Fn Tryd.prog 124 [(false, E3 b), (false, E3 0), (false, E3 4611686018427387904)] (E3 r2) [],
        (true || ((E3 r2).nv && nvL [])) = true,
        Fn Tryd.prog 123 [(false, E3 r1), (false, E3 r2)] (V.tup [E3 r3.1, E4 r3.2]) [],
        (true || ((V.tup [E3 r3.1, E4 r3.2]).nv && nvL [])) = true,
        (!r3.2) = false]) (by kernel_rfl) (cj (spec_l01Clamp_ok a 0 4611686018427387904 r1 h1) (cj rfl (cj (spec_l01Clamp_ok b 0 4611686018427387904 r2 h2) (cj rfl (cj (spec_AddMoney_ok r1 r2 r3 h3) (cj rfl (cj1 (nf h4)))))))))) (fun h4 =>
       Pn.some (Fn.of [.call [] (E3 r1) [], .call [] (E3 r2) [], .call [] (V.tup [E3 r3.1, E4 r3.2]) [], .bit true] (p := [Fn Tryd.prog 124 [(false, E3 a), (false, E3 0), (false, E3 4611686018427387904)] (E3 r1) [],
        (true || ((E3 r1).nv && nvL [])) = true,
        Fn Tryd.prog 124 [(false, E3 b), (false, E3 0), (false, E3 4611686018427387904)] (E3 r2) [],
        (true || ((E3 r2).nv && nvL [])) = true,
        Fn Tryd.prog 123 [(false, E3 r1), (false, E3 r2)] (V.tup [E3 r3.1, E4 r3.2]) [],
        (true || ((V.tup [E3 r3.1, E4 r3.2]).nv && nvL [])) = true,
        (!r3.2) = true]) (by kernel_rfl) (cj (spec_l01Clamp_ok a 0 4611686018427387904 r1 h1) (cj rfl (cj (spec_l01Clamp_ok b 0 4611686018427387904 r2 h2) (cj rfl (cj (spec_AddMoney_ok r1 r2 r3 h3) (cj rfl (cj1 (nt h4)))))))))))))
def spec_Stored_l0 (l : List Hold) : List Hold → Int → Option (Int)
  | [], v1 =>
   some v1
  | x1 :: t1, v1 =>
   (spec_AddSat v1 x1.Amount).bind fun r1 =>
   spec_Stored_l0 l t1 r1
theorem spec_Stored_l0_ok (l : List Hold) (h2 : capOk l.length = true) : ∀ (t1 p1 : List Hold) (_ : l = p1 ++ t1) (v1 : Int), Pn (LpO Tryd.prog (sub (codeOf Tryd.prog 81) [1, 1, 0, 1, 0, 0]) (st 18 [(3, V.sc (.int .i64 v1)), (6, V.sl false 80 (List.map E80 l)), (7, V.sc (.int .i64 (l.length : Int))), (8, V.sc (.int .i64 (p1.length : Int)))] [] []) (fun (y : Int) => (X.out 0, st 18 [(3, V.sc (.int .i64 y))] [] []))) (spec_Stored_l0 l t1 v1)
  | [], p1, h1, v1 => by
    unfold spec_Stored_l0
    exact
     Pn.some (LpO.out [.bit false, .mask [3], .ren []] (p := [(decide ((p1.length : Int) < (l.length : Int))) = false]) (by kernel_rfl) (show X.out 0 ≠ X.go from nofun) (cj1 (rng_end h1)))
  | x1 :: t1, p1, h1, v1 => by
    unfold spec_Stored_l0
    exact
     Pn.bind (fun r1 h3 =>
      LpO.go [.bit true, .el (E80 x1), .call [] (E3 r1) [], .wait 4, .mask [3, 6, 7, 8], .ren [], .nm 8 (V.sc (.int .i64 ((p1 ++ [x1]).length : Int)))] (p := [(decide ((p1.length : Int) < (l.length : Int))) = true,
       (0 : Int) ≤ (p1.length : Int),
       (List.map E80 l)[(p1.length : Int).toNat]? = some (E80 x1),
       Fn Tryd.prog 80 [(false, E3 v1), (false, E3 x1.Amount)] (E3 r1) [],
       (true || ((E3 r1).nv && nvL [])) = true,
       V.sc (.int .i64 (i64 ((p1.length : Int) + 1))) = V.sc (.int .i64 ((p1 ++ [x1]).length : Int))]) (by kernel_rfl) (cj (rng_lt h1) (cj (by omega) (cj (rng_get _ h1) (cj (spec_AddSat_ok v1 x1.Amount r1 h3) (cj rfl (cj1 (rng_next h1 h2))))))) (spec_Stored_l0_ok l h2 t1 (p1 ++ [x1]) (rng_step h1) r1))
def spec_Stored (l : List Hold) : Option (Int) :=
 if (capOk l.length) = true then
  (spec_Stored_l0 l l 0).bind fun r2 =>
  some r2
 else none
theorem spec_Stored_ok (l : List Hold) : Pn (fun y => Fn Tryd.prog 81 [(false, E44 l)] (E3 y) []) (spec_Stored l) := by
  unfold spec_Stored
  exact
   Pn.ite (fun h4 =>
    Pn.bind (fun r2 h5 =>
     Pn.some (Fn.of [.wait 4, .nm 7 (V.sc (.int .i64 (l.length : Int))), .wait 2, .mask [3, 6, 7, 8], .ren [], .loop (X.out 0) (st 18 [(3, V.sc (.int .i64 r2))] [] [])] (p := [V.sc (.int .i64 ((List.map E80 l).length : Int)) = V.sc (.int .i64 (l.length : Int)),
      Loop Tryd.prog (sub (codeOf Tryd.prog 81) [1, 1, 0, 1, 0, 0]) (st 18 [(3, V.sc (.int .i64 0)), (6, V.sl false 80 (List.map E80 l)), (7, V.sc (.int .i64 (l.length : Int))), (8, V.sc (.int .i64 0))] [] []) (X.out 0) (st 18 [(3, V.sc (.int .i64 r2))] [] [])]) (by kernel_rfl) (cj (len_nm _ _) (cj1 (spec_Stored_l0_ok l h4 l [] rfl 0 r2 h5)))))) (fun h4 =>
    Pn.none)
def spec_AcctOk (a : Acct) : Option (Bool) :=
 (spec_AcctIdOk a.Id).bind fun r1 =>
 if r1 = true then
  (spec_l01In a.Limit 0 9007199254740992).bind fun r2 =>
  if r2 = true then
   (spec_l01In a.Most 0 1000).bind fun r3 =>
   if r3 = true then
    (spec_l01In a.MostSum 0 9007199254740992).bind fun r4 =>
    if r4 = true then
     (spec_l01Money a.Posted).bind fun r5 =>
     if r5 = true then
      (spec_HoldsOk a.Holds).bind fun r6 =>
      if r6 = true then
       (spec_RingOk a.Ring).bind fun r7 =>
       if r7 = true then
        (spec_SlotsOk a.Slots).bind fun r8 =>
        if r8 = true then
         (spec_Stored a.Holds).bind fun r9 =>
         (spec_AddSat a.Posted r9).bind fun r10 =>
         some (decide (r10 ≤ a.Limit))
        else
         some false
       else
        some false
      else
       some false
     else
      some false
    else
     some false
   else
    some false
  else
   some false
 else
  some false
theorem spec_AcctOk_ok (a : Acct) : Pn (fun y => Fn Tryd.prog 33 [(false, E48 a)] (E4 y) []) (spec_AcctOk a) := by
  unfold spec_AcctOk
  exact
   Pn.bind (fun r1 h1 =>
    Pn.ite (fun h2 =>
     Pn.bind (fun r2 h3 =>
      Pn.ite (fun h4 =>
       Pn.bind (fun r3 h5 =>
        Pn.ite (fun h6 =>
         Pn.bind (fun r4 h7 =>
          Pn.ite (fun h8 =>
           Pn.bind (fun r5 h9 =>
            Pn.ite (fun h10 =>
             Pn.bind (fun r6 h11 =>
              Pn.ite (fun h12 =>
               Pn.bind (fun r7 h13 =>
                Pn.ite (fun h14 =>
                 Pn.bind (fun r8 h15 =>
                  Pn.ite (fun h16 =>
                   Pn.bind (fun r9 h17 =>
                    Pn.bind (fun r10 h18 =>
                     Pn.some (Fn.of [.call [] (E4 r1) [], .bit false, .bit false, .bit false, .call [] (E4 r2) [], .bit false, .bit false, .bit false, .bit false, .bit false, .call [] (E4 r3) [], .bit false, .bit false, .bit false, .bit false, .bit false, .call [] (E4 r4) [], .bit false, .bit false, .bit false, .bit false, .bit false, .call [] (E4 r5) [], .bit false, .bit false, .bit false, .draw [], .call [] (E4 r6) [], .bit true, .bit true, .bit true, .call [] (E4 r7) [], .bit true, .bit true, .bit true, .bit true, .call [] (E4 r8) [], .bit true, .bit true, .bit true, .bit true, .bit true, .bit true, .bit true, .bit true, .call [] (E3 r9) [], .bit true, .call [] (E3 r10) [], .bit true, .bit true] (p := [Fn Tryd.prog 75 [(false, E9 a.Id)] (E4 r1) [],
                      (true || ((E4 r1).nv && nvL [])) = true,
                      (!r1) = false,
                      (!r1) = false,
                      (!r1) = false,
                      Fn Tryd.prog 76 [(false, E3 a.Limit), (false, E3 0), (false, E3 9007199254740992)] (E4 r2) [],
                      (true || ((E4 r2).nv && nvL [])) = true,
                      (!r1) = false,
                      (!r1) = false,
                      (!r2) = false,
                      (!r2) = false,
                      (!r2) = false,
                      Fn Tryd.prog 76 [(false, E3 a.Most), (false, E3 0), (false, E3 1000)] (E4 r3) [],
                      (true || ((E4 r3).nv && nvL [])) = true,
                      (!r2) = false,
                      (!r2) = false,
                      (!r3) = false,
                      (!r3) = false,
                      (!r3) = false,
                      Fn Tryd.prog 76 [(false, E3 a.MostSum), (false, E3 0), (false, E3 9007199254740992)] (E4 r4) [],
                      (true || ((E4 r4).nv && nvL [])) = true,
                      (!r3) = false,
                      (!r3) = false,
                      (!r4) = false,
                      (!r4) = false,
                      (!r4) = false,
                      Fn Tryd.prog 62 [(false, E3 a.Posted)] (E4 r5) [],
                      (true || ((E4 r5).nv && nvL [])) = true,
                      (!r4) = false,
                      (!r4) = false,
                      (!r5) = false,
                      Fn Tryd.prog 77 [(false, E44 a.Holds)] (E4 r6) [],
                      (true || ((E4 r6).nv && nvL [])) = true,
                      r6 = true,
                      r6 = true,
                      r6 = true,
                      Fn Tryd.prog 78 [(false, E45 a.Ring)] (E4 r7) [],
                      (true || ((E4 r7).nv && nvL [])) = true,
                      r6 = true,
                      r7 = true,
                      r7 = true,
                      r7 = true,
                      Fn Tryd.prog 79 [(false, E46 a.Slots)] (E4 r8) [],
                      (true || ((E4 r8).nv && nvL [])) = true,
                      r7 = true,
                      r8 = true,
                      r8 = true,
                      r8 = true,
                      r8 = true,
                      r8 = true,
                      r8 = true,
                      r8 = true,
                      Fn Tryd.prog 81 [(false, E44 a.Holds)] (E3 r9) [],
                      (true || ((E3 r9).nv && nvL [])) = true,
                      r8 = true,
                      Fn Tryd.prog 80 [(false, E3 a.Posted), (false, E3 r9)] (E3 r10) [],
                      (true || ((E3 r10).nv && nvL [])) = true,
                      r8 = true,
                      r8 = true]) (by kernel_rfl) (cj (spec_AcctIdOk_ok a.Id r1 h1) (cj rfl (cj (nf h2) (cj (nf h2) (cj (nf h2) (cj (spec_l01In_ok a.Limit 0 9007199254740992 r2 h3) (cj rfl (cj (nf h2) (cj (nf h2) (cj (nf h4) (cj (nf h4) (cj (nf h4) (cj (spec_l01In_ok a.Most 0 1000 r3 h5) (cj rfl (cj (nf h4) (cj (nf h4) (cj (nf h6) (cj (nf h6) (cj (nf h6) (cj (spec_l01In_ok a.MostSum 0 9007199254740992 r4 h7) (cj rfl (cj (nf h6) (cj (nf h6) (cj (nf h8) (cj (nf h8) (cj (nf h8) (cj (spec_l01Money_ok a.Posted r5 h9) (cj rfl (cj (nf h8) (cj (nf h8) (cj (nf h10) (cj (spec_HoldsOk_ok a.Holds r6 h11) (cj rfl (cj h12 (cj h12 (cj h12 (cj (spec_RingOk_ok a.Ring r7 h13) (cj rfl (cj h12 (cj h14 (cj h14 (cj h14 (cj (spec_SlotsOk_ok a.Slots r8 h15) (cj rfl (cj h14 (cj h16 (cj h16 (cj h16 (cj h16 (cj h16 (cj h16 (cj h16 (cj (spec_Stored_ok a.Holds r9 h17) (cj rfl (cj h16 (cj (spec_AddSat_ok a.Posted r9 r10 h18) (cj rfl (cj h16 (cj1 h16))))))))))))))))))))))))))))))))))))))))))))))))))))))))))))))) (fun h16 =>
                   Pn.some (Fn.of [.call [] (E4 r1) [], .bit false, .bit false, .bit false, .call [] (E4 r2) [], .bit false, .bit false, .bit false, .bit false, .bit false, .call [] (E4 r3) [], .bit false, .bit false, .bit false, .bit false, .bit false, .call [] (E4 r4) [], .bit false, .bit false, .bit false, .bit false, .bit false, .call [] (E4 r5) [], .bit false, .bit false, .bit false, .draw [], .call [] (E4 r6) [], .bit true, .bit true, .bit true, .call [] (E4 r7) [], .bit true, .bit true, .bit true, .bit true, .call [] (E4 r8) [], .bit true, .bit false, .bit false, .bit false, .bit false, .bit false, .bit false, .bit false, .bit false, .bit false, .bit false] (p := [Fn Tryd.prog 75 [(false, E9 a.Id)] (E4 r1) [],
                    (true || ((E4 r1).nv && nvL [])) = true,
                    (!r1) = false,
                    (!r1) = false,
                    (!r1) = false,
                    Fn Tryd.prog 76 [(false, E3 a.Limit), (false, E3 0), (false, E3 9007199254740992)] (E4 r2) [],
                    (true || ((E4 r2).nv && nvL [])) = true,
                    (!r1) = false,
                    (!r1) = false,
                    (!r2) = false,
                    (!r2) = false,
                    (!r2) = false,
                    Fn Tryd.prog 76 [(false, E3 a.Most), (false, E3 0), (false, E3 1000)] (E4 r3) [],
                    (true || ((E4 r3).nv && nvL [])) = true,
                    (!r2) = false,
                    (!r2) = false,
                    (!r3) = false,
                    (!r3) = false,
                    (!r3) = false,
                    Fn Tryd.prog 76 [(false, E3 a.MostSum), (false, E3 0), (false, E3 9007199254740992)] (E4 r4) [],
                    (true || ((E4 r4).nv && nvL [])) = true,
                    (!r3) = false,
                    (!r3) = false,
                    (!r4) = false,
                    (!r4) = false,
                    (!r4) = false,
                    Fn Tryd.prog 62 [(false, E3 a.Posted)] (E4 r5) [],
                    (true || ((E4 r5).nv && nvL [])) = true,
                    (!r4) = false,
                    (!r4) = false,
                    (!r5) = false,
                    Fn Tryd.prog 77 [(false, E44 a.Holds)] (E4 r6) [],
                    (true || ((E4 r6).nv && nvL [])) = true,
                    r6 = true,
                    r6 = true,
                    r6 = true,
                    Fn Tryd.prog 78 [(false, E45 a.Ring)] (E4 r7) [],
                    (true || ((E4 r7).nv && nvL [])) = true,
                    r6 = true,
                    r7 = true,
                    r7 = true,
                    r7 = true,
                    Fn Tryd.prog 79 [(false, E46 a.Slots)] (E4 r8) [],
                    (true || ((E4 r8).nv && nvL [])) = true,
                    r7 = true,
                    r8 = false,
                    r8 = false,
                    r8 = false,
                    r8 = false,
                    r8 = false,
                    r8 = false,
                    r8 = false,
                    r8 = false,
                    r8 = false,
                    r8 = false]) (by kernel_rfl) (cj (spec_AcctIdOk_ok a.Id r1 h1) (cj rfl (cj (nf h2) (cj (nf h2) (cj (nf h2) (cj (spec_l01In_ok a.Limit 0 9007199254740992 r2 h3) (cj rfl (cj (nf h2) (cj (nf h2) (cj (nf h4) (cj (nf h4) (cj (nf h4) (cj (spec_l01In_ok a.Most 0 1000 r3 h5) (cj rfl (cj (nf h4) (cj (nf h4) (cj (nf h6) (cj (nf h6) (cj (nf h6) (cj (spec_l01In_ok a.MostSum 0 9007199254740992 r4 h7) (cj rfl (cj (nf h6) (cj (nf h6) (cj (nf h8) (cj (nf h8) (cj (nf h8) (cj (spec_l01Money_ok a.Posted r5 h9) (cj rfl (cj (nf h8) (cj (nf h8) (cj (nf h10) (cj (spec_HoldsOk_ok a.Holds r6 h11) (cj rfl (cj h12 (cj h12 (cj h12 (cj (spec_RingOk_ok a.Ring r7 h13) (cj rfl (cj h12 (cj h14 (cj h14 (cj h14 (cj (spec_SlotsOk_ok a.Slots r8 h15) (cj rfl (cj h14 (cj h16 (cj h16 (cj h16 (cj h16 (cj h16 (cj h16 (cj h16 (cj h16 (cj h16 (cj1 h16))))))))))))))))))))))))))))))))))))))))))))))))))))))))))) (fun h14 =>
                 Pn.some (Fn.of [.call [] (E4 r1) [], .bit false, .bit false, .bit false, .call [] (E4 r2) [], .bit false, .bit false, .bit false, .bit false, .bit false, .call [] (E4 r3) [], .bit false, .bit false, .bit false, .bit false, .bit false, .call [] (E4 r4) [], .bit false, .bit false, .bit false, .bit false, .bit false, .call [] (E4 r5) [], .bit false, .bit false, .bit false, .draw [], .call [] (E4 r6) [], .bit true, .bit true, .bit true, .call [] (E4 r7) [], .bit true, .bit false, .bit false, .bit false, .bit false, .bit false, .bit false, .bit false, .bit false, .bit false, .bit false, .bit false, .bit false, .bit false, .bit false] (p := [Fn Tryd.prog 75 [(false, E9 a.Id)] (E4 r1) [],
                  (true || ((E4 r1).nv && nvL [])) = true,
                  (!r1) = false,
                  (!r1) = false,
                  (!r1) = false,
                  Fn Tryd.prog 76 [(false, E3 a.Limit), (false, E3 0), (false, E3 9007199254740992)] (E4 r2) [],
                  (true || ((E4 r2).nv && nvL [])) = true,
                  (!r1) = false,
                  (!r1) = false,
                  (!r2) = false,
                  (!r2) = false,
                  (!r2) = false,
                  Fn Tryd.prog 76 [(false, E3 a.Most), (false, E3 0), (false, E3 1000)] (E4 r3) [],
                  (true || ((E4 r3).nv && nvL [])) = true,
                  (!r2) = false,
                  (!r2) = false,
                  (!r3) = false,
                  (!r3) = false,
                  (!r3) = false,
                  Fn Tryd.prog 76 [(false, E3 a.MostSum), (false, E3 0), (false, E3 9007199254740992)] (E4 r4) [],
                  (true || ((E4 r4).nv && nvL [])) = true,
                  (!r3) = false,
                  (!r3) = false,
                  (!r4) = false,
                  (!r4) = false,
                  (!r4) = false,
                  Fn Tryd.prog 62 [(false, E3 a.Posted)] (E4 r5) [],
                  (true || ((E4 r5).nv && nvL [])) = true,
                  (!r4) = false,
                  (!r4) = false,
                  (!r5) = false,
                  Fn Tryd.prog 77 [(false, E44 a.Holds)] (E4 r6) [],
                  (true || ((E4 r6).nv && nvL [])) = true,
                  r6 = true,
                  r6 = true,
                  r6 = true,
                  Fn Tryd.prog 78 [(false, E45 a.Ring)] (E4 r7) [],
                  (true || ((E4 r7).nv && nvL [])) = true,
                  r6 = true,
                  r7 = false,
                  r7 = false,
                  r7 = false,
                  r7 = false,
                  false = false,
                  false = false,
                  false = false,
                  false = false,
                  false = false,
                  false = false,
                  false = false,
                  false = false,
                  false = false,
                  false = false]) (by kernel_rfl) (cj (spec_AcctIdOk_ok a.Id r1 h1) (cj rfl (cj (nf h2) (cj (nf h2) (cj (nf h2) (cj (spec_l01In_ok a.Limit 0 9007199254740992 r2 h3) (cj rfl (cj (nf h2) (cj (nf h2) (cj (nf h4) (cj (nf h4) (cj (nf h4) (cj (spec_l01In_ok a.Most 0 1000 r3 h5) (cj rfl (cj (nf h4) (cj (nf h4) (cj (nf h6) (cj (nf h6) (cj (nf h6) (cj (spec_l01In_ok a.MostSum 0 9007199254740992 r4 h7) (cj rfl (cj (nf h6) (cj (nf h6) (cj (nf h8) (cj (nf h8) (cj (nf h8) (cj (spec_l01Money_ok a.Posted r5 h9) (cj rfl (cj (nf h8) (cj (nf h8) (cj (nf h10) (cj (spec_HoldsOk_ok a.Holds r6 h11) (cj rfl (cj h12 (cj h12 (cj h12 (cj (spec_RingOk_ok a.Ring r7 h13) (cj rfl (cj h12 (cj h14 (cj h14 (cj h14 (cj h14 (cj rfl (cj rfl (cj rfl (cj rfl (cj rfl (cj rfl (cj rfl (cj rfl (cj rfl (cj1 rfl))))))))))))))))))))))))))))))))))))))))))))))))))))))))) (fun h12 =>
               Pn.some (Fn.of [.call [] (E4 r1) [], .bit false, .bit false, .bit false, .call [] (E4 r2) [], .bit false, .bit false, .bit false, .bit false, .bit false, .call [] (E4 r3) [], .bit false, .bit false, .bit false, .bit false, .bit false, .call [] (E4 r4) [], .bit false, .bit false, .bit false, .bit false, .bit false, .call [] (E4 r5) [], .bit false, .bit false, .bit false, .draw [], .call [] (E4 r6) [], .bit false, .bit false, .bit false, .bit false, .bit false, .bit false, .bit false, .bit false, .bit false, .bit false, .bit false, .bit false, .bit false, .bit false, .bit false, .bit false, .bit false, .bit false] (p := [Fn Tryd.prog 75 [(false, E9 a.Id)] (E4 r1) [],
                (true || ((E4 r1).nv && nvL [])) = true,
                (!r1) = false,
                (!r1) = false,
                (!r1) = false,
                Fn Tryd.prog 76 [(false, E3 a.Limit), (false, E3 0), (false, E3 9007199254740992)] (E4 r2) [],
                (true || ((E4 r2).nv && nvL [])) = true,
                (!r1) = false,
                (!r1) = false,
                (!r2) = false,
                (!r2) = false,
                (!r2) = false,
                Fn Tryd.prog 76 [(false, E3 a.Most), (false, E3 0), (false, E3 1000)] (E4 r3) [],
                (true || ((E4 r3).nv && nvL [])) = true,
                (!r2) = false,
                (!r2) = false,
                (!r3) = false,
                (!r3) = false,
                (!r3) = false,
                Fn Tryd.prog 76 [(false, E3 a.MostSum), (false, E3 0), (false, E3 9007199254740992)] (E4 r4) [],
                (true || ((E4 r4).nv && nvL [])) = true,
                (!r3) = false,
                (!r3) = false,
                (!r4) = false,
                (!r4) = false,
                (!r4) = false,
                Fn Tryd.prog 62 [(false, E3 a.Posted)] (E4 r5) [],
                (true || ((E4 r5).nv && nvL [])) = true,
                (!r4) = false,
                (!r4) = false,
                (!r5) = false,
                Fn Tryd.prog 77 [(false, E44 a.Holds)] (E4 r6) [],
                (true || ((E4 r6).nv && nvL [])) = true,
                r6 = false,
                r6 = false,
                r6 = false,
                r6 = false,
                false = false,
                false = false,
                false = false,
                false = false,
                false = false,
                false = false,
                false = false,
                false = false,
                false = false,
                false = false,
                false = false,
                false = false,
                false = false,
                false = false]) (by kernel_rfl) (cj (spec_AcctIdOk_ok a.Id r1 h1) (cj rfl (cj (nf h2) (cj (nf h2) (cj (nf h2) (cj (spec_l01In_ok a.Limit 0 9007199254740992 r2 h3) (cj rfl (cj (nf h2) (cj (nf h2) (cj (nf h4) (cj (nf h4) (cj (nf h4) (cj (spec_l01In_ok a.Most 0 1000 r3 h5) (cj rfl (cj (nf h4) (cj (nf h4) (cj (nf h6) (cj (nf h6) (cj (nf h6) (cj (spec_l01In_ok a.MostSum 0 9007199254740992 r4 h7) (cj rfl (cj (nf h6) (cj (nf h6) (cj (nf h8) (cj (nf h8) (cj (nf h8) (cj (spec_l01Money_ok a.Posted r5 h9) (cj rfl (cj (nf h8) (cj (nf h8) (cj (nf h10) (cj (spec_HoldsOk_ok a.Holds r6 h11) (cj rfl (cj h12 (cj h12 (cj h12 (cj h12 (cj rfl (cj rfl (cj rfl (cj rfl (cj rfl (cj rfl (cj rfl (cj rfl (cj rfl (cj rfl (cj rfl (cj rfl (cj rfl (cj1 rfl))))))))))))))))))))))))))))))))))))))))))))))))))))))) (fun h10 =>
             Pn.some (Fn.of [.call [] (E4 r1) [], .bit false, .bit false, .bit false, .call [] (E4 r2) [], .bit false, .bit false, .bit false, .bit false, .bit false, .call [] (E4 r3) [], .bit false, .bit false, .bit false, .bit false, .bit false, .call [] (E4 r4) [], .bit false, .bit false, .bit false, .bit false, .bit false, .call [] (E4 r5) [], .bit false, .bit false, .bit true] (p := [Fn Tryd.prog 75 [(false, E9 a.Id)] (E4 r1) [],
              (true || ((E4 r1).nv && nvL [])) = true,
              (!r1) = false,
              (!r1) = false,
              (!r1) = false,
              Fn Tryd.prog 76 [(false, E3 a.Limit), (false, E3 0), (false, E3 9007199254740992)] (E4 r2) [],
              (true || ((E4 r2).nv && nvL [])) = true,
              (!r1) = false,
              (!r1) = false,
              (!r2) = false,
              (!r2) = false,
              (!r2) = false,
              Fn Tryd.prog 76 [(false, E3 a.Most), (false, E3 0), (false, E3 1000)] (E4 r3) [],
              (true || ((E4 r3).nv && nvL [])) = true,
              (!r2) = false,
              (!r2) = false,
              (!r3) = false,
              (!r3) = false,
              (!r3) = false,
              Fn Tryd.prog 76 [(false, E3 a.MostSum), (false, E3 0), (false, E3 9007199254740992)] (E4 r4) [],
              (true || ((E4 r4).nv && nvL [])) = true,
              (!r3) = false,
              (!r3) = false,
              (!r4) = false,
              (!r4) = false,
              (!r4) = false,
              Fn Tryd.prog 62 [(false, E3 a.Posted)] (E4 r5) [],
              (true || ((E4 r5).nv && nvL [])) = true,
              (!r4) = false,
              (!r4) = false,
              (!r5) = true]) (by kernel_rfl) (cj (spec_AcctIdOk_ok a.Id r1 h1) (cj rfl (cj (nf h2) (cj (nf h2) (cj (nf h2) (cj (spec_l01In_ok a.Limit 0 9007199254740992 r2 h3) (cj rfl (cj (nf h2) (cj (nf h2) (cj (nf h4) (cj (nf h4) (cj (nf h4) (cj (spec_l01In_ok a.Most 0 1000 r3 h5) (cj rfl (cj (nf h4) (cj (nf h4) (cj (nf h6) (cj (nf h6) (cj (nf h6) (cj (spec_l01In_ok a.MostSum 0 9007199254740992 r4 h7) (cj rfl (cj (nf h6) (cj (nf h6) (cj (nf h8) (cj (nf h8) (cj (nf h8) (cj (spec_l01Money_ok a.Posted r5 h9) (cj rfl (cj (nf h8) (cj (nf h8) (cj1 (nt h10)))))))))))))))))))))))))))))))))))) (fun h8 =>
           Pn.some (Fn.of [.call [] (E4 r1) [], .bit false, .bit false, .bit false, .call [] (E4 r2) [], .bit false, .bit false, .bit false, .bit false, .bit false, .call [] (E4 r3) [], .bit false, .bit false, .bit false, .bit false, .bit false, .call [] (E4 r4) [], .bit false, .bit false, .bit true, .bit true, .bit true, .bit true, .bit true, .bit true] (p := [Fn Tryd.prog 75 [(false, E9 a.Id)] (E4 r1) [],
            (true || ((E4 r1).nv && nvL [])) = true,
            (!r1) = false,
            (!r1) = false,
            (!r1) = false,
            Fn Tryd.prog 76 [(false, E3 a.Limit), (false, E3 0), (false, E3 9007199254740992)] (E4 r2) [],
            (true || ((E4 r2).nv && nvL [])) = true,
            (!r1) = false,
            (!r1) = false,
            (!r2) = false,
            (!r2) = false,
            (!r2) = false,
            Fn Tryd.prog 76 [(false, E3 a.Most), (false, E3 0), (false, E3 1000)] (E4 r3) [],
            (true || ((E4 r3).nv && nvL [])) = true,
            (!r2) = false,
            (!r2) = false,
            (!r3) = false,
            (!r3) = false,
            (!r3) = false,
            Fn Tryd.prog 76 [(false, E3 a.MostSum), (false, E3 0), (false, E3 9007199254740992)] (E4 r4) [],
            (true || ((E4 r4).nv && nvL [])) = true,
            (!r3) = false,
            (!r3) = false,
            (!r4) = true,
            (!r4) = true,
            (!r4) = true,
            (!r4) = true,
            (!r4) = true,
            true = true]) (by kernel_rfl) (cj (spec_AcctIdOk_ok a.Id r1 h1) (cj rfl (cj (nf h2) (cj (nf h2) (cj (nf h2) (cj (spec_l01In_ok a.Limit 0 9007199254740992 r2 h3) (cj rfl (cj (nf h2) (cj (nf h2) (cj (nf h4) (cj (nf h4) (cj (nf h4) (cj (spec_l01In_ok a.Most 0 1000 r3 h5) (cj rfl (cj (nf h4) (cj (nf h4) (cj (nf h6) (cj (nf h6) (cj (nf h6) (cj (spec_l01In_ok a.MostSum 0 9007199254740992 r4 h7) (cj rfl (cj (nf h6) (cj (nf h6) (cj (nt h8) (cj (nt h8) (cj (nt h8) (cj (nt h8) (cj (nt h8) (cj1 rfl))))))))))))))))))))))))))))))))) (fun h6 =>
         Pn.some (Fn.of [.call [] (E4 r1) [], .bit false, .bit false, .bit false, .call [] (E4 r2) [], .bit false, .bit false, .bit false, .bit false, .bit false, .call [] (E4 r3) [], .bit false, .bit false, .bit true, .bit true, .bit true, .bit true, .bit true, .bit true, .bit true, .bit true, .bit true, .bit true, .bit true] (p := [Fn Tryd.prog 75 [(false, E9 a.Id)] (E4 r1) [],
          (true || ((E4 r1).nv && nvL [])) = true,
          (!r1) = false,
          (!r1) = false,
          (!r1) = false,
          Fn Tryd.prog 76 [(false, E3 a.Limit), (false, E3 0), (false, E3 9007199254740992)] (E4 r2) [],
          (true || ((E4 r2).nv && nvL [])) = true,
          (!r1) = false,
          (!r1) = false,
          (!r2) = false,
          (!r2) = false,
          (!r2) = false,
          Fn Tryd.prog 76 [(false, E3 a.Most), (false, E3 0), (false, E3 1000)] (E4 r3) [],
          (true || ((E4 r3).nv && nvL [])) = true,
          (!r2) = false,
          (!r2) = false,
          (!r3) = true,
          (!r3) = true,
          (!r3) = true,
          (!r3) = true,
          (!r3) = true,
          true = true,
          true = true,
          true = true,
          true = true,
          true = true,
          true = true]) (by kernel_rfl) (cj (spec_AcctIdOk_ok a.Id r1 h1) (cj rfl (cj (nf h2) (cj (nf h2) (cj (nf h2) (cj (spec_l01In_ok a.Limit 0 9007199254740992 r2 h3) (cj rfl (cj (nf h2) (cj (nf h2) (cj (nf h4) (cj (nf h4) (cj (nf h4) (cj (spec_l01In_ok a.Most 0 1000 r3 h5) (cj rfl (cj (nf h4) (cj (nf h4) (cj (nt h6) (cj (nt h6) (cj (nt h6) (cj (nt h6) (cj (nt h6) (cj rfl (cj rfl (cj rfl (cj rfl (cj rfl (cj1 rfl))))))))))))))))))))))))))))))) (fun h4 =>
       Pn.some (Fn.of [.call [] (E4 r1) [], .bit false, .bit false, .bit false, .call [] (E4 r2) [], .bit false, .bit false, .bit true, .bit true, .bit true, .bit true, .bit true, .bit true, .bit true, .bit true, .bit true, .bit true, .bit true, .bit true, .bit true, .bit true, .bit true, .bit true] (p := [Fn Tryd.prog 75 [(false, E9 a.Id)] (E4 r1) [],
        (true || ((E4 r1).nv && nvL [])) = true,
        (!r1) = false,
        (!r1) = false,
        (!r1) = false,
        Fn Tryd.prog 76 [(false, E3 a.Limit), (false, E3 0), (false, E3 9007199254740992)] (E4 r2) [],
        (true || ((E4 r2).nv && nvL [])) = true,
        (!r1) = false,
        (!r1) = false,
        (!r2) = true,
        (!r2) = true,
        (!r2) = true,
        (!r2) = true,
        (!r2) = true,
        true = true,
        true = true,
        true = true,
        true = true,
        true = true,
        true = true,
        true = true,
        true = true,
        true = true,
        true = true,
        true = true]) (by kernel_rfl) (cj (spec_AcctIdOk_ok a.Id r1 h1) (cj rfl (cj (nf h2) (cj (nf h2) (cj (nf h2) (cj (spec_l01In_ok a.Limit 0 9007199254740992 r2 h3) (cj rfl (cj (nf h2) (cj (nf h2) (cj (nt h4) (cj (nt h4) (cj (nt h4) (cj (nt h4) (cj (nt h4) (cj rfl (cj rfl (cj rfl (cj rfl (cj rfl (cj rfl (cj rfl (cj rfl (cj rfl (cj rfl (cj1 rfl))))))))))))))))))))))))))))) (fun h2 =>
     Pn.some (Fn.of [.call [] (E4 r1) [], .bit true, .bit true, .bit true, .bit true, .bit true, .bit true, .bit true, .bit true, .bit true, .bit true, .bit true, .bit true, .bit true, .bit true, .bit true, .bit true, .bit true, .bit true, .bit true, .bit true, .bit true] (p := [Fn Tryd.prog 75 [(false, E9 a.Id)] (E4 r1) [],
      (true || ((E4 r1).nv && nvL [])) = true,
      (!r1) = true,
      (!r1) = true,
      (!r1) = true,
      (!r1) = true,
      (!r1) = true,
      true = true,
      true = true,
      true = true,
      true = true,
      true = true,
      true = true,
      true = true,
      true = true,
      true = true,
      true = true,
      true = true,
      true = true,
      true = true,
      true = true,
      true = true,
      true = true]) (by kernel_rfl) (cj (spec_AcctIdOk_ok a.Id r1 h1) (cj rfl (cj (nt h2) (cj (nt h2) (cj (nt h2) (cj (nt h2) (cj (nt h2) (cj rfl (cj rfl (cj rfl (cj rfl (cj rfl (cj rfl (cj rfl (cj rfl (cj rfl (cj rfl (cj rfl (cj rfl (cj rfl (cj rfl (cj rfl (cj1 rfl))))))))))))))))))))))))))
def spec_Live (h_ : Hold) (now : Int) : Option (Bool) :=
 some (decide (now < h_.Due))
theorem spec_Live_ok (h_ : Hold) (now : Int) : Pn (fun y => Fn Tryd.prog 83 [(false, E80 h_), (false, E3 now)] (E4 y) []) (spec_Live h_ now) := by
  unfold spec_Live
  exact
   Pn.some (Fn.of [] (p := []) (by kernel_rfl) trivial)
def spec_LiveOnes_l0 (l : List Hold) (now : Int) : List Hold → (List Hold) → Option ((List Hold))
  | [], v1 =>
   some v1
  | x1 :: t1, v1 =>
   (spec_Live x1 now).bind fun r1 =>
   if r1 = true then
    if (capOk (v1.length + 1)) = true then
     spec_LiveOnes_l0 l now t1 (v1 ++ [x1])
    else none
   else
    spec_LiveOnes_l0 l now t1 v1
theorem spec_LiveOnes_l0_ok (l : List Hold) (now : Int) (h2 : capOk l.length = true) : ∀ (t1 p1 : List Hold) (_ : l = p1 ++ t1) (v1 : List Hold), Pn (LpO Tryd.prog (sub (codeOf Tryd.prog 36) [1, 1, 0, 1, 0, 0]) (st 24 [(1, V.sc (.int .i64 now)), (5, V.ow 0), (9, V.sl false 80 (List.map E80 l)), (10, V.sc (.int .i64 (l.length : Int))), (11, V.sc (.int .i64 (p1.length : Int)))] [Blk.row 80 (List.map E80 v1) []] []) (fun (y : (List Hold)) => (X.out 0, st 24 [(5, V.ow 0)] [Blk.row 80 (List.map E80 y) []] []))) (spec_LiveOnes_l0 l now t1 v1)
  | [], p1, h1, v1 => by
    unfold spec_LiveOnes_l0
    exact
     Pn.some (LpO.out [.bit false, .mask [5], .ren [0]] (p := [(decide ((p1.length : Int) < (l.length : Int))) = false]) (by kernel_rfl) (show X.out 0 ≠ X.go from nofun) (cj1 (rng_end h1)))
  | x1 :: t1, p1, h1, v1 => by
    unfold spec_LiveOnes_l0
    exact
     Pn.bind (fun r1 h3 =>
      Pn.ite (fun h4 =>
       Pn.ite (fun h5 =>
        LpO.go [.bit true, .el (E80 x1), .call [] (E4 r1) [], .bit true, .cp [V.agg [V.sc (.string x1.Id), V.sc (.int .i64 x1.Amount), V.sc (.int .i64 x1.Due)]], .nb 3 (.row 80 (List.map E80 (v1 ++ [x1])) []), .wait 4, .mask [1, 5, 9, 10, 11], .ren [3], .nm 11 (V.sc (.int .i64 ((p1 ++ [x1]).length : Int)))] (p := [(decide ((p1.length : Int) < (l.length : Int))) = true,
         (0 : Int) ≤ (p1.length : Int),
         (List.map E80 l)[(p1.length : Int).toNat]? = some (E80 x1),
         Fn Tryd.prog 83 [(false, E80 x1), (false, E3 now)] (E4 r1) [],
         (true || ((E4 r1).nv && nvL [])) = true,
         r1 = true,
         [V.agg [V.sc (.string x1.Id), V.sc (.int .i64 x1.Amount), V.sc (.int .i64 x1.Due)]] = [V.agg [V.sc (.string x1.Id), V.sc (.int .i64 x1.Amount), V.sc (.int .i64 x1.Due)]],
         [V.agg [V.sc (.string x1.Id), V.sc (.int .i64 x1.Amount), V.sc (.int .i64 x1.Due)]].all V.flatE = true,
         (List.map E80 v1).length + [V.agg [V.sc (.string x1.Id), V.sc (.int .i64 x1.Amount), V.sc (.int .i64 x1.Due)]].length ≤ 9223372036854775807,
         ((List.map E80 v1).length + [V.agg [V.sc (.string x1.Id), V.sc (.int .i64 x1.Amount), V.sc (.int .i64 x1.Due)]].length) * 32 ≤ 140737488355328,
         Blk.row 80 ((List.map E80 v1) ++ [V.agg [V.sc (.string x1.Id), V.sc (.int .i64 x1.Amount), V.sc (.int .i64 x1.Due)]]) [] = Blk.row 80 (List.map E80 (v1 ++ [x1])) [],
         V.sc (.int .i64 (i64 ((p1.length : Int) + 1))) = V.sc (.int .i64 ((p1 ++ [x1]).length : Int))]) (by kernel_rfl) (cj (rng_lt h1) (cj (by omega) (cj (rng_get _ h1) (cj (spec_Live_ok x1 now r1 h3) (cj rfl (cj h4 (cj rfl (cj rfl (cj (cap1 (capN (by simp) h5)) (cj (cap2 (capN (by simp) h5) (by decide)) (cj (nb_app E80 v1 [x1]) (cj1 (rng_next h1 h2))))))))))))) (spec_LiveOnes_l0_ok l now h2 t1 (p1 ++ [x1]) (rng_step h1) (v1 ++ [x1]))) (fun h5 =>
        Pn.none)) (fun h4 =>
       LpO.go [.bit true, .el (E80 x1), .call [] (E4 r1) [], .bit false, .wait 2, .mask [1, 5, 9, 10, 11], .ren [0], .nm 11 (V.sc (.int .i64 ((p1 ++ [x1]).length : Int)))] (p := [(decide ((p1.length : Int) < (l.length : Int))) = true,
        (0 : Int) ≤ (p1.length : Int),
        (List.map E80 l)[(p1.length : Int).toNat]? = some (E80 x1),
        Fn Tryd.prog 83 [(false, E80 x1), (false, E3 now)] (E4 r1) [],
        (true || ((E4 r1).nv && nvL [])) = true,
        r1 = false,
        V.sc (.int .i64 (i64 ((p1.length : Int) + 1))) = V.sc (.int .i64 ((p1 ++ [x1]).length : Int))]) (by kernel_rfl) (cj (rng_lt h1) (cj (by omega) (cj (rng_get _ h1) (cj (spec_Live_ok x1 now r1 h3) (cj rfl (cj h4 (cj1 (rng_next h1 h2)))))))) (spec_LiveOnes_l0_ok l now h2 t1 (p1 ++ [x1]) (rng_step h1) v1)))
def spec_LiveOnes (l : List Hold) (now : Int) : Option ((List Hold)) :=
 if (capOk l.length) = true then
  (spec_LiveOnes_l0 l now l []).bind fun r2 =>
  some r2
 else none
theorem spec_LiveOnes_ok (l : List Hold) (now : Int) : Pn (fun y => Fn Tryd.prog 36 [(false, E44 l), (false, E3 now)] (E44 y) []) (spec_LiveOnes l now) := by
  unfold spec_LiveOnes
  exact
   Pn.ite (fun h6 =>
    Pn.bind (fun r2 h7 =>
     Pn.some (Fn.of [.wait 5, .nm 10 (V.sc (.int .i64 (l.length : Int))), .wait 2, .mask [1, 5, 9, 10, 11], .ren [0], .loop (X.out 0) (st 24 [(5, V.ow 0)] [Blk.row 80 (List.map E80 r2) []] [])] (p := [V.sc (.int .i64 ((List.map E80 l).length : Int)) = V.sc (.int .i64 (l.length : Int)),
      Loop Tryd.prog (sub (codeOf Tryd.prog 36) [1, 1, 0, 1, 0, 0]) (st 24 [(1, V.sc (.int .i64 now)), (5, V.ow 0), (9, V.sl false 80 (List.map E80 l)), (10, V.sc (.int .i64 (l.length : Int))), (11, V.sc (.int .i64 0))] [Blk.row 80 ([] : List V) []] []) (X.out 0) (st 24 [(5, V.ow 0)] [Blk.row 80 (List.map E80 r2) []] [])]) (by kernel_rfl) (cj (len_nm _ _) (cj1 (spec_LiveOnes_l0_ok l now h6 l [] rfl [] r2 h7)))))) (fun h6 =>
    Pn.none)
def spec_LiveSum (l : List Hold) (now : Int) : Option (Int) :=
 (spec_LiveOnes l now).bind fun r1 =>
 (spec_Stored r1).bind fun r2 =>
 some r2
theorem spec_LiveSum_ok (l : List Hold) (now : Int) : Pn (fun y => Fn Tryd.prog 82 [(false, E44 l), (false, E3 now)] (E3 y) []) (spec_LiveSum l now) := by
  unfold spec_LiveSum
  exact
   Pn.bind (fun r1 h1 =>
    Pn.bind (fun r2 h2 =>
     Pn.some (Fn.of [.call [] (E44 r1) [], .call [] (E3 r2) []] (p := [Fn Tryd.prog 36 [(false, E44 l), (false, E3 now)] (E44 r1) [],
      (true || ((E44 r1).nv && nvL [])) = true,
      Fn Tryd.prog 81 [(false, E44 r1)] (E3 r2) [],
      (false || ((E3 r2).nv && nvL [])) = true]) (by kernel_rfl) (cj (spec_LiveOnes_ok l now r1 h1) (cj rfl (cj (spec_Stored_ok r1 r2 h2) (cj1 (by simp [V.nv, nvL, nvL_all, nv_E3]))))))))
def spec_Room (a : Acct) (now : Int) : Option (Int) :=
 (spec_AcctOk a).bind fun r1 =>
 if r1 = true then
  (spec_l06Time now).bind fun r2 =>
  if r2 = true then
   (spec_LiveSum a.Holds now).bind fun r3 =>
   some (i64 ((i64 (a.Limit - a.Posted)) - r3))
  else
   some 0
 else
  some 0
theorem spec_Room_ok (a : Acct) (now : Int) : Pn (fun y => Fn Tryd.prog 35 [(false, E48 a), (false, E3 now)] (E3 y) []) (spec_Room a now) := by
  unfold spec_Room
  exact
   Pn.bind (fun r1 h1 =>
    Pn.ite (fun h2 =>
     Pn.bind (fun r2 h3 =>
      Pn.ite (fun h4 =>
       Pn.bind (fun r3 h5 =>
        Pn.some (Fn.of [.call [] (E4 r1) [], .bit false, .bit false, .call [] (E4 r2) [], .bit false, .bit false, .bit false, .draw [], .call [] (E3 r3) []] (p := [Fn Tryd.prog 33 [(false, E48 a)] (E4 r1) [],
         (true || ((E4 r1).nv && nvL [])) = true,
         (!r1) = false,
         (!r1) = false,
         Fn Tryd.prog 34 [(false, E3 now)] (E4 r2) [],
         (true || ((E4 r2).nv && nvL [])) = true,
         (!r1) = false,
         (!r1) = false,
         (!r2) = false,
         Fn Tryd.prog 82 [(false, E44 a.Holds), (false, E3 now)] (E3 r3) [],
         (true || ((E3 r3).nv && nvL [])) = true]) (by kernel_rfl) (cj (spec_AcctOk_ok a r1 h1) (cj rfl (cj (nf h2) (cj (nf h2) (cj (spec_l06Time_ok now r2 h3) (cj rfl (cj (nf h2) (cj (nf h2) (cj (nf h4) (cj (spec_LiveSum_ok a.Holds now r3 h5) (cj1 rfl)))))))))))))) (fun h4 =>
       Pn.some (Fn.of [.call [] (E4 r1) [], .bit false, .bit false, .call [] (E4 r2) [], .bit false, .bit false, .bit true] (p := [Fn Tryd.prog 33 [(false, E48 a)] (E4 r1) [],
        (true || ((E4 r1).nv && nvL [])) = true,
        (!r1) = false,
        (!r1) = false,
        Fn Tryd.prog 34 [(false, E3 now)] (E4 r2) [],
        (true || ((E4 r2).nv && nvL [])) = true,
        (!r1) = false,
        (!r1) = false,
        (!r2) = true]) (by kernel_rfl) (cj (spec_AcctOk_ok a r1 h1) (cj rfl (cj (nf h2) (cj (nf h2) (cj (spec_l06Time_ok now r2 h3) (cj rfl (cj (nf h2) (cj (nf h2) (cj1 (nt h4)))))))))))))) (fun h2 =>
     Pn.some (Fn.of [.call [] (E4 r1) [], .bit true, .bit true, .bit true, .bit true, .bit true] (p := [Fn Tryd.prog 33 [(false, E48 a)] (E4 r1) [],
      (true || ((E4 r1).nv && nvL [])) = true,
      (!r1) = true,
      (!r1) = true,
      (!r1) = true,
      (!r1) = true,
      true = true]) (by kernel_rfl) (cj (spec_AcctOk_ok a r1 h1) (cj rfl (cj (nt h2) (cj (nt h2) (cj (nt h2) (cj (nt h2) (cj1 rfl))))))))))
def spec_NumText_l0 (n : Int) : Nat → Int → ByteArray → Option (Int × ByteArray)
  | 0, _, _ => none
  | fuel + 1, v1, v2 =>
   if (decide (9 < v1)) = true then
    if (decide ((bstr [u8 (i64 (48 + (Int.tmod v1 10)))]).size + v2.size ≤ 9223372036854775807)) = true then
     spec_NumText_l0 n fuel (i64 (Int.tdiv v1 10)) ((bstr [u8 (i64 (48 + (Int.tmod v1 10)))]) ++ v2)
    else none
   else
    some (v1, v2)
theorem spec_NumText_l0_ok (n : Int) : ∀ (fuel : Nat) (v1 : Int) (v2 : ByteArray), Pn (LpO Tryd.prog (sub (codeOf Tryd.prog 23) [1, 1, 1, 0, 0, 0]) (st 26 [(0, V.sc (.int .i64 v1)), (3, V.sc (.string v2))] [] []) (fun (y : Int × ByteArray) => (X.out 0, st 26 [(0, V.sc (.int .i64 y.1)), (3, V.sc (.string y.2))] [] []))) (spec_NumText_l0 n fuel v1 v2)
  | 0, _, _ => Pn.none
  | fuel + 1, v1, v2 => by
    unfold spec_NumText_l0
    exact
     Pn.ite (fun h3 =>
      Pn.ite (fun h4 =>
       LpO.go [.bit true, .ints [u8 (i64 (48 + (Int.tmod v1 10)))], .wait 7, .mask [0, 3], .ren []] (p := [(decide (9 < v1)) = true,
        (10 : Int) ≠ 0,
        [V.sc (.int .u8 (u8 (i64 (48 + (Int.tmod v1 10)))))] = [u8 (i64 (48 + (Int.tmod v1 10)))].map fun n => V.sc (.int .u8 n),
        (bstr [u8 (i64 (48 + (Int.tmod v1 10)))]).size + v2.size ≤ 9223372036854775807,
        (10 : Int) ≠ 0]) (by kernel_rfl) (cj h3 (cj (by decide) (cj rfl (cj (od h4) (cj1 (by decide)))))) (spec_NumText_l0_ok n fuel (i64 (Int.tdiv v1 10)) ((bstr [u8 (i64 (48 + (Int.tmod v1 10)))]) ++ v2))) (fun h4 =>
       Pn.none)) (fun h3 =>
      Pn.some (LpO.out [.bit false, .mask [0, 3], .ren []] (p := [(decide (9 < v1)) = false]) (by kernel_rfl) (show X.out 0 ≠ X.go from nofun) (cj1 h3)))
def spec_NumText (n : Int) : Option (ByteArray) :=
 (spec_l01Money n).bind fun r1 =>
 if r1 = true then
  (spec_NumText_l0 n FUEL n (bs [])).bind fun r2 =>
  if (decide ((bstr [u8 (i64 (48 + r2.1))]).size + r2.2.size ≤ 9223372036854775807)) = true then
   some ((bstr [u8 (i64 (48 + r2.1))]) ++ r2.2)
  else none
 else
  some (bs [])
theorem spec_NumText_ok (n : Int) : Pn (fun y => Fn Tryd.prog 23 [(false, E3 n)] (E9 y) []) (spec_NumText n) := by
  unfold spec_NumText
  exact
   Pn.bind (fun r1 h1 =>
    Pn.ite (fun h2 =>
     Pn.bind (fun r2 h5 =>
      Pn.ite (fun h6 =>
       Pn.some (Fn.of [.call [] (E4 r1) [], .bit false, .wait 1, .mask [0, 3], .ren [], .loop (X.out 0) (st 26 [(0, V.sc (.int .i64 r2.1)), (3, V.sc (.string r2.2))] [] []), .ints [u8 (i64 (48 + r2.1))]] (p := [Fn Tryd.prog 62 [(false, E3 n)] (E4 r1) [],
        (true || ((E4 r1).nv && nvL [])) = true,
        (!r1) = false,
        Loop Tryd.prog (sub (codeOf Tryd.prog 23) [1, 1, 1, 0, 0, 0]) (st 26 [(0, V.sc (.int .i64 n)), (3, V.sc (.string (bs [])))] [] []) (X.out 0) (st 26 [(0, V.sc (.int .i64 r2.1)), (3, V.sc (.string r2.2))] [] []),
        [V.sc (.int .u8 (u8 (i64 (48 + r2.1))))] = [u8 (i64 (48 + r2.1))].map fun n => V.sc (.int .u8 n),
        (bstr [u8 (i64 (48 + r2.1))]).size + r2.2.size ≤ 9223372036854775807]) (by kernel_rfl) (cj (spec_l01Money_ok n r1 h1) (cj rfl (cj (nf h2) (cj (spec_NumText_l0_ok n FUEL n (bs []) r2 h5) (cj rfl (cj1 (od h6))))))))) (fun h6 =>
       Pn.none))) (fun h2 =>
     Pn.some (Fn.of [.call [] (E4 r1) [], .bit true] (p := [Fn Tryd.prog 62 [(false, E3 n)] (E4 r1) [],
      (true || ((E4 r1).nv && nvL [])) = true,
      (!r1) = true]) (by kernel_rfl) (cj (spec_l01Money_ok n r1 h1) (cj rfl (cj1 (nt h2)))))))
def spec_HoldShow (h_ : Hold) : Option (ByteArray) :=
 if (decide (h_.Id.size + (bs [58]).size ≤ 9223372036854775807)) = true then
  (spec_NumText h_.Amount).bind fun r1 =>
  if (decide ((h_.Id ++ (bs [58])).size + r1.size ≤ 9223372036854775807)) = true then
   if (decide (((h_.Id ++ (bs [58])) ++ r1).size + (bs [64]).size ≤ 9223372036854775807)) = true then
    (spec_NumText h_.Due).bind fun r2 =>
    if (decide ((((h_.Id ++ (bs [58])) ++ r1) ++ (bs [64])).size + r2.size ≤ 9223372036854775807)) = true then
     some ((((h_.Id ++ (bs [58])) ++ r1) ++ (bs [64])) ++ r2)
    else none
   else none
  else none
 else none
theorem spec_HoldShow_ok (h_ : Hold) : Pn (fun y => Fn Tryd.prog 37 [(false, E80 h_)] (E9 y) []) (spec_HoldShow h_) := by
  unfold spec_HoldShow
  exact
   Pn.ite (fun h1 =>
    Pn.bind (fun r1 h2 =>
     Pn.ite (fun h3 =>
      Pn.ite (fun h4 =>
       Pn.bind (fun r2 h5 =>
        Pn.ite (fun h6 =>
         Pn.some (Fn.of [.draw [], .call [] (E9 r1) [], .call [] (E9 r2) []] (p := [h_.Id.size + (bs [58]).size ≤ 9223372036854775807,
          Fn Tryd.prog 23 [(false, E3 h_.Amount)] (E9 r1) [],
          (true || ((E9 r1).nv && nvL [])) = true,
          (h_.Id ++ (bs [58])).size + r1.size ≤ 9223372036854775807,
          ((h_.Id ++ (bs [58])) ++ r1).size + (bs [64]).size ≤ 9223372036854775807,
          Fn Tryd.prog 23 [(false, E3 h_.Due)] (E9 r2) [],
          (true || ((E9 r2).nv && nvL [])) = true,
          (((h_.Id ++ (bs [58])) ++ r1) ++ (bs [64])).size + r2.size ≤ 9223372036854775807]) (by kernel_rfl) (cj (od h1) (cj (spec_NumText_ok h_.Amount r1 h2) (cj rfl (cj (od h3) (cj (od h4) (cj (spec_NumText_ok h_.Due r2 h5) (cj rfl (cj1 (od h6))))))))))) (fun h6 =>
         Pn.none))) (fun h4 =>
       Pn.none)) (fun h3 =>
      Pn.none))) (fun h1 =>
    Pn.none)
def spec_AcctShow_l0 (r7 : (List Hold)) : List Hold → ByteArray → Option (ByteArray)
  | [], v1 =>
   some v1
  | x1 :: t1, v1 =>
   if (decide (v1.size + (bs [32]).size ≤ 9223372036854775807)) = true then
    (spec_HoldShow x1).bind fun r8 =>
    if (decide ((v1 ++ (bs [32])).size + r8.size ≤ 9223372036854775807)) = true then
     spec_AcctShow_l0 r7 t1 ((v1 ++ (bs [32])) ++ r8)
    else none
   else none
theorem spec_AcctShow_l0_ok (r7 : (List Hold)) (h17 : capOk r7.length = true) : ∀ (t1 p1 : List Hold) (_ : r7 = p1 ++ t1) (v1 : ByteArray), Pn (LpO Tryd.prog (sub (codeOf Tryd.prog 12) [1, 1, 1, 0, 1, 0, 0]) (st 50 [(5, V.sc (.string v1)), (37, V.ow 0), (38, V.sc (.int .i64 (r7.length : Int))), (39, V.sc (.int .i64 (p1.length : Int)))] [Blk.row 80 (List.map E80 r7) []] []) (fun (y : ByteArray) => (X.out 0, st 50 [(5, V.sc (.string y))] [] []))) (spec_AcctShow_l0 r7 t1 v1)
  | [], p1, h16, v1 => by
    unfold spec_AcctShow_l0
    exact
     Pn.some (LpO.out [.bit false, .mask [5], .ren []] (p := [(decide ((p1.length : Int) < (r7.length : Int))) = false]) (by kernel_rfl) (show X.out 0 ≠ X.go from nofun) (cj1 (rng_end h16)))
  | x1 :: t1, p1, h16, v1 => by
    unfold spec_AcctShow_l0
    exact
     Pn.ite (fun h18 =>
      Pn.bind (fun r8 h19 =>
       Pn.ite (fun h20 =>
        LpO.go [.bit true, .el (E80 x1), .call [] (E9 r8) [], .wait 5, .mask [5, 37, 38, 39], .ren [0], .nm 39 (V.sc (.int .i64 ((p1 ++ [x1]).length : Int)))] (p := [(decide ((p1.length : Int) < (r7.length : Int))) = true,
         (0 : Int) ≤ (p1.length : Int),
         ((p1.length : Int) : Int) < ((List.map E80 r7).length : Int),
         look [] ((p1.length : Int).toNat) = none,
         (List.map E80 r7)[(p1.length : Int).toNat]? = some (E80 x1),
         v1.size + (bs [32]).size ≤ 9223372036854775807,
         Fn Tryd.prog 37 [(false, E80 x1)] (E9 r8) [],
         (true || ((E9 r8).nv && nvL [])) = true,
         (v1 ++ (bs [32])).size + r8.size ≤ 9223372036854775807,
         V.sc (.int .i64 (i64 ((p1.length : Int) + 1))) = V.sc (.int .i64 ((p1 ++ [x1]).length : Int))]) (by kernel_rfl) (cj (rng_lt h16) (cj (by omega) (cj (rng_ltI _ h16) (cj rfl (cj (rng_get _ h16) (cj (od h18) (cj (spec_HoldShow_ok x1 r8 h19) (cj rfl (cj (od h20) (cj1 (rng_next h16 h17))))))))))) (spec_AcctShow_l0_ok r7 h17 t1 (p1 ++ [x1]) (rng_step h16) ((v1 ++ (bs [32])) ++ r8))) (fun h20 =>
        Pn.none))) (fun h18 =>
      Pn.none)
def spec_AcctShow (a : Acct) (now : Int) : Option (ByteArray) :=
 (spec_AcctOk a).bind fun r1 =>
 if r1 = true then
  (spec_l06Time now).bind fun r2 =>
  if r2 = true then
   if (decide (a.Id.size + (bs [32]).size ≤ 9223372036854775807)) = true then
    (spec_Room a now).bind fun r3 =>
    (spec_NumText r3).bind fun r4 =>
    if (decide ((a.Id ++ (bs [32])).size + r4.size ≤ 9223372036854775807)) = true then
     if (decide (((a.Id ++ (bs [32])) ++ r4).size + (bs [47]).size ≤ 9223372036854775807)) = true then
      (spec_NumText a.Limit).bind fun r5 =>
      if (decide ((((a.Id ++ (bs [32])) ++ r4) ++ (bs [47])).size + r5.size ≤ 9223372036854775807)) = true then
       if (decide (((((a.Id ++ (bs [32])) ++ r4) ++ (bs [47])) ++ r5).size + (bs [32]).size ≤ 9223372036854775807)) = true then
        (spec_NumText a.Posted).bind fun r6 =>
        if (decide ((((((a.Id ++ (bs [32])) ++ r4) ++ (bs [47])) ++ r5) ++ (bs [32])).size + r6.size ≤ 9223372036854775807)) = true then
         (spec_LiveOnes a.Holds now).bind fun r7 =>
         if (capOk r7.length) = true then
          (spec_AcctShow_l0 r7 r7 ((((((a.Id ++ (bs [32])) ++ r4) ++ (bs [47])) ++ r5) ++ (bs [32])) ++ r6)).bind fun r9 =>
          some r9
         else none
        else none
       else none
      else none
     else none
    else none
   else none
  else
   some (bs [])
 else
  some (bs [])
theorem spec_AcctShow_ok (a : Acct) (now : Int) : Pn (fun y => Fn Tryd.prog 12 [(false, E48 a), (false, E3 now)] (E9 y) []) (spec_AcctShow a now) := by
  unfold spec_AcctShow
  exact
   Pn.bind (fun r1 h1 =>
    Pn.ite (fun h2 =>
     Pn.bind (fun r2 h3 =>
      Pn.ite (fun h4 =>
       Pn.ite (fun h5 =>
        Pn.bind (fun r3 h6 =>
         Pn.bind (fun r4 h7 =>
          Pn.ite (fun h8 =>
           Pn.ite (fun h9 =>
            Pn.bind (fun r5 h10 =>
             Pn.ite (fun h11 =>
              Pn.ite (fun h12 =>
               Pn.bind (fun r6 h13 =>
                Pn.ite (fun h14 =>
                 Pn.bind (fun r7 h15 =>
                  Pn.ite (fun h21 =>
                   Pn.bind (fun r9 h22 =>
                    Pn.some (Fn.of [.call [] (E4 r1) [], .bit false, .bit false, .call [] (E4 r2) [], .bit false, .bit false, .bit false, .draw [], .call [] (E3 r3) [], .call [] (E9 r4) [], .call [] (E9 r5) [], .call [] (E9 r6) [], .call [] (E44 r7) [], .wait 1, .nm 38 (V.sc (.int .i64 (r7.length : Int))), .wait 2, .mask [5, 37, 38, 39], .ren [1], .loop (X.out 0) (st 50 [(5, V.sc (.string r9))] [] [])] (p := [Fn Tryd.prog 33 [(false, E48 a)] (E4 r1) [],
                     (true || ((E4 r1).nv && nvL [])) = true,
                     (!r1) = false,
                     (!r1) = false,
                     Fn Tryd.prog 34 [(false, E3 now)] (E4 r2) [],
                     (true || ((E4 r2).nv && nvL [])) = true,
                     (!r1) = false,
                     (!r1) = false,
                     (!r2) = false,
                     a.Id.size + (bs [32]).size ≤ 9223372036854775807,
                     Fn Tryd.prog 35 [(false, E48 a), (false, E3 now)] (E3 r3) [],
                     (true || ((E3 r3).nv && nvL [])) = true,
                     Fn Tryd.prog 23 [(false, E3 r3)] (E9 r4) [],
                     (true || ((E9 r4).nv && nvL [])) = true,
                     (a.Id ++ (bs [32])).size + r4.size ≤ 9223372036854775807,
                     ((a.Id ++ (bs [32])) ++ r4).size + (bs [47]).size ≤ 9223372036854775807,
                     Fn Tryd.prog 23 [(false, E3 a.Limit)] (E9 r5) [],
                     (true || ((E9 r5).nv && nvL [])) = true,
                     (((a.Id ++ (bs [32])) ++ r4) ++ (bs [47])).size + r5.size ≤ 9223372036854775807,
                     ((((a.Id ++ (bs [32])) ++ r4) ++ (bs [47])) ++ r5).size + (bs [32]).size ≤ 9223372036854775807,
                     Fn Tryd.prog 23 [(false, E3 a.Posted)] (E9 r6) [],
                     (true || ((E9 r6).nv && nvL [])) = true,
                     (((((a.Id ++ (bs [32])) ++ r4) ++ (bs [47])) ++ r5) ++ (bs [32])).size + r6.size ≤ 9223372036854775807,
                     Fn Tryd.prog 36 [(false, E44 a.Holds), (false, E3 now)] (E44 r7) [],
                     (true || ((E44 r7).nv && nvL [])) = true,
                     V.sc (.int .i64 ((List.map E80 r7).length : Int)) = V.sc (.int .i64 (r7.length : Int)),
                     Loop Tryd.prog (sub (codeOf Tryd.prog 12) [1, 1, 1, 0, 1, 0, 0]) (st 50 [(5, V.sc (.string ((((((a.Id ++ (bs [32])) ++ r4) ++ (bs [47])) ++ r5) ++ (bs [32])) ++ r6))), (37, V.ow 0), (38, V.sc (.int .i64 (r7.length : Int))), (39, V.sc (.int .i64 0))] [Blk.row 80 (List.map E80 r7) []] []) (X.out 0) (st 50 [(5, V.sc (.string r9))] [] [])]) (by kernel_rfl) (cj (spec_AcctOk_ok a r1 h1) (cj rfl (cj (nf h2) (cj (nf h2) (cj (spec_l06Time_ok now r2 h3) (cj rfl (cj (nf h2) (cj (nf h2) (cj (nf h4) (cj (od h5) (cj (spec_Room_ok a now r3 h6) (cj rfl (cj (spec_NumText_ok r3 r4 h7) (cj rfl (cj (od h8) (cj (od h9) (cj (spec_NumText_ok a.Limit r5 h10) (cj rfl (cj (od h11) (cj (od h12) (cj (spec_NumText_ok a.Posted r6 h13) (cj rfl (cj (od h14) (cj (spec_LiveOnes_ok a.Holds now r7 h15) (cj rfl (cj (len_nm _ _) (cj1 (spec_AcctShow_l0_ok r7 h21 r7 [] rfl ((((((a.Id ++ (bs [32])) ++ r4) ++ (bs [47])) ++ r5) ++ (bs [32])) ++ r6) r9 h22))))))))))))))))))))))))))))))) (fun h21 =>
                   Pn.none))) (fun h14 =>
                 Pn.none))) (fun h12 =>
               Pn.none)) (fun h11 =>
              Pn.none))) (fun h9 =>
            Pn.none)) (fun h8 =>
           Pn.none)))) (fun h5 =>
        Pn.none)) (fun h4 =>
       Pn.some (Fn.of [.call [] (E4 r1) [], .bit false, .bit false, .call [] (E4 r2) [], .bit false, .bit false, .bit true] (p := [Fn Tryd.prog 33 [(false, E48 a)] (E4 r1) [],
        (true || ((E4 r1).nv && nvL [])) = true,
        (!r1) = false,
        (!r1) = false,
        Fn Tryd.prog 34 [(false, E3 now)] (E4 r2) [],
        (true || ((E4 r2).nv && nvL [])) = true,
        (!r1) = false,
        (!r1) = false,
        (!r2) = true]) (by kernel_rfl) (cj (spec_AcctOk_ok a r1 h1) (cj rfl (cj (nf h2) (cj (nf h2) (cj (spec_l06Time_ok now r2 h3) (cj rfl (cj (nf h2) (cj (nf h2) (cj1 (nt h4)))))))))))))) (fun h2 =>
     Pn.some (Fn.of [.call [] (E4 r1) [], .bit true, .bit true, .bit true, .bit true, .bit true] (p := [Fn Tryd.prog 33 [(false, E48 a)] (E4 r1) [],
      (true || ((E4 r1).nv && nvL [])) = true,
      (!r1) = true,
      (!r1) = true,
      (!r1) = true,
      (!r1) = true,
      true = true]) (by kernel_rfl) (cj (spec_AcctOk_ok a r1 h1) (cj rfl (cj (nt h2) (cj (nt h2) (cj (nt h2) (cj (nt h2) (cj1 rfl))))))))))
def impl_Digits_l0 (s_ : ByteArray) : Nat → Int → Option (Lo Unit Unit)
  | 0, _ => none
  | fuel + 1, v1 =>
   if (decide (v1 < (s_.size : Int))) = true then
    if (decide (0 ≤ v1)) = true then
     if (decide ((v1 : Int) < (s_.size : Int))) = true then
      if (decide ((sAt s_ v1) < 48)) = true then
       some (.ret ())
      else
       if (decide (57 < (sAt s_ v1))) = true then
        some (.ret ())
       else
        impl_Digits_l0 s_ fuel (i64 (v1 + 1))
     else none
    else none
   else
    some (.out ())
theorem impl_Digits_l0_ok (s_ : ByteArray) : ∀ (fuel : Nat) (v1 : Int), Pn (LpO Tryd.prog (sub (codeOf Tryd.prog 140) [1, 0, 1, 0, 0]) (st 22 [(0, V.sc (.string s_)), (5, V.sc (.int .i64 (s_.size : Int))), (6, V.sc (.int .i64 v1))] [] []) (fun (y : Lo Unit Unit) => Lo.elim y (fun s => (X.out 0, st 22 [(0, V.sc (.string s_))] [] [])) (fun s => (X.ret, st 22 [(2, V.sc (.bool false))] [] [])))) (impl_Digits_l0 s_ fuel v1)
  | 0, _ => Pn.none
  | fuel + 1, v1 => by
    unfold impl_Digits_l0
    exact
     Pn.ite (fun h1 =>
      Pn.ite (fun h2 =>
       Pn.ite (fun h3 =>
        Pn.ite (fun h4 =>
         Pn.some (LpO.out [.bit true, .bit true, .bit true, .bit true, .bit true, .bit true, .bit true, .wait 1, .mask [2], .ren []] (p := [(decide (v1 < (s_.size : Int))) = true,
          (0 : Int) ≤ v1,
          (v1 : Int) < s_.size,
          (decide ((sAt s_ v1) < 48)) = true,
          (decide ((sAt s_ v1) < 48)) = true,
          (decide ((sAt s_ v1) < 48)) = true,
          (decide ((sAt s_ v1) < 48)) = true,
          (decide ((sAt s_ v1) < 48)) = true,
          true = true]) (by kernel_rfl) (show X.ret ≠ X.go from nofun) (cj h1 (cj (od h2) (cj (od h3) (cj h4 (cj h4 (cj h4 (cj h4 (cj h4 (cj1 rfl))))))))))) (fun h4 =>
         Pn.ite (fun h5 =>
          Pn.some (LpO.out [.bit true, .bit false, .bit false, .bit false, .bit false, .bit false, .bit true, .wait 1, .mask [2], .ren []] (p := [(decide (v1 < (s_.size : Int))) = true,
           (0 : Int) ≤ v1,
           (v1 : Int) < s_.size,
           (decide ((sAt s_ v1) < 48)) = false,
           (decide ((sAt s_ v1) < 48)) = false,
           (decide ((sAt s_ v1) < 48)) = false,
           (0 : Int) ≤ v1,
           (v1 : Int) < s_.size,
           (decide ((sAt s_ v1) < 48)) = false,
           (decide ((sAt s_ v1) < 48)) = false,
           (decide (57 < (sAt s_ v1))) = true]) (by kernel_rfl) (show X.ret ≠ X.go from nofun) (cj h1 (cj (od h2) (cj (od h3) (cj h4 (cj h4 (cj h4 (cj (od h2) (cj (od h3) (cj h4 (cj h4 (cj1 h5))))))))))))) (fun h5 =>
          LpO.go [.bit true, .bit false, .bit false, .bit false, .bit false, .bit false, .bit false, .wait 2, .mask [0, 5, 6], .ren []] (p := [(decide (v1 < (s_.size : Int))) = true,
           (0 : Int) ≤ v1,
           (v1 : Int) < s_.size,
           (decide ((sAt s_ v1) < 48)) = false,
           (decide ((sAt s_ v1) < 48)) = false,
           (decide ((sAt s_ v1) < 48)) = false,
           (0 : Int) ≤ v1,
           (v1 : Int) < s_.size,
           (decide ((sAt s_ v1) < 48)) = false,
           (decide ((sAt s_ v1) < 48)) = false,
           (decide (57 < (sAt s_ v1))) = false]) (by kernel_rfl) (cj h1 (cj (od h2) (cj (od h3) (cj h4 (cj h4 (cj h4 (cj (od h2) (cj (od h3) (cj h4 (cj h4 (cj1 h5))))))))))) (impl_Digits_l0_ok s_ fuel (i64 (v1 + 1)))))) (fun h3 =>
        Pn.none)) (fun h2 =>
       Pn.none)) (fun h1 =>
      Pn.some (LpO.out [.bit false, .mask [0], .ren []] (p := [(decide (v1 < (s_.size : Int))) = false]) (by kernel_rfl) (show X.out 0 ≠ X.go from nofun) (cj1 h1)))
def impl_Digits (s_ : ByteArray) : Option (Bool) :=
 (impl_Digits_l0 s_ FUEL 0).bind fun r1 =>
 Lo.elim r1 (fun s1 =>
  some (!(s_ == (bs [])))) (fun s2 =>
  some false)
theorem impl_Digits_ok (s_ : ByteArray) : Pn (fun y => Fn Tryd.prog 140 [(false, E9 s_)] (E4 y) []) (impl_Digits s_) := by
  unfold impl_Digits
  exact
   Pn.bind (fun r1 h6 =>
    Pn.lo (fun s1 h7 =>
     Pn.some (Fn.of [.wait 5, .mask [0, 5, 6], .ren [], .loop (X.out 0) (st 22 [(0, V.sc (.string s_))] [] [])] (p := [Loop Tryd.prog (sub (codeOf Tryd.prog 140) [1, 0, 1, 0, 0]) (st 22 [(0, V.sc (.string s_)), (5, V.sc (.int .i64 (s_.size : Int))), (6, V.sc (.int .i64 0))] [] []) (X.out 0) (st 22 [(0, V.sc (.string s_))] [] [])]) (by kernel_rfl) (cj1 ((impl_Digits_l0_ok s_ FUEL 0 r1 h6).at h7)))) (fun s2 h8 =>
     Pn.some (Fn.of [.wait 5, .mask [0, 5, 6], .ren [], .loop (X.ret) (st 22 [(2, V.sc (.bool false))] [] [])] (p := [Loop Tryd.prog (sub (codeOf Tryd.prog 140) [1, 0, 1, 0, 0]) (st 22 [(0, V.sc (.string s_)), (5, V.sc (.int .i64 (s_.size : Int))), (6, V.sc (.int .i64 0))] [] []) (X.ret) (st 22 [(2, V.sc (.bool false))] [] [])]) (by kernel_rfl) (cj1 ((impl_Digits_l0_ok s_ FUEL 0 r1 h6).at h8)))))
def impl_Luhn_l0 (s_ : ByteArray) : Nat → Int → Bool → Int → Option (Int)
  | 0, _, _, _ => none
  | fuel + 1, v1, v2, v3 =>
   if (decide (0 ≤ v3)) = true then
    if (decide ((v3 : Int) < (s_.size : Int))) = true then
     if v2 = true then
      if (decide (9 < (i64 ((i64 (u8 ((sAt s_ v3) - 48))) * 2)))) = true then
       impl_Luhn_l0 s_ fuel (i64 (v1 + (i64 ((i64 ((i64 (u8 ((sAt s_ v3) - 48))) * 2)) - 9)))) (!v2) (i64 (v3 - 1))
      else
       impl_Luhn_l0 s_ fuel (i64 (v1 + (i64 ((i64 (u8 ((sAt s_ v3) - 48))) * 2)))) (!v2) (i64 (v3 - 1))
     else
      impl_Luhn_l0 s_ fuel (i64 (v1 + (i64 (u8 ((sAt s_ v3) - 48))))) (!v2) (i64 (v3 - 1))
    else none
   else
    some v1
theorem impl_Luhn_l0_ok (s_ : ByteArray) : ∀ (fuel : Nat) (v1 : Int) (v2 : Bool) (v3 : Int), Pn (LpO Tryd.prog (sub (codeOf Tryd.prog 141) [1, 1, 1, 0, 1, 0, 0]) (st 38 [(0, V.sc (.string s_)), (3, V.sc (.int .i64 v1)), (4, V.sc (.bool v2)), (5, V.sc (.int .i64 v3))] [] []) (fun (y : Int) => (X.out 0, st 38 [(3, V.sc (.int .i64 y))] [] []))) (impl_Luhn_l0 s_ fuel v1 v2 v3)
  | 0, _, _, _ => Pn.none
  | fuel + 1, v1, v2, v3 => by
    unfold impl_Luhn_l0
    exact
     Pn.ite (fun h3 =>
      Pn.ite (fun h4 =>
       Pn.ite (fun h5 =>
        Pn.ite (fun h6 =>
         LpO.go [.bit true, .bit true, .bit true, .wait 13, .mask [0, 3, 4, 5], .ren []] (p := [(decide (0 ≤ v3)) = true,
          (0 : Int) ≤ v3,
          (v3 : Int) < s_.size,
          v2 = true,
          (decide (9 < (i64 ((i64 (u8 ((sAt s_ v3) - 48))) * 2)))) = true]) (by kernel_rfl) (cj h3 (cj (od h3) (cj (od h4) (cj h5 (cj1 h6))))) (impl_Luhn_l0_ok s_ fuel (i64 (v1 + (i64 ((i64 ((i64 (u8 ((sAt s_ v3) - 48))) * 2)) - 9)))) (!v2) (i64 (v3 - 1)))) (fun h6 =>
         LpO.go [.bit true, .bit true, .bit false, .wait 10, .mask [0, 3, 4, 5], .ren []] (p := [(decide (0 ≤ v3)) = true,
          (0 : Int) ≤ v3,
          (v3 : Int) < s_.size,
          v2 = true,
          (decide (9 < (i64 ((i64 (u8 ((sAt s_ v3) - 48))) * 2)))) = false]) (by kernel_rfl) (cj h3 (cj (od h3) (cj (od h4) (cj h5 (cj1 h6))))) (impl_Luhn_l0_ok s_ fuel (i64 (v1 + (i64 ((i64 (u8 ((sAt s_ v3) - 48))) * 2)))) (!v2) (i64 (v3 - 1))))) (fun h5 =>
        LpO.go [.bit true, .bit false, .wait 10, .mask [0, 3, 4, 5], .ren []] (p := [(decide (0 ≤ v3)) = true,
         (0 : Int) ≤ v3,
         (v3 : Int) < s_.size,
         v2 = false]) (by kernel_rfl) (cj h3 (cj (od h3) (cj (od h4) (cj1 h5)))) (impl_Luhn_l0_ok s_ fuel (i64 (v1 + (i64 (u8 ((sAt s_ v3) - 48))))) (!v2) (i64 (v3 - 1))))) (fun h4 =>
       Pn.none)) (fun h3 =>
      Pn.some (LpO.out [.bit false, .mask [3], .ren []] (p := [(decide (0 ≤ v3)) = false]) (by kernel_rfl) (show X.out 0 ≠ X.go from nofun) (cj1 h3)))
def impl_Luhn (s_ : ByteArray) : Option (Int) :=
 (impl_Digits s_).bind fun r1 =>
 if r1 = true then
  (impl_Luhn_l0 s_ FUEL 0 true (i64 ((s_.size : Int) - 1))).bind fun r2 =>
  some (Int.tmod (i64 (10 - (Int.tmod r2 10))) 10)
 else
  some (-1)
theorem impl_Luhn_ok (s_ : ByteArray) : Pn (fun y => Fn Tryd.prog 141 [(false, E9 s_)] (E3 y) []) (impl_Luhn s_) := by
  unfold impl_Luhn
  exact
   Pn.bind (fun r1 h1 =>
    Pn.ite (fun h2 =>
     Pn.bind (fun r2 h7 =>
      Pn.some (Fn.of [.call [] (E4 r1) [], .bit false, .wait 6, .mask [0, 3, 4, 5], .ren [], .loop (X.out 0) (st 38 [(3, V.sc (.int .i64 r2))] [] [])] (p := [Fn Tryd.prog 140 [(false, E9 s_)] (E4 r1) [],
       (true || ((E4 r1).nv && nvL [])) = true,
       (!r1) = false,
       Loop Tryd.prog (sub (codeOf Tryd.prog 141) [1, 1, 1, 0, 1, 0, 0]) (st 38 [(0, V.sc (.string s_)), (3, V.sc (.int .i64 0)), (4, V.sc (.bool true)), (5, V.sc (.int .i64 (i64 ((s_.size : Int) - 1))))] [] []) (X.out 0) (st 38 [(3, V.sc (.int .i64 r2))] [] []),
       (10 : Int) ≠ 0,
       (10 : Int) ≠ 0]) (by kernel_rfl) (cj (impl_Digits_ok s_ r1 h1) (cj rfl (cj (nf h2) (cj (impl_Luhn_l0_ok s_ FUEL 0 true (i64 ((s_.size : Int) - 1)) r2 h7) (cj (by decide) (cj1 (by decide)))))))))) (fun h2 =>
     Pn.some (Fn.of [.call [] (E4 r1) [], .bit true] (p := [Fn Tryd.prog 140 [(false, E9 s_)] (E4 r1) [],
      (true || ((E4 r1).nv && nvL [])) = true,
      (!r1) = true]) (by kernel_rfl) (cj (impl_Digits_ok s_ r1 h1) (cj rfl (cj1 (nt h2)))))))
def impl_LuhnOk (s_ : ByteArray) : Option (Bool) :=
 if (decide (1 ≤ (i64 ((s_.size : Int) - 1)))) = true then
  (impl_Digits s_).bind fun r1 =>
  if r1 = true then
   if (decide (0 ≤ (i64 ((s_.size : Int) - 1)))) = true then
    if (decide ((i64 ((s_.size : Int) - 1)) ≤ (s_.size : Int))) = true then
     if (decide (0 ≤ i64 ((s_.size : Int) - 1))) = true then
      if (decide ((i64 ((s_.size : Int) - 1) : Int) < (s_.size : Int))) = true then
       (impl_Luhn (s_.extract 0 (i64 ((s_.size : Int) - 1)).toNat)).bind fun r2 =>
       some (r2 == (i64 (u8 ((sAt s_ (i64 ((s_.size : Int) - 1))) - 48))))
      else none
     else none
    else none
   else none
  else
   some false
 else
  some false
theorem impl_LuhnOk_ok (s_ : ByteArray) : Pn (fun y => Fn Tryd.prog 125 [(false, E9 s_)] (E4 y) []) (impl_LuhnOk s_) := by
  unfold impl_LuhnOk
  exact
   Pn.ite (fun h1 =>
    Pn.bind (fun r1 h2 =>
     Pn.ite (fun h3 =>
      Pn.ite (fun h4 =>
       Pn.ite (fun h5 =>
        Pn.ite (fun h6 =>
         Pn.ite (fun h7 =>
          Pn.bind (fun r2 h8 =>
           Pn.some (Fn.of [.draw [], .bit true, .bit true, .call [] (E4 r1) [], .bit true, .bit true, .bit true, .bit true, .bit true, .bit true, .bit true, .bit true, .bit true, .bit true, .call [] (E3 r2) [], .bit true, .bit true] (p := [(decide (1 ≤ (i64 ((s_.size : Int) - 1)))) = true,
            (decide (1 ≤ (i64 ((s_.size : Int) - 1)))) = true,
            Fn Tryd.prog 140 [(false, E9 s_)] (E4 r1) [],
            (true || ((E4 r1).nv && nvL [])) = true,
            (decide (1 ≤ (i64 ((s_.size : Int) - 1)))) = true,
            r1 = true,
            r1 = true,
            r1 = true,
            (0 : Int) ≤ 0,
            (0 : Int) ≤ (i64 ((s_.size : Int) - 1)),
            ((i64 ((s_.size : Int) - 1)) : Int) ≤ (s_.size : Int),
            r1 = true,
            r1 = true,
            r1 = true,
            (0 : Int) ≤ i64 ((s_.size : Int) - 1),
            (i64 ((s_.size : Int) - 1) : Int) < s_.size,
            r1 = true,
            r1 = true,
            r1 = true,
            Fn Tryd.prog 141 [(false, E9 (s_.extract 0 (i64 ((s_.size : Int) - 1)).toNat))] (E3 r2) [],
            (true || ((E3 r2).nv && nvL [])) = true,
            r1 = true,
            r1 = true]) (by kernel_rfl) (cj h1 (cj h1 (cj (impl_Digits_ok s_ r1 h2) (cj rfl (cj h1 (cj h3 (cj h3 (cj h3 (cj (by decide) (cj (od h4) (cj (od h5) (cj h3 (cj h3 (cj h3 (cj (od h6) (cj (od h7) (cj h3 (cj h3 (cj h3 (cj (impl_Luhn_ok (s_.extract 0 (i64 ((s_.size : Int) - 1)).toNat) r2 h8) (cj rfl (cj h3 (cj1 h3)))))))))))))))))))))))))) (fun h7 =>
          Pn.none)) (fun h6 =>
         Pn.none)) (fun h5 =>
        Pn.none)) (fun h4 =>
       Pn.none)) (fun h3 =>
      Pn.some (Fn.of [.draw [], .bit true, .bit true, .call [] (E4 r1) [], .bit true, .bit false, .bit false, .bit false, .bit false, .bit false, .bit false, .bit false, .bit false, .bit false, .bit false, .bit false] (p := [(decide (1 ≤ (i64 ((s_.size : Int) - 1)))) = true,
       (decide (1 ≤ (i64 ((s_.size : Int) - 1)))) = true,
       Fn Tryd.prog 140 [(false, E9 s_)] (E4 r1) [],
       (true || ((E4 r1).nv && nvL [])) = true,
       (decide (1 ≤ (i64 ((s_.size : Int) - 1)))) = true,
       r1 = false,
       r1 = false,
       r1 = false,
       r1 = false,
       r1 = false,
       r1 = false,
       r1 = false,
       r1 = false,
       r1 = false,
       r1 = false,
       r1 = false]) (by kernel_rfl) (cj h1 (cj h1 (cj (impl_Digits_ok s_ r1 h2) (cj rfl (cj h1 (cj h3 (cj h3 (cj h3 (cj h3 (cj h3 (cj h3 (cj h3 (cj h3 (cj h3 (cj h3 (cj1 h3)))))))))))))))))))) (fun h1 =>
    Pn.some (Fn.of [.draw [], .bit false, .bit false, .bit false, .bit false, .bit false, .bit false, .bit false, .bit false, .bit false, .bit false, .bit false, .bit false, .bit false, .bit false] (p := [(decide (1 ≤ (i64 ((s_.size : Int) - 1)))) = false,
     (decide (1 ≤ (i64 ((s_.size : Int) - 1)))) = false,
     (decide (1 ≤ (i64 ((s_.size : Int) - 1)))) = false,
     false = false,
     false = false,
     false = false,
     false = false,
     false = false,
     false = false,
     false = false,
     false = false,
     false = false,
     false = false,
     false = false]) (by kernel_rfl) (cj h1 (cj h1 (cj h1 (cj rfl (cj rfl (cj rfl (cj rfl (cj rfl (cj rfl (cj rfl (cj rfl (cj rfl (cj rfl (cj1 rfl))))))))))))))))
def impl_AcctIdOk (s_ : ByteArray) : Option (Bool) :=
 if (decide ((s_.size : Int) ≤ 19)) = true then
  (impl_LuhnOk s_).bind fun r1 =>
  some r1
 else
  some false
theorem impl_AcctIdOk_ok (s_ : ByteArray) : Pn (fun y => Fn Tryd.prog 87 [(false, E9 s_)] (E4 y) []) (impl_AcctIdOk s_) := by
  unfold impl_AcctIdOk
  exact
   Pn.ite (fun h1 =>
    Pn.bind (fun r1 h2 =>
     Pn.some (Fn.of [.bit true, .bit true, .call [] (E4 r1) [], .bit true] (p := [(decide ((s_.size : Int) ≤ 19)) = true,
      (decide ((s_.size : Int) ≤ 19)) = true,
      Fn Tryd.prog 125 [(false, E9 s_)] (E4 r1) [],
      (true || ((E4 r1).nv && nvL [])) = true,
      (decide ((s_.size : Int) ≤ 19)) = true]) (by kernel_rfl) (cj h1 (cj h1 (cj (impl_LuhnOk_ok s_ r1 h2) (cj rfl (cj1 h1)))))))) (fun h1 =>
    Pn.some (Fn.of [.bit false, .bit false, .bit false] (p := [(decide ((s_.size : Int) ≤ 19)) = false,
     (decide ((s_.size : Int) ≤ 19)) = false,
     (decide ((s_.size : Int) ≤ 19)) = false]) (by kernel_rfl) (cj h1 (cj h1 (cj1 h1)))))
def impl_within (n : Int) (low : Int) (high : Int) : Option (Bool) :=
 if (decide (low ≤ n)) = true then
  some (decide (n ≤ high))
 else
  some false
theorem impl_within_ok (n : Int) (low : Int) (high : Int) : Pn (fun y => Fn Tryd.prog 88 [(false, E3 n), (false, E3 low), (false, E3 high)] (E4 y) []) (impl_within n low high) := by
  unfold impl_within
  exact
   Pn.ite (fun h1 =>
    Pn.some (Fn.of [.bit true, .bit true, .bit true, .bit true] (p := [(decide (low ≤ n)) = true,
     (decide (low ≤ n)) = true,
     (decide (low ≤ n)) = true,
     (decide (low ≤ n)) = true]) (by kernel_rfl) (cj h1 (cj h1 (cj h1 (cj1 h1)))))) (fun h1 =>
    Pn.some (Fn.of [.bit false, .bit false, .bit false, .bit false] (p := [(decide (low ≤ n)) = false,
     (decide (low ≤ n)) = false,
     (decide (low ≤ n)) = false,
     (decide (low ≤ n)) = false]) (by kernel_rfl) (cj h1 (cj h1 (cj h1 (cj1 h1))))))
def impl_isMoney (n : Int) : Option (Bool) :=
 (impl_within n 0 4611686018427387904).bind fun r1 =>
 some r1
theorem impl_isMoney_ok (n : Int) : Pn (fun y => Fn Tryd.prog 65 [(false, E3 n)] (E4 y) []) (impl_isMoney n) := by
  unfold impl_isMoney
  exact
   Pn.bind (fun r1 h1 =>
    Pn.some (Fn.of [.call [] (E4 r1) []] (p := [Fn Tryd.prog 88 [(false, E3 n), (false, E3 0), (false, E3 4611686018427387904)] (E4 r1) [],
     (true || ((E4 r1).nv && nvL [])) = true]) (by kernel_rfl) (cj (impl_within_ok n 0 4611686018427387904 r1 h1) (cj1 rfl))))
def impl_HoldIdOk_l0 (s_ : ByteArray) : Nat → Int → Option (Lo Unit Unit)
  | 0, _ => none
  | fuel + 1, v1 =>
   if (decide (v1 < (s_.size : Int))) = true then
    if (decide (0 ≤ v1)) = true then
     if (decide ((v1 : Int) < (s_.size : Int))) = true then
      if (decide ((sAt s_ v1) < 48)) = true then
       if (decide ((sAt s_ v1) < 97)) = true then
        some (.ret ())
       else
        if (decide (122 < (sAt s_ v1))) = true then
         some (.ret ())
        else
         impl_HoldIdOk_l0 s_ fuel (i64 (v1 + 1))
      else
       if (decide (57 < (sAt s_ v1))) = true then
        if (decide ((sAt s_ v1) < 97)) = true then
         some (.ret ())
        else
         if (decide (122 < (sAt s_ v1))) = true then
          some (.ret ())
         else
          impl_HoldIdOk_l0 s_ fuel (i64 (v1 + 1))
       else
        impl_HoldIdOk_l0 s_ fuel (i64 (v1 + 1))
     else none
    else none
   else
    some (.out ())
theorem impl_HoldIdOk_l0_ok (s_ : ByteArray) : ∀ (fuel : Nat) (v1 : Int), Pn (LpO Tryd.prog (sub (codeOf Tryd.prog 142) [1, 0, 1, 0, 0]) (st 35 [(0, V.sc (.string s_)), (5, V.sc (.int .i64 (s_.size : Int))), (6, V.sc (.int .i64 v1))] [] []) (fun (y : Lo Unit Unit) => Lo.elim y (fun s => (X.out 0, st 35 [(0, V.sc (.string s_))] [] [])) (fun s => (X.ret, st 35 [(2, V.sc (.bool false))] [] [])))) (impl_HoldIdOk_l0 s_ fuel v1)
  | 0, _ => Pn.none
  | fuel + 1, v1 => by
    unfold impl_HoldIdOk_l0
    exact
     Pn.ite (fun h1 =>
      Pn.ite (fun h2 =>
       Pn.ite (fun h3 =>
        Pn.ite (fun h4 =>
         Pn.ite (fun h5 =>
          Pn.some (LpO.out [.bit true, .bit true, .bit true, .bit true, .bit true, .bit true, .bit true, .bit true, .bit true, .bit true, .bit true, .bit true, .bit true, .bit true, .bit true, .bit true, .bit true, .bit true, .bit true, .wait 1, .mask [2], .ren []] (p := [(decide (v1 < (s_.size : Int))) = true,
           (0 : Int) ≤ v1,
           (v1 : Int) < s_.size,
           (decide ((sAt s_ v1) < 48)) = true,
           (decide ((sAt s_ v1) < 48)) = true,
           (decide ((sAt s_ v1) < 48)) = true,
           (decide ((sAt s_ v1) < 48)) = true,
           (decide ((sAt s_ v1) < 48)) = true,
           true = true,
           true = true,
           true = true,
           (0 : Int) ≤ v1,
           (v1 : Int) < s_.size,
           true = true,
           true = true,
           (decide ((sAt s_ v1) < 97)) = true,
           (decide ((sAt s_ v1) < 97)) = true,
           (decide ((sAt s_ v1) < 97)) = true,
           (decide ((sAt s_ v1) < 97)) = true,
           true = true,
           (decide ((sAt s_ v1) < 97)) = true,
           true = true,
           true = true]) (by kernel_rfl) (show X.ret ≠ X.go from nofun) (cj h1 (cj (od h2) (cj (od h3) (cj h4 (cj h4 (cj h4 (cj h4 (cj h4 (cj rfl (cj rfl (cj rfl (cj (od h2) (cj (od h3) (cj rfl (cj rfl (cj h5 (cj h5 (cj h5 (cj h5 (cj rfl (cj h5 (cj rfl (cj1 rfl))))))))))))))))))))))))) (fun h5 =>
          Pn.ite (fun h6 =>
           Pn.some (LpO.out [.bit true, .bit true, .bit true, .bit true, .bit true, .bit true, .bit true, .bit true, .bit true, .bit true, .bit true, .bit false, .bit false, .bit false, .bit false, .bit true, .bit false, .bit true, .bit true, .wait 1, .mask [2], .ren []] (p := [(decide (v1 < (s_.size : Int))) = true,
            (0 : Int) ≤ v1,
            (v1 : Int) < s_.size,
            (decide ((sAt s_ v1) < 48)) = true,
            (decide ((sAt s_ v1) < 48)) = true,
            (decide ((sAt s_ v1) < 48)) = true,
            (decide ((sAt s_ v1) < 48)) = true,
            (decide ((sAt s_ v1) < 48)) = true,
            true = true,
            true = true,
            true = true,
            (0 : Int) ≤ v1,
            (v1 : Int) < s_.size,
            true = true,
            true = true,
            (decide ((sAt s_ v1) < 97)) = false,
            (decide ((sAt s_ v1) < 97)) = false,
            (decide ((sAt s_ v1) < 97)) = false,
            (0 : Int) ≤ v1,
            (v1 : Int) < s_.size,
            (decide ((sAt s_ v1) < 97)) = false,
            true = true,
            (decide ((sAt s_ v1) < 97)) = false,
            true = true,
            (decide (122 < (sAt s_ v1))) = true]) (by kernel_rfl) (show X.ret ≠ X.go from nofun) (cj h1 (cj (od h2) (cj (od h3) (cj h4 (cj h4 (cj h4 (cj h4 (cj h4 (cj rfl (cj rfl (cj rfl (cj (od h2) (cj (od h3) (cj rfl (cj rfl (cj h5 (cj h5 (cj h5 (cj (od h2) (cj (od h3) (cj h5 (cj rfl (cj h5 (cj rfl (cj1 h6))))))))))))))))))))))))))) (fun h6 =>
           LpO.go [.bit true, .bit true, .bit true, .bit true, .bit true, .bit true, .bit true, .bit true, .bit true, .bit true, .bit true, .bit false, .bit false, .bit false, .bit false, .bit true, .bit false, .bit true, .bit false, .wait 2, .mask [0, 5, 6], .ren []] (p := [(decide (v1 < (s_.size : Int))) = true,
            (0 : Int) ≤ v1,
            (v1 : Int) < s_.size,
            (decide ((sAt s_ v1) < 48)) = true,
            (decide ((sAt s_ v1) < 48)) = true,
            (decide ((sAt s_ v1) < 48)) = true,
            (decide ((sAt s_ v1) < 48)) = true,
            (decide ((sAt s_ v1) < 48)) = true,
            true = true,
            true = true,
            true = true,
            (0 : Int) ≤ v1,
            (v1 : Int) < s_.size,
            true = true,
            true = true,
            (decide ((sAt s_ v1) < 97)) = false,
            (decide ((sAt s_ v1) < 97)) = false,
            (decide ((sAt s_ v1) < 97)) = false,
            (0 : Int) ≤ v1,
            (v1 : Int) < s_.size,
            (decide ((sAt s_ v1) < 97)) = false,
            true = true,
            (decide ((sAt s_ v1) < 97)) = false,
            true = true,
            (decide (122 < (sAt s_ v1))) = false]) (by kernel_rfl) (cj h1 (cj (od h2) (cj (od h3) (cj h4 (cj h4 (cj h4 (cj h4 (cj h4 (cj rfl (cj rfl (cj rfl (cj (od h2) (cj (od h3) (cj rfl (cj rfl (cj h5 (cj h5 (cj h5 (cj (od h2) (cj (od h3) (cj h5 (cj rfl (cj h5 (cj rfl (cj1 h6))))))))))))))))))))))))) (impl_HoldIdOk_l0_ok s_ fuel (i64 (v1 + 1)))))) (fun h4 =>
         Pn.ite (fun h7 =>
          Pn.ite (fun h8 =>
           Pn.some (LpO.out [.bit true, .bit false, .bit false, .bit false, .bit false, .bit false, .bit true, .bit true, .bit true, .bit true, .bit true, .bit true, .bit true, .bit true, .bit true, .bit true, .bit true, .bit true, .bit true, .wait 1, .mask [2], .ren []] (p := [(decide (v1 < (s_.size : Int))) = true,
            (0 : Int) ≤ v1,
            (v1 : Int) < s_.size,
            (decide ((sAt s_ v1) < 48)) = false,
            (decide ((sAt s_ v1) < 48)) = false,
            (decide ((sAt s_ v1) < 48)) = false,
            (0 : Int) ≤ v1,
            (v1 : Int) < s_.size,
            (decide ((sAt s_ v1) < 48)) = false,
            (decide ((sAt s_ v1) < 48)) = false,
            (decide (57 < (sAt s_ v1))) = true,
            (decide (57 < (sAt s_ v1))) = true,
            (decide (57 < (sAt s_ v1))) = true,
            (0 : Int) ≤ v1,
            (v1 : Int) < s_.size,
            (decide (57 < (sAt s_ v1))) = true,
            (decide (57 < (sAt s_ v1))) = true,
            (decide ((sAt s_ v1) < 97)) = true,
            (decide ((sAt s_ v1) < 97)) = true,
            (decide ((sAt s_ v1) < 97)) = true,
            (decide ((sAt s_ v1) < 97)) = true,
            (decide (57 < (sAt s_ v1))) = true,
            (decide ((sAt s_ v1) < 97)) = true,
            (decide (57 < (sAt s_ v1))) = true,
            true = true]) (by kernel_rfl) (show X.ret ≠ X.go from nofun) (cj h1 (cj (od h2) (cj (od h3) (cj h4 (cj h4 (cj h4 (cj (od h2) (cj (od h3) (cj h4 (cj h4 (cj h7 (cj h7 (cj h7 (cj (od h2) (cj (od h3) (cj h7 (cj h7 (cj h8 (cj h8 (cj h8 (cj h8 (cj h7 (cj h8 (cj h7 (cj1 rfl))))))))))))))))))))))))))) (fun h8 =>
           Pn.ite (fun h9 =>
            Pn.some (LpO.out [.bit true, .bit false, .bit false, .bit false, .bit false, .bit false, .bit true, .bit true, .bit true, .bit true, .bit true, .bit false, .bit false, .bit false, .bit false, .bit true, .bit false, .bit true, .bit true, .wait 1, .mask [2], .ren []] (p := [(decide (v1 < (s_.size : Int))) = true,
             (0 : Int) ≤ v1,
             (v1 : Int) < s_.size,
             (decide ((sAt s_ v1) < 48)) = false,
             (decide ((sAt s_ v1) < 48)) = false,
             (decide ((sAt s_ v1) < 48)) = false,
             (0 : Int) ≤ v1,
             (v1 : Int) < s_.size,
             (decide ((sAt s_ v1) < 48)) = false,
             (decide ((sAt s_ v1) < 48)) = false,
             (decide (57 < (sAt s_ v1))) = true,
             (decide (57 < (sAt s_ v1))) = true,
             (decide (57 < (sAt s_ v1))) = true,
             (0 : Int) ≤ v1,
             (v1 : Int) < s_.size,
             (decide (57 < (sAt s_ v1))) = true,
             (decide (57 < (sAt s_ v1))) = true,
             (decide ((sAt s_ v1) < 97)) = false,
             (decide ((sAt s_ v1) < 97)) = false,
             (decide ((sAt s_ v1) < 97)) = false,
             (0 : Int) ≤ v1,
             (v1 : Int) < s_.size,
             (decide ((sAt s_ v1) < 97)) = false,
             (decide (57 < (sAt s_ v1))) = true,
             (decide ((sAt s_ v1) < 97)) = false,
             (decide (57 < (sAt s_ v1))) = true,
             (decide (122 < (sAt s_ v1))) = true]) (by kernel_rfl) (show X.ret ≠ X.go from nofun) (cj h1 (cj (od h2) (cj (od h3) (cj h4 (cj h4 (cj h4 (cj (od h2) (cj (od h3) (cj h4 (cj h4 (cj h7 (cj h7 (cj h7 (cj (od h2) (cj (od h3) (cj h7 (cj h7 (cj h8 (cj h8 (cj h8 (cj (od h2) (cj (od h3) (cj h8 (cj h7 (cj h8 (cj h7 (cj1 h9))))))))))))))))))))))))))))) (fun h9 =>
            LpO.go [.bit true, .bit false, .bit false, .bit false, .bit false, .bit false, .bit true, .bit true, .bit true, .bit true, .bit true, .bit false, .bit false, .bit false, .bit false, .bit true, .bit false, .bit true, .bit false, .wait 2, .mask [0, 5, 6], .ren []] (p := [(decide (v1 < (s_.size : Int))) = true,
             (0 : Int) ≤ v1,
             (v1 : Int) < s_.size,
             (decide ((sAt s_ v1) < 48)) = false,
             (decide ((sAt s_ v1) < 48)) = false,
             (decide ((sAt s_ v1) < 48)) = false,
             (0 : Int) ≤ v1,
             (v1 : Int) < s_.size,
             (decide ((sAt s_ v1) < 48)) = false,
             (decide ((sAt s_ v1) < 48)) = false,
             (decide (57 < (sAt s_ v1))) = true,
             (decide (57 < (sAt s_ v1))) = true,
             (decide (57 < (sAt s_ v1))) = true,
             (0 : Int) ≤ v1,
             (v1 : Int) < s_.size,
             (decide (57 < (sAt s_ v1))) = true,
             (decide (57 < (sAt s_ v1))) = true,
             (decide ((sAt s_ v1) < 97)) = false,
             (decide ((sAt s_ v1) < 97)) = false,
             (decide ((sAt s_ v1) < 97)) = false,
             (0 : Int) ≤ v1,
             (v1 : Int) < s_.size,
             (decide ((sAt s_ v1) < 97)) = false,
             (decide (57 < (sAt s_ v1))) = true,
             (decide ((sAt s_ v1) < 97)) = false,
             (decide (57 < (sAt s_ v1))) = true,
             (decide (122 < (sAt s_ v1))) = false]) (by kernel_rfl) (cj h1 (cj (od h2) (cj (od h3) (cj h4 (cj h4 (cj h4 (cj (od h2) (cj (od h3) (cj h4 (cj h4 (cj h7 (cj h7 (cj h7 (cj (od h2) (cj (od h3) (cj h7 (cj h7 (cj h8 (cj h8 (cj h8 (cj (od h2) (cj (od h3) (cj h8 (cj h7 (cj h8 (cj h7 (cj1 h9))))))))))))))))))))))))))) (impl_HoldIdOk_l0_ok s_ fuel (i64 (v1 + 1)))))) (fun h7 =>
          LpO.go [.bit true, .bit false, .bit false, .bit false, .bit false, .bit false, .bit false, .bit false, .bit false, .bit false, .bit false, .bit false, .bit false, .bit false, .wait 2, .mask [0, 5, 6], .ren []] (p := [(decide (v1 < (s_.size : Int))) = true,
           (0 : Int) ≤ v1,
           (v1 : Int) < s_.size,
           (decide ((sAt s_ v1) < 48)) = false,
           (decide ((sAt s_ v1) < 48)) = false,
           (decide ((sAt s_ v1) < 48)) = false,
           (0 : Int) ≤ v1,
           (v1 : Int) < s_.size,
           (decide ((sAt s_ v1) < 48)) = false,
           (decide ((sAt s_ v1) < 48)) = false,
           (decide (57 < (sAt s_ v1))) = false,
           (decide (57 < (sAt s_ v1))) = false,
           (decide (57 < (sAt s_ v1))) = false,
           (decide (57 < (sAt s_ v1))) = false,
           (decide (57 < (sAt s_ v1))) = false,
           (decide (57 < (sAt s_ v1))) = false,
           (decide (57 < (sAt s_ v1))) = false,
           false = false]) (by kernel_rfl) (cj h1 (cj (od h2) (cj (od h3) (cj h4 (cj h4 (cj h4 (cj (od h2) (cj (od h3) (cj h4 (cj h4 (cj h7 (cj h7 (cj h7 (cj h7 (cj h7 (cj h7 (cj h7 (cj1 rfl)))))))))))))))))) (impl_HoldIdOk_l0_ok s_ fuel (i64 (v1 + 1)))))) (fun h3 =>
        Pn.none)) (fun h2 =>
       Pn.none)) (fun h1 =>
      Pn.some (LpO.out [.bit false, .mask [0], .ren []] (p := [(decide (v1 < (s_.size : Int))) = false]) (by kernel_rfl) (show X.out 0 ≠ X.go from nofun) (cj1 h1)))
def impl_HoldIdOk (s_ : ByteArray) : Option (Bool) :=
 (impl_HoldIdOk_l0 s_ FUEL 0).bind fun r1 =>
 Lo.elim r1 (fun s1 =>
  (impl_within (s_.size : Int) 1 6).bind fun r2 =>
  some r2) (fun s2 =>
  some false)
theorem impl_HoldIdOk_ok (s_ : ByteArray) : Pn (fun y => Fn Tryd.prog 142 [(false, E9 s_)] (E4 y) []) (impl_HoldIdOk s_) := by
  unfold impl_HoldIdOk
  exact
   Pn.bind (fun r1 h10 =>
    Pn.lo (fun s1 h11 =>
     Pn.bind (fun r2 h13 =>
      Pn.some (Fn.of [.wait 5, .mask [0, 5, 6], .ren [], .loop (X.out 0) (st 35 [(0, V.sc (.string s_))] [] []), .call [] (E4 r2) []] (p := [Loop Tryd.prog (sub (codeOf Tryd.prog 142) [1, 0, 1, 0, 0]) (st 35 [(0, V.sc (.string s_)), (5, V.sc (.int .i64 (s_.size : Int))), (6, V.sc (.int .i64 0))] [] []) (X.out 0) (st 35 [(0, V.sc (.string s_))] [] []),
       Fn Tryd.prog 88 [(false, E3 (s_.size : Int)), (false, E3 1), (false, E3 6)] (E4 r2) [],
       (true || ((E4 r2).nv && nvL [])) = true]) (by kernel_rfl) (cj ((impl_HoldIdOk_l0_ok s_ FUEL 0 r1 h10).at h11) (cj (impl_within_ok (s_.size : Int) 1 6 r2 h13) (cj1 rfl)))))) (fun s2 h12 =>
     Pn.some (Fn.of [.wait 5, .mask [0, 5, 6], .ren [], .loop (X.ret) (st 35 [(2, V.sc (.bool false))] [] [])] (p := [Loop Tryd.prog (sub (codeOf Tryd.prog 142) [1, 0, 1, 0, 0]) (st 35 [(0, V.sc (.string s_)), (5, V.sc (.int .i64 (s_.size : Int))), (6, V.sc (.int .i64 0))] [] []) (X.ret) (st 35 [(2, V.sc (.bool false))] [] [])]) (by kernel_rfl) (cj1 ((impl_HoldIdOk_l0_ok s_ FUEL 0 r1 h10).at h12)))))
def impl_isTime (n : Int) : Option (Bool) :=
 (impl_within n 0 1000000000).bind fun r1 =>
 some r1
theorem impl_isTime_ok (n : Int) : Pn (fun y => Fn Tryd.prog 42 [(false, E3 n)] (E4 y) []) (impl_isTime n) := by
  unfold impl_isTime
  exact
   Pn.bind (fun r1 h1 =>
    Pn.some (Fn.of [.call [] (E4 r1) []] (p := [Fn Tryd.prog 88 [(false, E3 n), (false, E3 0), (false, E3 1000000000)] (E4 r1) [],
     (true || ((E4 r1).nv && nvL [])) = true]) (by kernel_rfl) (cj (impl_within_ok n 0 1000000000 r1 h1) (cj1 rfl))))
def impl_HoldOk (h_ : Hold) : Option (Bool) :=
 (impl_HoldIdOk h_.Id).bind fun r1 =>
 if r1 = true then
  (impl_within h_.Amount 1 9007199254740992).bind fun r2 =>
  if r2 = true then
   (impl_isTime h_.Due).bind fun r3 =>
   some r3
  else
   some false
 else
  some false
theorem impl_HoldOk_ok (h_ : Hold) : Pn (fun y => Fn Tryd.prog 126 [(false, E80 h_)] (E4 y) []) (impl_HoldOk h_) := by
  unfold impl_HoldOk
  exact
   Pn.bind (fun r1 h1 =>
    Pn.ite (fun h2 =>
     Pn.bind (fun r2 h3 =>
      Pn.ite (fun h4 =>
       Pn.bind (fun r3 h5 =>
        Pn.some (Fn.of [.call [] (E4 r1) [], .bit true, .bit true, .bit true, .call [] (E4 r2) [], .bit true, .bit true, .bit true, .bit true, .call [] (E4 r3) [], .bit true] (p := [Fn Tryd.prog 142 [(false, E9 h_.Id)] (E4 r1) [],
         (true || ((E4 r1).nv && nvL [])) = true,
         r1 = true,
         r1 = true,
         r1 = true,
         Fn Tryd.prog 88 [(false, E3 h_.Amount), (false, E3 1), (false, E3 9007199254740992)] (E4 r2) [],
         (true || ((E4 r2).nv && nvL [])) = true,
         r1 = true,
         r2 = true,
         r2 = true,
         r2 = true,
         Fn Tryd.prog 42 [(false, E3 h_.Due)] (E4 r3) [],
         (true || ((E4 r3).nv && nvL [])) = true,
         r2 = true]) (by kernel_rfl) (cj (impl_HoldIdOk_ok h_.Id r1 h1) (cj rfl (cj h2 (cj h2 (cj h2 (cj (impl_within_ok h_.Amount 1 9007199254740992 r2 h3) (cj rfl (cj h2 (cj h4 (cj h4 (cj h4 (cj (impl_isTime_ok h_.Due r3 h5) (cj rfl (cj1 h4))))))))))))))))) (fun h4 =>
       Pn.some (Fn.of [.call [] (E4 r1) [], .bit true, .bit true, .bit true, .call [] (E4 r2) [], .bit true, .bit false, .bit false, .bit false, .bit false] (p := [Fn Tryd.prog 142 [(false, E9 h_.Id)] (E4 r1) [],
        (true || ((E4 r1).nv && nvL [])) = true,
        r1 = true,
        r1 = true,
        r1 = true,
        Fn Tryd.prog 88 [(false, E3 h_.Amount), (false, E3 1), (false, E3 9007199254740992)] (E4 r2) [],
        (true || ((E4 r2).nv && nvL [])) = true,
        r1 = true,
        r2 = false,
        r2 = false,
        r2 = false,
        r2 = false]) (by kernel_rfl) (cj (impl_HoldIdOk_ok h_.Id r1 h1) (cj rfl (cj h2 (cj h2 (cj h2 (cj (impl_within_ok h_.Amount 1 9007199254740992 r2 h3) (cj rfl (cj h2 (cj h4 (cj h4 (cj h4 (cj1 h4)))))))))))))))) (fun h2 =>
     Pn.some (Fn.of [.call [] (E4 r1) [], .bit false, .bit false, .bit false, .bit false, .bit false, .bit false, .bit false, .bit false] (p := [Fn Tryd.prog 142 [(false, E9 h_.Id)] (E4 r1) [],
      (true || ((E4 r1).nv && nvL [])) = true,
      r1 = false,
      r1 = false,
      r1 = false,
      r1 = false,
      false = false,
      false = false,
      false = false,
      false = false]) (by kernel_rfl) (cj (impl_HoldIdOk_ok h_.Id r1 h1) (cj rfl (cj h2 (cj h2 (cj h2 (cj h2 (cj rfl (cj rfl (cj rfl (cj1 rfl)))))))))))))
def impl_HoldsOk_l0 (l : List Hold) : List Hold → List Hold → Option (Lo Unit Unit)
  | [], p1 =>
   some (.out ())
  | x1 :: t1, p1 =>
   (impl_HoldOk x1).bind fun r1 =>
   if r1 = true then
    if (decide (0 < (p1.length : Int))) = true then
     if (decide (0 ≤ (i64 ((p1.length : Int) - 1)))) = true then
      (l[(i64 ((p1.length : Int) - 1)).toNat]?).bind fun x2 =>
      if (Op.bytesLess x1.Id.toList x2.Id.toList || (x1.Id == x2.Id)) = true then
       some (.ret ())
      else
       impl_HoldsOk_l0 l t1 (p1 ++ [x1])
     else none
    else
     impl_HoldsOk_l0 l t1 (p1 ++ [x1])
   else
    some (.ret ())
theorem impl_HoldsOk_l0_ok (l : List Hold) (h2 : capOk l.length = true) : ∀ (t1 p1 : List Hold) (_ : l = p1 ++ t1) , Pn (LpO Tryd.prog (sub (codeOf Tryd.prog 89) [1, 0, 1, 0, 0]) (st 34 [(0, V.sl false 80 (List.map E80 l)), (5, V.sl false 80 (List.map E80 l)), (6, V.sc (.int .i64 (l.length : Int))), (7, V.sc (.int .i64 (p1.length : Int)))] [] []) (fun (y : Lo Unit Unit) => Lo.elim y (fun s => (X.out 0, st 34 [(0, V.sl false 80 (List.map E80 l))] [] [])) (fun s => (X.ret, st 34 [(2, V.sc (.bool false))] [] [])))) (impl_HoldsOk_l0 l t1 p1)
  | [], p1, h1 => by
    unfold impl_HoldsOk_l0
    exact
     Pn.some (LpO.out [.bit false, .mask [0], .ren []] (p := [(decide ((p1.length : Int) < (l.length : Int))) = false]) (by kernel_rfl) (show X.out 0 ≠ X.go from nofun) (cj1 (rng_end h1)))
  | x1 :: t1, p1, h1 => by
    unfold impl_HoldsOk_l0
    exact
     Pn.bind (fun r1 h3 =>
      Pn.ite (fun h4 =>
       Pn.ite (fun h5 =>
        Pn.ite (fun h6 =>
         Pn.bind (fun x2 h7 =>
          Pn.ite (fun h8 =>
           Pn.some (LpO.out [.bit true, .el (E80 x1), .draw [], .call [] (E4 r1) [], .bit false, .bit false, .bit false, .bit true, .bit true, .bit true, .bit true, .bit true, .bit true, .el (E80 x2), .bit true, .bit true, .bit true, .bit false, .bit true, .bit false, .bit true, .wait 1, .mask [2], .ren []] (p := [(decide ((p1.length : Int) < (l.length : Int))) = true,
            (0 : Int) ≤ (p1.length : Int),
            (List.map E80 l)[(p1.length : Int).toNat]? = some (E80 x1),
            Fn Tryd.prog 126 [(false, E80 x1)] (E4 r1) [],
            (true || ((E4 r1).nv && nvL [])) = true,
            (!r1) = false,
            (!r1) = false,
            (!r1) = false,
            (decide (0 < (p1.length : Int))) = true,
            (decide (0 < (p1.length : Int))) = true,
            (decide (0 < (p1.length : Int))) = true,
            (decide (0 < (p1.length : Int))) = true,
            (decide (0 < (p1.length : Int))) = true,
            (decide (0 < (p1.length : Int))) = true,
            (0 : Int) ≤ (i64 ((p1.length : Int) - 1)),
            (List.map E80 l)[(i64 ((p1.length : Int) - 1)).toNat]? = some (E80 x2),
            (decide (0 < (p1.length : Int))) = true,
            (decide (0 < (p1.length : Int))) = true,
            (decide (0 < (p1.length : Int))) = true,
            (!r1) = false,
            (decide (0 < (p1.length : Int))) = true,
            (!r1) = false,
            (Op.bytesLess x1.Id.toList x2.Id.toList || (x1.Id == x2.Id)) = true]) (by kernel_rfl) (show X.ret ≠ X.go from nofun) (cj (rng_lt h1) (cj (by omega) (cj (rng_get _ h1) (cj (impl_HoldOk_ok x1 r1 h3) (cj rfl (cj (nf h4) (cj (nf h4) (cj (nf h4) (cj h5 (cj h5 (cj h5 (cj h5 (cj h5 (cj h5 (cj (od h6) (cj (map_get h7) (cj h5 (cj h5 (cj h5 (cj (nf h4) (cj h5 (cj (nf h4) (cj1 h8))))))))))))))))))))))))) (fun h8 =>
           LpO.go [.bit true, .el (E80 x1), .draw [], .call [] (E4 r1) [], .bit false, .bit false, .bit false, .bit true, .bit true, .bit true, .bit true, .bit true, .bit true, .el (E80 x2), .bit true, .bit true, .bit true, .bit false, .bit true, .bit false, .bit false, .wait 2, .mask [0, 5, 6, 7], .ren [], .nm 7 (V.sc (.int .i64 ((p1 ++ [x1]).length : Int)))] (p := [(decide ((p1.length : Int) < (l.length : Int))) = true,
            (0 : Int) ≤ (p1.length : Int),
            (List.map E80 l)[(p1.length : Int).toNat]? = some (E80 x1),
            Fn Tryd.prog 126 [(false, E80 x1)] (E4 r1) [],
            (true || ((E4 r1).nv && nvL [])) = true,
            (!r1) = false,
            (!r1) = false,
            (!r1) = false,
            (decide (0 < (p1.length : Int))) = true,
            (decide (0 < (p1.length : Int))) = true,
            (decide (0 < (p1.length : Int))) = true,
            (decide (0 < (p1.length : Int))) = true,
            (decide (0 < (p1.length : Int))) = true,
            (decide (0 < (p1.length : Int))) = true,
            (0 : Int) ≤ (i64 ((p1.length : Int) - 1)),
            (List.map E80 l)[(i64 ((p1.length : Int) - 1)).toNat]? = some (E80 x2),
            (decide (0 < (p1.length : Int))) = true,
            (decide (0 < (p1.length : Int))) = true,
            (decide (0 < (p1.length : Int))) = true,
            (!r1) = false,
            (decide (0 < (p1.length : Int))) = true,
            (!r1) = false,
            (Op.bytesLess x1.Id.toList x2.Id.toList || (x1.Id == x2.Id)) = false,
            V.sc (.int .i64 (i64 ((p1.length : Int) + 1))) = V.sc (.int .i64 ((p1 ++ [x1]).length : Int))]) (by kernel_rfl) (cj (rng_lt h1) (cj (by omega) (cj (rng_get _ h1) (cj (impl_HoldOk_ok x1 r1 h3) (cj rfl (cj (nf h4) (cj (nf h4) (cj (nf h4) (cj h5 (cj h5 (cj h5 (cj h5 (cj h5 (cj h5 (cj (od h6) (cj (map_get h7) (cj h5 (cj h5 (cj h5 (cj (nf h4) (cj h5 (cj (nf h4) (cj h8 (cj1 (rng_next h1 h2))))))))))))))))))))))))) (impl_HoldsOk_l0_ok l h2 t1 (p1 ++ [x1]) (rng_step h1))))) (fun h6 =>
         Pn.none)) (fun h5 =>
        LpO.go [.bit true, .el (E80 x1), .draw [], .call [] (E4 r1) [], .bit false, .bit false, .bit false, .bit false, .bit false, .bit false, .bit false, .bit false, .bit false, .bit false, .bit false, .bit false, .bit false, .bit false, .bit false, .bit false, .wait 2, .mask [0, 5, 6, 7], .ren [], .nm 7 (V.sc (.int .i64 ((p1 ++ [x1]).length : Int)))] (p := [(decide ((p1.length : Int) < (l.length : Int))) = true,
         (0 : Int) ≤ (p1.length : Int),
         (List.map E80 l)[(p1.length : Int).toNat]? = some (E80 x1),
         Fn Tryd.prog 126 [(false, E80 x1)] (E4 r1) [],
         (true || ((E4 r1).nv && nvL [])) = true,
         (!r1) = false,
         (!r1) = false,
         (!r1) = false,
         (decide (0 < (p1.length : Int))) = false,
         (decide (0 < (p1.length : Int))) = false,
         (decide (0 < (p1.length : Int))) = false,
         (decide (0 < (p1.length : Int))) = false,
         (decide (0 < (p1.length : Int))) = false,
         (decide (0 < (p1.length : Int))) = false,
         (decide (0 < (p1.length : Int))) = false,
         (decide (0 < (p1.length : Int))) = false,
         (decide (0 < (p1.length : Int))) = false,
         (!r1) = false,
         (decide (0 < (p1.length : Int))) = false,
         (!r1) = false,
         false = false,
         V.sc (.int .i64 (i64 ((p1.length : Int) + 1))) = V.sc (.int .i64 ((p1 ++ [x1]).length : Int))]) (by kernel_rfl) (cj (rng_lt h1) (cj (by omega) (cj (rng_get _ h1) (cj (impl_HoldOk_ok x1 r1 h3) (cj rfl (cj (nf h4) (cj (nf h4) (cj (nf h4) (cj h5 (cj h5 (cj h5 (cj h5 (cj h5 (cj h5 (cj h5 (cj h5 (cj h5 (cj (nf h4) (cj h5 (cj (nf h4) (cj rfl (cj1 (rng_next h1 h2))))))))))))))))))))))) (impl_HoldsOk_l0_ok l h2 t1 (p1 ++ [x1]) (rng_step h1)))) (fun h4 =>
       Pn.some (LpO.out [.bit true, .el (E80 x1), .draw [], .call [] (E4 r1) [], .bit true, .bit true, .bit true, .bit true, .bit true, .bit true, .wait 1, .mask [2], .ren []] (p := [(decide ((p1.length : Int) < (l.length : Int))) = true,
        (0 : Int) ≤ (p1.length : Int),
        (List.map E80 l)[(p1.length : Int).toNat]? = some (E80 x1),
        Fn Tryd.prog 126 [(false, E80 x1)] (E4 r1) [],
        (true || ((E4 r1).nv && nvL [])) = true,
        (!r1) = true,
        (!r1) = true,
        (!r1) = true,
        (!r1) = true,
        (!r1) = true,
        true = true]) (by kernel_rfl) (show X.ret ≠ X.go from nofun) (cj (rng_lt h1) (cj (by omega) (cj (rng_get _ h1) (cj (impl_HoldOk_ok x1 r1 h3) (cj rfl (cj (nt h4) (cj (nt h4) (cj (nt h4) (cj (nt h4) (cj (nt h4) (cj1 rfl))))))))))))))
def impl_HoldsOk (l : List Hold) : Option (Bool) :=
 if (capOk l.length) = true then
  (impl_HoldsOk_l0 l l []).bind fun r2 =>
  Lo.elim r2 (fun s1 =>
   some (decide ((l.length : Int) ≤ 4))) (fun s2 =>
   some false)
 else none
theorem impl_HoldsOk_ok (l : List Hold) : Pn (fun y => Fn Tryd.prog 89 [(false, E44 l)] (E4 y) []) (impl_HoldsOk l) := by
  unfold impl_HoldsOk
  exact
   Pn.ite (fun h9 =>
    Pn.bind (fun r2 h10 =>
     Pn.lo (fun s1 h11 =>
      Pn.some (Fn.of [.wait 3, .nm 6 (V.sc (.int .i64 (l.length : Int))), .wait 2, .mask [0, 5, 6, 7], .ren [], .loop (X.out 0) (st 34 [(0, V.sl false 80 (List.map E80 l))] [] []), .wait 2, .nm 32 (V.sc (.int .i64 (l.length : Int)))] (p := [V.sc (.int .i64 ((List.map E80 l).length : Int)) = V.sc (.int .i64 (l.length : Int)),
       Loop Tryd.prog (sub (codeOf Tryd.prog 89) [1, 0, 1, 0, 0]) (st 34 [(0, V.sl false 80 (List.map E80 l)), (5, V.sl false 80 (List.map E80 l)), (6, V.sc (.int .i64 (l.length : Int))), (7, V.sc (.int .i64 0))] [] []) (X.out 0) (st 34 [(0, V.sl false 80 (List.map E80 l))] [] []),
       V.sc (.int .i64 ((List.map E80 l).length : Int)) = V.sc (.int .i64 (l.length : Int))]) (by kernel_rfl) (cj (len_nm _ _) (cj ((impl_HoldsOk_l0_ok l h9 l [] rfl r2 h10).at h11) (cj1 (len_nm _ _)))))) (fun s2 h12 =>
      Pn.some (Fn.of [.wait 3, .nm 6 (V.sc (.int .i64 (l.length : Int))), .wait 2, .mask [0, 5, 6, 7], .ren [], .loop (X.ret) (st 34 [(2, V.sc (.bool false))] [] [])] (p := [V.sc (.int .i64 ((List.map E80 l).length : Int)) = V.sc (.int .i64 (l.length : Int)),
       Loop Tryd.prog (sub (codeOf Tryd.prog 89) [1, 0, 1, 0, 0]) (st 34 [(0, V.sl false 80 (List.map E80 l)), (5, V.sl false 80 (List.map E80 l)), (6, V.sc (.int .i64 (l.length : Int))), (7, V.sc (.int .i64 0))] [] []) (X.ret) (st 34 [(2, V.sc (.bool false))] [] [])]) (by kernel_rfl) (cj (len_nm _ _) (cj1 ((impl_HoldsOk_l0_ok l h9 l [] rfl r2 h10).at h12))))))) (fun h9 =>
    Pn.none)
def slices_Grow_int_nil (n : Int) : Option ((List Int)) :=
 if (decide (n < 0)) = true then none else
 if (decide (0 < (i64 (n - 0)))) = true then
  if (capOk (i64 (n - 0)).toNat) = true then
   some []
  else none
 else
  some []
theorem slices_Grow_int_nil_ok (n : Int) : Pn (fun y => Fn Tryd.prog 143 [(false, V.nl 3), (false, E3 n)] (E36 y) []) (slices_Grow_int_nil n) := by
  unfold slices_Grow_int_nil
  exact
   Pn.ite (fun h1 =>
    Pn.none) (fun h1 =>
    Pn.ite (fun h2 =>
     Pn.ite (fun h3 =>
      Pn.some (Fn.of [.bit false, .bit true, .wait 5, .nb 0 (.row 3 (List.map E3 (List.replicate ((i64 (n - 0)).toNat) 0)) [])] (p := [(decide (n < 0)) = false,
       (decide (0 < (i64 (n - 0)))) = true,
       (0 : Int) ≤ 0,
       (0 : Int) ≤ 0,
       (0 : Int) ≤ 0,
       (0 : Int) < (i64 (n - 0)),
       ((i64 (n - 0)) : Int) ≤ 9223372036854775807,
       (i64 (n - 0)).toNat * 8 ≤ 140737488355328,
       Blk.row 3 (List.replicate ((i64 (n - 0)).toNat) (V.sc (.int .i64 0))) [] = Blk.row 3 (List.map E3 (List.replicate ((i64 (n - 0)).toNat) 0)) [],
       (0 : Int) ≤ 0,
       (0 : Int) ≤ 0,
       (0 : Int) ≤ ((List.map E3 (List.replicate ((i64 (n - 0)).toNat) 0)).length : Int)]) (by kernel_rfl) (cj h1 (cj h2 (cj (by decide) (cj (by decide) (cj (by decide) (cj (od h2) (cj (cap5 h2 h3) (cj (cap2 h3 (by decide)) (cj (nb_rep E3 _ 0) (cj (by decide) (cj (by decide) (cj1 (by rw [List.length_map]; exact (by omega)))))))))))))))) (fun h3 =>
      Pn.none)) (fun h2 =>
     Pn.some (Fn.of [.bit false, .bit false] (p := [(decide (n < 0)) = false,
      (decide (0 < (i64 (n - 0)))) = false]) (by kernel_rfl) (cj h1 (cj1 h2)))))
def slices_Concat_int_l0 (slices : List (List Int)) : List (List Int) → Int → Option (Int)
  | [], v1 =>
   some v1
  | x1 :: t1, v1 =>
   if (decide ((i64 (v1 + (x1.length : Int))) < 0)) = true then none else
   slices_Concat_int_l0 slices t1 (i64 (v1 + (x1.length : Int)))
theorem slices_Concat_int_l0_ok (slices : List (List Int)) (h2 : capOk slices.length = true) : ∀ (t1 p1 : List (List Int)) (_ : slices = p1 ++ t1) (v1 : Int), Pn (LpO Tryd.prog (sub (codeOf Tryd.prog 127) [1, 1, 0, 1, 0, 0]) (st 36 [(0, V.sl false 36 (List.map E36 slices)), (3, V.sc (.int .i64 v1)), (9, V.sl false 36 (List.map E36 slices)), (10, V.sc (.int .i64 (slices.length : Int))), (11, V.sc (.int .i64 (p1.length : Int)))] [] []) (fun (y : Int) => (X.out 0, st 36 [(0, V.sl false 36 (List.map E36 slices)), (3, V.sc (.int .i64 y))] [] []))) (slices_Concat_int_l0 slices t1 v1)
  | [], p1, h1, v1 => by
    unfold slices_Concat_int_l0
    exact
     Pn.some (LpO.out [.bit false, .mask [0, 3], .ren []] (p := [(decide ((p1.length : Int) < (slices.length : Int))) = false]) (by kernel_rfl) (show X.out 0 ≠ X.go from nofun) (cj1 (rng_end h1)))
  | x1 :: t1, p1, h1, v1 => by
    unfold slices_Concat_int_l0
    exact
     Pn.ite (fun h3 =>
      Pn.none) (fun h3 =>
      LpO.go [.bit true, .el (E36 x1), .wait 5, .nm 17 (V.sc (.int .i64 (x1.length : Int))), .bit false, .wait 2, .mask [0, 3, 9, 10, 11], .ren [], .nm 11 (V.sc (.int .i64 ((p1 ++ [x1]).length : Int)))] (p := [(decide ((p1.length : Int) < (slices.length : Int))) = true,
       (0 : Int) ≤ (p1.length : Int),
       (List.map E36 slices)[(p1.length : Int).toNat]? = some (E36 x1),
       V.sc (.int .i64 ((List.map E3 x1).length : Int)) = V.sc (.int .i64 (x1.length : Int)),
       (decide ((i64 (v1 + (x1.length : Int))) < 0)) = false,
       V.sc (.int .i64 (i64 ((p1.length : Int) + 1))) = V.sc (.int .i64 ((p1 ++ [x1]).length : Int))]) (by kernel_rfl) (cj (rng_lt h1) (cj (by omega) (cj (rng_get _ h1) (cj (len_nm _ _) (cj h3 (cj1 (rng_next h1 h2))))))) (slices_Concat_int_l0_ok slices h2 t1 (p1 ++ [x1]) (rng_step h1) (i64 (v1 + (x1.length : Int)))))
def slices_Concat_int_l1 (slices : List (List Int)) : List (List Int) → (List Int) → Option ((List Int))
  | [], v2 =>
   some v2
  | x2 :: t2, v2 =>
   if (capOk (v2.length + x2.length)) = true then
    slices_Concat_int_l1 slices t2 (v2 ++ x2)
   else none
theorem slices_Concat_int_l1_ok (slices : List (List Int)) (h8 : capOk slices.length = true) : ∀ (t2 p2 : List (List Int)) (_ : slices = p2 ++ t2) (v2 : List Int), Pn (LpO Tryd.prog (sub (codeOf Tryd.prog 127) [1, 1, 1, 1, 0, 1, 0, 0]) (st 36 [(6, V.ow 0), (25, V.sl false 36 (List.map E36 slices)), (26, V.sc (.int .i64 (slices.length : Int))), (27, V.sc (.int .i64 (p2.length : Int)))] [Blk.row 3 (List.map E3 v2) []] []) (fun (y : (List Int)) => (X.out 2, st 36 [(6, V.ow 0)] [Blk.row 3 (List.map E3 y) []] []))) (slices_Concat_int_l1 slices t2 v2)
  | [], p2, h7, v2 => by
    unfold slices_Concat_int_l1
    exact
     Pn.some (LpO.out [.bit false, .mask [6], .ren [0]] (p := [(decide ((p2.length : Int) < (slices.length : Int))) = false]) (by kernel_rfl) (show X.out 2 ≠ X.go from nofun) (cj1 (rng_end h7)))
  | x2 :: t2, p2, h7, v2 => by
    unfold slices_Concat_int_l1
    exact
     Pn.ite (fun h9 =>
      LpO.go [.bit true, .el (E36 x2), .cp (List.map E3 x2), .nb 1 (.row 3 (List.map E3 (v2 ++ x2)) []), .wait 4, .mask [6, 25, 26, 27], .ren [1], .nm 27 (V.sc (.int .i64 ((p2 ++ [x2]).length : Int)))] (p := [(decide ((p2.length : Int) < (slices.length : Int))) = true,
       (0 : Int) ≤ (p2.length : Int),
       (List.map E36 slices)[(p2.length : Int).toNat]? = some (E36 x2),
       (List.map E3 x2).map V.vw = (List.map E3 x2),
       (List.map E3 v2).length + (List.map E3 x2).length ≤ 9223372036854775807,
       ((List.map E3 v2).length + (List.map E3 x2).length) * 8 ≤ 140737488355328,
       Blk.row 3 ((List.map E3 v2) ++ (List.map E3 x2)) [] = Blk.row 3 (List.map E3 (v2 ++ x2)) [],
       V.sc (.int .i64 (i64 ((p2.length : Int) + 1))) = V.sc (.int .i64 ((p2 ++ [x2]).length : Int))]) (by kernel_rfl) (cj (rng_lt h7) (cj (by omega) (cj (rng_get _ h7) (cj (vw_id (fun _ => rfl) _) (cj (cap1 (capN (by simp) h9)) (cj (cap2 (capN (by simp) h9) (by decide)) (cj (nb_app E3 v2 x2) (cj1 (rng_next h7 h8))))))))) (slices_Concat_int_l1_ok slices h8 t2 (p2 ++ [x2]) (rng_step h7) (v2 ++ x2))) (fun h9 =>
      Pn.none)
def slices_Concat_int (slices : List (List Int)) : Option ((List Int)) :=
 if (capOk slices.length) = true then
  (slices_Concat_int_l0 slices slices 0).bind fun r1 =>
  (slices_Grow_int_nil r1).bind fun r2 =>
  (slices_Concat_int_l1 slices slices r2).bind fun r3 =>
  some r3
 else none
theorem slices_Concat_int_ok (slices : List (List Int)) : Pn (fun y => Fn Tryd.prog 127 [(false, E167 slices)] (E36 y) []) (slices_Concat_int slices) := by
  unfold slices_Concat_int
  exact
   Pn.ite (fun h4 =>
    Pn.bind (fun r1 h5 =>
     Pn.bind (fun r2 h6 =>
      Pn.bind (fun r3 h10 =>
       Pn.some (Fn.of [.wait 4, .nm 10 (V.sc (.int .i64 (slices.length : Int))), .wait 2, .mask [0, 3, 9, 10, 11], .ren [], .loop (X.out 0) (st 36 [(0, V.sl false 36 (List.map E36 slices)), (3, V.sc (.int .i64 r1))] [] []), .call [] (E36 r2) [], .wait 3, .nm 26 (V.sc (.int .i64 (slices.length : Int))), .wait 2, .mask [6, 25, 26, 27], .ren [0], .loop (X.out 2) (st 36 [(6, V.ow 0)] [Blk.row 3 (List.map E3 r3) []] [])] (p := [V.sc (.int .i64 ((List.map E36 slices).length : Int)) = V.sc (.int .i64 (slices.length : Int)),
        Loop Tryd.prog (sub (codeOf Tryd.prog 127) [1, 1, 0, 1, 0, 0]) (st 36 [(0, V.sl false 36 (List.map E36 slices)), (3, V.sc (.int .i64 0)), (9, V.sl false 36 (List.map E36 slices)), (10, V.sc (.int .i64 (slices.length : Int))), (11, V.sc (.int .i64 0))] [] []) (X.out 0) (st 36 [(0, V.sl false 36 (List.map E36 slices)), (3, V.sc (.int .i64 r1))] [] []),
        Fn Tryd.prog 143 [(false, V.nl 3), (false, E3 r1)] (E36 r2) [],
        (true || ((E36 r2).nv && nvL [])) = true,
        V.sc (.int .i64 ((List.map E36 slices).length : Int)) = V.sc (.int .i64 (slices.length : Int)),
        Loop Tryd.prog (sub (codeOf Tryd.prog 127) [1, 1, 1, 1, 0, 1, 0, 0]) (st 36 [(6, V.ow 0), (25, V.sl false 36 (List.map E36 slices)), (26, V.sc (.int .i64 (slices.length : Int))), (27, V.sc (.int .i64 0))] [Blk.row 3 (List.map E3 r2) []] []) (X.out 2) (st 36 [(6, V.ow 0)] [Blk.row 3 (List.map E3 r3) []] [])]) (by kernel_rfl) (cj (len_nm _ _) (cj (slices_Concat_int_l0_ok slices h4 slices [] rfl 0 r1 h5) (cj (slices_Grow_int_nil_ok r1 r2 h6) (cj rfl (cj (len_nm _ _) (cj1 (slices_Concat_int_l1_ok slices h4 slices [] rfl r2 r3 h10)))))))))))) (fun h4 =>
    Pn.none)
def impl_RingOk_l0 (r_ : Ring) (r1 : (List Int)) : List Int → Option (Lo Unit Unit)
  | [] =>
   some (.out ())
  | x1 :: t1 =>
   (impl_isMoney x1).bind fun r2 =>
   if r2 = true then
    impl_RingOk_l0 r_ r1 t1
   else
    some (.ret ())
theorem impl_RingOk_l0_ok (r_ : Ring) (r1 : (List Int)) (h3 : capOk r1.length = true) : ∀ (t1 p1 : List Int) (_ : r1 = p1 ++ t1) , Pn (LpO Tryd.prog (sub (codeOf Tryd.prog 90) [1, 1, 0, 1, 0, 0]) (st 43 [(1, V.ptr 0 0), (3, V.sc (.int .i64 (r_.Counts.length : Int))), (14, V.ow 1), (15, V.sc (.int .i64 (r1.length : Int))), (16, V.sc (.int .i64 (p1.length : Int)))] [Blk.box 45 [V.sc (.int .i64 r_.Span), V.sc (.int .i64 r_.Head), V.sl false 3 (List.map E3 r_.Counts), V.sl false 3 (List.map E3 r_.Sums)], Blk.row 3 (List.map E3 r1) []] []) (fun (y : Lo Unit Unit) => Lo.elim y (fun s => (X.out 0, st 43 [(1, V.ptr 0 0), (3, V.sc (.int .i64 (r_.Counts.length : Int)))] [Blk.box 45 [V.sc (.int .i64 r_.Span), V.sc (.int .i64 r_.Head), V.sl false 3 (List.map E3 r_.Counts), V.sl false 3 (List.map E3 r_.Sums)]] [])) (fun s => (X.ret, st 43 [(2, V.sc (.bool false))] [] [])))) (impl_RingOk_l0 r_ r1 t1)
  | [], p1, h2 => by
    unfold impl_RingOk_l0
    exact
     Pn.some (LpO.out [.bit false, .mask [1, 3], .ren [0]] (p := [(decide ((p1.length : Int) < (r1.length : Int))) = false]) (by kernel_rfl) (show X.out 0 ≠ X.go from nofun) (cj1 (rng_end h2)))
  | x1 :: t1, p1, h2 => by
    unfold impl_RingOk_l0
    exact
     Pn.bind (fun r2 h4 =>
      Pn.ite (fun h5 =>
       LpO.go [.bit true, .el (E3 x1), .call [] (E4 r2) [], .bit false, .wait 2, .mask [1, 3, 14, 15, 16], .ren [0, 1], .nm 16 (V.sc (.int .i64 ((p1 ++ [x1]).length : Int)))] (p := [(decide ((p1.length : Int) < (r1.length : Int))) = true,
        (0 : Int) ≤ (p1.length : Int),
        ((p1.length : Int) : Int) < ((List.map E3 r1).length : Int),
        look [] ((p1.length : Int).toNat) = none,
        (List.map E3 r1)[(p1.length : Int).toNat]? = some (E3 x1),
        Fn Tryd.prog 65 [(false, E3 x1)] (E4 r2) [],
        (true || ((E4 r2).nv && nvL [])) = true,
        (!r2) = false,
        V.sc (.int .i64 (i64 ((p1.length : Int) + 1))) = V.sc (.int .i64 ((p1 ++ [x1]).length : Int))]) (by kernel_rfl) (cj (rng_lt h2) (cj (by omega) (cj (rng_ltI _ h2) (cj rfl (cj (rng_get _ h2) (cj (impl_isMoney_ok x1 r2 h4) (cj rfl (cj (nf h5) (cj1 (rng_next h2 h3)))))))))) (impl_RingOk_l0_ok r_ r1 h3 t1 (p1 ++ [x1]) (rng_step h2))) (fun h5 =>
       Pn.some (LpO.out [.bit true, .el (E3 x1), .call [] (E4 r2) [], .bit true, .wait 1, .mask [2], .ren []] (p := [(decide ((p1.length : Int) < (r1.length : Int))) = true,
        (0 : Int) ≤ (p1.length : Int),
        ((p1.length : Int) : Int) < ((List.map E3 r1).length : Int),
        look [] ((p1.length : Int).toNat) = none,
        (List.map E3 r1)[(p1.length : Int).toNat]? = some (E3 x1),
        Fn Tryd.prog 65 [(false, E3 x1)] (E4 r2) [],
        (true || ((E4 r2).nv && nvL [])) = true,
        (!r2) = true]) (by kernel_rfl) (show X.ret ≠ X.go from nofun) (cj (rng_lt h2) (cj (by omega) (cj (rng_ltI _ h2) (cj rfl (cj (rng_get _ h2) (cj (impl_isMoney_ok x1 r2 h4) (cj rfl (cj1 (nt h5))))))))))))
def impl_RingOk (r_ : Ring) : Option (Bool) :=
 (slices_Concat_int [r_.Counts, r_.Sums]).bind fun r1 =>
 if (capOk r1.length) = true then
  (impl_RingOk_l0 r_ r1 r1).bind fun r3 =>
  Lo.elim r3 (fun s1 =>
   (impl_within r_.Span 1 1000).bind fun r4 =>
   if r4 = true then
    (impl_within (r_.Counts.length : Int) 1 8).bind fun r5 =>
    if r5 = true then
     if ((r_.Sums.length : Int) == (r_.Counts.length : Int)) = true then
      (impl_isTime r_.Head).bind fun r6 =>
      some r6
     else
      some false
    else
     some false
   else
    some false) (fun s2 =>
   some false)
 else none
theorem impl_RingOk_ok (r_ : Ring) : Pn (fun y => Fn Tryd.prog 90 [(false, E45 r_)] (E4 y) []) (impl_RingOk r_) := by
  unfold impl_RingOk
  exact
   Pn.bind (fun r1 h1 =>
    Pn.ite (fun h6 =>
     Pn.bind (fun r3 h7 =>
      Pn.lo (fun s1 h8 =>
       Pn.bind (fun r4 h10 =>
        Pn.ite (fun h11 =>
         Pn.bind (fun r5 h12 =>
          Pn.ite (fun h13 =>
           Pn.ite (fun h14 =>
            Pn.bind (fun r6 h15 =>
             Pn.some (Fn.of [.wait 5, .nm 8 (V.sc (.int .i64 (r_.Counts.length : Int))), .call [] (E36 r1) [], .wait 1, .nm 15 (V.sc (.int .i64 (r1.length : Int))), .wait 2, .mask [1, 3, 14, 15, 16], .ren [0, 2], .loop (X.out 0) (st 43 [(1, V.ptr 0 0), (3, V.sc (.int .i64 (r_.Counts.length : Int)))] [Blk.box 45 [V.sc (.int .i64 r_.Span), V.sc (.int .i64 r_.Head), V.sl false 3 (List.map E3 r_.Counts), V.sl false 3 (List.map E3 r_.Sums)]] []), .call [] (E4 r4) [], .bit true, .bit true, .call [] (E4 r5) [], .bit true, .bit true, .bit true, .bit true, .nm 34 (V.sc (.int .i64 (r_.Sums.length : Int))), .bit true, .bit true, .bit true, .bit true, .bit true, .bit true, .call [] (E4 r6) [], .bit true] (p := [V.sc (.int .i64 ((List.map E3 r_.Counts).length : Int)) = V.sc (.int .i64 (r_.Counts.length : Int)),
              Fn Tryd.prog 127 [(false, V.sl true 36 [V.sl false 3 (List.map E3 r_.Counts), V.sl false 3 (List.map E3 r_.Sums)])] (E36 r1) [],
              (false || ((E36 r1).nv && nvL [])) = true,
              V.sc (.int .i64 ((List.map E3 r1).length : Int)) = V.sc (.int .i64 (r1.length : Int)),
              Loop Tryd.prog (sub (codeOf Tryd.prog 90) [1, 1, 0, 1, 0, 0]) (st 43 [(1, V.ptr 0 0), (3, V.sc (.int .i64 (r_.Counts.length : Int))), (14, V.ow 1), (15, V.sc (.int .i64 (r1.length : Int))), (16, V.sc (.int .i64 0))] [Blk.box 45 [V.sc (.int .i64 r_.Span), V.sc (.int .i64 r_.Head), V.sl false 3 (List.map E3 r_.Counts), V.sl false 3 (List.map E3 r_.Sums)], Blk.row 3 (List.map E3 r1) []] []) (X.out 0) (st 43 [(1, V.ptr 0 0), (3, V.sc (.int .i64 (r_.Counts.length : Int)))] [Blk.box 45 [V.sc (.int .i64 r_.Span), V.sc (.int .i64 r_.Head), V.sl false 3 (List.map E3 r_.Counts), V.sl false 3 (List.map E3 r_.Sums)]] []),
              Fn Tryd.prog 88 [(false, E3 r_.Span), (false, E3 1), (false, E3 1000)] (E4 r4) [],
              (true || ((E4 r4).nv && nvL [])) = true,
              r4 = true,
              r4 = true,
              Fn Tryd.prog 88 [(false, E3 (r_.Counts.length : Int)), (false, E3 1), (false, E3 8)] (E4 r5) [],
              (true || ((E4 r5).nv && nvL [])) = true,
              r4 = true,
              r5 = true,
              r5 = true,
              r5 = true,
              V.sc (.int .i64 ((List.map E3 r_.Sums).length : Int)) = V.sc (.int .i64 (r_.Sums.length : Int)),
              r5 = true,
              r5 = true,
              r5 = true,
              ((r_.Sums.length : Int) == (r_.Counts.length : Int)) = true,
              ((r_.Sums.length : Int) == (r_.Counts.length : Int)) = true,
              ((r_.Sums.length : Int) == (r_.Counts.length : Int)) = true,
              Fn Tryd.prog 42 [(false, E3 r_.Head)] (E4 r6) [],
              (true || ((E4 r6).nv && nvL [])) = true,
              ((r_.Sums.length : Int) == (r_.Counts.length : Int)) = true]) (by kernel_rfl) (cj (len_nm _ _) (cj (Fn.flag 0 (by kernel_rfl) (slices_Concat_int_ok [r_.Counts, r_.Sums] r1 h1)) (cj (by simp [V.nv, nvL, nvL_all, nv_E3, nv_E36]) (cj (len_nm _ _) (cj ((impl_RingOk_l0_ok r_ r1 h6 r1 [] rfl r3 h7).at h8) (cj (impl_within_ok r_.Span 1 1000 r4 h10) (cj rfl (cj h11 (cj h11 (cj (impl_within_ok (r_.Counts.length : Int) 1 8 r5 h12) (cj rfl (cj h11 (cj h13 (cj h13 (cj h13 (cj (len_nm _ _) (cj h13 (cj h13 (cj h13 (cj h14 (cj h14 (cj h14 (cj (impl_isTime_ok r_.Head r6 h15) (cj rfl (cj1 h14)))))))))))))))))))))))))))) (fun h14 =>
            Pn.some (Fn.of [.wait 5, .nm 8 (V.sc (.int .i64 (r_.Counts.length : Int))), .call [] (E36 r1) [], .wait 1, .nm 15 (V.sc (.int .i64 (r1.length : Int))), .wait 2, .mask [1, 3, 14, 15, 16], .ren [0, 2], .loop (X.out 0) (st 43 [(1, V.ptr 0 0), (3, V.sc (.int .i64 (r_.Counts.length : Int)))] [Blk.box 45 [V.sc (.int .i64 r_.Span), V.sc (.int .i64 r_.Head), V.sl false 3 (List.map E3 r_.Counts), V.sl false 3 (List.map E3 r_.Sums)]] []), .call [] (E4 r4) [], .bit true, .bit true, .call [] (E4 r5) [], .bit true, .bit true, .bit true, .bit true, .nm 34 (V.sc (.int .i64 (r_.Sums.length : Int))), .bit true, .bit true, .bit true, .bit false, .bit false, .bit false, .bit false] (p := [V.sc (.int .i64 ((List.map E3 r_.Counts).length : Int)) = V.sc (.int .i64 (r_.Counts.length : Int)),
             Fn Tryd.prog 127 [(false, V.sl true 36 [V.sl false 3 (List.map E3 r_.Counts), V.sl false 3 (List.map E3 r_.Sums)])] (E36 r1) [],
             (false || ((E36 r1).nv && nvL [])) = true,
             V.sc (.int .i64 ((List.map E3 r1).length : Int)) = V.sc (.int .i64 (r1.length : Int)),
             Loop Tryd.prog (sub (codeOf Tryd.prog 90) [1, 1, 0, 1, 0, 0]) (st 43 [(1, V.ptr 0 0), (3, V.sc (.int .i64 (r_.Counts.length : Int))), (14, V.ow 1), (15, V.sc (.int .i64 (r1.length : Int))), (16, V.sc (.int .i64 0))] [Blk.box 45 [V.sc (.int .i64 r_.Span), V.sc (.int .i64 r_.Head), V.sl false 3 (List.map E3 r_.Counts), V.sl false 3 (List.map E3 r_.Sums)], Blk.row 3 (List.map E3 r1) []] []) (X.out 0) (st 43 [(1, V.ptr 0 0), (3, V.sc (.int .i64 (r_.Counts.length : Int)))] [Blk.box 45 [V.sc (.int .i64 r_.Span), V.sc (.int .i64 r_.Head), V.sl false 3 (List.map E3 r_.Counts), V.sl false 3 (List.map E3 r_.Sums)]] []),
             Fn Tryd.prog 88 [(false, E3 r_.Span), (false, E3 1), (false, E3 1000)] (E4 r4) [],
             (true || ((E4 r4).nv && nvL [])) = true,
             r4 = true,
             r4 = true,
             Fn Tryd.prog 88 [(false, E3 (r_.Counts.length : Int)), (false, E3 1), (false, E3 8)] (E4 r5) [],
             (true || ((E4 r5).nv && nvL [])) = true,
             r4 = true,
             r5 = true,
             r5 = true,
             r5 = true,
             V.sc (.int .i64 ((List.map E3 r_.Sums).length : Int)) = V.sc (.int .i64 (r_.Sums.length : Int)),
             r5 = true,
             r5 = true,
             r5 = true,
             ((r_.Sums.length : Int) == (r_.Counts.length : Int)) = false,
             ((r_.Sums.length : Int) == (r_.Counts.length : Int)) = false,
             ((r_.Sums.length : Int) == (r_.Counts.length : Int)) = false,
             ((r_.Sums.length : Int) == (r_.Counts.length : Int)) = false]) (by kernel_rfl) (cj (len_nm _ _) (cj (Fn.flag 0 (by kernel_rfl) (slices_Concat_int_ok [r_.Counts, r_.Sums] r1 h1)) (cj (by simp [V.nv, nvL, nvL_all, nv_E3, nv_E36]) (cj (len_nm _ _) (cj ((impl_RingOk_l0_ok r_ r1 h6 r1 [] rfl r3 h7).at h8) (cj (impl_within_ok r_.Span 1 1000 r4 h10) (cj rfl (cj h11 (cj h11 (cj (impl_within_ok (r_.Counts.length : Int) 1 8 r5 h12) (cj rfl (cj h11 (cj h13 (cj h13 (cj h13 (cj (len_nm _ _) (cj h13 (cj h13 (cj h13 (cj h14 (cj h14 (cj h14 (cj1 h14)))))))))))))))))))))))))) (fun h13 =>
           Pn.some (Fn.of [.wait 5, .nm 8 (V.sc (.int .i64 (r_.Counts.length : Int))), .call [] (E36 r1) [], .wait 1, .nm 15 (V.sc (.int .i64 (r1.length : Int))), .wait 2, .mask [1, 3, 14, 15, 16], .ren [0, 2], .loop (X.out 0) (st 43 [(1, V.ptr 0 0), (3, V.sc (.int .i64 (r_.Counts.length : Int)))] [Blk.box 45 [V.sc (.int .i64 r_.Span), V.sc (.int .i64 r_.Head), V.sl false 3 (List.map E3 r_.Counts), V.sl false 3 (List.map E3 r_.Sums)]] []), .call [] (E4 r4) [], .bit true, .bit true, .call [] (E4 r5) [], .bit true, .bit false, .bit false, .bit false, .bit false, .bit false, .bit false, .bit false, .bit false, .bit false, .bit false] (p := [V.sc (.int .i64 ((List.map E3 r_.Counts).length : Int)) = V.sc (.int .i64 (r_.Counts.length : Int)),
            Fn Tryd.prog 127 [(false, V.sl true 36 [V.sl false 3 (List.map E3 r_.Counts), V.sl false 3 (List.map E3 r_.Sums)])] (E36 r1) [],
            (false || ((E36 r1).nv && nvL [])) = true,
            V.sc (.int .i64 ((List.map E3 r1).length : Int)) = V.sc (.int .i64 (r1.length : Int)),
            Loop Tryd.prog (sub (codeOf Tryd.prog 90) [1, 1, 0, 1, 0, 0]) (st 43 [(1, V.ptr 0 0), (3, V.sc (.int .i64 (r_.Counts.length : Int))), (14, V.ow 1), (15, V.sc (.int .i64 (r1.length : Int))), (16, V.sc (.int .i64 0))] [Blk.box 45 [V.sc (.int .i64 r_.Span), V.sc (.int .i64 r_.Head), V.sl false 3 (List.map E3 r_.Counts), V.sl false 3 (List.map E3 r_.Sums)], Blk.row 3 (List.map E3 r1) []] []) (X.out 0) (st 43 [(1, V.ptr 0 0), (3, V.sc (.int .i64 (r_.Counts.length : Int)))] [Blk.box 45 [V.sc (.int .i64 r_.Span), V.sc (.int .i64 r_.Head), V.sl false 3 (List.map E3 r_.Counts), V.sl false 3 (List.map E3 r_.Sums)]] []),
            Fn Tryd.prog 88 [(false, E3 r_.Span), (false, E3 1), (false, E3 1000)] (E4 r4) [],
            (true || ((E4 r4).nv && nvL [])) = true,
            r4 = true,
            r4 = true,
            Fn Tryd.prog 88 [(false, E3 (r_.Counts.length : Int)), (false, E3 1), (false, E3 8)] (E4 r5) [],
            (true || ((E4 r5).nv && nvL [])) = true,
            r4 = true,
            r5 = false,
            r5 = false,
            r5 = false,
            r5 = false,
            r5 = false,
            r5 = false,
            false = false,
            false = false,
            false = false,
            false = false]) (by kernel_rfl) (cj (len_nm _ _) (cj (Fn.flag 0 (by kernel_rfl) (slices_Concat_int_ok [r_.Counts, r_.Sums] r1 h1)) (cj (by simp [V.nv, nvL, nvL_all, nv_E3, nv_E36]) (cj (len_nm _ _) (cj ((impl_RingOk_l0_ok r_ r1 h6 r1 [] rfl r3 h7).at h8) (cj (impl_within_ok r_.Span 1 1000 r4 h10) (cj rfl (cj h11 (cj h11 (cj (impl_within_ok (r_.Counts.length : Int) 1 8 r5 h12) (cj rfl (cj h11 (cj h13 (cj h13 (cj h13 (cj h13 (cj h13 (cj h13 (cj rfl (cj rfl (cj rfl (cj1 rfl)))))))))))))))))))))))))) (fun h11 =>
         Pn.some (Fn.of [.wait 5, .nm 8 (V.sc (.int .i64 (r_.Counts.length : Int))), .call [] (E36 r1) [], .wait 1, .nm 15 (V.sc (.int .i64 (r1.length : Int))), .wait 2, .mask [1, 3, 14, 15, 16], .ren [0, 2], .loop (X.out 0) (st 43 [(1, V.ptr 0 0), (3, V.sc (.int .i64 (r_.Counts.length : Int)))] [Blk.box 45 [V.sc (.int .i64 r_.Span), V.sc (.int .i64 r_.Head), V.sl false 3 (List.map E3 r_.Counts), V.sl false 3 (List.map E3 r_.Sums)]] []), .call [] (E4 r4) [], .bit false, .bit false, .bit false, .bit false, .bit false, .bit false, .bit false, .bit false, .bit false, .bit false, .bit false, .bit false, .bit false] (p := [V.sc (.int .i64 ((List.map E3 r_.Counts).length : Int)) = V.sc (.int .i64 (r_.Counts.length : Int)),
          Fn Tryd.prog 127 [(false, V.sl true 36 [V.sl false 3 (List.map E3 r_.Counts), V.sl false 3 (List.map E3 r_.Sums)])] (E36 r1) [],
          (false || ((E36 r1).nv && nvL [])) = true,
          V.sc (.int .i64 ((List.map E3 r1).length : Int)) = V.sc (.int .i64 (r1.length : Int)),
          Loop Tryd.prog (sub (codeOf Tryd.prog 90) [1, 1, 0, 1, 0, 0]) (st 43 [(1, V.ptr 0 0), (3, V.sc (.int .i64 (r_.Counts.length : Int))), (14, V.ow 1), (15, V.sc (.int .i64 (r1.length : Int))), (16, V.sc (.int .i64 0))] [Blk.box 45 [V.sc (.int .i64 r_.Span), V.sc (.int .i64 r_.Head), V.sl false 3 (List.map E3 r_.Counts), V.sl false 3 (List.map E3 r_.Sums)], Blk.row 3 (List.map E3 r1) []] []) (X.out 0) (st 43 [(1, V.ptr 0 0), (3, V.sc (.int .i64 (r_.Counts.length : Int)))] [Blk.box 45 [V.sc (.int .i64 r_.Span), V.sc (.int .i64 r_.Head), V.sl false 3 (List.map E3 r_.Counts), V.sl false 3 (List.map E3 r_.Sums)]] []),
          Fn Tryd.prog 88 [(false, E3 r_.Span), (false, E3 1), (false, E3 1000)] (E4 r4) [],
          (true || ((E4 r4).nv && nvL [])) = true,
          r4 = false,
          r4 = false,
          r4 = false,
          false = false,
          false = false,
          false = false,
          false = false,
          false = false,
          false = false,
          false = false,
          false = false,
          false = false,
          false = false]) (by kernel_rfl) (cj (len_nm _ _) (cj (Fn.flag 0 (by kernel_rfl) (slices_Concat_int_ok [r_.Counts, r_.Sums] r1 h1)) (cj (by simp [V.nv, nvL, nvL_all, nv_E3, nv_E36]) (cj (len_nm _ _) (cj ((impl_RingOk_l0_ok r_ r1 h6 r1 [] rfl r3 h7).at h8) (cj (impl_within_ok r_.Span 1 1000 r4 h10) (cj rfl (cj h11 (cj h11 (cj h11 (cj rfl (cj rfl (cj rfl (cj rfl (cj rfl (cj rfl (cj rfl (cj rfl (cj rfl (cj1 rfl)))))))))))))))))))))))) (fun s2 h9 =>
       Pn.some (Fn.of [.wait 5, .nm 8 (V.sc (.int .i64 (r_.Counts.length : Int))), .call [] (E36 r1) [], .wait 1, .nm 15 (V.sc (.int .i64 (r1.length : Int))), .wait 2, .mask [1, 3, 14, 15, 16], .ren [0, 2], .loop (X.ret) (st 43 [(2, V.sc (.bool false))] [] [])] (p := [V.sc (.int .i64 ((List.map E3 r_.Counts).length : Int)) = V.sc (.int .i64 (r_.Counts.length : Int)),
        Fn Tryd.prog 127 [(false, V.sl true 36 [V.sl false 3 (List.map E3 r_.Counts), V.sl false 3 (List.map E3 r_.Sums)])] (E36 r1) [],
        (false || ((E36 r1).nv && nvL [])) = true,
        V.sc (.int .i64 ((List.map E3 r1).length : Int)) = V.sc (.int .i64 (r1.length : Int)),
        Loop Tryd.prog (sub (codeOf Tryd.prog 90) [1, 1, 0, 1, 0, 0]) (st 43 [(1, V.ptr 0 0), (3, V.sc (.int .i64 (r_.Counts.length : Int))), (14, V.ow 1), (15, V.sc (.int .i64 (r1.length : Int))), (16, V.sc (.int .i64 0))] [Blk.box 45 [V.sc (.int .i64 r_.Span), V.sc (.int .i64 r_.Head), V.sl false 3 (List.map E3 r_.Counts), V.sl false 3 (List.map E3 r_.Sums)], Blk.row 3 (List.map E3 r1) []] []) (X.ret) (st 43 [(2, V.sc (.bool false))] [] [])]) (by kernel_rfl) (cj (len_nm _ _) (cj (Fn.flag 0 (by kernel_rfl) (slices_Concat_int_ok [r_.Counts, r_.Sums] r1 h1)) (cj (by simp [V.nv, nvL, nvL_all, nv_E3, nv_E36]) (cj (len_nm _ _) (cj1 ((impl_RingOk_l0_ok r_ r1 h6 r1 [] rfl r3 h7).at h9)))))))))) (fun h6 =>
     Pn.none))
def impl_isWide (s_ : ByteArray) (n : Int) : Option (Bool) :=
 (impl_Digits s_).bind fun r1 =>
 if r1 = true then
  some ((s_.size : Int) == n)
 else
  some false
theorem impl_isWide_ok (s_ : ByteArray) (n : Int) : Pn (fun y => Fn Tryd.prog 144 [(false, E9 s_), (false, E3 n)] (E4 y) []) (impl_isWide s_ n) := by
  unfold impl_isWide
  exact
   Pn.bind (fun r1 h1 =>
    Pn.ite (fun h2 =>
     Pn.some (Fn.of [.call [] (E4 r1) [], .bit true, .bit true, .bit true, .bit true, .bit true] (p := [Fn Tryd.prog 140 [(false, E9 s_)] (E4 r1) [],
      (true || ((E4 r1).nv && nvL [])) = true,
      r1 = true,
      r1 = true,
      r1 = true,
      r1 = true,
      r1 = true]) (by kernel_rfl) (cj (impl_Digits_ok s_ r1 h1) (cj rfl (cj h2 (cj h2 (cj h2 (cj h2 (cj1 h2))))))))) (fun h2 =>
     Pn.some (Fn.of [.call [] (E4 r1) [], .bit false, .bit false, .bit false, .bit false, .bit false] (p := [Fn Tryd.prog 140 [(false, E9 s_)] (E4 r1) [],
      (true || ((E4 r1).nv && nvL [])) = true,
      r1 = false,
      r1 = false,
      r1 = false,
      r1 = false,
      r1 = false]) (by kernel_rfl) (cj (impl_Digits_ok s_ r1 h1) (cj rfl (cj h2 (cj h2 (cj h2 (cj h2 (cj1 h2))))))))))
def impl_SlotOk (s_ : Slot) : Option (Bool) :=
 (impl_isWide s_.Trace 6).bind fun r1 =>
 if r1 = true then
  (impl_isWide s_.Mti 4).bind fun r2 =>
  if r2 = true then
   (impl_within (s_.Reply.length : Int) 1 200).bind fun r3 =>
   some r3
  else
   some false
 else
  some false
theorem impl_SlotOk_ok (s_ : Slot) : Pn (fun y => Fn Tryd.prog 128 [(false, E135 s_)] (E4 y) []) (impl_SlotOk s_) := by
  unfold impl_SlotOk
  exact
   Pn.bind (fun r1 h1 =>
    Pn.ite (fun h2 =>
     Pn.bind (fun r2 h3 =>
      Pn.ite (fun h4 =>
       Pn.bind (fun r3 h5 =>
        Pn.some (Fn.of [.call [] (E4 r1) [], .bit true, .bit true, .bit true, .call [] (E4 r2) [], .bit true, .bit true, .bit true, .bit true, .nm 14 (V.sc (.int .i64 (s_.Reply.length : Int))), .bit true, .call [] (E4 r3) [], .bit true] (p := [Fn Tryd.prog 144 [(false, E9 s_.Trace), (false, E3 6)] (E4 r1) [],
         (true || ((E4 r1).nv && nvL [])) = true,
         r1 = true,
         r1 = true,
         r1 = true,
         Fn Tryd.prog 144 [(false, E9 s_.Mti), (false, E3 4)] (E4 r2) [],
         (true || ((E4 r2).nv && nvL [])) = true,
         r1 = true,
         r2 = true,
         r2 = true,
         r2 = true,
         V.sc (.int .i64 ((List.map E5 s_.Reply).length : Int)) = V.sc (.int .i64 (s_.Reply.length : Int)),
         r2 = true,
         Fn Tryd.prog 88 [(false, E3 (s_.Reply.length : Int)), (false, E3 1), (false, E3 200)] (E4 r3) [],
         (true || ((E4 r3).nv && nvL [])) = true,
         r2 = true]) (by kernel_rfl) (cj (impl_isWide_ok s_.Trace 6 r1 h1) (cj rfl (cj h2 (cj h2 (cj h2 (cj (impl_isWide_ok s_.Mti 4 r2 h3) (cj rfl (cj h2 (cj h4 (cj h4 (cj h4 (cj (len_nm _ _) (cj h4 (cj (impl_within_ok (s_.Reply.length : Int) 1 200 r3 h5) (cj rfl (cj1 h4))))))))))))))))))) (fun h4 =>
       Pn.some (Fn.of [.call [] (E4 r1) [], .bit true, .bit true, .bit true, .call [] (E4 r2) [], .bit true, .bit false, .bit false, .bit false, .bit false, .bit false] (p := [Fn Tryd.prog 144 [(false, E9 s_.Trace), (false, E3 6)] (E4 r1) [],
        (true || ((E4 r1).nv && nvL [])) = true,
        r1 = true,
        r1 = true,
        r1 = true,
        Fn Tryd.prog 144 [(false, E9 s_.Mti), (false, E3 4)] (E4 r2) [],
        (true || ((E4 r2).nv && nvL [])) = true,
        r1 = true,
        r2 = false,
        r2 = false,
        r2 = false,
        r2 = false,
        r2 = false]) (by kernel_rfl) (cj (impl_isWide_ok s_.Trace 6 r1 h1) (cj rfl (cj h2 (cj h2 (cj h2 (cj (impl_isWide_ok s_.Mti 4 r2 h3) (cj rfl (cj h2 (cj h4 (cj h4 (cj h4 (cj h4 (cj1 h4))))))))))))))))) (fun h2 =>
     Pn.some (Fn.of [.call [] (E4 r1) [], .bit false, .bit false, .bit false, .bit false, .bit false, .bit false, .bit false, .bit false, .bit false] (p := [Fn Tryd.prog 144 [(false, E9 s_.Trace), (false, E3 6)] (E4 r1) [],
      (true || ((E4 r1).nv && nvL [])) = true,
      r1 = false,
      r1 = false,
      r1 = false,
      r1 = false,
      false = false,
      false = false,
      false = false,
      false = false,
      false = false]) (by kernel_rfl) (cj (impl_isWide_ok s_.Trace 6 r1 h1) (cj rfl (cj h2 (cj h2 (cj h2 (cj h2 (cj rfl (cj rfl (cj rfl (cj rfl (cj1 rfl))))))))))))))
def impl_slotAt_1 (s_ : Slot) (c0_0 : ByteArray) (c1_0 : ByteArray) : Option (Bool) :=
 if (s_.Trace == c0_0) = true then
  some (s_.Mti == c1_0)
 else
  some false
theorem impl_slotAt_1_ok (s_ : Slot) (c0_0 : ByteArray) (c1_0 : ByteArray) : Pn (fun y => Fn Tryd.prog 146 [(false, E135 s_), (false, V.cp [V.sc (.string c0_0)]), (false, V.cp [V.sc (.string c1_0)])] (E4 y) []) (impl_slotAt_1 s_ c0_0 c1_0) := by
  unfold impl_slotAt_1
  exact
   Pn.ite (fun h1 =>
    Pn.some (Fn.of [.bit true, .bit true, .bit true, .bit true, .bit true] (p := [(s_.Trace == c0_0) = true,
     (s_.Trace == c0_0) = true,
     (s_.Trace == c0_0) = true,
     (s_.Trace == c0_0) = true,
     (s_.Trace == c0_0) = true]) (by kernel_rfl) (cj h1 (cj h1 (cj h1 (cj h1 (cj1 h1))))))) (fun h1 =>
    Pn.some (Fn.of [.bit false, .bit false, .bit false, .bit false, .bit false] (p := [(s_.Trace == c0_0) = false,
     (s_.Trace == c0_0) = false,
     (s_.Trace == c0_0) = false,
     (s_.Trace == c0_0) = false,
     (s_.Trace == c0_0) = false]) (by kernel_rfl) (cj h1 (cj h1 (cj h1 (cj h1 (cj1 h1)))))))
def slices_IndexFunc_impl_Slot_impl_slotAt_1_l0 (s_ : List Slot) (f0_0 : ByteArray) (f1_0 : ByteArray) : List Slot → List Slot → Option (Lo Unit Int)
  | [], p1 =>
   some (.out ())
  | x1 :: t1, p1 =>
   (impl_slotAt_1 x1 f0_0 f1_0).bind fun r1 =>
   if r1 = true then
    some (.ret (p1.length : Int))
   else
    slices_IndexFunc_impl_Slot_impl_slotAt_1_l0 s_ f0_0 f1_0 t1 (p1 ++ [x1])
theorem slices_IndexFunc_impl_Slot_impl_slotAt_1_l0_ok (s_ : List Slot) (f0_0 : ByteArray) (f1_0 : ByteArray) (h2 : capOk s_.length = true) : ∀ (t1 p1 : List Slot) (_ : s_ = p1 ++ t1) , Pn (LpO Tryd.prog (sub (codeOf Tryd.prog 145) [1, 0, 1, 0, 0]) (st 19 [(0, V.sl false 135 (List.map E135 s_)), (1, V.fn 146 [V.cp [V.sc (.string f0_0)], V.cp [V.sc (.string f1_0)]]), (7, V.sc (.int .i64 (s_.length : Int))), (8, V.sc (.int .i64 (p1.length : Int)))] [] []) (fun (y : Lo Unit Int) => Lo.elim y (fun s => (X.out 0, st 19 [] [] [])) (fun s => (X.ret, st 19 [(4, V.sc (.int .i64 s))] [] [])))) (slices_IndexFunc_impl_Slot_impl_slotAt_1_l0 s_ f0_0 f1_0 t1 p1)
  | [], p1, h1 => by
    unfold slices_IndexFunc_impl_Slot_impl_slotAt_1_l0
    exact
     Pn.some (LpO.out [.bit false, .mask [], .ren []] (p := [(decide ((p1.length : Int) < (s_.length : Int))) = false]) (by kernel_rfl) (show X.out 0 ≠ X.go from nofun) (cj1 (rng_end h1)))
  | x1 :: t1, p1, h1 => by
    unfold slices_IndexFunc_impl_Slot_impl_slotAt_1_l0
    exact
     Pn.bind (fun r1 h3 =>
      Pn.ite (fun h4 =>
       Pn.some (LpO.out [.bit true, .el (E135 x1), .call [] (E4 r1) [], .bit true, .wait 2, .mask [4], .ren []] (p := [(decide ((p1.length : Int) < (s_.length : Int))) = true,
        (0 : Int) ≤ (p1.length : Int),
        (List.map E135 s_)[(p1.length : Int).toNat]? = some (E135 x1),
        Fn Tryd.prog 146 [(false, E135 x1), (false, V.cp [V.sc (.string f0_0)]), (false, V.cp [V.sc (.string f1_0)])] (E4 r1) [],
        (true || ((E4 r1).nv && nvL [])) = true,
        r1 = true]) (by kernel_rfl) (show X.ret ≠ X.go from nofun) (cj (rng_lt h1) (cj (by omega) (cj (rng_get _ h1) (cj (impl_slotAt_1_ok x1 f0_0 f1_0 r1 h3) (cj rfl (cj1 h4)))))))) (fun h4 =>
       LpO.go [.bit true, .el (E135 x1), .call [] (E4 r1) [], .bit false, .wait 2, .mask [0, 1, 7, 8], .ren [], .nm 8 (V.sc (.int .i64 ((p1 ++ [x1]).length : Int)))] (p := [(decide ((p1.length : Int) < (s_.length : Int))) = true,
        (0 : Int) ≤ (p1.length : Int),
        (List.map E135 s_)[(p1.length : Int).toNat]? = some (E135 x1),
        Fn Tryd.prog 146 [(false, E135 x1), (false, V.cp [V.sc (.string f0_0)]), (false, V.cp [V.sc (.string f1_0)])] (E4 r1) [],
        (true || ((E4 r1).nv && nvL [])) = true,
        r1 = false,
        V.sc (.int .i64 (i64 ((p1.length : Int) + 1))) = V.sc (.int .i64 ((p1 ++ [x1]).length : Int))]) (by kernel_rfl) (cj (rng_lt h1) (cj (by omega) (cj (rng_get _ h1) (cj (impl_slotAt_1_ok x1 f0_0 f1_0 r1 h3) (cj rfl (cj h4 (cj1 (rng_next h1 h2)))))))) (slices_IndexFunc_impl_Slot_impl_slotAt_1_l0_ok s_ f0_0 f1_0 h2 t1 (p1 ++ [x1]) (rng_step h1))))
def slices_IndexFunc_impl_Slot_impl_slotAt_1 (s_ : List Slot) (f0_0 : ByteArray) (f1_0 : ByteArray) : Option (Int) :=
 if (capOk s_.length) = true then
  (slices_IndexFunc_impl_Slot_impl_slotAt_1_l0 s_ f0_0 f1_0 s_ []).bind fun r2 =>
  Lo.elim r2 (fun s1 =>
   some (-1)) (fun s2 =>
   some s2)
 else none
theorem slices_IndexFunc_impl_Slot_impl_slotAt_1_ok (s_ : List Slot) (f0_0 : ByteArray) (f1_0 : ByteArray) : Pn (fun y => Fn Tryd.prog 145 [(false, E46 s_), (false, V.fn 146 [V.cp [V.sc (.string f0_0)], V.cp [V.sc (.string f1_0)]])] (E3 y) []) (slices_IndexFunc_impl_Slot_impl_slotAt_1 s_ f0_0 f1_0) := by
  unfold slices_IndexFunc_impl_Slot_impl_slotAt_1
  exact
   Pn.ite (fun h5 =>
    Pn.bind (fun r2 h6 =>
     Pn.lo (fun s1 h7 =>
      Pn.some (Fn.of [.wait 3, .nm 7 (V.sc (.int .i64 (s_.length : Int))), .wait 2, .mask [0, 1, 7, 8], .ren [], .loop (X.out 0) (st 19 [] [] [])] (p := [V.sc (.int .i64 ((List.map E135 s_).length : Int)) = V.sc (.int .i64 (s_.length : Int)),
       Loop Tryd.prog (sub (codeOf Tryd.prog 145) [1, 0, 1, 0, 0]) (st 19 [(0, V.sl false 135 (List.map E135 s_)), (1, V.fn 146 [V.cp [V.sc (.string f0_0)], V.cp [V.sc (.string f1_0)]]), (7, V.sc (.int .i64 (s_.length : Int))), (8, V.sc (.int .i64 0))] [] []) (X.out 0) (st 19 [] [] [])]) (by kernel_rfl) (cj (len_nm _ _) (cj1 ((slices_IndexFunc_impl_Slot_impl_slotAt_1_l0_ok s_ f0_0 f1_0 h5 s_ [] rfl r2 h6).at h7))))) (fun s2 h8 =>
      Pn.some (Fn.of [.wait 3, .nm 7 (V.sc (.int .i64 (s_.length : Int))), .wait 2, .mask [0, 1, 7, 8], .ren [], .loop (X.ret) (st 19 [(4, V.sc (.int .i64 s2))] [] [])] (p := [V.sc (.int .i64 ((List.map E135 s_).length : Int)) = V.sc (.int .i64 (s_.length : Int)),
       Loop Tryd.prog (sub (codeOf Tryd.prog 145) [1, 0, 1, 0, 0]) (st 19 [(0, V.sl false 135 (List.map E135 s_)), (1, V.fn 146 [V.cp [V.sc (.string f0_0)], V.cp [V.sc (.string f1_0)]]), (7, V.sc (.int .i64 (s_.length : Int))), (8, V.sc (.int .i64 0))] [] []) (X.ret) (st 19 [(4, V.sc (.int .i64 s2))] [] [])]) (by kernel_rfl) (cj (len_nm _ _) (cj1 ((slices_IndexFunc_impl_Slot_impl_slotAt_1_l0_ok s_ f0_0 f1_0 h5 s_ [] rfl r2 h6).at h8))))))) (fun h5 =>
    Pn.none)
def impl_slotAt (l : List Slot) (trace : ByteArray) (mti : ByteArray) : Option (Int) :=
 (slices_IndexFunc_impl_Slot_impl_slotAt_1 l trace mti).bind fun r1 =>
 some r1
theorem impl_slotAt_ok (l : List Slot) (trace : ByteArray) (mti : ByteArray) : Pn (fun y => Fn Tryd.prog 129 [(false, E46 l), (false, E9 trace), (false, E9 mti)] (E3 y) []) (impl_slotAt l trace mti) := by
  unfold impl_slotAt
  exact
   Pn.bind (fun r1 h1 =>
    Pn.some (Fn.of [.call [] (E3 r1) []] (p := [Fn Tryd.prog 145 [(false, E46 l), (false, V.fn 146 [V.cp [V.sc (.string trace)], V.cp [V.sc (.string mti)]])] (E3 r1) [],
     (false || ((E3 r1).nv && nvL [])) = true]) (by kernel_rfl) (cj (slices_IndexFunc_impl_Slot_impl_slotAt_1_ok l trace mti r1 h1) (cj1 (by simp [V.nv, nvL, nvL_all, nv_E3])))))
def impl_SlotsOk_l0 (l : List Slot) : List Slot → List Slot → Option (Lo Unit Unit)
  | [], p1 =>
   some (.out ())
  | x1 :: t1, p1 =>
   (impl_SlotOk x1).bind fun r1 =>
   if r1 = true then
    (impl_slotAt l x1.Trace x1.Mti).bind fun r2 =>
    if (r2 != (p1.length : Int)) = true then
     some (.ret ())
    else
     impl_SlotsOk_l0 l t1 (p1 ++ [x1])
   else
    some (.ret ())
theorem impl_SlotsOk_l0_ok (l : List Slot) (h2 : capOk l.length = true) : ∀ (t1 p1 : List Slot) (_ : l = p1 ++ t1) , Pn (LpO Tryd.prog (sub (codeOf Tryd.prog 91) [1, 0, 1, 0, 0]) (st 29 [(0, V.sl false 135 (List.map E135 l)), (5, V.sl false 135 (List.map E135 l)), (6, V.sc (.int .i64 (l.length : Int))), (7, V.sc (.int .i64 (p1.length : Int)))] [] []) (fun (y : Lo Unit Unit) => Lo.elim y (fun s => (X.out 0, st 29 [(0, V.sl false 135 (List.map E135 l))] [] [])) (fun s => (X.ret, st 29 [(2, V.sc (.bool false))] [] [])))) (impl_SlotsOk_l0 l t1 p1)
  | [], p1, h1 => by
    unfold impl_SlotsOk_l0
    exact
     Pn.some (LpO.out [.bit false, .mask [0], .ren []] (p := [(decide ((p1.length : Int) < (l.length : Int))) = false]) (by kernel_rfl) (show X.out 0 ≠ X.go from nofun) (cj1 (rng_end h1)))
  | x1 :: t1, p1, h1 => by
    unfold impl_SlotsOk_l0
    exact
     Pn.bind (fun r1 h3 =>
      Pn.ite (fun h4 =>
       Pn.bind (fun r2 h5 =>
        Pn.ite (fun h6 =>
         Pn.some (LpO.out [.bit true, .el (E135 x1), .call [] (E4 r1) [], .bit false, .bit false, .bit false, .bit false, .bit false, .bit false, .call [] (E3 r2) [], .bit false, .bit false, .bit false, .bit true, .wait 1, .mask [2], .ren []] (p := [(decide ((p1.length : Int) < (l.length : Int))) = true,
          (0 : Int) ≤ (p1.length : Int),
          (List.map E135 l)[(p1.length : Int).toNat]? = some (E135 x1),
          Fn Tryd.prog 128 [(false, E135 x1)] (E4 r1) [],
          (true || ((E4 r1).nv && nvL [])) = true,
          (!r1) = false,
          (!r1) = false,
          (!r1) = false,
          (!r1) = false,
          (!r1) = false,
          (!r1) = false,
          Fn Tryd.prog 129 [(false, E46 l), (false, E9 x1.Trace), (false, E9 x1.Mti)] (E3 r2) [],
          (true || ((E3 r2).nv && nvL [])) = true,
          (!r1) = false,
          (!r1) = false,
          (!r1) = false,
          (r2 != (p1.length : Int)) = true]) (by kernel_rfl) (show X.ret ≠ X.go from nofun) (cj (rng_lt h1) (cj (by omega) (cj (rng_get _ h1) (cj (impl_SlotOk_ok x1 r1 h3) (cj rfl (cj (nf h4) (cj (nf h4) (cj (nf h4) (cj (nf h4) (cj (nf h4) (cj (nf h4) (cj (impl_slotAt_ok l x1.Trace x1.Mti r2 h5) (cj rfl (cj (nf h4) (cj (nf h4) (cj (nf h4) (cj1 h6))))))))))))))))))) (fun h6 =>
         LpO.go [.bit true, .el (E135 x1), .call [] (E4 r1) [], .bit false, .bit false, .bit false, .bit false, .bit false, .bit false, .call [] (E3 r2) [], .bit false, .bit false, .bit false, .bit false, .wait 2, .mask [0, 5, 6, 7], .ren [], .nm 7 (V.sc (.int .i64 ((p1 ++ [x1]).length : Int)))] (p := [(decide ((p1.length : Int) < (l.length : Int))) = true,
          (0 : Int) ≤ (p1.length : Int),
          (List.map E135 l)[(p1.length : Int).toNat]? = some (E135 x1),
          Fn Tryd.prog 128 [(false, E135 x1)] (E4 r1) [],
          (true || ((E4 r1).nv && nvL [])) = true,
          (!r1) = false,
          (!r1) = false,
          (!r1) = false,
          (!r1) = false,
          (!r1) = false,
          (!r1) = false,
          Fn Tryd.prog 129 [(false, E46 l), (false, E9 x1.Trace), (false, E9 x1.Mti)] (E3 r2) [],
          (true || ((E3 r2).nv && nvL [])) = true,
          (!r1) = false,
          (!r1) = false,
          (!r1) = false,
          (r2 != (p1.length : Int)) = false,
          V.sc (.int .i64 (i64 ((p1.length : Int) + 1))) = V.sc (.int .i64 ((p1 ++ [x1]).length : Int))]) (by kernel_rfl) (cj (rng_lt h1) (cj (by omega) (cj (rng_get _ h1) (cj (impl_SlotOk_ok x1 r1 h3) (cj rfl (cj (nf h4) (cj (nf h4) (cj (nf h4) (cj (nf h4) (cj (nf h4) (cj (nf h4) (cj (impl_slotAt_ok l x1.Trace x1.Mti r2 h5) (cj rfl (cj (nf h4) (cj (nf h4) (cj (nf h4) (cj h6 (cj1 (rng_next h1 h2))))))))))))))))))) (impl_SlotsOk_l0_ok l h2 t1 (p1 ++ [x1]) (rng_step h1))))) (fun h4 =>
       Pn.some (LpO.out [.bit true, .el (E135 x1), .call [] (E4 r1) [], .bit true, .bit true, .bit true, .bit true, .bit true, .bit true, .bit true, .bit true, .bit true, .bit true, .wait 1, .mask [2], .ren []] (p := [(decide ((p1.length : Int) < (l.length : Int))) = true,
        (0 : Int) ≤ (p1.length : Int),
        (List.map E135 l)[(p1.length : Int).toNat]? = some (E135 x1),
        Fn Tryd.prog 128 [(false, E135 x1)] (E4 r1) [],
        (true || ((E4 r1).nv && nvL [])) = true,
        (!r1) = true,
        (!r1) = true,
        (!r1) = true,
        (!r1) = true,
        (!r1) = true,
        (!r1) = true,
        (!r1) = true,
        (!r1) = true,
        (!r1) = true,
        true = true]) (by kernel_rfl) (show X.ret ≠ X.go from nofun) (cj (rng_lt h1) (cj (by omega) (cj (rng_get _ h1) (cj (impl_SlotOk_ok x1 r1 h3) (cj rfl (cj (nt h4) (cj (nt h4) (cj (nt h4) (cj (nt h4) (cj (nt h4) (cj (nt h4) (cj (nt h4) (cj (nt h4) (cj (nt h4) (cj1 rfl))))))))))))))))))
def impl_SlotsOk (l : List Slot) : Option (Bool) :=
 if (capOk l.length) = true then
  (impl_SlotsOk_l0 l l []).bind fun r3 =>
  Lo.elim r3 (fun s1 =>
   some (decide ((l.length : Int) ≤ 6))) (fun s2 =>
   some false)
 else none
theorem impl_SlotsOk_ok (l : List Slot) : Pn (fun y => Fn Tryd.prog 91 [(false, E46 l)] (E4 y) []) (impl_SlotsOk l) := by
  unfold impl_SlotsOk
  exact
   Pn.ite (fun h7 =>
    Pn.bind (fun r3 h8 =>
     Pn.lo (fun s1 h9 =>
      Pn.some (Fn.of [.wait 3, .nm 6 (V.sc (.int .i64 (l.length : Int))), .wait 2, .mask [0, 5, 6, 7], .ren [], .loop (X.out 0) (st 29 [(0, V.sl false 135 (List.map E135 l))] [] []), .wait 2, .nm 27 (V.sc (.int .i64 (l.length : Int)))] (p := [V.sc (.int .i64 ((List.map E135 l).length : Int)) = V.sc (.int .i64 (l.length : Int)),
       Loop Tryd.prog (sub (codeOf Tryd.prog 91) [1, 0, 1, 0, 0]) (st 29 [(0, V.sl false 135 (List.map E135 l)), (5, V.sl false 135 (List.map E135 l)), (6, V.sc (.int .i64 (l.length : Int))), (7, V.sc (.int .i64 0))] [] []) (X.out 0) (st 29 [(0, V.sl false 135 (List.map E135 l))] [] []),
       V.sc (.int .i64 ((List.map E135 l).length : Int)) = V.sc (.int .i64 (l.length : Int))]) (by kernel_rfl) (cj (len_nm _ _) (cj ((impl_SlotsOk_l0_ok l h7 l [] rfl r3 h8).at h9) (cj1 (len_nm _ _)))))) (fun s2 h10 =>
      Pn.some (Fn.of [.wait 3, .nm 6 (V.sc (.int .i64 (l.length : Int))), .wait 2, .mask [0, 5, 6, 7], .ren [], .loop (X.ret) (st 29 [(2, V.sc (.bool false))] [] [])] (p := [V.sc (.int .i64 ((List.map E135 l).length : Int)) = V.sc (.int .i64 (l.length : Int)),
       Loop Tryd.prog (sub (codeOf Tryd.prog 91) [1, 0, 1, 0, 0]) (st 29 [(0, V.sl false 135 (List.map E135 l)), (5, V.sl false 135 (List.map E135 l)), (6, V.sc (.int .i64 (l.length : Int))), (7, V.sc (.int .i64 0))] [] []) (X.ret) (st 29 [(2, V.sc (.bool false))] [] [])]) (by kernel_rfl) (cj (len_nm _ _) (cj1 ((impl_SlotsOk_l0_ok l h7 l [] rfl r3 h8).at h10))))))) (fun h7 =>
    Pn.none)
def impl_AddSat (a : Int) (b : Int) : Option (Int) :=
 if (decide ((i64 (4611686018427387904 - (imax 0 (imin b 4611686018427387904)))) < (imax 0 (imin a 4611686018427387904)))) = true then
  some 4611686018427387904
 else
  some (i64 ((imax 0 (imin a 4611686018427387904)) + (imax 0 (imin b 4611686018427387904))))
theorem impl_AddSat_ok (a : Int) (b : Int) : Pn (fun y => Fn Tryd.prog 92 [(false, E3 a), (false, E3 b)] (E3 y) []) (impl_AddSat a b) := by
  unfold impl_AddSat
  exact
   Pn.ite (fun h1 =>
    Pn.some (Fn.of [.bit true] (p := [(decide ((i64 (4611686018427387904 - (imax 0 (imin b 4611686018427387904)))) < (imax 0 (imin a 4611686018427387904)))) = true]) (by kernel_rfl) (cj1 h1))) (fun h1 =>
    Pn.some (Fn.of [.bit false] (p := [(decide ((i64 (4611686018427387904 - (imax 0 (imin b 4611686018427387904)))) < (imax 0 (imin a 4611686018427387904)))) = false]) (by kernel_rfl) (cj1 h1)))
end Go.Proofs.YtaaiikopnadkeaaDoorM
