/- Printed by gen.py: functions on plain data, and that the program computes them. No condition. -/
import Derived.Test.YtaaiikopnadkeaaDoorX1
import Derived.Test.YtaaiikopnadkeaaDoorProg
namespace Go.Proofs.YtaaiikopnadkeaaDoorM
set_option linter.unusedVariables false
set_option linter.unusedSimpArgs false
open Go.RowKit
set_option maxRecDepth 100000

structure Hold where
  Id : ByteArray
  Amount : Int
  Due : Int
structure Ring where
  Span : Int
  Head : Int
  Counts : List Int
  Sums : List Int
structure Slot where
  Trace : ByteArray
  Mti : ByteArray
  Reply : List Int
structure Acct where
  Id : ByteArray
  Limit : Int
  Posted : Int
  Most : Int
  MostSum : Int
  Holds : List Hold
  Ring : Ring
  Slots : List Slot
structure Stripe where
  Owner : Int
  Accts : List Acct
structure Task where
  Data : List Int
  Pc : Int
  Set : List Int
  Held : Int
  Inv : Int
  Lin : Int
  Res : Int
  At : Int
  Reply : List Int
structure World where
  Stripes : List Stripe
  Now : Int
  Step : Int
  Tasks : List Task
def E3 (x : Int) : V := V.sc (.int .i64 x)
def E9 (x : ByteArray) : V := V.sc (.string x)
def E120 (x : Hold) : V := V.agg [V.sc (.string x.Id), V.sc (.int .i64 x.Amount), V.sc (.int .i64 x.Due)]
def E35 (x : List Hold) : V := V.sl true 120 (List.map E120 x)
def E36 (x : List Int) : V := V.sl true 3 (List.map E3 x)
def E38 (x : Ring) : V := V.agg [V.sc (.int .i64 x.Span), V.sc (.int .i64 x.Head), V.sl true 3 (List.map E3 x.Counts), V.sl true 3 (List.map E3 x.Sums)]
def E5 (x : Int) : V := V.sc (.int .u8 x)
def E52 (x : List Int) : V := V.sl true 5 (List.map E5 x)
def E124 (x : Slot) : V := V.agg [V.sc (.string x.Trace), V.sc (.string x.Mti), V.sl true 5 (List.map E5 x.Reply)]
def E39 (x : List Slot) : V := V.sl true 124 (List.map E124 x)
def E41 (x : Acct) : V := V.agg [V.sc (.string x.Id), V.sc (.int .i64 x.Limit), V.sc (.int .i64 x.Posted), V.sc (.int .i64 x.Most), V.sc (.int .i64 x.MostSum), V.sl true 120 (List.map E120 x.Holds), V.sc (.int .i64 x.Ring.Span), V.sc (.int .i64 x.Ring.Head), V.sl true 3 (List.map E3 x.Ring.Counts), V.sl true 3 (List.map E3 x.Ring.Sums), V.sl true 124 (List.map E124 x.Slots)]
def E99 (x : List Acct) : V := V.sl true 41 (List.map E41 x)
def E101 (x : Stripe) : V := V.agg [V.sc (.int .i64 x.Owner), V.sl true 41 (List.map E41 x.Accts)]
def E22 (x : List Stripe) : V := V.sl true 101 (List.map E101 x)
def E104 (x : Task) : V := V.agg [V.sl true 5 (List.map E5 x.Data), V.sc (.int .i64 x.Pc), V.sl true 3 (List.map E3 x.Set), V.sc (.int .i64 x.Held), V.sc (.int .i64 x.Inv), V.sc (.int .i64 x.Lin), V.sc (.int .i64 x.Res), V.sc (.int .i64 x.At), V.sl true 5 (List.map E5 x.Reply)]
def E23 (x : List Task) : V := V.sl true 104 (List.map E104 x)
def E25 (x : World) : V := V.agg [V.sl true 101 (List.map E101 x.Stripes), V.sc (.int .i64 x.Now), V.sc (.int .i64 x.Step), V.sl true 104 (List.map E104 x.Tasks)]
def E4 (x : Bool) : V := V.sc (.bool x)
def E80 (x : Hold) : V := V.agg [V.sc (.string x.Id), V.sc (.int .i64 x.Amount), V.sc (.int .i64 x.Due)]
def E44 (x : List Hold) : V := V.sl true 80 (List.map E80 x)
def E45 (x : Ring) : V := V.agg [V.sc (.int .i64 x.Span), V.sc (.int .i64 x.Head), V.sl true 3 (List.map E3 x.Counts), V.sl true 3 (List.map E3 x.Sums)]
def E135 (x : Slot) : V := V.agg [V.sc (.string x.Trace), V.sc (.string x.Mti), V.sl true 5 (List.map E5 x.Reply)]
def E46 (x : List Slot) : V := V.sl true 135 (List.map E135 x)
def E48 (x : Acct) : V := V.agg [V.sc (.string x.Id), V.sc (.int .i64 x.Limit), V.sc (.int .i64 x.Posted), V.sc (.int .i64 x.Most), V.sc (.int .i64 x.MostSum), V.sl true 80 (List.map E80 x.Holds), V.sc (.int .i64 x.Ring.Span), V.sc (.int .i64 x.Ring.Head), V.sl true 3 (List.map E3 x.Ring.Counts), V.sl true 3 (List.map E3 x.Ring.Sums), V.sl true 135 (List.map E135 x.Slots)]
def E62 (x : List Acct) : V := V.sl true 48 (List.map E48 x)
def E64 (x : Stripe) : V := V.agg [V.sc (.int .i64 x.Owner), V.sl true 48 (List.map E48 x.Accts)]
def E28 (x : List Stripe) : V := V.sl true 64 (List.map E64 x)
def E106 (x : Task) : V := V.agg [V.sl true 5 (List.map E5 x.Data), V.sc (.int .i64 x.Pc), V.sl true 3 (List.map E3 x.Set), V.sc (.int .i64 x.Held), V.sc (.int .i64 x.Inv), V.sc (.int .i64 x.Lin), V.sc (.int .i64 x.Res), V.sc (.int .i64 x.At), V.sl true 5 (List.map E5 x.Reply)]
def E29 (x : List Task) : V := V.sl true 106 (List.map E106 x)
def E31 (x : World) : V := V.agg [V.sl true 64 (List.map E64 x.Stripes), V.sc (.int .i64 x.Now), V.sc (.int .i64 x.Step), V.sl true 106 (List.map E106 x.Tasks)]
def E68 (x : List ByteArray) : V := V.sl true 9 (List.map E9 x)
theorem nv_E3 (x : Int) : (E3 x).nv = true := by
  simp [E3, V.nv, nvL, nvL_all]
theorem nv_E9 (x : ByteArray) : (E9 x).nv = true := by
  simp [E9, V.nv, nvL, nvL_all]
theorem nv_E120 (x : Hold) : (E120 x).nv = true := by
  simp [E120, V.nv, nvL, nvL_all]
theorem nv_E35 (x : List Hold) : (E35 x).nv = true := by
  simp [E35, V.nv, nvL, nvL_all, nv_E120]
theorem nv_E36 (x : List Int) : (E36 x).nv = true := by
  simp [E36, V.nv, nvL, nvL_all, nv_E3]
theorem nv_E38 (x : Ring) : (E38 x).nv = true := by
  simp [E38, V.nv, nvL, nvL_all, nv_E3, nv_E3]
theorem nv_E5 (x : Int) : (E5 x).nv = true := by
  simp [E5, V.nv, nvL, nvL_all]
theorem nv_E52 (x : List Int) : (E52 x).nv = true := by
  simp [E52, V.nv, nvL, nvL_all, nv_E5]
theorem nv_E124 (x : Slot) : (E124 x).nv = true := by
  simp [E124, V.nv, nvL, nvL_all, nv_E5]
theorem nv_E39 (x : List Slot) : (E39 x).nv = true := by
  simp [E39, V.nv, nvL, nvL_all, nv_E124]
theorem nv_E41 (x : Acct) : (E41 x).nv = true := by
  simp [E41, V.nv, nvL, nvL_all, nv_E120, nv_E3, nv_E3, nv_E124]
theorem nv_E99 (x : List Acct) : (E99 x).nv = true := by
  simp [E99, V.nv, nvL, nvL_all, nv_E41]
theorem nv_E101 (x : Stripe) : (E101 x).nv = true := by
  simp [E101, V.nv, nvL, nvL_all, nv_E41]
theorem nv_E22 (x : List Stripe) : (E22 x).nv = true := by
  simp [E22, V.nv, nvL, nvL_all, nv_E101]
theorem nv_E104 (x : Task) : (E104 x).nv = true := by
  simp [E104, V.nv, nvL, nvL_all, nv_E5, nv_E3, nv_E5]
theorem nv_E23 (x : List Task) : (E23 x).nv = true := by
  simp [E23, V.nv, nvL, nvL_all, nv_E104]
theorem nv_E25 (x : World) : (E25 x).nv = true := by
  simp [E25, V.nv, nvL, nvL_all, nv_E101, nv_E104]
theorem nv_E4 (x : Bool) : (E4 x).nv = true := by
  simp [E4, V.nv, nvL, nvL_all]
theorem nv_E80 (x : Hold) : (E80 x).nv = true := by
  simp [E80, V.nv, nvL, nvL_all]
theorem nv_E44 (x : List Hold) : (E44 x).nv = true := by
  simp [E44, V.nv, nvL, nvL_all, nv_E80]
theorem nv_E45 (x : Ring) : (E45 x).nv = true := by
  simp [E45, V.nv, nvL, nvL_all, nv_E3, nv_E3]
theorem nv_E135 (x : Slot) : (E135 x).nv = true := by
  simp [E135, V.nv, nvL, nvL_all, nv_E5]
theorem nv_E46 (x : List Slot) : (E46 x).nv = true := by
  simp [E46, V.nv, nvL, nvL_all, nv_E135]
theorem nv_E48 (x : Acct) : (E48 x).nv = true := by
  simp [E48, V.nv, nvL, nvL_all, nv_E80, nv_E3, nv_E3, nv_E135]
theorem nv_E62 (x : List Acct) : (E62 x).nv = true := by
  simp [E62, V.nv, nvL, nvL_all, nv_E48]
theorem nv_E64 (x : Stripe) : (E64 x).nv = true := by
  simp [E64, V.nv, nvL, nvL_all, nv_E48]
theorem nv_E28 (x : List Stripe) : (E28 x).nv = true := by
  simp [E28, V.nv, nvL, nvL_all, nv_E64]
theorem nv_E106 (x : Task) : (E106 x).nv = true := by
  simp [E106, V.nv, nvL, nvL_all, nv_E5, nv_E3, nv_E5]
theorem nv_E29 (x : List Task) : (E29 x).nv = true := by
  simp [E29, V.nv, nvL, nvL_all, nv_E106]
theorem nv_E31 (x : World) : (E31 x).nv = true := by
  simp [E31, V.nv, nvL, nvL_all, nv_E64, nv_E106]
theorem nv_E68 (x : List ByteArray) : (E68 x).nv = true := by
  simp [E68, V.nv, nvL, nvL_all, nv_E9]
def laws_szHold (a : Hold) (left : Int) : Option (Int) :=
 if (decide ((i64 (left - (a.Id.size : Int))) < 0)) = true then
  some (-1)
 else
  some (i64 (left - (a.Id.size : Int)))
theorem laws_szHold_ok (a : Hold) (left : Int) : Pn (fun y => Fn Tryd.prog 72 [(false, E120 a), (false, E3 left)] (E3 y) []) (laws_szHold a left) := by
  unfold laws_szHold
  exact
   Pn.ite (fun h1 =>
    Pn.some (Fn.of [.bit true] (p := [(decide ((i64 (left - (a.Id.size : Int))) < 0)) = true]) (by kernel_rfl) (cj1 h1))) (fun h1 =>
    Pn.some (Fn.of [.bit false] (p := [(decide ((i64 (left - (a.Id.size : Int))) < 0)) = false]) (by kernel_rfl) (cj1 h1)))
def laws_szHoldS_l0 (a : List Hold) : List Hold → Int → Option (Lo Int Unit)
  | [], v1 =>
   some (.out v1)
  | x1 :: t1, v1 =>
   (laws_szHold x1 v1).bind fun r1 =>
   if (decide (r1 < 0)) = true then
    some (.ret ())
   else
    laws_szHoldS_l0 a t1 r1
theorem laws_szHoldS_l0_ok (a : List Hold) (h3 : capOk a.length = true) : ∀ (t1 p1 : List Hold) (_ : a = p1 ++ t1) (v1 : Int), Pn (LpO Tryd.prog (sub (codeOf Tryd.prog 30) [1, 1, 1, 0, 1, 0, 0]) (st 27 [(0, V.sl false 120 (List.map E120 a)), (1, V.sc (.int .i64 v1)), (5, V.sc (.int .i64 (p1.length : Int)))] [] []) (fun (y : Lo Int Unit) => Lo.elim y (fun s => (X.out 0, st 27 [(1, V.sc (.int .i64 s))] [] [])) (fun s => (X.ret, st 27 [(4, V.sc (.int .i64 (-1)))] [] [])))) (laws_szHoldS_l0 a t1 v1)
  | [], p1, h2, v1 => by
    unfold laws_szHoldS_l0
    exact
     Pn.some (LpO.out [.wait 3, .nm 14 (V.sc (.int .i64 (a.length : Int))), .bit false, .mask [1], .ren []] (p := [V.sc (.int .i64 ((List.map E120 a).length : Int)) = V.sc (.int .i64 (a.length : Int)),
      (decide ((p1.length : Int) < (a.length : Int))) = false]) (by kernel_rfl) (show X.out 0 ≠ X.go from nofun) (cj (len_nm _ _) (cj1 (rng_end h2))))
  | x1 :: t1, p1, h2, v1 => by
    unfold laws_szHoldS_l0
    exact
     Pn.bind (fun r1 h4 =>
      Pn.ite (fun h5 =>
       Pn.some (LpO.out [.wait 3, .nm 14 (V.sc (.int .i64 (a.length : Int))), .bit true, .el (E120 x1), .call [] (E3 r1) [], .bit true, .wait 1, .mask [4], .ren []] (p := [V.sc (.int .i64 ((List.map E120 a).length : Int)) = V.sc (.int .i64 (a.length : Int)),
        (decide ((p1.length : Int) < (a.length : Int))) = true,
        (0 : Int) ≤ (p1.length : Int),
        (List.map E120 a)[(p1.length : Int).toNat]? = some (E120 x1),
        Fn Tryd.prog 72 [(false, E120 x1), (false, E3 v1)] (E3 r1) [],
        (true || ((E3 r1).nv && nvL [])) = true,
        (decide (r1 < 0)) = true]) (by kernel_rfl) (show X.ret ≠ X.go from nofun) (cj (len_nm _ _) (cj (rng_lt h2) (cj (by omega) (cj (rng_get _ h2) (cj (laws_szHold_ok x1 v1 r1 h4) (cj rfl (cj1 h5))))))))) (fun h5 =>
       LpO.go [.wait 3, .nm 14 (V.sc (.int .i64 (a.length : Int))), .bit true, .el (E120 x1), .call [] (E3 r1) [], .bit false, .wait 3, .mask [0, 1, 5], .ren [], .nm 5 (V.sc (.int .i64 ((p1 ++ [x1]).length : Int)))] (p := [V.sc (.int .i64 ((List.map E120 a).length : Int)) = V.sc (.int .i64 (a.length : Int)),
        (decide ((p1.length : Int) < (a.length : Int))) = true,
        (0 : Int) ≤ (p1.length : Int),
        (List.map E120 a)[(p1.length : Int).toNat]? = some (E120 x1),
        Fn Tryd.prog 72 [(false, E120 x1), (false, E3 v1)] (E3 r1) [],
        (true || ((E3 r1).nv && nvL [])) = true,
        (decide (r1 < 0)) = false,
        V.sc (.int .i64 (i64 ((p1.length : Int) + 1))) = V.sc (.int .i64 ((p1 ++ [x1]).length : Int))]) (by kernel_rfl) (cj (len_nm _ _) (cj (rng_lt h2) (cj (by omega) (cj (rng_get _ h2) (cj (laws_szHold_ok x1 v1 r1 h4) (cj rfl (cj h5 (cj1 (rng_next h2 h3))))))))) (laws_szHoldS_l0_ok a h3 t1 (p1 ++ [x1]) (rng_step h2) r1)))
def laws_szHoldS (a : List Hold) (left : Int) : Option (Int) :=
 if (decide ((i64 (left - (a.length : Int))) < 0)) = true then
  some (-1)
 else
  if (capOk a.length) = true then
   (laws_szHoldS_l0 a a (i64 (left - (a.length : Int)))).bind fun r2 =>
   Lo.elim r2 (fun s1 =>
    some s1) (fun s2 =>
    some (-1))
  else none
theorem laws_szHoldS_ok (a : List Hold) (left : Int) : Pn (fun y => Fn Tryd.prog 30 [(false, E35 a), (false, E3 left)] (E3 y) []) (laws_szHoldS a left) := by
  unfold laws_szHoldS
  exact
   Pn.ite (fun h1 =>
    Pn.some (Fn.of [.wait 4, .nm 8 (V.sc (.int .i64 (a.length : Int))), .bit true] (p := [V.sc (.int .i64 ((List.map E120 a).length : Int)) = V.sc (.int .i64 (a.length : Int)),
     (decide ((i64 (left - (a.length : Int))) < 0)) = true]) (by kernel_rfl) (cj (len_nm _ _) (cj1 h1)))) (fun h1 =>
    Pn.ite (fun h6 =>
     Pn.bind (fun r2 h7 =>
      Pn.lo (fun s1 h8 =>
       Pn.some (Fn.of [.wait 4, .nm 8 (V.sc (.int .i64 (a.length : Int))), .bit false, .wait 1, .mask [0, 1, 5], .ren [], .loop (X.out 0) (st 27 [(1, V.sc (.int .i64 s1))] [] [])] (p := [V.sc (.int .i64 ((List.map E120 a).length : Int)) = V.sc (.int .i64 (a.length : Int)),
        (decide ((i64 (left - (a.length : Int))) < 0)) = false,
        Loop Tryd.prog (sub (codeOf Tryd.prog 30) [1, 1, 1, 0, 1, 0, 0]) (st 27 [(0, V.sl false 120 (List.map E120 a)), (1, V.sc (.int .i64 (i64 (left - (a.length : Int))))), (5, V.sc (.int .i64 0))] [] []) (X.out 0) (st 27 [(1, V.sc (.int .i64 s1))] [] [])]) (by kernel_rfl) (cj (len_nm _ _) (cj h1 (cj1 ((laws_szHoldS_l0_ok a h6 a [] rfl (i64 (left - (a.length : Int))) r2 h7).at h8)))))) (fun s2 h9 =>
       Pn.some (Fn.of [.wait 4, .nm 8 (V.sc (.int .i64 (a.length : Int))), .bit false, .wait 1, .mask [0, 1, 5], .ren [], .loop (X.ret) (st 27 [(4, V.sc (.int .i64 (-1)))] [] [])] (p := [V.sc (.int .i64 ((List.map E120 a).length : Int)) = V.sc (.int .i64 (a.length : Int)),
        (decide ((i64 (left - (a.length : Int))) < 0)) = false,
        Loop Tryd.prog (sub (codeOf Tryd.prog 30) [1, 1, 1, 0, 1, 0, 0]) (st 27 [(0, V.sl false 120 (List.map E120 a)), (1, V.sc (.int .i64 (i64 (left - (a.length : Int))))), (5, V.sc (.int .i64 0))] [] []) (X.ret) (st 27 [(4, V.sc (.int .i64 (-1)))] [] [])]) (by kernel_rfl) (cj (len_nm _ _) (cj h1 (cj1 ((laws_szHoldS_l0_ok a h6 a [] rfl (i64 (left - (a.length : Int))) r2 h7).at h9)))))))) (fun h6 =>
     Pn.none))
def laws_szIntS (a : List Int) (left : Int) : Option (Int) :=
 if (decide ((i64 (left - (a.length : Int))) < 0)) = true then
  some (-1)
 else
  some (i64 (left - (a.length : Int)))
theorem laws_szIntS_ok (a : List Int) (left : Int) : Pn (fun y => Fn Tryd.prog 73 [(false, E36 a), (false, E3 left)] (E3 y) []) (laws_szIntS a left) := by
  unfold laws_szIntS
  exact
   Pn.ite (fun h1 =>
    Pn.some (Fn.of [.wait 4, .nm 7 (V.sc (.int .i64 (a.length : Int))), .bit true] (p := [V.sc (.int .i64 ((List.map E3 a).length : Int)) = V.sc (.int .i64 (a.length : Int)),
     (decide ((i64 (left - (a.length : Int))) < 0)) = true]) (by kernel_rfl) (cj (len_nm _ _) (cj1 h1)))) (fun h1 =>
    Pn.some (Fn.of [.wait 4, .nm 7 (V.sc (.int .i64 (a.length : Int))), .bit false] (p := [V.sc (.int .i64 ((List.map E3 a).length : Int)) = V.sc (.int .i64 (a.length : Int)),
     (decide ((i64 (left - (a.length : Int))) < 0)) = false]) (by kernel_rfl) (cj (len_nm _ _) (cj1 h1))))
def laws_szRing (a : Ring) (left : Int) : Option (Int) :=
 (laws_szIntS a.Counts left).bind fun r1 =>
 if (decide (r1 < 0)) = true then
  some (-1)
 else
  (laws_szIntS a.Sums r1).bind fun r2 =>
  if (decide (r2 < 0)) = true then
   some (-1)
  else
   some r2
theorem laws_szRing_ok (a : Ring) (left : Int) : Pn (fun y => Fn Tryd.prog 31 [(false, E38 a), (false, E3 left)] (E3 y) []) (laws_szRing a left) := by
  unfold laws_szRing
  exact
   Pn.bind (fun r1 h1 =>
    Pn.ite (fun h2 =>
     Pn.some (Fn.of [.call [] (E3 r1) [], .bit true] (p := [Fn Tryd.prog 73 [(false, E36 a.Counts), (false, E3 left)] (E3 r1) [],
      (true || ((E3 r1).nv && nvL [])) = true,
      (decide (r1 < 0)) = true]) (by kernel_rfl) (cj (laws_szIntS_ok a.Counts left r1 h1) (cj rfl (cj1 h2))))) (fun h2 =>
     Pn.bind (fun r2 h3 =>
      Pn.ite (fun h4 =>
       Pn.some (Fn.of [.call [] (E3 r1) [], .bit false, .call [] (E3 r2) [], .bit true] (p := [Fn Tryd.prog 73 [(false, E36 a.Counts), (false, E3 left)] (E3 r1) [],
        (true || ((E3 r1).nv && nvL [])) = true,
        (decide (r1 < 0)) = false,
        Fn Tryd.prog 73 [(false, E36 a.Sums), (false, E3 r1)] (E3 r2) [],
        (true || ((E3 r2).nv && nvL [])) = true,
        (decide (r2 < 0)) = true]) (by kernel_rfl) (cj (laws_szIntS_ok a.Counts left r1 h1) (cj rfl (cj h2 (cj (laws_szIntS_ok a.Sums r1 r2 h3) (cj rfl (cj1 h4)))))))) (fun h4 =>
       Pn.some (Fn.of [.call [] (E3 r1) [], .bit false, .call [] (E3 r2) [], .bit false] (p := [Fn Tryd.prog 73 [(false, E36 a.Counts), (false, E3 left)] (E3 r1) [],
        (true || ((E3 r1).nv && nvL [])) = true,
        (decide (r1 < 0)) = false,
        Fn Tryd.prog 73 [(false, E36 a.Sums), (false, E3 r1)] (E3 r2) [],
        (true || ((E3 r2).nv && nvL [])) = true,
        (decide (r2 < 0)) = false]) (by kernel_rfl) (cj (laws_szIntS_ok a.Counts left r1 h1) (cj rfl (cj h2 (cj (laws_szIntS_ok a.Sums r1 r2 h3) (cj rfl (cj1 h4)))))))))))
def laws_szByteS (a : List Int) (left : Int) : Option (Int) :=
 if (decide ((i64 (left - (a.length : Int))) < 0)) = true then
  some (-1)
 else
  some (i64 (left - (a.length : Int)))
theorem laws_szByteS_ok (a : List Int) (left : Int) : Pn (fun y => Fn Tryd.prog 113 [(false, E52 a), (false, E3 left)] (E3 y) []) (laws_szByteS a left) := by
  unfold laws_szByteS
  exact
   Pn.ite (fun h1 =>
    Pn.some (Fn.of [.wait 4, .nm 7 (V.sc (.int .i64 (a.length : Int))), .bit true] (p := [V.sc (.int .i64 ((List.map E5 a).length : Int)) = V.sc (.int .i64 (a.length : Int)),
     (decide ((i64 (left - (a.length : Int))) < 0)) = true]) (by kernel_rfl) (cj (len_nm _ _) (cj1 h1)))) (fun h1 =>
    Pn.some (Fn.of [.wait 4, .nm 7 (V.sc (.int .i64 (a.length : Int))), .bit false] (p := [V.sc (.int .i64 ((List.map E5 a).length : Int)) = V.sc (.int .i64 (a.length : Int)),
     (decide ((i64 (left - (a.length : Int))) < 0)) = false]) (by kernel_rfl) (cj (len_nm _ _) (cj1 h1))))
def laws_szSlot (a : Slot) (left : Int) : Option (Int) :=
 if (decide ((i64 (left - (a.Trace.size : Int))) < 0)) = true then
  some (-1)
 else
  if (decide ((i64 ((i64 (left - (a.Trace.size : Int))) - (a.Mti.size : Int))) < 0)) = true then
   some (-1)
  else
   (laws_szByteS a.Reply (i64 ((i64 (left - (a.Trace.size : Int))) - (a.Mti.size : Int)))).bind fun r1 =>
   if (decide (r1 < 0)) = true then
    some (-1)
   else
    some r1
theorem laws_szSlot_ok (a : Slot) (left : Int) : Pn (fun y => Fn Tryd.prog 74 [(false, E124 a), (false, E3 left)] (E3 y) []) (laws_szSlot a left) := by
  unfold laws_szSlot
  exact
   Pn.ite (fun h1 =>
    Pn.some (Fn.of [.bit true] (p := [(decide ((i64 (left - (a.Trace.size : Int))) < 0)) = true]) (by kernel_rfl) (cj1 h1))) (fun h1 =>
    Pn.ite (fun h2 =>
     Pn.some (Fn.of [.bit false, .bit true] (p := [(decide ((i64 (left - (a.Trace.size : Int))) < 0)) = false,
      (decide ((i64 ((i64 (left - (a.Trace.size : Int))) - (a.Mti.size : Int))) < 0)) = true]) (by kernel_rfl) (cj h1 (cj1 h2)))) (fun h2 =>
     Pn.bind (fun r1 h3 =>
      Pn.ite (fun h4 =>
       Pn.some (Fn.of [.bit false, .bit false, .call [] (E3 r1) [], .bit true] (p := [(decide ((i64 (left - (a.Trace.size : Int))) < 0)) = false,
        (decide ((i64 ((i64 (left - (a.Trace.size : Int))) - (a.Mti.size : Int))) < 0)) = false,
        Fn Tryd.prog 113 [(false, E52 a.Reply), (false, E3 (i64 ((i64 (left - (a.Trace.size : Int))) - (a.Mti.size : Int))))] (E3 r1) [],
        (true || ((E3 r1).nv && nvL [])) = true,
        (decide (r1 < 0)) = true]) (by kernel_rfl) (cj h1 (cj h2 (cj (laws_szByteS_ok a.Reply (i64 ((i64 (left - (a.Trace.size : Int))) - (a.Mti.size : Int))) r1 h3) (cj rfl (cj1 h4))))))) (fun h4 =>
       Pn.some (Fn.of [.bit false, .bit false, .call [] (E3 r1) [], .bit false] (p := [(decide ((i64 (left - (a.Trace.size : Int))) < 0)) = false,
        (decide ((i64 ((i64 (left - (a.Trace.size : Int))) - (a.Mti.size : Int))) < 0)) = false,
        Fn Tryd.prog 113 [(false, E52 a.Reply), (false, E3 (i64 ((i64 (left - (a.Trace.size : Int))) - (a.Mti.size : Int))))] (E3 r1) [],
        (true || ((E3 r1).nv && nvL [])) = true,
        (decide (r1 < 0)) = false]) (by kernel_rfl) (cj h1 (cj h2 (cj (laws_szByteS_ok a.Reply (i64 ((i64 (left - (a.Trace.size : Int))) - (a.Mti.size : Int))) r1 h3) (cj rfl (cj1 h4))))))))))
def laws_szSlotS_l0 (a : List Slot) : List Slot → Int → Option (Lo Int Unit)
  | [], v1 =>
   some (.out v1)
  | x1 :: t1, v1 =>
   (laws_szSlot x1 v1).bind fun r1 =>
   if (decide (r1 < 0)) = true then
    some (.ret ())
   else
    laws_szSlotS_l0 a t1 r1
theorem laws_szSlotS_l0_ok (a : List Slot) (h3 : capOk a.length = true) : ∀ (t1 p1 : List Slot) (_ : a = p1 ++ t1) (v1 : Int), Pn (LpO Tryd.prog (sub (codeOf Tryd.prog 32) [1, 1, 1, 0, 1, 0, 0]) (st 27 [(0, V.sl false 124 (List.map E124 a)), (1, V.sc (.int .i64 v1)), (5, V.sc (.int .i64 (p1.length : Int)))] [] []) (fun (y : Lo Int Unit) => Lo.elim y (fun s => (X.out 0, st 27 [(1, V.sc (.int .i64 s))] [] [])) (fun s => (X.ret, st 27 [(4, V.sc (.int .i64 (-1)))] [] [])))) (laws_szSlotS_l0 a t1 v1)
  | [], p1, h2, v1 => by
    unfold laws_szSlotS_l0
    exact
     Pn.some (LpO.out [.wait 3, .nm 14 (V.sc (.int .i64 (a.length : Int))), .bit false, .mask [1], .ren []] (p := [V.sc (.int .i64 ((List.map E124 a).length : Int)) = V.sc (.int .i64 (a.length : Int)),
      (decide ((p1.length : Int) < (a.length : Int))) = false]) (by kernel_rfl) (show X.out 0 ≠ X.go from nofun) (cj (len_nm _ _) (cj1 (rng_end h2))))
  | x1 :: t1, p1, h2, v1 => by
    unfold laws_szSlotS_l0
    exact
     Pn.bind (fun r1 h4 =>
      Pn.ite (fun h5 =>
       Pn.some (LpO.out [.wait 3, .nm 14 (V.sc (.int .i64 (a.length : Int))), .bit true, .el (E124 x1), .call [] (E3 r1) [], .bit true, .wait 1, .mask [4], .ren []] (p := [V.sc (.int .i64 ((List.map E124 a).length : Int)) = V.sc (.int .i64 (a.length : Int)),
        (decide ((p1.length : Int) < (a.length : Int))) = true,
        (0 : Int) ≤ (p1.length : Int),
        (List.map E124 a)[(p1.length : Int).toNat]? = some (E124 x1),
        Fn Tryd.prog 74 [(false, E124 x1), (false, E3 v1)] (E3 r1) [],
        (true || ((E3 r1).nv && nvL [])) = true,
        (decide (r1 < 0)) = true]) (by kernel_rfl) (show X.ret ≠ X.go from nofun) (cj (len_nm _ _) (cj (rng_lt h2) (cj (by omega) (cj (rng_get _ h2) (cj (laws_szSlot_ok x1 v1 r1 h4) (cj rfl (cj1 h5))))))))) (fun h5 =>
       LpO.go [.wait 3, .nm 14 (V.sc (.int .i64 (a.length : Int))), .bit true, .el (E124 x1), .call [] (E3 r1) [], .bit false, .wait 3, .mask [0, 1, 5], .ren [], .nm 5 (V.sc (.int .i64 ((p1 ++ [x1]).length : Int)))] (p := [V.sc (.int .i64 ((List.map E124 a).length : Int)) = V.sc (.int .i64 (a.length : Int)),
        (decide ((p1.length : Int) < (a.length : Int))) = true,
        (0 : Int) ≤ (p1.length : Int),
        (List.map E124 a)[(p1.length : Int).toNat]? = some (E124 x1),
        Fn Tryd.prog 74 [(false, E124 x1), (false, E3 v1)] (E3 r1) [],
        (true || ((E3 r1).nv && nvL [])) = true,
        (decide (r1 < 0)) = false,
        V.sc (.int .i64 (i64 ((p1.length : Int) + 1))) = V.sc (.int .i64 ((p1 ++ [x1]).length : Int))]) (by kernel_rfl) (cj (len_nm _ _) (cj (rng_lt h2) (cj (by omega) (cj (rng_get _ h2) (cj (laws_szSlot_ok x1 v1 r1 h4) (cj rfl (cj h5 (cj1 (rng_next h2 h3))))))))) (laws_szSlotS_l0_ok a h3 t1 (p1 ++ [x1]) (rng_step h2) r1)))
def laws_szSlotS (a : List Slot) (left : Int) : Option (Int) :=
 if (decide ((i64 (left - (a.length : Int))) < 0)) = true then
  some (-1)
 else
  if (capOk a.length) = true then
   (laws_szSlotS_l0 a a (i64 (left - (a.length : Int)))).bind fun r2 =>
   Lo.elim r2 (fun s1 =>
    some s1) (fun s2 =>
    some (-1))
  else none
theorem laws_szSlotS_ok (a : List Slot) (left : Int) : Pn (fun y => Fn Tryd.prog 32 [(false, E39 a), (false, E3 left)] (E3 y) []) (laws_szSlotS a left) := by
  unfold laws_szSlotS
  exact
   Pn.ite (fun h1 =>
    Pn.some (Fn.of [.wait 4, .nm 8 (V.sc (.int .i64 (a.length : Int))), .bit true] (p := [V.sc (.int .i64 ((List.map E124 a).length : Int)) = V.sc (.int .i64 (a.length : Int)),
     (decide ((i64 (left - (a.length : Int))) < 0)) = true]) (by kernel_rfl) (cj (len_nm _ _) (cj1 h1)))) (fun h1 =>
    Pn.ite (fun h6 =>
     Pn.bind (fun r2 h7 =>
      Pn.lo (fun s1 h8 =>
       Pn.some (Fn.of [.wait 4, .nm 8 (V.sc (.int .i64 (a.length : Int))), .bit false, .wait 1, .mask [0, 1, 5], .ren [], .loop (X.out 0) (st 27 [(1, V.sc (.int .i64 s1))] [] [])] (p := [V.sc (.int .i64 ((List.map E124 a).length : Int)) = V.sc (.int .i64 (a.length : Int)),
        (decide ((i64 (left - (a.length : Int))) < 0)) = false,
        Loop Tryd.prog (sub (codeOf Tryd.prog 32) [1, 1, 1, 0, 1, 0, 0]) (st 27 [(0, V.sl false 124 (List.map E124 a)), (1, V.sc (.int .i64 (i64 (left - (a.length : Int))))), (5, V.sc (.int .i64 0))] [] []) (X.out 0) (st 27 [(1, V.sc (.int .i64 s1))] [] [])]) (by kernel_rfl) (cj (len_nm _ _) (cj h1 (cj1 ((laws_szSlotS_l0_ok a h6 a [] rfl (i64 (left - (a.length : Int))) r2 h7).at h8)))))) (fun s2 h9 =>
       Pn.some (Fn.of [.wait 4, .nm 8 (V.sc (.int .i64 (a.length : Int))), .bit false, .wait 1, .mask [0, 1, 5], .ren [], .loop (X.ret) (st 27 [(4, V.sc (.int .i64 (-1)))] [] [])] (p := [V.sc (.int .i64 ((List.map E124 a).length : Int)) = V.sc (.int .i64 (a.length : Int)),
        (decide ((i64 (left - (a.length : Int))) < 0)) = false,
        Loop Tryd.prog (sub (codeOf Tryd.prog 32) [1, 1, 1, 0, 1, 0, 0]) (st 27 [(0, V.sl false 124 (List.map E124 a)), (1, V.sc (.int .i64 (i64 (left - (a.length : Int))))), (5, V.sc (.int .i64 0))] [] []) (X.ret) (st 27 [(4, V.sc (.int .i64 (-1)))] [] [])]) (by kernel_rfl) (cj (len_nm _ _) (cj h1 (cj1 ((laws_szSlotS_l0_ok a h6 a [] rfl (i64 (left - (a.length : Int))) r2 h7).at h9)))))))) (fun h6 =>
     Pn.none))
def laws_szAcct (a : Acct) (left : Int) : Option (Int) :=
 if (decide ((i64 (left - (a.Id.size : Int))) < 0)) = true then
  some (-1)
 else
  (laws_szHoldS a.Holds (i64 (left - (a.Id.size : Int)))).bind fun r1 =>
  if (decide (r1 < 0)) = true then
   some (-1)
  else
   (laws_szRing a.Ring r1).bind fun r2 =>
   if (decide (r2 < 0)) = true then
    some (-1)
   else
    (laws_szSlotS a.Slots r2).bind fun r3 =>
    if (decide (r3 < 0)) = true then
     some (-1)
    else
     some r3
theorem laws_szAcct_ok (a : Acct) (left : Int) : Pn (fun y => Fn Tryd.prog 11 [(false, E41 a), (false, E3 left)] (E3 y) []) (laws_szAcct a left) := by
  unfold laws_szAcct
  exact
   Pn.ite (fun h1 =>
    Pn.some (Fn.of [.bit true] (p := [(decide ((i64 (left - (a.Id.size : Int))) < 0)) = true]) (by kernel_rfl) (cj1 h1))) (fun h1 =>
    Pn.bind (fun r1 h2 =>
     Pn.ite (fun h3 =>
      Pn.some (Fn.of [.bit false, .call [] (E3 r1) [], .bit true] (p := [(decide ((i64 (left - (a.Id.size : Int))) < 0)) = false,
       Fn Tryd.prog 30 [(false, E35 a.Holds), (false, E3 (i64 (left - (a.Id.size : Int))))] (E3 r1) [],
       (true || ((E3 r1).nv && nvL [])) = true,
       (decide (r1 < 0)) = true]) (by kernel_rfl) (cj h1 (cj (laws_szHoldS_ok a.Holds (i64 (left - (a.Id.size : Int))) r1 h2) (cj rfl (cj1 h3)))))) (fun h3 =>
      Pn.bind (fun r2 h4 =>
       Pn.ite (fun h5 =>
        Pn.some (Fn.of [.bit false, .call [] (E3 r1) [], .bit false, .call [] (E3 r2) [], .bit true] (p := [(decide ((i64 (left - (a.Id.size : Int))) < 0)) = false,
         Fn Tryd.prog 30 [(false, E35 a.Holds), (false, E3 (i64 (left - (a.Id.size : Int))))] (E3 r1) [],
         (true || ((E3 r1).nv && nvL [])) = true,
         (decide (r1 < 0)) = false,
         Fn Tryd.prog 31 [(false, E38 a.Ring), (false, E3 r1)] (E3 r2) [],
         (true || ((E3 r2).nv && nvL [])) = true,
         (decide (r2 < 0)) = true]) (by kernel_rfl) (cj h1 (cj (laws_szHoldS_ok a.Holds (i64 (left - (a.Id.size : Int))) r1 h2) (cj rfl (cj h3 (cj (laws_szRing_ok a.Ring r1 r2 h4) (cj rfl (cj1 h5))))))))) (fun h5 =>
        Pn.bind (fun r3 h6 =>
         Pn.ite (fun h7 =>
          Pn.some (Fn.of [.bit false, .call [] (E3 r1) [], .bit false, .call [] (E3 r2) [], .bit false, .call [] (E3 r3) [], .bit true] (p := [(decide ((i64 (left - (a.Id.size : Int))) < 0)) = false,
           Fn Tryd.prog 30 [(false, E35 a.Holds), (false, E3 (i64 (left - (a.Id.size : Int))))] (E3 r1) [],
           (true || ((E3 r1).nv && nvL [])) = true,
           (decide (r1 < 0)) = false,
           Fn Tryd.prog 31 [(false, E38 a.Ring), (false, E3 r1)] (E3 r2) [],
           (true || ((E3 r2).nv && nvL [])) = true,
           (decide (r2 < 0)) = false,
           Fn Tryd.prog 32 [(false, E39 a.Slots), (false, E3 r2)] (E3 r3) [],
           (true || ((E3 r3).nv && nvL [])) = true,
           (decide (r3 < 0)) = true]) (by kernel_rfl) (cj h1 (cj (laws_szHoldS_ok a.Holds (i64 (left - (a.Id.size : Int))) r1 h2) (cj rfl (cj h3 (cj (laws_szRing_ok a.Ring r1 r2 h4) (cj rfl (cj h5 (cj (laws_szSlotS_ok a.Slots r2 r3 h6) (cj rfl (cj1 h7)))))))))))) (fun h7 =>
          Pn.some (Fn.of [.bit false, .call [] (E3 r1) [], .bit false, .call [] (E3 r2) [], .bit false, .call [] (E3 r3) [], .bit false] (p := [(decide ((i64 (left - (a.Id.size : Int))) < 0)) = false,
           Fn Tryd.prog 30 [(false, E35 a.Holds), (false, E3 (i64 (left - (a.Id.size : Int))))] (E3 r1) [],
           (true || ((E3 r1).nv && nvL [])) = true,
           (decide (r1 < 0)) = false,
           Fn Tryd.prog 31 [(false, E38 a.Ring), (false, E3 r1)] (E3 r2) [],
           (true || ((E3 r2).nv && nvL [])) = true,
           (decide (r2 < 0)) = false,
           Fn Tryd.prog 32 [(false, E39 a.Slots), (false, E3 r2)] (E3 r3) [],
           (true || ((E3 r3).nv && nvL [])) = true,
           (decide (r3 < 0)) = false]) (by kernel_rfl) (cj h1 (cj (laws_szHoldS_ok a.Holds (i64 (left - (a.Id.size : Int))) r1 h2) (cj rfl (cj h3 (cj (laws_szRing_ok a.Ring r1 r2 h4) (cj rfl (cj h5 (cj (laws_szSlotS_ok a.Slots r2 r3 h6) (cj rfl (cj1 h7))))))))))))))))))
def laws_szAcctS_l0 (a : List Acct) : List Acct → Int → Option (Lo Int Unit)
  | [], v1 =>
   some (.out v1)
  | x1 :: t1, v1 =>
   (laws_szAcct x1 v1).bind fun r1 =>
   if (decide (r1 < 0)) = true then
    some (.ret ())
   else
    laws_szAcctS_l0 a t1 r1
theorem laws_szAcctS_l0_ok (a : List Acct) (h3 : capOk a.length = true) : ∀ (t1 p1 : List Acct) (_ : a = p1 ++ t1) (v1 : Int), Pn (LpO Tryd.prog (sub (codeOf Tryd.prog 112) [1, 1, 1, 0, 1, 0, 0]) (st 27 [(0, V.sl false 41 (List.map E41 a)), (1, V.sc (.int .i64 v1)), (5, V.sc (.int .i64 (p1.length : Int)))] [] []) (fun (y : Lo Int Unit) => Lo.elim y (fun s => (X.out 0, st 27 [(1, V.sc (.int .i64 s))] [] [])) (fun s => (X.ret, st 27 [(4, V.sc (.int .i64 (-1)))] [] [])))) (laws_szAcctS_l0 a t1 v1)
  | [], p1, h2, v1 => by
    unfold laws_szAcctS_l0
    exact
     Pn.some (LpO.out [.wait 3, .nm 14 (V.sc (.int .i64 (a.length : Int))), .bit false, .mask [1], .ren []] (p := [V.sc (.int .i64 ((List.map E41 a).length : Int)) = V.sc (.int .i64 (a.length : Int)),
      (decide ((p1.length : Int) < (a.length : Int))) = false]) (by kernel_rfl) (show X.out 0 ≠ X.go from nofun) (cj (len_nm _ _) (cj1 (rng_end h2))))
  | x1 :: t1, p1, h2, v1 => by
    unfold laws_szAcctS_l0
    exact
     Pn.bind (fun r1 h4 =>
      Pn.ite (fun h5 =>
       Pn.some (LpO.out [.wait 3, .nm 14 (V.sc (.int .i64 (a.length : Int))), .bit true, .el (E41 x1), .call [] (E3 r1) [], .bit true, .wait 1, .mask [4], .ren []] (p := [V.sc (.int .i64 ((List.map E41 a).length : Int)) = V.sc (.int .i64 (a.length : Int)),
        (decide ((p1.length : Int) < (a.length : Int))) = true,
        (0 : Int) ≤ (p1.length : Int),
        (List.map E41 a)[(p1.length : Int).toNat]? = some (E41 x1),
        Fn Tryd.prog 11 [(false, E41 x1), (false, E3 v1)] (E3 r1) [],
        (true || ((E3 r1).nv && nvL [])) = true,
        (decide (r1 < 0)) = true]) (by kernel_rfl) (show X.ret ≠ X.go from nofun) (cj (len_nm _ _) (cj (rng_lt h2) (cj (by omega) (cj (rng_get _ h2) (cj (laws_szAcct_ok x1 v1 r1 h4) (cj rfl (cj1 h5))))))))) (fun h5 =>
       LpO.go [.wait 3, .nm 14 (V.sc (.int .i64 (a.length : Int))), .bit true, .el (E41 x1), .call [] (E3 r1) [], .bit false, .wait 3, .mask [0, 1, 5], .ren [], .nm 5 (V.sc (.int .i64 ((p1 ++ [x1]).length : Int)))] (p := [V.sc (.int .i64 ((List.map E41 a).length : Int)) = V.sc (.int .i64 (a.length : Int)),
        (decide ((p1.length : Int) < (a.length : Int))) = true,
        (0 : Int) ≤ (p1.length : Int),
        (List.map E41 a)[(p1.length : Int).toNat]? = some (E41 x1),
        Fn Tryd.prog 11 [(false, E41 x1), (false, E3 v1)] (E3 r1) [],
        (true || ((E3 r1).nv && nvL [])) = true,
        (decide (r1 < 0)) = false,
        V.sc (.int .i64 (i64 ((p1.length : Int) + 1))) = V.sc (.int .i64 ((p1 ++ [x1]).length : Int))]) (by kernel_rfl) (cj (len_nm _ _) (cj (rng_lt h2) (cj (by omega) (cj (rng_get _ h2) (cj (laws_szAcct_ok x1 v1 r1 h4) (cj rfl (cj h5 (cj1 (rng_next h2 h3))))))))) (laws_szAcctS_l0_ok a h3 t1 (p1 ++ [x1]) (rng_step h2) r1)))
def laws_szAcctS (a : List Acct) (left : Int) : Option (Int) :=
 if (decide ((i64 (left - (a.length : Int))) < 0)) = true then
  some (-1)
 else
  if (capOk a.length) = true then
   (laws_szAcctS_l0 a a (i64 (left - (a.length : Int)))).bind fun r2 =>
   Lo.elim r2 (fun s1 =>
    some s1) (fun s2 =>
    some (-1))
  else none
theorem laws_szAcctS_ok (a : List Acct) (left : Int) : Pn (fun y => Fn Tryd.prog 112 [(false, E99 a), (false, E3 left)] (E3 y) []) (laws_szAcctS a left) := by
  unfold laws_szAcctS
  exact
   Pn.ite (fun h1 =>
    Pn.some (Fn.of [.wait 4, .nm 8 (V.sc (.int .i64 (a.length : Int))), .bit true] (p := [V.sc (.int .i64 ((List.map E41 a).length : Int)) = V.sc (.int .i64 (a.length : Int)),
     (decide ((i64 (left - (a.length : Int))) < 0)) = true]) (by kernel_rfl) (cj (len_nm _ _) (cj1 h1)))) (fun h1 =>
    Pn.ite (fun h6 =>
     Pn.bind (fun r2 h7 =>
      Pn.lo (fun s1 h8 =>
       Pn.some (Fn.of [.wait 4, .nm 8 (V.sc (.int .i64 (a.length : Int))), .bit false, .wait 1, .mask [0, 1, 5], .ren [], .loop (X.out 0) (st 27 [(1, V.sc (.int .i64 s1))] [] [])] (p := [V.sc (.int .i64 ((List.map E41 a).length : Int)) = V.sc (.int .i64 (a.length : Int)),
        (decide ((i64 (left - (a.length : Int))) < 0)) = false,
        Loop Tryd.prog (sub (codeOf Tryd.prog 112) [1, 1, 1, 0, 1, 0, 0]) (st 27 [(0, V.sl false 41 (List.map E41 a)), (1, V.sc (.int .i64 (i64 (left - (a.length : Int))))), (5, V.sc (.int .i64 0))] [] []) (X.out 0) (st 27 [(1, V.sc (.int .i64 s1))] [] [])]) (by kernel_rfl) (cj (len_nm _ _) (cj h1 (cj1 ((laws_szAcctS_l0_ok a h6 a [] rfl (i64 (left - (a.length : Int))) r2 h7).at h8)))))) (fun s2 h9 =>
       Pn.some (Fn.of [.wait 4, .nm 8 (V.sc (.int .i64 (a.length : Int))), .bit false, .wait 1, .mask [0, 1, 5], .ren [], .loop (X.ret) (st 27 [(4, V.sc (.int .i64 (-1)))] [] [])] (p := [V.sc (.int .i64 ((List.map E41 a).length : Int)) = V.sc (.int .i64 (a.length : Int)),
        (decide ((i64 (left - (a.length : Int))) < 0)) = false,
        Loop Tryd.prog (sub (codeOf Tryd.prog 112) [1, 1, 1, 0, 1, 0, 0]) (st 27 [(0, V.sl false 41 (List.map E41 a)), (1, V.sc (.int .i64 (i64 (left - (a.length : Int))))), (5, V.sc (.int .i64 0))] [] []) (X.ret) (st 27 [(4, V.sc (.int .i64 (-1)))] [] [])]) (by kernel_rfl) (cj (len_nm _ _) (cj h1 (cj1 ((laws_szAcctS_l0_ok a h6 a [] rfl (i64 (left - (a.length : Int))) r2 h7).at h9)))))))) (fun h6 =>
     Pn.none))
def laws_szStripe (a : Stripe) (left : Int) : Option (Int) :=
 (laws_szAcctS a.Accts left).bind fun r1 =>
 if (decide (r1 < 0)) = true then
  some (-1)
 else
  some r1
theorem laws_szStripe_ok (a : Stripe) (left : Int) : Pn (fun y => Fn Tryd.prog 60 [(false, E101 a), (false, E3 left)] (E3 y) []) (laws_szStripe a left) := by
  unfold laws_szStripe
  exact
   Pn.bind (fun r1 h1 =>
    Pn.ite (fun h2 =>
     Pn.some (Fn.of [.call [] (E3 r1) [], .bit true] (p := [Fn Tryd.prog 112 [(false, E99 a.Accts), (false, E3 left)] (E3 r1) [],
      (true || ((E3 r1).nv && nvL [])) = true,
      (decide (r1 < 0)) = true]) (by kernel_rfl) (cj (laws_szAcctS_ok a.Accts left r1 h1) (cj rfl (cj1 h2))))) (fun h2 =>
     Pn.some (Fn.of [.call [] (E3 r1) [], .bit false] (p := [Fn Tryd.prog 112 [(false, E99 a.Accts), (false, E3 left)] (E3 r1) [],
      (true || ((E3 r1).nv && nvL [])) = true,
      (decide (r1 < 0)) = false]) (by kernel_rfl) (cj (laws_szAcctS_ok a.Accts left r1 h1) (cj rfl (cj1 h2))))))
def laws_szStripeS_l0 (a : List Stripe) : List Stripe → Int → Option (Lo Int Unit)
  | [], v1 =>
   some (.out v1)
  | x1 :: t1, v1 =>
   (laws_szStripe x1 v1).bind fun r1 =>
   if (decide (r1 < 0)) = true then
    some (.ret ())
   else
    laws_szStripeS_l0 a t1 r1
theorem laws_szStripeS_l0_ok (a : List Stripe) (h3 : capOk a.length = true) : ∀ (t1 p1 : List Stripe) (_ : a = p1 ++ t1) (v1 : Int), Pn (LpO Tryd.prog (sub (codeOf Tryd.prog 21) [1, 1, 1, 0, 1, 0, 0]) (st 27 [(0, V.sl false 101 (List.map E101 a)), (1, V.sc (.int .i64 v1)), (5, V.sc (.int .i64 (p1.length : Int)))] [] []) (fun (y : Lo Int Unit) => Lo.elim y (fun s => (X.out 0, st 27 [(1, V.sc (.int .i64 s))] [] [])) (fun s => (X.ret, st 27 [(4, V.sc (.int .i64 (-1)))] [] [])))) (laws_szStripeS_l0 a t1 v1)
  | [], p1, h2, v1 => by
    unfold laws_szStripeS_l0
    exact
     Pn.some (LpO.out [.wait 3, .nm 14 (V.sc (.int .i64 (a.length : Int))), .bit false, .mask [1], .ren []] (p := [V.sc (.int .i64 ((List.map E101 a).length : Int)) = V.sc (.int .i64 (a.length : Int)),
      (decide ((p1.length : Int) < (a.length : Int))) = false]) (by kernel_rfl) (show X.out 0 ≠ X.go from nofun) (cj (len_nm _ _) (cj1 (rng_end h2))))
  | x1 :: t1, p1, h2, v1 => by
    unfold laws_szStripeS_l0
    exact
     Pn.bind (fun r1 h4 =>
      Pn.ite (fun h5 =>
       Pn.some (LpO.out [.wait 3, .nm 14 (V.sc (.int .i64 (a.length : Int))), .bit true, .el (E101 x1), .call [] (E3 r1) [], .bit true, .wait 1, .mask [4], .ren []] (p := [V.sc (.int .i64 ((List.map E101 a).length : Int)) = V.sc (.int .i64 (a.length : Int)),
        (decide ((p1.length : Int) < (a.length : Int))) = true,
        (0 : Int) ≤ (p1.length : Int),
        (List.map E101 a)[(p1.length : Int).toNat]? = some (E101 x1),
        Fn Tryd.prog 60 [(false, E101 x1), (false, E3 v1)] (E3 r1) [],
        (true || ((E3 r1).nv && nvL [])) = true,
        (decide (r1 < 0)) = true]) (by kernel_rfl) (show X.ret ≠ X.go from nofun) (cj (len_nm _ _) (cj (rng_lt h2) (cj (by omega) (cj (rng_get _ h2) (cj (laws_szStripe_ok x1 v1 r1 h4) (cj rfl (cj1 h5))))))))) (fun h5 =>
       LpO.go [.wait 3, .nm 14 (V.sc (.int .i64 (a.length : Int))), .bit true, .el (E101 x1), .call [] (E3 r1) [], .bit false, .wait 3, .mask [0, 1, 5], .ren [], .nm 5 (V.sc (.int .i64 ((p1 ++ [x1]).length : Int)))] (p := [V.sc (.int .i64 ((List.map E101 a).length : Int)) = V.sc (.int .i64 (a.length : Int)),
        (decide ((p1.length : Int) < (a.length : Int))) = true,
        (0 : Int) ≤ (p1.length : Int),
        (List.map E101 a)[(p1.length : Int).toNat]? = some (E101 x1),
        Fn Tryd.prog 60 [(false, E101 x1), (false, E3 v1)] (E3 r1) [],
        (true || ((E3 r1).nv && nvL [])) = true,
        (decide (r1 < 0)) = false,
        V.sc (.int .i64 (i64 ((p1.length : Int) + 1))) = V.sc (.int .i64 ((p1 ++ [x1]).length : Int))]) (by kernel_rfl) (cj (len_nm _ _) (cj (rng_lt h2) (cj (by omega) (cj (rng_get _ h2) (cj (laws_szStripe_ok x1 v1 r1 h4) (cj rfl (cj h5 (cj1 (rng_next h2 h3))))))))) (laws_szStripeS_l0_ok a h3 t1 (p1 ++ [x1]) (rng_step h2) r1)))
def laws_szStripeS (a : List Stripe) (left : Int) : Option (Int) :=
 if (decide ((i64 (left - (a.length : Int))) < 0)) = true then
  some (-1)
 else
  if (capOk a.length) = true then
   (laws_szStripeS_l0 a a (i64 (left - (a.length : Int)))).bind fun r2 =>
   Lo.elim r2 (fun s1 =>
    some s1) (fun s2 =>
    some (-1))
  else none
theorem laws_szStripeS_ok (a : List Stripe) (left : Int) : Pn (fun y => Fn Tryd.prog 21 [(false, E22 a), (false, E3 left)] (E3 y) []) (laws_szStripeS a left) := by
  unfold laws_szStripeS
  exact
   Pn.ite (fun h1 =>
    Pn.some (Fn.of [.wait 4, .nm 8 (V.sc (.int .i64 (a.length : Int))), .bit true] (p := [V.sc (.int .i64 ((List.map E101 a).length : Int)) = V.sc (.int .i64 (a.length : Int)),
     (decide ((i64 (left - (a.length : Int))) < 0)) = true]) (by kernel_rfl) (cj (len_nm _ _) (cj1 h1)))) (fun h1 =>
    Pn.ite (fun h6 =>
     Pn.bind (fun r2 h7 =>
      Pn.lo (fun s1 h8 =>
       Pn.some (Fn.of [.wait 4, .nm 8 (V.sc (.int .i64 (a.length : Int))), .bit false, .wait 1, .mask [0, 1, 5], .ren [], .loop (X.out 0) (st 27 [(1, V.sc (.int .i64 s1))] [] [])] (p := [V.sc (.int .i64 ((List.map E101 a).length : Int)) = V.sc (.int .i64 (a.length : Int)),
        (decide ((i64 (left - (a.length : Int))) < 0)) = false,
        Loop Tryd.prog (sub (codeOf Tryd.prog 21) [1, 1, 1, 0, 1, 0, 0]) (st 27 [(0, V.sl false 101 (List.map E101 a)), (1, V.sc (.int .i64 (i64 (left - (a.length : Int))))), (5, V.sc (.int .i64 0))] [] []) (X.out 0) (st 27 [(1, V.sc (.int .i64 s1))] [] [])]) (by kernel_rfl) (cj (len_nm _ _) (cj h1 (cj1 ((laws_szStripeS_l0_ok a h6 a [] rfl (i64 (left - (a.length : Int))) r2 h7).at h8)))))) (fun s2 h9 =>
       Pn.some (Fn.of [.wait 4, .nm 8 (V.sc (.int .i64 (a.length : Int))), .bit false, .wait 1, .mask [0, 1, 5], .ren [], .loop (X.ret) (st 27 [(4, V.sc (.int .i64 (-1)))] [] [])] (p := [V.sc (.int .i64 ((List.map E101 a).length : Int)) = V.sc (.int .i64 (a.length : Int)),
        (decide ((i64 (left - (a.length : Int))) < 0)) = false,
        Loop Tryd.prog (sub (codeOf Tryd.prog 21) [1, 1, 1, 0, 1, 0, 0]) (st 27 [(0, V.sl false 101 (List.map E101 a)), (1, V.sc (.int .i64 (i64 (left - (a.length : Int))))), (5, V.sc (.int .i64 0))] [] []) (X.ret) (st 27 [(4, V.sc (.int .i64 (-1)))] [] [])]) (by kernel_rfl) (cj (len_nm _ _) (cj h1 (cj1 ((laws_szStripeS_l0_ok a h6 a [] rfl (i64 (left - (a.length : Int))) r2 h7).at h9)))))))) (fun h6 =>
     Pn.none))
def laws_szTask (a : Task) (left : Int) : Option (Int) :=
 (laws_szByteS a.Data left).bind fun r1 =>
 if (decide (r1 < 0)) = true then
  some (-1)
 else
  (laws_szIntS a.Set r1).bind fun r2 =>
  if (decide (r2 < 0)) = true then
   some (-1)
  else
   (laws_szByteS a.Reply r2).bind fun r3 =>
   if (decide (r3 < 0)) = true then
    some (-1)
   else
    some r3
theorem laws_szTask_ok (a : Task) (left : Int) : Pn (fun y => Fn Tryd.prog 61 [(false, E104 a), (false, E3 left)] (E3 y) []) (laws_szTask a left) := by
  unfold laws_szTask
  exact
   Pn.bind (fun r1 h1 =>
    Pn.ite (fun h2 =>
     Pn.some (Fn.of [.call [] (E3 r1) [], .bit true] (p := [Fn Tryd.prog 113 [(false, E52 a.Data), (false, E3 left)] (E3 r1) [],
      (true || ((E3 r1).nv && nvL [])) = true,
      (decide (r1 < 0)) = true]) (by kernel_rfl) (cj (laws_szByteS_ok a.Data left r1 h1) (cj rfl (cj1 h2))))) (fun h2 =>
     Pn.bind (fun r2 h3 =>
      Pn.ite (fun h4 =>
       Pn.some (Fn.of [.call [] (E3 r1) [], .bit false, .call [] (E3 r2) [], .bit true] (p := [Fn Tryd.prog 113 [(false, E52 a.Data), (false, E3 left)] (E3 r1) [],
        (true || ((E3 r1).nv && nvL [])) = true,
        (decide (r1 < 0)) = false,
        Fn Tryd.prog 73 [(false, E36 a.Set), (false, E3 r1)] (E3 r2) [],
        (true || ((E3 r2).nv && nvL [])) = true,
        (decide (r2 < 0)) = true]) (by kernel_rfl) (cj (laws_szByteS_ok a.Data left r1 h1) (cj rfl (cj h2 (cj (laws_szIntS_ok a.Set r1 r2 h3) (cj rfl (cj1 h4)))))))) (fun h4 =>
       Pn.bind (fun r3 h5 =>
        Pn.ite (fun h6 =>
         Pn.some (Fn.of [.call [] (E3 r1) [], .bit false, .call [] (E3 r2) [], .bit false, .call [] (E3 r3) [], .bit true] (p := [Fn Tryd.prog 113 [(false, E52 a.Data), (false, E3 left)] (E3 r1) [],
          (true || ((E3 r1).nv && nvL [])) = true,
          (decide (r1 < 0)) = false,
          Fn Tryd.prog 73 [(false, E36 a.Set), (false, E3 r1)] (E3 r2) [],
          (true || ((E3 r2).nv && nvL [])) = true,
          (decide (r2 < 0)) = false,
          Fn Tryd.prog 113 [(false, E52 a.Reply), (false, E3 r2)] (E3 r3) [],
          (true || ((E3 r3).nv && nvL [])) = true,
          (decide (r3 < 0)) = true]) (by kernel_rfl) (cj (laws_szByteS_ok a.Data left r1 h1) (cj rfl (cj h2 (cj (laws_szIntS_ok a.Set r1 r2 h3) (cj rfl (cj h4 (cj (laws_szByteS_ok a.Reply r2 r3 h5) (cj rfl (cj1 h6))))))))))) (fun h6 =>
         Pn.some (Fn.of [.call [] (E3 r1) [], .bit false, .call [] (E3 r2) [], .bit false, .call [] (E3 r3) [], .bit false] (p := [Fn Tryd.prog 113 [(false, E52 a.Data), (false, E3 left)] (E3 r1) [],
          (true || ((E3 r1).nv && nvL [])) = true,
          (decide (r1 < 0)) = false,
          Fn Tryd.prog 73 [(false, E36 a.Set), (false, E3 r1)] (E3 r2) [],
          (true || ((E3 r2).nv && nvL [])) = true,
          (decide (r2 < 0)) = false,
          Fn Tryd.prog 113 [(false, E52 a.Reply), (false, E3 r2)] (E3 r3) [],
          (true || ((E3 r3).nv && nvL [])) = true,
          (decide (r3 < 0)) = false]) (by kernel_rfl) (cj (laws_szByteS_ok a.Data left r1 h1) (cj rfl (cj h2 (cj (laws_szIntS_ok a.Set r1 r2 h3) (cj rfl (cj h4 (cj (laws_szByteS_ok a.Reply r2 r3 h5) (cj rfl (cj1 h6))))))))))))))))
def laws_szTaskS_l0 (a : List Task) : List Task → Int → Option (Lo Int Unit)
  | [], v1 =>
   some (.out v1)
  | x1 :: t1, v1 =>
   (laws_szTask x1 v1).bind fun r1 =>
   if (decide (r1 < 0)) = true then
    some (.ret ())
   else
    laws_szTaskS_l0 a t1 r1
theorem laws_szTaskS_l0_ok (a : List Task) (h3 : capOk a.length = true) : ∀ (t1 p1 : List Task) (_ : a = p1 ++ t1) (v1 : Int), Pn (LpO Tryd.prog (sub (codeOf Tryd.prog 22) [1, 1, 1, 0, 1, 0, 0]) (st 27 [(0, V.sl false 104 (List.map E104 a)), (1, V.sc (.int .i64 v1)), (5, V.sc (.int .i64 (p1.length : Int)))] [] []) (fun (y : Lo Int Unit) => Lo.elim y (fun s => (X.out 0, st 27 [(1, V.sc (.int .i64 s))] [] [])) (fun s => (X.ret, st 27 [(4, V.sc (.int .i64 (-1)))] [] [])))) (laws_szTaskS_l0 a t1 v1)
  | [], p1, h2, v1 => by
    unfold laws_szTaskS_l0
    exact
     Pn.some (LpO.out [.wait 3, .nm 14 (V.sc (.int .i64 (a.length : Int))), .bit false, .mask [1], .ren []] (p := [V.sc (.int .i64 ((List.map E104 a).length : Int)) = V.sc (.int .i64 (a.length : Int)),
      (decide ((p1.length : Int) < (a.length : Int))) = false]) (by kernel_rfl) (show X.out 0 ≠ X.go from nofun) (cj (len_nm _ _) (cj1 (rng_end h2))))
  | x1 :: t1, p1, h2, v1 => by
    unfold laws_szTaskS_l0
    exact
     Pn.bind (fun r1 h4 =>
      Pn.ite (fun h5 =>
       Pn.some (LpO.out [.wait 3, .nm 14 (V.sc (.int .i64 (a.length : Int))), .bit true, .el (E104 x1), .call [] (E3 r1) [], .bit true, .wait 1, .mask [4], .ren []] (p := [V.sc (.int .i64 ((List.map E104 a).length : Int)) = V.sc (.int .i64 (a.length : Int)),
        (decide ((p1.length : Int) < (a.length : Int))) = true,
        (0 : Int) ≤ (p1.length : Int),
        (List.map E104 a)[(p1.length : Int).toNat]? = some (E104 x1),
        Fn Tryd.prog 61 [(false, E104 x1), (false, E3 v1)] (E3 r1) [],
        (true || ((E3 r1).nv && nvL [])) = true,
        (decide (r1 < 0)) = true]) (by kernel_rfl) (show X.ret ≠ X.go from nofun) (cj (len_nm _ _) (cj (rng_lt h2) (cj (by omega) (cj (rng_get _ h2) (cj (laws_szTask_ok x1 v1 r1 h4) (cj rfl (cj1 h5))))))))) (fun h5 =>
       LpO.go [.wait 3, .nm 14 (V.sc (.int .i64 (a.length : Int))), .bit true, .el (E104 x1), .call [] (E3 r1) [], .bit false, .wait 3, .mask [0, 1, 5], .ren [], .nm 5 (V.sc (.int .i64 ((p1 ++ [x1]).length : Int)))] (p := [V.sc (.int .i64 ((List.map E104 a).length : Int)) = V.sc (.int .i64 (a.length : Int)),
        (decide ((p1.length : Int) < (a.length : Int))) = true,
        (0 : Int) ≤ (p1.length : Int),
        (List.map E104 a)[(p1.length : Int).toNat]? = some (E104 x1),
        Fn Tryd.prog 61 [(false, E104 x1), (false, E3 v1)] (E3 r1) [],
        (true || ((E3 r1).nv && nvL [])) = true,
        (decide (r1 < 0)) = false,
        V.sc (.int .i64 (i64 ((p1.length : Int) + 1))) = V.sc (.int .i64 ((p1 ++ [x1]).length : Int))]) (by kernel_rfl) (cj (len_nm _ _) (cj (rng_lt h2) (cj (by omega) (cj (rng_get _ h2) (cj (laws_szTask_ok x1 v1 r1 h4) (cj rfl (cj h5 (cj1 (rng_next h2 h3))))))))) (laws_szTaskS_l0_ok a h3 t1 (p1 ++ [x1]) (rng_step h2) r1)))
def laws_szTaskS (a : List Task) (left : Int) : Option (Int) :=
 if (decide ((i64 (left - (a.length : Int))) < 0)) = true then
  some (-1)
 else
  if (capOk a.length) = true then
   (laws_szTaskS_l0 a a (i64 (left - (a.length : Int)))).bind fun r2 =>
   Lo.elim r2 (fun s1 =>
    some s1) (fun s2 =>
    some (-1))
  else none
theorem laws_szTaskS_ok (a : List Task) (left : Int) : Pn (fun y => Fn Tryd.prog 22 [(false, E23 a), (false, E3 left)] (E3 y) []) (laws_szTaskS a left) := by
  unfold laws_szTaskS
  exact
   Pn.ite (fun h1 =>
    Pn.some (Fn.of [.wait 4, .nm 8 (V.sc (.int .i64 (a.length : Int))), .bit true] (p := [V.sc (.int .i64 ((List.map E104 a).length : Int)) = V.sc (.int .i64 (a.length : Int)),
     (decide ((i64 (left - (a.length : Int))) < 0)) = true]) (by kernel_rfl) (cj (len_nm _ _) (cj1 h1)))) (fun h1 =>
    Pn.ite (fun h6 =>
     Pn.bind (fun r2 h7 =>
      Pn.lo (fun s1 h8 =>
       Pn.some (Fn.of [.wait 4, .nm 8 (V.sc (.int .i64 (a.length : Int))), .bit false, .wait 1, .mask [0, 1, 5], .ren [], .loop (X.out 0) (st 27 [(1, V.sc (.int .i64 s1))] [] [])] (p := [V.sc (.int .i64 ((List.map E104 a).length : Int)) = V.sc (.int .i64 (a.length : Int)),
        (decide ((i64 (left - (a.length : Int))) < 0)) = false,
        Loop Tryd.prog (sub (codeOf Tryd.prog 22) [1, 1, 1, 0, 1, 0, 0]) (st 27 [(0, V.sl false 104 (List.map E104 a)), (1, V.sc (.int .i64 (i64 (left - (a.length : Int))))), (5, V.sc (.int .i64 0))] [] []) (X.out 0) (st 27 [(1, V.sc (.int .i64 s1))] [] [])]) (by kernel_rfl) (cj (len_nm _ _) (cj h1 (cj1 ((laws_szTaskS_l0_ok a h6 a [] rfl (i64 (left - (a.length : Int))) r2 h7).at h8)))))) (fun s2 h9 =>
       Pn.some (Fn.of [.wait 4, .nm 8 (V.sc (.int .i64 (a.length : Int))), .bit false, .wait 1, .mask [0, 1, 5], .ren [], .loop (X.ret) (st 27 [(4, V.sc (.int .i64 (-1)))] [] [])] (p := [V.sc (.int .i64 ((List.map E104 a).length : Int)) = V.sc (.int .i64 (a.length : Int)),
        (decide ((i64 (left - (a.length : Int))) < 0)) = false,
        Loop Tryd.prog (sub (codeOf Tryd.prog 22) [1, 1, 1, 0, 1, 0, 0]) (st 27 [(0, V.sl false 104 (List.map E104 a)), (1, V.sc (.int .i64 (i64 (left - (a.length : Int))))), (5, V.sc (.int .i64 0))] [] []) (X.ret) (st 27 [(4, V.sc (.int .i64 (-1)))] [] [])]) (by kernel_rfl) (cj (len_nm _ _) (cj h1 (cj1 ((laws_szTaskS_l0_ok a h6 a [] rfl (i64 (left - (a.length : Int))) r2 h7).at h9)))))))) (fun h6 =>
     Pn.none))
def laws_szWorld (a : World) (left : Int) : Option (Int) :=
 (laws_szStripeS a.Stripes left).bind fun r1 =>
 if (decide (r1 < 0)) = true then
  some (-1)
 else
  (laws_szTaskS a.Tasks r1).bind fun r2 =>
  if (decide (r2 < 0)) = true then
   some (-1)
  else
   some r2
theorem laws_szWorld_ok (a : World) (left : Int) : Pn (fun y => Fn Tryd.prog 6 [(false, E25 a), (false, E3 left)] (E3 y) []) (laws_szWorld a left) := by
  unfold laws_szWorld
  exact
   Pn.bind (fun r1 h1 =>
    Pn.ite (fun h2 =>
     Pn.some (Fn.of [.call [] (E3 r1) [], .bit true] (p := [Fn Tryd.prog 21 [(false, E22 a.Stripes), (false, E3 left)] (E3 r1) [],
      (true || ((E3 r1).nv && nvL [])) = true,
      (decide (r1 < 0)) = true]) (by kernel_rfl) (cj (laws_szStripeS_ok a.Stripes left r1 h1) (cj rfl (cj1 h2))))) (fun h2 =>
     Pn.bind (fun r2 h3 =>
      Pn.ite (fun h4 =>
       Pn.some (Fn.of [.call [] (E3 r1) [], .bit false, .call [] (E3 r2) [], .bit true] (p := [Fn Tryd.prog 21 [(false, E22 a.Stripes), (false, E3 left)] (E3 r1) [],
        (true || ((E3 r1).nv && nvL [])) = true,
        (decide (r1 < 0)) = false,
        Fn Tryd.prog 22 [(false, E23 a.Tasks), (false, E3 r1)] (E3 r2) [],
        (true || ((E3 r2).nv && nvL [])) = true,
        (decide (r2 < 0)) = true]) (by kernel_rfl) (cj (laws_szStripeS_ok a.Stripes left r1 h1) (cj rfl (cj h2 (cj (laws_szTaskS_ok a.Tasks r1 r2 h3) (cj rfl (cj1 h4)))))))) (fun h4 =>
       Pn.some (Fn.of [.call [] (E3 r1) [], .bit false, .call [] (E3 r2) [], .bit false] (p := [Fn Tryd.prog 21 [(false, E22 a.Stripes), (false, E3 left)] (E3 r1) [],
        (true || ((E3 r1).nv && nvL [])) = true,
        (decide (r1 < 0)) = false,
        Fn Tryd.prog 22 [(false, E23 a.Tasks), (false, E3 r1)] (E3 r2) [],
        (true || ((E3 r2).nv && nvL [])) = true,
        (decide (r2 < 0)) = false]) (by kernel_rfl) (cj (laws_szStripeS_ok a.Stripes left r1 h1) (cj rfl (cj h2 (cj (laws_szTaskS_ok a.Tasks r1 r2 h3) (cj rfl (cj1 h4)))))))))))
def laws_toHold (a : Hold) : Option (Hold) :=
 some a
theorem laws_toHold_ok (a : Hold) : Pn (fun y => Fn Tryd.prog 84 [(false, E120 a)] (E80 y) []) (laws_toHold a) := by
  unfold laws_toHold
  exact
   Pn.some (Fn.of [] (p := []) (by kernel_rfl) trivial)
def laws_toHoldS_l0 (a : List Hold) : List Hold → List Hold → (List Hold) → Option ((List Hold))
  | [], p1, v1 =>
   some v1
  | x1 :: t1, p1, v1 =>
   (laws_toHold x1).bind fun r1 =>
   (v1[(p1.length : Int).toNat]?).bind fun x2 =>
   laws_toHoldS_l0 a t1 (p1 ++ [x1]) (v1.set ((p1.length : Int).toNat) r1)
theorem laws_toHoldS_l0_ok (a : List Hold) (h4 : capOk a.length = true) : ∀ (t1 p1 : List Hold) (_ : a = p1 ++ t1) (v1 : List Hold), Pn (LpO Tryd.prog (sub (codeOf Tryd.prog 38) [1, 1, 0, 1, 0, 0]) (st 23 [(0, V.sl false 120 (List.map E120 a)), (3, V.ow 0), (4, V.sc (.int .i64 (p1.length : Int)))] [Blk.row 80 (List.map E80 v1) []] []) (fun (y : (List Hold)) => (X.out 0, st 23 [(3, V.ow 0)] [Blk.row 80 (List.map E80 y) []] []))) (laws_toHoldS_l0 a t1 p1 v1)
  | [], p1, h3, v1 => by
    unfold laws_toHoldS_l0
    exact
     Pn.some (LpO.out [.wait 3, .nm 10 (V.sc (.int .i64 (a.length : Int))), .bit false, .mask [3], .ren [0]] (p := [V.sc (.int .i64 ((List.map E120 a).length : Int)) = V.sc (.int .i64 (a.length : Int)),
      (decide ((p1.length : Int) < (a.length : Int))) = false]) (by kernel_rfl) (show X.out 0 ≠ X.go from nofun) (cj (len_nm _ _) (cj1 (rng_end h3))))
  | x1 :: t1, p1, h3, v1 => by
    unfold laws_toHoldS_l0
    exact
     Pn.bind (fun r1 h5 =>
      Pn.bind (fun x2 h6 =>
       LpO.go [.wait 3, .nm 10 (V.sc (.int .i64 (a.length : Int))), .bit true, .el (E120 x1), .call [] (E80 r1) [], .el (E80 x2), .nb 0 (.row 80 (List.map E80 (v1.set ((p1.length : Int).toNat) r1)) []), .wait 4, .mask [0, 3, 4], .ren [0], .nm 4 (V.sc (.int .i64 ((p1 ++ [x1]).length : Int)))] (p := [V.sc (.int .i64 ((List.map E120 a).length : Int)) = V.sc (.int .i64 (a.length : Int)),
        (decide ((p1.length : Int) < (a.length : Int))) = true,
        (0 : Int) ≤ (p1.length : Int),
        (List.map E120 a)[(p1.length : Int).toNat]? = some (E120 x1),
        Fn Tryd.prog 84 [(false, E120 x1)] (E80 r1) [],
        (true || ((E80 r1).nv && nvL [])) = true,
        (0 : Int) ≤ (p1.length : Int),
        ((p1.length : Int) : Int) < ((List.map E80 v1).length : Int),
        look [] ((p1.length : Int).toNat) = none,
        (List.map E80 v1)[(p1.length : Int).toNat]? = some (E80 x2),
        Blk.row 80 ((List.map E80 v1).set ((p1.length : Int).toNat) (V.agg [V.sc (.string r1.Id), V.sc (.int .i64 r1.Amount), V.sc (.int .i64 r1.Due)])) [] = Blk.row 80 (List.map E80 (v1.set ((p1.length : Int).toNat) r1)) [],
        V.sc (.int .i64 (i64 ((p1.length : Int) + 1))) = V.sc (.int .i64 ((p1 ++ [x1]).length : Int))]) (by kernel_rfl) (cj (len_nm _ _) (cj (rng_lt h3) (cj (by omega) (cj (rng_get _ h3) (cj (laws_toHold_ok x1 r1 h5) (cj rfl (cj (by omega) (cj (map_ltN (by omega) h6) (cj rfl (cj (map_get h6) (cj (nb_set E80 _ _ r1) (cj1 (rng_next h3 h4))))))))))))) (laws_toHoldS_l0_ok a h4 t1 (p1 ++ [x1]) (rng_step h3) (v1.set ((p1.length : Int).toNat) r1))))
def laws_toHoldS (a : List Hold) : Option ((List Hold)) :=
 if (decide (0 ≤ (a.length : Int))) = true then
  if (capOk (a.length : Int).toNat) = true then
   if (capOk a.length) = true then
    (laws_toHoldS_l0 a a [] (List.replicate ((a.length : Int).toNat) (Hold.mk ByteArray.empty 0 0))).bind fun r2 =>
    some r2
   else none
  else none
 else none
theorem laws_toHoldS_ok (a : List Hold) : Pn (fun y => Fn Tryd.prog 38 [(false, E35 a)] (E44 y) []) (laws_toHoldS a) := by
  unfold laws_toHoldS
  exact
   Pn.ite (fun h1 =>
    Pn.ite (fun h2 =>
     Pn.ite (fun h7 =>
      Pn.bind (fun r2 h8 =>
       Pn.some (Fn.of [.wait 3, .nm 6 (V.sc (.int .i64 (a.length : Int))), .wait 1, .nb 0 (.row 80 (List.map E80 (List.replicate ((a.length : Int).toNat) (Hold.mk ByteArray.empty 0 0))) []), .wait 3, .mask [0, 3, 4], .ren [0], .loop (X.out 0) (st 23 [(3, V.ow 0)] [Blk.row 80 (List.map E80 r2) []] [])] (p := [V.sc (.int .i64 ((List.map E120 a).length : Int)) = V.sc (.int .i64 (a.length : Int)),
        ((a.length : Int) : Int) = (a.length : Int),
        (0 : Int) ≤ (a.length : Int),
        ((a.length : Int) : Int) ≤ 9223372036854775807,
        32 * (a.length : Int).toNat ≤ 281474976710656,
        Blk.row 80 (List.replicate ((a.length : Int).toNat) (V.agg [V.sc (.string ByteArray.empty), V.sc (.int .i64 0), V.sc (.int .i64 0)])) [] = Blk.row 80 (List.map E80 (List.replicate ((a.length : Int).toNat) (Hold.mk ByteArray.empty 0 0))) [],
        Loop Tryd.prog (sub (codeOf Tryd.prog 38) [1, 1, 0, 1, 0, 0]) (st 23 [(0, V.sl false 120 (List.map E120 a)), (3, V.ow 0), (4, V.sc (.int .i64 0))] [Blk.row 80 (List.map E80 (List.replicate ((a.length : Int).toNat) (Hold.mk ByteArray.empty 0 0))) []] []) (X.out 0) (st 23 [(3, V.ow 0)] [Blk.row 80 (List.map E80 r2) []] [])]) (by kernel_rfl) (cj (len_nm _ _) (cj rfl (cj (od h1) (cj (cap3 h1 h2) (cj (cap4 h2 (by decide)) (cj (nb_rep E80 _ (Hold.mk ByteArray.empty 0 0)) (cj1 (laws_toHoldS_l0_ok a h7 a [] rfl (List.replicate ((a.length : Int).toNat) (Hold.mk ByteArray.empty 0 0)) r2 h8))))))))))) (fun h7 =>
      Pn.none)) (fun h2 =>
     Pn.none)) (fun h1 =>
    Pn.none)
def laws_toIntS_l0 (a : List Int) : List Int → List Int → (List Int) → Option ((List Int))
  | [], p1, v1 =>
   some v1
  | x1 :: t1, p1, v1 =>
   (v1[(p1.length : Int).toNat]?).bind fun x2 =>
   laws_toIntS_l0 a t1 (p1 ++ [x1]) (v1.set ((p1.length : Int).toNat) x1)
theorem laws_toIntS_l0_ok (a : List Int) (h4 : capOk a.length = true) : ∀ (t1 p1 : List Int) (_ : a = p1 ++ t1) (v1 : List Int), Pn (LpO Tryd.prog (sub (codeOf Tryd.prog 85) [1, 1, 0, 1, 0, 0]) (st 22 [(0, V.sl false 3 (List.map E3 a)), (3, V.ow 0), (4, V.sc (.int .i64 (p1.length : Int)))] [Blk.row 3 (List.map E3 v1) []] []) (fun (y : (List Int)) => (X.out 0, st 22 [(3, V.ow 0)] [Blk.row 3 (List.map E3 y) []] []))) (laws_toIntS_l0 a t1 p1 v1)
  | [], p1, h3, v1 => by
    unfold laws_toIntS_l0
    exact
     Pn.some (LpO.out [.wait 3, .nm 10 (V.sc (.int .i64 (a.length : Int))), .bit false, .mask [3], .ren [0]] (p := [V.sc (.int .i64 ((List.map E3 a).length : Int)) = V.sc (.int .i64 (a.length : Int)),
      (decide ((p1.length : Int) < (a.length : Int))) = false]) (by kernel_rfl) (show X.out 0 ≠ X.go from nofun) (cj (len_nm _ _) (cj1 (rng_end h3))))
  | x1 :: t1, p1, h3, v1 => by
    unfold laws_toIntS_l0
    exact
     Pn.bind (fun x2 h5 =>
      LpO.go [.wait 3, .nm 10 (V.sc (.int .i64 (a.length : Int))), .bit true, .el (E3 x1), .el (E3 x2), .nb 0 (.row 3 (List.map E3 (v1.set ((p1.length : Int).toNat) x1)) []), .wait 4, .mask [0, 3, 4], .ren [0], .nm 4 (V.sc (.int .i64 ((p1 ++ [x1]).length : Int)))] (p := [V.sc (.int .i64 ((List.map E3 a).length : Int)) = V.sc (.int .i64 (a.length : Int)),
       (decide ((p1.length : Int) < (a.length : Int))) = true,
       (0 : Int) ≤ (p1.length : Int),
       (List.map E3 a)[(p1.length : Int).toNat]? = some (E3 x1),
       (0 : Int) ≤ (p1.length : Int),
       ((p1.length : Int) : Int) < ((List.map E3 v1).length : Int),
       look [] ((p1.length : Int).toNat) = none,
       (List.map E3 v1)[(p1.length : Int).toNat]? = some (E3 x2),
       Blk.row 3 ((List.map E3 v1).set ((p1.length : Int).toNat) (V.sc (.int .i64 x1))) [] = Blk.row 3 (List.map E3 (v1.set ((p1.length : Int).toNat) x1)) [],
       V.sc (.int .i64 (i64 ((p1.length : Int) + 1))) = V.sc (.int .i64 ((p1 ++ [x1]).length : Int))]) (by kernel_rfl) (cj (len_nm _ _) (cj (rng_lt h3) (cj (by omega) (cj (rng_get _ h3) (cj (by omega) (cj (map_ltN (by omega) h5) (cj rfl (cj (map_get h5) (cj (nb_set E3 _ _ x1) (cj1 (rng_next h3 h4))))))))))) (laws_toIntS_l0_ok a h4 t1 (p1 ++ [x1]) (rng_step h3) (v1.set ((p1.length : Int).toNat) x1)))
def laws_toIntS (a : List Int) : Option ((List Int)) :=
 if (decide (0 ≤ (a.length : Int))) = true then
  if (capOk (a.length : Int).toNat) = true then
   if (capOk a.length) = true then
    (laws_toIntS_l0 a a [] (List.replicate ((a.length : Int).toNat) 0)).bind fun r1 =>
    some r1
   else none
  else none
 else none
theorem laws_toIntS_ok (a : List Int) : Pn (fun y => Fn Tryd.prog 85 [(false, E36 a)] (E36 y) []) (laws_toIntS a) := by
  unfold laws_toIntS
  exact
   Pn.ite (fun h1 =>
    Pn.ite (fun h2 =>
     Pn.ite (fun h6 =>
      Pn.bind (fun r1 h7 =>
       Pn.some (Fn.of [.wait 3, .nm 6 (V.sc (.int .i64 (a.length : Int))), .wait 1, .nb 0 (.row 3 (List.map E3 (List.replicate ((a.length : Int).toNat) 0)) []), .wait 3, .mask [0, 3, 4], .ren [0], .loop (X.out 0) (st 22 [(3, V.ow 0)] [Blk.row 3 (List.map E3 r1) []] [])] (p := [V.sc (.int .i64 ((List.map E3 a).length : Int)) = V.sc (.int .i64 (a.length : Int)),
        ((a.length : Int) : Int) = (a.length : Int),
        (0 : Int) ≤ (a.length : Int),
        ((a.length : Int) : Int) ≤ 9223372036854775807,
        8 * (a.length : Int).toNat ≤ 281474976710656,
        Blk.row 3 (List.replicate ((a.length : Int).toNat) (V.sc (.int .i64 0))) [] = Blk.row 3 (List.map E3 (List.replicate ((a.length : Int).toNat) 0)) [],
        Loop Tryd.prog (sub (codeOf Tryd.prog 85) [1, 1, 0, 1, 0, 0]) (st 22 [(0, V.sl false 3 (List.map E3 a)), (3, V.ow 0), (4, V.sc (.int .i64 0))] [Blk.row 3 (List.map E3 (List.replicate ((a.length : Int).toNat) 0)) []] []) (X.out 0) (st 22 [(3, V.ow 0)] [Blk.row 3 (List.map E3 r1) []] [])]) (by kernel_rfl) (cj (len_nm _ _) (cj rfl (cj (od h1) (cj (cap3 h1 h2) (cj (cap4 h2 (by decide)) (cj (nb_rep E3 _ 0) (cj1 (laws_toIntS_l0_ok a h6 a [] rfl (List.replicate ((a.length : Int).toNat) 0) r1 h7))))))))))) (fun h6 =>
      Pn.none)) (fun h2 =>
     Pn.none)) (fun h1 =>
    Pn.none)
def laws_toRing (a : Ring) : Option (Ring) :=
 (laws_toIntS a.Counts).bind fun r1 =>
 (laws_toIntS a.Sums).bind fun r2 =>
 some (Ring.mk a.Span a.Head r1 r2)
theorem laws_toRing_ok (a : Ring) : Pn (fun y => Fn Tryd.prog 39 [(false, E38 a)] (E45 y) []) (laws_toRing a) := by
  unfold laws_toRing
  exact
   Pn.bind (fun r1 h1 =>
    Pn.bind (fun r2 h2 =>
     Pn.some (Fn.of [.call [] (E36 r1) [], .call [] (E36 r2) []] (p := [Fn Tryd.prog 85 [(false, E36 a.Counts)] (E36 r1) [],
      (true || ((E36 r1).nv && nvL [])) = true,
      Fn Tryd.prog 85 [(false, E36 a.Sums)] (E36 r2) [],
      (true || ((E36 r2).nv && nvL [])) = true]) (by kernel_rfl) (cj (laws_toIntS_ok a.Counts r1 h1) (cj rfl (cj (laws_toIntS_ok a.Sums r2 h2) (cj1 rfl)))))))
def laws_toByteS_l0 (a : List Int) : List Int → List Int → (List Int) → Option ((List Int))
  | [], p1, v1 =>
   some v1
  | x1 :: t1, p1, v1 =>
   (v1[(p1.length : Int).toNat]?).bind fun x2 =>
   laws_toByteS_l0 a t1 (p1 ++ [x1]) (v1.set ((p1.length : Int).toNat) x1)
theorem laws_toByteS_l0_ok (a : List Int) (h4 : capOk a.length = true) : ∀ (t1 p1 : List Int) (_ : a = p1 ++ t1) (v1 : List Int), Pn (LpO Tryd.prog (sub (codeOf Tryd.prog 115) [1, 1, 0, 1, 0, 0]) (st 22 [(0, V.sl false 5 (List.map E5 a)), (3, V.ow 0), (4, V.sc (.int .i64 (p1.length : Int)))] [Blk.row 5 (List.map E5 v1) []] []) (fun (y : (List Int)) => (X.out 0, st 22 [(3, V.ow 0)] [Blk.row 5 (List.map E5 y) []] []))) (laws_toByteS_l0 a t1 p1 v1)
  | [], p1, h3, v1 => by
    unfold laws_toByteS_l0
    exact
     Pn.some (LpO.out [.wait 3, .nm 10 (V.sc (.int .i64 (a.length : Int))), .bit false, .mask [3], .ren [0]] (p := [V.sc (.int .i64 ((List.map E5 a).length : Int)) = V.sc (.int .i64 (a.length : Int)),
      (decide ((p1.length : Int) < (a.length : Int))) = false]) (by kernel_rfl) (show X.out 0 ≠ X.go from nofun) (cj (len_nm _ _) (cj1 (rng_end h3))))
  | x1 :: t1, p1, h3, v1 => by
    unfold laws_toByteS_l0
    exact
     Pn.bind (fun x2 h5 =>
      LpO.go [.wait 3, .nm 10 (V.sc (.int .i64 (a.length : Int))), .bit true, .el (E5 x1), .el (E5 x2), .nb 0 (.row 5 (List.map E5 (v1.set ((p1.length : Int).toNat) x1)) []), .wait 4, .mask [0, 3, 4], .ren [0], .nm 4 (V.sc (.int .i64 ((p1 ++ [x1]).length : Int)))] (p := [V.sc (.int .i64 ((List.map E5 a).length : Int)) = V.sc (.int .i64 (a.length : Int)),
       (decide ((p1.length : Int) < (a.length : Int))) = true,
       (0 : Int) ≤ (p1.length : Int),
       (List.map E5 a)[(p1.length : Int).toNat]? = some (E5 x1),
       (0 : Int) ≤ (p1.length : Int),
       ((p1.length : Int) : Int) < ((List.map E5 v1).length : Int),
       look [] ((p1.length : Int).toNat) = none,
       (List.map E5 v1)[(p1.length : Int).toNat]? = some (E5 x2),
       Blk.row 5 ((List.map E5 v1).set ((p1.length : Int).toNat) (V.sc (.int .u8 x1))) [] = Blk.row 5 (List.map E5 (v1.set ((p1.length : Int).toNat) x1)) [],
       V.sc (.int .i64 (i64 ((p1.length : Int) + 1))) = V.sc (.int .i64 ((p1 ++ [x1]).length : Int))]) (by kernel_rfl) (cj (len_nm _ _) (cj (rng_lt h3) (cj (by omega) (cj (rng_get _ h3) (cj (by omega) (cj (map_ltN (by omega) h5) (cj rfl (cj (map_get h5) (cj (nb_set E5 _ _ x1) (cj1 (rng_next h3 h4))))))))))) (laws_toByteS_l0_ok a h4 t1 (p1 ++ [x1]) (rng_step h3) (v1.set ((p1.length : Int).toNat) x1)))
def laws_toByteS (a : List Int) : Option ((List Int)) :=
 if (decide (0 ≤ (a.length : Int))) = true then
  if (capOk (a.length : Int).toNat) = true then
   if (capOk a.length) = true then
    (laws_toByteS_l0 a a [] (List.replicate ((a.length : Int).toNat) 0)).bind fun r1 =>
    some r1
   else none
  else none
 else none
theorem laws_toByteS_ok (a : List Int) : Pn (fun y => Fn Tryd.prog 115 [(false, E52 a)] (E52 y) []) (laws_toByteS a) := by
  unfold laws_toByteS
  exact
   Pn.ite (fun h1 =>
    Pn.ite (fun h2 =>
     Pn.ite (fun h6 =>
      Pn.bind (fun r1 h7 =>
       Pn.some (Fn.of [.wait 3, .nm 6 (V.sc (.int .i64 (a.length : Int))), .wait 1, .nb 0 (.row 5 (List.map E5 (List.replicate ((a.length : Int).toNat) 0)) []), .wait 3, .mask [0, 3, 4], .ren [0], .loop (X.out 0) (st 22 [(3, V.ow 0)] [Blk.row 5 (List.map E5 r1) []] [])] (p := [V.sc (.int .i64 ((List.map E5 a).length : Int)) = V.sc (.int .i64 (a.length : Int)),
        ((a.length : Int) : Int) = (a.length : Int),
        (0 : Int) ≤ (a.length : Int),
        ((a.length : Int) : Int) ≤ 9223372036854775807,
        1 * (a.length : Int).toNat ≤ 281474976710656,
        Blk.row 5 (List.replicate ((a.length : Int).toNat) (V.sc (.int .u8 0))) [] = Blk.row 5 (List.map E5 (List.replicate ((a.length : Int).toNat) 0)) [],
        Loop Tryd.prog (sub (codeOf Tryd.prog 115) [1, 1, 0, 1, 0, 0]) (st 22 [(0, V.sl false 5 (List.map E5 a)), (3, V.ow 0), (4, V.sc (.int .i64 0))] [Blk.row 5 (List.map E5 (List.replicate ((a.length : Int).toNat) 0)) []] []) (X.out 0) (st 22 [(3, V.ow 0)] [Blk.row 5 (List.map E5 r1) []] [])]) (by kernel_rfl) (cj (len_nm _ _) (cj rfl (cj (od h1) (cj (cap3 h1 h2) (cj (cap4 h2 (by decide)) (cj (nb_rep E5 _ 0) (cj1 (laws_toByteS_l0_ok a h6 a [] rfl (List.replicate ((a.length : Int).toNat) 0) r1 h7))))))))))) (fun h6 =>
      Pn.none)) (fun h2 =>
     Pn.none)) (fun h1 =>
    Pn.none)
def laws_toSlot (a : Slot) : Option (Slot) :=
 (laws_toByteS a.Reply).bind fun r1 =>
 some (Slot.mk a.Trace a.Mti r1)
theorem laws_toSlot_ok (a : Slot) : Pn (fun y => Fn Tryd.prog 86 [(false, E124 a)] (E135 y) []) (laws_toSlot a) := by
  unfold laws_toSlot
  exact
   Pn.bind (fun r1 h1 =>
    Pn.some (Fn.of [.call [] (E52 r1) []] (p := [Fn Tryd.prog 115 [(false, E52 a.Reply)] (E52 r1) [],
     (true || ((E52 r1).nv && nvL [])) = true]) (by kernel_rfl) (cj (laws_toByteS_ok a.Reply r1 h1) (cj1 rfl))))
def laws_toSlotS_l0 (a : List Slot) : List Slot → List Slot → (List Slot) → Option ((List Slot))
  | [], p1, v1 =>
   some v1
  | x1 :: t1, p1, v1 =>
   (laws_toSlot x1).bind fun r1 =>
   (v1[(p1.length : Int).toNat]?).bind fun x2 =>
   laws_toSlotS_l0 a t1 (p1 ++ [x1]) (v1.set ((p1.length : Int).toNat) r1)
theorem laws_toSlotS_l0_ok (a : List Slot) (h4 : capOk a.length = true) : ∀ (t1 p1 : List Slot) (_ : a = p1 ++ t1) (v1 : List Slot), Pn (LpO Tryd.prog (sub (codeOf Tryd.prog 40) [1, 1, 0, 1, 0, 0]) (st 23 [(0, V.sl false 124 (List.map E124 a)), (3, V.ow 0), (4, V.sc (.int .i64 (p1.length : Int)))] [Blk.row 135 (List.map E135 v1) []] []) (fun (y : (List Slot)) => (X.out 0, st 23 [(3, V.ow 0)] [Blk.row 135 (List.map E135 y) []] []))) (laws_toSlotS_l0 a t1 p1 v1)
  | [], p1, h3, v1 => by
    unfold laws_toSlotS_l0
    exact
     Pn.some (LpO.out [.wait 3, .nm 10 (V.sc (.int .i64 (a.length : Int))), .bit false, .mask [3], .ren [0]] (p := [V.sc (.int .i64 ((List.map E124 a).length : Int)) = V.sc (.int .i64 (a.length : Int)),
      (decide ((p1.length : Int) < (a.length : Int))) = false]) (by kernel_rfl) (show X.out 0 ≠ X.go from nofun) (cj (len_nm _ _) (cj1 (rng_end h3))))
  | x1 :: t1, p1, h3, v1 => by
    unfold laws_toSlotS_l0
    exact
     Pn.bind (fun r1 h5 =>
      Pn.bind (fun x2 h6 =>
       LpO.go [.wait 3, .nm 10 (V.sc (.int .i64 (a.length : Int))), .bit true, .el (E124 x1), .call [] (E135 r1) [], .wait 1, .foc 0 ((p1.length : Int).toNat) (E135 x2), .fo 0, .wait 4, .shut 0, .nb 0 (.row 135 (List.map E135 (v1.set ((p1.length : Int).toNat) r1)) []), .mask [0, 3, 4], .ren [0], .nm 4 (V.sc (.int .i64 ((p1 ++ [x1]).length : Int)))] (p := [V.sc (.int .i64 ((List.map E124 a).length : Int)) = V.sc (.int .i64 (a.length : Int)),
        (decide ((p1.length : Int) < (a.length : Int))) = true,
        (0 : Int) ≤ (p1.length : Int),
        (List.map E124 a)[(p1.length : Int).toNat]? = some (E124 x1),
        Fn Tryd.prog 86 [(false, E124 x1)] (E135 r1) [],
        (true || ((E135 r1).nv && nvL [])) = true,
        (0 : Int) ≤ (p1.length : Int),
        ((p1.length : Int) : Int) < ((List.map E135 v1).length : Int),
        look [] ((p1.length : Int).toNat) = none,
        (List.map E135 v1)[(p1.length : Int).toNat]? = some (E135 x2),
        look [((p1.length : Int).toNat, V.agg [V.sc (.string x2.Trace), V.sc (.string x2.Mti), V.ow 2])] ((p1.length : Int).toNat) = some (V.agg [V.sc (.string x2.Trace), V.sc (.string x2.Mti), V.ow 2]),
        ((p1.length : Int).toNat) < (List.map E135 v1).length,
        ((p1.length : Int).toNat) = ((p1.length : Int).toNat),
        Blk.row 135 ((List.map E135 v1).set ((p1.length : Int).toNat) (V.agg [V.sc (.string r1.Trace), V.sc (.string r1.Mti), V.sl true 5 (List.map E5 r1.Reply)])) [] = Blk.row 135 (List.map E135 (v1.set ((p1.length : Int).toNat) r1)) [],
        V.sc (.int .i64 (i64 ((p1.length : Int) + 1))) = V.sc (.int .i64 ((p1 ++ [x1]).length : Int))]) (by kernel_rfl) (cj (len_nm _ _) (cj (rng_lt h3) (cj (by omega) (cj (rng_get _ h3) (cj (laws_toSlot_ok x1 r1 h5) (cj rfl (cj (by omega) (cj (map_ltN (by omega) h6) (cj rfl (cj (map_get h6) (cj (look_cons_self _ _ _) (cj (map_lt h6) (cj rfl (cj (nb_set E135 _ _ r1) (cj1 (rng_next h3 h4)))))))))))))))) (laws_toSlotS_l0_ok a h4 t1 (p1 ++ [x1]) (rng_step h3) (v1.set ((p1.length : Int).toNat) r1))))
def laws_toSlotS (a : List Slot) : Option ((List Slot)) :=
 if (decide (0 ≤ (a.length : Int))) = true then
  if (capOk (a.length : Int).toNat) = true then
   if (capOk a.length) = true then
    (laws_toSlotS_l0 a a [] (List.replicate ((a.length : Int).toNat) (Slot.mk ByteArray.empty ByteArray.empty []))).bind fun r2 =>
    some r2
   else none
  else none
 else none
theorem laws_toSlotS_ok (a : List Slot) : Pn (fun y => Fn Tryd.prog 40 [(false, E39 a)] (E46 y) []) (laws_toSlotS a) := by
  unfold laws_toSlotS
  exact
   Pn.ite (fun h1 =>
    Pn.ite (fun h2 =>
     Pn.ite (fun h7 =>
      Pn.bind (fun r2 h8 =>
       Pn.some (Fn.of [.wait 3, .nm 6 (V.sc (.int .i64 (a.length : Int))), .wait 1, .nb 0 (.row 135 (List.map E135 (List.replicate ((a.length : Int).toNat) (Slot.mk ByteArray.empty ByteArray.empty []))) []), .wait 3, .mask [0, 3, 4], .ren [0], .loop (X.out 0) (st 23 [(3, V.ow 0)] [Blk.row 135 (List.map E135 r2) []] [])] (p := [V.sc (.int .i64 ((List.map E124 a).length : Int)) = V.sc (.int .i64 (a.length : Int)),
        ((a.length : Int) : Int) = (a.length : Int),
        (0 : Int) ≤ (a.length : Int),
        ((a.length : Int) : Int) ≤ 9223372036854775807,
        56 * (a.length : Int).toNat ≤ 281474976710656,
        Blk.row 135 (List.replicate ((a.length : Int).toNat) (V.agg [V.sc (.string ByteArray.empty), V.sc (.string ByteArray.empty), V.sl true 5 ([] : List V)])) [] = Blk.row 135 (List.map E135 (List.replicate ((a.length : Int).toNat) (Slot.mk ByteArray.empty ByteArray.empty []))) [],
        Loop Tryd.prog (sub (codeOf Tryd.prog 40) [1, 1, 0, 1, 0, 0]) (st 23 [(0, V.sl false 124 (List.map E124 a)), (3, V.ow 0), (4, V.sc (.int .i64 0))] [Blk.row 135 (List.map E135 (List.replicate ((a.length : Int).toNat) (Slot.mk ByteArray.empty ByteArray.empty []))) []] []) (X.out 0) (st 23 [(3, V.ow 0)] [Blk.row 135 (List.map E135 r2) []] [])]) (by kernel_rfl) (cj (len_nm _ _) (cj rfl (cj (od h1) (cj (cap3 h1 h2) (cj (cap4 h2 (by decide)) (cj (nb_rep E135 _ (Slot.mk ByteArray.empty ByteArray.empty [])) (cj1 (laws_toSlotS_l0_ok a h7 a [] rfl (List.replicate ((a.length : Int).toNat) (Slot.mk ByteArray.empty ByteArray.empty [])) r2 h8))))))))))) (fun h7 =>
      Pn.none)) (fun h2 =>
     Pn.none)) (fun h1 =>
    Pn.none)
def laws_toAcct (a : Acct) : Option (Acct) :=
 (laws_toHoldS a.Holds).bind fun r1 =>
 (laws_toRing a.Ring).bind fun r2 =>
 (laws_toSlotS a.Slots).bind fun r3 =>
 some (Acct.mk a.Id a.Limit a.Posted a.Most a.MostSum r1 r2 r3)
theorem laws_toAcct_ok (a : Acct) : Pn (fun y => Fn Tryd.prog 13 [(false, E41 a)] (E48 y) []) (laws_toAcct a) := by
  unfold laws_toAcct
  exact
   Pn.bind (fun r1 h1 =>
    Pn.bind (fun r2 h2 =>
     Pn.bind (fun r3 h3 =>
      Pn.some (Fn.of [.call [] (E44 r1) [], .call [] (E45 r2) [], .call [] (E46 r3) []] (p := [Fn Tryd.prog 38 [(false, E35 a.Holds)] (E44 r1) [],
       (true || ((E44 r1).nv && nvL [])) = true,
       Fn Tryd.prog 39 [(false, E38 a.Ring)] (E45 r2) [],
       (true || ((E45 r2).nv && nvL [])) = true,
       Fn Tryd.prog 40 [(false, E39 a.Slots)] (E46 r3) [],
       (true || ((E46 r3).nv && nvL [])) = true]) (by kernel_rfl) (cj (laws_toHoldS_ok a.Holds r1 h1) (cj rfl (cj (laws_toRing_ok a.Ring r2 h2) (cj rfl (cj (laws_toSlotS_ok a.Slots r3 h3) (cj1 rfl))))))))))
def laws_toAcctS_l0 (a : List Acct) : List Acct → List Acct → (List Acct) → Option ((List Acct))
  | [], p1, v1 =>
   some v1
  | x1 :: t1, p1, v1 =>
   (laws_toAcct x1).bind fun r1 =>
   (v1[(p1.length : Int).toNat]?).bind fun x2 =>
   laws_toAcctS_l0 a t1 (p1 ++ [x1]) (v1.set ((p1.length : Int).toNat) r1)
theorem laws_toAcctS_l0_ok (a : List Acct) (h4 : capOk a.length = true) : ∀ (t1 p1 : List Acct) (_ : a = p1 ++ t1) (v1 : List Acct), Pn (LpO Tryd.prog (sub (codeOf Tryd.prog 114) [1, 1, 0, 1, 0, 0]) (st 23 [(0, V.sl false 41 (List.map E41 a)), (3, V.ow 0), (4, V.sc (.int .i64 (p1.length : Int)))] [Blk.row 48 (List.map E48 v1) []] []) (fun (y : (List Acct)) => (X.out 0, st 23 [(3, V.ow 0)] [Blk.row 48 (List.map E48 y) []] []))) (laws_toAcctS_l0 a t1 p1 v1)
  | [], p1, h3, v1 => by
    unfold laws_toAcctS_l0
    exact
     Pn.some (LpO.out [.wait 3, .nm 10 (V.sc (.int .i64 (a.length : Int))), .bit false, .mask [3], .ren [0]] (p := [V.sc (.int .i64 ((List.map E41 a).length : Int)) = V.sc (.int .i64 (a.length : Int)),
      (decide ((p1.length : Int) < (a.length : Int))) = false]) (by kernel_rfl) (show X.out 0 ≠ X.go from nofun) (cj (len_nm _ _) (cj1 (rng_end h3))))
  | x1 :: t1, p1, h3, v1 => by
    unfold laws_toAcctS_l0
    exact
     Pn.bind (fun r1 h5 =>
      Pn.bind (fun x2 h6 =>
       LpO.go [.wait 3, .nm 10 (V.sc (.int .i64 (a.length : Int))), .bit true, .el (E41 x1), .call [] (E48 r1) [], .wait 1, .foc 0 ((p1.length : Int).toNat) (E48 x2), .fo 0, .wait 4, .shut 0, .nb 0 (.row 48 (List.map E48 (v1.set ((p1.length : Int).toNat) r1)) []), .mask [0, 3, 4], .ren [0], .nm 4 (V.sc (.int .i64 ((p1 ++ [x1]).length : Int)))] (p := [V.sc (.int .i64 ((List.map E41 a).length : Int)) = V.sc (.int .i64 (a.length : Int)),
        (decide ((p1.length : Int) < (a.length : Int))) = true,
        (0 : Int) ≤ (p1.length : Int),
        (List.map E41 a)[(p1.length : Int).toNat]? = some (E41 x1),
        Fn Tryd.prog 13 [(false, E41 x1)] (E48 r1) [],
        (true || ((E48 r1).nv && nvL [])) = true,
        (0 : Int) ≤ (p1.length : Int),
        ((p1.length : Int) : Int) < ((List.map E48 v1).length : Int),
        look [] ((p1.length : Int).toNat) = none,
        (List.map E48 v1)[(p1.length : Int).toNat]? = some (E48 x2),
        look [((p1.length : Int).toNat, V.agg [V.sc (.string x2.Id), V.sc (.int .i64 x2.Limit), V.sc (.int .i64 x2.Posted), V.sc (.int .i64 x2.Most), V.sc (.int .i64 x2.MostSum), V.ow 5, V.sc (.int .i64 x2.Ring.Span), V.sc (.int .i64 x2.Ring.Head), V.ow 6, V.ow 7, V.ow 8])] ((p1.length : Int).toNat) = some (V.agg [V.sc (.string x2.Id), V.sc (.int .i64 x2.Limit), V.sc (.int .i64 x2.Posted), V.sc (.int .i64 x2.Most), V.sc (.int .i64 x2.MostSum), V.ow 5, V.sc (.int .i64 x2.Ring.Span), V.sc (.int .i64 x2.Ring.Head), V.ow 6, V.ow 7, V.ow 8]),
        ((p1.length : Int).toNat) < (List.map E48 v1).length,
        ((p1.length : Int).toNat) = ((p1.length : Int).toNat),
        Blk.row 48 ((List.map E48 v1).set ((p1.length : Int).toNat) (V.agg [V.sc (.string r1.Id), V.sc (.int .i64 r1.Limit), V.sc (.int .i64 r1.Posted), V.sc (.int .i64 r1.Most), V.sc (.int .i64 r1.MostSum), V.sl true 80 (List.map E80 r1.Holds), V.sc (.int .i64 r1.Ring.Span), V.sc (.int .i64 r1.Ring.Head), V.sl true 3 (List.map E3 r1.Ring.Counts), V.sl true 3 (List.map E3 r1.Ring.Sums), V.sl true 135 (List.map E135 r1.Slots)])) [] = Blk.row 48 (List.map E48 (v1.set ((p1.length : Int).toNat) r1)) [],
        V.sc (.int .i64 (i64 ((p1.length : Int) + 1))) = V.sc (.int .i64 ((p1 ++ [x1]).length : Int))]) (by kernel_rfl) (cj (len_nm _ _) (cj (rng_lt h3) (cj (by omega) (cj (rng_get _ h3) (cj (laws_toAcct_ok x1 r1 h5) (cj rfl (cj (by omega) (cj (map_ltN (by omega) h6) (cj rfl (cj (map_get h6) (cj (look_cons_self _ _ _) (cj (map_lt h6) (cj rfl (cj (nb_set E48 _ _ r1) (cj1 (rng_next h3 h4)))))))))))))))) (laws_toAcctS_l0_ok a h4 t1 (p1 ++ [x1]) (rng_step h3) (v1.set ((p1.length : Int).toNat) r1))))
def laws_toAcctS (a : List Acct) : Option ((List Acct)) :=
 if (decide (0 ≤ (a.length : Int))) = true then
  if (capOk (a.length : Int).toNat) = true then
   if (capOk a.length) = true then
    (laws_toAcctS_l0 a a [] (List.replicate ((a.length : Int).toNat) (Acct.mk ByteArray.empty 0 0 0 0 [] (Ring.mk 0 0 [] []) []))).bind fun r2 =>
    some r2
   else none
  else none
 else none
theorem laws_toAcctS_ok (a : List Acct) : Pn (fun y => Fn Tryd.prog 114 [(false, E99 a)] (E62 y) []) (laws_toAcctS a) := by
  unfold laws_toAcctS
  exact
   Pn.ite (fun h1 =>
    Pn.ite (fun h2 =>
     Pn.ite (fun h7 =>
      Pn.bind (fun r2 h8 =>
       Pn.some (Fn.of [.wait 3, .nm 6 (V.sc (.int .i64 (a.length : Int))), .wait 1, .nb 0 (.row 48 (List.map E48 (List.replicate ((a.length : Int).toNat) (Acct.mk ByteArray.empty 0 0 0 0 [] (Ring.mk 0 0 [] []) []))) []), .wait 3, .mask [0, 3, 4], .ren [0], .loop (X.out 0) (st 23 [(3, V.ow 0)] [Blk.row 48 (List.map E48 r2) []] [])] (p := [V.sc (.int .i64 ((List.map E41 a).length : Int)) = V.sc (.int .i64 (a.length : Int)),
        ((a.length : Int) : Int) = (a.length : Int),
        (0 : Int) ≤ (a.length : Int),
        ((a.length : Int) : Int) ≤ 9223372036854775807,
        160 * (a.length : Int).toNat ≤ 281474976710656,
        Blk.row 48 (List.replicate ((a.length : Int).toNat) (V.agg [V.sc (.string ByteArray.empty), V.sc (.int .i64 0), V.sc (.int .i64 0), V.sc (.int .i64 0), V.sc (.int .i64 0), V.sl true 80 ([] : List V), V.sc (.int .i64 0), V.sc (.int .i64 0), V.sl true 3 ([] : List V), V.sl true 3 ([] : List V), V.sl true 135 ([] : List V)])) [] = Blk.row 48 (List.map E48 (List.replicate ((a.length : Int).toNat) (Acct.mk ByteArray.empty 0 0 0 0 [] (Ring.mk 0 0 [] []) []))) [],
        Loop Tryd.prog (sub (codeOf Tryd.prog 114) [1, 1, 0, 1, 0, 0]) (st 23 [(0, V.sl false 41 (List.map E41 a)), (3, V.ow 0), (4, V.sc (.int .i64 0))] [Blk.row 48 (List.map E48 (List.replicate ((a.length : Int).toNat) (Acct.mk ByteArray.empty 0 0 0 0 [] (Ring.mk 0 0 [] []) []))) []] []) (X.out 0) (st 23 [(3, V.ow 0)] [Blk.row 48 (List.map E48 r2) []] [])]) (by kernel_rfl) (cj (len_nm _ _) (cj rfl (cj (od h1) (cj (cap3 h1 h2) (cj (cap4 h2 (by decide)) (cj (nb_rep E48 _ (Acct.mk ByteArray.empty 0 0 0 0 [] (Ring.mk 0 0 [] []) [])) (cj1 (laws_toAcctS_l0_ok a h7 a [] rfl (List.replicate ((a.length : Int).toNat) (Acct.mk ByteArray.empty 0 0 0 0 [] (Ring.mk 0 0 [] []) [])) r2 h8))))))))))) (fun h7 =>
      Pn.none)) (fun h2 =>
     Pn.none)) (fun h1 =>
    Pn.none)
def laws_toStripe (a : Stripe) : Option (Stripe) :=
 (laws_toAcctS a.Accts).bind fun r1 =>
 some (Stripe.mk a.Owner r1)
theorem laws_toStripe_ok (a : Stripe) : Pn (fun y => Fn Tryd.prog 63 [(false, E101 a)] (E64 y) []) (laws_toStripe a) := by
  unfold laws_toStripe
  exact
   Pn.bind (fun r1 h1 =>
    Pn.some (Fn.of [.call [] (E62 r1) []] (p := [Fn Tryd.prog 114 [(false, E99 a.Accts)] (E62 r1) [],
     (true || ((E62 r1).nv && nvL [])) = true]) (by kernel_rfl) (cj (laws_toAcctS_ok a.Accts r1 h1) (cj1 rfl))))
def laws_toStripeS_l0 (a : List Stripe) : List Stripe → List Stripe → (List Stripe) → Option ((List Stripe))
  | [], p1, v1 =>
   some v1
  | x1 :: t1, p1, v1 =>
   (laws_toStripe x1).bind fun r1 =>
   (v1[(p1.length : Int).toNat]?).bind fun x2 =>
   laws_toStripeS_l0 a t1 (p1 ++ [x1]) (v1.set ((p1.length : Int).toNat) r1)
theorem laws_toStripeS_l0_ok (a : List Stripe) (h4 : capOk a.length = true) : ∀ (t1 p1 : List Stripe) (_ : a = p1 ++ t1) (v1 : List Stripe), Pn (LpO Tryd.prog (sub (codeOf Tryd.prog 24) [1, 1, 0, 1, 0, 0]) (st 23 [(0, V.sl false 101 (List.map E101 a)), (3, V.ow 0), (4, V.sc (.int .i64 (p1.length : Int)))] [Blk.row 64 (List.map E64 v1) []] []) (fun (y : (List Stripe)) => (X.out 0, st 23 [(3, V.ow 0)] [Blk.row 64 (List.map E64 y) []] []))) (laws_toStripeS_l0 a t1 p1 v1)
  | [], p1, h3, v1 => by
    unfold laws_toStripeS_l0
    exact
     Pn.some (LpO.out [.wait 3, .nm 10 (V.sc (.int .i64 (a.length : Int))), .bit false, .mask [3], .ren [0]] (p := [V.sc (.int .i64 ((List.map E101 a).length : Int)) = V.sc (.int .i64 (a.length : Int)),
      (decide ((p1.length : Int) < (a.length : Int))) = false]) (by kernel_rfl) (show X.out 0 ≠ X.go from nofun) (cj (len_nm _ _) (cj1 (rng_end h3))))
  | x1 :: t1, p1, h3, v1 => by
    unfold laws_toStripeS_l0
    exact
     Pn.bind (fun r1 h5 =>
      Pn.bind (fun x2 h6 =>
       LpO.go [.wait 3, .nm 10 (V.sc (.int .i64 (a.length : Int))), .bit true, .el (E101 x1), .call [] (E64 r1) [], .wait 1, .foc 0 ((p1.length : Int).toNat) (E64 x2), .fo 0, .wait 4, .shut 0, .nb 0 (.row 64 (List.map E64 (v1.set ((p1.length : Int).toNat) r1)) []), .mask [0, 3, 4], .ren [0], .nm 4 (V.sc (.int .i64 ((p1 ++ [x1]).length : Int)))] (p := [V.sc (.int .i64 ((List.map E101 a).length : Int)) = V.sc (.int .i64 (a.length : Int)),
        (decide ((p1.length : Int) < (a.length : Int))) = true,
        (0 : Int) ≤ (p1.length : Int),
        (List.map E101 a)[(p1.length : Int).toNat]? = some (E101 x1),
        Fn Tryd.prog 63 [(false, E101 x1)] (E64 r1) [],
        (true || ((E64 r1).nv && nvL [])) = true,
        (0 : Int) ≤ (p1.length : Int),
        ((p1.length : Int) : Int) < ((List.map E64 v1).length : Int),
        look [] ((p1.length : Int).toNat) = none,
        (List.map E64 v1)[(p1.length : Int).toNat]? = some (E64 x2),
        look [((p1.length : Int).toNat, V.agg [V.sc (.int .i64 x2.Owner), V.ow 2])] ((p1.length : Int).toNat) = some (V.agg [V.sc (.int .i64 x2.Owner), V.ow 2]),
        ((p1.length : Int).toNat) < (List.map E64 v1).length,
        ((p1.length : Int).toNat) = ((p1.length : Int).toNat),
        Blk.row 64 ((List.map E64 v1).set ((p1.length : Int).toNat) (V.agg [V.sc (.int .i64 r1.Owner), V.sl true 48 (List.map E48 r1.Accts)])) [] = Blk.row 64 (List.map E64 (v1.set ((p1.length : Int).toNat) r1)) [],
        V.sc (.int .i64 (i64 ((p1.length : Int) + 1))) = V.sc (.int .i64 ((p1 ++ [x1]).length : Int))]) (by kernel_rfl) (cj (len_nm _ _) (cj (rng_lt h3) (cj (by omega) (cj (rng_get _ h3) (cj (laws_toStripe_ok x1 r1 h5) (cj rfl (cj (by omega) (cj (map_ltN (by omega) h6) (cj rfl (cj (map_get h6) (cj (look_cons_self _ _ _) (cj (map_lt h6) (cj rfl (cj (nb_set E64 _ _ r1) (cj1 (rng_next h3 h4)))))))))))))))) (laws_toStripeS_l0_ok a h4 t1 (p1 ++ [x1]) (rng_step h3) (v1.set ((p1.length : Int).toNat) r1))))
def laws_toStripeS (a : List Stripe) : Option ((List Stripe)) :=
 if (decide (0 ≤ (a.length : Int))) = true then
  if (capOk (a.length : Int).toNat) = true then
   if (capOk a.length) = true then
    (laws_toStripeS_l0 a a [] (List.replicate ((a.length : Int).toNat) (Stripe.mk 0 []))).bind fun r2 =>
    some r2
   else none
  else none
 else none
theorem laws_toStripeS_ok (a : List Stripe) : Pn (fun y => Fn Tryd.prog 24 [(false, E22 a)] (E28 y) []) (laws_toStripeS a) := by
  unfold laws_toStripeS
  exact
   Pn.ite (fun h1 =>
    Pn.ite (fun h2 =>
     Pn.ite (fun h7 =>
      Pn.bind (fun r2 h8 =>
       Pn.some (Fn.of [.wait 3, .nm 6 (V.sc (.int .i64 (a.length : Int))), .wait 1, .nb 0 (.row 64 (List.map E64 (List.replicate ((a.length : Int).toNat) (Stripe.mk 0 []))) []), .wait 3, .mask [0, 3, 4], .ren [0], .loop (X.out 0) (st 23 [(3, V.ow 0)] [Blk.row 64 (List.map E64 r2) []] [])] (p := [V.sc (.int .i64 ((List.map E101 a).length : Int)) = V.sc (.int .i64 (a.length : Int)),
        ((a.length : Int) : Int) = (a.length : Int),
        (0 : Int) ≤ (a.length : Int),
        ((a.length : Int) : Int) ≤ 9223372036854775807,
        32 * (a.length : Int).toNat ≤ 281474976710656,
        Blk.row 64 (List.replicate ((a.length : Int).toNat) (V.agg [V.sc (.int .i64 0), V.sl true 48 ([] : List V)])) [] = Blk.row 64 (List.map E64 (List.replicate ((a.length : Int).toNat) (Stripe.mk 0 []))) [],
        Loop Tryd.prog (sub (codeOf Tryd.prog 24) [1, 1, 0, 1, 0, 0]) (st 23 [(0, V.sl false 101 (List.map E101 a)), (3, V.ow 0), (4, V.sc (.int .i64 0))] [Blk.row 64 (List.map E64 (List.replicate ((a.length : Int).toNat) (Stripe.mk 0 []))) []] []) (X.out 0) (st 23 [(3, V.ow 0)] [Blk.row 64 (List.map E64 r2) []] [])]) (by kernel_rfl) (cj (len_nm _ _) (cj rfl (cj (od h1) (cj (cap3 h1 h2) (cj (cap4 h2 (by decide)) (cj (nb_rep E64 _ (Stripe.mk 0 [])) (cj1 (laws_toStripeS_l0_ok a h7 a [] rfl (List.replicate ((a.length : Int).toNat) (Stripe.mk 0 [])) r2 h8))))))))))) (fun h7 =>
      Pn.none)) (fun h2 =>
     Pn.none)) (fun h1 =>
    Pn.none)
def laws_toTask (a : Task) : Option (Task) :=
 (laws_toByteS a.Data).bind fun r1 =>
 (laws_toIntS a.Set).bind fun r2 =>
 (laws_toByteS a.Reply).bind fun r3 =>
 some (Task.mk r1 a.Pc r2 a.Held a.Inv a.Lin a.Res a.At r3)
theorem laws_toTask_ok (a : Task) : Pn (fun y => Fn Tryd.prog 64 [(false, E104 a)] (E106 y) []) (laws_toTask a) := by
  unfold laws_toTask
  exact
   Pn.bind (fun r1 h1 =>
    Pn.bind (fun r2 h2 =>
     Pn.bind (fun r3 h3 =>
      Pn.some (Fn.of [.call [] (E52 r1) [], .call [] (E36 r2) [], .call [] (E52 r3) []] (p := [Fn Tryd.prog 115 [(false, E52 a.Data)] (E52 r1) [],
       (true || ((E52 r1).nv && nvL [])) = true,
       Fn Tryd.prog 85 [(false, E36 a.Set)] (E36 r2) [],
       (true || ((E36 r2).nv && nvL [])) = true,
       Fn Tryd.prog 115 [(false, E52 a.Reply)] (E52 r3) [],
       (true || ((E52 r3).nv && nvL [])) = true]) (by kernel_rfl) (cj (laws_toByteS_ok a.Data r1 h1) (cj rfl (cj (laws_toIntS_ok a.Set r2 h2) (cj rfl (cj (laws_toByteS_ok a.Reply r3 h3) (cj1 rfl))))))))))
def laws_toTaskS_l0 (a : List Task) : List Task → List Task → (List Task) → Option ((List Task))
  | [], p1, v1 =>
   some v1
  | x1 :: t1, p1, v1 =>
   (laws_toTask x1).bind fun r1 =>
   (v1[(p1.length : Int).toNat]?).bind fun x2 =>
   laws_toTaskS_l0 a t1 (p1 ++ [x1]) (v1.set ((p1.length : Int).toNat) r1)
theorem laws_toTaskS_l0_ok (a : List Task) (h4 : capOk a.length = true) : ∀ (t1 p1 : List Task) (_ : a = p1 ++ t1) (v1 : List Task), Pn (LpO Tryd.prog (sub (codeOf Tryd.prog 25) [1, 1, 0, 1, 0, 0]) (st 23 [(0, V.sl false 104 (List.map E104 a)), (3, V.ow 0), (4, V.sc (.int .i64 (p1.length : Int)))] [Blk.row 106 (List.map E106 v1) []] []) (fun (y : (List Task)) => (X.out 0, st 23 [(3, V.ow 0)] [Blk.row 106 (List.map E106 y) []] []))) (laws_toTaskS_l0 a t1 p1 v1)
  | [], p1, h3, v1 => by
    unfold laws_toTaskS_l0
    exact
     Pn.some (LpO.out [.wait 3, .nm 10 (V.sc (.int .i64 (a.length : Int))), .bit false, .mask [3], .ren [0]] (p := [V.sc (.int .i64 ((List.map E104 a).length : Int)) = V.sc (.int .i64 (a.length : Int)),
      (decide ((p1.length : Int) < (a.length : Int))) = false]) (by kernel_rfl) (show X.out 0 ≠ X.go from nofun) (cj (len_nm _ _) (cj1 (rng_end h3))))
  | x1 :: t1, p1, h3, v1 => by
    unfold laws_toTaskS_l0
    exact
     Pn.bind (fun r1 h5 =>
      Pn.bind (fun x2 h6 =>
       LpO.go [.wait 3, .nm 10 (V.sc (.int .i64 (a.length : Int))), .bit true, .el (E104 x1), .call [] (E106 r1) [], .wait 1, .foc 0 ((p1.length : Int).toNat) (E106 x2), .fo 0, .wait 4, .shut 0, .nb 0 (.row 106 (List.map E106 (v1.set ((p1.length : Int).toNat) r1)) []), .mask [0, 3, 4], .ren [0], .nm 4 (V.sc (.int .i64 ((p1 ++ [x1]).length : Int)))] (p := [V.sc (.int .i64 ((List.map E104 a).length : Int)) = V.sc (.int .i64 (a.length : Int)),
        (decide ((p1.length : Int) < (a.length : Int))) = true,
        (0 : Int) ≤ (p1.length : Int),
        (List.map E104 a)[(p1.length : Int).toNat]? = some (E104 x1),
        Fn Tryd.prog 64 [(false, E104 x1)] (E106 r1) [],
        (true || ((E106 r1).nv && nvL [])) = true,
        (0 : Int) ≤ (p1.length : Int),
        ((p1.length : Int) : Int) < ((List.map E106 v1).length : Int),
        look [] ((p1.length : Int).toNat) = none,
        (List.map E106 v1)[(p1.length : Int).toNat]? = some (E106 x2),
        look [((p1.length : Int).toNat, V.agg [V.ow 4, V.sc (.int .i64 x2.Pc), V.ow 5, V.sc (.int .i64 x2.Held), V.sc (.int .i64 x2.Inv), V.sc (.int .i64 x2.Lin), V.sc (.int .i64 x2.Res), V.sc (.int .i64 x2.At), V.ow 6])] ((p1.length : Int).toNat) = some (V.agg [V.ow 4, V.sc (.int .i64 x2.Pc), V.ow 5, V.sc (.int .i64 x2.Held), V.sc (.int .i64 x2.Inv), V.sc (.int .i64 x2.Lin), V.sc (.int .i64 x2.Res), V.sc (.int .i64 x2.At), V.ow 6]),
        ((p1.length : Int).toNat) < (List.map E106 v1).length,
        ((p1.length : Int).toNat) = ((p1.length : Int).toNat),
        Blk.row 106 ((List.map E106 v1).set ((p1.length : Int).toNat) (V.agg [V.sl true 5 (List.map E5 r1.Data), V.sc (.int .i64 r1.Pc), V.sl true 3 (List.map E3 r1.Set), V.sc (.int .i64 r1.Held), V.sc (.int .i64 r1.Inv), V.sc (.int .i64 r1.Lin), V.sc (.int .i64 r1.Res), V.sc (.int .i64 r1.At), V.sl true 5 (List.map E5 r1.Reply)])) [] = Blk.row 106 (List.map E106 (v1.set ((p1.length : Int).toNat) r1)) [],
        V.sc (.int .i64 (i64 ((p1.length : Int) + 1))) = V.sc (.int .i64 ((p1 ++ [x1]).length : Int))]) (by kernel_rfl) (cj (len_nm _ _) (cj (rng_lt h3) (cj (by omega) (cj (rng_get _ h3) (cj (laws_toTask_ok x1 r1 h5) (cj rfl (cj (by omega) (cj (map_ltN (by omega) h6) (cj rfl (cj (map_get h6) (cj (look_cons_self _ _ _) (cj (map_lt h6) (cj rfl (cj (nb_set E106 _ _ r1) (cj1 (rng_next h3 h4)))))))))))))))) (laws_toTaskS_l0_ok a h4 t1 (p1 ++ [x1]) (rng_step h3) (v1.set ((p1.length : Int).toNat) r1))))
def laws_toTaskS (a : List Task) : Option ((List Task)) :=
 if (decide (0 ≤ (a.length : Int))) = true then
  if (capOk (a.length : Int).toNat) = true then
   if (capOk a.length) = true then
    (laws_toTaskS_l0 a a [] (List.replicate ((a.length : Int).toNat) (Task.mk [] 0 [] 0 0 0 0 0 []))).bind fun r2 =>
    some r2
   else none
  else none
 else none
theorem laws_toTaskS_ok (a : List Task) : Pn (fun y => Fn Tryd.prog 25 [(false, E23 a)] (E29 y) []) (laws_toTaskS a) := by
  unfold laws_toTaskS
  exact
   Pn.ite (fun h1 =>
    Pn.ite (fun h2 =>
     Pn.ite (fun h7 =>
      Pn.bind (fun r2 h8 =>
       Pn.some (Fn.of [.wait 3, .nm 6 (V.sc (.int .i64 (a.length : Int))), .wait 1, .nb 0 (.row 106 (List.map E106 (List.replicate ((a.length : Int).toNat) (Task.mk [] 0 [] 0 0 0 0 0 []))) []), .wait 3, .mask [0, 3, 4], .ren [0], .loop (X.out 0) (st 23 [(3, V.ow 0)] [Blk.row 106 (List.map E106 r2) []] [])] (p := [V.sc (.int .i64 ((List.map E104 a).length : Int)) = V.sc (.int .i64 (a.length : Int)),
        ((a.length : Int) : Int) = (a.length : Int),
        (0 : Int) ≤ (a.length : Int),
        ((a.length : Int) : Int) ≤ 9223372036854775807,
        120 * (a.length : Int).toNat ≤ 281474976710656,
        Blk.row 106 (List.replicate ((a.length : Int).toNat) (V.agg [V.sl true 5 ([] : List V), V.sc (.int .i64 0), V.sl true 3 ([] : List V), V.sc (.int .i64 0), V.sc (.int .i64 0), V.sc (.int .i64 0), V.sc (.int .i64 0), V.sc (.int .i64 0), V.sl true 5 ([] : List V)])) [] = Blk.row 106 (List.map E106 (List.replicate ((a.length : Int).toNat) (Task.mk [] 0 [] 0 0 0 0 0 []))) [],
        Loop Tryd.prog (sub (codeOf Tryd.prog 25) [1, 1, 0, 1, 0, 0]) (st 23 [(0, V.sl false 104 (List.map E104 a)), (3, V.ow 0), (4, V.sc (.int .i64 0))] [Blk.row 106 (List.map E106 (List.replicate ((a.length : Int).toNat) (Task.mk [] 0 [] 0 0 0 0 0 []))) []] []) (X.out 0) (st 23 [(3, V.ow 0)] [Blk.row 106 (List.map E106 r2) []] [])]) (by kernel_rfl) (cj (len_nm _ _) (cj rfl (cj (od h1) (cj (cap3 h1 h2) (cj (cap4 h2 (by decide)) (cj (nb_rep E106 _ (Task.mk [] 0 [] 0 0 0 0 0 [])) (cj1 (laws_toTaskS_l0_ok a h7 a [] rfl (List.replicate ((a.length : Int).toNat) (Task.mk [] 0 [] 0 0 0 0 0 [])) r2 h8))))))))))) (fun h7 =>
      Pn.none)) (fun h2 =>
     Pn.none)) (fun h1 =>
    Pn.none)
def laws_toWorld (a : World) : Option (World) :=
 (laws_toStripeS a.Stripes).bind fun r1 =>
 (laws_toTaskS a.Tasks).bind fun r2 =>
 some (World.mk r1 a.Now a.Step r2)
theorem laws_toWorld_ok (a : World) : Pn (fun y => Fn Tryd.prog 8 [(false, E25 a)] (E31 y) []) (laws_toWorld a) := by
  unfold laws_toWorld
  exact
   Pn.bind (fun r1 h1 =>
    Pn.bind (fun r2 h2 =>
     Pn.some (Fn.of [.call [] (E28 r1) [], .call [] (E29 r2) []] (p := [Fn Tryd.prog 24 [(false, E22 a.Stripes)] (E28 r1) [],
      (true || ((E28 r1).nv && nvL [])) = true,
      Fn Tryd.prog 25 [(false, E23 a.Tasks)] (E29 r2) [],
      (true || ((E29 r2).nv && nvL [])) = true]) (by kernel_rfl) (cj (laws_toStripeS_ok a.Stripes r1 h1) (cj rfl (cj (laws_toTaskS_ok a.Tasks r2 h2) (cj1 rfl)))))))
def spec_l01Money (n : Int) : Option (Bool) :=
 if (decide (0 ≤ n)) = true then
  some (decide (n ≤ 4611686018427387904))
 else
  some false
theorem spec_l01Money_ok (n : Int) : Pn (fun y => Fn Tryd.prog 62 [(false, E3 n)] (E4 y) []) (spec_l01Money n) := by
  unfold spec_l01Money
  exact
   Pn.ite (fun h1 =>
    Pn.some (Fn.of [.bit true, .bit true, .bit true] (p := [(decide (0 ≤ n)) = true,
     (decide (0 ≤ n)) = true,
     (decide (0 ≤ n)) = true]) (by kernel_rfl) (cj h1 (cj h1 (cj1 h1))))) (fun h1 =>
    Pn.some (Fn.of [.bit false, .bit false, .bit false] (p := [(decide (0 ≤ n)) = false,
     (decide (0 ≤ n)) = false,
     (decide (0 ≤ n)) = false]) (by kernel_rfl) (cj h1 (cj h1 (cj1 h1)))))
def spec_NumText_l0 (n : Int) : Nat → Int → ByteArray → Option (Int × ByteArray)
  | 0, _, _ => none
  | fuel + 1, v1, v2 =>
   if (decide (9 < v1)) = true then
    if (decide ((bstr [u8 (i64 (48 + (Int.tmod v1 10)))]).size + v2.size ≤ 9223372036854775807)) = true then
     spec_NumText_l0 n fuel (i64 (Int.tdiv v1 10)) ((bstr [u8 (i64 (48 + (Int.tmod v1 10)))]) ++ v2)
    else none
   else
    some (v1, v2)
theorem spec_NumText_l0_ok (n : Int) : ∀ (fuel : Nat) (v1 : Int) (v2 : ByteArray), Pn (LpO Tryd.prog (sub (codeOf Tryd.prog 23) [1, 1, 1, 0, 0, 0]) (st 26 [(0, V.sc (.int .i64 v1)), (3, V.sc (.string v2))] [] []) (fun (y : Int × ByteArray) => (X.out 0, st 26 [(0, V.sc (.int .i64 y.1)), (3, V.sc (.string y.2))] [] []))) (spec_NumText_l0 n fuel v1 v2)
  | 0, _, _ => Pn.none
  | fuel + 1, v1, v2 => by
    unfold spec_NumText_l0
    exact
     Pn.ite (fun h3 =>
      Pn.ite (fun h4 =>
       LpO.go [.bit true, .ints [u8 (i64 (48 + (Int.tmod v1 10)))], .wait 7, .mask [0, 3], .ren []] (p := [(decide (9 < v1)) = true,
        (10 : Int) ≠ 0,
        [V.sc (.int .u8 (u8 (i64 (48 + (Int.tmod v1 10)))))] = [u8 (i64 (48 + (Int.tmod v1 10)))].map fun n => V.sc (.int .u8 n),
        (bstr [u8 (i64 (48 + (Int.tmod v1 10)))]).size + v2.size ≤ 9223372036854775807,
        (10 : Int) ≠ 0]) (by kernel_rfl) (cj h3 (cj (by decide) (cj rfl (cj (od h4) (cj1 (by decide)))))) (spec_NumText_l0_ok n fuel (i64 (Int.tdiv v1 10)) ((bstr [u8 (i64 (48 + (Int.tmod v1 10)))]) ++ v2))) (fun h4 =>
       Pn.none)) (fun h3 =>
      Pn.some (LpO.out [.bit false, .mask [0, 3], .ren []] (p := [(decide (9 < v1)) = false]) (by kernel_rfl) (show X.out 0 ≠ X.go from nofun) (cj1 h3)))
def spec_NumText (n : Int) : Option (ByteArray) :=
 (spec_l01Money n).bind fun r1 =>
 if r1 = true then
  (spec_NumText_l0 n FUEL n (bs [])).bind fun r2 =>
  if (decide ((bstr [u8 (i64 (48 + r2.1))]).size + r2.2.size ≤ 9223372036854775807)) = true then
   some ((bstr [u8 (i64 (48 + r2.1))]) ++ r2.2)
  else none
 else
  some (bs [])
theorem spec_NumText_ok (n : Int) : Pn (fun y => Fn Tryd.prog 23 [(false, E3 n)] (E9 y) []) (spec_NumText n) := by
  unfold spec_NumText
  exact
   Pn.bind (fun r1 h1 =>
    Pn.ite (fun h2 =>
     Pn.bind (fun r2 h5 =>
      Pn.ite (fun h6 =>
       Pn.some (Fn.of [.call [] (E4 r1) [], .bit false, .wait 1, .mask [0, 3], .ren [], .loop (X.out 0) (st 26 [(0, V.sc (.int .i64 r2.1)), (3, V.sc (.string r2.2))] [] []), .ints [u8 (i64 (48 + r2.1))]] (p := [Fn Tryd.prog 62 [(false, E3 n)] (E4 r1) [],
        (true || ((E4 r1).nv && nvL [])) = true,
        (!r1) = false,
        Loop Tryd.prog (sub (codeOf Tryd.prog 23) [1, 1, 1, 0, 0, 0]) (st 26 [(0, V.sc (.int .i64 n)), (3, V.sc (.string (bs [])))] [] []) (X.out 0) (st 26 [(0, V.sc (.int .i64 r2.1)), (3, V.sc (.string r2.2))] [] []),
        [V.sc (.int .u8 (u8 (i64 (48 + r2.1))))] = [u8 (i64 (48 + r2.1))].map fun n => V.sc (.int .u8 n),
        (bstr [u8 (i64 (48 + r2.1))]).size + r2.2.size ≤ 9223372036854775807]) (by kernel_rfl) (cj (spec_l01Money_ok n r1 h1) (cj rfl (cj (nf h2) (cj (spec_NumText_l0_ok n FUEL n (bs []) r2 h5) (cj rfl (cj1 (od h6))))))))) (fun h6 =>
       Pn.none))) (fun h2 =>
     Pn.some (Fn.of [.call [] (E4 r1) [], .bit true] (p := [Fn Tryd.prog 62 [(false, E3 n)] (E4 r1) [],
      (true || ((E4 r1).nv && nvL [])) = true,
      (!r1) = true]) (by kernel_rfl) (cj (spec_l01Money_ok n r1 h1) (cj rfl (cj1 (nt h2)))))))
def spec_LocksShow_l0 (w : World) : List Stripe → List Stripe → ByteArray → Option (ByteArray)
  | [], p1, v1 =>
   some v1
  | x1 :: t1, p1, v1 =>
   if (decide (0 < (p1.length : Int))) = true then
    if (decide (v1.size + (bs [32]).size ≤ 9223372036854775807)) = true then
     if (x1.Owner == (-1)) = true then
      if (decide ((v1 ++ (bs [32])).size + (bs [45]).size ≤ 9223372036854775807)) = true then
       spec_LocksShow_l0 w t1 (p1 ++ [x1]) ((v1 ++ (bs [32])) ++ (bs [45]))
      else none
     else
      (spec_NumText x1.Owner).bind fun r1 =>
      if (decide ((v1 ++ (bs [32])).size + r1.size ≤ 9223372036854775807)) = true then
       spec_LocksShow_l0 w t1 (p1 ++ [x1]) ((v1 ++ (bs [32])) ++ r1)
      else none
    else none
   else
    if (x1.Owner == (-1)) = true then
     if (decide (v1.size + (bs [45]).size ≤ 9223372036854775807)) = true then
      spec_LocksShow_l0 w t1 (p1 ++ [x1]) (v1 ++ (bs [45]))
     else none
    else
     (spec_NumText x1.Owner).bind fun r2 =>
     if (decide (v1.size + r2.size ≤ 9223372036854775807)) = true then
      spec_LocksShow_l0 w t1 (p1 ++ [x1]) (v1 ++ r2)
     else none
theorem spec_LocksShow_l0_ok (w : World) (h2 : capOk w.Stripes.length = true) : ∀ (t1 p1 : List Stripe) (_ : w.Stripes = p1 ++ t1) (v1 : ByteArray), Pn (LpO Tryd.prog (sub (codeOf Tryd.prog 7) [1, 1, 0, 1, 0, 0]) (st 30 [(3, V.sc (.string v1)), (7, V.sl false 64 (List.map E64 w.Stripes)), (8, V.sc (.int .i64 (w.Stripes.length : Int))), (9, V.sc (.int .i64 (p1.length : Int)))] [] []) (fun (y : ByteArray) => (X.out 0, st 30 [(3, V.sc (.string y))] [] []))) (spec_LocksShow_l0 w t1 p1 v1)
  | [], p1, h1, v1 => by
    unfold spec_LocksShow_l0
    exact
     Pn.some (LpO.out [.bit false, .mask [3], .ren []] (p := [(decide ((p1.length : Int) < (w.Stripes.length : Int))) = false]) (by kernel_rfl) (show X.out 0 ≠ X.go from nofun) (cj1 (rng_end h1)))
  | x1 :: t1, p1, h1, v1 => by
    unfold spec_LocksShow_l0
    exact
     Pn.ite (fun h3 =>
      Pn.ite (fun h4 =>
       Pn.ite (fun h5 =>
        Pn.ite (fun h6 =>
         LpO.go [.bit true, .el (E64 x1), .bit true, .bit true, .wait 5, .mask [3, 7, 8, 9], .ren [], .nm 9 (V.sc (.int .i64 ((p1 ++ [x1]).length : Int)))] (p := [(decide ((p1.length : Int) < (w.Stripes.length : Int))) = true,
          (0 : Int) ≤ (p1.length : Int),
          (List.map E64 w.Stripes)[(p1.length : Int).toNat]? = some (E64 x1),
          (decide (0 < (p1.length : Int))) = true,
          v1.size + (bs [32]).size ≤ 9223372036854775807,
          (x1.Owner == (-1)) = true,
          (v1 ++ (bs [32])).size + (bs [45]).size ≤ 9223372036854775807,
          V.sc (.int .i64 (i64 ((p1.length : Int) + 1))) = V.sc (.int .i64 ((p1 ++ [x1]).length : Int))]) (by kernel_rfl) (cj (rng_lt h1) (cj (by omega) (cj (rng_get _ h1) (cj h3 (cj (od h4) (cj h5 (cj (od h6) (cj1 (rng_next h1 h2))))))))) (spec_LocksShow_l0_ok w h2 t1 (p1 ++ [x1]) (rng_step h1) ((v1 ++ (bs [32])) ++ (bs [45])))) (fun h6 =>
         Pn.none)) (fun h5 =>
        Pn.bind (fun r1 h7 =>
         Pn.ite (fun h8 =>
          LpO.go [.bit true, .el (E64 x1), .bit true, .bit false, .call [] (E9 r1) [], .wait 5, .mask [3, 7, 8, 9], .ren [], .nm 9 (V.sc (.int .i64 ((p1 ++ [x1]).length : Int)))] (p := [(decide ((p1.length : Int) < (w.Stripes.length : Int))) = true,
           (0 : Int) ≤ (p1.length : Int),
           (List.map E64 w.Stripes)[(p1.length : Int).toNat]? = some (E64 x1),
           (decide (0 < (p1.length : Int))) = true,
           v1.size + (bs [32]).size ≤ 9223372036854775807,
           (x1.Owner == (-1)) = false,
           Fn Tryd.prog 23 [(false, E3 x1.Owner)] (E9 r1) [],
           (true || ((E9 r1).nv && nvL [])) = true,
           (v1 ++ (bs [32])).size + r1.size ≤ 9223372036854775807,
           V.sc (.int .i64 (i64 ((p1.length : Int) + 1))) = V.sc (.int .i64 ((p1 ++ [x1]).length : Int))]) (by kernel_rfl) (cj (rng_lt h1) (cj (by omega) (cj (rng_get _ h1) (cj h3 (cj (od h4) (cj h5 (cj (spec_NumText_ok x1.Owner r1 h7) (cj rfl (cj (od h8) (cj1 (rng_next h1 h2))))))))))) (spec_LocksShow_l0_ok w h2 t1 (p1 ++ [x1]) (rng_step h1) ((v1 ++ (bs [32])) ++ r1))) (fun h8 =>
          Pn.none)))) (fun h4 =>
       Pn.none)) (fun h3 =>
      Pn.ite (fun h9 =>
       Pn.ite (fun h10 =>
        LpO.go [.bit true, .el (E64 x1), .bit false, .bit true, .wait 5, .mask [3, 7, 8, 9], .ren [], .nm 9 (V.sc (.int .i64 ((p1 ++ [x1]).length : Int)))] (p := [(decide ((p1.length : Int) < (w.Stripes.length : Int))) = true,
         (0 : Int) ≤ (p1.length : Int),
         (List.map E64 w.Stripes)[(p1.length : Int).toNat]? = some (E64 x1),
         (decide (0 < (p1.length : Int))) = false,
         (x1.Owner == (-1)) = true,
         v1.size + (bs [45]).size ≤ 9223372036854775807,
         V.sc (.int .i64 (i64 ((p1.length : Int) + 1))) = V.sc (.int .i64 ((p1 ++ [x1]).length : Int))]) (by kernel_rfl) (cj (rng_lt h1) (cj (by omega) (cj (rng_get _ h1) (cj h3 (cj h9 (cj (od h10) (cj1 (rng_next h1 h2)))))))) (spec_LocksShow_l0_ok w h2 t1 (p1 ++ [x1]) (rng_step h1) (v1 ++ (bs [45])))) (fun h10 =>
        Pn.none)) (fun h9 =>
       Pn.bind (fun r2 h11 =>
        Pn.ite (fun h12 =>
         LpO.go [.bit true, .el (E64 x1), .bit false, .bit false, .call [] (E9 r2) [], .wait 5, .mask [3, 7, 8, 9], .ren [], .nm 9 (V.sc (.int .i64 ((p1 ++ [x1]).length : Int)))] (p := [(decide ((p1.length : Int) < (w.Stripes.length : Int))) = true,
          (0 : Int) ≤ (p1.length : Int),
          (List.map E64 w.Stripes)[(p1.length : Int).toNat]? = some (E64 x1),
          (decide (0 < (p1.length : Int))) = false,
          (x1.Owner == (-1)) = false,
          Fn Tryd.prog 23 [(false, E3 x1.Owner)] (E9 r2) [],
          (true || ((E9 r2).nv && nvL [])) = true,
          v1.size + r2.size ≤ 9223372036854775807,
          V.sc (.int .i64 (i64 ((p1.length : Int) + 1))) = V.sc (.int .i64 ((p1 ++ [x1]).length : Int))]) (by kernel_rfl) (cj (rng_lt h1) (cj (by omega) (cj (rng_get _ h1) (cj h3 (cj h9 (cj (spec_NumText_ok x1.Owner r2 h11) (cj rfl (cj (od h12) (cj1 (rng_next h1 h2)))))))))) (spec_LocksShow_l0_ok w h2 t1 (p1 ++ [x1]) (rng_step h1) (v1 ++ r2))) (fun h12 =>
         Pn.none))))
def spec_LocksShow (w : World) : Option (ByteArray) :=
 if (capOk w.Stripes.length) = true then
  (spec_LocksShow_l0 w w.Stripes [] (bs [])).bind fun r3 =>
  some r3
 else none
theorem spec_LocksShow_ok (w : World) : Pn (fun y => Fn Tryd.prog 7 [(false, E31 w)] (E9 y) []) (spec_LocksShow w) := by
  unfold spec_LocksShow
  exact
   Pn.ite (fun h13 =>
    Pn.bind (fun r3 h14 =>
     Pn.some (Fn.of [.wait 6, .nm 8 (V.sc (.int .i64 (w.Stripes.length : Int))), .wait 2, .mask [3, 7, 8, 9], .ren [], .loop (X.out 0) (st 30 [(3, V.sc (.string r3))] [] [])] (p := [V.sc (.int .i64 ((List.map E64 w.Stripes).length : Int)) = V.sc (.int .i64 (w.Stripes.length : Int)),
      Loop Tryd.prog (sub (codeOf Tryd.prog 7) [1, 1, 0, 1, 0, 0]) (st 30 [(3, V.sc (.string (bs []))), (7, V.sl false 64 (List.map E64 w.Stripes)), (8, V.sc (.int .i64 (w.Stripes.length : Int))), (9, V.sc (.int .i64 0))] [] []) (X.out 0) (st 30 [(3, V.sc (.string r3))] [] [])]) (by kernel_rfl) (cj (len_nm _ _) (cj1 (spec_LocksShow_l0_ok w h13 w.Stripes [] rfl (bs []) r3 h14)))))) (fun h13 =>
    Pn.none)
def impl_within (n : Int) (low : Int) (high : Int) : Option (Bool) :=
 if (decide (low ≤ n)) = true then
  some (decide (n ≤ high))
 else
  some false
theorem impl_within_ok (n : Int) (low : Int) (high : Int) : Pn (fun y => Fn Tryd.prog 88 [(false, E3 n), (false, E3 low), (false, E3 high)] (E4 y) []) (impl_within n low high) := by
  unfold impl_within
  exact
   Pn.ite (fun h1 =>
    Pn.some (Fn.of [.bit true, .bit true, .bit true, .bit true] (p := [(decide (low ≤ n)) = true,
     (decide (low ≤ n)) = true,
     (decide (low ≤ n)) = true,
     (decide (low ≤ n)) = true]) (by kernel_rfl) (cj h1 (cj h1 (cj h1 (cj1 h1)))))) (fun h1 =>
    Pn.some (Fn.of [.bit false, .bit false, .bit false, .bit false] (p := [(decide (low ≤ n)) = false,
     (decide (low ≤ n)) = false,
     (decide (low ≤ n)) = false,
     (decide (low ≤ n)) = false]) (by kernel_rfl) (cj h1 (cj h1 (cj h1 (cj1 h1))))))
def impl_isMoney (n : Int) : Option (Bool) :=
 (impl_within n 0 4611686018427387904).bind fun r1 =>
 some r1
theorem impl_isMoney_ok (n : Int) : Pn (fun y => Fn Tryd.prog 65 [(false, E3 n)] (E4 y) []) (impl_isMoney n) := by
  unfold impl_isMoney
  exact
   Pn.bind (fun r1 h1 =>
    Pn.some (Fn.of [.call [] (E4 r1) []] (p := [Fn Tryd.prog 88 [(false, E3 n), (false, E3 0), (false, E3 4611686018427387904)] (E4 r1) [],
     (true || ((E4 r1).nv && nvL [])) = true]) (by kernel_rfl) (cj (impl_within_ok n 0 4611686018427387904 r1 h1) (cj1 rfl))))
def strconv_Itoa (i : Int) : Option ByteArray := if (decide (-9223372036854775808 ≤ i) && decide (i ≤ 9223372036854775807)) = true then some ⟨(Lib.itoa i).toArray⟩ else none
theorem strconv_Itoa_ok (i : Int) : Pn (fun y => Fn Tryd.prog 66 [(false, E3 i)] (E9 y) []) (strconv_Itoa i) := by
  unfold strconv_Itoa
  exact Pn.ite (fun h => Pn.some (Fn.flat [.int .i64 i] (by kernel_rfl) rfl fun w hw => by
    simp only [Bool.and_eq_true, decide_eq_true_eq] at h
    obtain ⟨cs, t, z, e1, e2⟩ := hw _ (List.Mem.head _)
    exact (Go.Proofs.Any.strconv_Itoa Tryd.laysM171 i h.1 h.2 w (tab_of (by kernel_rfl) e1 e2)).mono fun e w2 ⟨h1, k, os, h2⟩ => ⟨h1, h2 ▸ Lib.below_grow _ w (Nat.le_refl _) k os⟩)) (fun _ => Pn.none)
def impl_NumText (n : Int) : Option (ByteArray) :=
 (impl_isMoney n).bind fun r1 =>
 if r1 = true then
  (strconv_Itoa n).bind fun r2 =>
  some r2
 else
  some (bs [])
theorem impl_NumText_ok (n : Int) : Pn (fun y => Fn Tryd.prog 26 [(false, E3 n)] (E9 y) []) (impl_NumText n) := by
  unfold impl_NumText
  exact
   Pn.bind (fun r1 h1 =>
    Pn.ite (fun h2 =>
     Pn.bind (fun r2 h3 =>
      Pn.some (Fn.of [.call [] (E4 r1) [], .bit false, .call [] (E9 r2) []] (p := [Fn Tryd.prog 65 [(false, E3 n)] (E4 r1) [],
       (true || ((E4 r1).nv && nvL [])) = true,
       (!r1) = false,
       Fn Tryd.prog 66 [(false, E3 n)] (E9 r2) [],
       (true || ((E9 r2).nv && nvL [])) = true]) (by kernel_rfl) (cj (impl_isMoney_ok n r1 h1) (cj rfl (cj (nf h2) (cj (strconv_Itoa_ok n r2 h3) (cj1 rfl)))))))) (fun h2 =>
     Pn.some (Fn.of [.call [] (E4 r1) [], .bit true] (p := [Fn Tryd.prog 65 [(false, E3 n)] (E4 r1) [],
      (true || ((E4 r1).nv && nvL [])) = true,
      (!r1) = true]) (by kernel_rfl) (cj (impl_isMoney_ok n r1 h1) (cj rfl (cj1 (nt h2)))))))
def strings_Join (o : List ByteArray) (o_ : ByteArray) : Option ByteArray := if (decide (o.length ≤ 140737488355328) && decide ((joined o o_).size ≤ 140737488355328)) = true then some (joined o o_) else none
theorem strings_Join_ok (o : List ByteArray) (o_ : ByteArray) : Pn (fun y => Fn Tryd.prog 27 [(false, E68 o), (false, E9 o_)] (E9 y) []) (strings_Join o o_) := by
  unfold strings_Join
  exact Pn.ite (fun h => Pn.some (by
    simp only [Bool.and_eq_true, decide_eq_true_eq] at h
    exact Fn.join (by kernel_rfl) (fun a c s w => Go.Proofs.Any.strings_Join_none Tryd.lays156 Tryd.Builder_Extra_156 a c s w) (fun bk o c xs s w h1 h2 h3 h4 h5 => Go.Proofs.Any.strings_Join Tryd.lays156 Tryd.Builder_Extra_156 bk o c xs s w h1 h2 h3 h4 h5) o o_ h.1 h.2)) (fun _ => Pn.none)
def impl_LocksShow_l0 (w : World) : List Stripe → (List ByteArray) → Option ((List ByteArray))
  | [], v1 =>
   some v1
  | x1 :: t1, v1 =>
   if (x1.Owner == (-1)) = true then
    if (capOk (v1.length + 1)) = true then
     impl_LocksShow_l0 w t1 (v1 ++ [bs [45]])
    else none
   else
    (impl_NumText x1.Owner).bind fun r1 =>
    if (capOk (v1.length + 1)) = true then
     impl_LocksShow_l0 w t1 (v1 ++ [r1])
    else none
theorem impl_LocksShow_l0_ok (w : World) (h2 : capOk w.Stripes.length = true) : ∀ (t1 p1 : List Stripe) (_ : w.Stripes = p1 ++ t1) (v1 : List ByteArray), Pn (LpO Tryd.prog (sub (codeOf Tryd.prog 9) [1, 1, 0, 1, 0, 0]) (st 29 [(3, V.ow 0), (8, V.sl false 64 (List.map E64 w.Stripes)), (9, V.sc (.int .i64 (w.Stripes.length : Int))), (10, V.sc (.int .i64 (p1.length : Int)))] [Blk.row 9 (List.map E9 v1) []] []) (fun (y : (List ByteArray)) => (X.out 0, st 29 [(3, V.ow 0)] [Blk.row 9 (List.map E9 y) []] []))) (impl_LocksShow_l0 w t1 v1)
  | [], p1, h1, v1 => by
    unfold impl_LocksShow_l0
    exact
     Pn.some (LpO.out [.bit false, .mask [3], .ren [0]] (p := [(decide ((p1.length : Int) < (w.Stripes.length : Int))) = false]) (by kernel_rfl) (show X.out 0 ≠ X.go from nofun) (cj1 (rng_end h1)))
  | x1 :: t1, p1, h1, v1 => by
    unfold impl_LocksShow_l0
    exact
     Pn.ite (fun h3 =>
      Pn.ite (fun h4 =>
       LpO.go [.bit true, .el (E64 x1), .bit true, .cp [V.sc (.string (bs [45]))], .nb 3 (.row 9 (List.map E9 (v1 ++ [bs [45]])) []), .wait 4, .mask [3, 8, 9, 10], .ren [3], .nm 10 (V.sc (.int .i64 ((p1 ++ [x1]).length : Int)))] (p := [(decide ((p1.length : Int) < (w.Stripes.length : Int))) = true,
        (0 : Int) ≤ (p1.length : Int),
        (List.map E64 w.Stripes)[(p1.length : Int).toNat]? = some (E64 x1),
        (x1.Owner == (-1)) = true,
        [V.sc (.string (bs [45]))] = [V.sc (.string (bs [45]))],
        [V.sc (.string (bs [45]))].all V.flatE = true,
        (List.map E9 v1).length + [V.sc (.string (bs [45]))].length ≤ 9223372036854775807,
        ((List.map E9 v1).length + [V.sc (.string (bs [45]))].length) * 16 ≤ 140737488355328,
        Blk.row 9 ((List.map E9 v1) ++ [V.sc (.string (bs [45]))]) [] = Blk.row 9 (List.map E9 (v1 ++ [bs [45]])) [],
        V.sc (.int .i64 (i64 ((p1.length : Int) + 1))) = V.sc (.int .i64 ((p1 ++ [x1]).length : Int))]) (by kernel_rfl) (cj (rng_lt h1) (cj (by omega) (cj (rng_get _ h1) (cj h3 (cj rfl (cj rfl (cj (cap1 (capN (by simp) h4)) (cj (cap2 (capN (by simp) h4) (by decide)) (cj (nb_app E9 v1 [bs [45]]) (cj1 (rng_next h1 h2))))))))))) (impl_LocksShow_l0_ok w h2 t1 (p1 ++ [x1]) (rng_step h1) (v1 ++ [bs [45]]))) (fun h4 =>
       Pn.none)) (fun h3 =>
      Pn.bind (fun r1 h5 =>
       Pn.ite (fun h6 =>
        LpO.go [.bit true, .el (E64 x1), .bit false, .call [] (E9 r1) [], .cp [V.sc (.string r1)], .nb 3 (.row 9 (List.map E9 (v1 ++ [r1])) []), .wait 4, .mask [3, 8, 9, 10], .ren [3], .nm 10 (V.sc (.int .i64 ((p1 ++ [x1]).length : Int)))] (p := [(decide ((p1.length : Int) < (w.Stripes.length : Int))) = true,
         (0 : Int) ≤ (p1.length : Int),
         (List.map E64 w.Stripes)[(p1.length : Int).toNat]? = some (E64 x1),
         (x1.Owner == (-1)) = false,
         Fn Tryd.prog 26 [(false, E3 x1.Owner)] (E9 r1) [],
         (true || ((E9 r1).nv && nvL [])) = true,
         [V.sc (.string r1)] = [V.sc (.string r1)],
         [V.sc (.string r1)].all V.flatE = true,
         (List.map E9 v1).length + [V.sc (.string r1)].length ≤ 9223372036854775807,
         ((List.map E9 v1).length + [V.sc (.string r1)].length) * 16 ≤ 140737488355328,
         Blk.row 9 ((List.map E9 v1) ++ [V.sc (.string r1)]) [] = Blk.row 9 (List.map E9 (v1 ++ [r1])) [],
         V.sc (.int .i64 (i64 ((p1.length : Int) + 1))) = V.sc (.int .i64 ((p1 ++ [x1]).length : Int))]) (by kernel_rfl) (cj (rng_lt h1) (cj (by omega) (cj (rng_get _ h1) (cj h3 (cj (impl_NumText_ok x1.Owner r1 h5) (cj rfl (cj rfl (cj rfl (cj (cap1 (capN (by simp) h6)) (cj (cap2 (capN (by simp) h6) (by decide)) (cj (nb_app E9 v1 [r1]) (cj1 (rng_next h1 h2))))))))))))) (impl_LocksShow_l0_ok w h2 t1 (p1 ++ [x1]) (rng_step h1) (v1 ++ [r1]))) (fun h6 =>
        Pn.none)))
def impl_LocksShow (w : World) : Option (ByteArray) :=
 if (capOk w.Stripes.length) = true then
  (impl_LocksShow_l0 w w.Stripes []).bind fun r2 =>
  (strings_Join r2 (bs [32])).bind fun r3 =>
  some r3
 else none
theorem impl_LocksShow_ok (w : World) : Pn (fun y => Fn Tryd.prog 9 [(false, E31 w)] (E9 y) []) (impl_LocksShow w) := by
  unfold impl_LocksShow
  exact
   Pn.ite (fun h7 =>
    Pn.bind (fun r2 h8 =>
     Pn.bind (fun r3 h9 =>
      Pn.some (Fn.of [.wait 7, .nm 9 (V.sc (.int .i64 (w.Stripes.length : Int))), .wait 2, .mask [3, 8, 9, 10], .ren [1], .loop (X.out 0) (st 29 [(3, V.ow 0)] [Blk.row 9 (List.map E9 r2) []] []), .call [] (E9 r3) []] (p := [V.sc (.int .i64 ((List.map E64 w.Stripes).length : Int)) = V.sc (.int .i64 (w.Stripes.length : Int)),
       Loop Tryd.prog (sub (codeOf Tryd.prog 9) [1, 1, 0, 1, 0, 0]) (st 29 [(3, V.ow 0), (8, V.sl false 64 (List.map E64 w.Stripes)), (9, V.sc (.int .i64 (w.Stripes.length : Int))), (10, V.sc (.int .i64 0))] [Blk.row 9 ([] : List V) []] []) (X.out 0) (st 29 [(3, V.ow 0)] [Blk.row 9 (List.map E9 r2) []] []),
       Fn Tryd.prog 27 [(false, E68 r2), (false, E9 (bs [32]))] (E9 r3) [],
       (false || ((E9 r3).nv && nvL [])) = true]) (by kernel_rfl) (cj (len_nm _ _) (cj (impl_LocksShow_l0_ok w h7 w.Stripes [] rfl [] r2 h8) (cj (strings_Join_ok r2 (bs [32]) r3 h9) (cj1 (by simp [V.nv, nvL, nvL_all, nv_E9]))))))))) (fun h7 =>
    Pn.none)
def laws_eqHold (a : Hold) (b : Hold) : Option (Bool) :=
 if (a.Id == b.Id) = true then
  if (a.Amount != b.Amount) = true then
   some false
  else
   if (a.Due != b.Due) = true then
    some false
   else
    some true
 else
  some false
theorem laws_eqHold_ok (a : Hold) (b : Hold) : Pn (fun y => Fn Tryd.prog 99 [(false, E80 a), (false, E80 b)] (E4 y) []) (laws_eqHold a b) := by
  unfold laws_eqHold
  exact
   Pn.ite (fun h1 =>
    Pn.ite (fun h2 =>
     Pn.some (Fn.of [.bit false, .bit true] (p := [(!(a.Id == b.Id)) = false,
      (a.Amount != b.Amount) = true]) (by kernel_rfl) (cj (nf h1) (cj1 h2)))) (fun h2 =>
     Pn.ite (fun h3 =>
      Pn.some (Fn.of [.bit false, .bit false, .bit true] (p := [(!(a.Id == b.Id)) = false,
       (a.Amount != b.Amount) = false,
       (a.Due != b.Due) = true]) (by kernel_rfl) (cj (nf h1) (cj h2 (cj1 h3))))) (fun h3 =>
      Pn.some (Fn.of [.bit false, .bit false, .bit false] (p := [(!(a.Id == b.Id)) = false,
       (a.Amount != b.Amount) = false,
       (a.Due != b.Due) = false]) (by kernel_rfl) (cj (nf h1) (cj h2 (cj1 h3))))))) (fun h1 =>
    Pn.some (Fn.of [.bit true] (p := [(!(a.Id == b.Id)) = true]) (by kernel_rfl) (cj1 (nt h1))))
def laws_eqHoldS_l0 (a : List Hold) (b : List Hold) : List Hold → List Hold → Option (Lo Unit Unit)
  | [], p1 =>
   some (.out ())
  | x1 :: t1, p1 =>
   (b[(p1.length : Int).toNat]?).bind fun x2 =>
   (laws_eqHold x1 x2).bind fun r1 =>
   if r1 = true then
    laws_eqHoldS_l0 a b t1 (p1 ++ [x1])
   else
    some (.ret ())
theorem laws_eqHoldS_l0_ok (a : List Hold) (b : List Hold) (h3 : capOk a.length = true) : ∀ (t1 p1 : List Hold) (_ : a = p1 ++ t1) , Pn (LpO Tryd.prog (sub (codeOf Tryd.prog 46) [1, 1, 0, 1, 0, 0]) (st 27 [(0, V.sl false 80 (List.map E80 a)), (1, V.sl false 80 (List.map E80 b)), (5, V.sc (.int .i64 (p1.length : Int)))] [] []) (fun (y : Lo Unit Unit) => Lo.elim y (fun s => (X.out 0, st 27 [] [] [])) (fun s => (X.ret, st 27 [(4, V.sc (.bool false))] [] [])))) (laws_eqHoldS_l0 a b t1 p1)
  | [], p1, h2 => by
    unfold laws_eqHoldS_l0
    exact
     Pn.some (LpO.out [.wait 3, .nm 13 (V.sc (.int .i64 (a.length : Int))), .bit false, .mask [], .ren []] (p := [V.sc (.int .i64 ((List.map E80 a).length : Int)) = V.sc (.int .i64 (a.length : Int)),
      (decide ((p1.length : Int) < (a.length : Int))) = false]) (by kernel_rfl) (show X.out 0 ≠ X.go from nofun) (cj (len_nm _ _) (cj1 (rng_end h2))))
  | x1 :: t1, p1, h2 => by
    unfold laws_eqHoldS_l0
    exact
     Pn.bind (fun x2 h4 =>
      Pn.bind (fun r1 h5 =>
       Pn.ite (fun h6 =>
        LpO.go [.wait 3, .nm 13 (V.sc (.int .i64 (a.length : Int))), .bit true, .draw [], .el (E80 x1), .el (E80 x2), .call [] (E4 r1) [], .bit false, .wait 3, .mask [0, 1, 5], .ren [], .nm 5 (V.sc (.int .i64 ((p1 ++ [x1]).length : Int)))] (p := [V.sc (.int .i64 ((List.map E80 a).length : Int)) = V.sc (.int .i64 (a.length : Int)),
         (decide ((p1.length : Int) < (a.length : Int))) = true,
         (0 : Int) ≤ (p1.length : Int),
         (List.map E80 a)[(p1.length : Int).toNat]? = some (E80 x1),
         (0 : Int) ≤ (p1.length : Int),
         (List.map E80 b)[(p1.length : Int).toNat]? = some (E80 x2),
         Fn Tryd.prog 99 [(false, E80 x1), (false, E80 x2)] (E4 r1) [],
         (true || ((E4 r1).nv && nvL [])) = true,
         (!r1) = false,
         V.sc (.int .i64 (i64 ((p1.length : Int) + 1))) = V.sc (.int .i64 ((p1 ++ [x1]).length : Int))]) (by kernel_rfl) (cj (len_nm _ _) (cj (rng_lt h2) (cj (by omega) (cj (rng_get _ h2) (cj (by omega) (cj (map_get h4) (cj (laws_eqHold_ok x1 x2 r1 h5) (cj rfl (cj (nf h6) (cj1 (rng_next h2 h3))))))))))) (laws_eqHoldS_l0_ok a b h3 t1 (p1 ++ [x1]) (rng_step h2))) (fun h6 =>
        Pn.some (LpO.out [.wait 3, .nm 13 (V.sc (.int .i64 (a.length : Int))), .bit true, .draw [], .el (E80 x1), .el (E80 x2), .call [] (E4 r1) [], .bit true, .wait 1, .mask [4], .ren []] (p := [V.sc (.int .i64 ((List.map E80 a).length : Int)) = V.sc (.int .i64 (a.length : Int)),
         (decide ((p1.length : Int) < (a.length : Int))) = true,
         (0 : Int) ≤ (p1.length : Int),
         (List.map E80 a)[(p1.length : Int).toNat]? = some (E80 x1),
         (0 : Int) ≤ (p1.length : Int),
         (List.map E80 b)[(p1.length : Int).toNat]? = some (E80 x2),
         Fn Tryd.prog 99 [(false, E80 x1), (false, E80 x2)] (E4 r1) [],
         (true || ((E4 r1).nv && nvL [])) = true,
         (!r1) = true]) (by kernel_rfl) (show X.ret ≠ X.go from nofun) (cj (len_nm _ _) (cj (rng_lt h2) (cj (by omega) (cj (rng_get _ h2) (cj (by omega) (cj (map_get h4) (cj (laws_eqHold_ok x1 x2 r1 h5) (cj rfl (cj1 (nt h6))))))))))))))
def laws_eqHoldS (a : List Hold) (b : List Hold) : Option (Bool) :=
 if ((a.length : Int) != (b.length : Int)) = true then
  some false
 else
  if (capOk a.length) = true then
   (laws_eqHoldS_l0 a b a []).bind fun r2 =>
   Lo.elim r2 (fun s1 =>
    some true) (fun s2 =>
    some false)
  else none
theorem laws_eqHoldS_ok (a : List Hold) (b : List Hold) : Pn (fun y => Fn Tryd.prog 46 [(false, E44 a), (false, E44 b)] (E4 y) []) (laws_eqHoldS a b) := by
  unfold laws_eqHoldS
  exact
   Pn.ite (fun h1 =>
    Pn.some (Fn.of [.wait 3, .nm 7 (V.sc (.int .i64 (a.length : Int))), .wait 2, .nm 9 (V.sc (.int .i64 (b.length : Int))), .bit true] (p := [V.sc (.int .i64 ((List.map E80 a).length : Int)) = V.sc (.int .i64 (a.length : Int)),
     V.sc (.int .i64 ((List.map E80 b).length : Int)) = V.sc (.int .i64 (b.length : Int)),
     ((a.length : Int) != (b.length : Int)) = true]) (by kernel_rfl) (cj (len_nm _ _) (cj (len_nm _ _) (cj1 h1))))) (fun h1 =>
    Pn.ite (fun h7 =>
     Pn.bind (fun r2 h8 =>
      Pn.lo (fun s1 h9 =>
       Pn.some (Fn.of [.wait 3, .nm 7 (V.sc (.int .i64 (a.length : Int))), .wait 2, .nm 9 (V.sc (.int .i64 (b.length : Int))), .bit false, .wait 1, .mask [0, 1, 5], .ren [], .loop (X.out 0) (st 27 [] [] [])] (p := [V.sc (.int .i64 ((List.map E80 a).length : Int)) = V.sc (.int .i64 (a.length : Int)),
        V.sc (.int .i64 ((List.map E80 b).length : Int)) = V.sc (.int .i64 (b.length : Int)),
        ((a.length : Int) != (b.length : Int)) = false,
        Loop Tryd.prog (sub (codeOf Tryd.prog 46) [1, 1, 0, 1, 0, 0]) (st 27 [(0, V.sl false 80 (List.map E80 a)), (1, V.sl false 80 (List.map E80 b)), (5, V.sc (.int .i64 0))] [] []) (X.out 0) (st 27 [] [] [])]) (by kernel_rfl) (cj (len_nm _ _) (cj (len_nm _ _) (cj h1 (cj1 ((laws_eqHoldS_l0_ok a b h7 a [] rfl r2 h8).at h9))))))) (fun s2 h10 =>
       Pn.some (Fn.of [.wait 3, .nm 7 (V.sc (.int .i64 (a.length : Int))), .wait 2, .nm 9 (V.sc (.int .i64 (b.length : Int))), .bit false, .wait 1, .mask [0, 1, 5], .ren [], .loop (X.ret) (st 27 [(4, V.sc (.bool false))] [] [])] (p := [V.sc (.int .i64 ((List.map E80 a).length : Int)) = V.sc (.int .i64 (a.length : Int)),
        V.sc (.int .i64 ((List.map E80 b).length : Int)) = V.sc (.int .i64 (b.length : Int)),
        ((a.length : Int) != (b.length : Int)) = false,
        Loop Tryd.prog (sub (codeOf Tryd.prog 46) [1, 1, 0, 1, 0, 0]) (st 27 [(0, V.sl false 80 (List.map E80 a)), (1, V.sl false 80 (List.map E80 b)), (5, V.sc (.int .i64 0))] [] []) (X.ret) (st 27 [(4, V.sc (.bool false))] [] [])]) (by kernel_rfl) (cj (len_nm _ _) (cj (len_nm _ _) (cj h1 (cj1 ((laws_eqHoldS_l0_ok a b h7 a [] rfl r2 h8).at h10))))))))) (fun h7 =>
     Pn.none))
def laws_eqIntS_l0 (a : List Int) (b : List Int) : List Int → List Int → Option (Lo Unit Unit)
  | [], p1 =>
   some (.out ())
  | x1 :: t1, p1 =>
   (b[(p1.length : Int).toNat]?).bind fun x2 =>
   if (x1 != x2) = true then
    some (.ret ())
   else
    laws_eqIntS_l0 a b t1 (p1 ++ [x1])
theorem laws_eqIntS_l0_ok (a : List Int) (b : List Int) (h3 : capOk a.length = true) : ∀ (t1 p1 : List Int) (_ : a = p1 ++ t1) , Pn (LpO Tryd.prog (sub (codeOf Tryd.prog 100) [1, 1, 0, 1, 0, 0]) (st 26 [(0, V.sl false 3 (List.map E3 a)), (1, V.sl false 3 (List.map E3 b)), (5, V.sc (.int .i64 (p1.length : Int)))] [] []) (fun (y : Lo Unit Unit) => Lo.elim y (fun s => (X.out 0, st 26 [] [] [])) (fun s => (X.ret, st 26 [(4, V.sc (.bool false))] [] [])))) (laws_eqIntS_l0 a b t1 p1)
  | [], p1, h2 => by
    unfold laws_eqIntS_l0
    exact
     Pn.some (LpO.out [.wait 3, .nm 13 (V.sc (.int .i64 (a.length : Int))), .bit false, .mask [], .ren []] (p := [V.sc (.int .i64 ((List.map E3 a).length : Int)) = V.sc (.int .i64 (a.length : Int)),
      (decide ((p1.length : Int) < (a.length : Int))) = false]) (by kernel_rfl) (show X.out 0 ≠ X.go from nofun) (cj (len_nm _ _) (cj1 (rng_end h2))))
  | x1 :: t1, p1, h2 => by
    unfold laws_eqIntS_l0
    exact
     Pn.bind (fun x2 h4 =>
      Pn.ite (fun h5 =>
       Pn.some (LpO.out [.wait 3, .nm 13 (V.sc (.int .i64 (a.length : Int))), .bit true, .draw [], .el (E3 x1), .el (E3 x2), .bit true, .wait 1, .mask [4], .ren []] (p := [V.sc (.int .i64 ((List.map E3 a).length : Int)) = V.sc (.int .i64 (a.length : Int)),
        (decide ((p1.length : Int) < (a.length : Int))) = true,
        (0 : Int) ≤ (p1.length : Int),
        (List.map E3 a)[(p1.length : Int).toNat]? = some (E3 x1),
        (0 : Int) ≤ (p1.length : Int),
        (List.map E3 b)[(p1.length : Int).toNat]? = some (E3 x2),
        (x1 != x2) = true]) (by kernel_rfl) (show X.ret ≠ X.go from nofun) (cj (len_nm _ _) (cj (rng_lt h2) (cj (by omega) (cj (rng_get _ h2) (cj (by omega) (cj (map_get h4) (cj1 h5))))))))) (fun h5 =>
       LpO.go [.wait 3, .nm 13 (V.sc (.int .i64 (a.length : Int))), .bit true, .draw [], .el (E3 x1), .el (E3 x2), .bit false, .wait 3, .mask [0, 1, 5], .ren [], .nm 5 (V.sc (.int .i64 ((p1 ++ [x1]).length : Int)))] (p := [V.sc (.int .i64 ((List.map E3 a).length : Int)) = V.sc (.int .i64 (a.length : Int)),
        (decide ((p1.length : Int) < (a.length : Int))) = true,
        (0 : Int) ≤ (p1.length : Int),
        (List.map E3 a)[(p1.length : Int).toNat]? = some (E3 x1),
        (0 : Int) ≤ (p1.length : Int),
        (List.map E3 b)[(p1.length : Int).toNat]? = some (E3 x2),
        (x1 != x2) = false,
        V.sc (.int .i64 (i64 ((p1.length : Int) + 1))) = V.sc (.int .i64 ((p1 ++ [x1]).length : Int))]) (by kernel_rfl) (cj (len_nm _ _) (cj (rng_lt h2) (cj (by omega) (cj (rng_get _ h2) (cj (by omega) (cj (map_get h4) (cj h5 (cj1 (rng_next h2 h3))))))))) (laws_eqIntS_l0_ok a b h3 t1 (p1 ++ [x1]) (rng_step h2))))
def laws_eqIntS (a : List Int) (b : List Int) : Option (Bool) :=
 if ((a.length : Int) != (b.length : Int)) = true then
  some false
 else
  if (capOk a.length) = true then
   (laws_eqIntS_l0 a b a []).bind fun r1 =>
   Lo.elim r1 (fun s1 =>
    some true) (fun s2 =>
    some false)
  else none
theorem laws_eqIntS_ok (a : List Int) (b : List Int) : Pn (fun y => Fn Tryd.prog 100 [(false, E36 a), (false, E36 b)] (E4 y) []) (laws_eqIntS a b) := by
  unfold laws_eqIntS
  exact
   Pn.ite (fun h1 =>
    Pn.some (Fn.of [.wait 3, .nm 7 (V.sc (.int .i64 (a.length : Int))), .wait 2, .nm 9 (V.sc (.int .i64 (b.length : Int))), .bit true] (p := [V.sc (.int .i64 ((List.map E3 a).length : Int)) = V.sc (.int .i64 (a.length : Int)),
     V.sc (.int .i64 ((List.map E3 b).length : Int)) = V.sc (.int .i64 (b.length : Int)),
     ((a.length : Int) != (b.length : Int)) = true]) (by kernel_rfl) (cj (len_nm _ _) (cj (len_nm _ _) (cj1 h1))))) (fun h1 =>
    Pn.ite (fun h6 =>
     Pn.bind (fun r1 h7 =>
      Pn.lo (fun s1 h8 =>
       Pn.some (Fn.of [.wait 3, .nm 7 (V.sc (.int .i64 (a.length : Int))), .wait 2, .nm 9 (V.sc (.int .i64 (b.length : Int))), .bit false, .wait 1, .mask [0, 1, 5], .ren [], .loop (X.out 0) (st 26 [] [] [])] (p := [V.sc (.int .i64 ((List.map E3 a).length : Int)) = V.sc (.int .i64 (a.length : Int)),
        V.sc (.int .i64 ((List.map E3 b).length : Int)) = V.sc (.int .i64 (b.length : Int)),
        ((a.length : Int) != (b.length : Int)) = false,
        Loop Tryd.prog (sub (codeOf Tryd.prog 100) [1, 1, 0, 1, 0, 0]) (st 26 [(0, V.sl false 3 (List.map E3 a)), (1, V.sl false 3 (List.map E3 b)), (5, V.sc (.int .i64 0))] [] []) (X.out 0) (st 26 [] [] [])]) (by kernel_rfl) (cj (len_nm _ _) (cj (len_nm _ _) (cj h1 (cj1 ((laws_eqIntS_l0_ok a b h6 a [] rfl r1 h7).at h8))))))) (fun s2 h9 =>
       Pn.some (Fn.of [.wait 3, .nm 7 (V.sc (.int .i64 (a.length : Int))), .wait 2, .nm 9 (V.sc (.int .i64 (b.length : Int))), .bit false, .wait 1, .mask [0, 1, 5], .ren [], .loop (X.ret) (st 26 [(4, V.sc (.bool false))] [] [])] (p := [V.sc (.int .i64 ((List.map E3 a).length : Int)) = V.sc (.int .i64 (a.length : Int)),
        V.sc (.int .i64 ((List.map E3 b).length : Int)) = V.sc (.int .i64 (b.length : Int)),
        ((a.length : Int) != (b.length : Int)) = false,
        Loop Tryd.prog (sub (codeOf Tryd.prog 100) [1, 1, 0, 1, 0, 0]) (st 26 [(0, V.sl false 3 (List.map E3 a)), (1, V.sl false 3 (List.map E3 b)), (5, V.sc (.int .i64 0))] [] []) (X.ret) (st 26 [(4, V.sc (.bool false))] [] [])]) (by kernel_rfl) (cj (len_nm _ _) (cj (len_nm _ _) (cj h1 (cj1 ((laws_eqIntS_l0_ok a b h6 a [] rfl r1 h7).at h9))))))))) (fun h6 =>
     Pn.none))
def laws_eqRing (a : Ring) (b : Ring) : Option (Bool) :=
 if (a.Span != b.Span) = true then
  some false
 else
  if (a.Head != b.Head) = true then
   some false
  else
   (laws_eqIntS a.Counts b.Counts).bind fun r1 =>
   if r1 = true then
    (laws_eqIntS a.Sums b.Sums).bind fun r2 =>
    if r2 = true then
     some true
    else
     some false
   else
    some false
theorem laws_eqRing_ok (a : Ring) (b : Ring) : Pn (fun y => Fn Tryd.prog 47 [(false, E45 a), (false, E45 b)] (E4 y) []) (laws_eqRing a b) := by
  unfold laws_eqRing
  exact
   Pn.ite (fun h1 =>
    Pn.some (Fn.of [.bit true] (p := [(a.Span != b.Span) = true]) (by kernel_rfl) (cj1 h1))) (fun h1 =>
    Pn.ite (fun h2 =>
     Pn.some (Fn.of [.bit false, .bit true] (p := [(a.Span != b.Span) = false,
      (a.Head != b.Head) = true]) (by kernel_rfl) (cj h1 (cj1 h2)))) (fun h2 =>
     Pn.bind (fun r1 h3 =>
      Pn.ite (fun h4 =>
       Pn.bind (fun r2 h5 =>
        Pn.ite (fun h6 =>
         Pn.some (Fn.of [.bit false, .bit false, .call [] (E4 r1) [], .bit false, .call [] (E4 r2) [], .bit false] (p := [(a.Span != b.Span) = false,
          (a.Head != b.Head) = false,
          Fn Tryd.prog 100 [(false, E36 a.Counts), (false, E36 b.Counts)] (E4 r1) [],
          (true || ((E4 r1).nv && nvL [])) = true,
          (!r1) = false,
          Fn Tryd.prog 100 [(false, E36 a.Sums), (false, E36 b.Sums)] (E4 r2) [],
          (true || ((E4 r2).nv && nvL [])) = true,
          (!r2) = false]) (by kernel_rfl) (cj h1 (cj h2 (cj (laws_eqIntS_ok a.Counts b.Counts r1 h3) (cj rfl (cj (nf h4) (cj (laws_eqIntS_ok a.Sums b.Sums r2 h5) (cj rfl (cj1 (nf h6))))))))))) (fun h6 =>
         Pn.some (Fn.of [.bit false, .bit false, .call [] (E4 r1) [], .bit false, .call [] (E4 r2) [], .bit true] (p := [(a.Span != b.Span) = false,
          (a.Head != b.Head) = false,
          Fn Tryd.prog 100 [(false, E36 a.Counts), (false, E36 b.Counts)] (E4 r1) [],
          (true || ((E4 r1).nv && nvL [])) = true,
          (!r1) = false,
          Fn Tryd.prog 100 [(false, E36 a.Sums), (false, E36 b.Sums)] (E4 r2) [],
          (true || ((E4 r2).nv && nvL [])) = true,
          (!r2) = true]) (by kernel_rfl) (cj h1 (cj h2 (cj (laws_eqIntS_ok a.Counts b.Counts r1 h3) (cj rfl (cj (nf h4) (cj (laws_eqIntS_ok a.Sums b.Sums r2 h5) (cj rfl (cj1 (nt h6))))))))))))) (fun h4 =>
       Pn.some (Fn.of [.bit false, .bit false, .call [] (E4 r1) [], .bit true] (p := [(a.Span != b.Span) = false,
        (a.Head != b.Head) = false,
        Fn Tryd.prog 100 [(false, E36 a.Counts), (false, E36 b.Counts)] (E4 r1) [],
        (true || ((E4 r1).nv && nvL [])) = true,
        (!r1) = true]) (by kernel_rfl) (cj h1 (cj h2 (cj (laws_eqIntS_ok a.Counts b.Counts r1 h3) (cj rfl (cj1 (nt h4)))))))))))
def laws_eqByteS_l0 (a : List Int) (b : List Int) : List Int → List Int → Option (Lo Unit Unit)
  | [], p1 =>
   some (.out ())
  | x1 :: t1, p1 =>
   (b[(p1.length : Int).toNat]?).bind fun x2 =>
   if (x1 != x2) = true then
    some (.ret ())
   else
    laws_eqByteS_l0 a b t1 (p1 ++ [x1])
theorem laws_eqByteS_l0_ok (a : List Int) (b : List Int) (h3 : capOk a.length = true) : ∀ (t1 p1 : List Int) (_ : a = p1 ++ t1) , Pn (LpO Tryd.prog (sub (codeOf Tryd.prog 57) [1, 1, 0, 1, 0, 0]) (st 26 [(0, V.sl false 5 (List.map E5 a)), (1, V.sl false 5 (List.map E5 b)), (5, V.sc (.int .i64 (p1.length : Int)))] [] []) (fun (y : Lo Unit Unit) => Lo.elim y (fun s => (X.out 0, st 26 [] [] [])) (fun s => (X.ret, st 26 [(4, V.sc (.bool false))] [] [])))) (laws_eqByteS_l0 a b t1 p1)
  | [], p1, h2 => by
    unfold laws_eqByteS_l0
    exact
     Pn.some (LpO.out [.wait 3, .nm 13 (V.sc (.int .i64 (a.length : Int))), .bit false, .mask [], .ren []] (p := [V.sc (.int .i64 ((List.map E5 a).length : Int)) = V.sc (.int .i64 (a.length : Int)),
      (decide ((p1.length : Int) < (a.length : Int))) = false]) (by kernel_rfl) (show X.out 0 ≠ X.go from nofun) (cj (len_nm _ _) (cj1 (rng_end h2))))
  | x1 :: t1, p1, h2 => by
    unfold laws_eqByteS_l0
    exact
     Pn.bind (fun x2 h4 =>
      Pn.ite (fun h5 =>
       Pn.some (LpO.out [.wait 3, .nm 13 (V.sc (.int .i64 (a.length : Int))), .bit true, .draw [], .el (E5 x1), .el (E5 x2), .bit true, .wait 1, .mask [4], .ren []] (p := [V.sc (.int .i64 ((List.map E5 a).length : Int)) = V.sc (.int .i64 (a.length : Int)),
        (decide ((p1.length : Int) < (a.length : Int))) = true,
        (0 : Int) ≤ (p1.length : Int),
        (List.map E5 a)[(p1.length : Int).toNat]? = some (E5 x1),
        (0 : Int) ≤ (p1.length : Int),
        (List.map E5 b)[(p1.length : Int).toNat]? = some (E5 x2),
        (x1 != x2) = true]) (by kernel_rfl) (show X.ret ≠ X.go from nofun) (cj (len_nm _ _) (cj (rng_lt h2) (cj (by omega) (cj (rng_get _ h2) (cj (by omega) (cj (map_get h4) (cj1 h5))))))))) (fun h5 =>
       LpO.go [.wait 3, .nm 13 (V.sc (.int .i64 (a.length : Int))), .bit true, .draw [], .el (E5 x1), .el (E5 x2), .bit false, .wait 3, .mask [0, 1, 5], .ren [], .nm 5 (V.sc (.int .i64 ((p1 ++ [x1]).length : Int)))] (p := [V.sc (.int .i64 ((List.map E5 a).length : Int)) = V.sc (.int .i64 (a.length : Int)),
        (decide ((p1.length : Int) < (a.length : Int))) = true,
        (0 : Int) ≤ (p1.length : Int),
        (List.map E5 a)[(p1.length : Int).toNat]? = some (E5 x1),
        (0 : Int) ≤ (p1.length : Int),
        (List.map E5 b)[(p1.length : Int).toNat]? = some (E5 x2),
        (x1 != x2) = false,
        V.sc (.int .i64 (i64 ((p1.length : Int) + 1))) = V.sc (.int .i64 ((p1 ++ [x1]).length : Int))]) (by kernel_rfl) (cj (len_nm _ _) (cj (rng_lt h2) (cj (by omega) (cj (rng_get _ h2) (cj (by omega) (cj (map_get h4) (cj h5 (cj1 (rng_next h2 h3))))))))) (laws_eqByteS_l0_ok a b h3 t1 (p1 ++ [x1]) (rng_step h2))))
def laws_eqByteS (a : List Int) (b : List Int) : Option (Bool) :=
 if ((a.length : Int) != (b.length : Int)) = true then
  some false
 else
  if (capOk a.length) = true then
   (laws_eqByteS_l0 a b a []).bind fun r1 =>
   Lo.elim r1 (fun s1 =>
    some true) (fun s2 =>
    some false)
  else none
theorem laws_eqByteS_ok (a : List Int) (b : List Int) : Pn (fun y => Fn Tryd.prog 57 [(false, E52 a), (false, E52 b)] (E4 y) []) (laws_eqByteS a b) := by
  unfold laws_eqByteS
  exact
   Pn.ite (fun h1 =>
    Pn.some (Fn.of [.wait 3, .nm 7 (V.sc (.int .i64 (a.length : Int))), .wait 2, .nm 9 (V.sc (.int .i64 (b.length : Int))), .bit true] (p := [V.sc (.int .i64 ((List.map E5 a).length : Int)) = V.sc (.int .i64 (a.length : Int)),
     V.sc (.int .i64 ((List.map E5 b).length : Int)) = V.sc (.int .i64 (b.length : Int)),
     ((a.length : Int) != (b.length : Int)) = true]) (by kernel_rfl) (cj (len_nm _ _) (cj (len_nm _ _) (cj1 h1))))) (fun h1 =>
    Pn.ite (fun h6 =>
     Pn.bind (fun r1 h7 =>
      Pn.lo (fun s1 h8 =>
       Pn.some (Fn.of [.wait 3, .nm 7 (V.sc (.int .i64 (a.length : Int))), .wait 2, .nm 9 (V.sc (.int .i64 (b.length : Int))), .bit false, .wait 1, .mask [0, 1, 5], .ren [], .loop (X.out 0) (st 26 [] [] [])] (p := [V.sc (.int .i64 ((List.map E5 a).length : Int)) = V.sc (.int .i64 (a.length : Int)),
        V.sc (.int .i64 ((List.map E5 b).length : Int)) = V.sc (.int .i64 (b.length : Int)),
        ((a.length : Int) != (b.length : Int)) = false,
        Loop Tryd.prog (sub (codeOf Tryd.prog 57) [1, 1, 0, 1, 0, 0]) (st 26 [(0, V.sl false 5 (List.map E5 a)), (1, V.sl false 5 (List.map E5 b)), (5, V.sc (.int .i64 0))] [] []) (X.out 0) (st 26 [] [] [])]) (by kernel_rfl) (cj (len_nm _ _) (cj (len_nm _ _) (cj h1 (cj1 ((laws_eqByteS_l0_ok a b h6 a [] rfl r1 h7).at h8))))))) (fun s2 h9 =>
       Pn.some (Fn.of [.wait 3, .nm 7 (V.sc (.int .i64 (a.length : Int))), .wait 2, .nm 9 (V.sc (.int .i64 (b.length : Int))), .bit false, .wait 1, .mask [0, 1, 5], .ren [], .loop (X.ret) (st 26 [(4, V.sc (.bool false))] [] [])] (p := [V.sc (.int .i64 ((List.map E5 a).length : Int)) = V.sc (.int .i64 (a.length : Int)),
        V.sc (.int .i64 ((List.map E5 b).length : Int)) = V.sc (.int .i64 (b.length : Int)),
        ((a.length : Int) != (b.length : Int)) = false,
        Loop Tryd.prog (sub (codeOf Tryd.prog 57) [1, 1, 0, 1, 0, 0]) (st 26 [(0, V.sl false 5 (List.map E5 a)), (1, V.sl false 5 (List.map E5 b)), (5, V.sc (.int .i64 0))] [] []) (X.ret) (st 26 [(4, V.sc (.bool false))] [] [])]) (by kernel_rfl) (cj (len_nm _ _) (cj (len_nm _ _) (cj h1 (cj1 ((laws_eqByteS_l0_ok a b h6 a [] rfl r1 h7).at h9))))))))) (fun h6 =>
     Pn.none))
def laws_eqSlot (a : Slot) (b : Slot) : Option (Bool) :=
 if (a.Trace == b.Trace) = true then
  if (a.Mti == b.Mti) = true then
   (laws_eqByteS a.Reply b.Reply).bind fun r1 =>
   if r1 = true then
    some true
   else
    some false
  else
   some false
 else
  some false
theorem laws_eqSlot_ok (a : Slot) (b : Slot) : Pn (fun y => Fn Tryd.prog 101 [(false, E135 a), (false, E135 b)] (E4 y) []) (laws_eqSlot a b) := by
  unfold laws_eqSlot
  exact
   Pn.ite (fun h1 =>
    Pn.ite (fun h2 =>
     Pn.bind (fun r1 h3 =>
      Pn.ite (fun h4 =>
       Pn.some (Fn.of [.bit false, .bit false, .call [] (E4 r1) [], .bit false] (p := [(!(a.Trace == b.Trace)) = false,
        (!(a.Mti == b.Mti)) = false,
        Fn Tryd.prog 57 [(false, E52 a.Reply), (false, E52 b.Reply)] (E4 r1) [],
        (true || ((E4 r1).nv && nvL [])) = true,
        (!r1) = false]) (by kernel_rfl) (cj (nf h1) (cj (nf h2) (cj (laws_eqByteS_ok a.Reply b.Reply r1 h3) (cj rfl (cj1 (nf h4)))))))) (fun h4 =>
       Pn.some (Fn.of [.bit false, .bit false, .call [] (E4 r1) [], .bit true] (p := [(!(a.Trace == b.Trace)) = false,
        (!(a.Mti == b.Mti)) = false,
        Fn Tryd.prog 57 [(false, E52 a.Reply), (false, E52 b.Reply)] (E4 r1) [],
        (true || ((E4 r1).nv && nvL [])) = true,
        (!r1) = true]) (by kernel_rfl) (cj (nf h1) (cj (nf h2) (cj (laws_eqByteS_ok a.Reply b.Reply r1 h3) (cj rfl (cj1 (nt h4)))))))))) (fun h2 =>
     Pn.some (Fn.of [.bit false, .bit true] (p := [(!(a.Trace == b.Trace)) = false,
      (!(a.Mti == b.Mti)) = true]) (by kernel_rfl) (cj (nf h1) (cj1 (nt h2)))))) (fun h1 =>
    Pn.some (Fn.of [.bit true] (p := [(!(a.Trace == b.Trace)) = true]) (by kernel_rfl) (cj1 (nt h1))))
def laws_eqSlotS_l0 (a : List Slot) (b : List Slot) : List Slot → List Slot → Option (Lo Unit Unit)
  | [], p1 =>
   some (.out ())
  | x1 :: t1, p1 =>
   (b[(p1.length : Int).toNat]?).bind fun x2 =>
   (laws_eqSlot x1 x2).bind fun r1 =>
   if r1 = true then
    laws_eqSlotS_l0 a b t1 (p1 ++ [x1])
   else
    some (.ret ())
theorem laws_eqSlotS_l0_ok (a : List Slot) (b : List Slot) (h3 : capOk a.length = true) : ∀ (t1 p1 : List Slot) (_ : a = p1 ++ t1) , Pn (LpO Tryd.prog (sub (codeOf Tryd.prog 48) [1, 1, 0, 1, 0, 0]) (st 27 [(0, V.sl false 135 (List.map E135 a)), (1, V.sl false 135 (List.map E135 b)), (5, V.sc (.int .i64 (p1.length : Int)))] [] []) (fun (y : Lo Unit Unit) => Lo.elim y (fun s => (X.out 0, st 27 [] [] [])) (fun s => (X.ret, st 27 [(4, V.sc (.bool false))] [] [])))) (laws_eqSlotS_l0 a b t1 p1)
  | [], p1, h2 => by
    unfold laws_eqSlotS_l0
    exact
     Pn.some (LpO.out [.wait 3, .nm 13 (V.sc (.int .i64 (a.length : Int))), .bit false, .mask [], .ren []] (p := [V.sc (.int .i64 ((List.map E135 a).length : Int)) = V.sc (.int .i64 (a.length : Int)),
      (decide ((p1.length : Int) < (a.length : Int))) = false]) (by kernel_rfl) (show X.out 0 ≠ X.go from nofun) (cj (len_nm _ _) (cj1 (rng_end h2))))
  | x1 :: t1, p1, h2 => by
    unfold laws_eqSlotS_l0
    exact
     Pn.bind (fun x2 h4 =>
      Pn.bind (fun r1 h5 =>
       Pn.ite (fun h6 =>
        LpO.go [.wait 3, .nm 13 (V.sc (.int .i64 (a.length : Int))), .bit true, .draw [], .el (E135 x1), .el (E135 x2), .call [] (E4 r1) [], .bit false, .wait 3, .mask [0, 1, 5], .ren [], .nm 5 (V.sc (.int .i64 ((p1 ++ [x1]).length : Int)))] (p := [V.sc (.int .i64 ((List.map E135 a).length : Int)) = V.sc (.int .i64 (a.length : Int)),
         (decide ((p1.length : Int) < (a.length : Int))) = true,
         (0 : Int) ≤ (p1.length : Int),
         (List.map E135 a)[(p1.length : Int).toNat]? = some (E135 x1),
         (0 : Int) ≤ (p1.length : Int),
         (List.map E135 b)[(p1.length : Int).toNat]? = some (E135 x2),
         Fn Tryd.prog 101 [(false, E135 x1), (false, E135 x2)] (E4 r1) [],
         (true || ((E4 r1).nv && nvL [])) = true,
         (!r1) = false,
         V.sc (.int .i64 (i64 ((p1.length : Int) + 1))) = V.sc (.int .i64 ((p1 ++ [x1]).length : Int))]) (by kernel_rfl) (cj (len_nm _ _) (cj (rng_lt h2) (cj (by omega) (cj (rng_get _ h2) (cj (by omega) (cj (map_get h4) (cj (laws_eqSlot_ok x1 x2 r1 h5) (cj rfl (cj (nf h6) (cj1 (rng_next h2 h3))))))))))) (laws_eqSlotS_l0_ok a b h3 t1 (p1 ++ [x1]) (rng_step h2))) (fun h6 =>
        Pn.some (LpO.out [.wait 3, .nm 13 (V.sc (.int .i64 (a.length : Int))), .bit true, .draw [], .el (E135 x1), .el (E135 x2), .call [] (E4 r1) [], .bit true, .wait 1, .mask [4], .ren []] (p := [V.sc (.int .i64 ((List.map E135 a).length : Int)) = V.sc (.int .i64 (a.length : Int)),
         (decide ((p1.length : Int) < (a.length : Int))) = true,
         (0 : Int) ≤ (p1.length : Int),
         (List.map E135 a)[(p1.length : Int).toNat]? = some (E135 x1),
         (0 : Int) ≤ (p1.length : Int),
         (List.map E135 b)[(p1.length : Int).toNat]? = some (E135 x2),
         Fn Tryd.prog 101 [(false, E135 x1), (false, E135 x2)] (E4 r1) [],
         (true || ((E4 r1).nv && nvL [])) = true,
         (!r1) = true]) (by kernel_rfl) (show X.ret ≠ X.go from nofun) (cj (len_nm _ _) (cj (rng_lt h2) (cj (by omega) (cj (rng_get _ h2) (cj (by omega) (cj (map_get h4) (cj (laws_eqSlot_ok x1 x2 r1 h5) (cj rfl (cj1 (nt h6))))))))))))))
def laws_eqSlotS (a : List Slot) (b : List Slot) : Option (Bool) :=
 if ((a.length : Int) != (b.length : Int)) = true then
  some false
 else
  if (capOk a.length) = true then
   (laws_eqSlotS_l0 a b a []).bind fun r2 =>
   Lo.elim r2 (fun s1 =>
    some true) (fun s2 =>
    some false)
  else none
theorem laws_eqSlotS_ok (a : List Slot) (b : List Slot) : Pn (fun y => Fn Tryd.prog 48 [(false, E46 a), (false, E46 b)] (E4 y) []) (laws_eqSlotS a b) := by
  unfold laws_eqSlotS
  exact
   Pn.ite (fun h1 =>
    Pn.some (Fn.of [.wait 3, .nm 7 (V.sc (.int .i64 (a.length : Int))), .wait 2, .nm 9 (V.sc (.int .i64 (b.length : Int))), .bit true] (p := [V.sc (.int .i64 ((List.map E135 a).length : Int)) = V.sc (.int .i64 (a.length : Int)),
     V.sc (.int .i64 ((List.map E135 b).length : Int)) = V.sc (.int .i64 (b.length : Int)),
     ((a.length : Int) != (b.length : Int)) = true]) (by kernel_rfl) (cj (len_nm _ _) (cj (len_nm _ _) (cj1 h1))))) (fun h1 =>
    Pn.ite (fun h7 =>
     Pn.bind (fun r2 h8 =>
      Pn.lo (fun s1 h9 =>
       Pn.some (Fn.of [.wait 3, .nm 7 (V.sc (.int .i64 (a.length : Int))), .wait 2, .nm 9 (V.sc (.int .i64 (b.length : Int))), .bit false, .wait 1, .mask [0, 1, 5], .ren [], .loop (X.out 0) (st 27 [] [] [])] (p := [V.sc (.int .i64 ((List.map E135 a).length : Int)) = V.sc (.int .i64 (a.length : Int)),
        V.sc (.int .i64 ((List.map E135 b).length : Int)) = V.sc (.int .i64 (b.length : Int)),
        ((a.length : Int) != (b.length : Int)) = false,
        Loop Tryd.prog (sub (codeOf Tryd.prog 48) [1, 1, 0, 1, 0, 0]) (st 27 [(0, V.sl false 135 (List.map E135 a)), (1, V.sl false 135 (List.map E135 b)), (5, V.sc (.int .i64 0))] [] []) (X.out 0) (st 27 [] [] [])]) (by kernel_rfl) (cj (len_nm _ _) (cj (len_nm _ _) (cj h1 (cj1 ((laws_eqSlotS_l0_ok a b h7 a [] rfl r2 h8).at h9))))))) (fun s2 h10 =>
       Pn.some (Fn.of [.wait 3, .nm 7 (V.sc (.int .i64 (a.length : Int))), .wait 2, .nm 9 (V.sc (.int .i64 (b.length : Int))), .bit false, .wait 1, .mask [0, 1, 5], .ren [], .loop (X.ret) (st 27 [(4, V.sc (.bool false))] [] [])] (p := [V.sc (.int .i64 ((List.map E135 a).length : Int)) = V.sc (.int .i64 (a.length : Int)),
        V.sc (.int .i64 ((List.map E135 b).length : Int)) = V.sc (.int .i64 (b.length : Int)),
        ((a.length : Int) != (b.length : Int)) = false,
        Loop Tryd.prog (sub (codeOf Tryd.prog 48) [1, 1, 0, 1, 0, 0]) (st 27 [(0, V.sl false 135 (List.map E135 a)), (1, V.sl false 135 (List.map E135 b)), (5, V.sc (.int .i64 0))] [] []) (X.ret) (st 27 [(4, V.sc (.bool false))] [] [])]) (by kernel_rfl) (cj (len_nm _ _) (cj (len_nm _ _) (cj h1 (cj1 ((laws_eqSlotS_l0_ok a b h7 a [] rfl r2 h8).at h10))))))))) (fun h7 =>
     Pn.none))
def laws_eqAcct (a : Acct) (b : Acct) : Option (Bool) :=
 if (a.Id == b.Id) = true then
  if (a.Limit != b.Limit) = true then
   some false
  else
   if (a.Posted != b.Posted) = true then
    some false
   else
    if (a.Most != b.Most) = true then
     some false
    else
     if (a.MostSum != b.MostSum) = true then
      some false
     else
      (laws_eqHoldS a.Holds b.Holds).bind fun r1 =>
      if r1 = true then
       (laws_eqRing a.Ring b.Ring).bind fun r2 =>
       if r2 = true then
        (laws_eqSlotS a.Slots b.Slots).bind fun r3 =>
        if r3 = true then
         some true
        else
         some false
       else
        some false
      else
       some false
 else
  some false
theorem laws_eqAcct_ok (a : Acct) (b : Acct) : Pn (fun y => Fn Tryd.prog 15 [(false, E48 a), (false, E48 b)] (E4 y) []) (laws_eqAcct a b) := by
  unfold laws_eqAcct
  exact
   Pn.ite (fun h1 =>
    Pn.ite (fun h2 =>
     Pn.some (Fn.of [.bit false, .bit true] (p := [(!(a.Id == b.Id)) = false,
      (a.Limit != b.Limit) = true]) (by kernel_rfl) (cj (nf h1) (cj1 h2)))) (fun h2 =>
     Pn.ite (fun h3 =>
      Pn.some (Fn.of [.bit false, .bit false, .bit true] (p := [(!(a.Id == b.Id)) = false,
       (a.Limit != b.Limit) = false,
       (a.Posted != b.Posted) = true]) (by kernel_rfl) (cj (nf h1) (cj h2 (cj1 h3))))) (fun h3 =>
      Pn.ite (fun h4 =>
       Pn.some (Fn.of [.bit false, .bit false, .bit false, .bit true] (p := [(!(a.Id == b.Id)) = false,
        (a.Limit != b.Limit) = false,
        (a.Posted != b.Posted) = false,
        (a.Most != b.Most) = true]) (by kernel_rfl) (cj (nf h1) (cj h2 (cj h3 (cj1 h4)))))) (fun h4 =>
       Pn.ite (fun h5 =>
        Pn.some (Fn.of [.bit false, .bit false, .bit false, .bit false, .bit true] (p := [(!(a.Id == b.Id)) = false,
         (a.Limit != b.Limit) = false,
         (a.Posted != b.Posted) = false,
         (a.Most != b.Most) = false,
         (a.MostSum != b.MostSum) = true]) (by kernel_rfl) (cj (nf h1) (cj h2 (cj h3 (cj h4 (cj1 h5))))))) (fun h5 =>
        Pn.bind (fun r1 h6 =>
         Pn.ite (fun h7 =>
          Pn.bind (fun r2 h8 =>
           Pn.ite (fun h9 =>
            Pn.bind (fun r3 h10 =>
             Pn.ite (fun h11 =>
              Pn.some (Fn.of [.bit false, .bit false, .bit false, .bit false, .bit false, .call [] (E4 r1) [], .bit false, .call [] (E4 r2) [], .bit false, .call [] (E4 r3) [], .bit false] (p := [(!(a.Id == b.Id)) = false,
               (a.Limit != b.Limit) = false,
               (a.Posted != b.Posted) = false,
               (a.Most != b.Most) = false,
               (a.MostSum != b.MostSum) = false,
               Fn Tryd.prog 46 [(false, E44 a.Holds), (false, E44 b.Holds)] (E4 r1) [],
               (true || ((E4 r1).nv && nvL [])) = true,
               (!r1) = false,
               Fn Tryd.prog 47 [(false, E45 a.Ring), (false, E45 b.Ring)] (E4 r2) [],
               (true || ((E4 r2).nv && nvL [])) = true,
               (!r2) = false,
               Fn Tryd.prog 48 [(false, E46 a.Slots), (false, E46 b.Slots)] (E4 r3) [],
               (true || ((E4 r3).nv && nvL [])) = true,
               (!r3) = false]) (by kernel_rfl) (cj (nf h1) (cj h2 (cj h3 (cj h4 (cj h5 (cj (laws_eqHoldS_ok a.Holds b.Holds r1 h6) (cj rfl (cj (nf h7) (cj (laws_eqRing_ok a.Ring b.Ring r2 h8) (cj rfl (cj (nf h9) (cj (laws_eqSlotS_ok a.Slots b.Slots r3 h10) (cj rfl (cj1 (nf h11))))))))))))))))) (fun h11 =>
              Pn.some (Fn.of [.bit false, .bit false, .bit false, .bit false, .bit false, .call [] (E4 r1) [], .bit false, .call [] (E4 r2) [], .bit false, .call [] (E4 r3) [], .bit true] (p := [(!(a.Id == b.Id)) = false,
               (a.Limit != b.Limit) = false,
               (a.Posted != b.Posted) = false,
               (a.Most != b.Most) = false,
               (a.MostSum != b.MostSum) = false,
               Fn Tryd.prog 46 [(false, E44 a.Holds), (false, E44 b.Holds)] (E4 r1) [],
               (true || ((E4 r1).nv && nvL [])) = true,
               (!r1) = false,
               Fn Tryd.prog 47 [(false, E45 a.Ring), (false, E45 b.Ring)] (E4 r2) [],
               (true || ((E4 r2).nv && nvL [])) = true,
               (!r2) = false,
               Fn Tryd.prog 48 [(false, E46 a.Slots), (false, E46 b.Slots)] (E4 r3) [],
               (true || ((E4 r3).nv && nvL [])) = true,
               (!r3) = true]) (by kernel_rfl) (cj (nf h1) (cj h2 (cj h3 (cj h4 (cj h5 (cj (laws_eqHoldS_ok a.Holds b.Holds r1 h6) (cj rfl (cj (nf h7) (cj (laws_eqRing_ok a.Ring b.Ring r2 h8) (cj rfl (cj (nf h9) (cj (laws_eqSlotS_ok a.Slots b.Slots r3 h10) (cj rfl (cj1 (nt h11))))))))))))))))))) (fun h9 =>
            Pn.some (Fn.of [.bit false, .bit false, .bit false, .bit false, .bit false, .call [] (E4 r1) [], .bit false, .call [] (E4 r2) [], .bit true] (p := [(!(a.Id == b.Id)) = false,
             (a.Limit != b.Limit) = false,
             (a.Posted != b.Posted) = false,
             (a.Most != b.Most) = false,
             (a.MostSum != b.MostSum) = false,
             Fn Tryd.prog 46 [(false, E44 a.Holds), (false, E44 b.Holds)] (E4 r1) [],
             (true || ((E4 r1).nv && nvL [])) = true,
             (!r1) = false,
             Fn Tryd.prog 47 [(false, E45 a.Ring), (false, E45 b.Ring)] (E4 r2) [],
             (true || ((E4 r2).nv && nvL [])) = true,
             (!r2) = true]) (by kernel_rfl) (cj (nf h1) (cj h2 (cj h3 (cj h4 (cj h5 (cj (laws_eqHoldS_ok a.Holds b.Holds r1 h6) (cj rfl (cj (nf h7) (cj (laws_eqRing_ok a.Ring b.Ring r2 h8) (cj rfl (cj1 (nt h9)))))))))))))))) (fun h7 =>
          Pn.some (Fn.of [.bit false, .bit false, .bit false, .bit false, .bit false, .call [] (E4 r1) [], .bit true] (p := [(!(a.Id == b.Id)) = false,
           (a.Limit != b.Limit) = false,
           (a.Posted != b.Posted) = false,
           (a.Most != b.Most) = false,
           (a.MostSum != b.MostSum) = false,
           Fn Tryd.prog 46 [(false, E44 a.Holds), (false, E44 b.Holds)] (E4 r1) [],
           (true || ((E4 r1).nv && nvL [])) = true,
           (!r1) = true]) (by kernel_rfl) (cj (nf h1) (cj h2 (cj h3 (cj h4 (cj h5 (cj (laws_eqHoldS_ok a.Holds b.Holds r1 h6) (cj rfl (cj1 (nt h7))))))))))))))))) (fun h1 =>
    Pn.some (Fn.of [.bit true] (p := [(!(a.Id == b.Id)) = true]) (by kernel_rfl) (cj1 (nt h1))))
def laws_eqAcctS_l0 (a : List Acct) (b : List Acct) : List Acct → List Acct → Option (Lo Unit Unit)
  | [], p1 =>
   some (.out ())
  | x1 :: t1, p1 =>
   (b[(p1.length : Int).toNat]?).bind fun x2 =>
   (laws_eqAcct x1 x2).bind fun r1 =>
   if r1 = true then
    laws_eqAcctS_l0 a b t1 (p1 ++ [x1])
   else
    some (.ret ())
theorem laws_eqAcctS_l0_ok (a : List Acct) (b : List Acct) (h3 : capOk a.length = true) : ∀ (t1 p1 : List Acct) (_ : a = p1 ++ t1) , Pn (LpO Tryd.prog (sub (codeOf Tryd.prog 119) [1, 1, 0, 1, 0, 0]) (st 27 [(0, V.sl false 48 (List.map E48 a)), (1, V.sl false 48 (List.map E48 b)), (5, V.sc (.int .i64 (p1.length : Int)))] [] []) (fun (y : Lo Unit Unit) => Lo.elim y (fun s => (X.out 0, st 27 [] [] [])) (fun s => (X.ret, st 27 [(4, V.sc (.bool false))] [] [])))) (laws_eqAcctS_l0 a b t1 p1)
  | [], p1, h2 => by
    unfold laws_eqAcctS_l0
    exact
     Pn.some (LpO.out [.wait 3, .nm 13 (V.sc (.int .i64 (a.length : Int))), .bit false, .mask [], .ren []] (p := [V.sc (.int .i64 ((List.map E48 a).length : Int)) = V.sc (.int .i64 (a.length : Int)),
      (decide ((p1.length : Int) < (a.length : Int))) = false]) (by kernel_rfl) (show X.out 0 ≠ X.go from nofun) (cj (len_nm _ _) (cj1 (rng_end h2))))
  | x1 :: t1, p1, h2 => by
    unfold laws_eqAcctS_l0
    exact
     Pn.bind (fun x2 h4 =>
      Pn.bind (fun r1 h5 =>
       Pn.ite (fun h6 =>
        LpO.go [.wait 3, .nm 13 (V.sc (.int .i64 (a.length : Int))), .bit true, .draw [], .el (E48 x1), .el (E48 x2), .call [] (E4 r1) [], .bit false, .wait 3, .mask [0, 1, 5], .ren [], .nm 5 (V.sc (.int .i64 ((p1 ++ [x1]).length : Int)))] (p := [V.sc (.int .i64 ((List.map E48 a).length : Int)) = V.sc (.int .i64 (a.length : Int)),
         (decide ((p1.length : Int) < (a.length : Int))) = true,
         (0 : Int) ≤ (p1.length : Int),
         (List.map E48 a)[(p1.length : Int).toNat]? = some (E48 x1),
         (0 : Int) ≤ (p1.length : Int),
         (List.map E48 b)[(p1.length : Int).toNat]? = some (E48 x2),
         Fn Tryd.prog 15 [(false, E48 x1), (false, E48 x2)] (E4 r1) [],
         (true || ((E4 r1).nv && nvL [])) = true,
         (!r1) = false,
         V.sc (.int .i64 (i64 ((p1.length : Int) + 1))) = V.sc (.int .i64 ((p1 ++ [x1]).length : Int))]) (by kernel_rfl) (cj (len_nm _ _) (cj (rng_lt h2) (cj (by omega) (cj (rng_get _ h2) (cj (by omega) (cj (map_get h4) (cj (laws_eqAcct_ok x1 x2 r1 h5) (cj rfl (cj (nf h6) (cj1 (rng_next h2 h3))))))))))) (laws_eqAcctS_l0_ok a b h3 t1 (p1 ++ [x1]) (rng_step h2))) (fun h6 =>
        Pn.some (LpO.out [.wait 3, .nm 13 (V.sc (.int .i64 (a.length : Int))), .bit true, .draw [], .el (E48 x1), .el (E48 x2), .call [] (E4 r1) [], .bit true, .wait 1, .mask [4], .ren []] (p := [V.sc (.int .i64 ((List.map E48 a).length : Int)) = V.sc (.int .i64 (a.length : Int)),
         (decide ((p1.length : Int) < (a.length : Int))) = true,
         (0 : Int) ≤ (p1.length : Int),
         (List.map E48 a)[(p1.length : Int).toNat]? = some (E48 x1),
         (0 : Int) ≤ (p1.length : Int),
         (List.map E48 b)[(p1.length : Int).toNat]? = some (E48 x2),
         Fn Tryd.prog 15 [(false, E48 x1), (false, E48 x2)] (E4 r1) [],
         (true || ((E4 r1).nv && nvL [])) = true,
         (!r1) = true]) (by kernel_rfl) (show X.ret ≠ X.go from nofun) (cj (len_nm _ _) (cj (rng_lt h2) (cj (by omega) (cj (rng_get _ h2) (cj (by omega) (cj (map_get h4) (cj (laws_eqAcct_ok x1 x2 r1 h5) (cj rfl (cj1 (nt h6))))))))))))))
def laws_eqAcctS (a : List Acct) (b : List Acct) : Option (Bool) :=
 if ((a.length : Int) != (b.length : Int)) = true then
  some false
 else
  if (capOk a.length) = true then
   (laws_eqAcctS_l0 a b a []).bind fun r2 =>
   Lo.elim r2 (fun s1 =>
    some true) (fun s2 =>
    some false)
  else none
theorem laws_eqAcctS_ok (a : List Acct) (b : List Acct) : Pn (fun y => Fn Tryd.prog 119 [(false, E62 a), (false, E62 b)] (E4 y) []) (laws_eqAcctS a b) := by
  unfold laws_eqAcctS
  exact
   Pn.ite (fun h1 =>
    Pn.some (Fn.of [.wait 3, .nm 7 (V.sc (.int .i64 (a.length : Int))), .wait 2, .nm 9 (V.sc (.int .i64 (b.length : Int))), .bit true] (p := [V.sc (.int .i64 ((List.map E48 a).length : Int)) = V.sc (.int .i64 (a.length : Int)),
     V.sc (.int .i64 ((List.map E48 b).length : Int)) = V.sc (.int .i64 (b.length : Int)),
     ((a.length : Int) != (b.length : Int)) = true]) (by kernel_rfl) (cj (len_nm _ _) (cj (len_nm _ _) (cj1 h1))))) (fun h1 =>
    Pn.ite (fun h7 =>
     Pn.bind (fun r2 h8 =>
      Pn.lo (fun s1 h9 =>
       Pn.some (Fn.of [.wait 3, .nm 7 (V.sc (.int .i64 (a.length : Int))), .wait 2, .nm 9 (V.sc (.int .i64 (b.length : Int))), .bit false, .wait 1, .mask [0, 1, 5], .ren [], .loop (X.out 0) (st 27 [] [] [])] (p := [V.sc (.int .i64 ((List.map E48 a).length : Int)) = V.sc (.int .i64 (a.length : Int)),
        V.sc (.int .i64 ((List.map E48 b).length : Int)) = V.sc (.int .i64 (b.length : Int)),
        ((a.length : Int) != (b.length : Int)) = false,
        Loop Tryd.prog (sub (codeOf Tryd.prog 119) [1, 1, 0, 1, 0, 0]) (st 27 [(0, V.sl false 48 (List.map E48 a)), (1, V.sl false 48 (List.map E48 b)), (5, V.sc (.int .i64 0))] [] []) (X.out 0) (st 27 [] [] [])]) (by kernel_rfl) (cj (len_nm _ _) (cj (len_nm _ _) (cj h1 (cj1 ((laws_eqAcctS_l0_ok a b h7 a [] rfl r2 h8).at h9))))))) (fun s2 h10 =>
       Pn.some (Fn.of [.wait 3, .nm 7 (V.sc (.int .i64 (a.length : Int))), .wait 2, .nm 9 (V.sc (.int .i64 (b.length : Int))), .bit false, .wait 1, .mask [0, 1, 5], .ren [], .loop (X.ret) (st 27 [(4, V.sc (.bool false))] [] [])] (p := [V.sc (.int .i64 ((List.map E48 a).length : Int)) = V.sc (.int .i64 (a.length : Int)),
        V.sc (.int .i64 ((List.map E48 b).length : Int)) = V.sc (.int .i64 (b.length : Int)),
        ((a.length : Int) != (b.length : Int)) = false,
        Loop Tryd.prog (sub (codeOf Tryd.prog 119) [1, 1, 0, 1, 0, 0]) (st 27 [(0, V.sl false 48 (List.map E48 a)), (1, V.sl false 48 (List.map E48 b)), (5, V.sc (.int .i64 0))] [] []) (X.ret) (st 27 [(4, V.sc (.bool false))] [] [])]) (by kernel_rfl) (cj (len_nm _ _) (cj (len_nm _ _) (cj h1 (cj1 ((laws_eqAcctS_l0_ok a b h7 a [] rfl r2 h8).at h10))))))))) (fun h7 =>
     Pn.none))
def laws_eqStripe (a : Stripe) (b : Stripe) : Option (Bool) :=
 if (a.Owner != b.Owner) = true then
  some false
 else
  (laws_eqAcctS a.Accts b.Accts).bind fun r1 =>
  if r1 = true then
   some true
  else
   some false
theorem laws_eqStripe_ok (a : Stripe) (b : Stripe) : Pn (fun y => Fn Tryd.prog 70 [(false, E64 a), (false, E64 b)] (E4 y) []) (laws_eqStripe a b) := by
  unfold laws_eqStripe
  exact
   Pn.ite (fun h1 =>
    Pn.some (Fn.of [.bit true] (p := [(a.Owner != b.Owner) = true]) (by kernel_rfl) (cj1 h1))) (fun h1 =>
    Pn.bind (fun r1 h2 =>
     Pn.ite (fun h3 =>
      Pn.some (Fn.of [.bit false, .call [] (E4 r1) [], .bit false] (p := [(a.Owner != b.Owner) = false,
       Fn Tryd.prog 119 [(false, E62 a.Accts), (false, E62 b.Accts)] (E4 r1) [],
       (true || ((E4 r1).nv && nvL [])) = true,
       (!r1) = false]) (by kernel_rfl) (cj h1 (cj (laws_eqAcctS_ok a.Accts b.Accts r1 h2) (cj rfl (cj1 (nf h3))))))) (fun h3 =>
      Pn.some (Fn.of [.bit false, .call [] (E4 r1) [], .bit true] (p := [(a.Owner != b.Owner) = false,
       Fn Tryd.prog 119 [(false, E62 a.Accts), (false, E62 b.Accts)] (E4 r1) [],
       (true || ((E4 r1).nv && nvL [])) = true,
       (!r1) = true]) (by kernel_rfl) (cj h1 (cj (laws_eqAcctS_ok a.Accts b.Accts r1 h2) (cj rfl (cj1 (nt h3)))))))))
def laws_eqStripeS_l0 (a : List Stripe) (b : List Stripe) : List Stripe → List Stripe → Option (Lo Unit Unit)
  | [], p1 =>
   some (.out ())
  | x1 :: t1, p1 =>
   (b[(p1.length : Int).toNat]?).bind fun x2 =>
   (laws_eqStripe x1 x2).bind fun r1 =>
   if r1 = true then
    laws_eqStripeS_l0 a b t1 (p1 ++ [x1])
   else
    some (.ret ())
theorem laws_eqStripeS_l0_ok (a : List Stripe) (b : List Stripe) (h3 : capOk a.length = true) : ∀ (t1 p1 : List Stripe) (_ : a = p1 ++ t1) , Pn (LpO Tryd.prog (sub (codeOf Tryd.prog 28) [1, 1, 0, 1, 0, 0]) (st 27 [(0, V.sl false 64 (List.map E64 a)), (1, V.sl false 64 (List.map E64 b)), (5, V.sc (.int .i64 (p1.length : Int)))] [] []) (fun (y : Lo Unit Unit) => Lo.elim y (fun s => (X.out 0, st 27 [] [] [])) (fun s => (X.ret, st 27 [(4, V.sc (.bool false))] [] [])))) (laws_eqStripeS_l0 a b t1 p1)
  | [], p1, h2 => by
    unfold laws_eqStripeS_l0
    exact
     Pn.some (LpO.out [.wait 3, .nm 13 (V.sc (.int .i64 (a.length : Int))), .bit false, .mask [], .ren []] (p := [V.sc (.int .i64 ((List.map E64 a).length : Int)) = V.sc (.int .i64 (a.length : Int)),
      (decide ((p1.length : Int) < (a.length : Int))) = false]) (by kernel_rfl) (show X.out 0 ≠ X.go from nofun) (cj (len_nm _ _) (cj1 (rng_end h2))))
  | x1 :: t1, p1, h2 => by
    unfold laws_eqStripeS_l0
    exact
     Pn.bind (fun x2 h4 =>
      Pn.bind (fun r1 h5 =>
       Pn.ite (fun h6 =>
        LpO.go [.wait 3, .nm 13 (V.sc (.int .i64 (a.length : Int))), .bit true, .draw [], .el (E64 x1), .el (E64 x2), .call [] (E4 r1) [], .bit false, .wait 3, .mask [0, 1, 5], .ren [], .nm 5 (V.sc (.int .i64 ((p1 ++ [x1]).length : Int)))] (p := [V.sc (.int .i64 ((List.map E64 a).length : Int)) = V.sc (.int .i64 (a.length : Int)),
         (decide ((p1.length : Int) < (a.length : Int))) = true,
         (0 : Int) ≤ (p1.length : Int),
         (List.map E64 a)[(p1.length : Int).toNat]? = some (E64 x1),
         (0 : Int) ≤ (p1.length : Int),
         (List.map E64 b)[(p1.length : Int).toNat]? = some (E64 x2),
         Fn Tryd.prog 70 [(false, E64 x1), (false, E64 x2)] (E4 r1) [],
         (true || ((E4 r1).nv && nvL [])) = true,
         (!r1) = false,
         V.sc (.int .i64 (i64 ((p1.length : Int) + 1))) = V.sc (.int .i64 ((p1 ++ [x1]).length : Int))]) (by kernel_rfl) (cj (len_nm _ _) (cj (rng_lt h2) (cj (by omega) (cj (rng_get _ h2) (cj (by omega) (cj (map_get h4) (cj (laws_eqStripe_ok x1 x2 r1 h5) (cj rfl (cj (nf h6) (cj1 (rng_next h2 h3))))))))))) (laws_eqStripeS_l0_ok a b h3 t1 (p1 ++ [x1]) (rng_step h2))) (fun h6 =>
        Pn.some (LpO.out [.wait 3, .nm 13 (V.sc (.int .i64 (a.length : Int))), .bit true, .draw [], .el (E64 x1), .el (E64 x2), .call [] (E4 r1) [], .bit true, .wait 1, .mask [4], .ren []] (p := [V.sc (.int .i64 ((List.map E64 a).length : Int)) = V.sc (.int .i64 (a.length : Int)),
         (decide ((p1.length : Int) < (a.length : Int))) = true,
         (0 : Int) ≤ (p1.length : Int),
         (List.map E64 a)[(p1.length : Int).toNat]? = some (E64 x1),
         (0 : Int) ≤ (p1.length : Int),
         (List.map E64 b)[(p1.length : Int).toNat]? = some (E64 x2),
         Fn Tryd.prog 70 [(false, E64 x1), (false, E64 x2)] (E4 r1) [],
         (true || ((E4 r1).nv && nvL [])) = true,
         (!r1) = true]) (by kernel_rfl) (show X.ret ≠ X.go from nofun) (cj (len_nm _ _) (cj (rng_lt h2) (cj (by omega) (cj (rng_get _ h2) (cj (by omega) (cj (map_get h4) (cj (laws_eqStripe_ok x1 x2 r1 h5) (cj rfl (cj1 (nt h6))))))))))))))
def laws_eqStripeS (a : List Stripe) (b : List Stripe) : Option (Bool) :=
 if ((a.length : Int) != (b.length : Int)) = true then
  some false
 else
  if (capOk a.length) = true then
   (laws_eqStripeS_l0 a b a []).bind fun r2 =>
   Lo.elim r2 (fun s1 =>
    some true) (fun s2 =>
    some false)
  else none
theorem laws_eqStripeS_ok (a : List Stripe) (b : List Stripe) : Pn (fun y => Fn Tryd.prog 28 [(false, E28 a), (false, E28 b)] (E4 y) []) (laws_eqStripeS a b) := by
  unfold laws_eqStripeS
  exact
   Pn.ite (fun h1 =>
    Pn.some (Fn.of [.wait 3, .nm 7 (V.sc (.int .i64 (a.length : Int))), .wait 2, .nm 9 (V.sc (.int .i64 (b.length : Int))), .bit true] (p := [V.sc (.int .i64 ((List.map E64 a).length : Int)) = V.sc (.int .i64 (a.length : Int)),
     V.sc (.int .i64 ((List.map E64 b).length : Int)) = V.sc (.int .i64 (b.length : Int)),
     ((a.length : Int) != (b.length : Int)) = true]) (by kernel_rfl) (cj (len_nm _ _) (cj (len_nm _ _) (cj1 h1))))) (fun h1 =>
    Pn.ite (fun h7 =>
     Pn.bind (fun r2 h8 =>
      Pn.lo (fun s1 h9 =>
       Pn.some (Fn.of [.wait 3, .nm 7 (V.sc (.int .i64 (a.length : Int))), .wait 2, .nm 9 (V.sc (.int .i64 (b.length : Int))), .bit false, .wait 1, .mask [0, 1, 5], .ren [], .loop (X.out 0) (st 27 [] [] [])] (p := [V.sc (.int .i64 ((List.map E64 a).length : Int)) = V.sc (.int .i64 (a.length : Int)),
        V.sc (.int .i64 ((List.map E64 b).length : Int)) = V.sc (.int .i64 (b.length : Int)),
        ((a.length : Int) != (b.length : Int)) = false,
        Loop Tryd.prog (sub (codeOf Tryd.prog 28) [1, 1, 0, 1, 0, 0]) (st 27 [(0, V.sl false 64 (List.map E64 a)), (1, V.sl false 64 (List.map E64 b)), (5, V.sc (.int .i64 0))] [] []) (X.out 0) (st 27 [] [] [])]) (by kernel_rfl) (cj (len_nm _ _) (cj (len_nm _ _) (cj h1 (cj1 ((laws_eqStripeS_l0_ok a b h7 a [] rfl r2 h8).at h9))))))) (fun s2 h10 =>
       Pn.some (Fn.of [.wait 3, .nm 7 (V.sc (.int .i64 (a.length : Int))), .wait 2, .nm 9 (V.sc (.int .i64 (b.length : Int))), .bit false, .wait 1, .mask [0, 1, 5], .ren [], .loop (X.ret) (st 27 [(4, V.sc (.bool false))] [] [])] (p := [V.sc (.int .i64 ((List.map E64 a).length : Int)) = V.sc (.int .i64 (a.length : Int)),
        V.sc (.int .i64 ((List.map E64 b).length : Int)) = V.sc (.int .i64 (b.length : Int)),
        ((a.length : Int) != (b.length : Int)) = false,
        Loop Tryd.prog (sub (codeOf Tryd.prog 28) [1, 1, 0, 1, 0, 0]) (st 27 [(0, V.sl false 64 (List.map E64 a)), (1, V.sl false 64 (List.map E64 b)), (5, V.sc (.int .i64 0))] [] []) (X.ret) (st 27 [(4, V.sc (.bool false))] [] [])]) (by kernel_rfl) (cj (len_nm _ _) (cj (len_nm _ _) (cj h1 (cj1 ((laws_eqStripeS_l0_ok a b h7 a [] rfl r2 h8).at h10))))))))) (fun h7 =>
     Pn.none))
def laws_eqTask (a : Task) (b : Task) : Option (Bool) :=
 (laws_eqByteS a.Data b.Data).bind fun r1 =>
 if r1 = true then
  if (a.Pc != b.Pc) = true then
   some false
  else
   (laws_eqIntS a.Set b.Set).bind fun r2 =>
   if r2 = true then
    if (a.Held != b.Held) = true then
     some false
    else
     if (a.Inv != b.Inv) = true then
      some false
     else
      if (a.Lin != b.Lin) = true then
       some false
      else
       if (a.Res != b.Res) = true then
        some false
       else
        if (a.At != b.At) = true then
         some false
        else
         (laws_eqByteS a.Reply b.Reply).bind fun r3 =>
         if r3 = true then
          some true
         else
          some false
   else
    some false
 else
  some false
theorem laws_eqTask_ok (a : Task) (b : Task) : Pn (fun y => Fn Tryd.prog 71 [(false, E106 a), (false, E106 b)] (E4 y) []) (laws_eqTask a b) := by
  unfold laws_eqTask
  exact
   Pn.bind (fun r1 h1 =>
    Pn.ite (fun h2 =>
     Pn.ite (fun h3 =>
      Pn.some (Fn.of [.call [] (E4 r1) [], .bit false, .bit true] (p := [Fn Tryd.prog 57 [(false, E52 a.Data), (false, E52 b.Data)] (E4 r1) [],
       (true || ((E4 r1).nv && nvL [])) = true,
       (!r1) = false,
       (a.Pc != b.Pc) = true]) (by kernel_rfl) (cj (laws_eqByteS_ok a.Data b.Data r1 h1) (cj rfl (cj (nf h2) (cj1 h3)))))) (fun h3 =>
      Pn.bind (fun r2 h4 =>
       Pn.ite (fun h5 =>
        Pn.ite (fun h6 =>
         Pn.some (Fn.of [.call [] (E4 r1) [], .bit false, .bit false, .call [] (E4 r2) [], .bit false, .bit true] (p := [Fn Tryd.prog 57 [(false, E52 a.Data), (false, E52 b.Data)] (E4 r1) [],
          (true || ((E4 r1).nv && nvL [])) = true,
          (!r1) = false,
          (a.Pc != b.Pc) = false,
          Fn Tryd.prog 100 [(false, E36 a.Set), (false, E36 b.Set)] (E4 r2) [],
          (true || ((E4 r2).nv && nvL [])) = true,
          (!r2) = false,
          (a.Held != b.Held) = true]) (by kernel_rfl) (cj (laws_eqByteS_ok a.Data b.Data r1 h1) (cj rfl (cj (nf h2) (cj h3 (cj (laws_eqIntS_ok a.Set b.Set r2 h4) (cj rfl (cj (nf h5) (cj1 h6)))))))))) (fun h6 =>
         Pn.ite (fun h7 =>
          Pn.some (Fn.of [.call [] (E4 r1) [], .bit false, .bit false, .call [] (E4 r2) [], .bit false, .bit false, .bit true] (p := [Fn Tryd.prog 57 [(false, E52 a.Data), (false, E52 b.Data)] (E4 r1) [],
           (true || ((E4 r1).nv && nvL [])) = true,
           (!r1) = false,
           (a.Pc != b.Pc) = false,
           Fn Tryd.prog 100 [(false, E36 a.Set), (false, E36 b.Set)] (E4 r2) [],
           (true || ((E4 r2).nv && nvL [])) = true,
           (!r2) = false,
           (a.Held != b.Held) = false,
           (a.Inv != b.Inv) = true]) (by kernel_rfl) (cj (laws_eqByteS_ok a.Data b.Data r1 h1) (cj rfl (cj (nf h2) (cj h3 (cj (laws_eqIntS_ok a.Set b.Set r2 h4) (cj rfl (cj (nf h5) (cj h6 (cj1 h7))))))))))) (fun h7 =>
          Pn.ite (fun h8 =>
           Pn.some (Fn.of [.call [] (E4 r1) [], .bit false, .bit false, .call [] (E4 r2) [], .bit false, .bit false, .bit false, .bit true] (p := [Fn Tryd.prog 57 [(false, E52 a.Data), (false, E52 b.Data)] (E4 r1) [],
            (true || ((E4 r1).nv && nvL [])) = true,
            (!r1) = false,
            (a.Pc != b.Pc) = false,
            Fn Tryd.prog 100 [(false, E36 a.Set), (false, E36 b.Set)] (E4 r2) [],
            (true || ((E4 r2).nv && nvL [])) = true,
            (!r2) = false,
            (a.Held != b.Held) = false,
            (a.Inv != b.Inv) = false,
            (a.Lin != b.Lin) = true]) (by kernel_rfl) (cj (laws_eqByteS_ok a.Data b.Data r1 h1) (cj rfl (cj (nf h2) (cj h3 (cj (laws_eqIntS_ok a.Set b.Set r2 h4) (cj rfl (cj (nf h5) (cj h6 (cj h7 (cj1 h8)))))))))))) (fun h8 =>
           Pn.ite (fun h9 =>
            Pn.some (Fn.of [.call [] (E4 r1) [], .bit false, .bit false, .call [] (E4 r2) [], .bit false, .bit false, .bit false, .bit false, .bit true] (p := [Fn Tryd.prog 57 [(false, E52 a.Data), (false, E52 b.Data)] (E4 r1) [],
             (true || ((E4 r1).nv && nvL [])) = true,
             (!r1) = false,
             (a.Pc != b.Pc) = false,
             Fn Tryd.prog 100 [(false, E36 a.Set), (false, E36 b.Set)] (E4 r2) [],
             (true || ((E4 r2).nv && nvL [])) = true,
             (!r2) = false,
             (a.Held != b.Held) = false,
             (a.Inv != b.Inv) = false,
             (a.Lin != b.Lin) = false,
             (a.Res != b.Res) = true]) (by kernel_rfl) (cj (laws_eqByteS_ok a.Data b.Data r1 h1) (cj rfl (cj (nf h2) (cj h3 (cj (laws_eqIntS_ok a.Set b.Set r2 h4) (cj rfl (cj (nf h5) (cj h6 (cj h7 (cj h8 (cj1 h9))))))))))))) (fun h9 =>
            Pn.ite (fun h10 =>
             Pn.some (Fn.of [.call [] (E4 r1) [], .bit false, .bit false, .call [] (E4 r2) [], .bit false, .bit false, .bit false, .bit false, .bit false, .bit true] (p := [Fn Tryd.prog 57 [(false, E52 a.Data), (false, E52 b.Data)] (E4 r1) [],
              (true || ((E4 r1).nv && nvL [])) = true,
              (!r1) = false,
              (a.Pc != b.Pc) = false,
              Fn Tryd.prog 100 [(false, E36 a.Set), (false, E36 b.Set)] (E4 r2) [],
              (true || ((E4 r2).nv && nvL [])) = true,
              (!r2) = false,
              (a.Held != b.Held) = false,
              (a.Inv != b.Inv) = false,
              (a.Lin != b.Lin) = false,
              (a.Res != b.Res) = false,
              (a.At != b.At) = true]) (by kernel_rfl) (cj (laws_eqByteS_ok a.Data b.Data r1 h1) (cj rfl (cj (nf h2) (cj h3 (cj (laws_eqIntS_ok a.Set b.Set r2 h4) (cj rfl (cj (nf h5) (cj h6 (cj h7 (cj h8 (cj h9 (cj1 h10)))))))))))))) (fun h10 =>
             Pn.bind (fun r3 h11 =>
              Pn.ite (fun h12 =>
               Pn.some (Fn.of [.call [] (E4 r1) [], .bit false, .bit false, .call [] (E4 r2) [], .bit false, .bit false, .bit false, .bit false, .bit false, .bit false, .call [] (E4 r3) [], .bit false] (p := [Fn Tryd.prog 57 [(false, E52 a.Data), (false, E52 b.Data)] (E4 r1) [],
                (true || ((E4 r1).nv && nvL [])) = true,
                (!r1) = false,
                (a.Pc != b.Pc) = false,
                Fn Tryd.prog 100 [(false, E36 a.Set), (false, E36 b.Set)] (E4 r2) [],
                (true || ((E4 r2).nv && nvL [])) = true,
                (!r2) = false,
                (a.Held != b.Held) = false,
                (a.Inv != b.Inv) = false,
                (a.Lin != b.Lin) = false,
                (a.Res != b.Res) = false,
                (a.At != b.At) = false,
                Fn Tryd.prog 57 [(false, E52 a.Reply), (false, E52 b.Reply)] (E4 r3) [],
                (true || ((E4 r3).nv && nvL [])) = true,
                (!r3) = false]) (by kernel_rfl) (cj (laws_eqByteS_ok a.Data b.Data r1 h1) (cj rfl (cj (nf h2) (cj h3 (cj (laws_eqIntS_ok a.Set b.Set r2 h4) (cj rfl (cj (nf h5) (cj h6 (cj h7 (cj h8 (cj h9 (cj h10 (cj (laws_eqByteS_ok a.Reply b.Reply r3 h11) (cj rfl (cj1 (nf h12)))))))))))))))))) (fun h12 =>
               Pn.some (Fn.of [.call [] (E4 r1) [], .bit false, .bit false, .call [] (E4 r2) [], .bit false, .bit false, .bit false, .bit false, .bit false, .bit false, .call [] (E4 r3) [], .bit true] (p := [Fn Tryd.prog 57 [(false, E52 a.Data), (false, E52 b.Data)] (E4 r1) [],
                (true || ((E4 r1).nv && nvL [])) = true,
                (!r1) = false,
                (a.Pc != b.Pc) = false,
                Fn Tryd.prog 100 [(false, E36 a.Set), (false, E36 b.Set)] (E4 r2) [],
                (true || ((E4 r2).nv && nvL [])) = true,
                (!r2) = false,
                (a.Held != b.Held) = false,
                (a.Inv != b.Inv) = false,
                (a.Lin != b.Lin) = false,
                (a.Res != b.Res) = false,
                (a.At != b.At) = false,
                Fn Tryd.prog 57 [(false, E52 a.Reply), (false, E52 b.Reply)] (E4 r3) [],
                (true || ((E4 r3).nv && nvL [])) = true,
                (!r3) = true]) (by kernel_rfl) (cj (laws_eqByteS_ok a.Data b.Data r1 h1) (cj rfl (cj (nf h2) (cj h3 (cj (laws_eqIntS_ok a.Set b.Set r2 h4) (cj rfl (cj (nf h5) (cj h6 (cj h7 (cj h8 (cj h9 (cj h10 (cj (laws_eqByteS_ok a.Reply b.Reply r3 h11) (cj rfl (cj1 (nt h12))))))))))))))))))))))))) (fun h5 =>
        Pn.some (Fn.of [.call [] (E4 r1) [], .bit false, .bit false, .call [] (E4 r2) [], .bit true] (p := [Fn Tryd.prog 57 [(false, E52 a.Data), (false, E52 b.Data)] (E4 r1) [],
         (true || ((E4 r1).nv && nvL [])) = true,
         (!r1) = false,
         (a.Pc != b.Pc) = false,
         Fn Tryd.prog 100 [(false, E36 a.Set), (false, E36 b.Set)] (E4 r2) [],
         (true || ((E4 r2).nv && nvL [])) = true,
         (!r2) = true]) (by kernel_rfl) (cj (laws_eqByteS_ok a.Data b.Data r1 h1) (cj rfl (cj (nf h2) (cj h3 (cj (laws_eqIntS_ok a.Set b.Set r2 h4) (cj rfl (cj1 (nt h5))))))))))))) (fun h2 =>
     Pn.some (Fn.of [.call [] (E4 r1) [], .bit true] (p := [Fn Tryd.prog 57 [(false, E52 a.Data), (false, E52 b.Data)] (E4 r1) [],
      (true || ((E4 r1).nv && nvL [])) = true,
      (!r1) = true]) (by kernel_rfl) (cj (laws_eqByteS_ok a.Data b.Data r1 h1) (cj rfl (cj1 (nt h2)))))))
def laws_eqTaskS_l0 (a : List Task) (b : List Task) : List Task → List Task → Option (Lo Unit Unit)
  | [], p1 =>
   some (.out ())
  | x1 :: t1, p1 =>
   (b[(p1.length : Int).toNat]?).bind fun x2 =>
   (laws_eqTask x1 x2).bind fun r1 =>
   if r1 = true then
    laws_eqTaskS_l0 a b t1 (p1 ++ [x1])
   else
    some (.ret ())
theorem laws_eqTaskS_l0_ok (a : List Task) (b : List Task) (h3 : capOk a.length = true) : ∀ (t1 p1 : List Task) (_ : a = p1 ++ t1) , Pn (LpO Tryd.prog (sub (codeOf Tryd.prog 29) [1, 1, 0, 1, 0, 0]) (st 27 [(0, V.sl false 106 (List.map E106 a)), (1, V.sl false 106 (List.map E106 b)), (5, V.sc (.int .i64 (p1.length : Int)))] [] []) (fun (y : Lo Unit Unit) => Lo.elim y (fun s => (X.out 0, st 27 [] [] [])) (fun s => (X.ret, st 27 [(4, V.sc (.bool false))] [] [])))) (laws_eqTaskS_l0 a b t1 p1)
  | [], p1, h2 => by
    unfold laws_eqTaskS_l0
    exact
     Pn.some (LpO.out [.wait 3, .nm 13 (V.sc (.int .i64 (a.length : Int))), .bit false, .mask [], .ren []] (p := [V.sc (.int .i64 ((List.map E106 a).length : Int)) = V.sc (.int .i64 (a.length : Int)),
      (decide ((p1.length : Int) < (a.length : Int))) = false]) (by kernel_rfl) (show X.out 0 ≠ X.go from nofun) (cj (len_nm _ _) (cj1 (rng_end h2))))
  | x1 :: t1, p1, h2 => by
    unfold laws_eqTaskS_l0
    exact
     Pn.bind (fun x2 h4 =>
      Pn.bind (fun r1 h5 =>
       Pn.ite (fun h6 =>
        LpO.go [.wait 3, .nm 13 (V.sc (.int .i64 (a.length : Int))), .bit true, .draw [], .el (E106 x1), .el (E106 x2), .call [] (E4 r1) [], .bit false, .wait 3, .mask [0, 1, 5], .ren [], .nm 5 (V.sc (.int .i64 ((p1 ++ [x1]).length : Int)))] (p := [V.sc (.int .i64 ((List.map E106 a).length : Int)) = V.sc (.int .i64 (a.length : Int)),
         (decide ((p1.length : Int) < (a.length : Int))) = true,
         (0 : Int) ≤ (p1.length : Int),
         (List.map E106 a)[(p1.length : Int).toNat]? = some (E106 x1),
         (0 : Int) ≤ (p1.length : Int),
         (List.map E106 b)[(p1.length : Int).toNat]? = some (E106 x2),
         Fn Tryd.prog 71 [(false, E106 x1), (false, E106 x2)] (E4 r1) [],
         (true || ((E4 r1).nv && nvL [])) = true,
         (!r1) = false,
         V.sc (.int .i64 (i64 ((p1.length : Int) + 1))) = V.sc (.int .i64 ((p1 ++ [x1]).length : Int))]) (by kernel_rfl) (cj (len_nm _ _) (cj (rng_lt h2) (cj (by omega) (cj (rng_get _ h2) (cj (by omega) (cj (map_get h4) (cj (laws_eqTask_ok x1 x2 r1 h5) (cj rfl (cj (nf h6) (cj1 (rng_next h2 h3))))))))))) (laws_eqTaskS_l0_ok a b h3 t1 (p1 ++ [x1]) (rng_step h2))) (fun h6 =>
        Pn.some (LpO.out [.wait 3, .nm 13 (V.sc (.int .i64 (a.length : Int))), .bit true, .draw [], .el (E106 x1), .el (E106 x2), .call [] (E4 r1) [], .bit true, .wait 1, .mask [4], .ren []] (p := [V.sc (.int .i64 ((List.map E106 a).length : Int)) = V.sc (.int .i64 (a.length : Int)),
         (decide ((p1.length : Int) < (a.length : Int))) = true,
         (0 : Int) ≤ (p1.length : Int),
         (List.map E106 a)[(p1.length : Int).toNat]? = some (E106 x1),
         (0 : Int) ≤ (p1.length : Int),
         (List.map E106 b)[(p1.length : Int).toNat]? = some (E106 x2),
         Fn Tryd.prog 71 [(false, E106 x1), (false, E106 x2)] (E4 r1) [],
         (true || ((E4 r1).nv && nvL [])) = true,
         (!r1) = true]) (by kernel_rfl) (show X.ret ≠ X.go from nofun) (cj (len_nm _ _) (cj (rng_lt h2) (cj (by omega) (cj (rng_get _ h2) (cj (by omega) (cj (map_get h4) (cj (laws_eqTask_ok x1 x2 r1 h5) (cj rfl (cj1 (nt h6))))))))))))))
def laws_eqTaskS (a : List Task) (b : List Task) : Option (Bool) :=
 if ((a.length : Int) != (b.length : Int)) = true then
  some false
 else
  if (capOk a.length) = true then
   (laws_eqTaskS_l0 a b a []).bind fun r2 =>
   Lo.elim r2 (fun s1 =>
    some true) (fun s2 =>
    some false)
  else none
theorem laws_eqTaskS_ok (a : List Task) (b : List Task) : Pn (fun y => Fn Tryd.prog 29 [(false, E29 a), (false, E29 b)] (E4 y) []) (laws_eqTaskS a b) := by
  unfold laws_eqTaskS
  exact
   Pn.ite (fun h1 =>
    Pn.some (Fn.of [.wait 3, .nm 7 (V.sc (.int .i64 (a.length : Int))), .wait 2, .nm 9 (V.sc (.int .i64 (b.length : Int))), .bit true] (p := [V.sc (.int .i64 ((List.map E106 a).length : Int)) = V.sc (.int .i64 (a.length : Int)),
     V.sc (.int .i64 ((List.map E106 b).length : Int)) = V.sc (.int .i64 (b.length : Int)),
     ((a.length : Int) != (b.length : Int)) = true]) (by kernel_rfl) (cj (len_nm _ _) (cj (len_nm _ _) (cj1 h1))))) (fun h1 =>
    Pn.ite (fun h7 =>
     Pn.bind (fun r2 h8 =>
      Pn.lo (fun s1 h9 =>
       Pn.some (Fn.of [.wait 3, .nm 7 (V.sc (.int .i64 (a.length : Int))), .wait 2, .nm 9 (V.sc (.int .i64 (b.length : Int))), .bit false, .wait 1, .mask [0, 1, 5], .ren [], .loop (X.out 0) (st 27 [] [] [])] (p := [V.sc (.int .i64 ((List.map E106 a).length : Int)) = V.sc (.int .i64 (a.length : Int)),
        V.sc (.int .i64 ((List.map E106 b).length : Int)) = V.sc (.int .i64 (b.length : Int)),
        ((a.length : Int) != (b.length : Int)) = false,
        Loop Tryd.prog (sub (codeOf Tryd.prog 29) [1, 1, 0, 1, 0, 0]) (st 27 [(0, V.sl false 106 (List.map E106 a)), (1, V.sl false 106 (List.map E106 b)), (5, V.sc (.int .i64 0))] [] []) (X.out 0) (st 27 [] [] [])]) (by kernel_rfl) (cj (len_nm _ _) (cj (len_nm _ _) (cj h1 (cj1 ((laws_eqTaskS_l0_ok a b h7 a [] rfl r2 h8).at h9))))))) (fun s2 h10 =>
       Pn.some (Fn.of [.wait 3, .nm 7 (V.sc (.int .i64 (a.length : Int))), .wait 2, .nm 9 (V.sc (.int .i64 (b.length : Int))), .bit false, .wait 1, .mask [0, 1, 5], .ren [], .loop (X.ret) (st 27 [(4, V.sc (.bool false))] [] [])] (p := [V.sc (.int .i64 ((List.map E106 a).length : Int)) = V.sc (.int .i64 (a.length : Int)),
        V.sc (.int .i64 ((List.map E106 b).length : Int)) = V.sc (.int .i64 (b.length : Int)),
        ((a.length : Int) != (b.length : Int)) = false,
        Loop Tryd.prog (sub (codeOf Tryd.prog 29) [1, 1, 0, 1, 0, 0]) (st 27 [(0, V.sl false 106 (List.map E106 a)), (1, V.sl false 106 (List.map E106 b)), (5, V.sc (.int .i64 0))] [] []) (X.ret) (st 27 [(4, V.sc (.bool false))] [] [])]) (by kernel_rfl) (cj (len_nm _ _) (cj (len_nm _ _) (cj h1 (cj1 ((laws_eqTaskS_l0_ok a b h7 a [] rfl r2 h8).at h10))))))))) (fun h7 =>
     Pn.none))
def laws_eqWorld (a : World) (b : World) : Option (Bool) :=
 (laws_eqStripeS a.Stripes b.Stripes).bind fun r1 =>
 if r1 = true then
  if (a.Now != b.Now) = true then
   some false
  else
   if (a.Step != b.Step) = true then
    some false
   else
    (laws_eqTaskS a.Tasks b.Tasks).bind fun r2 =>
    if r2 = true then
     some true
    else
     some false
 else
  some false
theorem laws_eqWorld_ok (a : World) (b : World) : Pn (fun y => Fn Tryd.prog 10 [(false, E31 a), (false, E31 b)] (E4 y) []) (laws_eqWorld a b) := by
  unfold laws_eqWorld
  exact
   Pn.bind (fun r1 h1 =>
    Pn.ite (fun h2 =>
     Pn.ite (fun h3 =>
      Pn.some (Fn.of [.call [] (E4 r1) [], .bit false, .bit true] (p := [Fn Tryd.prog 28 [(false, E28 a.Stripes), (false, E28 b.Stripes)] (E4 r1) [],
       (true || ((E4 r1).nv && nvL [])) = true,
       (!r1) = false,
       (a.Now != b.Now) = true]) (by kernel_rfl) (cj (laws_eqStripeS_ok a.Stripes b.Stripes r1 h1) (cj rfl (cj (nf h2) (cj1 h3)))))) (fun h3 =>
      Pn.ite (fun h4 =>
       Pn.some (Fn.of [.call [] (E4 r1) [], .bit false, .bit false, .bit true] (p := [Fn Tryd.prog 28 [(false, E28 a.Stripes), (false, E28 b.Stripes)] (E4 r1) [],
        (true || ((E4 r1).nv && nvL [])) = true,
        (!r1) = false,
        (a.Now != b.Now) = false,
        (a.Step != b.Step) = true]) (by kernel_rfl) (cj (laws_eqStripeS_ok a.Stripes b.Stripes r1 h1) (cj rfl (cj (nf h2) (cj h3 (cj1 h4))))))) (fun h4 =>
       Pn.bind (fun r2 h5 =>
        Pn.ite (fun h6 =>
         Pn.some (Fn.of [.call [] (E4 r1) [], .bit false, .bit false, .bit false, .call [] (E4 r2) [], .bit false] (p := [Fn Tryd.prog 28 [(false, E28 a.Stripes), (false, E28 b.Stripes)] (E4 r1) [],
          (true || ((E4 r1).nv && nvL [])) = true,
          (!r1) = false,
          (a.Now != b.Now) = false,
          (a.Step != b.Step) = false,
          Fn Tryd.prog 29 [(false, E29 a.Tasks), (false, E29 b.Tasks)] (E4 r2) [],
          (true || ((E4 r2).nv && nvL [])) = true,
          (!r2) = false]) (by kernel_rfl) (cj (laws_eqStripeS_ok a.Stripes b.Stripes r1 h1) (cj rfl (cj (nf h2) (cj h3 (cj h4 (cj (laws_eqTaskS_ok a.Tasks b.Tasks r2 h5) (cj rfl (cj1 (nf h6))))))))))) (fun h6 =>
         Pn.some (Fn.of [.call [] (E4 r1) [], .bit false, .bit false, .bit false, .call [] (E4 r2) [], .bit true] (p := [Fn Tryd.prog 28 [(false, E28 a.Stripes), (false, E28 b.Stripes)] (E4 r1) [],
          (true || ((E4 r1).nv && nvL [])) = true,
          (!r1) = false,
          (a.Now != b.Now) = false,
          (a.Step != b.Step) = false,
          Fn Tryd.prog 29 [(false, E29 a.Tasks), (false, E29 b.Tasks)] (E4 r2) [],
          (true || ((E4 r2).nv && nvL [])) = true,
          (!r2) = true]) (by kernel_rfl) (cj (laws_eqStripeS_ok a.Stripes b.Stripes r1 h1) (cj rfl (cj (nf h2) (cj h3 (cj h4 (cj (laws_eqTaskS_ok a.Tasks b.Tasks r2 h5) (cj rfl (cj1 (nt h6))))))))))))))) (fun h2 =>
     Pn.some (Fn.of [.call [] (E4 r1) [], .bit true] (p := [Fn Tryd.prog 28 [(false, E28 a.Stripes), (false, E28 b.Stripes)] (E4 r1) [],
      (true || ((E4 r1).nv && nvL [])) = true,
      (!r1) = true]) (by kernel_rfl) (cj (laws_eqStripeS_ok a.Stripes b.Stripes r1 h1) (cj rfl (cj1 (nt h2)))))))
def laws_FnExactLocksShow (aW : World) : Option (Bool) :=
 (laws_szWorld aW 1048576).bind fun r1 =>
 if (decide (r1 < 0)) = true then
  some true
 else
  (laws_toWorld aW).bind fun r2 =>
  (spec_LocksShow r2).bind fun r3 =>
  (laws_toWorld aW).bind fun r4 =>
  (impl_LocksShow r4).bind fun r5 =>
  if (r5 == r3) = true then
   (laws_toWorld aW).bind fun r6 =>
   (laws_eqWorld r4 r6).bind fun r7 =>
   if r7 = true then
    some true
   else
    some false
  else
   some false
theorem laws_FnExactLocksShow_ok (aW : World) : Pn (fun y => Fn Tryd.prog 3 [(false, E25 aW)] (E4 y) []) (laws_FnExactLocksShow aW) := by
  unfold laws_FnExactLocksShow
  exact
   Pn.bind (fun r1 h1 =>
    Pn.ite (fun h2 =>
     Pn.some (Fn.of [.call [] (E3 r1) [], .bit true] (p := [Fn Tryd.prog 6 [(false, E25 aW), (false, E3 1048576)] (E3 r1) [],
      (true || ((E3 r1).nv && nvL [])) = true,
      (decide (r1 < 0)) = true]) (by kernel_rfl) (cj (laws_szWorld_ok aW 1048576 r1 h1) (cj rfl (cj1 h2))))) (fun h2 =>
     Pn.bind (fun r2 h3 =>
      Pn.bind (fun r3 h4 =>
       Pn.bind (fun r4 h5 =>
        Pn.bind (fun r5 h6 =>
         Pn.ite (fun h7 =>
          Pn.bind (fun r6 h8 =>
           Pn.bind (fun r7 h9 =>
            Pn.ite (fun h10 =>
             Pn.some (Fn.of [.call [] (E3 r1) [], .bit false, .call [] (E31 r2) [], .call [] (E9 r3) [], .call [] (E31 r4) [], .call [] (E9 r5) [], .bit false, .draw [], .call [] (E31 r6) [], .call [] (E4 r7) [], .bit false] (p := [Fn Tryd.prog 6 [(false, E25 aW), (false, E3 1048576)] (E3 r1) [],
              (true || ((E3 r1).nv && nvL [])) = true,
              (decide (r1 < 0)) = false,
              Fn Tryd.prog 8 [(false, E25 aW)] (E31 r2) [],
              (true || ((E31 r2).nv && nvL [])) = true,
              Fn Tryd.prog 7 [(false, E31 r2)] (E9 r3) [],
              (false || ((E9 r3).nv && nvL [])) = true,
              Fn Tryd.prog 8 [(false, E25 aW)] (E31 r4) [],
              (true || ((E31 r4).nv && nvL [])) = true,
              Fn Tryd.prog 9 [(false, E31 r4)] (E9 r5) [],
              (false || ((E9 r5).nv && nvL [])) = true,
              (!(r5 == r3)) = false,
              Fn Tryd.prog 8 [(false, E25 aW)] (E31 r6) [],
              (true || ((E31 r6).nv && nvL [])) = true,
              Fn Tryd.prog 10 [(false, E31 r4), (false, E31 r6)] (E4 r7) [],
              (false || ((E4 r7).nv && nvL [])) = true,
              (!r7) = false]) (by kernel_rfl) (cj (laws_szWorld_ok aW 1048576 r1 h1) (cj rfl (cj h2 (cj (laws_toWorld_ok aW r2 h3) (cj rfl (cj (spec_LocksShow_ok r2 r3 h4) (cj (by simp [V.nv, nvL, nvL_all, nv_E9]) (cj (laws_toWorld_ok aW r4 h5) (cj rfl (cj (impl_LocksShow_ok r4 r5 h6) (cj (by simp [V.nv, nvL, nvL_all, nv_E9]) (cj (nf h7) (cj (laws_toWorld_ok aW r6 h8) (cj rfl (cj (laws_eqWorld_ok r4 r6 r7 h9) (cj (by simp [V.nv, nvL, nvL_all, nv_E4]) (cj1 (nf h10)))))))))))))))))))) (fun h10 =>
             Pn.some (Fn.of [.call [] (E3 r1) [], .bit false, .call [] (E31 r2) [], .call [] (E9 r3) [], .call [] (E31 r4) [], .call [] (E9 r5) [], .bit false, .draw [], .call [] (E31 r6) [], .call [] (E4 r7) [], .bit true] (p := [Fn Tryd.prog 6 [(false, E25 aW), (false, E3 1048576)] (E3 r1) [],
              (true || ((E3 r1).nv && nvL [])) = true,
              (decide (r1 < 0)) = false,
              Fn Tryd.prog 8 [(false, E25 aW)] (E31 r2) [],
              (true || ((E31 r2).nv && nvL [])) = true,
              Fn Tryd.prog 7 [(false, E31 r2)] (E9 r3) [],
              (false || ((E9 r3).nv && nvL [])) = true,
              Fn Tryd.prog 8 [(false, E25 aW)] (E31 r4) [],
              (true || ((E31 r4).nv && nvL [])) = true,
              Fn Tryd.prog 9 [(false, E31 r4)] (E9 r5) [],
              (false || ((E9 r5).nv && nvL [])) = true,
              (!(r5 == r3)) = false,
              Fn Tryd.prog 8 [(false, E25 aW)] (E31 r6) [],
              (true || ((E31 r6).nv && nvL [])) = true,
              Fn Tryd.prog 10 [(false, E31 r4), (false, E31 r6)] (E4 r7) [],
              (false || ((E4 r7).nv && nvL [])) = true,
              (!r7) = true]) (by kernel_rfl) (cj (laws_szWorld_ok aW 1048576 r1 h1) (cj rfl (cj h2 (cj (laws_toWorld_ok aW r2 h3) (cj rfl (cj (spec_LocksShow_ok r2 r3 h4) (cj (by simp [V.nv, nvL, nvL_all, nv_E9]) (cj (laws_toWorld_ok aW r4 h5) (cj rfl (cj (impl_LocksShow_ok r4 r5 h6) (cj (by simp [V.nv, nvL, nvL_all, nv_E9]) (cj (nf h7) (cj (laws_toWorld_ok aW r6 h8) (cj rfl (cj (laws_eqWorld_ok r4 r6 r7 h9) (cj (by simp [V.nv, nvL, nvL_all, nv_E4]) (cj1 (nt h10))))))))))))))))))))))) (fun h7 =>
          Pn.some (Fn.of [.call [] (E3 r1) [], .bit false, .call [] (E31 r2) [], .call [] (E9 r3) [], .call [] (E31 r4) [], .call [] (E9 r5) [], .bit true] (p := [Fn Tryd.prog 6 [(false, E25 aW), (false, E3 1048576)] (E3 r1) [],
           (true || ((E3 r1).nv && nvL [])) = true,
           (decide (r1 < 0)) = false,
           Fn Tryd.prog 8 [(false, E25 aW)] (E31 r2) [],
           (true || ((E31 r2).nv && nvL [])) = true,
           Fn Tryd.prog 7 [(false, E31 r2)] (E9 r3) [],
           (false || ((E9 r3).nv && nvL [])) = true,
           Fn Tryd.prog 8 [(false, E25 aW)] (E31 r4) [],
           (true || ((E31 r4).nv && nvL [])) = true,
           Fn Tryd.prog 9 [(false, E31 r4)] (E9 r5) [],
           (false || ((E9 r5).nv && nvL [])) = true,
           (!(r5 == r3)) = true]) (by kernel_rfl) (cj (laws_szWorld_ok aW 1048576 r1 h1) (cj rfl (cj h2 (cj (laws_toWorld_ok aW r2 h3) (cj rfl (cj (spec_LocksShow_ok r2 r3 h4) (cj (by simp [V.nv, nvL, nvL_all, nv_E9]) (cj (laws_toWorld_ok aW r4 h5) (cj rfl (cj (impl_LocksShow_ok r4 r5 h6) (cj (by simp [V.nv, nvL, nvL_all, nv_E9]) (cj1 (nt h7)))))))))))))))))))))
end Go.Proofs.YtaaiikopnadkeaaDoorM
